/- A part of the proofs over this seat (own work; the framework that reads a Go function as a pure one, or a use of it). No condition of its own. -/
import Derived.Test.YtckdjafnemoloaaPHH
import Derived.Test.YtckdjafnemoloaaProg
import Derived.KernelRfl
set_option linter.unusedVariables false
set_option linter.unusedSimpArgs false
set_option maxRecDepth 100000
namespace Go.PG
open Go.Proofs
def TT : Tab := [
  (3, ⟨.int .i64, 1, 8, some (.int .i64)⟩),
  (4, ⟨.bool, 1, 1, some .bool⟩),
  (23, ⟨.struct #[{ name := "Slots", type := 3, offset := 0, embedded := false, tag := "", pkgPath := "", byteOffset := 0 }, { name := "Commit", type := 3, offset := 1, embedded := false, tag := "", pkgPath := "", byteOffset := 8 }, { name := "Reveal", type := 3, offset := 2, embedded := false, tag := "", pkgPath := "", byteOffset := 16 }, { name := "Attempts", type := 3, offset := 3, embedded := false, tag := "", pkgPath := "", byteOffset := 24 }, { name := "Most", type := 3, offset := 4, embedded := false, tag := "", pkgPath := "", byteOffset := 32 }], 5, 40, some (.pair (.int .i64) (.pair (.int .i64) (.pair (.int .i64) (.pair (.int .i64) (.pair (.int .i64) .unit)))))⟩),
  (30, ⟨.array 4 3, 4, 32, some (.arr 4 (.int .i64))⟩)]
def EQT : List Nat := []
theorem ty3 : TyOK Try.prog TT 3 ⟨.int .i64, 1, 8, some (.int .i64)⟩ := tyOK_of Try.underlying3 (by kernel_rfl)
theorem ty4 : TyOK Try.prog TT 4 ⟨.bool, 1, 1, some .bool⟩ := tyOK_of Try.underlying4 (by kernel_rfl)
theorem ty23 : TyOK Try.prog TT 23 ⟨.struct #[{ name := "Slots", type := 3, offset := 0, embedded := false, tag := "", pkgPath := "", byteOffset := 0 }, { name := "Commit", type := 3, offset := 1, embedded := false, tag := "", pkgPath := "", byteOffset := 8 }, { name := "Reveal", type := 3, offset := 2, embedded := false, tag := "", pkgPath := "", byteOffset := 16 }, { name := "Attempts", type := 3, offset := 3, embedded := false, tag := "", pkgPath := "", byteOffset := 24 }, { name := "Most", type := 3, offset := 4, embedded := false, tag := "", pkgPath := "", byteOffset := 32 }], 5, 40, some (.pair (.int .i64) (.pair (.int .i64) (.pair (.int .i64) (.pair (.int .i64) (.pair (.int .i64) .unit)))))⟩ := tyOK_of Try.underlying23 (by kernel_rfl)
theorem ty30 : TyOK Try.prog TT 30 ⟨.array 4 3, 4, 32, some (.arr 4 (.int .i64))⟩ := tyOK_of Try.underlying30 (by kernel_rfl)
theorem tabOK : TabOK Try.prog TT := tabOK_of (allM_cons ty3 (allM_cons ty4 (allM_cons ty23 (allM_cons ty30 allM_nil))))
theorem mixed : Try.prog.follows .mixedOrders = true := by kernel_rfl
theorem eqOK : ∀ t ∈ EQT, ∀ k, tkd TT t = some k → EqOK Try.prog t k := fun t h => by cases h
/-! drawlot/window.among -/
abbrev FT69 : Type 1 := (R : Type) → Int → Int → Int → (Bool → Option R) → Option R
def en69 (F : FT69) : Ent := ⟨69, [(false, (.int .i64)), (false, (.int .i64)), (false, (.int .i64))], [(false, .bool)], fun R x k => F R x.1 x.2.1 x.2.2.1 (fun y1 => k (y1, ()) ())⟩
def res69 : List (ResultVar × TypeId × Bool) := [(.tmp 6, 4, false)]
def e69 (R : Type) : Env R := ⟨TT, EQT, 0, 15, ownOf [], callOf [] R, loopOf [] R⟩
def p69 : FT69 := fun R a0 a1 a2 k =>
let v1 : Bool := (decide (a0 ≥ a1));
(match v1 with
| true => let v2 : Bool := (decide (a0 ≤ a2));
k v2
| false => k false)
theorem q69 (F : FT69) (R : Type) (x : AT (en69 F).ins) (k : RT (en69 F).outs → PT (en69 F).ins → Option R) :
  xfun (e69 R) (codeOf Try.f69) res69 (avs (en69 F).ins x) (finK (en69 F).outs (en69 F).ins k) = p69 R x.1 x.2.1 x.2.2.1 (fun y1 => k (y1, ()) ()) := by kernel_rfl
def F69 : FT69 := p69
theorem env69 (R : Type) : EnvOK Try.prog (e69 R) := ⟨tabOK, eqOK, callOf_ok allE_nil⟩
theorem ok69 : (en69 F69).OK Try.prog :=
  ent_ok (Ef := fun R => e69 R) (fun R => env69 R) mixed Try.func69 (body := codeOf Try.f69) (by kernel_rfl) (by kernel_rfl) (np := 0) (nt := 15) (fun _ => rfl) (fun _ => rfl) (by kernel_rfl) (res := res69) (by kernel_rfl) (fun _ => rfl) (fun _ => Nat.le_of_ble_eq_true rfl) (by
    intro R
    rw [show loopsOf (codeOf Try.f69) = [] from by kernel_rfl]
    exact allM_nil) (fun R x k => q69 F69 R x k)
/-! drawlot/window.Right -/
abbrev FT24 : Type 1 := (R : Type) → (Int × (Int × (Int × (Int × (Int × Unit))))) → (Bool → Option R) → Option R
def en24 (F : FT24) : Ent := ⟨24, [(false, (.pair (.int .i64) (.pair (.int .i64) (.pair (.int .i64) (.pair (.int .i64) (.pair (.int .i64) .unit))))))], [(false, .bool)], fun R x k => F R x.1 (fun y1 => k (y1, ()) ())⟩
def res24 : List (ResultVar × TypeId × Bool) := [(.tmp 2, 4, false)]
def e24 (F69 : FT69) (R : Type) : Env R := ⟨TT, EQT, 0, 33, ownOf [], callOf [en69 F69] R, loopOf [] R⟩
def p24 (F69 : FT69) : FT24 := fun R a0 k =>
F69 R a0.1 (1 : Int) (1024 : Int) fun y1 =>
(match y1 with
| true => F69 R a0.2.1 (0 : Int) a0.1 fun y2 =>
(match y2 with
| true => let v3 : Int := (IntKind.i64.wrap (a0.1 - a0.2.1));
F69 R a0.2.2.1 (0 : Int) v3 fun y4 =>
(match y4 with
| true => F69 R a0.2.2.2.1 (1 : Int) (64 : Int) fun y5 =>
(match y5 with
| true => F69 R a0.2.2.2.2.1 (1 : Int) (1048576 : Int) fun y6 =>
k y6
| false => k false)
| false => k false)
| false => k false)
| false => k false)
theorem q24 (F69 : FT69) (F : FT24) (R : Type) (x : AT (en24 F).ins) (k : RT (en24 F).outs → PT (en24 F).ins → Option R) :
  xfun (e24 F69 R) (codeOf Try.f24) res24 (avs (en24 F).ins x) (finK (en24 F).outs (en24 F).ins k) = p24 F69 R x.1 (fun y1 => k (y1, ()) ()) := by kernel_rfl
def F24 : FT24 := p24 F69
theorem env24 (R : Type) : EnvOK Try.prog (e24 F69 R) := ⟨tabOK, eqOK, callOf_ok (allE_cons ok69 allE_nil)⟩
theorem ok24 : (en24 F24).OK Try.prog :=
  ent_ok (Ef := fun R => e24 F69 R) (fun R => env24 R) mixed Try.func24 (body := codeOf Try.f24) (by kernel_rfl) (by kernel_rfl) (np := 0) (nt := 33) (fun _ => rfl) (fun _ => rfl) (by kernel_rfl) (res := res24) (by kernel_rfl) (fun _ => rfl) (fun _ => Nat.le_of_ble_eq_true rfl) (by
    intro R
    rw [show loopsOf (codeOf Try.f24) = [] from by kernel_rfl]
    exact allM_nil) (fun R x k => q24 F69 F24 R x k)
/-! drawlot/window.there -/
abbrev FT68 : Type 1 := (R : Type) → (Int × (Int × (Int × (Int × (Int × Unit))))) → Int → (Bool → Option R) → Option R
def en68 (F : FT68) : Ent := ⟨68, [(false, (.pair (.int .i64) (.pair (.int .i64) (.pair (.int .i64) (.pair (.int .i64) (.pair (.int .i64) .unit)))))), (false, (.int .i64))], [(false, .bool)], fun R x k => F R x.1 x.2.1 (fun y1 => k (y1, ()) ())⟩
def res68 : List (ResultVar × TypeId × Bool) := [(.tmp 4, 4, false)]
def e68 (F24 : FT24) (R : Type) : Env R := ⟨TT, EQT, 0, 17, ownOf [], callOf [en24 F24] R, loopOf [] R⟩
def p68 (F24 : FT24) : FT68 := fun R a0 a1 k =>
F24 R a0 fun y1 =>
(match y1 with
| true => let v2 : Bool := (decide (a1 ≥ (0 : Int)));
(match v2 with
| true => let v3 : Bool := (decide (a1 < a0.1));
k v3
| false => k false)
| false => k false)
theorem q68 (F24 : FT24) (F : FT68) (R : Type) (x : AT (en68 F).ins) (k : RT (en68 F).outs → PT (en68 F).ins → Option R) :
  xfun (e68 F24 R) (codeOf Try.f68) res68 (avs (en68 F).ins x) (finK (en68 F).outs (en68 F).ins k) = p68 F24 R x.1 x.2.1 (fun y1 => k (y1, ()) ()) := by kernel_rfl
def F68 : FT68 := p68 F24
theorem env68 (R : Type) : EnvOK Try.prog (e68 F24 R) := ⟨tabOK, eqOK, callOf_ok (allE_cons ok24 allE_nil)⟩
theorem ok68 : (en68 F68).OK Try.prog :=
  ent_ok (Ef := fun R => e68 F24 R) (fun R => env68 R) mixed Try.func68 (body := codeOf Try.f68) (by kernel_rfl) (by kernel_rfl) (np := 0) (nt := 17) (fun _ => rfl) (fun _ => rfl) (by kernel_rfl) (res := res68) (by kernel_rfl) (fun _ => rfl) (fun _ => Nat.le_of_ble_eq_true rfl) (by
    intro R
    rw [show loopsOf (codeOf Try.f68) = [] from by kernel_rfl]
    exact allM_nil) (fun R x k => q68 F24 F68 R x k)
/-! drawlot/window.Next -/
abbrev FT22 : Type 1 := (R : Type) → (Int × (Int × (Int × (Int × (Int × Unit))))) → Int → (Int → Bool → Option R) → Option R
def en22 (F : FT22) : Ent := ⟨22, [(false, (.pair (.int .i64) (.pair (.int .i64) (.pair (.int .i64) (.pair (.int .i64) (.pair (.int .i64) .unit)))))), (false, (.int .i64))], [(false, (.int .i64)), (false, .bool)], fun R x k => F R x.1 x.2.1 (fun y1 y2 => k (y1, y2, ()) ())⟩
def res22 : List (ResultVar × TypeId × Bool) := [(.tmp 4, 3, false), (.tmp 5, 4, false)]
def e22 (F68 : FT68) (R : Type) : Env R := ⟨TT, EQT, 0, 19, ownOf [], callOf [en68 F68] R, loopOf [] R⟩
def p22 (F68 : FT68) : FT22 := fun R a0 a1 k =>
F68 R a0 a1 fun y1 =>
(match (!y1) with
| true => k (0 : Int) false
| false => let v2 : Int := (IntKind.i64.wrap (a1 + (1 : Int)));
(match (!(a0.1 == 0)) with
| true => let v3 : Int := (Int.tmod v2 a0.1);
let v4 : Bool := (v3 == (0 : Int));
k v3 v4
| false => none))
theorem q22 (F68 : FT68) (F : FT22) (R : Type) (x : AT (en22 F).ins) (k : RT (en22 F).outs → PT (en22 F).ins → Option R) :
  xfun (e22 F68 R) (codeOf Try.f22) res22 (avs (en22 F).ins x) (finK (en22 F).outs (en22 F).ins k) = p22 F68 R x.1 x.2.1 (fun y1 y2 => k (y1, y2, ()) ()) := by kernel_rfl
def F22 : FT22 := p22 F68
theorem env22 (R : Type) : EnvOK Try.prog (e22 F68 R) := ⟨tabOK, eqOK, callOf_ok (allE_cons ok68 allE_nil)⟩
theorem ok22 : (en22 F22).OK Try.prog :=
  ent_ok (Ef := fun R => e22 F68 R) (fun R => env22 R) mixed Try.func22 (body := codeOf Try.f22) (by kernel_rfl) (by kernel_rfl) (np := 0) (nt := 19) (fun _ => rfl) (fun _ => rfl) (by kernel_rfl) (res := res22) (by kernel_rfl) (fun _ => rfl) (fun _ => Nat.le_of_ble_eq_true rfl) (by
    intro R
    rw [show loopsOf (codeOf Try.f22) = [] from by kernel_rfl]
    exact allM_nil) (fun R x k => q22 F68 F22 R x k)
/-! drawlot/window.Phase -/
abbrev FT26 : Type 1 := (R : Type) → (Int × (Int × (Int × (Int × (Int × Unit))))) → Int → (Int → Option R) → Option R
def en26 (F : FT26) : Ent := ⟨26, [(false, (.pair (.int .i64) (.pair (.int .i64) (.pair (.int .i64) (.pair (.int .i64) (.pair (.int .i64) .unit)))))), (false, (.int .i64))], [(false, (.int .i64))], fun R x k => F R x.1 x.2.1 (fun y1 => k (y1, ()) ())⟩
def res26 : List (ResultVar × TypeId × Bool) := [(.tmp 4, 3, false)]
def e26 (F68 : FT68) (R : Type) : Env R := ⟨TT, EQT, 0, 23, ownOf [], callOf [en68 F68] R, loopOf [] R⟩
def p26 (F68 : FT68) : FT26 := fun R a0 a1 k =>
F68 R a0 a1 fun y1 =>
(match (!y1) with
| true => k (0 : Int)
| false => let v2 : Bool := (decide (a1 < a0.2.1));
(match v2 with
| true => k (1 : Int)
| false => let v3 : Int := (IntKind.i64.wrap (a0.2.1 + a0.2.2.1));
let v4 : Bool := (decide (a1 < v3));
(match v4 with
| true => k (2 : Int)
| false => k (3 : Int))))
theorem q26 (F68 : FT68) (F : FT26) (R : Type) (x : AT (en26 F).ins) (k : RT (en26 F).outs → PT (en26 F).ins → Option R) :
  xfun (e26 F68 R) (codeOf Try.f26) res26 (avs (en26 F).ins x) (finK (en26 F).outs (en26 F).ins k) = p26 F68 R x.1 x.2.1 (fun y1 => k (y1, ()) ()) := by kernel_rfl
def F26 : FT26 := p26 F68
theorem env26 (R : Type) : EnvOK Try.prog (e26 F68 R) := ⟨tabOK, eqOK, callOf_ok (allE_cons ok68 allE_nil)⟩
theorem ok26 : (en26 F26).OK Try.prog :=
  ent_ok (Ef := fun R => e26 F68 R) (fun R => env26 R) mixed Try.func26 (body := codeOf Try.f26) (by kernel_rfl) (by kernel_rfl) (np := 0) (nt := 23) (fun _ => rfl) (fun _ => rfl) (by kernel_rfl) (res := res26) (by kernel_rfl) (fun _ => rfl) (fun _ => Nat.le_of_ble_eq_true rfl) (by
    intro R
    rw [show loopsOf (codeOf Try.f26) = [] from by kernel_rfl]
    exact allM_nil) (fun R x k => q26 F68 F26 R x k)
/-! drawlot/window.Count -/
abbrev FT28 : Type 1 := (R : Type) → (Int × (Int × (Int × (Int × (Int × Unit))))) → Int → (Int → Option R) → Option R
def en28 (F : FT28) : Ent := ⟨28, [(false, (.pair (.int .i64) (.pair (.int .i64) (.pair (.int .i64) (.pair (.int .i64) (.pair (.int .i64) .unit)))))), (false, (.int .i64))], [(false, (.int .i64))], fun R x k => F R x.1 x.2.1 (fun y1 => k (y1, ()) ())⟩
def res28 : List (ResultVar × TypeId × Bool) := [(.tmp 4, 3, false)]
def e28 (F24 : FT24) (R : Type) : Env R := ⟨TT, EQT, 0, 27, ownOf [], callOf [en24 F24] R, loopOf [] R⟩
def p28 (F24 : FT24) : FT28 := fun R a0 a1 k =>
F24 R a0 fun y1 =>
(match (!y1) with
| true => k (0 : Int)
| false => let v2 : Bool := (a1 == (1 : Int));
(match v2 with
| true => k a0.2.1
| false => let v3 : Bool := (a1 == (2 : Int));
(match v3 with
| true => k a0.2.2.1
| false => let v4 : Bool := (a1 == (3 : Int));
(match v4 with
| true => let v5 : Int := (IntKind.i64.wrap (a0.1 - a0.2.1));
let v6 : Int := (IntKind.i64.wrap (v5 - a0.2.2.1));
k v6
| false => k (0 : Int)))))
theorem q28 (F24 : FT24) (F : FT28) (R : Type) (x : AT (en28 F).ins) (k : RT (en28 F).outs → PT (en28 F).ins → Option R) :
  xfun (e28 F24 R) (codeOf Try.f28) res28 (avs (en28 F).ins x) (finK (en28 F).outs (en28 F).ins k) = p28 F24 R x.1 x.2.1 (fun y1 => k (y1, ()) ()) := by kernel_rfl
def F28 : FT28 := p28 F24
theorem env28 (R : Type) : EnvOK Try.prog (e28 F24 R) := ⟨tabOK, eqOK, callOf_ok (allE_cons ok24 allE_nil)⟩
theorem ok28 : (en28 F28).OK Try.prog :=
  ent_ok (Ef := fun R => e28 F24 R) (fun R => env28 R) mixed Try.func28 (body := codeOf Try.f28) (by kernel_rfl) (by kernel_rfl) (np := 0) (nt := 27) (fun _ => rfl) (fun _ => rfl) (by kernel_rfl) (res := res28) (by kernel_rfl) (fun _ => rfl) (fun _ => Nat.le_of_ble_eq_true rfl) (by
    intro R
    rw [show loopsOf (codeOf Try.f28) = [] from by kernel_rfl]
    exact allM_nil) (fun R x k => q28 F24 F28 R x k)
/-! drawlot/drawlotlaw19.alive -/
abbrev FT21 : Type 1 := (R : Type) → (Bool → Option R) → Option R
def en21 (F : FT21) : Ent := ⟨21, [], [(false, .bool)], fun R x k => F R  (fun y1 => k (y1, ()) ())⟩
def res21 : List (ResultVar × TypeId × Bool) := [(.tmp 0, 4, false)]
def e21 (F22 : FT22) (F24 : FT24) (F26 : FT26) (F28 : FT28) (R : Type) : Env R := ⟨TT, EQT, 0, 69, ownOf [], callOf [en22 F22, en24 F24, en26 F26, en28 F28] R, loopOf [] R⟩
def p21 (F22 : FT22) (F24 : FT24) (F26 : FT26) (F28 : FT28) : FT21 := fun R k =>
F22 R ((4 : Int), (2 : Int), (1 : Int), (1 : Int), (1 : Int), ()) (3 : Int) fun y1 y2 =>
F22 R ((4 : Int), (2 : Int), (1 : Int), (1 : Int), (1 : Int), ()) (1 : Int) fun y3 y4 =>
F24 R ((4 : Int), (2 : Int), (1 : Int), (1 : Int), (1 : Int), ()) fun y5 =>
(match y5 with
| true => F24 R ((0 : Int), (0 : Int), (0 : Int), (0 : Int), (0 : Int), ()) fun y6 =>
(match (!y6) with
| true => F26 R ((4 : Int), (2 : Int), (1 : Int), (1 : Int), (1 : Int), ()) (1 : Int) fun y7 =>
let v8 : Bool := (y7 == (1 : Int));
(match v8 with
| true => F26 R ((4 : Int), (2 : Int), (1 : Int), (1 : Int), (1 : Int), ()) (2 : Int) fun y9 =>
let v10 : Bool := (y9 == (2 : Int));
(match v10 with
| true => F26 R ((4 : Int), (2 : Int), (1 : Int), (1 : Int), (1 : Int), ()) (3 : Int) fun y11 =>
let v12 : Bool := (y11 == (3 : Int));
(match v12 with
| true => F26 R ((4 : Int), (2 : Int), (1 : Int), (1 : Int), (1 : Int), ()) (4 : Int) fun y13 =>
let v14 : Bool := (y13 == (0 : Int));
(match v14 with
| true => let v15 : Bool := (y1 == (0 : Int));
(match v15 with
| true => (match y2 with
| true => let v16 : Bool := (y3 == (2 : Int));
(match v16 with
| true => (match (!y4) with
| true => F28 R ((4 : Int), (2 : Int), (1 : Int), (1 : Int), (1 : Int), ()) (1 : Int) fun y17 =>
let v18 : Bool := (y17 == (2 : Int));
(match v18 with
| true => F28 R ((4 : Int), (2 : Int), (1 : Int), (1 : Int), (1 : Int), ()) (3 : Int) fun y19 =>
let v20 : Bool := (y19 == (1 : Int));
k v20
| false => k false)
| false => k false)
| false => k false)
| false => k false)
| false => k false)
| false => k false)
| false => k false)
| false => k false)
| false => k false)
| false => k false)
| false => k false)
theorem q21 (F22 : FT22) (F24 : FT24) (F26 : FT26) (F28 : FT28) (F : FT21) (R : Type) (x : AT (en21 F).ins) (k : RT (en21 F).outs → PT (en21 F).ins → Option R) :
  xfun (e21 F22 F24 F26 F28 R) (codeOf Try.f21) res21 (avs (en21 F).ins x) (finK (en21 F).outs (en21 F).ins k) = p21 F22 F24 F26 F28 R  (fun y1 => k (y1, ()) ()) := by kernel_rfl
def F21 : FT21 := p21 F22 F24 F26 F28
theorem env21 (R : Type) : EnvOK Try.prog (e21 F22 F24 F26 F28 R) := ⟨tabOK, eqOK, callOf_ok (allE_cons ok22 (allE_cons ok24 (allE_cons ok26 (allE_cons ok28 allE_nil))))⟩
theorem ok21 : (en21 F21).OK Try.prog :=
  ent_ok (Ef := fun R => e21 F22 F24 F26 F28 R) (fun R => env21 R) mixed Try.func21 (body := codeOf Try.f21) (by kernel_rfl) (by kernel_rfl) (np := 0) (nt := 69) (fun _ => rfl) (fun _ => rfl) (by kernel_rfl) (res := res21) (by kernel_rfl) (fun _ => rfl) (fun _ => Nat.le_of_ble_eq_true rfl) (by
    intro R
    rw [show loopsOf (codeOf Try.f21) = [] from by kernel_rfl]
    exact allM_nil) (fun R x k => q21 F22 F24 F26 F28 F21 R x k)
/-! drawlot/drawlotref19.Right -/
abbrev FT25 : Type 1 := (R : Type) → (Int × (Int × (Int × (Int × (Int × Unit))))) → (Bool → Option R) → Option R
def en25 (F : FT25) : Ent := ⟨25, [(false, (.pair (.int .i64) (.pair (.int .i64) (.pair (.int .i64) (.pair (.int .i64) (.pair (.int .i64) .unit))))))], [(false, .bool)], fun R x k => F R x.1 (fun y1 => k (y1, ()) ())⟩
def res25 : List (ResultVar × TypeId × Bool) := [(.tmp 2, 4, false)]
def e25 (R : Type) : Env R := ⟨TT, EQT, 0, 58, ownOf [], callOf [] R, loopOf [] R⟩
def p25 : FT25 := fun R a0 k =>
let v1 : Bool := (decide (a0.1 ≥ (1 : Int)));
(match v1 with
| true => let v2 : Bool := (decide (a0.1 ≤ (1024 : Int)));
(match v2 with
| true => let v3 : Bool := (decide (a0.2.1 ≥ (0 : Int)));
(match v3 with
| true => let v4 : Bool := (decide (a0.2.1 ≤ a0.1));
(match v4 with
| true => let v5 : Bool := (decide (a0.2.2.1 ≥ (0 : Int)));
(match v5 with
| true => let v6 : Int := (IntKind.i64.wrap (a0.1 - a0.2.1));
let v7 : Bool := (decide (a0.2.2.1 ≤ v6));
(match v7 with
| true => let v8 : Bool := (decide (a0.2.2.2.1 ≥ (1 : Int)));
(match v8 with
| true => let v9 : Bool := (decide (a0.2.2.2.1 ≤ (64 : Int)));
(match v9 with
| true => let v10 : Bool := (decide (a0.2.2.2.2.1 ≥ (1 : Int)));
(match v10 with
| true => let v11 : Bool := (decide (a0.2.2.2.2.1 ≤ (1048576 : Int)));
k v11
| false => k false)
| false => k false)
| false => k false)
| false => k false)
| false => k false)
| false => k false)
| false => k false)
| false => k false)
| false => k false)
theorem q25 (F : FT25) (R : Type) (x : AT (en25 F).ins) (k : RT (en25 F).outs → PT (en25 F).ins → Option R) :
  xfun (e25 R) (codeOf Try.f25) res25 (avs (en25 F).ins x) (finK (en25 F).outs (en25 F).ins k) = p25 R x.1 (fun y1 => k (y1, ()) ()) := by kernel_rfl
def F25 : FT25 := p25
theorem env25 (R : Type) : EnvOK Try.prog (e25 R) := ⟨tabOK, eqOK, callOf_ok allE_nil⟩
theorem ok25 : (en25 F25).OK Try.prog :=
  ent_ok (Ef := fun R => e25 R) (fun R => env25 R) mixed Try.func25 (body := codeOf Try.f25) (by kernel_rfl) (by kernel_rfl) (np := 0) (nt := 58) (fun _ => rfl) (fun _ => rfl) (by kernel_rfl) (res := res25) (by kernel_rfl) (fun _ => rfl) (fun _ => Nat.le_of_ble_eq_true rfl) (by
    intro R
    rw [show loopsOf (codeOf Try.f25) = [] from by kernel_rfl]
    exact allM_nil) (fun R x k => q25 F25 R x k)
/-! drawlot/drawlotref19.Phase -/
abbrev FT27 : Type 1 := (R : Type) → (Int × (Int × (Int × (Int × (Int × Unit))))) → Int → (Int → Option R) → Option R
def en27 (F : FT27) : Ent := ⟨27, [(false, (.pair (.int .i64) (.pair (.int .i64) (.pair (.int .i64) (.pair (.int .i64) (.pair (.int .i64) .unit)))))), (false, (.int .i64))], [(false, (.int .i64))], fun R x k => F R x.1 x.2.1 (fun y1 => k (y1, ()) ())⟩
def res27 : List (ResultVar × TypeId × Bool) := [(.tmp 4, 3, false)]
def e27 (F25 : FT25) (R : Type) : Env R := ⟨TT, EQT, 0, 32, ownOf [], callOf [en25 F25] R, loopOf [] R⟩
def p27 (F25 : FT25) : FT27 := fun R a0 a1 k =>
F25 R a0 fun y1 =>
(match (!y1) with
| true => k (0 : Int)
| false => let v2 : Bool := (decide (a1 < (0 : Int)));
(match v2 with
| true => k (0 : Int)
| false => let v3 : Bool := (decide (a1 ≥ a0.1));
(match v3 with
| true => k (0 : Int)
| false => let v4 : Bool := (decide (a1 < a0.2.1));
(match v4 with
| true => k (1 : Int)
| false => let v5 : Int := (IntKind.i64.wrap (a0.2.1 + a0.2.2.1));
let v6 : Bool := (decide (a1 < v5));
(match v6 with
| true => k (2 : Int)
| false => k (3 : Int))))))
theorem q27 (F25 : FT25) (F : FT27) (R : Type) (x : AT (en27 F).ins) (k : RT (en27 F).outs → PT (en27 F).ins → Option R) :
  xfun (e27 F25 R) (codeOf Try.f27) res27 (avs (en27 F).ins x) (finK (en27 F).outs (en27 F).ins k) = p27 F25 R x.1 x.2.1 (fun y1 => k (y1, ()) ()) := by kernel_rfl
def F27 : FT27 := p27 F25
theorem env27 (R : Type) : EnvOK Try.prog (e27 F25 R) := ⟨tabOK, eqOK, callOf_ok (allE_cons ok25 allE_nil)⟩
theorem ok27 : (en27 F27).OK Try.prog :=
  ent_ok (Ef := fun R => e27 F25 R) (fun R => env27 R) mixed Try.func27 (body := codeOf Try.f27) (by kernel_rfl) (by kernel_rfl) (np := 0) (nt := 32) (fun _ => rfl) (fun _ => rfl) (by kernel_rfl) (res := res27) (by kernel_rfl) (fun _ => rfl) (fun _ => Nat.le_of_ble_eq_true rfl) (by
    intro R
    rw [show loopsOf (codeOf Try.f27) = [] from by kernel_rfl]
    exact allM_nil) (fun R x k => q27 F25 F27 R x k)
/-! drawlot/drawlotref19.Next -/
abbrev FT23 : Type 1 := (R : Type) → (Int × (Int × (Int × (Int × (Int × Unit))))) → Int → (Int → Bool → Option R) → Option R
def en23 (F : FT23) : Ent := ⟨23, [(false, (.pair (.int .i64) (.pair (.int .i64) (.pair (.int .i64) (.pair (.int .i64) (.pair (.int .i64) .unit)))))), (false, (.int .i64))], [(false, (.int .i64)), (false, .bool)], fun R x k => F R x.1 x.2.1 (fun y1 y2 => k (y1, y2, ()) ())⟩
def res23 : List (ResultVar × TypeId × Bool) := [(.tmp 4, 3, false), (.tmp 5, 4, false)]
def e23 (F27 : FT27) (R : Type) : Env R := ⟨TT, EQT, 0, 17, ownOf [], callOf [en27 F27] R, loopOf [] R⟩
def p23 (F27 : FT27) : FT23 := fun R a0 a1 k =>
F27 R a0 a1 fun y1 =>
let v2 : Bool := (y1 == (0 : Int));
(match v2 with
| true => k (0 : Int) false
| false => let v3 : Int := (IntKind.i64.wrap (a0.1 - (1 : Int)));
let v4 : Bool := (a1 == v3);
(match v4 with
| true => k (0 : Int) true
| false => let v5 : Int := (IntKind.i64.wrap (a1 + (1 : Int)));
k v5 false))
theorem q23 (F27 : FT27) (F : FT23) (R : Type) (x : AT (en23 F).ins) (k : RT (en23 F).outs → PT (en23 F).ins → Option R) :
  xfun (e23 F27 R) (codeOf Try.f23) res23 (avs (en23 F).ins x) (finK (en23 F).outs (en23 F).ins k) = p23 F27 R x.1 x.2.1 (fun y1 y2 => k (y1, y2, ()) ()) := by kernel_rfl
def F23 : FT23 := p23 F27
theorem env23 (R : Type) : EnvOK Try.prog (e23 F27 R) := ⟨tabOK, eqOK, callOf_ok (allE_cons ok27 allE_nil)⟩
theorem ok23 : (en23 F23).OK Try.prog :=
  ent_ok (Ef := fun R => e23 F27 R) (fun R => env23 R) mixed Try.func23 (body := codeOf Try.f23) (by kernel_rfl) (by kernel_rfl) (np := 0) (nt := 17) (fun _ => rfl) (fun _ => rfl) (by kernel_rfl) (res := res23) (by kernel_rfl) (fun _ => rfl) (fun _ => Nat.le_of_ble_eq_true rfl) (by
    intro R
    rw [show loopsOf (codeOf Try.f23) = [] from by kernel_rfl]
    exact allM_nil) (fun R x k => q23 F27 F23 R x k)
/-! drawlot/drawlotref19.Count -/
abbrev FT29 : Type 1 := (R : Type) → (Int × (Int × (Int × (Int × (Int × Unit))))) → Int → (Int → Option R) → Option R
def en29 (F : FT29) : Ent := ⟨29, [(false, (.pair (.int .i64) (.pair (.int .i64) (.pair (.int .i64) (.pair (.int .i64) (.pair (.int .i64) .unit)))))), (false, (.int .i64))], [(false, (.int .i64))], fun R x k => F R x.1 x.2.1 (fun y1 => k (y1, ()) ())⟩
def res29 : List (ResultVar × TypeId × Bool) := [(.tmp 4, 3, false)]
abbrev LT29_5 : Type 1 := (R : Type) → Int → Int → Int → (Int × (Int × (Int × (Int × (Int × Unit))))) → (Int → Option R) → Option R
def le29_5 (L : LT29_5) : LEnt := ⟨5, [.val 1 (.int .i64), .fix 2 (.ptr 0 [] (.pair (.int .i64) (.pair (.int .i64) (.pair (.int .i64) (.pair (.int .i64) (.pair (.int .i64) .unit)))))), .val 5 (.int .i64), .val 6 (.int .i64), .var 0 (.pair (.int .i64) (.pair (.int .i64) (.pair (.int .i64) (.pair (.int .i64) (.pair (.int .i64) .unit))))) false], 1, [(.exit 0, [.val 5 (.int .i64)])], fun R x ke => L R x.1 x.2.1 x.2.2.1 x.2.2.2.1 (fun y1 => ke.1 (y1, ()))⟩
def e29 (F25 : FT25) (F27 : FT27) (L5 : LT29_5) (R : Type) : Env R := ⟨TT, EQT, 0, 24, ownOf [], callOf [en25 F25, en27 F27] R, loopOf [le29_5 L5] R⟩
def p29_5 (F27 : FT27) : (R : Type) → Int → Int → Int → (Int × (Int × (Int × (Int × (Int × Unit))))) → (Int → Int → Int → (Int × (Int × (Int × (Int × (Int × Unit))))) → Option R) → (Int → Option R) → Option R := fun R x1 x2 x3 x4 kc k0 =>
let v5 : Bool := (decide (x3 < x4.1));
(match v5 with
| true => F27 R x4 x3 fun y6 =>
let v7 : Bool := (y6 == x1);
(match v7 with
| true => let v8 : Int := (IntKind.i64.wrap (x2 + (1 : Int)));
let v9 : Int := (IntKind.i64.wrap (x3 + (1 : Int)));
kc x1 v8 v9 x4
| false => let v10 : Int := (IntKind.i64.wrap (x3 + (1 : Int)));
kc x1 x2 v10 x4)
| false => k0 x2)
theorem q29_5 (F25 : FT25) (F27 : FT27) (L5 : LT29_5) (R : Type) (x : HT (le29_5 L5).H) (kc : HT (le29_5 L5).H → Option R) (ke : KT R (le29_5 L5).exs) :
  exec (e29 F25 F27 L5 R) (lcode 5 (codeOf Try.f29)) (stOf (le29_5 L5).H x 1) (roundK (le29_5 L5).H (le29_5 L5).exs kc ke) =
    p29_5 F27 R x.1 x.2.1 x.2.2.1 x.2.2.2.1 (fun x1 x2 x3 x4 => kc (x1, x2, x3, x4, ())) (fun y1 => ke.1 (y1, ())) := by kernel_rfl
def G29_5 : Nat → LT29_5
  | 0 => fun _ _ _ _ _ _ => none
  | n + 1 => fun R x1 x2 x3 x4 k0 => p29_5 F27 R x1 x2 x3 x4 (fun x1 x2 x3 x4 => G29_5 n R x1 x2 x3 x4 k0) k0
def p29 (F25 : FT25) (L5 : LT29_5) : FT29 := fun R a0 a1 k =>
F25 R a0 fun y1 =>
(match (!y1) with
| true => k (0 : Int)
| false => L5 R a1 (0 : Int) (0 : Int) a0 (fun x2 =>
k x2))
theorem q29 (F25 : FT25) (F27 : FT27) (L5 : LT29_5) (F : FT29) (R : Type) (x : AT (en29 F).ins) (k : RT (en29 F).outs → PT (en29 F).ins → Option R) :
  xfun (e29 F25 F27 L5 R) (codeOf Try.f29) res29 (avs (en29 F).ins x) (finK (en29 F).outs (en29 F).ins k) = p29 F25 L5 R x.1 x.2.1 (fun y1 => k (y1, ()) ()) := by kernel_rfl
def F29 : FT29 := p29 F25 (G29_5 FUEL)
theorem env29 (R : Type) : EnvOK Try.prog (e29 F25 F27 (G29_5 FUEL) R) := ⟨tabOK, eqOK, callOf_ok (allE_cons ok25 (allE_cons ok27 allE_nil))⟩
def T29_5 : (R : Type) → HT (le29_5 (G29_5 FUEL)).H → (HT (le29_5 (G29_5 FUEL)).H → Option R) → KT R (le29_5 (G29_5 FUEL)).exs → Option R := fun R x kc ke => p29_5 F27 R x.1 x.2.1 x.2.2.1 x.2.2.2.1 (fun x1 x2 x3 x4 => kc (x1, x2, x3, x4, ())) (fun y1 => ke.1 (y1, ()))
theorem it29_5 : ∀ (n : Nat) (R : Type) (x : HT (le29_5 (G29_5 FUEL)).H) (ke : KT R (le29_5 (G29_5 FUEL)).exs), iter T29_5 n R x ke = G29_5 n R x.1 x.2.1 x.2.2.1 x.2.2.2.1 (fun y1 => ke.1 (y1, ())) := by
  intro n
  induction n with
  | zero => intro R x ke; rfl
  | succ n ih =>
    intro R x ke
    show T29_5 R x (fun x' => iter T29_5 n R x' ke) ke = _
    rw [show (fun x' => iter T29_5 n R x' ke) = fun x => G29_5 n R x.1 x.2.1 x.2.2.1 x.2.2.2.1 (fun y1 => ke.1 (y1, ())) from funext fun x' => ih R x' ke]
    rfl
theorem lok29_5 : (le29_5 (G29_5 FUEL)).OK Try.prog 0 24 (lcode 5 (codeOf Try.f29)) := fun R x ke r h =>
  iter_sound (fun R => e29 F25 F27 (G29_5 FUEL) R) 0 24 (fun _ => rfl) (fun _ => rfl) (fun R => env29 R) mixed (by
    intro R
    rw [show loopsOf (lcode 5 (codeOf Try.f29)) = [] from by kernel_rfl]
    exact allM_nil) (T := T29_5) (fun R x kc ke => q29_5 F25 F27 (G29_5 FUEL) R x kc ke) FUEL R x ke r ((it29_5 FUEL R x ke).trans h)
theorem ok29 : (en29 F29).OK Try.prog :=
  ent_ok (Ef := fun R => e29 F25 F27 (G29_5 FUEL) R) (fun R => env29 R) mixed Try.func29 (body := codeOf Try.f29) (by kernel_rfl) (by kernel_rfl) (np := 0) (nt := 24) (fun _ => rfl) (fun _ => rfl) (by kernel_rfl) (res := res29) (by kernel_rfl) (fun _ => rfl) (fun _ => Nat.le_of_ble_eq_true rfl) (by
    intro R
    rw [show loopsOf (codeOf Try.f29) = [lcode 5 (codeOf Try.f29)] from by kernel_rfl]
    exact (allM_cons (loop_ok2 (e := le29_5 (G29_5 FUEL)) rfl rfl lok29_5) allM_nil)) (fun R x k => q29 F25 F27 (G29_5 FUEL) F29 R x k)
/-! drawlot/drawlotlaw19.WindowTells -/
abbrev FT3 : Type 1 := (R : Type) → (Int × (Int × (Int × (Int × (Int × Unit))))) → Int → Int → (Bool → Option R) → Option R
def en3 (F : FT3) : Ent := ⟨3, [(false, (.pair (.int .i64) (.pair (.int .i64) (.pair (.int .i64) (.pair (.int .i64) (.pair (.int .i64) .unit)))))), (false, (.int .i64)), (false, (.int .i64))], [(false, .bool)], fun R x k => F R x.1 x.2.1 x.2.2.1 (fun y1 => k (y1, ()) ())⟩
def res3 : List (ResultVar × TypeId × Bool) := [(.tmp 6, 4, false)]
def e3 (F21 : FT21) (F22 : FT22) (F23 : FT23) (F24 : FT24) (F25 : FT25) (F26 : FT26) (F27 : FT27) (F28 : FT28) (F29 : FT29) (R : Type) : Env R := ⟨TT, EQT, 0, 58, ownOf [], callOf [en21 F21, en22 F22, en23 F23, en24 F24, en25 F25, en26 F26, en27 F27, en28 F28, en29 F29] R, loopOf [] R⟩
def p3 (F21 : FT21) (F22 : FT22) (F23 : FT23) (F24 : FT24) (F25 : FT25) (F26 : FT26) (F27 : FT27) (F28 : FT28) (F29 : FT29) : FT3 := fun R a0 a1 a2 k =>
F21 R  fun y1 =>
(match (!y1) with
| true => k false
| false => F22 R a0 a1 fun y2 y3 =>
F23 R a0 a1 fun y4 y5 =>
F24 R a0 fun y6 =>
F25 R a0 fun y7 =>
let v8 : Bool := (y6 == y7);
(match v8 with
| true => F26 R a0 a1 fun y9 =>
F27 R a0 a1 fun y10 =>
let v11 : Bool := (y9 == y10);
(match v11 with
| true => let v12 : Bool := (y2 == y4);
(match v12 with
| true => let v13 : Bool := (y3 == y5);
(match v13 with
| true => F28 R a0 a2 fun y14 =>
F29 R a0 a2 fun y15 =>
let v16 : Bool := (y14 == y15);
k v16
| false => k false)
| false => k false)
| false => k false)
| false => k false))
theorem q3 (F21 : FT21) (F22 : FT22) (F23 : FT23) (F24 : FT24) (F25 : FT25) (F26 : FT26) (F27 : FT27) (F28 : FT28) (F29 : FT29) (F : FT3) (R : Type) (x : AT (en3 F).ins) (k : RT (en3 F).outs → PT (en3 F).ins → Option R) :
  xfun (e3 F21 F22 F23 F24 F25 F26 F27 F28 F29 R) (codeOf Try.f3) res3 (avs (en3 F).ins x) (finK (en3 F).outs (en3 F).ins k) = p3 F21 F22 F23 F24 F25 F26 F27 F28 F29 R x.1 x.2.1 x.2.2.1 (fun y1 => k (y1, ()) ()) := by kernel_rfl
def F3 : FT3 := p3 F21 F22 F23 F24 F25 F26 F27 F28 F29
theorem env3 (R : Type) : EnvOK Try.prog (e3 F21 F22 F23 F24 F25 F26 F27 F28 F29 R) := ⟨tabOK, eqOK, callOf_ok (allE_cons ok21 (allE_cons ok22 (allE_cons ok23 (allE_cons ok24 (allE_cons ok25 (allE_cons ok26 (allE_cons ok27 (allE_cons ok28 (allE_cons ok29 allE_nil)))))))))⟩
theorem ok3 : (en3 F3).OK Try.prog :=
  ent_ok (Ef := fun R => e3 F21 F22 F23 F24 F25 F26 F27 F28 F29 R) (fun R => env3 R) mixed Try.func3 (body := codeOf Try.f3) (by kernel_rfl) (by kernel_rfl) (np := 0) (nt := 58) (fun _ => rfl) (fun _ => rfl) (by kernel_rfl) (res := res3) (by kernel_rfl) (fun _ => rfl) (fun _ => Nat.le_of_ble_eq_true rfl) (by
    intro R
    rw [show loopsOf (codeOf Try.f3) = [] from by kernel_rfl]
    exact allM_nil) (fun R x k => q3 F21 F22 F23 F24 F25 F26 F27 F28 F29 F3 R x k)
/-! drawlot/drawlotlaw19.WindowGoes -/
abbrev FT4 : Type 1 := (R : Type) → (Int × (Int × (Int × (Int × (Int × Unit))))) → (Bool → Option R) → Option R
def en4 (F : FT4) : Ent := ⟨4, [(false, (.pair (.int .i64) (.pair (.int .i64) (.pair (.int .i64) (.pair (.int .i64) (.pair (.int .i64) .unit))))))], [(false, .bool)], fun R x k => F R x.1 (fun y1 => k (y1, ()) ())⟩
def res4 : List (ResultVar × TypeId × Bool) := [(.tmp 2, 4, false)]
abbrev LT4_9 : Type 1 := (R : Type) → Int → Int → Int → (Int × (Int × (Int × (Int × (Int × Unit))))) → (List Int) → (Bool → Option R) → (Int → (Int × (Int × (Int × (Int × (Int × Unit))))) → (List Int) → Option R) → Option R
def le4_9 (L : LT4_9) : LEnt := ⟨9, [.fix 1 (.ptr 0 [] (.pair (.int .i64) (.pair (.int .i64) (.pair (.int .i64) (.pair (.int .i64) (.pair (.int .i64) .unit)))))), .val 5 (.int .i64), .val 6 (.int .i64), .fix 7 (.ptr 1 [] (.arr 4 (.int .i64))), .val 8 (.int .i64), .var 0 (.pair (.int .i64) (.pair (.int .i64) (.pair (.int .i64) (.pair (.int .i64) (.pair (.int .i64) .unit))))) false, .var 1 (.arr 4 (.int .i64)) false], 2, [(.ret, [.val 2 .bool]), (.exit 0, [.fix 1 (.ptr 0 [] (.pair (.int .i64) (.pair (.int .i64) (.pair (.int .i64) (.pair (.int .i64) (.pair (.int .i64) .unit)))))), .val 5 (.int .i64), .fix 7 (.ptr 1 [] (.arr 4 (.int .i64))), .var 0 (.pair (.int .i64) (.pair (.int .i64) (.pair (.int .i64) (.pair (.int .i64) (.pair (.int .i64) .unit))))) false, .var 1 (.arr 4 (.int .i64)) false])], fun R x ke => L R x.1 x.2.1 x.2.2.1 x.2.2.2.1 x.2.2.2.2.1 (fun y1 => ke.1 (y1, ())) (fun y1 y2 y3 => ke.2.1 (y1, y2, y3, ()))⟩
def e4 (F21 : FT21) (F22 : FT22) (F24 : FT24) (F25 : FT25) (F26 : FT26) (F28 : FT28) (L9 : LT4_9) (R : Type) : Env R := ⟨TT, EQT, 0, 115, ownOf [], callOf [en21 F21, en22 F22, en24 F24, en25 F25, en26 F26, en28 F28] R, loopOf [le4_9 L9] R⟩
def p4_9 (F22 : FT22) (F26 : FT26) : (R : Type) → Int → Int → Int → (Int × (Int × (Int × (Int × (Int × Unit))))) → (List Int) → (Int → Int → Int → (Int × (Int × (Int × (Int × (Int × Unit))))) → (List Int) → Option R) → (Bool → Option R) → (Int → (Int × (Int × (Int × (Int × (Int × Unit))))) → (List Int) → Option R) → Option R := fun R x1 x2 x3 x4 x5 kc k0 k1 =>
let v6 : Bool := (decide (x3 < x4.1));
(match v6 with
| true => F26 R x4 x1 fun y7 =>
let v8 : Bool := (x1 != x3);
(match v8 with
| true => k0 false
| false => let v9 : Bool := (decide (y7 < (1 : Int)));
(match v9 with
| true => k0 false
| false => let v10 : Bool := (decide (y7 > (3 : Int)));
(match v10 with
| true => k0 false
| false => let v11 : Bool := (decide (y7 < x2));
(match v11 with
| true => k0 false
| false => (match (bnd y7 (4 : Int)) with
| true => let v12 : Int := (List.getD x5 (Int.toNat y7) (0 : Int));
let v13 : Int := (IntKind.i64.wrap (v12 + (1 : Int)));
(match (bnd y7 (4 : Int)) with
| true => let v14 : (List Int) := (List.set x5 (Int.toNat y7) v13);
F22 R x4 x1 fun y15 y16 =>
let v17 : Int := (IntKind.i64.wrap (x4.1 - (1 : Int)));
let v18 : Bool := (x3 == v17);
let v19 : Bool := (!(y16 == v18));
(match v19 with
| true => k0 false
| false => let v20 : Int := (IntKind.i64.wrap (x3 + (1 : Int)));
kc y15 y7 v20 x4 v14)
| false => none)
| false => none)))))
| false => k1 x1 x4 x5)
theorem q4_9 (F21 : FT21) (F22 : FT22) (F24 : FT24) (F25 : FT25) (F26 : FT26) (F28 : FT28) (L9 : LT4_9) (R : Type) (x : HT (le4_9 L9).H) (kc : HT (le4_9 L9).H → Option R) (ke : KT R (le4_9 L9).exs) :
  exec (e4 F21 F22 F24 F25 F26 F28 L9 R) (lcode 9 (codeOf Try.f4)) (stOf (le4_9 L9).H x 2) (roundK (le4_9 L9).H (le4_9 L9).exs kc ke) =
    p4_9 F22 F26 R x.1 x.2.1 x.2.2.1 x.2.2.2.1 x.2.2.2.2.1 (fun x1 x2 x3 x4 x5 => kc (x1, x2, x3, x4, x5, ())) (fun y1 => ke.1 (y1, ())) (fun y1 y2 y3 => ke.2.1 (y1, y2, y3, ())) := by kernel_rfl
def G4_9 : Nat → LT4_9
  | 0 => fun _ _ _ _ _ _ _ _ => none
  | n + 1 => fun R x1 x2 x3 x4 x5 k0 k1 => p4_9 F22 F26 R x1 x2 x3 x4 x5 (fun x1 x2 x3 x4 x5 => G4_9 n R x1 x2 x3 x4 x5 k0 k1) k0 k1
def p4 (F21 : FT21) (F22 : FT22) (F24 : FT24) (F25 : FT25) (F28 : FT28) (L9 : LT4_9) : FT4 := fun R a0 k =>
F21 R  fun y1 =>
(match (!y1) with
| true => k false
| false => F25 R a0 fun y2 =>
(match (!y2) with
| true => F22 R a0 (0 : Int) fun y3 y4 =>
F24 R a0 fun y5 =>
(match (!y5) with
| true => let v6 : Bool := (y3 == (0 : Int));
(match v6 with
| true => k (!y4)
| false => k false)
| false => k false)
| false => L9 R (0 : Int) (0 : Int) (0 : Int) a0 (List.replicate 4 (0 : Int)) (fun x7 =>
k x7) (fun x8 x9 x10 =>
let v11 : Bool := (x8 == (0 : Int));
(match v11 with
| true => let v12 : Int := (List.getD x10 1 (0 : Int));
let v13 : Bool := (v12 == x9.2.1);
(match v13 with
| true => let v14 : Int := (List.getD x10 2 (0 : Int));
let v15 : Bool := (v14 == x9.2.2.1);
(match v15 with
| true => let v16 : Int := (List.getD x10 1 (0 : Int));
F28 R x9 (1 : Int) fun y17 =>
let v18 : Bool := (v16 == y17);
(match v18 with
| true => let v19 : Int := (List.getD x10 2 (0 : Int));
F28 R x9 (2 : Int) fun y20 =>
let v21 : Bool := (v19 == y20);
(match v21 with
| true => let v22 : Int := (List.getD x10 3 (0 : Int));
F28 R x9 (3 : Int) fun y23 =>
let v24 : Bool := (v22 == y23);
k v24
| false => k false)
| false => k false)
| false => k false)
| false => k false)
| false => k false))))
theorem q4 (F21 : FT21) (F22 : FT22) (F24 : FT24) (F25 : FT25) (F26 : FT26) (F28 : FT28) (L9 : LT4_9) (F : FT4) (R : Type) (x : AT (en4 F).ins) (k : RT (en4 F).outs → PT (en4 F).ins → Option R) :
  xfun (e4 F21 F22 F24 F25 F26 F28 L9 R) (codeOf Try.f4) res4 (avs (en4 F).ins x) (finK (en4 F).outs (en4 F).ins k) = p4 F21 F22 F24 F25 F28 L9 R x.1 (fun y1 => k (y1, ()) ()) := by kernel_rfl
def F4 : FT4 := p4 F21 F22 F24 F25 F28 (G4_9 FUEL)
theorem env4 (R : Type) : EnvOK Try.prog (e4 F21 F22 F24 F25 F26 F28 (G4_9 FUEL) R) := ⟨tabOK, eqOK, callOf_ok (allE_cons ok21 (allE_cons ok22 (allE_cons ok24 (allE_cons ok25 (allE_cons ok26 (allE_cons ok28 allE_nil))))))⟩
def T4_9 : (R : Type) → HT (le4_9 (G4_9 FUEL)).H → (HT (le4_9 (G4_9 FUEL)).H → Option R) → KT R (le4_9 (G4_9 FUEL)).exs → Option R := fun R x kc ke => p4_9 F22 F26 R x.1 x.2.1 x.2.2.1 x.2.2.2.1 x.2.2.2.2.1 (fun x1 x2 x3 x4 x5 => kc (x1, x2, x3, x4, x5, ())) (fun y1 => ke.1 (y1, ())) (fun y1 y2 y3 => ke.2.1 (y1, y2, y3, ()))
theorem it4_9 : ∀ (n : Nat) (R : Type) (x : HT (le4_9 (G4_9 FUEL)).H) (ke : KT R (le4_9 (G4_9 FUEL)).exs), iter T4_9 n R x ke = G4_9 n R x.1 x.2.1 x.2.2.1 x.2.2.2.1 x.2.2.2.2.1 (fun y1 => ke.1 (y1, ())) (fun y1 y2 y3 => ke.2.1 (y1, y2, y3, ())) := by
  intro n
  induction n with
  | zero => intro R x ke; rfl
  | succ n ih =>
    intro R x ke
    show T4_9 R x (fun x' => iter T4_9 n R x' ke) ke = _
    rw [show (fun x' => iter T4_9 n R x' ke) = fun x => G4_9 n R x.1 x.2.1 x.2.2.1 x.2.2.2.1 x.2.2.2.2.1 (fun y1 => ke.1 (y1, ())) (fun y1 y2 y3 => ke.2.1 (y1, y2, y3, ())) from funext fun x' => ih R x' ke]
    rfl
theorem lok4_9 : (le4_9 (G4_9 FUEL)).OK Try.prog 0 115 (lcode 9 (codeOf Try.f4)) := fun R x ke r h =>
  iter_sound (fun R => e4 F21 F22 F24 F25 F26 F28 (G4_9 FUEL) R) 0 115 (fun _ => rfl) (fun _ => rfl) (fun R => env4 R) mixed (by
    intro R
    rw [show loopsOf (lcode 9 (codeOf Try.f4)) = [] from by kernel_rfl]
    exact allM_nil) (T := T4_9) (fun R x kc ke => q4_9 F21 F22 F24 F25 F26 F28 (G4_9 FUEL) R x kc ke) FUEL R x ke r ((it4_9 FUEL R x ke).trans h)
theorem ok4 : (en4 F4).OK Try.prog :=
  ent_ok (Ef := fun R => e4 F21 F22 F24 F25 F26 F28 (G4_9 FUEL) R) (fun R => env4 R) mixed Try.func4 (body := codeOf Try.f4) (by kernel_rfl) (by kernel_rfl) (np := 0) (nt := 115) (fun _ => rfl) (fun _ => rfl) (by kernel_rfl) (res := res4) (by kernel_rfl) (fun _ => rfl) (fun _ => Nat.le_of_ble_eq_true rfl) (by
    intro R
    rw [show loopsOf (codeOf Try.f4) = [lcode 9 (codeOf Try.f4)] from by kernel_rfl]
    exact (allM_cons (loop_ok2 (e := le4_9 (G4_9 FUEL)) rfl rfl lok4_9) allM_nil)) (fun R x k => q4 F21 F22 F24 F25 F26 F28 (G4_9 FUEL) F4 R x k)
/-! drawlot/drawlotlaw19.WindowSums -/
abbrev FT5 : Type 1 := (R : Type) → (Int × (Int × (Int × (Int × (Int × Unit))))) → Int → (Bool → Option R) → Option R
def en5 (F : FT5) : Ent := ⟨5, [(false, (.pair (.int .i64) (.pair (.int .i64) (.pair (.int .i64) (.pair (.int .i64) (.pair (.int .i64) .unit)))))), (false, (.int .i64))], [(false, .bool)], fun R x k => F R x.1 x.2.1 (fun y1 => k (y1, ()) ())⟩
def res5 : List (ResultVar × TypeId × Bool) := [(.tmp 4, 4, false)]
def e5 (F21 : FT21) (F25 : FT25) (F26 : FT26) (F28 : FT28) (R : Type) : Env R := ⟨TT, EQT, 0, 56, ownOf [], callOf [en21 F21, en25 F25, en26 F26, en28 F28] R, loopOf [] R⟩
def p5 (F21 : FT21) (F25 : FT25) (F26 : FT26) (F28 : FT28) : FT5 := fun R a0 a1 k =>
F21 R  fun y1 =>
(match (!y1) with
| true => k false
| false => F28 R a0 (1 : Int) fun y2 =>
F28 R a0 (2 : Int) fun y3 =>
let v4 : Int := (IntKind.i64.wrap (y2 + y3));
F28 R a0 (3 : Int) fun y5 =>
let v6 : Int := (IntKind.i64.wrap (v4 + y5));
F25 R a0 fun y7 =>
(match (!y7) with
| true => let v8 : Bool := (v6 == (0 : Int));
(match v8 with
| true => F26 R a0 a1 fun y9 =>
let v10 : Bool := (y9 == (0 : Int));
k v10
| false => k false)
| false => F26 R a0 a1 fun y11 =>
let v12 : Bool := (v6 == a0.1);
(match v12 with
| true => let v13 : Bool := (y11 == (0 : Int));
let v14 : Bool := (decide (a1 < (0 : Int)));
(match v14 with
| true => let v15 : Bool := (v13 == true);
(match v15 with
| true => let v16 : Bool := (decide (y11 ≥ (0 : Int)));
(match v16 with
| true => let v17 : Bool := (decide (y11 ≤ (3 : Int)));
k v17
| false => k false)
| false => k false)
| false => let v18 : Bool := (decide (a1 ≥ a0.1));
let v19 : Bool := (v13 == v18);
(match v19 with
| true => let v20 : Bool := (decide (y11 ≥ (0 : Int)));
(match v20 with
| true => let v21 : Bool := (decide (y11 ≤ (3 : Int)));
k v21
| false => k false)
| false => k false))
| false => k false)))
theorem q5 (F21 : FT21) (F25 : FT25) (F26 : FT26) (F28 : FT28) (F : FT5) (R : Type) (x : AT (en5 F).ins) (k : RT (en5 F).outs → PT (en5 F).ins → Option R) :
  xfun (e5 F21 F25 F26 F28 R) (codeOf Try.f5) res5 (avs (en5 F).ins x) (finK (en5 F).outs (en5 F).ins k) = p5 F21 F25 F26 F28 R x.1 x.2.1 (fun y1 => k (y1, ()) ()) := by kernel_rfl
def F5 : FT5 := p5 F21 F25 F26 F28
theorem env5 (R : Type) : EnvOK Try.prog (e5 F21 F25 F26 F28 R) := ⟨tabOK, eqOK, callOf_ok (allE_cons ok21 (allE_cons ok25 (allE_cons ok26 (allE_cons ok28 allE_nil))))⟩
theorem ok5 : (en5 F5).OK Try.prog :=
  ent_ok (Ef := fun R => e5 F21 F25 F26 F28 R) (fun R => env5 R) mixed Try.func5 (body := codeOf Try.f5) (by kernel_rfl) (by kernel_rfl) (np := 0) (nt := 56) (fun _ => rfl) (fun _ => rfl) (by kernel_rfl) (res := res5) (by kernel_rfl) (fun _ => rfl) (fun _ => Nat.le_of_ble_eq_true rfl) (by
    intro R
    rw [show loopsOf (codeOf Try.f5) = [] from by kernel_rfl]
    exact allM_nil) (fun R x k => q5 F21 F25 F26 F28 F5 R x k)
end Go.PG
