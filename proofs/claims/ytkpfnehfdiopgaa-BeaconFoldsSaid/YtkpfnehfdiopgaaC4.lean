/- A part of the proofs over this seat (own work; the framework that reads a Go function as a pure one, or a use of it). No condition of its own. -/
import Derived.Test.YtkpfnehfdiopgaaC3
import Derived.Test.YtkpfnehfdiopgaaProg
import Derived.KernelRfl
set_option linter.unusedVariables false
set_option linter.unusedSimpArgs false
set_option maxRecDepth 100000
namespace Go.PG
open Go.Proofs
def TT : Tab := [
  (3, ⟨.int .i64, 1, 8, some (.int .i64)⟩),
  (4, ⟨.bool, 1, 1, some .bool⟩),
  (5, ⟨.int .u8, 1, 1, some (.int .u8)⟩),
  (23, ⟨.slice 5, 1, 24, some (.sl (.int .u8))⟩),
  (24, ⟨.int .u64, 1, 8, some (.int .u64)⟩),
  (26, ⟨.array 32 5, 32, 32, some (.arr 32 (.int .u8))⟩),
  (31, ⟨.int .i64, 1, 8, some (.int .i64)⟩),
  (57, ⟨.slice 63, 1, 24, some (.sl (.pair (.int .i64) (.pair (.arr 32 (.int .u8)) (.pair .bool (.pair (.arr 32 (.int .u8)) .unit)))))⟩),
  (63, ⟨.struct #[{ name := "Who", type := 3, offset := 0, embedded := false, tag := "", pkgPath := "", byteOffset := 0 }, { name := "Hash", type := 26, offset := 1, embedded := false, tag := "", pkgPath := "", byteOffset := 8 }, { name := "Done", type := 4, offset := 33, embedded := false, tag := "", pkgPath := "", byteOffset := 40 }, { name := "Value", type := 26, offset := 34, embedded := false, tag := "", pkgPath := "", byteOffset := 41 }], 66, 80, some (.pair (.int .i64) (.pair (.arr 32 (.int .u8)) (.pair .bool (.pair (.arr 32 (.int .u8)) .unit))))⟩),
  (69, ⟨.slice 3, 1, 24, some (.sl (.int .i64))⟩),
  (74, ⟨.slice 26, 1, 24, some (.sl (.arr 32 (.int .u8)))⟩),
  (77, ⟨.struct #[{ name := "Epoch", type := 24, offset := 0, embedded := false, tag := "", pkgPath := "", byteOffset := 0 }, { name := "Seed", type := 26, offset := 1, embedded := false, tag := "", pkgPath := "", byteOffset := 8 }, { name := "Mix", type := 26, offset := 33, embedded := false, tag := "", pkgPath := "", byteOffset := 40 }, { name := "Commits", type := 57, offset := 65, embedded := false, tag := "", pkgPath := "", byteOffset := 72 }], 66, 96, some (.pair (.int .u64) (.pair (.arr 32 (.int .u8)) (.pair (.arr 32 (.int .u8)) (.pair (.sl (.pair (.int .i64) (.pair (.arr 32 (.int .u8)) (.pair .bool (.pair (.arr 32 (.int .u8)) .unit))))) .unit))))⟩),
  (78, ⟨.array 2 3, 2, 16, some (.arr 2 (.int .i64))⟩),
  (84, ⟨.struct #[{ name := "Epoch", type := 24, offset := 0, embedded := false, tag := "", pkgPath := "", byteOffset := 0 }, { name := "Seed", type := 26, offset := 1, embedded := false, tag := "", pkgPath := "", byteOffset := 8 }, { name := "Mix", type := 26, offset := 33, embedded := false, tag := "", pkgPath := "", byteOffset := 40 }, { name := "Next", type := 26, offset := 65, embedded := false, tag := "", pkgPath := "", byteOffset := 72 }], 97, 104, some (.pair (.int .u64) (.pair (.arr 32 (.int .u8)) (.pair (.arr 32 (.int .u8)) (.pair (.arr 32 (.int .u8)) .unit))))⟩),
  (104, ⟨.int .u32, 1, 4, some (.int .u32)⟩),
  (124, ⟨.array 8 5, 8, 8, some (.arr 8 (.int .u8))⟩),
  (133, ⟨.int .u64, 1, 8, some (.int .u64)⟩),
  (149, ⟨.slice 178, 1, 24, some (.sl (.arr 64 (.int .u8)))⟩),
  (155, ⟨.array 8 104, 8, 32, some (.arr 8 (.int .u32))⟩),
  (170, ⟨.slice 23, 1, 24, some (.sl (.sl (.int .u8)))⟩),
  (172, ⟨.struct #[{ name := "State", type := 155, offset := 0, embedded := false, tag := "", pkgPath := "", byteOffset := 0 }, { name := "Rest", type := 23, offset := 8, embedded := false, tag := "", pkgPath := "", byteOffset := 32 }, { name := "Bytes", type := 24, offset := 9, embedded := false, tag := "", pkgPath := "", byteOffset := 56 }], 10, 64, some (.pair (.arr 8 (.int .u32)) (.pair (.sl (.int .u8)) (.pair (.int .u64) .unit)))⟩),
  (178, ⟨.array 64 5, 64, 64, some (.arr 64 (.int .u8))⟩),
  (181, ⟨.array 4 5, 4, 4, some (.arr 4 (.int .u8))⟩),
  (193, ⟨.struct #[{ name := "Writer", type := 172, offset := 0, embedded := true, tag := "", pkgPath := "", byteOffset := 0 }], 10, 64, some (.pair (.pair (.arr 8 (.int .u32)) (.pair (.sl (.int .u8)) (.pair (.int .u64) .unit))) .unit)⟩),
  (196, ⟨.array 64 104, 64, 256, some (.arr 64 (.int .u32))⟩),
  (197, ⟨.array 64 104, 64, 256, some (.arr 64 (.int .u32))⟩),
  (209, ⟨.slice 104, 1, 24, some (.sl (.int .u32))⟩)]
def EQT : List Nat := [26, 63, 84]
theorem ty3 : TyOK Try.prog TT 3 ⟨.int .i64, 1, 8, some (.int .i64)⟩ := tyOK_of Try.underlying3 (by kernel_rfl)
theorem ty4 : TyOK Try.prog TT 4 ⟨.bool, 1, 1, some .bool⟩ := tyOK_of Try.underlying4 (by kernel_rfl)
theorem ty5 : TyOK Try.prog TT 5 ⟨.int .u8, 1, 1, some (.int .u8)⟩ := tyOK_of Try.underlying5 (by kernel_rfl)
theorem ty23 : TyOK Try.prog TT 23 ⟨.slice 5, 1, 24, some (.sl (.int .u8))⟩ := tyOK_of Try.underlying23 (by kernel_rfl)
theorem ty24 : TyOK Try.prog TT 24 ⟨.int .u64, 1, 8, some (.int .u64)⟩ := tyOK_of Try.underlying24 (by kernel_rfl)
theorem ty26 : TyOK Try.prog TT 26 ⟨.array 32 5, 32, 32, some (.arr 32 (.int .u8))⟩ := tyOK_of Try.underlying26 (by kernel_rfl)
theorem ty31 : TyOK Try.prog TT 31 ⟨.int .i64, 1, 8, some (.int .i64)⟩ := tyOK_of Try.underlying31 (by kernel_rfl)
theorem ty57 : TyOK Try.prog TT 57 ⟨.slice 63, 1, 24, some (.sl (.pair (.int .i64) (.pair (.arr 32 (.int .u8)) (.pair .bool (.pair (.arr 32 (.int .u8)) .unit)))))⟩ := tyOK_of Try.underlying57 (by kernel_rfl)
theorem ty63 : TyOK Try.prog TT 63 ⟨.struct #[{ name := "Who", type := 3, offset := 0, embedded := false, tag := "", pkgPath := "", byteOffset := 0 }, { name := "Hash", type := 26, offset := 1, embedded := false, tag := "", pkgPath := "", byteOffset := 8 }, { name := "Done", type := 4, offset := 33, embedded := false, tag := "", pkgPath := "", byteOffset := 40 }, { name := "Value", type := 26, offset := 34, embedded := false, tag := "", pkgPath := "", byteOffset := 41 }], 66, 80, some (.pair (.int .i64) (.pair (.arr 32 (.int .u8)) (.pair .bool (.pair (.arr 32 (.int .u8)) .unit))))⟩ := tyOK_of Try.underlying63 (by kernel_rfl)
theorem ty69 : TyOK Try.prog TT 69 ⟨.slice 3, 1, 24, some (.sl (.int .i64))⟩ := tyOK_of Try.underlying69 (by kernel_rfl)
theorem ty74 : TyOK Try.prog TT 74 ⟨.slice 26, 1, 24, some (.sl (.arr 32 (.int .u8)))⟩ := tyOK_of Try.underlying74 (by kernel_rfl)
theorem ty77 : TyOK Try.prog TT 77 ⟨.struct #[{ name := "Epoch", type := 24, offset := 0, embedded := false, tag := "", pkgPath := "", byteOffset := 0 }, { name := "Seed", type := 26, offset := 1, embedded := false, tag := "", pkgPath := "", byteOffset := 8 }, { name := "Mix", type := 26, offset := 33, embedded := false, tag := "", pkgPath := "", byteOffset := 40 }, { name := "Commits", type := 57, offset := 65, embedded := false, tag := "", pkgPath := "", byteOffset := 72 }], 66, 96, some (.pair (.int .u64) (.pair (.arr 32 (.int .u8)) (.pair (.arr 32 (.int .u8)) (.pair (.sl (.pair (.int .i64) (.pair (.arr 32 (.int .u8)) (.pair .bool (.pair (.arr 32 (.int .u8)) .unit))))) .unit))))⟩ := tyOK_of Try.underlying77 (by kernel_rfl)
theorem ty78 : TyOK Try.prog TT 78 ⟨.array 2 3, 2, 16, some (.arr 2 (.int .i64))⟩ := tyOK_of Try.underlying78 (by kernel_rfl)
theorem ty84 : TyOK Try.prog TT 84 ⟨.struct #[{ name := "Epoch", type := 24, offset := 0, embedded := false, tag := "", pkgPath := "", byteOffset := 0 }, { name := "Seed", type := 26, offset := 1, embedded := false, tag := "", pkgPath := "", byteOffset := 8 }, { name := "Mix", type := 26, offset := 33, embedded := false, tag := "", pkgPath := "", byteOffset := 40 }, { name := "Next", type := 26, offset := 65, embedded := false, tag := "", pkgPath := "", byteOffset := 72 }], 97, 104, some (.pair (.int .u64) (.pair (.arr 32 (.int .u8)) (.pair (.arr 32 (.int .u8)) (.pair (.arr 32 (.int .u8)) .unit))))⟩ := tyOK_of Try.underlying84 (by kernel_rfl)
theorem ty104 : TyOK Try.prog TT 104 ⟨.int .u32, 1, 4, some (.int .u32)⟩ := tyOK_of Try.underlying104 (by kernel_rfl)
theorem ty124 : TyOK Try.prog TT 124 ⟨.array 8 5, 8, 8, some (.arr 8 (.int .u8))⟩ := tyOK_of Try.underlying124 (by kernel_rfl)
theorem ty133 : TyOK Try.prog TT 133 ⟨.int .u64, 1, 8, some (.int .u64)⟩ := tyOK_of Try.underlying133 (by kernel_rfl)
theorem ty149 : TyOK Try.prog TT 149 ⟨.slice 178, 1, 24, some (.sl (.arr 64 (.int .u8)))⟩ := tyOK_of Try.underlying149 (by kernel_rfl)
theorem ty155 : TyOK Try.prog TT 155 ⟨.array 8 104, 8, 32, some (.arr 8 (.int .u32))⟩ := tyOK_of Try.underlying155 (by kernel_rfl)
theorem ty170 : TyOK Try.prog TT 170 ⟨.slice 23, 1, 24, some (.sl (.sl (.int .u8)))⟩ := tyOK_of Try.underlying170 (by kernel_rfl)
theorem ty172 : TyOK Try.prog TT 172 ⟨.struct #[{ name := "State", type := 155, offset := 0, embedded := false, tag := "", pkgPath := "", byteOffset := 0 }, { name := "Rest", type := 23, offset := 8, embedded := false, tag := "", pkgPath := "", byteOffset := 32 }, { name := "Bytes", type := 24, offset := 9, embedded := false, tag := "", pkgPath := "", byteOffset := 56 }], 10, 64, some (.pair (.arr 8 (.int .u32)) (.pair (.sl (.int .u8)) (.pair (.int .u64) .unit)))⟩ := tyOK_of Try.underlying172 (by kernel_rfl)
theorem ty178 : TyOK Try.prog TT 178 ⟨.array 64 5, 64, 64, some (.arr 64 (.int .u8))⟩ := tyOK_of Try.underlying178 (by kernel_rfl)
theorem ty181 : TyOK Try.prog TT 181 ⟨.array 4 5, 4, 4, some (.arr 4 (.int .u8))⟩ := tyOK_of Try.underlying181 (by kernel_rfl)
theorem ty193 : TyOK Try.prog TT 193 ⟨.struct #[{ name := "Writer", type := 172, offset := 0, embedded := true, tag := "", pkgPath := "", byteOffset := 0 }], 10, 64, some (.pair (.pair (.arr 8 (.int .u32)) (.pair (.sl (.int .u8)) (.pair (.int .u64) .unit))) .unit)⟩ := tyOK_of Try.underlying193 (by kernel_rfl)
theorem ty196 : TyOK Try.prog TT 196 ⟨.array 64 104, 64, 256, some (.arr 64 (.int .u32))⟩ := tyOK_of Try.underlying196 (by kernel_rfl)
theorem ty197 : TyOK Try.prog TT 197 ⟨.array 64 104, 64, 256, some (.arr 64 (.int .u32))⟩ := tyOK_of Try.underlying197 (by kernel_rfl)
theorem ty209 : TyOK Try.prog TT 209 ⟨.slice 104, 1, 24, some (.sl (.int .u32))⟩ := tyOK_of Try.underlying209 (by kernel_rfl)
theorem tabOK : TabOK Try.prog TT := tabOK_of (allM_cons ty3 (allM_cons ty4 (allM_cons ty5 (allM_cons ty23 (allM_cons ty24 (allM_cons ty26 (allM_cons ty31 (allM_cons ty57 (allM_cons ty63 (allM_cons ty69 (allM_cons ty74 (allM_cons ty77 (allM_cons ty78 (allM_cons ty84 (allM_cons ty104 (allM_cons ty124 (allM_cons ty133 (allM_cons ty149 (allM_cons ty155 (allM_cons ty170 (allM_cons ty172 (allM_cons ty178 (allM_cons ty181 (allM_cons ty193 (allM_cons ty196 (allM_cons ty197 (allM_cons ty209 allM_nil)))))))))))))))))))))))))))
theorem eqOK : ∀ t ∈ EQT, ∀ k, tkd TT t = some k → EqOK Try.prog t k := (allM_cons (fun k h => by
    have h' : some ((.arr 32 (.int .u8)) : Kd) = some k := h
    cases h'
    exact eqOK_of tabOK (k := (.arr 32 (.int .u8))) rfl (by kernel_rfl) (by kernel_rfl) (by decide)) (allM_cons (fun k h => by
    have h' : some ((.pair (.int .i64) (.pair (.arr 32 (.int .u8)) (.pair .bool (.pair (.arr 32 (.int .u8)) .unit)))) : Kd) = some k := h
    cases h'
    exact eqOK_of tabOK (k := (.pair (.int .i64) (.pair (.arr 32 (.int .u8)) (.pair .bool (.pair (.arr 32 (.int .u8)) .unit))))) rfl (by kernel_rfl) (by kernel_rfl) (by decide)) (allM_cons (fun k h => by
    have h' : some ((.pair (.int .u64) (.pair (.arr 32 (.int .u8)) (.pair (.arr 32 (.int .u8)) (.pair (.arr 32 (.int .u8)) .unit)))) : Kd) = some k := h
    cases h'
    exact eqOK_of tabOK (k := (.pair (.int .u64) (.pair (.arr 32 (.int .u8)) (.pair (.arr 32 (.int .u8)) (.pair (.arr 32 (.int .u8)) .unit))))) rfl (by kernel_rfl) (by kernel_rfl) (by decide)) allM_nil)))
theorem mixed : Try.prog.follows .mixedOrders = true := by kernel_rfl
/-! drawlot/drawlotref18.bytes -/
abbrev FT92 : Type 1 := (R : Type) → (List Int) → ((List Int) → Option R) → Option R
def en92 (F : FT92) : Ent := ⟨92, [(false, (.arr 32 (.int .u8)))], [(true, (.int .u8))], fun R x k => F R x.1 (fun y1 => k (y1, ()) ())⟩
def res92 : List (ResultVar × TypeId × Bool) := [(.tmp 2, 23, true)]
abbrev LT92_3 : Type 1 := (R : Type) → Int → (List Int) → (List Int) → ((List Int) → Option R) → Option R
def le92_3 (L : LT92_3) : LEnt := ⟨3, [.fix 1 (.ptr 0 [] (.arr 32 (.int .u8))), .fix 3 (.own 1 0), .val 4 (.int .i64), .var 0 (.arr 32 (.int .u8)) false, .row 1 (.int .u8) false], 2, [(.exit 0, [.fix 3 (.own 1 0), .row 1 (.int .u8) false])], fun R x ke => L R x.1 x.2.1 x.2.2.1 (fun y1 => ke.1 (y1, ()))⟩
def e92 (L3 : LT92_3) (R : Type) : Env R := ⟨TT, EQT, 0, 16, ownOf [(1, 0)], callOf [] R, loopOf [le92_3 L3] R, []⟩
def p92_3 : (R : Type) → Int → (List Int) → (List Int) → (Int → (List Int) → (List Int) → Option R) → ((List Int) → Option R) → Option R := fun R x1 x2 x3 kc k0 =>
let v4 : Bool := (decide (x1 < (32 : Int)));
(match v4 with
| true => (match (bnd x1 (32 : Int)) with
| true => let v5 : Int := (List.getD x2 (Int.toNat x1) (0 : Int));
let v6 : (List Int) := ([v5] : (List Int));
(match (decide (List.length x3 + List.length v6 ≤ 140737488355328)) with
| true => let v7 : (List Int) := (x3 ++ v6);
let v8 : Int := (IntKind.i64.wrap (x1 + (1 : Int)));
kc v8 x2 v7
| false => none)
| false => none)
| false => k0 x3)
theorem q92_3 (L3 : LT92_3) (R : Type) (x : HT (le92_3 L3).H) (kc : HT (le92_3 L3).H → Option R) (ke : KT R (le92_3 L3).exs) :
  exec (e92 L3 R) (lcode 3 (codeOf Try.f92)) (stOf (le92_3 L3).H x 2) (roundK (le92_3 L3).H (le92_3 L3).exs kc ke) =
    p92_3 R x.1 x.2.1 x.2.2.1 (fun x1 x2 x3 => kc (x1, x2, x3, ())) (fun y1 => ke.1 (y1, ())) := by kernel_rfl
noncomputable def G92_3 : Nat → LT92_3
  | 0 => fun _ _ _ _ _ => none
  | n + 1 => fun R x1 x2 x3 k0 => p92_3 R x1 x2 x3 (fun x1 x2 x3 => G92_3 n R x1 x2 x3 k0) k0
def p92 (L3 : LT92_3) : FT92 := fun R a0 k =>
L3 R (0 : Int) a0 ([] : (List Int)) (fun x1 =>
k x1)
theorem q92 (L3 : LT92_3) (F : FT92) (R : Type) (x : AT (en92 F).ins) (k : RT (en92 F).outs → PT (en92 F).ins → Option R) :
  xfun (e92 L3 R) (codeOf Try.f92) res92 (avs (en92 F).ins x) (finK (en92 F).outs (en92 F).ins k) = p92 L3 R x.1 (fun y1 => k (y1, ()) ()) := by kernel_rfl
noncomputable def F92 : FT92 := p92 (G92_3 FUEL)
theorem env92 (R : Type) : EnvOK Try.prog (e92 (G92_3 FUEL) R) := ⟨tabOK, eqOK, callOf_ok allE_nil, noIns⟩
noncomputable def T92_3 : (R : Type) → HT (le92_3 (G92_3 FUEL)).H → (HT (le92_3 (G92_3 FUEL)).H → Option R) → KT R (le92_3 (G92_3 FUEL)).exs → Option R := fun R x kc ke => p92_3 R x.1 x.2.1 x.2.2.1 (fun x1 x2 x3 => kc (x1, x2, x3, ())) (fun y1 => ke.1 (y1, ()))
theorem it92_3 : ∀ (n : Nat) (R : Type) (x : HT (le92_3 (G92_3 FUEL)).H) (ke : KT R (le92_3 (G92_3 FUEL)).exs), iter T92_3 n R x ke = G92_3 n R x.1 x.2.1 x.2.2.1 (fun y1 => ke.1 (y1, ())) := by
  intro n
  induction n with
  | zero => intro R x ke; rfl
  | succ n ih =>
    intro R x ke
    show T92_3 R x (fun x' => iter T92_3 n R x' ke) ke = _
    rw [show (fun x' => iter T92_3 n R x' ke) = fun x => G92_3 n R x.1 x.2.1 x.2.2.1 (fun y1 => ke.1 (y1, ())) from funext fun x' => ih R x' ke]
    rfl
theorem lok92_3 : (le92_3 (G92_3 FUEL)).OK Try.prog 0 16 (lcode 3 (codeOf Try.f92)) := fun R x ke r h =>
  iter_sound (fun R => e92 (G92_3 FUEL) R) 0 16 (fun _ => rfl) (fun _ => rfl) (fun R => env92 R) mixed (by
    intro R
    rw [show loopsOf (lcode 3 (codeOf Try.f92)) = [] from by kernel_rfl]
    exact allM_nil) (T := T92_3) (fun R x kc ke => q92_3 (G92_3 FUEL) R x kc ke) FUEL R x ke r ((it92_3 FUEL R x ke).trans h)
theorem ok92 : (en92 F92).OK Try.prog :=
  ent_ok (Ef := fun R => e92 (G92_3 FUEL) R) (fun R => env92 R) mixed Try.func92 (body := codeOf Try.f92) (by kernel_rfl) (by kernel_rfl) (np := 0) (nt := 16) (fun _ => rfl) (fun _ => rfl) (by kernel_rfl) (res := res92) (by kernel_rfl) (fun _ => rfl) (fun _ => Nat.le_of_ble_eq_true rfl) (by
    intro R
    rw [show loopsOf (codeOf Try.f92) = [lcode 3 (codeOf Try.f92)] from by kernel_rfl]
    exact (allM_cons (loop_ok2 (e := le92_3 (G92_3 FUEL)) rfl rfl lok92_3) allM_nil)) (fun R x k => q92 (G92_3 FUEL) F92 R x k)
/-! drawlot/drawlotref01.Put64 -/
abbrev FT96 : Type 1 := (R : Type) → Int → ((List Int) → Option R) → Option R
def en96 (F : FT96) : Ent := ⟨96, [(false, (.int .u64))], [(false, (.arr 8 (.int .u8)))], fun R x k => F R x.1 (fun y1 => k (y1, ()) ())⟩
def res96 : List (ResultVar × TypeId × Bool) := [(.cell 2 124, 124, false)]
abbrev LT96_3 : Type 1 := (R : Type) → Int → Int → (List Int) → (List Int) → ((List Int) → (List Int) → Option R) → Option R
def le96_3 (L : LT96_3) : LEnt := ⟨3, [.val 0 (.int .u64), .fix 2 (.ptr 0 [] (.arr 8 (.int .u8))), .fix 3 (.ptr 1 [] (.arr 8 (.int .u8))), .val 4 (.int .i64), .var 0 (.arr 8 (.int .u8)) false, .var 1 (.arr 8 (.int .u8)) false], 2, [(.exit 0, [.fix 2 (.ptr 0 [] (.arr 8 (.int .u8))), .fix 3 (.ptr 1 [] (.arr 8 (.int .u8))), .var 0 (.arr 8 (.int .u8)) false, .var 1 (.arr 8 (.int .u8)) false])], fun R x ke => L R x.1 x.2.1 x.2.2.1 x.2.2.2.1 (fun y1 y2 => ke.1 (y1, y2, ()))⟩
def e96 (L3 : LT96_3) (R : Type) : Env R := ⟨TT, EQT, 0, 17, ownOf [], callOf [] R, loopOf [le96_3 L3] R, []⟩
def p96_3 : (R : Type) → Int → Int → (List Int) → (List Int) → (Int → Int → (List Int) → (List Int) → Option R) → ((List Int) → (List Int) → Option R) → Option R := fun R x1 x2 x3 x4 kc k0 =>
let v5 : Bool := (decide (x2 ≥ (0 : Int)));
(match v5 with
| true => let v6 : Int := (Int.tmod x1 (256 : Int));
let v7 : Int := (IntKind.u8.wrap v6);
(match (bnd x2 (8 : Int)) with
| true => let v8 : (List Int) := (List.set x4 (Int.toNat x2) v7);
let v9 : Int := (IntKind.u64.wrap (Int.tdiv x1 (256 : Int)));
let v10 : Int := (IntKind.i64.wrap (x2 - (1 : Int)));
kc v9 v10 x3 v8
| false => none)
| false => k0 x3 x4)
theorem q96_3 (L3 : LT96_3) (R : Type) (x : HT (le96_3 L3).H) (kc : HT (le96_3 L3).H → Option R) (ke : KT R (le96_3 L3).exs) :
  exec (e96 L3 R) (lcode 3 (codeOf Try.f96)) (stOf (le96_3 L3).H x 2) (roundK (le96_3 L3).H (le96_3 L3).exs kc ke) =
    p96_3 R x.1 x.2.1 x.2.2.1 x.2.2.2.1 (fun x1 x2 x3 x4 => kc (x1, x2, x3, x4, ())) (fun y1 y2 => ke.1 (y1, y2, ())) := by kernel_rfl
noncomputable def G96_3 : Nat → LT96_3
  | 0 => fun _ _ _ _ _ _ => none
  | n + 1 => fun R x1 x2 x3 x4 k0 => p96_3 R x1 x2 x3 x4 (fun x1 x2 x3 x4 => G96_3 n R x1 x2 x3 x4 k0) k0
def p96 (L3 : LT96_3) : FT96 := fun R a0 k =>
L3 R a0 (7 : Int) (List.replicate 8 (0 : Int)) (List.replicate 8 (0 : Int)) (fun x1 x2 =>
k x2)
theorem q96 (L3 : LT96_3) (F : FT96) (R : Type) (x : AT (en96 F).ins) (k : RT (en96 F).outs → PT (en96 F).ins → Option R) :
  xfun (e96 L3 R) (codeOf Try.f96) res96 (avs (en96 F).ins x) (finK (en96 F).outs (en96 F).ins k) = p96 L3 R x.1 (fun y1 => k (y1, ()) ()) := by kernel_rfl
noncomputable def F96 : FT96 := p96 (G96_3 FUEL)
theorem env96 (R : Type) : EnvOK Try.prog (e96 (G96_3 FUEL) R) := ⟨tabOK, eqOK, callOf_ok allE_nil, noIns⟩
noncomputable def T96_3 : (R : Type) → HT (le96_3 (G96_3 FUEL)).H → (HT (le96_3 (G96_3 FUEL)).H → Option R) → KT R (le96_3 (G96_3 FUEL)).exs → Option R := fun R x kc ke => p96_3 R x.1 x.2.1 x.2.2.1 x.2.2.2.1 (fun x1 x2 x3 x4 => kc (x1, x2, x3, x4, ())) (fun y1 y2 => ke.1 (y1, y2, ()))
theorem it96_3 : ∀ (n : Nat) (R : Type) (x : HT (le96_3 (G96_3 FUEL)).H) (ke : KT R (le96_3 (G96_3 FUEL)).exs), iter T96_3 n R x ke = G96_3 n R x.1 x.2.1 x.2.2.1 x.2.2.2.1 (fun y1 y2 => ke.1 (y1, y2, ())) := by
  intro n
  induction n with
  | zero => intro R x ke; rfl
  | succ n ih =>
    intro R x ke
    show T96_3 R x (fun x' => iter T96_3 n R x' ke) ke = _
    rw [show (fun x' => iter T96_3 n R x' ke) = fun x => G96_3 n R x.1 x.2.1 x.2.2.1 x.2.2.2.1 (fun y1 y2 => ke.1 (y1, y2, ())) from funext fun x' => ih R x' ke]
    rfl
theorem lok96_3 : (le96_3 (G96_3 FUEL)).OK Try.prog 0 17 (lcode 3 (codeOf Try.f96)) := fun R x ke r h =>
  iter_sound (fun R => e96 (G96_3 FUEL) R) 0 17 (fun _ => rfl) (fun _ => rfl) (fun R => env96 R) mixed (by
    intro R
    rw [show loopsOf (lcode 3 (codeOf Try.f96)) = [] from by kernel_rfl]
    exact allM_nil) (T := T96_3) (fun R x kc ke => q96_3 (G96_3 FUEL) R x kc ke) FUEL R x ke r ((it96_3 FUEL R x ke).trans h)
theorem ok96 : (en96 F96).OK Try.prog :=
  ent_ok (Ef := fun R => e96 (G96_3 FUEL) R) (fun R => env96 R) mixed Try.func96 (body := codeOf Try.f96) (by kernel_rfl) (by kernel_rfl) (np := 0) (nt := 17) (fun _ => rfl) (fun _ => rfl) (by kernel_rfl) (res := res96) (by kernel_rfl) (fun _ => rfl) (fun _ => Nat.le_of_ble_eq_true rfl) (by
    intro R
    rw [show loopsOf (codeOf Try.f96) = [lcode 3 (codeOf Try.f96)] from by kernel_rfl]
    exact (allM_cons (loop_ok2 (e := le96_3 (G96_3 FUEL)) rfl rfl lok96_3) allM_nil)) (fun R x k => q96 (G96_3 FUEL) F96 R x k)
/-! drawlot/drawlotref02.Tail -/
abbrev FT144 : Type 1 := (R : Type) → (List Int) → Int → ((List Int) → Bool → Option R) → Option R
def en144 (F : FT144) : Ent := ⟨144, [(false, (.sl (.int .u8))), (false, (.int .u64))], [(false, (.sl (.int .u8))), (false, .bool)], fun R x k => F R x.1 x.2.1 (fun y1 y2 => k (y1, y2, ()) ())⟩
def res144 : List (ResultVar × TypeId × Bool) := [(.tmp 4, 23, false), (.tmp 5, 4, false)]
abbrev LT144_4 : Type 1 := (R : Type) → Int → (List Int) → (Int → (List Int) → Option R) → Option R
def le144_4 (L : LT144_4) : LEnt := ⟨4, [.val 1 (.int .u64), .fix 6 (.own 0 0), .row 0 (.int .u8) false], 1, [(.exit 0, [.val 1 (.int .u64), .fix 6 (.own 0 0), .row 0 (.int .u8) false])], fun R x ke => L R x.1 x.2.1 (fun y1 y2 => ke.1 (y1, y2, ()))⟩
abbrev LT144_8 : Type 1 := (R : Type) → Int → (List Int) → (List Int) → ((List Int) → Option R) → Option R
def le144_8 (L : LT144_8) : LEnt := ⟨8, [.fix 6 (.own 0 0), .fix 7 (.ptr 1 [] (.arr 8 (.int .u8))), .val 8 (.int .i64), .row 0 (.int .u8) false, .var 1 (.arr 8 (.int .u8)) false], 2, [(.exit 2, [.fix 6 (.own 0 0), .row 0 (.int .u8) false])], fun R x ke => L R x.1 x.2.1 x.2.2.1 (fun y1 => ke.1 (y1, ()))⟩
def e144 (F96 : FT96) (L4 : LT144_4) (L8 : LT144_8) (R : Type) : Env R := ⟨TT, EQT, 0, 45, ownOf [(3, 0)], callOf [en96 F96] R, loopOf [le144_4 L4, le144_8 L8] R, []⟩
def p144_4 : (R : Type) → Int → (List Int) → (Int → (List Int) → Option R) → (Int → (List Int) → Option R) → Option R := fun R x1 x2 kc k0 =>
let v3 : Int := (List.length x2 : Int);
let v4 : Int := (Int.tmod v3 (64 : Int));
let v5 : Bool := (v4 != (56 : Int));
(match v5 with
| true => let v6 : (List Int) := ([(0 : Int)] : (List Int));
(match (decide (List.length x2 + List.length v6 ≤ 140737488355328)) with
| true => let v7 : (List Int) := (x2 ++ v6);
kc x1 v7
| false => none)
| false => k0 x1 x2)
theorem q144_4 (F96 : FT96) (L4 : LT144_4) (L8 : LT144_8) (R : Type) (x : HT (le144_4 L4).H) (kc : HT (le144_4 L4).H → Option R) (ke : KT R (le144_4 L4).exs) :
  exec (e144 F96 L4 L8 R) (lcode 4 (codeOf Try.f144)) (stOf (le144_4 L4).H x 1) (roundK (le144_4 L4).H (le144_4 L4).exs kc ke) =
    p144_4 R x.1 x.2.1 (fun x1 x2 => kc (x1, x2, ())) (fun y1 y2 => ke.1 (y1, y2, ())) := by kernel_rfl
noncomputable def G144_4 : Nat → LT144_4
  | 0 => fun _ _ _ _ => none
  | n + 1 => fun R x1 x2 k0 => p144_4 R x1 x2 (fun x1 x2 => G144_4 n R x1 x2 k0) k0
def p144_8 : (R : Type) → Int → (List Int) → (List Int) → (Int → (List Int) → (List Int) → Option R) → ((List Int) → Option R) → Option R := fun R x1 x2 x3 kc k0 =>
let v4 : Bool := (decide (x1 < (8 : Int)));
(match v4 with
| true => (match (bnd x1 (8 : Int)) with
| true => let v5 : Int := (List.getD x3 (Int.toNat x1) (0 : Int));
let v6 : (List Int) := ([v5] : (List Int));
(match (decide (List.length x2 + List.length v6 ≤ 140737488355328)) with
| true => let v7 : (List Int) := (x2 ++ v6);
let v8 : Int := (IntKind.i64.wrap (x1 + (1 : Int)));
kc v8 v7 x3
| false => none)
| false => none)
| false => k0 x2)
theorem q144_8 (F96 : FT96) (L4 : LT144_4) (L8 : LT144_8) (R : Type) (x : HT (le144_8 L8).H) (kc : HT (le144_8 L8).H → Option R) (ke : KT R (le144_8 L8).exs) :
  exec (e144 F96 L4 L8 R) (lcode 8 (codeOf Try.f144)) (stOf (le144_8 L8).H x 2) (roundK (le144_8 L8).H (le144_8 L8).exs kc ke) =
    p144_8 R x.1 x.2.1 x.2.2.1 (fun x1 x2 x3 => kc (x1, x2, x3, ())) (fun y1 => ke.1 (y1, ())) := by kernel_rfl
noncomputable def G144_8 : Nat → LT144_8
  | 0 => fun _ _ _ _ _ => none
  | n + 1 => fun R x1 x2 x3 k0 => p144_8 R x1 x2 x3 (fun x1 x2 x3 => G144_8 n R x1 x2 x3 k0) k0
def p144 (F96 : FT96) (L4 : LT144_4) (L8 : LT144_8) : FT144 := fun R a0 a1 k =>
let v1 : Bool := (decide (a1 ≥ (2305843009213693952 : Int)));
(match v1 with
| true => k ([] : (List Int)) false
| false => let v2 : Int := (List.length a0 : Int);
let v3 : Int := (IntKind.u64.wrap v2);
let v4 : Int := (Int.tmod a1 (64 : Int));
let v5 : Bool := (v3 != v4);
(match v5 with
| true => k ([] : (List Int)) false
| false => let v6 : (List Int) := ([] : (List Int));
(match (decide (List.length v6 + List.length a0 ≤ 140737488355328)) with
| true => let v7 : (List Int) := (v6 ++ a0);
let v8 : (List Int) := ([(128 : Int)] : (List Int));
(match (decide (List.length v7 + List.length v8 ≤ 140737488355328)) with
| true => let v9 : (List Int) := (v7 ++ v8);
L4 R a1 v9 (fun x10 x11 =>
let v12 : Int := (IntKind.u64.wrap ((8 : Int) * x10));
F96 R v12 fun y13 =>
L8 R (0 : Int) x11 y13 (fun x14 =>
k x14 true))
| false => none)
| false => none)))
theorem q144 (F96 : FT96) (L4 : LT144_4) (L8 : LT144_8) (F : FT144) (R : Type) (x : AT (en144 F).ins) (k : RT (en144 F).outs → PT (en144 F).ins → Option R) :
  xfun (e144 F96 L4 L8 R) (codeOf Try.f144) res144 (avs (en144 F).ins x) (finK (en144 F).outs (en144 F).ins k) = p144 F96 L4 L8 R x.1 x.2.1 (fun y1 y2 => k (y1, y2, ()) ()) := by kernel_rfl
noncomputable def F144 : FT144 := p144 F96 (G144_4 FUEL) (G144_8 FUEL)
theorem env144 (R : Type) : EnvOK Try.prog (e144 F96 (G144_4 FUEL) (G144_8 FUEL) R) := ⟨tabOK, eqOK, callOf_ok (allE_cons ok96 allE_nil), noIns⟩
noncomputable def T144_4 : (R : Type) → HT (le144_4 (G144_4 FUEL)).H → (HT (le144_4 (G144_4 FUEL)).H → Option R) → KT R (le144_4 (G144_4 FUEL)).exs → Option R := fun R x kc ke => p144_4 R x.1 x.2.1 (fun x1 x2 => kc (x1, x2, ())) (fun y1 y2 => ke.1 (y1, y2, ()))
theorem it144_4 : ∀ (n : Nat) (R : Type) (x : HT (le144_4 (G144_4 FUEL)).H) (ke : KT R (le144_4 (G144_4 FUEL)).exs), iter T144_4 n R x ke = G144_4 n R x.1 x.2.1 (fun y1 y2 => ke.1 (y1, y2, ())) := by
  intro n
  induction n with
  | zero => intro R x ke; rfl
  | succ n ih =>
    intro R x ke
    show T144_4 R x (fun x' => iter T144_4 n R x' ke) ke = _
    rw [show (fun x' => iter T144_4 n R x' ke) = fun x => G144_4 n R x.1 x.2.1 (fun y1 y2 => ke.1 (y1, y2, ())) from funext fun x' => ih R x' ke]
    rfl
theorem lok144_4 : (le144_4 (G144_4 FUEL)).OK Try.prog 0 45 (lcode 4 (codeOf Try.f144)) := fun R x ke r h =>
  iter_sound (fun R => e144 F96 (G144_4 FUEL) (G144_8 FUEL) R) 0 45 (fun _ => rfl) (fun _ => rfl) (fun R => env144 R) mixed (by
    intro R
    rw [show loopsOf (lcode 4 (codeOf Try.f144)) = [] from by kernel_rfl]
    exact allM_nil) (T := T144_4) (fun R x kc ke => q144_4 F96 (G144_4 FUEL) (G144_8 FUEL) R x kc ke) FUEL R x ke r ((it144_4 FUEL R x ke).trans h)
noncomputable def T144_8 : (R : Type) → HT (le144_8 (G144_8 FUEL)).H → (HT (le144_8 (G144_8 FUEL)).H → Option R) → KT R (le144_8 (G144_8 FUEL)).exs → Option R := fun R x kc ke => p144_8 R x.1 x.2.1 x.2.2.1 (fun x1 x2 x3 => kc (x1, x2, x3, ())) (fun y1 => ke.1 (y1, ()))
theorem it144_8 : ∀ (n : Nat) (R : Type) (x : HT (le144_8 (G144_8 FUEL)).H) (ke : KT R (le144_8 (G144_8 FUEL)).exs), iter T144_8 n R x ke = G144_8 n R x.1 x.2.1 x.2.2.1 (fun y1 => ke.1 (y1, ())) := by
  intro n
  induction n with
  | zero => intro R x ke; rfl
  | succ n ih =>
    intro R x ke
    show T144_8 R x (fun x' => iter T144_8 n R x' ke) ke = _
    rw [show (fun x' => iter T144_8 n R x' ke) = fun x => G144_8 n R x.1 x.2.1 x.2.2.1 (fun y1 => ke.1 (y1, ())) from funext fun x' => ih R x' ke]
    rfl
theorem lok144_8 : (le144_8 (G144_8 FUEL)).OK Try.prog 0 45 (lcode 8 (codeOf Try.f144)) := fun R x ke r h =>
  iter_sound (fun R => e144 F96 (G144_4 FUEL) (G144_8 FUEL) R) 0 45 (fun _ => rfl) (fun _ => rfl) (fun R => env144 R) mixed (by
    intro R
    rw [show loopsOf (lcode 8 (codeOf Try.f144)) = [] from by kernel_rfl]
    exact allM_nil) (T := T144_8) (fun R x kc ke => q144_8 F96 (G144_4 FUEL) (G144_8 FUEL) R x kc ke) FUEL R x ke r ((it144_8 FUEL R x ke).trans h)
theorem ok144 : (en144 F144).OK Try.prog :=
  ent_ok (Ef := fun R => e144 F96 (G144_4 FUEL) (G144_8 FUEL) R) (fun R => env144 R) mixed Try.func144 (body := codeOf Try.f144) (by kernel_rfl) (by kernel_rfl) (np := 0) (nt := 45) (fun _ => rfl) (fun _ => rfl) (by kernel_rfl) (res := res144) (by kernel_rfl) (fun _ => rfl) (fun _ => Nat.le_of_ble_eq_true rfl) (by
    intro R
    rw [show loopsOf (codeOf Try.f144) = [lcode 4 (codeOf Try.f144), lcode 8 (codeOf Try.f144)] from by kernel_rfl]
    exact (allM_cons (loop_ok2 (e := le144_4 (G144_4 FUEL)) rfl rfl lok144_4) (allM_cons (loop_ok2 (e := le144_8 (G144_8 FUEL)) rfl rfl lok144_8) allM_nil))) (fun R x k => q144 F96 (G144_4 FUEL) (G144_8 FUEL) F144 R x k)
/-! drawlot/drawlotref02.Pad -/
abbrev FT122 : Type 1 := (R : Type) → (List Int) → ((List Int) → Option R) → Option R
def en122 (F : FT122) : Ent := ⟨122, [(false, (.sl (.int .u8)))], [(false, (.sl (.int .u8)))], fun R x k => F R x.1 (fun y1 => k (y1, ()) ())⟩
def res122 : List (ResultVar × TypeId × Bool) := [(.tmp 2, 23, false)]
def e122 (F144 : FT144) (R : Type) : Env R := ⟨TT, EQT, 0, 29, ownOf [(3, 0)], callOf [en144 F144] R, loopOf [] R, []⟩
def p122 (F144 : FT144) : FT122 := fun R a0 k =>
let v1 : Int := (List.length a0 : Int);
let v2 : Int := (List.length a0 : Int);
let v3 : Int := (Int.tmod v2 (64 : Int));
let v4 : Int := (IntKind.i64.wrap (v1 - v3));
(match (decide (0 ≤ v4 ∧ v4 ≤ (List.length a0 : Int) ∧ (List.length a0 : Int) ≤ (List.length a0 : Int) ∧ (List.length a0 : Int) ≤ (List.length a0 : Int))) with
| true => let v5 : (List Int) := (List.take (Int.toNat ((List.length a0 : Int) - v4)) (List.drop (Int.toNat v4) a0));
let v6 : Int := (List.length a0 : Int);
let v7 : Int := (IntKind.u64.wrap v6);
F144 R v5 v7 fun y8 y9 =>
let v10 : (List Int) := ([] : (List Int));
(match (decide (0 ≤ (0 : Int) ∧ (0 : Int) ≤ v4 ∧ v4 ≤ v4 ∧ v4 ≤ (List.length a0 : Int))) with
| true => let v11 : (List Int) := (List.take (Int.toNat (v4 - (0 : Int))) (List.drop 0 a0));
(match (decide (List.length v10 + List.length v11 ≤ 140737488355328)) with
| true => let v12 : (List Int) := (v10 ++ v11);
(match (decide (List.length v12 + List.length y8 ≤ 140737488355328)) with
| true => let v13 : (List Int) := (v12 ++ y8);
k v13
| false => none)
| false => none)
| false => none)
| false => none)
theorem q122 (F144 : FT144) (F : FT122) (R : Type) (x : AT (en122 F).ins) (k : RT (en122 F).outs → PT (en122 F).ins → Option R) :
  xfun (e122 F144 R) (codeOf Try.f122) res122 (avs (en122 F).ins x) (finK (en122 F).outs (en122 F).ins k) = p122 F144 R x.1 (fun y1 => k (y1, ()) ()) := by kernel_rfl
noncomputable def F122 : FT122 := p122 F144
theorem env122 (R : Type) : EnvOK Try.prog (e122 F144 R) := ⟨tabOK, eqOK, callOf_ok (allE_cons ok144 allE_nil), noIns⟩
theorem ok122 : (en122 F122).OK Try.prog :=
  ent_ok (Ef := fun R => e122 F144 R) (fun R => env122 R) mixed Try.func122 (body := codeOf Try.f122) (by kernel_rfl) (by kernel_rfl) (np := 0) (nt := 29) (fun _ => rfl) (fun _ => rfl) (by kernel_rfl) (res := res122) (by kernel_rfl) (fun _ => rfl) (fun _ => Nat.le_of_ble_eq_true rfl) (by
    intro R
    rw [show loopsOf (codeOf Try.f122) = [] from by kernel_rfl]
    exact allM_nil) (fun R x k => q122 F144 F122 R x k)
/-! drawlot/drawlotref02.Cut -/
abbrev FT121 : Type 1 := (R : Type) → (List Int) → ((List (List Int)) → (List Int) → Option R) → Option R
def en121 (F : FT121) : Ent := ⟨121, [(false, (.sl (.int .u8)))], [(false, (.sl (.arr 64 (.int .u8)))), (false, (.sl (.int .u8)))], fun R x k => F R x.1 (fun y1 y2 => k (y1, y2, ()) ())⟩
def res121 : List (ResultVar × TypeId × Bool) := [(.tmp 2, 149, false), (.tmp 3, 23, false)]
abbrev LT121_3 : Type 1 := (R : Type) → (List Int) → Int → (List (List Int)) → ((List Int) → Int → (List (List Int)) → Option R) → Option R
def le121_3 (L : LT121_3) : LEnt := ⟨3, [.val 0 (.sl (.int .u8)), .fix 4 (.own 0 0), .val 5 (.int .i64), .row 0 (.arr 64 (.int .u8)) false], 1, [(.exit 0, [.val 0 (.sl (.int .u8)), .fix 4 (.own 0 0), .val 5 (.int .i64), .row 0 (.arr 64 (.int .u8)) false])], fun R x ke => L R x.1 x.2.1 x.2.2.1 (fun y1 y2 y3 => ke.1 (y1, y2, y3, ()))⟩
abbrev LT121_6 : Type 1 := (R : Type) → (List Int) → Int → Int → (List (List Int)) → (List Int) → ((List Int) → Int → (List (List Int)) → (List Int) → Option R) → Option R
def le121_6 (L : LT121_6) : LEnt := ⟨6, [.val 0 (.sl (.int .u8)), .fix 4 (.own 0 0), .val 5 (.int .i64), .fix 6 (.ptr 1 [] (.arr 64 (.int .u8))), .val 7 (.int .i64), .row 0 (.arr 64 (.int .u8)) false, .var 1 (.arr 64 (.int .u8)) false], 2, [(.exit 2, [.val 0 (.sl (.int .u8)), .fix 4 (.own 0 0), .val 5 (.int .i64), .fix 6 (.ptr 1 [] (.arr 64 (.int .u8))), .row 0 (.arr 64 (.int .u8)) false, .var 1 (.arr 64 (.int .u8)) false])], fun R x ke => L R x.1 x.2.1 x.2.2.1 x.2.2.2.1 x.2.2.2.2.1 (fun y1 y2 y3 y4 => ke.1 (y1, y2, y3, y4, ()))⟩
def e121 (L3 : LT121_3) (L6 : LT121_6) (R : Type) : Env R := ⟨TT, EQT, 0, 35, ownOf [(1, 0)], callOf [] R, loopOf [le121_3 L3, le121_6 L6] R, []⟩
def p121_6 : (R : Type) → (List Int) → Int → Int → (List (List Int)) → (List Int) → ((List Int) → Int → Int → (List (List Int)) → (List Int) → Option R) → ((List Int) → Int → (List (List Int)) → (List Int) → Option R) → Option R := fun R x1 x2 x3 x4 x5 kc k0 =>
let v6 : Bool := (decide (x3 < (64 : Int)));
(match v6 with
| true => let v7 : Int := (IntKind.i64.wrap (x2 + x3));
(match (bnd v7 (List.length x1 : Int)) with
| true => let v8 : Int := (List.getD x1 (Int.toNat v7) (0 : Int));
(match (bnd x3 (64 : Int)) with
| true => let v9 : (List Int) := (List.set x5 (Int.toNat x3) v8);
let v10 : Int := (IntKind.i64.wrap (x3 + (1 : Int)));
kc x1 x2 v10 x4 v9
| false => none)
| false => none)
| false => k0 x1 x2 x4 x5)
theorem q121_6 (L3 : LT121_3) (L6 : LT121_6) (R : Type) (x : HT (le121_6 L6).H) (kc : HT (le121_6 L6).H → Option R) (ke : KT R (le121_6 L6).exs) :
  exec (e121 L3 L6 R) (lcode 6 (codeOf Try.f121)) (stOf (le121_6 L6).H x 2) (roundK (le121_6 L6).H (le121_6 L6).exs kc ke) =
    p121_6 R x.1 x.2.1 x.2.2.1 x.2.2.2.1 x.2.2.2.2.1 (fun x1 x2 x3 x4 x5 => kc (x1, x2, x3, x4, x5, ())) (fun y1 y2 y3 y4 => ke.1 (y1, y2, y3, y4, ())) := by kernel_rfl
noncomputable def G121_6 : Nat → LT121_6
  | 0 => fun _ _ _ _ _ _ _ => none
  | n + 1 => fun R x1 x2 x3 x4 x5 k0 => p121_6 R x1 x2 x3 x4 x5 (fun x1 x2 x3 x4 x5 => G121_6 n R x1 x2 x3 x4 x5 k0) k0
def p121_3 (L6 : LT121_6) : (R : Type) → (List Int) → Int → (List (List Int)) → ((List Int) → Int → (List (List Int)) → Option R) → ((List Int) → Int → (List (List Int)) → Option R) → Option R := fun R x1 x2 x3 kc k0 =>
let v4 : Int := (IntKind.i64.wrap (x2 + (64 : Int)));
let v5 : Int := (List.length x1 : Int);
let v6 : Bool := (decide (v4 ≤ v5));
(match v6 with
| true => L6 R x1 x2 (0 : Int) x3 (List.replicate 64 (0 : Int)) (fun x7 x8 x9 x10 =>
let v11 : (List (List Int)) := ([x10] : (List (List Int)));
(match (decide (List.length x9 + List.length v11 ≤ 2199023255552)) with
| true => let v12 : (List (List Int)) := (x9 ++ v11);
let v13 : Int := (IntKind.i64.wrap (x8 + (64 : Int)));
kc x7 v13 v12
| false => none))
| false => k0 x1 x2 x3)
theorem q121_3 (L3 : LT121_3) (L6 : LT121_6) (R : Type) (x : HT (le121_3 L3).H) (kc : HT (le121_3 L3).H → Option R) (ke : KT R (le121_3 L3).exs) :
  exec (e121 L3 L6 R) (lcode 3 (codeOf Try.f121)) (stOf (le121_3 L3).H x 1) (roundK (le121_3 L3).H (le121_3 L3).exs kc ke) =
    p121_3 L6 R x.1 x.2.1 x.2.2.1 (fun x1 x2 x3 => kc (x1, x2, x3, ())) (fun y1 y2 y3 => ke.1 (y1, y2, y3, ())) := by kernel_rfl
noncomputable def G121_3 : Nat → LT121_3
  | 0 => fun _ _ _ _ _ => none
  | n + 1 => fun R x1 x2 x3 k0 => p121_3 (G121_6 FUEL) R x1 x2 x3 (fun x1 x2 x3 => G121_3 n R x1 x2 x3 k0) k0
def p121 (L3 : LT121_3) : FT121 := fun R a0 k =>
L3 R a0 (0 : Int) ([] : (List (List Int))) (fun x1 x2 x3 =>
(match (decide (0 ≤ x2 ∧ x2 ≤ (List.length x1 : Int) ∧ (List.length x1 : Int) ≤ (List.length x1 : Int) ∧ (List.length x1 : Int) ≤ (List.length x1 : Int))) with
| true => let v4 : (List Int) := (List.take (Int.toNat ((List.length x1 : Int) - x2)) (List.drop (Int.toNat x2) x1));
k x3 v4
| false => none))
theorem q121 (L3 : LT121_3) (L6 : LT121_6) (F : FT121) (R : Type) (x : AT (en121 F).ins) (k : RT (en121 F).outs → PT (en121 F).ins → Option R) :
  xfun (e121 L3 L6 R) (codeOf Try.f121) res121 (avs (en121 F).ins x) (finK (en121 F).outs (en121 F).ins k) = p121 L3 R x.1 (fun y1 y2 => k (y1, y2, ()) ()) := by kernel_rfl
noncomputable def F121 : FT121 := p121 (G121_3 FUEL)
theorem env121 (R : Type) : EnvOK Try.prog (e121 (G121_3 FUEL) (G121_6 FUEL) R) := ⟨tabOK, eqOK, callOf_ok allE_nil, noIns⟩
noncomputable def T121_6 : (R : Type) → HT (le121_6 (G121_6 FUEL)).H → (HT (le121_6 (G121_6 FUEL)).H → Option R) → KT R (le121_6 (G121_6 FUEL)).exs → Option R := fun R x kc ke => p121_6 R x.1 x.2.1 x.2.2.1 x.2.2.2.1 x.2.2.2.2.1 (fun x1 x2 x3 x4 x5 => kc (x1, x2, x3, x4, x5, ())) (fun y1 y2 y3 y4 => ke.1 (y1, y2, y3, y4, ()))
theorem it121_6 : ∀ (n : Nat) (R : Type) (x : HT (le121_6 (G121_6 FUEL)).H) (ke : KT R (le121_6 (G121_6 FUEL)).exs), iter T121_6 n R x ke = G121_6 n R x.1 x.2.1 x.2.2.1 x.2.2.2.1 x.2.2.2.2.1 (fun y1 y2 y3 y4 => ke.1 (y1, y2, y3, y4, ())) := by
  intro n
  induction n with
  | zero => intro R x ke; rfl
  | succ n ih =>
    intro R x ke
    show T121_6 R x (fun x' => iter T121_6 n R x' ke) ke = _
    rw [show (fun x' => iter T121_6 n R x' ke) = fun x => G121_6 n R x.1 x.2.1 x.2.2.1 x.2.2.2.1 x.2.2.2.2.1 (fun y1 y2 y3 y4 => ke.1 (y1, y2, y3, y4, ())) from funext fun x' => ih R x' ke]
    rfl
theorem lok121_6 : (le121_6 (G121_6 FUEL)).OK Try.prog 0 35 (lcode 6 (codeOf Try.f121)) := fun R x ke r h =>
  iter_sound (fun R => e121 (G121_3 FUEL) (G121_6 FUEL) R) 0 35 (fun _ => rfl) (fun _ => rfl) (fun R => env121 R) mixed (by
    intro R
    rw [show loopsOf (lcode 6 (codeOf Try.f121)) = [] from by kernel_rfl]
    exact allM_nil) (T := T121_6) (fun R x kc ke => q121_6 (G121_3 FUEL) (G121_6 FUEL) R x kc ke) FUEL R x ke r ((it121_6 FUEL R x ke).trans h)
noncomputable def T121_3 : (R : Type) → HT (le121_3 (G121_3 FUEL)).H → (HT (le121_3 (G121_3 FUEL)).H → Option R) → KT R (le121_3 (G121_3 FUEL)).exs → Option R := fun R x kc ke => p121_3 (G121_6 FUEL) R x.1 x.2.1 x.2.2.1 (fun x1 x2 x3 => kc (x1, x2, x3, ())) (fun y1 y2 y3 => ke.1 (y1, y2, y3, ()))
theorem it121_3 : ∀ (n : Nat) (R : Type) (x : HT (le121_3 (G121_3 FUEL)).H) (ke : KT R (le121_3 (G121_3 FUEL)).exs), iter T121_3 n R x ke = G121_3 n R x.1 x.2.1 x.2.2.1 (fun y1 y2 y3 => ke.1 (y1, y2, y3, ())) := by
  intro n
  induction n with
  | zero => intro R x ke; rfl
  | succ n ih =>
    intro R x ke
    show T121_3 R x (fun x' => iter T121_3 n R x' ke) ke = _
    rw [show (fun x' => iter T121_3 n R x' ke) = fun x => G121_3 n R x.1 x.2.1 x.2.2.1 (fun y1 y2 y3 => ke.1 (y1, y2, y3, ())) from funext fun x' => ih R x' ke]
    rfl
theorem lok121_3 : (le121_3 (G121_3 FUEL)).OK Try.prog 0 35 (lcode 3 (codeOf Try.f121)) := fun R x ke r h =>
  iter_sound (fun R => e121 (G121_3 FUEL) (G121_6 FUEL) R) 0 35 (fun _ => rfl) (fun _ => rfl) (fun R => env121 R) mixed (by
    intro R
    rw [show loopsOf (lcode 3 (codeOf Try.f121)) = [lcode 6 (codeOf Try.f121)] from by kernel_rfl]
    exact (allM_cons (loop_ok2 (e := le121_6 (G121_6 FUEL)) rfl rfl lok121_6) allM_nil)) (T := T121_3) (fun R x kc ke => q121_3 (G121_3 FUEL) (G121_6 FUEL) R x kc ke) FUEL R x ke r ((it121_3 FUEL R x ke).trans h)
theorem ok121 : (en121 F121).OK Try.prog :=
  ent_ok (Ef := fun R => e121 (G121_3 FUEL) (G121_6 FUEL) R) (fun R => env121 R) mixed Try.func121 (body := codeOf Try.f121) (by kernel_rfl) (by kernel_rfl) (np := 0) (nt := 35) (fun _ => rfl) (fun _ => rfl) (by kernel_rfl) (res := res121) (by kernel_rfl) (fun _ => rfl) (fun _ => Nat.le_of_ble_eq_true rfl) (by
    intro R
    rw [show loopsOf (codeOf Try.f121) = [lcode 3 (codeOf Try.f121)] from by kernel_rfl]
    exact (allM_cons (loop_ok2 (e := le121_3 (G121_3 FUEL)) rfl rfl lok121_3) allM_nil)) (fun R x k => q121 (G121_3 FUEL) (G121_6 FUEL) F121 R x k)
/-! drawlot/drawlotref04.Start -/
abbrev FT125 : Type 1 := (R : Type) → ((List Int) → Option R) → Option R
def en125 (F : FT125) : Ent := ⟨125, [], [(false, (.arr 8 (.int .u32)))], fun R x k => F R  (fun y1 => k (y1, ()) ())⟩
def res125 : List (ResultVar × TypeId × Bool) := [(.cell 0 155, 155, false)]
def e125 (R : Type) : Env R := ⟨TT, EQT, 0, 2, ownOf [], callOf [] R, loopOf [] R, []⟩
def p125 : FT125 := fun R k =>
let v1 : (List Int) := (List.set (List.set (List.set (List.set (List.set (List.set (List.set (List.set (List.replicate 8 (0 : Int)) 0 (1779033703 : Int)) 1 (3144134277 : Int)) 2 (1013904242 : Int)) 3 (2773480762 : Int)) 4 (1359893119 : Int)) 5 (2600822924 : Int)) 6 (528734635 : Int)) 7 (1541459225 : Int));
k v1
theorem q125 (F : FT125) (R : Type) (x : AT (en125 F).ins) (k : RT (en125 F).outs → PT (en125 F).ins → Option R) :
  xfun (e125 R) (codeOf Try.f125) res125 (avs (en125 F).ins x) (finK (en125 F).outs (en125 F).ins k) = p125 R  (fun y1 => k (y1, ()) ()) := by kernel_rfl
noncomputable def F125 : FT125 := p125
theorem env125 (R : Type) : EnvOK Try.prog (e125 R) := ⟨tabOK, eqOK, callOf_ok allE_nil, noIns⟩
theorem ok125 : (en125 F125).OK Try.prog :=
  ent_ok (Ef := fun R => e125 R) (fun R => env125 R) mixed Try.func125 (body := codeOf Try.f125) (by kernel_rfl) (by kernel_rfl) (np := 0) (nt := 2) (fun _ => rfl) (fun _ => rfl) (by kernel_rfl) (res := res125) (by kernel_rfl) (fun _ => rfl) (fun _ => Nat.le_of_ble_eq_true rfl) (by
    intro R
    rw [show loopsOf (codeOf Try.f125) = [] from by kernel_rfl]
    exact allM_nil) (fun R x k => q125 F125 R x k)
/-! drawlot/drawlotref01.Get32 -/
abbrev FT170 : Type 1 := (R : Type) → (List Int) → (Int → Option R) → Option R
def en170 (F : FT170) : Ent := ⟨170, [(false, (.arr 4 (.int .u8)))], [(false, (.int .u32))], fun R x k => F R x.1 (fun y1 => k (y1, ()) ())⟩
def res170 : List (ResultVar × TypeId × Bool) := [(.tmp 2, 104, false)]
abbrev LT170_3 : Type 1 := (R : Type) → Int → Int → (List Int) → (Int → Option R) → Option R
def le170_3 (L : LT170_3) : LEnt := ⟨3, [.fix 1 (.ptr 0 [] (.arr 4 (.int .u8))), .val 3 (.int .u32), .val 4 (.int .i64), .var 0 (.arr 4 (.int .u8)) false], 1, [(.exit 0, [.val 3 (.int .u32)])], fun R x ke => L R x.1 x.2.1 x.2.2.1 (fun y1 => ke.1 (y1, ()))⟩
def e170 (L3 : LT170_3) (R : Type) : Env R := ⟨TT, EQT, 0, 17, ownOf [], callOf [] R, loopOf [le170_3 L3] R, []⟩
def p170_3 : (R : Type) → Int → Int → (List Int) → (Int → Int → (List Int) → Option R) → (Int → Option R) → Option R := fun R x1 x2 x3 kc k0 =>
let v4 : Bool := (decide (x2 < (4 : Int)));
(match v4 with
| true => let v5 : Int := (IntKind.u32.wrap (x1 * (256 : Int)));
(match (bnd x2 (4 : Int)) with
| true => let v6 : Int := (List.getD x3 (Int.toNat x2) (0 : Int));
let v7 : Int := (IntKind.u32.wrap v6);
let v8 : Int := (IntKind.u32.wrap (v5 + v7));
let v9 : Int := (IntKind.i64.wrap (x2 + (1 : Int)));
kc v8 v9 x3
| false => none)
| false => k0 x1)
theorem q170_3 (L3 : LT170_3) (R : Type) (x : HT (le170_3 L3).H) (kc : HT (le170_3 L3).H → Option R) (ke : KT R (le170_3 L3).exs) :
  exec (e170 L3 R) (lcode 3 (codeOf Try.f170)) (stOf (le170_3 L3).H x 1) (roundK (le170_3 L3).H (le170_3 L3).exs kc ke) =
    p170_3 R x.1 x.2.1 x.2.2.1 (fun x1 x2 x3 => kc (x1, x2, x3, ())) (fun y1 => ke.1 (y1, ())) := by kernel_rfl
noncomputable def G170_3 : Nat → LT170_3
  | 0 => fun _ _ _ _ _ => none
  | n + 1 => fun R x1 x2 x3 k0 => p170_3 R x1 x2 x3 (fun x1 x2 x3 => G170_3 n R x1 x2 x3 k0) k0
def p170 (L3 : LT170_3) : FT170 := fun R a0 k =>
L3 R (0 : Int) (0 : Int) a0 (fun x1 =>
k x1)
theorem q170 (L3 : LT170_3) (F : FT170) (R : Type) (x : AT (en170 F).ins) (k : RT (en170 F).outs → PT (en170 F).ins → Option R) :
  xfun (e170 L3 R) (codeOf Try.f170) res170 (avs (en170 F).ins x) (finK (en170 F).outs (en170 F).ins k) = p170 L3 R x.1 (fun y1 => k (y1, ()) ()) := by kernel_rfl
noncomputable def F170 : FT170 := p170 (G170_3 FUEL)
theorem env170 (R : Type) : EnvOK Try.prog (e170 (G170_3 FUEL) R) := ⟨tabOK, eqOK, callOf_ok allE_nil, noIns⟩
noncomputable def T170_3 : (R : Type) → HT (le170_3 (G170_3 FUEL)).H → (HT (le170_3 (G170_3 FUEL)).H → Option R) → KT R (le170_3 (G170_3 FUEL)).exs → Option R := fun R x kc ke => p170_3 R x.1 x.2.1 x.2.2.1 (fun x1 x2 x3 => kc (x1, x2, x3, ())) (fun y1 => ke.1 (y1, ()))
theorem it170_3 : ∀ (n : Nat) (R : Type) (x : HT (le170_3 (G170_3 FUEL)).H) (ke : KT R (le170_3 (G170_3 FUEL)).exs), iter T170_3 n R x ke = G170_3 n R x.1 x.2.1 x.2.2.1 (fun y1 => ke.1 (y1, ())) := by
  intro n
  induction n with
  | zero => intro R x ke; rfl
  | succ n ih =>
    intro R x ke
    show T170_3 R x (fun x' => iter T170_3 n R x' ke) ke = _
    rw [show (fun x' => iter T170_3 n R x' ke) = fun x => G170_3 n R x.1 x.2.1 x.2.2.1 (fun y1 => ke.1 (y1, ())) from funext fun x' => ih R x' ke]
    rfl
theorem lok170_3 : (le170_3 (G170_3 FUEL)).OK Try.prog 0 17 (lcode 3 (codeOf Try.f170)) := fun R x ke r h =>
  iter_sound (fun R => e170 (G170_3 FUEL) R) 0 17 (fun _ => rfl) (fun _ => rfl) (fun R => env170 R) mixed (by
    intro R
    rw [show loopsOf (lcode 3 (codeOf Try.f170)) = [] from by kernel_rfl]
    exact allM_nil) (T := T170_3) (fun R x kc ke => q170_3 (G170_3 FUEL) R x kc ke) FUEL R x ke r ((it170_3 FUEL R x ke).trans h)
theorem ok170 : (en170 F170).OK Try.prog :=
  ent_ok (Ef := fun R => e170 (G170_3 FUEL) R) (fun R => env170 R) mixed Try.func170 (body := codeOf Try.f170) (by kernel_rfl) (by kernel_rfl) (np := 0) (nt := 17) (fun _ => rfl) (fun _ => rfl) (by kernel_rfl) (res := res170) (by kernel_rfl) (fun _ => rfl) (fun _ => Nat.le_of_ble_eq_true rfl) (by
    intro R
    rw [show loopsOf (codeOf Try.f170) = [lcode 3 (codeOf Try.f170)] from by kernel_rfl]
    exact (allM_cons (loop_ok2 (e := le170_3 (G170_3 FUEL)) rfl rfl lok170_3) allM_nil)) (fun R x k => q170 (G170_3 FUEL) F170 R x k)
/-! drawlot/drawlotref01.Rotate -/
abbrev FT179 : Type 1 := (R : Type) → Int → Int → (Int → Option R) → Option R
def en179 (F : FT179) : Ent := ⟨179, [(false, (.int .u32)), (false, (.int .i64))], [(false, (.int .u32))], fun R x k => F R x.1 x.2.1 (fun y1 => k (y1, ()) ())⟩
def res179 : List (ResultVar × TypeId × Bool) := [(.tmp 4, 104, false)]
abbrev LT179_5 : Type 1 := (R : Type) → Int → Int → Int → (Int → Option R) → Option R
def le179_5 (L : LT179_5) : LEnt := ⟨5, [.val 0 (.int .u32), .val 1 (.int .i64), .val 5 (.int .i64)], 0, [(.exit 0, [.val 0 (.int .u32)])], fun R x ke => L R x.1 x.2.1 x.2.2.1 (fun y1 => ke.1 (y1, ()))⟩
def e179 (L5 : LT179_5) (R : Type) : Env R := ⟨TT, EQT, 0, 24, ownOf [], callOf [] R, loopOf [le179_5 L5] R, []⟩
def p179_5 : (R : Type) → Int → Int → Int → (Int → Int → Int → Option R) → (Int → Option R) → Option R := fun R x1 x2 x3 kc k0 =>
let v4 : Bool := (decide (x3 < x2));
(match v4 with
| true => let v5 : Int := (IntKind.u32.wrap (Int.tdiv x1 (2 : Int)));
let v6 : Int := (Int.tmod x1 (2 : Int));
let v7 : Int := (IntKind.u32.wrap (v6 * (2147483648 : Int)));
let v8 : Int := (IntKind.u32.wrap (v5 + v7));
let v9 : Int := (IntKind.i64.wrap (x3 + (1 : Int)));
kc v8 x2 v9
| false => k0 x1)
theorem q179_5 (L5 : LT179_5) (R : Type) (x : HT (le179_5 L5).H) (kc : HT (le179_5 L5).H → Option R) (ke : KT R (le179_5 L5).exs) :
  exec (e179 L5 R) (lcode 5 (codeOf Try.f179)) (stOf (le179_5 L5).H x 0) (roundK (le179_5 L5).H (le179_5 L5).exs kc ke) =
    p179_5 R x.1 x.2.1 x.2.2.1 (fun x1 x2 x3 => kc (x1, x2, x3, ())) (fun y1 => ke.1 (y1, ())) := by kernel_rfl
noncomputable def G179_5 : Nat → LT179_5
  | 0 => fun _ _ _ _ _ => none
  | n + 1 => fun R x1 x2 x3 k0 => p179_5 R x1 x2 x3 (fun x1 x2 x3 => G179_5 n R x1 x2 x3 k0) k0
def p179 (L5 : LT179_5) : FT179 := fun R a0 a1 k =>
let v1 : Int := (Int.tmod a1 (32 : Int));
let v2 : Bool := (decide (v1 < (0 : Int)));
(match v2 with
| true => let v3 : Int := (IntKind.i64.wrap (v1 + (32 : Int)));
L5 R a0 v3 (0 : Int) (fun x4 =>
k x4)
| false => L5 R a0 v1 (0 : Int) (fun x5 =>
k x5))
theorem q179 (L5 : LT179_5) (F : FT179) (R : Type) (x : AT (en179 F).ins) (k : RT (en179 F).outs → PT (en179 F).ins → Option R) :
  xfun (e179 L5 R) (codeOf Try.f179) res179 (avs (en179 F).ins x) (finK (en179 F).outs (en179 F).ins k) = p179 L5 R x.1 x.2.1 (fun y1 => k (y1, ()) ()) := by kernel_rfl
noncomputable def F179 : FT179 := p179 (G179_5 FUEL)
theorem env179 (R : Type) : EnvOK Try.prog (e179 (G179_5 FUEL) R) := ⟨tabOK, eqOK, callOf_ok allE_nil, noIns⟩
noncomputable def T179_5 : (R : Type) → HT (le179_5 (G179_5 FUEL)).H → (HT (le179_5 (G179_5 FUEL)).H → Option R) → KT R (le179_5 (G179_5 FUEL)).exs → Option R := fun R x kc ke => p179_5 R x.1 x.2.1 x.2.2.1 (fun x1 x2 x3 => kc (x1, x2, x3, ())) (fun y1 => ke.1 (y1, ()))
theorem it179_5 : ∀ (n : Nat) (R : Type) (x : HT (le179_5 (G179_5 FUEL)).H) (ke : KT R (le179_5 (G179_5 FUEL)).exs), iter T179_5 n R x ke = G179_5 n R x.1 x.2.1 x.2.2.1 (fun y1 => ke.1 (y1, ())) := by
  intro n
  induction n with
  | zero => intro R x ke; rfl
  | succ n ih =>
    intro R x ke
    show T179_5 R x (fun x' => iter T179_5 n R x' ke) ke = _
    rw [show (fun x' => iter T179_5 n R x' ke) = fun x => G179_5 n R x.1 x.2.1 x.2.2.1 (fun y1 => ke.1 (y1, ())) from funext fun x' => ih R x' ke]
    rfl
theorem lok179_5 : (le179_5 (G179_5 FUEL)).OK Try.prog 0 24 (lcode 5 (codeOf Try.f179)) := fun R x ke r h =>
  iter_sound (fun R => e179 (G179_5 FUEL) R) 0 24 (fun _ => rfl) (fun _ => rfl) (fun R => env179 R) mixed (by
    intro R
    rw [show loopsOf (lcode 5 (codeOf Try.f179)) = [] from by kernel_rfl]
    exact allM_nil) (T := T179_5) (fun R x kc ke => q179_5 (G179_5 FUEL) R x kc ke) FUEL R x ke r ((it179_5 FUEL R x ke).trans h)
theorem ok179 : (en179 F179).OK Try.prog :=
  ent_ok (Ef := fun R => e179 (G179_5 FUEL) R) (fun R => env179 R) mixed Try.func179 (body := codeOf Try.f179) (by kernel_rfl) (by kernel_rfl) (np := 0) (nt := 24) (fun _ => rfl) (fun _ => rfl) (by kernel_rfl) (res := res179) (by kernel_rfl) (fun _ => rfl) (fun _ => Nat.le_of_ble_eq_true rfl) (by
    intro R
    rw [show loopsOf (codeOf Try.f179) = [lcode 5 (codeOf Try.f179)] from by kernel_rfl]
    exact (allM_cons (loop_ok2 (e := le179_5 (G179_5 FUEL)) rfl rfl lok179_5) allM_nil)) (fun R x k => q179 (G179_5 FUEL) F179 R x k)
/-! drawlot/drawlotref01.Right -/
abbrev FT76 : Type 1 := (R : Type) → Int → Int → (Int → Option R) → Option R
def en76 (F : FT76) : Ent := ⟨76, [(false, (.int .u32)), (false, (.int .i64))], [(false, (.int .u32))], fun R x k => F R x.1 x.2.1 (fun y1 => k (y1, ()) ())⟩
def res76 : List (ResultVar × TypeId × Bool) := [(.tmp 4, 104, false)]
abbrev LT76_4 : Type 1 := (R : Type) → Int → Int → Int → (Int → Option R) → Option R
def le76_4 (L : LT76_4) : LEnt := ⟨4, [.val 0 (.int .u32), .val 1 (.int .i64), .val 5 (.int .i64)], 0, [(.exit 0, [.val 0 (.int .u32)])], fun R x ke => L R x.1 x.2.1 x.2.2.1 (fun y1 => ke.1 (y1, ()))⟩
def e76 (L4 : LT76_4) (R : Type) : Env R := ⟨TT, EQT, 0, 16, ownOf [], callOf [] R, loopOf [le76_4 L4] R, []⟩
def p76_4 : (R : Type) → Int → Int → Int → (Int → Int → Int → Option R) → (Int → Option R) → Option R := fun R x1 x2 x3 kc k0 =>
let v4 : Bool := (decide (x3 < x2));
(match v4 with
| true => let v5 : Int := (IntKind.u32.wrap (Int.tdiv x1 (2 : Int)));
let v6 : Int := (IntKind.i64.wrap (x3 + (1 : Int)));
kc v5 x2 v6
| false => k0 x1)
theorem q76_4 (L4 : LT76_4) (R : Type) (x : HT (le76_4 L4).H) (kc : HT (le76_4 L4).H → Option R) (ke : KT R (le76_4 L4).exs) :
  exec (e76 L4 R) (lcode 4 (codeOf Try.f76)) (stOf (le76_4 L4).H x 0) (roundK (le76_4 L4).H (le76_4 L4).exs kc ke) =
    p76_4 R x.1 x.2.1 x.2.2.1 (fun x1 x2 x3 => kc (x1, x2, x3, ())) (fun y1 => ke.1 (y1, ())) := by kernel_rfl
noncomputable def G76_4 : Nat → LT76_4
  | 0 => fun _ _ _ _ _ => none
  | n + 1 => fun R x1 x2 x3 k0 => p76_4 R x1 x2 x3 (fun x1 x2 x3 => G76_4 n R x1 x2 x3 k0) k0
def p76 (L4 : LT76_4) : FT76 := fun R a0 a1 k =>
let v1 : Bool := (decide (a1 > (31 : Int)));
(match v1 with
| true => k (0 : Int)
| false => L4 R a0 a1 (0 : Int) (fun x2 =>
k x2))
theorem q76 (L4 : LT76_4) (F : FT76) (R : Type) (x : AT (en76 F).ins) (k : RT (en76 F).outs → PT (en76 F).ins → Option R) :
  xfun (e76 L4 R) (codeOf Try.f76) res76 (avs (en76 F).ins x) (finK (en76 F).outs (en76 F).ins k) = p76 L4 R x.1 x.2.1 (fun y1 => k (y1, ()) ()) := by kernel_rfl
noncomputable def F76 : FT76 := p76 (G76_4 FUEL)
theorem env76 (R : Type) : EnvOK Try.prog (e76 (G76_4 FUEL) R) := ⟨tabOK, eqOK, callOf_ok allE_nil, noIns⟩
noncomputable def T76_4 : (R : Type) → HT (le76_4 (G76_4 FUEL)).H → (HT (le76_4 (G76_4 FUEL)).H → Option R) → KT R (le76_4 (G76_4 FUEL)).exs → Option R := fun R x kc ke => p76_4 R x.1 x.2.1 x.2.2.1 (fun x1 x2 x3 => kc (x1, x2, x3, ())) (fun y1 => ke.1 (y1, ()))
theorem it76_4 : ∀ (n : Nat) (R : Type) (x : HT (le76_4 (G76_4 FUEL)).H) (ke : KT R (le76_4 (G76_4 FUEL)).exs), iter T76_4 n R x ke = G76_4 n R x.1 x.2.1 x.2.2.1 (fun y1 => ke.1 (y1, ())) := by
  intro n
  induction n with
  | zero => intro R x ke; rfl
  | succ n ih =>
    intro R x ke
    show T76_4 R x (fun x' => iter T76_4 n R x' ke) ke = _
    rw [show (fun x' => iter T76_4 n R x' ke) = fun x => G76_4 n R x.1 x.2.1 x.2.2.1 (fun y1 => ke.1 (y1, ())) from funext fun x' => ih R x' ke]
    rfl
theorem lok76_4 : (le76_4 (G76_4 FUEL)).OK Try.prog 0 16 (lcode 4 (codeOf Try.f76)) := fun R x ke r h =>
  iter_sound (fun R => e76 (G76_4 FUEL) R) 0 16 (fun _ => rfl) (fun _ => rfl) (fun R => env76 R) mixed (by
    intro R
    rw [show loopsOf (lcode 4 (codeOf Try.f76)) = [] from by kernel_rfl]
    exact allM_nil) (T := T76_4) (fun R x kc ke => q76_4 (G76_4 FUEL) R x kc ke) FUEL R x ke r ((it76_4 FUEL R x ke).trans h)
theorem ok76 : (en76 F76).OK Try.prog :=
  ent_ok (Ef := fun R => e76 (G76_4 FUEL) R) (fun R => env76 R) mixed Try.func76 (body := codeOf Try.f76) (by kernel_rfl) (by kernel_rfl) (np := 0) (nt := 16) (fun _ => rfl) (fun _ => rfl) (by kernel_rfl) (res := res76) (by kernel_rfl) (fun _ => rfl) (fun _ => Nat.le_of_ble_eq_true rfl) (by
    intro R
    rw [show loopsOf (codeOf Try.f76) = [lcode 4 (codeOf Try.f76)] from by kernel_rfl]
    exact (allM_cons (loop_ok2 (e := le76_4 (G76_4 FUEL)) rfl rfl lok76_4) allM_nil)) (fun R x k => q76 (G76_4 FUEL) F76 R x k)
/-! drawlot/drawlotref03.Second -/
abbrev FT171 : Type 1 := (R : Type) → Int → (Int → Option R) → Option R
def en171 (F : FT171) : Ent := ⟨171, [(false, (.int .u32))], [(false, (.int .u32))], fun R x k => F R x.1 (fun y1 => k (y1, ()) ())⟩
def res171 : List (ResultVar × TypeId × Bool) := [(.tmp 2, 104, false)]
def e171 (F76 : FT76) (F179 : FT179) (R : Type) : Env R := ⟨TT, EQT, 0, 11, ownOf [], callOf [en76 F76, en179 F179] R, loopOf [] R, []⟩
def p171 (F76 : FT76) (F179 : FT179) : FT171 := fun R a0 k =>
F179 R a0 (17 : Int) fun y1 =>
F179 R a0 (19 : Int) fun y2 =>
let v3 : Int := (ixor .u32 y1 y2);
F76 R a0 (10 : Int) fun y4 =>
let v5 : Int := (ixor .u32 v3 y4);
k v5
theorem q171 (F76 : FT76) (F179 : FT179) (F : FT171) (R : Type) (x : AT (en171 F).ins) (k : RT (en171 F).outs → PT (en171 F).ins → Option R) :
  xfun (e171 F76 F179 R) (codeOf Try.f171) res171 (avs (en171 F).ins x) (finK (en171 F).outs (en171 F).ins k) = p171 F76 F179 R x.1 (fun y1 => k (y1, ()) ()) := by kernel_rfl
noncomputable def F171 : FT171 := p171 F76 F179
theorem env171 (R : Type) : EnvOK Try.prog (e171 F76 F179 R) := ⟨tabOK, eqOK, callOf_ok (allE_cons ok76 (allE_cons ok179 allE_nil)), noIns⟩
theorem ok171 : (en171 F171).OK Try.prog :=
  ent_ok (Ef := fun R => e171 F76 F179 R) (fun R => env171 R) mixed Try.func171 (body := codeOf Try.f171) (by kernel_rfl) (by kernel_rfl) (np := 0) (nt := 11) (fun _ => rfl) (fun _ => rfl) (by kernel_rfl) (res := res171) (by kernel_rfl) (fun _ => rfl) (fun _ => Nat.le_of_ble_eq_true rfl) (by
    intro R
    rw [show loopsOf (codeOf Try.f171) = [] from by kernel_rfl]
    exact allM_nil) (fun R x k => q171 F76 F179 F171 R x k)
/-! drawlot/drawlotref03.First -/
abbrev FT172 : Type 1 := (R : Type) → Int → (Int → Option R) → Option R
def en172 (F : FT172) : Ent := ⟨172, [(false, (.int .u32))], [(false, (.int .u32))], fun R x k => F R x.1 (fun y1 => k (y1, ()) ())⟩
def res172 : List (ResultVar × TypeId × Bool) := [(.tmp 2, 104, false)]
def e172 (F76 : FT76) (F179 : FT179) (R : Type) : Env R := ⟨TT, EQT, 0, 11, ownOf [], callOf [en76 F76, en179 F179] R, loopOf [] R, []⟩
def p172 (F76 : FT76) (F179 : FT179) : FT172 := fun R a0 k =>
F179 R a0 (7 : Int) fun y1 =>
F179 R a0 (18 : Int) fun y2 =>
let v3 : Int := (ixor .u32 y1 y2);
F76 R a0 (3 : Int) fun y4 =>
let v5 : Int := (ixor .u32 v3 y4);
k v5
theorem q172 (F76 : FT76) (F179 : FT179) (F : FT172) (R : Type) (x : AT (en172 F).ins) (k : RT (en172 F).outs → PT (en172 F).ins → Option R) :
  xfun (e172 F76 F179 R) (codeOf Try.f172) res172 (avs (en172 F).ins x) (finK (en172 F).outs (en172 F).ins k) = p172 F76 F179 R x.1 (fun y1 => k (y1, ()) ()) := by kernel_rfl
noncomputable def F172 : FT172 := p172 F76 F179
theorem env172 (R : Type) : EnvOK Try.prog (e172 F76 F179 R) := ⟨tabOK, eqOK, callOf_ok (allE_cons ok76 (allE_cons ok179 allE_nil)), noIns⟩
theorem ok172 : (en172 F172).OK Try.prog :=
  ent_ok (Ef := fun R => e172 F76 F179 R) (fun R => env172 R) mixed Try.func172 (body := codeOf Try.f172) (by kernel_rfl) (by kernel_rfl) (np := 0) (nt := 11) (fun _ => rfl) (fun _ => rfl) (by kernel_rfl) (res := res172) (by kernel_rfl) (fun _ => rfl) (fun _ => Nat.le_of_ble_eq_true rfl) (by
    intro R
    rw [show loopsOf (codeOf Try.f172) = [] from by kernel_rfl]
    exact allM_nil) (fun R x k => q172 F76 F179 F172 R x k)
/-! drawlot/drawlotref03.Of -/
abbrev FT159 : Type 1 := (R : Type) → (List Int) → ((List Int) → Option R) → Option R
def en159 (F : FT159) : Ent := ⟨159, [(false, (.arr 64 (.int .u8)))], [(false, (.arr 64 (.int .u32)))], fun R x k => F R x.1 (fun y1 => k (y1, ()) ())⟩
def res159 : List (ResultVar × TypeId × Bool) := [(.cell 2 197, 197, false)]
abbrev LT159_3 : Type 1 := (R : Type) → Int → (List Int) → (List Int) → (List Int) → ((List Int) → (List Int) → Option R) → Option R
def le159_3 (L : LT159_3) : LEnt := ⟨3, [.fix 1 (.ptr 0 [] (.arr 64 (.int .u8))), .fix 2 (.ptr 1 [] (.arr 64 (.int .u32))), .fix 3 (.ptr 2 [] (.arr 64 (.int .u32))), .val 4 (.int .i64), .var 0 (.arr 64 (.int .u8)) false, .var 1 (.arr 64 (.int .u32)) false, .var 2 (.arr 64 (.int .u32)) false], 3, [(.exit 0, [.fix 2 (.ptr 1 [] (.arr 64 (.int .u32))), .fix 3 (.ptr 2 [] (.arr 64 (.int .u32))), .var 1 (.arr 64 (.int .u32)) false, .var 2 (.arr 64 (.int .u32)) false])], fun R x ke => L R x.1 x.2.1 x.2.2.1 x.2.2.2.1 (fun y1 y2 => ke.1 (y1, y2, ()))⟩
abbrev LT159_7 : Type 1 := (R : Type) → Int → (List Int) → (List Int) → ((List Int) → (List Int) → Option R) → Option R
def le159_7 (L : LT159_7) : LEnt := ⟨7, [.fix 2 (.ptr 1 [] (.arr 64 (.int .u32))), .fix 3 (.ptr 2 [] (.arr 64 (.int .u32))), .val 5 (.int .i64), .var 1 (.arr 64 (.int .u32)) false, .var 2 (.arr 64 (.int .u32)) false], 3, [(.exit 2, [.fix 2 (.ptr 1 [] (.arr 64 (.int .u32))), .fix 3 (.ptr 2 [] (.arr 64 (.int .u32))), .var 1 (.arr 64 (.int .u32)) false, .var 2 (.arr 64 (.int .u32)) false])], fun R x ke => L R x.1 x.2.1 x.2.2.1 (fun y1 y2 => ke.1 (y1, y2, ()))⟩
def e159 (F170 : FT170) (F171 : FT171) (F172 : FT172) (L3 : LT159_3) (L7 : LT159_7) (R : Type) : Env R := ⟨TT, EQT, 0, 61, ownOf [], callOf [en170 F170, en171 F171, en172 F172] R, loopOf [le159_3 L3, le159_7 L7] R, []⟩
def p159_3 (F170 : FT170) : (R : Type) → Int → (List Int) → (List Int) → (List Int) → (Int → (List Int) → (List Int) → (List Int) → Option R) → ((List Int) → (List Int) → Option R) → Option R := fun R x1 x2 x3 x4 kc k0 =>
let v5 : Bool := (decide (x1 < (16 : Int)));
(match v5 with
| true => let v6 : Int := (IntKind.i64.wrap ((4 : Int) * x1));
(match (bnd v6 (64 : Int)) with
| true => let v7 : Int := (List.getD x2 (Int.toNat v6) (0 : Int));
let v8 : Int := (IntKind.i64.wrap ((4 : Int) * x1));
let v9 : Int := (IntKind.i64.wrap (v8 + (1 : Int)));
(match (bnd v9 (64 : Int)) with
| true => let v10 : Int := (List.getD x2 (Int.toNat v9) (0 : Int));
let v11 : Int := (IntKind.i64.wrap ((4 : Int) * x1));
let v12 : Int := (IntKind.i64.wrap (v11 + (2 : Int)));
(match (bnd v12 (64 : Int)) with
| true => let v13 : Int := (List.getD x2 (Int.toNat v12) (0 : Int));
let v14 : Int := (IntKind.i64.wrap ((4 : Int) * x1));
let v15 : Int := (IntKind.i64.wrap (v14 + (3 : Int)));
(match (bnd v15 (64 : Int)) with
| true => let v16 : Int := (List.getD x2 (Int.toNat v15) (0 : Int));
let v17 : (List Int) := (List.set (List.set (List.set (List.set (List.replicate 4 (0 : Int)) 0 v7) 1 v10) 2 v13) 3 v16);
F170 R v17 fun y18 =>
(match (bnd x1 (64 : Int)) with
| true => let v19 : (List Int) := (List.set x4 (Int.toNat x1) y18);
let v20 : Int := (IntKind.i64.wrap (x1 + (1 : Int)));
kc v20 x2 x3 v19
| false => none)
| false => none)
| false => none)
| false => none)
| false => none)
| false => k0 x3 x4)
theorem q159_3 (F170 : FT170) (F171 : FT171) (F172 : FT172) (L3 : LT159_3) (L7 : LT159_7) (R : Type) (x : HT (le159_3 L3).H) (kc : HT (le159_3 L3).H → Option R) (ke : KT R (le159_3 L3).exs) :
  exec (e159 F170 F171 F172 L3 L7 R) (lcode 3 (codeOf Try.f159)) (stOf (le159_3 L3).H x 3) (roundK (le159_3 L3).H (le159_3 L3).exs kc ke) =
    p159_3 F170 R x.1 x.2.1 x.2.2.1 x.2.2.2.1 (fun x1 x2 x3 x4 => kc (x1, x2, x3, x4, ())) (fun y1 y2 => ke.1 (y1, y2, ())) := by kernel_rfl
noncomputable def G159_3 : Nat → LT159_3
  | 0 => fun _ _ _ _ _ _ => none
  | n + 1 => fun R x1 x2 x3 x4 k0 => p159_3 F170 R x1 x2 x3 x4 (fun x1 x2 x3 x4 => G159_3 n R x1 x2 x3 x4 k0) k0
def p159_7 (F171 : FT171) (F172 : FT172) : (R : Type) → Int → (List Int) → (List Int) → (Int → (List Int) → (List Int) → Option R) → ((List Int) → (List Int) → Option R) → Option R := fun R x1 x2 x3 kc k0 =>
let v4 : Bool := (decide (x1 < (64 : Int)));
(match v4 with
| true => let v5 : Int := (IntKind.i64.wrap (x1 - (2 : Int)));
(match (bnd v5 (64 : Int)) with
| true => let v6 : Int := (List.getD x3 (Int.toNat v5) (0 : Int));
F171 R v6 fun y7 =>
let v8 : Int := (IntKind.i64.wrap (x1 - (7 : Int)));
(match (bnd v8 (64 : Int)) with
| true => let v9 : Int := (List.getD x3 (Int.toNat v8) (0 : Int));
let v10 : Int := (IntKind.u32.wrap (y7 + v9));
let v11 : Int := (IntKind.i64.wrap (x1 - (15 : Int)));
(match (bnd v11 (64 : Int)) with
| true => let v12 : Int := (List.getD x3 (Int.toNat v11) (0 : Int));
F172 R v12 fun y13 =>
let v14 : Int := (IntKind.u32.wrap (v10 + y13));
let v15 : Int := (IntKind.i64.wrap (x1 - (16 : Int)));
(match (bnd v15 (64 : Int)) with
| true => let v16 : Int := (List.getD x3 (Int.toNat v15) (0 : Int));
let v17 : Int := (IntKind.u32.wrap (v14 + v16));
(match (bnd x1 (64 : Int)) with
| true => let v18 : (List Int) := (List.set x3 (Int.toNat x1) v17);
let v19 : Int := (IntKind.i64.wrap (x1 + (1 : Int)));
kc v19 x2 v18
| false => none)
| false => none)
| false => none)
| false => none)
| false => none)
| false => k0 x2 x3)
theorem q159_7 (F170 : FT170) (F171 : FT171) (F172 : FT172) (L3 : LT159_3) (L7 : LT159_7) (R : Type) (x : HT (le159_7 L7).H) (kc : HT (le159_7 L7).H → Option R) (ke : KT R (le159_7 L7).exs) :
  exec (e159 F170 F171 F172 L3 L7 R) (lcode 7 (codeOf Try.f159)) (stOf (le159_7 L7).H x 3) (roundK (le159_7 L7).H (le159_7 L7).exs kc ke) =
    p159_7 F171 F172 R x.1 x.2.1 x.2.2.1 (fun x1 x2 x3 => kc (x1, x2, x3, ())) (fun y1 y2 => ke.1 (y1, y2, ())) := by kernel_rfl
noncomputable def G159_7 : Nat → LT159_7
  | 0 => fun _ _ _ _ _ => none
  | n + 1 => fun R x1 x2 x3 k0 => p159_7 F171 F172 R x1 x2 x3 (fun x1 x2 x3 => G159_7 n R x1 x2 x3 k0) k0
def p159 (L3 : LT159_3) (L7 : LT159_7) : FT159 := fun R a0 k =>
L3 R (0 : Int) a0 (List.replicate 64 (0 : Int)) (List.replicate 64 (0 : Int)) (fun x1 x2 =>
L7 R (16 : Int) x1 x2 (fun x3 x4 =>
k x4))
theorem q159 (F170 : FT170) (F171 : FT171) (F172 : FT172) (L3 : LT159_3) (L7 : LT159_7) (F : FT159) (R : Type) (x : AT (en159 F).ins) (k : RT (en159 F).outs → PT (en159 F).ins → Option R) :
  xfun (e159 F170 F171 F172 L3 L7 R) (codeOf Try.f159) res159 (avs (en159 F).ins x) (finK (en159 F).outs (en159 F).ins k) = p159 L3 L7 R x.1 (fun y1 => k (y1, ()) ()) := by kernel_rfl
noncomputable def F159 : FT159 := p159 (G159_3 FUEL) (G159_7 FUEL)
theorem env159 (R : Type) : EnvOK Try.prog (e159 F170 F171 F172 (G159_3 FUEL) (G159_7 FUEL) R) := ⟨tabOK, eqOK, callOf_ok (allE_cons ok170 (allE_cons ok171 (allE_cons ok172 allE_nil))), noIns⟩
noncomputable def T159_3 : (R : Type) → HT (le159_3 (G159_3 FUEL)).H → (HT (le159_3 (G159_3 FUEL)).H → Option R) → KT R (le159_3 (G159_3 FUEL)).exs → Option R := fun R x kc ke => p159_3 F170 R x.1 x.2.1 x.2.2.1 x.2.2.2.1 (fun x1 x2 x3 x4 => kc (x1, x2, x3, x4, ())) (fun y1 y2 => ke.1 (y1, y2, ()))
theorem it159_3 : ∀ (n : Nat) (R : Type) (x : HT (le159_3 (G159_3 FUEL)).H) (ke : KT R (le159_3 (G159_3 FUEL)).exs), iter T159_3 n R x ke = G159_3 n R x.1 x.2.1 x.2.2.1 x.2.2.2.1 (fun y1 y2 => ke.1 (y1, y2, ())) := by
  intro n
  induction n with
  | zero => intro R x ke; rfl
  | succ n ih =>
    intro R x ke
    show T159_3 R x (fun x' => iter T159_3 n R x' ke) ke = _
    rw [show (fun x' => iter T159_3 n R x' ke) = fun x => G159_3 n R x.1 x.2.1 x.2.2.1 x.2.2.2.1 (fun y1 y2 => ke.1 (y1, y2, ())) from funext fun x' => ih R x' ke]
    rfl
theorem lok159_3 : (le159_3 (G159_3 FUEL)).OK Try.prog 0 61 (lcode 3 (codeOf Try.f159)) := fun R x ke r h =>
  iter_sound (fun R => e159 F170 F171 F172 (G159_3 FUEL) (G159_7 FUEL) R) 0 61 (fun _ => rfl) (fun _ => rfl) (fun R => env159 R) mixed (by
    intro R
    rw [show loopsOf (lcode 3 (codeOf Try.f159)) = [] from by kernel_rfl]
    exact allM_nil) (T := T159_3) (fun R x kc ke => q159_3 F170 F171 F172 (G159_3 FUEL) (G159_7 FUEL) R x kc ke) FUEL R x ke r ((it159_3 FUEL R x ke).trans h)
noncomputable def T159_7 : (R : Type) → HT (le159_7 (G159_7 FUEL)).H → (HT (le159_7 (G159_7 FUEL)).H → Option R) → KT R (le159_7 (G159_7 FUEL)).exs → Option R := fun R x kc ke => p159_7 F171 F172 R x.1 x.2.1 x.2.2.1 (fun x1 x2 x3 => kc (x1, x2, x3, ())) (fun y1 y2 => ke.1 (y1, y2, ()))
theorem it159_7 : ∀ (n : Nat) (R : Type) (x : HT (le159_7 (G159_7 FUEL)).H) (ke : KT R (le159_7 (G159_7 FUEL)).exs), iter T159_7 n R x ke = G159_7 n R x.1 x.2.1 x.2.2.1 (fun y1 y2 => ke.1 (y1, y2, ())) := by
  intro n
  induction n with
  | zero => intro R x ke; rfl
  | succ n ih =>
    intro R x ke
    show T159_7 R x (fun x' => iter T159_7 n R x' ke) ke = _
    rw [show (fun x' => iter T159_7 n R x' ke) = fun x => G159_7 n R x.1 x.2.1 x.2.2.1 (fun y1 y2 => ke.1 (y1, y2, ())) from funext fun x' => ih R x' ke]
    rfl
theorem lok159_7 : (le159_7 (G159_7 FUEL)).OK Try.prog 0 61 (lcode 7 (codeOf Try.f159)) := fun R x ke r h =>
  iter_sound (fun R => e159 F170 F171 F172 (G159_3 FUEL) (G159_7 FUEL) R) 0 61 (fun _ => rfl) (fun _ => rfl) (fun R => env159 R) mixed (by
    intro R
    rw [show loopsOf (lcode 7 (codeOf Try.f159)) = [] from by kernel_rfl]
    exact allM_nil) (T := T159_7) (fun R x kc ke => q159_7 F170 F171 F172 (G159_3 FUEL) (G159_7 FUEL) R x kc ke) FUEL R x ke r ((it159_7 FUEL R x ke).trans h)
theorem ok159 : (en159 F159).OK Try.prog :=
  ent_ok (Ef := fun R => e159 F170 F171 F172 (G159_3 FUEL) (G159_7 FUEL) R) (fun R => env159 R) mixed Try.func159 (body := codeOf Try.f159) (by kernel_rfl) (by kernel_rfl) (np := 0) (nt := 61) (fun _ => rfl) (fun _ => rfl) (by kernel_rfl) (res := res159) (by kernel_rfl) (fun _ => rfl) (fun _ => Nat.le_of_ble_eq_true rfl) (by
    intro R
    rw [show loopsOf (codeOf Try.f159) = [lcode 3 (codeOf Try.f159), lcode 7 (codeOf Try.f159)] from by kernel_rfl]
    exact (allM_cons (loop_ok2 (e := le159_3 (G159_3 FUEL)) rfl rfl lok159_3) (allM_cons (loop_ok2 (e := le159_7 (G159_7 FUEL)) rfl rfl lok159_7) allM_nil))) (fun R x k => q159 F170 F171 F172 (G159_3 FUEL) (G159_7 FUEL) F159 R x k)
/-! drawlot/drawlotref04.Constant -/
abbrev FT161 : Type 1 := (R : Type) → Int → (Int → Option R) → Option R
def en161 (F : FT161) : Ent := ⟨161, [(false, (.int .i64))], [(false, (.int .u32))], fun R x k => F R x.1 (fun y1 => k (y1, ()) ())⟩
def res161 : List (ResultVar × TypeId × Bool) := [(.tmp 2, 104, false)]
def e161 (R : Type) : Env R := ⟨TT, EQT, 0, 12, ownOf [], callOf [] R, loopOf [] R, []⟩
def p161 : FT161 := fun R a0 k =>
let v1 : Bool := (decide (a0 < (0 : Int)));
(match v1 with
| true => k (0 : Int)
| false => let v2 : Bool := (decide (a0 > (63 : Int)));
(match v2 with
| true => k (0 : Int)
| false => let v3 : (List Int) := (List.set (List.set (List.set (List.set (List.set (List.set (List.set (List.set (List.set (List.set (List.set (List.set (List.set (List.set (List.set (List.set (List.set (List.set (List.set (List.set (List.set (List.set (List.set (List.set (List.set (List.set (List.set (List.set (List.set (List.set (List.set (List.set (List.set (List.set (List.set (List.set (List.set (List.set (List.set (List.set (List.set (List.set (List.set (List.set (List.set (List.set (List.set (List.set (List.set (List.set (List.set (List.set (List.set (List.set (List.set (List.set (List.set (List.set (List.set (List.set (List.set (List.set (List.set (List.set (List.replicate 64 (0 : Int)) 0 (1116352408 : Int)) 1 (1899447441 : Int)) 2 (3049323471 : Int)) 3 (3921009573 : Int)) 4 (961987163 : Int)) 5 (1508970993 : Int)) 6 (2453635748 : Int)) 7 (2870763221 : Int)) 8 (3624381080 : Int)) 9 (310598401 : Int)) 10 (607225278 : Int)) 11 (1426881987 : Int)) 12 (1925078388 : Int)) 13 (2162078206 : Int)) 14 (2614888103 : Int)) 15 (3248222580 : Int)) 16 (3835390401 : Int)) 17 (4022224774 : Int)) 18 (264347078 : Int)) 19 (604807628 : Int)) 20 (770255983 : Int)) 21 (1249150122 : Int)) 22 (1555081692 : Int)) 23 (1996064986 : Int)) 24 (2554220882 : Int)) 25 (2821834349 : Int)) 26 (2952996808 : Int)) 27 (3210313671 : Int)) 28 (3336571891 : Int)) 29 (3584528711 : Int)) 30 (113926993 : Int)) 31 (338241895 : Int)) 32 (666307205 : Int)) 33 (773529912 : Int)) 34 (1294757372 : Int)) 35 (1396182291 : Int)) 36 (1695183700 : Int)) 37 (1986661051 : Int)) 38 (2177026350 : Int)) 39 (2456956037 : Int)) 40 (2730485921 : Int)) 41 (2820302411 : Int)) 42 (3259730800 : Int)) 43 (3345764771 : Int)) 44 (3516065817 : Int)) 45 (3600352804 : Int)) 46 (4094571909 : Int)) 47 (275423344 : Int)) 48 (430227734 : Int)) 49 (506948616 : Int)) 50 (659060556 : Int)) 51 (883997877 : Int)) 52 (958139571 : Int)) 53 (1322822218 : Int)) 54 (1537002063 : Int)) 55 (1747873779 : Int)) 56 (1955562222 : Int)) 57 (2024104815 : Int)) 58 (2227730452 : Int)) 59 (2361852424 : Int)) 60 (2428436474 : Int)) 61 (2756734187 : Int)) 62 (3204031479 : Int)) 63 (3329325298 : Int));
(match (bnd a0 (64 : Int)) with
| true => let v4 : Int := (List.getD v3 (Int.toNat a0) (0 : Int));
k v4
| false => none)))
theorem q161 (F : FT161) (R : Type) (x : AT (en161 F).ins) (k : RT (en161 F).outs → PT (en161 F).ins → Option R) :
  xfun (e161 R) (codeOf Try.f161) res161 (avs (en161 F).ins x) (finK (en161 F).outs (en161 F).ins k) = p161 R x.1 (fun y1 => k (y1, ()) ()) := by kernel_rfl
noncomputable def F161 : FT161 := p161
theorem env161 (R : Type) : EnvOK Try.prog (e161 R) := ⟨tabOK, eqOK, callOf_ok allE_nil, noIns⟩
theorem ok161 : (en161 F161).OK Try.prog :=
  ent_ok (Ef := fun R => e161 R) (fun R => env161 R) mixed Try.func161 (body := codeOf Try.f161) (by kernel_rfl) (by kernel_rfl) (np := 0) (nt := 12) (fun _ => rfl) (fun _ => rfl) (by kernel_rfl) (res := res161) (by kernel_rfl) (fun _ => rfl) (fun _ => Nat.le_of_ble_eq_true rfl) (by
    intro R
    rw [show loopsOf (codeOf Try.f161) = [] from by kernel_rfl]
    exact allM_nil) (fun R x k => q161 F161 R x k)
/-! drawlot/drawlotref04.turned -/
abbrev FT173 : Type 1 := (R : Type) → Int → Int → Int → Int → (Int → Option R) → Option R
def en173 (F : FT173) : Ent := ⟨173, [(false, (.int .u32)), (false, (.int .i64)), (false, (.int .i64)), (false, (.int .i64))], [(false, (.int .u32))], fun R x k => F R x.1 x.2.1 x.2.2.1 x.2.2.2.1 (fun y1 => k (y1, ()) ())⟩
def res173 : List (ResultVar × TypeId × Bool) := [(.tmp 8, 104, false)]
def e173 (F179 : FT179) (R : Type) : Env R := ⟨TT, EQT, 0, 20, ownOf [], callOf [en179 F179] R, loopOf [] R, []⟩
def p173 (F179 : FT179) : FT173 := fun R a0 a1 a2 a3 k =>
F179 R a0 a1 fun y1 =>
F179 R a0 a2 fun y2 =>
let v3 : Int := (ixor .u32 y1 y2);
F179 R a0 a3 fun y4 =>
let v5 : Int := (ixor .u32 v3 y4);
k v5
theorem q173 (F179 : FT179) (F : FT173) (R : Type) (x : AT (en173 F).ins) (k : RT (en173 F).outs → PT (en173 F).ins → Option R) :
  xfun (e173 F179 R) (codeOf Try.f173) res173 (avs (en173 F).ins x) (finK (en173 F).outs (en173 F).ins k) = p173 F179 R x.1 x.2.1 x.2.2.1 x.2.2.2.1 (fun y1 => k (y1, ()) ()) := by kernel_rfl
noncomputable def F173 : FT173 := p173 F179
theorem env173 (R : Type) : EnvOK Try.prog (e173 F179 R) := ⟨tabOK, eqOK, callOf_ok (allE_cons ok179 allE_nil), noIns⟩
theorem ok173 : (en173 F173).OK Try.prog :=
  ent_ok (Ef := fun R => e173 F179 R) (fun R => env173 R) mixed Try.func173 (body := codeOf Try.f173) (by kernel_rfl) (by kernel_rfl) (np := 0) (nt := 20) (fun _ => rfl) (fun _ => rfl) (by kernel_rfl) (res := res173) (by kernel_rfl) (fun _ => rfl) (fun _ => Nat.le_of_ble_eq_true rfl) (by
    intro R
    rw [show loopsOf (codeOf Try.f173) = [] from by kernel_rfl]
    exact allM_nil) (fun R x k => q173 F179 F173 R x k)
/-! drawlot/drawlotref04.choice -/
abbrev FT174 : Type 1 := (R : Type) → Int → Int → Int → (Int → Option R) → Option R
def en174 (F : FT174) : Ent := ⟨174, [(false, (.int .u32)), (false, (.int .u32)), (false, (.int .u32))], [(false, (.int .u32))], fun R x k => F R x.1 x.2.1 x.2.2.1 (fun y1 => k (y1, ()) ())⟩
def res174 : List (ResultVar × TypeId × Bool) := [(.tmp 6, 104, false)]
def e174 (R : Type) : Env R := ⟨TT, EQT, 0, 15, ownOf [], callOf [] R, loopOf [] R, []⟩
def p174 : FT174 := fun R a0 a1 a2 k =>
let v1 : Int := (iand .u32 a0 a1);
let v2 : Int := (IntKind.u32.wrap ((4294967295 : Int) - a0));
let v3 : Int := (iand .u32 v2 a2);
let v4 : Int := (ior .u32 v1 v3);
k v4
theorem q174 (F : FT174) (R : Type) (x : AT (en174 F).ins) (k : RT (en174 F).outs → PT (en174 F).ins → Option R) :
  xfun (e174 R) (codeOf Try.f174) res174 (avs (en174 F).ins x) (finK (en174 F).outs (en174 F).ins k) = p174 R x.1 x.2.1 x.2.2.1 (fun y1 => k (y1, ()) ()) := by kernel_rfl
noncomputable def F174 : FT174 := p174
theorem env174 (R : Type) : EnvOK Try.prog (e174 R) := ⟨tabOK, eqOK, callOf_ok allE_nil, noIns⟩
theorem ok174 : (en174 F174).OK Try.prog :=
  ent_ok (Ef := fun R => e174 R) (fun R => env174 R) mixed Try.func174 (body := codeOf Try.f174) (by kernel_rfl) (by kernel_rfl) (np := 0) (nt := 15) (fun _ => rfl) (fun _ => rfl) (by kernel_rfl) (res := res174) (by kernel_rfl) (fun _ => rfl) (fun _ => Nat.le_of_ble_eq_true rfl) (by
    intro R
    rw [show loopsOf (codeOf Try.f174) = [] from by kernel_rfl]
    exact allM_nil) (fun R x k => q174 F174 R x k)
/-! drawlot/drawlotref04.majority -/
abbrev FT175 : Type 1 := (R : Type) → Int → Int → Int → (Int → Option R) → Option R
def en175 (F : FT175) : Ent := ⟨175, [(false, (.int .u32)), (false, (.int .u32)), (false, (.int .u32))], [(false, (.int .u32))], fun R x k => F R x.1 x.2.1 x.2.2.1 (fun y1 => k (y1, ()) ())⟩
def res175 : List (ResultVar × TypeId × Bool) := [(.tmp 6, 104, false)]
def e175 (R : Type) : Env R := ⟨TT, EQT, 0, 18, ownOf [], callOf [] R, loopOf [] R, []⟩
def p175 : FT175 := fun R a0 a1 a2 k =>
let v1 : Int := (iand .u32 a0 a1);
let v2 : Int := (iand .u32 a0 a2);
let v3 : Int := (ior .u32 v1 v2);
let v4 : Int := (iand .u32 a1 a2);
let v5 : Int := (ior .u32 v3 v4);
k v5
theorem q175 (F : FT175) (R : Type) (x : AT (en175 F).ins) (k : RT (en175 F).outs → PT (en175 F).ins → Option R) :
  xfun (e175 R) (codeOf Try.f175) res175 (avs (en175 F).ins x) (finK (en175 F).outs (en175 F).ins k) = p175 R x.1 x.2.1 x.2.2.1 (fun y1 => k (y1, ()) ()) := by kernel_rfl
noncomputable def F175 : FT175 := p175
theorem env175 (R : Type) : EnvOK Try.prog (e175 R) := ⟨tabOK, eqOK, callOf_ok allE_nil, noIns⟩
theorem ok175 : (en175 F175).OK Try.prog :=
  ent_ok (Ef := fun R => e175 R) (fun R => env175 R) mixed Try.func175 (body := codeOf Try.f175) (by kernel_rfl) (by kernel_rfl) (np := 0) (nt := 18) (fun _ => rfl) (fun _ => rfl) (by kernel_rfl) (res := res175) (by kernel_rfl) (fun _ => rfl) (fun _ => Nat.le_of_ble_eq_true rfl) (by
    intro R
    rw [show loopsOf (codeOf Try.f175) = [] from by kernel_rfl]
    exact allM_nil) (fun R x k => q175 F175 R x k)
/-! drawlot/drawlotref04.Round -/
abbrev FT160 : Type 1 := (R : Type) → (List Int) → Int → Int → ((List Int) → Option R) → Option R
def en160 (F : FT160) : Ent := ⟨160, [(false, (.arr 8 (.int .u32))), (false, (.int .u32)), (false, (.int .u32))], [(false, (.arr 8 (.int .u32)))], fun R x k => F R x.1 x.2.1 x.2.2.1 (fun y1 => k (y1, ()) ())⟩
def res160 : List (ResultVar × TypeId × Bool) := [(.cell 6 155, 155, false)]
def e160 (F173 : FT173) (F174 : FT174) (F175 : FT175) (R : Type) : Env R := ⟨TT, EQT, 0, 58, ownOf [], callOf [en173 F173, en174 F174, en175 F175] R, loopOf [] R, []⟩
def p160 (F173 : FT173) (F174 : FT174) (F175 : FT175) : FT160 := fun R a0 a1 a2 k =>
let v1 : Int := (List.getD a0 7 (0 : Int));
let v2 : Int := (List.getD a0 4 (0 : Int));
F173 R v2 (6 : Int) (11 : Int) (25 : Int) fun y3 =>
let v4 : Int := (IntKind.u32.wrap (v1 + y3));
let v5 : Int := (List.getD a0 4 (0 : Int));
let v6 : Int := (List.getD a0 5 (0 : Int));
let v7 : Int := (List.getD a0 6 (0 : Int));
F174 R v5 v6 v7 fun y8 =>
let v9 : Int := (IntKind.u32.wrap (v4 + y8));
let v10 : Int := (IntKind.u32.wrap (v9 + a2));
let v11 : Int := (IntKind.u32.wrap (v10 + a1));
let v12 : Int := (List.getD a0 0 (0 : Int));
F173 R v12 (2 : Int) (13 : Int) (22 : Int) fun y13 =>
let v14 : Int := (List.getD a0 0 (0 : Int));
let v15 : Int := (List.getD a0 1 (0 : Int));
let v16 : Int := (List.getD a0 2 (0 : Int));
F175 R v14 v15 v16 fun y17 =>
let v18 : Int := (IntKind.u32.wrap (y13 + y17));
let v19 : Int := (IntKind.u32.wrap (v11 + v18));
let v20 : Int := (List.getD a0 0 (0 : Int));
let v21 : Int := (List.getD a0 1 (0 : Int));
let v22 : Int := (List.getD a0 2 (0 : Int));
let v23 : Int := (List.getD a0 3 (0 : Int));
let v24 : Int := (IntKind.u32.wrap (v23 + v11));
let v25 : Int := (List.getD a0 4 (0 : Int));
let v26 : Int := (List.getD a0 5 (0 : Int));
let v27 : Int := (List.getD a0 6 (0 : Int));
let v28 : (List Int) := (List.set (List.set (List.set (List.set (List.set (List.set (List.set (List.set (List.replicate 8 (0 : Int)) 0 v19) 1 v20) 2 v21) 3 v22) 4 v24) 5 v25) 6 v26) 7 v27);
k v28
theorem q160 (F173 : FT173) (F174 : FT174) (F175 : FT175) (F : FT160) (R : Type) (x : AT (en160 F).ins) (k : RT (en160 F).outs → PT (en160 F).ins → Option R) :
  xfun (e160 F173 F174 F175 R) (codeOf Try.f160) res160 (avs (en160 F).ins x) (finK (en160 F).outs (en160 F).ins k) = p160 F173 F174 F175 R x.1 x.2.1 x.2.2.1 (fun y1 => k (y1, ()) ()) := by kernel_rfl
noncomputable def F160 : FT160 := p160 F173 F174 F175
theorem env160 (R : Type) : EnvOK Try.prog (e160 F173 F174 F175 R) := ⟨tabOK, eqOK, callOf_ok (allE_cons ok173 (allE_cons ok174 (allE_cons ok175 allE_nil))), noIns⟩
theorem ok160 : (en160 F160).OK Try.prog :=
  ent_ok (Ef := fun R => e160 F173 F174 F175 R) (fun R => env160 R) mixed Try.func160 (body := codeOf Try.f160) (by kernel_rfl) (by kernel_rfl) (np := 0) (nt := 58) (fun _ => rfl) (fun _ => rfl) (by kernel_rfl) (res := res160) (by kernel_rfl) (fun _ => rfl) (fun _ => Nat.le_of_ble_eq_true rfl) (by
    intro R
    rw [show loopsOf (codeOf Try.f160) = [] from by kernel_rfl]
    exact allM_nil) (fun R x k => q160 F173 F174 F175 F160 R x k)
/-! drawlot/drawlotref04.Take -/
abbrev FT146 : Type 1 := (R : Type) → (List Int) → (List Int) → ((List Int) → Option R) → Option R
def en146 (F : FT146) : Ent := ⟨146, [(false, (.arr 8 (.int .u32))), (false, (.arr 64 (.int .u8)))], [(false, (.arr 8 (.int .u32)))], fun R x k => F R x.1 x.2.1 (fun y1 => k (y1, ()) ())⟩
def res146 : List (ResultVar × TypeId × Bool) := [(.cell 4 155, 155, false)]
abbrev LT146_4 : Type 1 := (R : Type) → Int → (List Int) → (List Int) → (List Int) → (List Int) → ((List Int) → (List Int) → (List Int) → Option R) → Option R
def le146_4 (L : LT146_4) : LEnt := ⟨4, [.fix 2 (.ptr 0 [] (.arr 8 (.int .u32))), .fix 4 (.ptr 2 [] (.arr 8 (.int .u32))), .fix 5 (.ptr 3 [] (.arr 64 (.int .u32))), .fix 6 (.ptr 4 [] (.arr 8 (.int .u32))), .val 7 (.int .i64), .var 0 (.arr 8 (.int .u32)) false, .var 2 (.arr 8 (.int .u32)) false, .var 3 (.arr 64 (.int .u32)) false, .var 4 (.arr 8 (.int .u32)) false], 5, [(.exit 0, [.fix 2 (.ptr 0 [] (.arr 8 (.int .u32))), .fix 4 (.ptr 2 [] (.arr 8 (.int .u32))), .fix 6 (.ptr 4 [] (.arr 8 (.int .u32))), .var 0 (.arr 8 (.int .u32)) false, .var 2 (.arr 8 (.int .u32)) false, .var 4 (.arr 8 (.int .u32)) false])], fun R x ke => L R x.1 x.2.1 x.2.2.1 x.2.2.2.1 x.2.2.2.2.1 (fun y1 y2 y3 => ke.1 (y1, y2, y3, ()))⟩
abbrev LT146_8 : Type 1 := (R : Type) → Int → (List Int) → (List Int) → (List Int) → ((List Int) → (List Int) → Option R) → Option R
def le146_8 (L : LT146_8) : LEnt := ⟨8, [.fix 2 (.ptr 0 [] (.arr 8 (.int .u32))), .fix 4 (.ptr 2 [] (.arr 8 (.int .u32))), .fix 6 (.ptr 4 [] (.arr 8 (.int .u32))), .val 8 (.int .i64), .var 0 (.arr 8 (.int .u32)) false, .var 2 (.arr 8 (.int .u32)) false, .var 4 (.arr 8 (.int .u32)) false], 5, [(.exit 2, [.fix 4 (.ptr 2 [] (.arr 8 (.int .u32))), .fix 6 (.ptr 4 [] (.arr 8 (.int .u32))), .var 2 (.arr 8 (.int .u32)) false, .var 4 (.arr 8 (.int .u32)) false])], fun R x ke => L R x.1 x.2.1 x.2.2.1 x.2.2.2.1 (fun y1 y2 => ke.1 (y1, y2, ()))⟩
def e146 (F159 : FT159) (F160 : FT160) (F161 : FT161) (L4 : LT146_4) (L8 : LT146_8) (R : Type) : Env R := ⟨TT, EQT, 0, 37, ownOf [], callOf [en159 F159, en160 F160, en161 F161] R, loopOf [le146_4 L4, le146_8 L8] R, []⟩
def p146_4 (F160 : FT160) (F161 : FT161) : (R : Type) → Int → (List Int) → (List Int) → (List Int) → (List Int) → (Int → (List Int) → (List Int) → (List Int) → (List Int) → Option R) → ((List Int) → (List Int) → (List Int) → Option R) → Option R := fun R x1 x2 x3 x4 x5 kc k0 =>
let v6 : Bool := (decide (x1 < (64 : Int)));
(match v6 with
| true => (match (bnd x1 (64 : Int)) with
| true => let v7 : Int := (List.getD x4 (Int.toNat x1) (0 : Int));
F161 R x1 fun y8 =>
F160 R x5 v7 y8 fun y9 =>
let v10 : Int := (IntKind.i64.wrap (x1 + (1 : Int)));
kc v10 x2 x3 x4 y9
| false => none)
| false => k0 x2 x3 x5)
theorem q146_4 (F159 : FT159) (F160 : FT160) (F161 : FT161) (L4 : LT146_4) (L8 : LT146_8) (R : Type) (x : HT (le146_4 L4).H) (kc : HT (le146_4 L4).H → Option R) (ke : KT R (le146_4 L4).exs) :
  exec (e146 F159 F160 F161 L4 L8 R) (lcode 4 (codeOf Try.f146)) (stOf (le146_4 L4).H x 5) (roundK (le146_4 L4).H (le146_4 L4).exs kc ke) =
    p146_4 F160 F161 R x.1 x.2.1 x.2.2.1 x.2.2.2.1 x.2.2.2.2.1 (fun x1 x2 x3 x4 x5 => kc (x1, x2, x3, x4, x5, ())) (fun y1 y2 y3 => ke.1 (y1, y2, y3, ())) := by kernel_rfl
noncomputable def G146_4 : Nat → LT146_4
  | 0 => fun _ _ _ _ _ _ _ => none
  | n + 1 => fun R x1 x2 x3 x4 x5 k0 => p146_4 F160 F161 R x1 x2 x3 x4 x5 (fun x1 x2 x3 x4 x5 => G146_4 n R x1 x2 x3 x4 x5 k0) k0
def p146_8 : (R : Type) → Int → (List Int) → (List Int) → (List Int) → (Int → (List Int) → (List Int) → (List Int) → Option R) → ((List Int) → (List Int) → Option R) → Option R := fun R x1 x2 x3 x4 kc k0 =>
let v5 : Bool := (decide (x1 < (8 : Int)));
(match v5 with
| true => (match (bnd x1 (8 : Int)) with
| true => let v6 : Int := (List.getD x4 (Int.toNat x1) (0 : Int));
(match (bnd x1 (8 : Int)) with
| true => let v7 : Int := (List.getD x2 (Int.toNat x1) (0 : Int));
let v8 : Int := (IntKind.u32.wrap (v6 + v7));
(match (bnd x1 (8 : Int)) with
| true => let v9 : (List Int) := (List.set x4 (Int.toNat x1) v8);
let v10 : Int := (IntKind.i64.wrap (x1 + (1 : Int)));
kc v10 x2 x3 v9
| false => none)
| false => none)
| false => none)
| false => k0 x3 x4)
theorem q146_8 (F159 : FT159) (F160 : FT160) (F161 : FT161) (L4 : LT146_4) (L8 : LT146_8) (R : Type) (x : HT (le146_8 L8).H) (kc : HT (le146_8 L8).H → Option R) (ke : KT R (le146_8 L8).exs) :
  exec (e146 F159 F160 F161 L4 L8 R) (lcode 8 (codeOf Try.f146)) (stOf (le146_8 L8).H x 5) (roundK (le146_8 L8).H (le146_8 L8).exs kc ke) =
    p146_8 R x.1 x.2.1 x.2.2.1 x.2.2.2.1 (fun x1 x2 x3 x4 => kc (x1, x2, x3, x4, ())) (fun y1 y2 => ke.1 (y1, y2, ())) := by kernel_rfl
noncomputable def G146_8 : Nat → LT146_8
  | 0 => fun _ _ _ _ _ _ => none
  | n + 1 => fun R x1 x2 x3 x4 k0 => p146_8 R x1 x2 x3 x4 (fun x1 x2 x3 x4 => G146_8 n R x1 x2 x3 x4 k0) k0
def p146 (F159 : FT159) (L4 : LT146_4) (L8 : LT146_8) : FT146 := fun R a0 a1 k =>
F159 R a1 fun y1 =>
L4 R (0 : Int) a0 (List.replicate 8 (0 : Int)) y1 a0 (fun x2 x3 x4 =>
L8 R (0 : Int) x2 x3 x4 (fun x5 x6 =>
k x6))
theorem q146 (F159 : FT159) (F160 : FT160) (F161 : FT161) (L4 : LT146_4) (L8 : LT146_8) (F : FT146) (R : Type) (x : AT (en146 F).ins) (k : RT (en146 F).outs → PT (en146 F).ins → Option R) :
  xfun (e146 F159 F160 F161 L4 L8 R) (codeOf Try.f146) res146 (avs (en146 F).ins x) (finK (en146 F).outs (en146 F).ins k) = p146 F159 L4 L8 R x.1 x.2.1 (fun y1 => k (y1, ()) ()) := by kernel_rfl
noncomputable def F146 : FT146 := p146 F159 (G146_4 FUEL) (G146_8 FUEL)
theorem env146 (R : Type) : EnvOK Try.prog (e146 F159 F160 F161 (G146_4 FUEL) (G146_8 FUEL) R) := ⟨tabOK, eqOK, callOf_ok (allE_cons ok159 (allE_cons ok160 (allE_cons ok161 allE_nil))), noIns⟩
noncomputable def T146_4 : (R : Type) → HT (le146_4 (G146_4 FUEL)).H → (HT (le146_4 (G146_4 FUEL)).H → Option R) → KT R (le146_4 (G146_4 FUEL)).exs → Option R := fun R x kc ke => p146_4 F160 F161 R x.1 x.2.1 x.2.2.1 x.2.2.2.1 x.2.2.2.2.1 (fun x1 x2 x3 x4 x5 => kc (x1, x2, x3, x4, x5, ())) (fun y1 y2 y3 => ke.1 (y1, y2, y3, ()))
theorem it146_4 : ∀ (n : Nat) (R : Type) (x : HT (le146_4 (G146_4 FUEL)).H) (ke : KT R (le146_4 (G146_4 FUEL)).exs), iter T146_4 n R x ke = G146_4 n R x.1 x.2.1 x.2.2.1 x.2.2.2.1 x.2.2.2.2.1 (fun y1 y2 y3 => ke.1 (y1, y2, y3, ())) := by
  intro n
  induction n with
  | zero => intro R x ke; rfl
  | succ n ih =>
    intro R x ke
    show T146_4 R x (fun x' => iter T146_4 n R x' ke) ke = _
    rw [show (fun x' => iter T146_4 n R x' ke) = fun x => G146_4 n R x.1 x.2.1 x.2.2.1 x.2.2.2.1 x.2.2.2.2.1 (fun y1 y2 y3 => ke.1 (y1, y2, y3, ())) from funext fun x' => ih R x' ke]
    rfl
theorem lok146_4 : (le146_4 (G146_4 FUEL)).OK Try.prog 0 37 (lcode 4 (codeOf Try.f146)) := fun R x ke r h =>
  iter_sound (fun R => e146 F159 F160 F161 (G146_4 FUEL) (G146_8 FUEL) R) 0 37 (fun _ => rfl) (fun _ => rfl) (fun R => env146 R) mixed (by
    intro R
    rw [show loopsOf (lcode 4 (codeOf Try.f146)) = [] from by kernel_rfl]
    exact allM_nil) (T := T146_4) (fun R x kc ke => q146_4 F159 F160 F161 (G146_4 FUEL) (G146_8 FUEL) R x kc ke) FUEL R x ke r ((it146_4 FUEL R x ke).trans h)
noncomputable def T146_8 : (R : Type) → HT (le146_8 (G146_8 FUEL)).H → (HT (le146_8 (G146_8 FUEL)).H → Option R) → KT R (le146_8 (G146_8 FUEL)).exs → Option R := fun R x kc ke => p146_8 R x.1 x.2.1 x.2.2.1 x.2.2.2.1 (fun x1 x2 x3 x4 => kc (x1, x2, x3, x4, ())) (fun y1 y2 => ke.1 (y1, y2, ()))
theorem it146_8 : ∀ (n : Nat) (R : Type) (x : HT (le146_8 (G146_8 FUEL)).H) (ke : KT R (le146_8 (G146_8 FUEL)).exs), iter T146_8 n R x ke = G146_8 n R x.1 x.2.1 x.2.2.1 x.2.2.2.1 (fun y1 y2 => ke.1 (y1, y2, ())) := by
  intro n
  induction n with
  | zero => intro R x ke; rfl
  | succ n ih =>
    intro R x ke
    show T146_8 R x (fun x' => iter T146_8 n R x' ke) ke = _
    rw [show (fun x' => iter T146_8 n R x' ke) = fun x => G146_8 n R x.1 x.2.1 x.2.2.1 x.2.2.2.1 (fun y1 y2 => ke.1 (y1, y2, ())) from funext fun x' => ih R x' ke]
    rfl
theorem lok146_8 : (le146_8 (G146_8 FUEL)).OK Try.prog 0 37 (lcode 8 (codeOf Try.f146)) := fun R x ke r h =>
  iter_sound (fun R => e146 F159 F160 F161 (G146_4 FUEL) (G146_8 FUEL) R) 0 37 (fun _ => rfl) (fun _ => rfl) (fun R => env146 R) mixed (by
    intro R
    rw [show loopsOf (lcode 8 (codeOf Try.f146)) = [] from by kernel_rfl]
    exact allM_nil) (T := T146_8) (fun R x kc ke => q146_8 F159 F160 F161 (G146_4 FUEL) (G146_8 FUEL) R x kc ke) FUEL R x ke r ((it146_8 FUEL R x ke).trans h)
theorem ok146 : (en146 F146).OK Try.prog :=
  ent_ok (Ef := fun R => e146 F159 F160 F161 (G146_4 FUEL) (G146_8 FUEL) R) (fun R => env146 R) mixed Try.func146 (body := codeOf Try.f146) (by kernel_rfl) (by kernel_rfl) (np := 0) (nt := 37) (fun _ => rfl) (fun _ => rfl) (by kernel_rfl) (res := res146) (by kernel_rfl) (fun _ => rfl) (fun _ => Nat.le_of_ble_eq_true rfl) (by
    intro R
    rw [show loopsOf (codeOf Try.f146) = [lcode 4 (codeOf Try.f146), lcode 8 (codeOf Try.f146)] from by kernel_rfl]
    exact (allM_cons (loop_ok2 (e := le146_4 (G146_4 FUEL)) rfl rfl lok146_4) (allM_cons (loop_ok2 (e := le146_8 (G146_8 FUEL)) rfl rfl lok146_8) allM_nil))) (fun R x k => q146 F159 F160 F161 (G146_4 FUEL) (G146_8 FUEL) F146 R x k)
/-! drawlot/drawlotref05.take -/
abbrev FT124 : Type 1 := (R : Type) → (List Int) → (List (List Int)) → ((List Int) → Option R) → Option R
def en124 (F : FT124) : Ent := ⟨124, [(false, (.arr 8 (.int .u32))), (false, (.sl (.arr 64 (.int .u8))))], [(false, (.arr 8 (.int .u32)))], fun R x k => F R x.1 x.2.1 (fun y1 => k (y1, ()) ())⟩
def res124 : List (ResultVar × TypeId × Bool) := [(.cell 4 155, 155, false)]
abbrev LT124_2 : Type 1 := (R : Type) → (List (List Int)) → Int → (List Int) → (List Int) → ((List Int) → (List Int) → Option R) → Option R
def le124_2 (L : LT124_2) : LEnt := ⟨2, [.val 1 (.sl (.arr 64 (.int .u8))), .fix 2 (.ptr 0 [] (.arr 8 (.int .u32))), .fix 4 (.ptr 1 [] (.arr 8 (.int .u32))), .val 5 (.int .i64), .var 0 (.arr 8 (.int .u32)) false, .var 1 (.arr 8 (.int .u32)) false], 2, [(.exit 0, [.fix 2 (.ptr 0 [] (.arr 8 (.int .u32))), .fix 4 (.ptr 1 [] (.arr 8 (.int .u32))), .var 0 (.arr 8 (.int .u32)) false, .var 1 (.arr 8 (.int .u32)) false])], fun R x ke => L R x.1 x.2.1 x.2.2.1 x.2.2.2.1 (fun y1 y2 => ke.1 (y1, y2, ()))⟩
def e124 (F146 : FT146) (L2 : LT124_2) (R : Type) : Env R := ⟨TT, EQT, 0, 19, ownOf [], callOf [en146 F146] R, loopOf [le124_2 L2] R, []⟩
def p124_2 (F146 : FT146) : (R : Type) → (List (List Int)) → Int → (List Int) → (List Int) → ((List (List Int)) → Int → (List Int) → (List Int) → Option R) → ((List Int) → (List Int) → Option R) → Option R := fun R x1 x2 x3 x4 kc k0 =>
let v5 : Int := (List.length x1 : Int);
let v6 : Bool := (decide (x2 < v5));
(match v6 with
| true => (match (bnd x2 (List.length x1 : Int)) with
| true => let v7 : (List Int) := (List.getD x1 (Int.toNat x2) (List.replicate 64 (0 : Int)));
F146 R x3 v7 fun y8 =>
let v9 : Int := (IntKind.i64.wrap (x2 + (1 : Int)));
kc x1 v9 y8 x4
| false => none)
| false => k0 x3 x4)
theorem q124_2 (F146 : FT146) (L2 : LT124_2) (R : Type) (x : HT (le124_2 L2).H) (kc : HT (le124_2 L2).H → Option R) (ke : KT R (le124_2 L2).exs) :
  exec (e124 F146 L2 R) (lcode 2 (codeOf Try.f124)) (stOf (le124_2 L2).H x 2) (roundK (le124_2 L2).H (le124_2 L2).exs kc ke) =
    p124_2 F146 R x.1 x.2.1 x.2.2.1 x.2.2.2.1 (fun x1 x2 x3 x4 => kc (x1, x2, x3, x4, ())) (fun y1 y2 => ke.1 (y1, y2, ())) := by kernel_rfl
noncomputable def G124_2 : Nat → LT124_2
  | 0 => fun _ _ _ _ _ _ => none
  | n + 1 => fun R x1 x2 x3 x4 k0 => p124_2 F146 R x1 x2 x3 x4 (fun x1 x2 x3 x4 => G124_2 n R x1 x2 x3 x4 k0) k0
def p124 (L2 : LT124_2) : FT124 := fun R a0 a1 k =>
L2 R a1 (0 : Int) a0 (List.replicate 8 (0 : Int)) (fun x1 x2 =>
k x1)
theorem q124 (F146 : FT146) (L2 : LT124_2) (F : FT124) (R : Type) (x : AT (en124 F).ins) (k : RT (en124 F).outs → PT (en124 F).ins → Option R) :
  xfun (e124 F146 L2 R) (codeOf Try.f124) res124 (avs (en124 F).ins x) (finK (en124 F).outs (en124 F).ins k) = p124 L2 R x.1 x.2.1 (fun y1 => k (y1, ()) ()) := by kernel_rfl
noncomputable def F124 : FT124 := p124 (G124_2 FUEL)
theorem env124 (R : Type) : EnvOK Try.prog (e124 F146 (G124_2 FUEL) R) := ⟨tabOK, eqOK, callOf_ok (allE_cons ok146 allE_nil), noIns⟩
noncomputable def T124_2 : (R : Type) → HT (le124_2 (G124_2 FUEL)).H → (HT (le124_2 (G124_2 FUEL)).H → Option R) → KT R (le124_2 (G124_2 FUEL)).exs → Option R := fun R x kc ke => p124_2 F146 R x.1 x.2.1 x.2.2.1 x.2.2.2.1 (fun x1 x2 x3 x4 => kc (x1, x2, x3, x4, ())) (fun y1 y2 => ke.1 (y1, y2, ()))
theorem it124_2 : ∀ (n : Nat) (R : Type) (x : HT (le124_2 (G124_2 FUEL)).H) (ke : KT R (le124_2 (G124_2 FUEL)).exs), iter T124_2 n R x ke = G124_2 n R x.1 x.2.1 x.2.2.1 x.2.2.2.1 (fun y1 y2 => ke.1 (y1, y2, ())) := by
  intro n
  induction n with
  | zero => intro R x ke; rfl
  | succ n ih =>
    intro R x ke
    show T124_2 R x (fun x' => iter T124_2 n R x' ke) ke = _
    rw [show (fun x' => iter T124_2 n R x' ke) = fun x => G124_2 n R x.1 x.2.1 x.2.2.1 x.2.2.2.1 (fun y1 y2 => ke.1 (y1, y2, ())) from funext fun x' => ih R x' ke]
    rfl
theorem lok124_2 : (le124_2 (G124_2 FUEL)).OK Try.prog 0 19 (lcode 2 (codeOf Try.f124)) := fun R x ke r h =>
  iter_sound (fun R => e124 F146 (G124_2 FUEL) R) 0 19 (fun _ => rfl) (fun _ => rfl) (fun R => env124 R) mixed (by
    intro R
    rw [show loopsOf (lcode 2 (codeOf Try.f124)) = [] from by kernel_rfl]
    exact allM_nil) (T := T124_2) (fun R x kc ke => q124_2 F146 (G124_2 FUEL) R x kc ke) FUEL R x ke r ((it124_2 FUEL R x ke).trans h)
theorem ok124 : (en124 F124).OK Try.prog :=
  ent_ok (Ef := fun R => e124 F146 (G124_2 FUEL) R) (fun R => env124 R) mixed Try.func124 (body := codeOf Try.f124) (by kernel_rfl) (by kernel_rfl) (np := 0) (nt := 19) (fun _ => rfl) (fun _ => rfl) (by kernel_rfl) (res := res124) (by kernel_rfl) (fun _ => rfl) (fun _ => Nat.le_of_ble_eq_true rfl) (by
    intro R
    rw [show loopsOf (codeOf Try.f124) = [lcode 2 (codeOf Try.f124)] from by kernel_rfl]
    exact (allM_cons (loop_ok2 (e := le124_2 (G124_2 FUEL)) rfl rfl lok124_2) allM_nil)) (fun R x k => q124 F146 (G124_2 FUEL) F124 R x k)
/-! drawlot/drawlotref01.Put32 -/
abbrev FT145 : Type 1 := (R : Type) → Int → ((List Int) → Option R) → Option R
def en145 (F : FT145) : Ent := ⟨145, [(false, (.int .u32))], [(false, (.arr 4 (.int .u8)))], fun R x k => F R x.1 (fun y1 => k (y1, ()) ())⟩
def res145 : List (ResultVar × TypeId × Bool) := [(.cell 2 181, 181, false)]
def e145 (R : Type) : Env R := ⟨TT, EQT, 0, 18, ownOf [], callOf [] R, loopOf [] R, []⟩
def p145 : FT145 := fun R a0 k =>
let v1 : Int := (IntKind.u32.wrap (Int.tdiv a0 (16777216 : Int)));
let v2 : Int := (IntKind.u8.wrap v1);
let v3 : Int := (IntKind.u32.wrap (Int.tdiv a0 (65536 : Int)));
let v4 : Int := (Int.tmod v3 (256 : Int));
let v5 : Int := (IntKind.u8.wrap v4);
let v6 : Int := (IntKind.u32.wrap (Int.tdiv a0 (256 : Int)));
let v7 : Int := (Int.tmod v6 (256 : Int));
let v8 : Int := (IntKind.u8.wrap v7);
let v9 : Int := (Int.tmod a0 (256 : Int));
let v10 : Int := (IntKind.u8.wrap v9);
let v11 : (List Int) := (List.set (List.set (List.set (List.set (List.replicate 4 (0 : Int)) 0 v2) 1 v5) 2 v8) 3 v10);
k v11
theorem q145 (F : FT145) (R : Type) (x : AT (en145 F).ins) (k : RT (en145 F).outs → PT (en145 F).ins → Option R) :
  xfun (e145 R) (codeOf Try.f145) res145 (avs (en145 F).ins x) (finK (en145 F).outs (en145 F).ins k) = p145 R x.1 (fun y1 => k (y1, ()) ()) := by kernel_rfl
noncomputable def F145 : FT145 := p145
theorem env145 (R : Type) : EnvOK Try.prog (e145 R) := ⟨tabOK, eqOK, callOf_ok allE_nil, noIns⟩
theorem ok145 : (en145 F145).OK Try.prog :=
  ent_ok (Ef := fun R => e145 R) (fun R => env145 R) mixed Try.func145 (body := codeOf Try.f145) (by kernel_rfl) (by kernel_rfl) (np := 0) (nt := 18) (fun _ => rfl) (fun _ => rfl) (by kernel_rfl) (res := res145) (by kernel_rfl) (fun _ => rfl) (fun _ => Nat.le_of_ble_eq_true rfl) (by
    intro R
    rw [show loopsOf (codeOf Try.f145) = [] from by kernel_rfl]
    exact allM_nil) (fun R x k => q145 F145 R x k)
/-! drawlot/drawlotref05.hash -/
abbrev FT123 : Type 1 := (R : Type) → (List Int) → ((List Int) → Option R) → Option R
def en123 (F : FT123) : Ent := ⟨123, [(false, (.arr 8 (.int .u32)))], [(false, (.arr 32 (.int .u8)))], fun R x k => F R x.1 (fun y1 => k (y1, ()) ())⟩
def res123 : List (ResultVar × TypeId × Bool) := [(.cell 2 26, 26, false)]
abbrev LT123_3 : Type 1 := (R : Type) → Int → (List Int) → (List Int) → (List Int) → ((List Int) → (List Int) → Option R) → Option R
def le123_3 (L : LT123_3) : LEnt := ⟨3, [.fix 1 (.ptr 0 [] (.arr 8 (.int .u32))), .fix 2 (.ptr 1 [] (.arr 32 (.int .u8))), .fix 3 (.ptr 2 [] (.arr 32 (.int .u8))), .val 4 (.int .i64), .var 0 (.arr 8 (.int .u32)) false, .var 1 (.arr 32 (.int .u8)) false, .var 2 (.arr 32 (.int .u8)) false], 3, [(.exit 0, [.fix 2 (.ptr 1 [] (.arr 32 (.int .u8))), .fix 3 (.ptr 2 [] (.arr 32 (.int .u8))), .var 1 (.arr 32 (.int .u8)) false, .var 2 (.arr 32 (.int .u8)) false])], fun R x ke => L R x.1 x.2.1 x.2.2.1 x.2.2.2.1 (fun y1 y2 => ke.1 (y1, y2, ()))⟩
abbrev LT123_7 : Type 1 := (R : Type) → Int → Int → (List Int) → (List Int) → (List Int) → (List Int) → (Int → (List Int) → (List Int) → (List Int) → Option R) → Option R
def le123_7 (L : LT123_7) : LEnt := ⟨7, [.fix 1 (.ptr 0 [] (.arr 8 (.int .u32))), .fix 2 (.ptr 1 [] (.arr 32 (.int .u8))), .fix 3 (.ptr 2 [] (.arr 32 (.int .u8))), .val 4 (.int .i64), .fix 5 (.ptr 3 [] (.arr 4 (.int .u8))), .val 6 (.int .i64), .var 0 (.arr 8 (.int .u32)) false, .var 1 (.arr 32 (.int .u8)) false, .var 2 (.arr 32 (.int .u8)) false, .var 3 (.arr 4 (.int .u8)) false], 4, [(.exit 2, [.fix 1 (.ptr 0 [] (.arr 8 (.int .u32))), .fix 2 (.ptr 1 [] (.arr 32 (.int .u8))), .fix 3 (.ptr 2 [] (.arr 32 (.int .u8))), .val 4 (.int .i64), .var 0 (.arr 8 (.int .u32)) false, .var 1 (.arr 32 (.int .u8)) false, .var 2 (.arr 32 (.int .u8)) false])], fun R x ke => L R x.1 x.2.1 x.2.2.1 x.2.2.2.1 x.2.2.2.2.1 x.2.2.2.2.2.1 (fun y1 y2 y3 y4 => ke.1 (y1, y2, y3, y4, ()))⟩
def e123 (F145 : FT145) (L3 : LT123_3) (L7 : LT123_7) (R : Type) : Env R := ⟨TT, EQT, 0, 28, ownOf [], callOf [en145 F145] R, loopOf [le123_3 L3, le123_7 L7] R, []⟩
def p123_7 : (R : Type) → Int → Int → (List Int) → (List Int) → (List Int) → (List Int) → (Int → Int → (List Int) → (List Int) → (List Int) → (List Int) → Option R) → (Int → (List Int) → (List Int) → (List Int) → Option R) → Option R := fun R x1 x2 x3 x4 x5 x6 kc k0 =>
let v7 : Bool := (decide (x2 < (4 : Int)));
(match v7 with
| true => let v8 : Int := (IntKind.i64.wrap ((4 : Int) * x1));
let v9 : Int := (IntKind.i64.wrap (v8 + x2));
(match (bnd x2 (4 : Int)) with
| true => let v10 : Int := (List.getD x6 (Int.toNat x2) (0 : Int));
(match (bnd v9 (32 : Int)) with
| true => let v11 : (List Int) := (List.set x5 (Int.toNat v9) v10);
let v12 : Int := (IntKind.i64.wrap (x2 + (1 : Int)));
kc x1 v12 x3 x4 v11 x6
| false => none)
| false => none)
| false => k0 x1 x3 x4 x5)
theorem q123_7 (F145 : FT145) (L3 : LT123_3) (L7 : LT123_7) (R : Type) (x : HT (le123_7 L7).H) (kc : HT (le123_7 L7).H → Option R) (ke : KT R (le123_7 L7).exs) :
  exec (e123 F145 L3 L7 R) (lcode 7 (codeOf Try.f123)) (stOf (le123_7 L7).H x 4) (roundK (le123_7 L7).H (le123_7 L7).exs kc ke) =
    p123_7 R x.1 x.2.1 x.2.2.1 x.2.2.2.1 x.2.2.2.2.1 x.2.2.2.2.2.1 (fun x1 x2 x3 x4 x5 x6 => kc (x1, x2, x3, x4, x5, x6, ())) (fun y1 y2 y3 y4 => ke.1 (y1, y2, y3, y4, ())) := by kernel_rfl
noncomputable def G123_7 : Nat → LT123_7
  | 0 => fun _ _ _ _ _ _ _ _ => none
  | n + 1 => fun R x1 x2 x3 x4 x5 x6 k0 => p123_7 R x1 x2 x3 x4 x5 x6 (fun x1 x2 x3 x4 x5 x6 => G123_7 n R x1 x2 x3 x4 x5 x6 k0) k0
def p123_3 (F145 : FT145) (L7 : LT123_7) : (R : Type) → Int → (List Int) → (List Int) → (List Int) → (Int → (List Int) → (List Int) → (List Int) → Option R) → ((List Int) → (List Int) → Option R) → Option R := fun R x1 x2 x3 x4 kc k0 =>
let v5 : Bool := (decide (x1 < (8 : Int)));
(match v5 with
| true => (match (bnd x1 (8 : Int)) with
| true => let v6 : Int := (List.getD x2 (Int.toNat x1) (0 : Int));
F145 R v6 fun y7 =>
L7 R x1 (0 : Int) x2 x3 x4 y7 (fun x8 x9 x10 x11 =>
let v12 : Int := (IntKind.i64.wrap (x8 + (1 : Int)));
kc v12 x9 x10 x11)
| false => none)
| false => k0 x3 x4)
theorem q123_3 (F145 : FT145) (L3 : LT123_3) (L7 : LT123_7) (R : Type) (x : HT (le123_3 L3).H) (kc : HT (le123_3 L3).H → Option R) (ke : KT R (le123_3 L3).exs) :
  exec (e123 F145 L3 L7 R) (lcode 3 (codeOf Try.f123)) (stOf (le123_3 L3).H x 3) (roundK (le123_3 L3).H (le123_3 L3).exs kc ke) =
    p123_3 F145 L7 R x.1 x.2.1 x.2.2.1 x.2.2.2.1 (fun x1 x2 x3 x4 => kc (x1, x2, x3, x4, ())) (fun y1 y2 => ke.1 (y1, y2, ())) := by kernel_rfl
noncomputable def G123_3 : Nat → LT123_3
  | 0 => fun _ _ _ _ _ _ => none
  | n + 1 => fun R x1 x2 x3 x4 k0 => p123_3 F145 (G123_7 FUEL) R x1 x2 x3 x4 (fun x1 x2 x3 x4 => G123_3 n R x1 x2 x3 x4 k0) k0
def p123 (L3 : LT123_3) : FT123 := fun R a0 k =>
L3 R (0 : Int) a0 (List.replicate 32 (0 : Int)) (List.replicate 32 (0 : Int)) (fun x1 x2 =>
k x2)
theorem q123 (F145 : FT145) (L3 : LT123_3) (L7 : LT123_7) (F : FT123) (R : Type) (x : AT (en123 F).ins) (k : RT (en123 F).outs → PT (en123 F).ins → Option R) :
  xfun (e123 F145 L3 L7 R) (codeOf Try.f123) res123 (avs (en123 F).ins x) (finK (en123 F).outs (en123 F).ins k) = p123 L3 R x.1 (fun y1 => k (y1, ()) ()) := by kernel_rfl
noncomputable def F123 : FT123 := p123 (G123_3 FUEL)
theorem env123 (R : Type) : EnvOK Try.prog (e123 F145 (G123_3 FUEL) (G123_7 FUEL) R) := ⟨tabOK, eqOK, callOf_ok (allE_cons ok145 allE_nil), noIns⟩
noncomputable def T123_7 : (R : Type) → HT (le123_7 (G123_7 FUEL)).H → (HT (le123_7 (G123_7 FUEL)).H → Option R) → KT R (le123_7 (G123_7 FUEL)).exs → Option R := fun R x kc ke => p123_7 R x.1 x.2.1 x.2.2.1 x.2.2.2.1 x.2.2.2.2.1 x.2.2.2.2.2.1 (fun x1 x2 x3 x4 x5 x6 => kc (x1, x2, x3, x4, x5, x6, ())) (fun y1 y2 y3 y4 => ke.1 (y1, y2, y3, y4, ()))
theorem it123_7 : ∀ (n : Nat) (R : Type) (x : HT (le123_7 (G123_7 FUEL)).H) (ke : KT R (le123_7 (G123_7 FUEL)).exs), iter T123_7 n R x ke = G123_7 n R x.1 x.2.1 x.2.2.1 x.2.2.2.1 x.2.2.2.2.1 x.2.2.2.2.2.1 (fun y1 y2 y3 y4 => ke.1 (y1, y2, y3, y4, ())) := by
  intro n
  induction n with
  | zero => intro R x ke; rfl
  | succ n ih =>
    intro R x ke
    show T123_7 R x (fun x' => iter T123_7 n R x' ke) ke = _
    rw [show (fun x' => iter T123_7 n R x' ke) = fun x => G123_7 n R x.1 x.2.1 x.2.2.1 x.2.2.2.1 x.2.2.2.2.1 x.2.2.2.2.2.1 (fun y1 y2 y3 y4 => ke.1 (y1, y2, y3, y4, ())) from funext fun x' => ih R x' ke]
    rfl
theorem lok123_7 : (le123_7 (G123_7 FUEL)).OK Try.prog 0 28 (lcode 7 (codeOf Try.f123)) := fun R x ke r h =>
  iter_sound (fun R => e123 F145 (G123_3 FUEL) (G123_7 FUEL) R) 0 28 (fun _ => rfl) (fun _ => rfl) (fun R => env123 R) mixed (by
    intro R
    rw [show loopsOf (lcode 7 (codeOf Try.f123)) = [] from by kernel_rfl]
    exact allM_nil) (T := T123_7) (fun R x kc ke => q123_7 F145 (G123_3 FUEL) (G123_7 FUEL) R x kc ke) FUEL R x ke r ((it123_7 FUEL R x ke).trans h)
noncomputable def T123_3 : (R : Type) → HT (le123_3 (G123_3 FUEL)).H → (HT (le123_3 (G123_3 FUEL)).H → Option R) → KT R (le123_3 (G123_3 FUEL)).exs → Option R := fun R x kc ke => p123_3 F145 (G123_7 FUEL) R x.1 x.2.1 x.2.2.1 x.2.2.2.1 (fun x1 x2 x3 x4 => kc (x1, x2, x3, x4, ())) (fun y1 y2 => ke.1 (y1, y2, ()))
theorem it123_3 : ∀ (n : Nat) (R : Type) (x : HT (le123_3 (G123_3 FUEL)).H) (ke : KT R (le123_3 (G123_3 FUEL)).exs), iter T123_3 n R x ke = G123_3 n R x.1 x.2.1 x.2.2.1 x.2.2.2.1 (fun y1 y2 => ke.1 (y1, y2, ())) := by
  intro n
  induction n with
  | zero => intro R x ke; rfl
  | succ n ih =>
    intro R x ke
    show T123_3 R x (fun x' => iter T123_3 n R x' ke) ke = _
    rw [show (fun x' => iter T123_3 n R x' ke) = fun x => G123_3 n R x.1 x.2.1 x.2.2.1 x.2.2.2.1 (fun y1 y2 => ke.1 (y1, y2, ())) from funext fun x' => ih R x' ke]
    rfl
theorem lok123_3 : (le123_3 (G123_3 FUEL)).OK Try.prog 0 28 (lcode 3 (codeOf Try.f123)) := fun R x ke r h =>
  iter_sound (fun R => e123 F145 (G123_3 FUEL) (G123_7 FUEL) R) 0 28 (fun _ => rfl) (fun _ => rfl) (fun R => env123 R) mixed (by
    intro R
    rw [show loopsOf (lcode 3 (codeOf Try.f123)) = [lcode 7 (codeOf Try.f123)] from by kernel_rfl]
    exact (allM_cons (loop_ok2 (e := le123_7 (G123_7 FUEL)) rfl rfl lok123_7) allM_nil)) (T := T123_3) (fun R x kc ke => q123_3 F145 (G123_3 FUEL) (G123_7 FUEL) R x kc ke) FUEL R x ke r ((it123_3 FUEL R x ke).trans h)
theorem ok123 : (en123 F123).OK Try.prog :=
  ent_ok (Ef := fun R => e123 F145 (G123_3 FUEL) (G123_7 FUEL) R) (fun R => env123 R) mixed Try.func123 (body := codeOf Try.f123) (by kernel_rfl) (by kernel_rfl) (np := 0) (nt := 28) (fun _ => rfl) (fun _ => rfl) (by kernel_rfl) (res := res123) (by kernel_rfl) (fun _ => rfl) (fun _ => Nat.le_of_ble_eq_true rfl) (by
    intro R
    rw [show loopsOf (codeOf Try.f123) = [lcode 3 (codeOf Try.f123)] from by kernel_rfl]
    exact (allM_cons (loop_ok2 (e := le123_3 (G123_3 FUEL)) rfl rfl lok123_3) allM_nil)) (fun R x k => q123 F145 (G123_3 FUEL) (G123_7 FUEL) F123 R x k)
/-! drawlot/drawlotref05.Sum -/
abbrev FT91 : Type 1 := (R : Type) → (List Int) → ((List Int) → Option R) → Option R
def en91 (F : FT91) : Ent := ⟨91, [(false, (.sl (.int .u8)))], [(false, (.arr 32 (.int .u8)))], fun R x k => F R x.1 (fun y1 => k (y1, ()) ())⟩
def res91 : List (ResultVar × TypeId × Bool) := [(.cell 2 26, 26, false)]
def e91 (F121 : FT121) (F122 : FT122) (F123 : FT123) (F124 : FT124) (F125 : FT125) (R : Type) : Env R := ⟨TT, EQT, 0, 15, ownOf [], callOf [en121 F121, en122 F122, en123 F123, en124 F124, en125 F125] R, loopOf [] R, []⟩
def p91 (F121 : FT121) (F122 : FT122) (F123 : FT123) (F124 : FT124) (F125 : FT125) : FT91 := fun R a0 k =>
F122 R a0 fun y1 =>
F121 R y1 fun y2 y3 =>
F125 R  fun y4 =>
F124 R y4 y2 fun y5 =>
F123 R y5 fun y6 =>
k y6
theorem q91 (F121 : FT121) (F122 : FT122) (F123 : FT123) (F124 : FT124) (F125 : FT125) (F : FT91) (R : Type) (x : AT (en91 F).ins) (k : RT (en91 F).outs → PT (en91 F).ins → Option R) :
  xfun (e91 F121 F122 F123 F124 F125 R) (codeOf Try.f91) res91 (avs (en91 F).ins x) (finK (en91 F).outs (en91 F).ins k) = p91 F121 F122 F123 F124 F125 R x.1 (fun y1 => k (y1, ()) ()) := by kernel_rfl
noncomputable def F91 : FT91 := p91 F121 F122 F123 F124 F125
theorem env91 (R : Type) : EnvOK Try.prog (e91 F121 F122 F123 F124 F125 R) := ⟨tabOK, eqOK, callOf_ok (allE_cons ok121 (allE_cons ok122 (allE_cons ok123 (allE_cons ok124 (allE_cons ok125 allE_nil))))), noIns⟩
theorem ok91 : (en91 F91).OK Try.prog :=
  ent_ok (Ef := fun R => e91 F121 F122 F123 F124 F125 R) (fun R => env91 R) mixed Try.func91 (body := codeOf Try.f91) (by kernel_rfl) (by kernel_rfl) (np := 0) (nt := 15) (fun _ => rfl) (fun _ => rfl) (by kernel_rfl) (res := res91) (by kernel_rfl) (fun _ => rfl) (fun _ => Nat.le_of_ble_eq_true rfl) (by
    intro R
    rw [show loopsOf (codeOf Try.f91) = [] from by kernel_rfl]
    exact allM_nil) (fun R x k => q91 F121 F122 F123 F124 F125 F91 R x k)
/-! drawlot/drawlotref18.Commitment -/
abbrev FT50 : Type 1 := (R : Type) → (List Int) → ((List Int) → Option R) → Option R
def en50 (F : FT50) : Ent := ⟨50, [(false, (.arr 32 (.int .u8)))], [(false, (.arr 32 (.int .u8)))], fun R x k => F R x.1 (fun y1 => k (y1, ()) ())⟩
def res50 : List (ResultVar × TypeId × Bool) := [(.cell 2 26, 26, false)]
def e50 (F91 : FT91) (F92 : FT92) (R : Type) : Env R := ⟨TT, EQT, 0, 6, ownOf [], callOf [en91 F91, en92 F92] R, loopOf [] R, []⟩
def p50 (F91 : FT91) (F92 : FT92) : FT50 := fun R a0 k =>
F92 R a0 fun y1 =>
F91 R y1 fun y2 =>
k y2
theorem q50 (F91 : FT91) (F92 : FT92) (F : FT50) (R : Type) (x : AT (en50 F).ins) (k : RT (en50 F).outs → PT (en50 F).ins → Option R) :
  xfun (e50 F91 F92 R) (codeOf Try.f50) res50 (avs (en50 F).ins x) (finK (en50 F).outs (en50 F).ins k) = p50 F91 F92 R x.1 (fun y1 => k (y1, ()) ()) := by kernel_rfl
noncomputable def F50 : FT50 := p50 F91 F92
theorem env50 (R : Type) : EnvOK Try.prog (e50 F91 F92 R) := ⟨tabOK, eqOK, callOf_ok (allE_cons ok91 (allE_cons ok92 allE_nil)), noIns⟩
theorem ok50 : (en50 F50).OK Try.prog :=
  ent_ok (Ef := fun R => e50 F91 F92 R) (fun R => env50 R) mixed Try.func50 (body := codeOf Try.f50) (by kernel_rfl) (by kernel_rfl) (np := 0) (nt := 6) (fun _ => rfl) (fun _ => rfl) (by kernel_rfl) (res := res50) (by kernel_rfl) (fun _ => rfl) (fun _ => Nat.le_of_ble_eq_true rfl) (by
    intro R
    rw [show loopsOf (codeOf Try.f50) = [] from by kernel_rfl]
    exact allM_nil) (fun R x k => q50 F91 F92 F50 R x k)
/-! drawlot/comp.Start -/
abbrev FT155 : Type 1 := (R : Type) → ((List Int) → Option R) → Option R
def en155 (F : FT155) : Ent := ⟨155, [], [(false, (.arr 8 (.int .u32)))], fun R x k => F R  (fun y1 => k (y1, ()) ())⟩
def res155 : List (ResultVar × TypeId × Bool) := [(.cell 0 155, 155, false)]
def e155 (R : Type) : Env R := ⟨TT, EQT, 0, 2, ownOf [], callOf [] R, loopOf [] R, []⟩
def p155 : FT155 := fun R k =>
let v1 : (List Int) := (List.set (List.set (List.set (List.set (List.set (List.set (List.set (List.set (List.replicate 8 (0 : Int)) 0 (1779033703 : Int)) 1 (3144134277 : Int)) 2 (1013904242 : Int)) 3 (2773480762 : Int)) 4 (1359893119 : Int)) 5 (2600822924 : Int)) 6 (528734635 : Int)) 7 (1541459225 : Int));
k v1
theorem q155 (F : FT155) (R : Type) (x : AT (en155 F).ins) (k : RT (en155 F).outs → PT (en155 F).ins → Option R) :
  xfun (e155 R) (codeOf Try.f155) res155 (avs (en155 F).ins x) (finK (en155 F).outs (en155 F).ins k) = p155 R  (fun y1 => k (y1, ()) ()) := by kernel_rfl
noncomputable def F155 : FT155 := p155
theorem env155 (R : Type) : EnvOK Try.prog (e155 R) := ⟨tabOK, eqOK, callOf_ok allE_nil, noIns⟩
theorem ok155 : (en155 F155).OK Try.prog :=
  ent_ok (Ef := fun R => e155 R) (fun R => env155 R) mixed Try.func155 (body := codeOf Try.f155) (by kernel_rfl) (by kernel_rfl) (np := 0) (nt := 2) (fun _ => rfl) (fun _ => rfl) (by kernel_rfl) (res := res155) (by kernel_rfl) (fun _ => rfl) (fun _ => Nat.le_of_ble_eq_true rfl) (by
    intro R
    rw [show loopsOf (codeOf Try.f155) = [] from by kernel_rfl]
    exact allM_nil) (fun R x k => q155 F155 R x k)
/-! drawlot/sha.New -/
abbrev FT142 : Type 1 := (R : Type) → (((List Int) × ((List Int) × (Int × Unit))) → Option R) → Option R
def en142 (F : FT142) : Ent := ⟨142, [], [(false, (.pair (.arr 8 (.int .u32)) (.pair (.sl (.int .u8)) (.pair (.int .u64) .unit))))], fun R x k => F R  (fun y1 => k (y1, ()) ())⟩
def res142 : List (ResultVar × TypeId × Bool) := [(.cell 0 172, 172, false)]
def e142 (F155 : FT155) (R : Type) : Env R := ⟨TT, EQT, 0, 3, ownOf [], callOf [en155 F155] R, loopOf [] R, []⟩
def p142 (F155 : FT155) : FT142 := fun R k =>
F155 R  fun y1 =>
k (y1, ([] : (List Int)), (0 : Int), ())
theorem q142 (F155 : FT155) (F : FT142) (R : Type) (x : AT (en142 F).ins) (k : RT (en142 F).outs → PT (en142 F).ins → Option R) :
  xfun (e142 F155 R) (codeOf Try.f142) res142 (avs (en142 F).ins x) (finK (en142 F).outs (en142 F).ins k) = p142 F155 R  (fun y1 => k (y1, ()) ()) := by kernel_rfl
noncomputable def F142 : FT142 := p142 F155
theorem env142 (R : Type) : EnvOK Try.prog (e142 F155 R) := ⟨tabOK, eqOK, callOf_ok (allE_cons ok155 allE_nil), noIns⟩
theorem ok142 : (en142 F142).OK Try.prog :=
  ent_ok (Ef := fun R => e142 F155 R) (fun R => env142 R) mixed Try.func142 (body := codeOf Try.f142) (by kernel_rfl) (by kernel_rfl) (np := 0) (nt := 3) (fun _ => rfl) (fun _ => rfl) (by kernel_rfl) (res := res142) (by kernel_rfl) (fun _ => rfl) (fun _ => Nat.le_of_ble_eq_true rfl) (by
    intro R
    rw [show loopsOf (codeOf Try.f142) = [] from by kernel_rfl]
    exact allM_nil) (fun R x k => q142 F155 F142 R x k)
/-! drawlot/sha.Right -/
abbrev FT153 : Type 1 := (R : Type) → ((List Int) × ((List Int) × (Int × Unit))) → (Bool → Option R) → Option R
def en153 (F : FT153) : Ent := ⟨153, [(false, (.pair (.arr 8 (.int .u32)) (.pair (.sl (.int .u8)) (.pair (.int .u64) .unit))))], [(false, .bool)], fun R x k => F R x.1 (fun y1 => k (y1, ()) ())⟩
def res153 : List (ResultVar × TypeId × Bool) := [(.tmp 2, 4, false)]
def e153 (R : Type) : Env R := ⟨TT, EQT, 0, 16, ownOf [], callOf [] R, loopOf [] R, []⟩
def p153 : FT153 := fun R a0 k =>
let v1 : Bool := (decide (a0.2.2.1 < (2305843009213693952 : Int)));
(match v1 with
| true => let v2 : Int := (List.length a0.2.1 : Int);
let v3 : Int := (IntKind.u64.wrap v2);
let v4 : Int := (iand .u64 a0.2.2.1 (63 : Int));
let v5 : Bool := (v3 == v4);
k v5
| false => k false)
theorem q153 (F : FT153) (R : Type) (x : AT (en153 F).ins) (k : RT (en153 F).outs → PT (en153 F).ins → Option R) :
  xfun (e153 R) (codeOf Try.f153) res153 (avs (en153 F).ins x) (finK (en153 F).outs (en153 F).ins k) = p153 R x.1 (fun y1 => k (y1, ()) ()) := by kernel_rfl
noncomputable def F153 : FT153 := p153
theorem env153 (R : Type) : EnvOK Try.prog (e153 R) := ⟨tabOK, eqOK, callOf_ok allE_nil, noIns⟩
theorem ok153 : (en153 F153).OK Try.prog :=
  ent_ok (Ef := fun R => e153 R) (fun R => env153 R) mixed Try.func153 (body := codeOf Try.f153) (by kernel_rfl) (by kernel_rfl) (np := 0) (nt := 16) (fun _ => rfl) (fun _ => rfl) (by kernel_rfl) (res := res153) (by kernel_rfl) (fun _ => rfl) (fun _ => Nat.le_of_ble_eq_true rfl) (by
    intro R
    rw [show loopsOf (codeOf Try.f153) = [] from by kernel_rfl]
    exact allM_nil) (fun R x k => q153 F153 R x k)
/-! bytes.Clone -/
abbrev FT165 : Type 1 := (R : Type) → (List Int) → ((List Int) → Option R) → Option R
def en165 (F : FT165) : Ent := ⟨165, [(false, (.sl (.int .u8)))], [(true, (.int .u8))], fun R x k => F R x.1 (fun y1 => k (y1, ()) ())⟩
def e165 : Env (RT [(true, (.int .u8))]) := ⟨TT, EQT, 0, 8, ownOf [(2, 0), (3, 0)], fun _ _ _ => none, fun _ _ _ => none, []⟩
def F165 : FT165 := fun R a0 k => match decide (List.length ([] : (List Int)) + List.length a0 ≤ 140737488355328) with | true => k a0 | false => none
theorem ok165 : (en165 F165).OK Try.prog :=
  clone_ok (e := (.int .u8)) e165 ⟨tabOK, eqOK, (fun f b K r h => by cases h), noIns⟩ mixed Try.func165 (body := codeOf Try.f165) (by kernel_rfl) (by kernel_rfl) (by kernel_rfl) (res := [(.tmp 2, 23, true)]) (by kernel_rfl) rfl (by decide) (by kernel_rfl) (lim := 140737488355328) (by kernel_rfl) (fun l => by kernel_rfl)
/-! drawlot/pad.Cut -/
abbrev FT167 : Type 1 := (R : Type) → (List Int) → ((List (List Int)) → (List Int) → Option R) → Option R
def en167 (F : FT167) : Ent := ⟨167, [(false, (.sl (.int .u8)))], [(false, (.sl (.arr 64 (.int .u8)))), (false, (.sl (.int .u8)))], fun R x k => F R x.1 (fun y1 y2 => k (y1, y2, ()) ())⟩
def res167 : List (ResultVar × TypeId × Bool) := [(.tmp 2, 149, false), (.tmp 3, 23, false)]
abbrev LT167_1 : Type 1 := (R : Type) → (List Int) → (List (List Int)) → ((List Int) → (List (List Int)) → Option R) → Option R
def le167_1 (L : LT167_1) : LEnt := ⟨1, [.val 0 (.sl (.int .u8)), .fix 2 (.own 0 0), .row 0 (.arr 64 (.int .u8)) false], 1, [(.exit 0, [.val 0 (.sl (.int .u8)), .fix 2 (.own 0 0), .row 0 (.arr 64 (.int .u8)) false])], fun R x ke => L R x.1 x.2.1 (fun y1 y2 => ke.1 (y1, y2, ()))⟩
def e167 (L1 : LT167_1) (R : Type) : Env R := ⟨TT, EQT, 0, 17, ownOf [(0, 0)], callOf [] R, loopOf [le167_1 L1] R, []⟩
def p167_1 : (R : Type) → (List Int) → (List (List Int)) → ((List Int) → (List (List Int)) → Option R) → ((List Int) → (List (List Int)) → Option R) → Option R := fun R x1 x2 kc k0 =>
let v3 : Int := (List.length x1 : Int);
let v4 : Bool := (decide (v3 ≥ (64 : Int)));
(match v4 with
| true => (match (decide ((64 : Int) ≤ (List.length x1 : Int))) with
| true => let v5 : (List Int) := (List.take 64 x1);
let v6 : (List (List Int)) := ([v5] : (List (List Int)));
(match (decide (List.length x2 + List.length v6 ≤ 2199023255552)) with
| true => let v7 : (List (List Int)) := (x2 ++ v6);
(match (decide (0 ≤ (64 : Int) ∧ (64 : Int) ≤ (List.length x1 : Int) ∧ (List.length x1 : Int) ≤ (List.length x1 : Int) ∧ (List.length x1 : Int) ≤ (List.length x1 : Int))) with
| true => let v8 : (List Int) := (List.take (Int.toNat ((List.length x1 : Int) - (64 : Int))) (List.drop 64 x1));
kc v8 v7
| false => none)
| false => none)
| false => none)
| false => k0 x1 x2)
theorem q167_1 (L1 : LT167_1) (R : Type) (x : HT (le167_1 L1).H) (kc : HT (le167_1 L1).H → Option R) (ke : KT R (le167_1 L1).exs) :
  exec (e167 L1 R) (lcode 1 (codeOf Try.f167)) (stOf (le167_1 L1).H x 1) (roundK (le167_1 L1).H (le167_1 L1).exs kc ke) =
    p167_1 R x.1 x.2.1 (fun x1 x2 => kc (x1, x2, ())) (fun y1 y2 => ke.1 (y1, y2, ())) := by kernel_rfl
noncomputable def G167_1 : Nat → LT167_1
  | 0 => fun _ _ _ _ => none
  | n + 1 => fun R x1 x2 k0 => p167_1 R x1 x2 (fun x1 x2 => G167_1 n R x1 x2 k0) k0
def p167 (L1 : LT167_1) : FT167 := fun R a0 k =>
L1 R a0 ([] : (List (List Int))) (fun x1 x2 =>
k x2 x1)
theorem q167 (L1 : LT167_1) (F : FT167) (R : Type) (x : AT (en167 F).ins) (k : RT (en167 F).outs → PT (en167 F).ins → Option R) :
  xfun (e167 L1 R) (codeOf Try.f167) res167 (avs (en167 F).ins x) (finK (en167 F).outs (en167 F).ins k) = p167 L1 R x.1 (fun y1 y2 => k (y1, y2, ()) ()) := by kernel_rfl
noncomputable def F167 : FT167 := p167 (G167_1 FUEL)
theorem env167 (R : Type) : EnvOK Try.prog (e167 (G167_1 FUEL) R) := ⟨tabOK, eqOK, callOf_ok allE_nil, noIns⟩
noncomputable def T167_1 : (R : Type) → HT (le167_1 (G167_1 FUEL)).H → (HT (le167_1 (G167_1 FUEL)).H → Option R) → KT R (le167_1 (G167_1 FUEL)).exs → Option R := fun R x kc ke => p167_1 R x.1 x.2.1 (fun x1 x2 => kc (x1, x2, ())) (fun y1 y2 => ke.1 (y1, y2, ()))
theorem it167_1 : ∀ (n : Nat) (R : Type) (x : HT (le167_1 (G167_1 FUEL)).H) (ke : KT R (le167_1 (G167_1 FUEL)).exs), iter T167_1 n R x ke = G167_1 n R x.1 x.2.1 (fun y1 y2 => ke.1 (y1, y2, ())) := by
  intro n
  induction n with
  | zero => intro R x ke; rfl
  | succ n ih =>
    intro R x ke
    show T167_1 R x (fun x' => iter T167_1 n R x' ke) ke = _
    rw [show (fun x' => iter T167_1 n R x' ke) = fun x => G167_1 n R x.1 x.2.1 (fun y1 y2 => ke.1 (y1, y2, ())) from funext fun x' => ih R x' ke]
    rfl
theorem lok167_1 : (le167_1 (G167_1 FUEL)).OK Try.prog 0 17 (lcode 1 (codeOf Try.f167)) := fun R x ke r h =>
  iter_sound (fun R => e167 (G167_1 FUEL) R) 0 17 (fun _ => rfl) (fun _ => rfl) (fun R => env167 R) mixed (by
    intro R
    rw [show loopsOf (lcode 1 (codeOf Try.f167)) = [] from by kernel_rfl]
    exact allM_nil) (T := T167_1) (fun R x kc ke => q167_1 (G167_1 FUEL) R x kc ke) FUEL R x ke r ((it167_1 FUEL R x ke).trans h)
theorem ok167 : (en167 F167).OK Try.prog :=
  ent_ok (Ef := fun R => e167 (G167_1 FUEL) R) (fun R => env167 R) mixed Try.func167 (body := codeOf Try.f167) (by kernel_rfl) (by kernel_rfl) (np := 0) (nt := 17) (fun _ => rfl) (fun _ => rfl) (by kernel_rfl) (res := res167) (by kernel_rfl) (fun _ => rfl) (fun _ => Nat.le_of_ble_eq_true rfl) (by
    intro R
    rw [show loopsOf (codeOf Try.f167) = [lcode 1 (codeOf Try.f167)] from by kernel_rfl]
    exact (allM_cons (loop_ok2 (e := le167_1 (G167_1 FUEL)) rfl rfl lok167_1) allM_nil)) (fun R x k => q167 (G167_1 FUEL) F167 R x k)
/-! drawlot/comp.constants -/
abbrev FT176 : Type 1 := (R : Type) → ((List Int) → Option R) → Option R
def en176 (F : FT176) : Ent := ⟨176, [], [(false, (.arr 64 (.int .u32)))], fun R x k => F R  (fun y1 => k (y1, ()) ())⟩
def res176 : List (ResultVar × TypeId × Bool) := [(.cell 0 196, 196, false)]
def e176 (R : Type) : Env R := ⟨TT, EQT, 0, 2, ownOf [], callOf [] R, loopOf [] R, []⟩
def p176 : FT176 := fun R k =>
let v1 : (List Int) := (List.set (List.set (List.set (List.set (List.set (List.set (List.set (List.set (List.set (List.set (List.set (List.set (List.set (List.set (List.set (List.set (List.set (List.set (List.set (List.set (List.set (List.set (List.set (List.set (List.set (List.set (List.set (List.set (List.set (List.set (List.set (List.set (List.set (List.set (List.set (List.set (List.set (List.set (List.set (List.set (List.set (List.set (List.set (List.set (List.set (List.set (List.set (List.set (List.set (List.set (List.set (List.set (List.set (List.set (List.set (List.set (List.set (List.set (List.set (List.set (List.set (List.set (List.set (List.set (List.replicate 64 (0 : Int)) 0 (1116352408 : Int)) 1 (1899447441 : Int)) 2 (3049323471 : Int)) 3 (3921009573 : Int)) 4 (961987163 : Int)) 5 (1508970993 : Int)) 6 (2453635748 : Int)) 7 (2870763221 : Int)) 8 (3624381080 : Int)) 9 (310598401 : Int)) 10 (607225278 : Int)) 11 (1426881987 : Int)) 12 (1925078388 : Int)) 13 (2162078206 : Int)) 14 (2614888103 : Int)) 15 (3248222580 : Int)) 16 (3835390401 : Int)) 17 (4022224774 : Int)) 18 (264347078 : Int)) 19 (604807628 : Int)) 20 (770255983 : Int)) 21 (1249150122 : Int)) 22 (1555081692 : Int)) 23 (1996064986 : Int)) 24 (2554220882 : Int)) 25 (2821834349 : Int)) 26 (2952996808 : Int)) 27 (3210313671 : Int)) 28 (3336571891 : Int)) 29 (3584528711 : Int)) 30 (113926993 : Int)) 31 (338241895 : Int)) 32 (666307205 : Int)) 33 (773529912 : Int)) 34 (1294757372 : Int)) 35 (1396182291 : Int)) 36 (1695183700 : Int)) 37 (1986661051 : Int)) 38 (2177026350 : Int)) 39 (2456956037 : Int)) 40 (2730485921 : Int)) 41 (2820302411 : Int)) 42 (3259730800 : Int)) 43 (3345764771 : Int)) 44 (3516065817 : Int)) 45 (3600352804 : Int)) 46 (4094571909 : Int)) 47 (275423344 : Int)) 48 (430227734 : Int)) 49 (506948616 : Int)) 50 (659060556 : Int)) 51 (883997877 : Int)) 52 (958139571 : Int)) 53 (1322822218 : Int)) 54 (1537002063 : Int)) 55 (1747873779 : Int)) 56 (1955562222 : Int)) 57 (2024104815 : Int)) 58 (2227730452 : Int)) 59 (2361852424 : Int)) 60 (2428436474 : Int)) 61 (2756734187 : Int)) 62 (3204031479 : Int)) 63 (3329325298 : Int));
k v1
theorem q176 (F : FT176) (R : Type) (x : AT (en176 F).ins) (k : RT (en176 F).outs → PT (en176 F).ins → Option R) :
  xfun (e176 R) (codeOf Try.f176) res176 (avs (en176 F).ins x) (finK (en176 F).outs (en176 F).ins k) = p176 R  (fun y1 => k (y1, ()) ()) := by kernel_rfl
noncomputable def F176 : FT176 := p176
theorem env176 (R : Type) : EnvOK Try.prog (e176 R) := ⟨tabOK, eqOK, callOf_ok allE_nil, noIns⟩
theorem ok176 : (en176 F176).OK Try.prog :=
  ent_ok (Ef := fun R => e176 R) (fun R => env176 R) mixed Try.func176 (body := codeOf Try.f176) (by kernel_rfl) (by kernel_rfl) (np := 0) (nt := 2) (fun _ => rfl) (fun _ => rfl) (by kernel_rfl) (res := res176) (by kernel_rfl) (fun _ => rfl) (fun _ => Nat.le_of_ble_eq_true rfl) (by
    intro R
    rw [show loopsOf (codeOf Try.f176) = [] from by kernel_rfl]
    exact allM_nil) (fun R x k => q176 F176 R x k)
/-! drawlot/word.Get32 -/
abbrev FT180 : Type 1 := (R : Type) → (List Int) → (Int → Option R) → Option R
def en180 (F : FT180) : Ent := ⟨180, [(false, (.arr 4 (.int .u8)))], [(false, (.int .u32))], fun R x k => F R x.1 (fun y1 => k (y1, ()) ())⟩
def res180 : List (ResultVar × TypeId × Bool) := [(.tmp 2, 104, false)]
abbrev LT180_2 : Type 1 := (R : Type) → Int → (List Int) → Int → (Int → Option R) → Option R
def le180_2 (L : LT180_2) : LEnt := ⟨2, [.val 2 (.int .u32), .val 5 (.arr 4 (.int .u8)), .val 6 (.int .i64)], 0, [(.exit 0, [.val 2 (.int .u32)])], fun R x ke => L R x.1 x.2.1 x.2.2.1 (fun y1 => ke.1 (y1, ()))⟩
def e180 (L2 : LT180_2) (R : Type) : Env R := ⟨TT, EQT, 0, 16, ownOf [], callOf [] R, loopOf [le180_2 L2] R, []⟩
def p180_2 : (R : Type) → Int → (List Int) → Int → (Int → (List Int) → Int → Option R) → (Int → Option R) → Option R := fun R x1 x2 x3 kc k0 =>
let v4 : Bool := (decide (x3 < (4 : Int)));
(match v4 with
| true => (match (bnd x3 (4 : Int)) with
| true => let v5 : Int := (List.getD x2 (Int.toNat x3) (0 : Int));
let v6 : Int := (ishl .u32 x1 (8 : Int));
let v7 : Int := (IntKind.u32.wrap v5);
let v8 : Int := (ior .u32 v6 v7);
let v9 : Int := (IntKind.i64.wrap (x3 + (1 : Int)));
kc v8 x2 v9
| false => none)
| false => k0 x1)
theorem q180_2 (L2 : LT180_2) (R : Type) (x : HT (le180_2 L2).H) (kc : HT (le180_2 L2).H → Option R) (ke : KT R (le180_2 L2).exs) :
  exec (e180 L2 R) (lcode 2 (codeOf Try.f180)) (stOf (le180_2 L2).H x 0) (roundK (le180_2 L2).H (le180_2 L2).exs kc ke) =
    p180_2 R x.1 x.2.1 x.2.2.1 (fun x1 x2 x3 => kc (x1, x2, x3, ())) (fun y1 => ke.1 (y1, ())) := by kernel_rfl
noncomputable def G180_2 : Nat → LT180_2
  | 0 => fun _ _ _ _ _ => none
  | n + 1 => fun R x1 x2 x3 k0 => p180_2 R x1 x2 x3 (fun x1 x2 x3 => G180_2 n R x1 x2 x3 k0) k0
def p180 (L2 : LT180_2) : FT180 := fun R a0 k =>
L2 R (0 : Int) a0 (0 : Int) (fun x1 =>
k x1)
theorem q180 (L2 : LT180_2) (F : FT180) (R : Type) (x : AT (en180 F).ins) (k : RT (en180 F).outs → PT (en180 F).ins → Option R) :
  xfun (e180 L2 R) (codeOf Try.f180) res180 (avs (en180 F).ins x) (finK (en180 F).outs (en180 F).ins k) = p180 L2 R x.1 (fun y1 => k (y1, ()) ()) := by kernel_rfl
noncomputable def F180 : FT180 := p180 (G180_2 FUEL)
theorem env180 (R : Type) : EnvOK Try.prog (e180 (G180_2 FUEL) R) := ⟨tabOK, eqOK, callOf_ok allE_nil, noIns⟩
noncomputable def T180_2 : (R : Type) → HT (le180_2 (G180_2 FUEL)).H → (HT (le180_2 (G180_2 FUEL)).H → Option R) → KT R (le180_2 (G180_2 FUEL)).exs → Option R := fun R x kc ke => p180_2 R x.1 x.2.1 x.2.2.1 (fun x1 x2 x3 => kc (x1, x2, x3, ())) (fun y1 => ke.1 (y1, ()))
theorem it180_2 : ∀ (n : Nat) (R : Type) (x : HT (le180_2 (G180_2 FUEL)).H) (ke : KT R (le180_2 (G180_2 FUEL)).exs), iter T180_2 n R x ke = G180_2 n R x.1 x.2.1 x.2.2.1 (fun y1 => ke.1 (y1, ())) := by
  intro n
  induction n with
  | zero => intro R x ke; rfl
  | succ n ih =>
    intro R x ke
    show T180_2 R x (fun x' => iter T180_2 n R x' ke) ke = _
    rw [show (fun x' => iter T180_2 n R x' ke) = fun x => G180_2 n R x.1 x.2.1 x.2.2.1 (fun y1 => ke.1 (y1, ())) from funext fun x' => ih R x' ke]
    rfl
theorem lok180_2 : (le180_2 (G180_2 FUEL)).OK Try.prog 0 16 (lcode 2 (codeOf Try.f180)) := fun R x ke r h =>
  iter_sound (fun R => e180 (G180_2 FUEL) R) 0 16 (fun _ => rfl) (fun _ => rfl) (fun R => env180 R) mixed (by
    intro R
    rw [show loopsOf (lcode 2 (codeOf Try.f180)) = [] from by kernel_rfl]
    exact allM_nil) (T := T180_2) (fun R x kc ke => q180_2 (G180_2 FUEL) R x kc ke) FUEL R x ke r ((it180_2 FUEL R x ke).trans h)
theorem ok180 : (en180 F180).OK Try.prog :=
  ent_ok (Ef := fun R => e180 (G180_2 FUEL) R) (fun R => env180 R) mixed Try.func180 (body := codeOf Try.f180) (by kernel_rfl) (by kernel_rfl) (np := 0) (nt := 16) (fun _ => rfl) (fun _ => rfl) (by kernel_rfl) (res := res180) (by kernel_rfl) (fun _ => rfl) (fun _ => Nat.le_of_ble_eq_true rfl) (by
    intro R
    rw [show loopsOf (codeOf Try.f180) = [lcode 2 (codeOf Try.f180)] from by kernel_rfl]
    exact (allM_cons (loop_ok2 (e := le180_2 (G180_2 FUEL)) rfl rfl lok180_2) allM_nil)) (fun R x k => q180 (G180_2 FUEL) F180 R x k)
/-! drawlot/word.Rotate -/
abbrev FT187 : Type 1 := (R : Type) → Int → Int → (Int → Option R) → Option R
def en187 (F : FT187) : Ent := ⟨187, [(false, (.int .u32)), (false, (.int .i64))], [(false, (.int .u32))], fun R x k => F R x.1 x.2.1 (fun y1 => k (y1, ()) ())⟩
def res187 : List (ResultVar × TypeId × Bool) := [(.tmp 4, 104, false)]
def e187 (R : Type) : Env R := ⟨TT, EQT, 0, 17, ownOf [], callOf [] R, loopOf [] R, []⟩
def p187 : FT187 := fun R a0 a1 k =>
let v1 : Int := (IntKind.u64.wrap a1);
let v2 : Int := (Int.tmod v1 (32 : Int));
(match (decide (0 ≤ v2)) with
| true => let v3 : Int := (ishr .u32 a0 v2);
let v4 : Int := (IntKind.u64.wrap ((32 : Int) - v2));
(match (decide (0 ≤ v4)) with
| true => let v5 : Int := (ishl .u32 a0 v4);
let v6 : Int := (ior .u32 v3 v5);
k v6
| false => none)
| false => none)
theorem q187 (F : FT187) (R : Type) (x : AT (en187 F).ins) (k : RT (en187 F).outs → PT (en187 F).ins → Option R) :
  xfun (e187 R) (codeOf Try.f187) res187 (avs (en187 F).ins x) (finK (en187 F).outs (en187 F).ins k) = p187 R x.1 x.2.1 (fun y1 => k (y1, ()) ()) := by kernel_rfl
noncomputable def F187 : FT187 := p187
theorem env187 (R : Type) : EnvOK Try.prog (e187 R) := ⟨tabOK, eqOK, callOf_ok allE_nil, noIns⟩
theorem ok187 : (en187 F187).OK Try.prog :=
  ent_ok (Ef := fun R => e187 R) (fun R => env187 R) mixed Try.func187 (body := codeOf Try.f187) (by kernel_rfl) (by kernel_rfl) (np := 0) (nt := 17) (fun _ => rfl) (fun _ => rfl) (by kernel_rfl) (res := res187) (by kernel_rfl) (fun _ => rfl) (fun _ => Nat.le_of_ble_eq_true rfl) (by
    intro R
    rw [show loopsOf (codeOf Try.f187) = [] from by kernel_rfl]
    exact allM_nil) (fun R x k => q187 F187 R x k)
/-! drawlot/word.Right -/
abbrev FT188 : Type 1 := (R : Type) → Int → Int → (Int → Option R) → Option R
def en188 (F : FT188) : Ent := ⟨188, [(false, (.int .u32)), (false, (.int .i64))], [(false, (.int .u32))], fun R x k => F R x.1 x.2.1 (fun y1 => k (y1, ()) ())⟩
def res188 : List (ResultVar × TypeId × Bool) := [(.tmp 4, 104, false)]
def e188 (R : Type) : Env R := ⟨TT, EQT, 0, 10, ownOf [], callOf [] R, loopOf [] R, []⟩
def p188 : FT188 := fun R a0 a1 k =>
let v1 : Int := (if (0 : Int) > a1 then (0 : Int) else a1);
let v2 : Int := (IntKind.u64.wrap v1);
(match (decide (0 ≤ v2)) with
| true => let v3 : Int := (ishr .u32 a0 v2);
k v3
| false => none)
theorem q188 (F : FT188) (R : Type) (x : AT (en188 F).ins) (k : RT (en188 F).outs → PT (en188 F).ins → Option R) :
  xfun (e188 R) (codeOf Try.f188) res188 (avs (en188 F).ins x) (finK (en188 F).outs (en188 F).ins k) = p188 R x.1 x.2.1 (fun y1 => k (y1, ()) ()) := by kernel_rfl
noncomputable def F188 : FT188 := p188
theorem env188 (R : Type) : EnvOK Try.prog (e188 R) := ⟨tabOK, eqOK, callOf_ok allE_nil, noIns⟩
theorem ok188 : (en188 F188).OK Try.prog :=
  ent_ok (Ef := fun R => e188 R) (fun R => env188 R) mixed Try.func188 (body := codeOf Try.f188) (by kernel_rfl) (by kernel_rfl) (np := 0) (nt := 10) (fun _ => rfl) (fun _ => rfl) (by kernel_rfl) (res := res188) (by kernel_rfl) (fun _ => rfl) (fun _ => Nat.le_of_ble_eq_true rfl) (by
    intro R
    rw [show loopsOf (codeOf Try.f188) = [] from by kernel_rfl]
    exact allM_nil) (fun R x k => q188 F188 R x k)
/-! drawlot/plan.mix -/
abbrev FT185 : Type 1 := (R : Type) → Int → Int → Int → Int → (Int → Option R) → Option R
def en185 (F : FT185) : Ent := ⟨185, [(false, (.int .u32)), (false, (.int .i64)), (false, (.int .i64)), (false, (.int .i64))], [(false, (.int .u32))], fun R x k => F R x.1 x.2.1 x.2.2.1 x.2.2.2.1 (fun y1 => k (y1, ()) ())⟩
def res185 : List (ResultVar × TypeId × Bool) := [(.tmp 8, 104, false)]
def e185 (F187 : FT187) (F188 : FT188) (R : Type) : Env R := ⟨TT, EQT, 0, 20, ownOf [], callOf [en187 F187, en188 F188] R, loopOf [] R, []⟩
def p185 (F187 : FT187) (F188 : FT188) : FT185 := fun R a0 a1 a2 a3 k =>
F187 R a0 a1 fun y1 =>
F187 R a0 a2 fun y2 =>
let v3 : Int := (ixor .u32 y1 y2);
F188 R a0 a3 fun y4 =>
let v5 : Int := (ixor .u32 v3 y4);
k v5
theorem q185 (F187 : FT187) (F188 : FT188) (F : FT185) (R : Type) (x : AT (en185 F).ins) (k : RT (en185 F).outs → PT (en185 F).ins → Option R) :
  xfun (e185 F187 F188 R) (codeOf Try.f185) res185 (avs (en185 F).ins x) (finK (en185 F).outs (en185 F).ins k) = p185 F187 F188 R x.1 x.2.1 x.2.2.1 x.2.2.2.1 (fun y1 => k (y1, ()) ()) := by kernel_rfl
noncomputable def F185 : FT185 := p185 F187 F188
theorem env185 (R : Type) : EnvOK Try.prog (e185 F187 F188 R) := ⟨tabOK, eqOK, callOf_ok (allE_cons ok187 (allE_cons ok188 allE_nil)), noIns⟩
theorem ok185 : (en185 F185).OK Try.prog :=
  ent_ok (Ef := fun R => e185 F187 F188 R) (fun R => env185 R) mixed Try.func185 (body := codeOf Try.f185) (by kernel_rfl) (by kernel_rfl) (np := 0) (nt := 20) (fun _ => rfl) (fun _ => rfl) (by kernel_rfl) (res := res185) (by kernel_rfl) (fun _ => rfl) (fun _ => Nat.le_of_ble_eq_true rfl) (by
    intro R
    rw [show loopsOf (codeOf Try.f185) = [] from by kernel_rfl]
    exact allM_nil) (fun R x k => q185 F187 F188 F185 R x k)
/-! drawlot/plan.Second -/
abbrev FT181 : Type 1 := (R : Type) → Int → (Int → Option R) → Option R
def en181 (F : FT181) : Ent := ⟨181, [(false, (.int .u32))], [(false, (.int .u32))], fun R x k => F R x.1 (fun y1 => k (y1, ()) ())⟩
def res181 : List (ResultVar × TypeId × Bool) := [(.tmp 2, 104, false)]
def e181 (F185 : FT185) (R : Type) : Env R := ⟨TT, EQT, 0, 5, ownOf [], callOf [en185 F185] R, loopOf [] R, []⟩
def p181 (F185 : FT185) : FT181 := fun R a0 k =>
F185 R a0 (17 : Int) (19 : Int) (10 : Int) fun y1 =>
k y1
theorem q181 (F185 : FT185) (F : FT181) (R : Type) (x : AT (en181 F).ins) (k : RT (en181 F).outs → PT (en181 F).ins → Option R) :
  xfun (e181 F185 R) (codeOf Try.f181) res181 (avs (en181 F).ins x) (finK (en181 F).outs (en181 F).ins k) = p181 F185 R x.1 (fun y1 => k (y1, ()) ()) := by kernel_rfl
noncomputable def F181 : FT181 := p181 F185
theorem env181 (R : Type) : EnvOK Try.prog (e181 F185 R) := ⟨tabOK, eqOK, callOf_ok (allE_cons ok185 allE_nil), noIns⟩
theorem ok181 : (en181 F181).OK Try.prog :=
  ent_ok (Ef := fun R => e181 F185 R) (fun R => env181 R) mixed Try.func181 (body := codeOf Try.f181) (by kernel_rfl) (by kernel_rfl) (np := 0) (nt := 5) (fun _ => rfl) (fun _ => rfl) (by kernel_rfl) (res := res181) (by kernel_rfl) (fun _ => rfl) (fun _ => Nat.le_of_ble_eq_true rfl) (by
    intro R
    rw [show loopsOf (codeOf Try.f181) = [] from by kernel_rfl]
    exact allM_nil) (fun R x k => q181 F185 F181 R x k)
/-! drawlot/plan.First -/
abbrev FT182 : Type 1 := (R : Type) → Int → (Int → Option R) → Option R
def en182 (F : FT182) : Ent := ⟨182, [(false, (.int .u32))], [(false, (.int .u32))], fun R x k => F R x.1 (fun y1 => k (y1, ()) ())⟩
def res182 : List (ResultVar × TypeId × Bool) := [(.tmp 2, 104, false)]
def e182 (F185 : FT185) (R : Type) : Env R := ⟨TT, EQT, 0, 5, ownOf [], callOf [en185 F185] R, loopOf [] R, []⟩
def p182 (F185 : FT185) : FT182 := fun R a0 k =>
F185 R a0 (7 : Int) (18 : Int) (3 : Int) fun y1 =>
k y1
theorem q182 (F185 : FT185) (F : FT182) (R : Type) (x : AT (en182 F).ins) (k : RT (en182 F).outs → PT (en182 F).ins → Option R) :
  xfun (e182 F185 R) (codeOf Try.f182) res182 (avs (en182 F).ins x) (finK (en182 F).outs (en182 F).ins k) = p182 F185 R x.1 (fun y1 => k (y1, ()) ()) := by kernel_rfl
noncomputable def F182 : FT182 := p182 F185
theorem env182 (R : Type) : EnvOK Try.prog (e182 F185 R) := ⟨tabOK, eqOK, callOf_ok (allE_cons ok185 allE_nil), noIns⟩
theorem ok182 : (en182 F182).OK Try.prog :=
  ent_ok (Ef := fun R => e182 F185 R) (fun R => env182 R) mixed Try.func182 (body := codeOf Try.f182) (by kernel_rfl) (by kernel_rfl) (np := 0) (nt := 5) (fun _ => rfl) (fun _ => rfl) (by kernel_rfl) (res := res182) (by kernel_rfl) (fun _ => rfl) (fun _ => Nat.le_of_ble_eq_true rfl) (by
    intro R
    rw [show loopsOf (codeOf Try.f182) = [] from by kernel_rfl]
    exact allM_nil) (fun R x k => q182 F185 F182 R x k)
/-! drawlot/plan.Of -/
abbrev FT177 : Type 1 := (R : Type) → (List Int) → ((List Int) → Option R) → Option R
def en177 (F : FT177) : Ent := ⟨177, [(false, (.arr 64 (.int .u8)))], [(false, (.arr 64 (.int .u32)))], fun R x k => F R x.1 (fun y1 => k (y1, ()) ())⟩
def res177 : List (ResultVar × TypeId × Bool) := [(.cell 2 197, 197, false)]
abbrev LT177_2 : Type 1 := (R : Type) → Int → (List Int) → (List Int) → ((List Int) → Option R) → Option R
def le177_2 (L : LT177_2) : LEnt := ⟨2, [.fix 1 (.ptr 0 [] (.arr 64 (.int .u8))), .fix 2 (.ptr 1 [] (.arr 64 (.int .u32))), .val 5 (.int .i64), .var 0 (.arr 64 (.int .u8)) false, .var 1 (.arr 64 (.int .u32)) false], 2, [(.exit 0, [.fix 2 (.ptr 1 [] (.arr 64 (.int .u32))), .var 1 (.arr 64 (.int .u32)) false])], fun R x ke => L R x.1 x.2.1 x.2.2.1 (fun y1 => ke.1 (y1, ()))⟩
def e177 (F180 : FT180) (F181 : FT181) (F182 : FT182) (L2 : LT177_2) (R : Type) : Env R := ⟨TT, EQT, 0, 46, ownOf [], callOf [en180 F180, en181 F181, en182 F182] R, loopOf [le177_2 L2] R, []⟩
def p177_2 (F180 : FT180) (F181 : FT181) (F182 : FT182) : (R : Type) → Int → (List Int) → (List Int) → (Int → (List Int) → (List Int) → Option R) → ((List Int) → Option R) → Option R := fun R x1 x2 x3 kc k0 =>
let v4 : Bool := (decide (x1 < (64 : Int)));
(match v4 with
| true => let v5 : Int := (IntKind.i64.wrap ((4 : Int) * x1));
let v6 : Bool := (decide (v5 < (64 : Int)));
(match v6 with
| true => let v7 : Int := (IntKind.i64.wrap (v5 + (4 : Int)));
(match (decide (0 ≤ v5 ∧ v5 ≤ v7 ∧ v7 ≤ (64 : Int))) with
| true => (match (decide ((4 : Int) ≤ ((Int.toNat (v7 - v5)) : Nat))) with
| true => let v8 : (List Int) := (List.take 4 (List.drop (Int.toNat v5) x2));
F180 R v8 fun y9 =>
(match (bnd x1 (64 : Int)) with
| true => let v10 : (List Int) := (List.set x3 (Int.toNat x1) y9);
let v11 : Int := (IntKind.i64.wrap (x1 + (1 : Int)));
kc v11 x2 v10
| false => none)
| false => none)
| false => none)
| false => let v12 : Int := (IntKind.i64.wrap (x1 - (2 : Int)));
(match (bnd v12 (64 : Int)) with
| true => let v13 : Int := (List.getD x3 (Int.toNat v12) (0 : Int));
F181 R v13 fun y14 =>
let v15 : Int := (IntKind.i64.wrap (x1 - (7 : Int)));
(match (bnd v15 (64 : Int)) with
| true => let v16 : Int := (List.getD x3 (Int.toNat v15) (0 : Int));
let v17 : Int := (IntKind.u32.wrap (y14 + v16));
let v18 : Int := (IntKind.i64.wrap (x1 - (15 : Int)));
(match (bnd v18 (64 : Int)) with
| true => let v19 : Int := (List.getD x3 (Int.toNat v18) (0 : Int));
F182 R v19 fun y20 =>
let v21 : Int := (IntKind.u32.wrap (v17 + y20));
let v22 : Int := (IntKind.i64.wrap (x1 - (16 : Int)));
(match (bnd v22 (64 : Int)) with
| true => let v23 : Int := (List.getD x3 (Int.toNat v22) (0 : Int));
let v24 : Int := (IntKind.u32.wrap (v21 + v23));
(match (bnd x1 (64 : Int)) with
| true => let v25 : (List Int) := (List.set x3 (Int.toNat x1) v24);
let v26 : Int := (IntKind.i64.wrap (x1 + (1 : Int)));
kc v26 x2 v25
| false => none)
| false => none)
| false => none)
| false => none)
| false => none))
| false => k0 x3)
theorem q177_2 (F180 : FT180) (F181 : FT181) (F182 : FT182) (L2 : LT177_2) (R : Type) (x : HT (le177_2 L2).H) (kc : HT (le177_2 L2).H → Option R) (ke : KT R (le177_2 L2).exs) :
  exec (e177 F180 F181 F182 L2 R) (lcode 2 (codeOf Try.f177)) (stOf (le177_2 L2).H x 2) (roundK (le177_2 L2).H (le177_2 L2).exs kc ke) =
    p177_2 F180 F181 F182 R x.1 x.2.1 x.2.2.1 (fun x1 x2 x3 => kc (x1, x2, x3, ())) (fun y1 => ke.1 (y1, ())) := by kernel_rfl
noncomputable def G177_2 : Nat → LT177_2
  | 0 => fun _ _ _ _ _ => none
  | n + 1 => fun R x1 x2 x3 k0 => p177_2 F180 F181 F182 R x1 x2 x3 (fun x1 x2 x3 => G177_2 n R x1 x2 x3 k0) k0
def p177 (L2 : LT177_2) : FT177 := fun R a0 k =>
L2 R (0 : Int) a0 (List.replicate 64 (0 : Int)) (fun x1 =>
k x1)
theorem q177 (F180 : FT180) (F181 : FT181) (F182 : FT182) (L2 : LT177_2) (F : FT177) (R : Type) (x : AT (en177 F).ins) (k : RT (en177 F).outs → PT (en177 F).ins → Option R) :
  xfun (e177 F180 F181 F182 L2 R) (codeOf Try.f177) res177 (avs (en177 F).ins x) (finK (en177 F).outs (en177 F).ins k) = p177 L2 R x.1 (fun y1 => k (y1, ()) ()) := by kernel_rfl
noncomputable def F177 : FT177 := p177 (G177_2 FUEL)
theorem env177 (R : Type) : EnvOK Try.prog (e177 F180 F181 F182 (G177_2 FUEL) R) := ⟨tabOK, eqOK, callOf_ok (allE_cons ok180 (allE_cons ok181 (allE_cons ok182 allE_nil))), noIns⟩
noncomputable def T177_2 : (R : Type) → HT (le177_2 (G177_2 FUEL)).H → (HT (le177_2 (G177_2 FUEL)).H → Option R) → KT R (le177_2 (G177_2 FUEL)).exs → Option R := fun R x kc ke => p177_2 F180 F181 F182 R x.1 x.2.1 x.2.2.1 (fun x1 x2 x3 => kc (x1, x2, x3, ())) (fun y1 => ke.1 (y1, ()))
theorem it177_2 : ∀ (n : Nat) (R : Type) (x : HT (le177_2 (G177_2 FUEL)).H) (ke : KT R (le177_2 (G177_2 FUEL)).exs), iter T177_2 n R x ke = G177_2 n R x.1 x.2.1 x.2.2.1 (fun y1 => ke.1 (y1, ())) := by
  intro n
  induction n with
  | zero => intro R x ke; rfl
  | succ n ih =>
    intro R x ke
    show T177_2 R x (fun x' => iter T177_2 n R x' ke) ke = _
    rw [show (fun x' => iter T177_2 n R x' ke) = fun x => G177_2 n R x.1 x.2.1 x.2.2.1 (fun y1 => ke.1 (y1, ())) from funext fun x' => ih R x' ke]
    rfl
theorem lok177_2 : (le177_2 (G177_2 FUEL)).OK Try.prog 0 46 (lcode 2 (codeOf Try.f177)) := fun R x ke r h =>
  iter_sound (fun R => e177 F180 F181 F182 (G177_2 FUEL) R) 0 46 (fun _ => rfl) (fun _ => rfl) (fun R => env177 R) mixed (by
    intro R
    rw [show loopsOf (lcode 2 (codeOf Try.f177)) = [] from by kernel_rfl]
    exact allM_nil) (T := T177_2) (fun R x kc ke => q177_2 F180 F181 F182 (G177_2 FUEL) R x kc ke) FUEL R x ke r ((it177_2 FUEL R x ke).trans h)
theorem ok177 : (en177 F177).OK Try.prog :=
  ent_ok (Ef := fun R => e177 F180 F181 F182 (G177_2 FUEL) R) (fun R => env177 R) mixed Try.func177 (body := codeOf Try.f177) (by kernel_rfl) (by kernel_rfl) (np := 0) (nt := 46) (fun _ => rfl) (fun _ => rfl) (by kernel_rfl) (res := res177) (by kernel_rfl) (fun _ => rfl) (fun _ => Nat.le_of_ble_eq_true rfl) (by
    intro R
    rw [show loopsOf (codeOf Try.f177) = [lcode 2 (codeOf Try.f177)] from by kernel_rfl]
    exact (allM_cons (loop_ok2 (e := le177_2 (G177_2 FUEL)) rfl rfl lok177_2) allM_nil)) (fun R x k => q177 F180 F181 F182 (G177_2 FUEL) F177 R x k)
/-! drawlot/comp.mix -/
abbrev FT186 : Type 1 := (R : Type) → Int → Int → Int → Int → (Int → Option R) → Option R
def en186 (F : FT186) : Ent := ⟨186, [(false, (.int .u32)), (false, (.int .i64)), (false, (.int .i64)), (false, (.int .i64))], [(false, (.int .u32))], fun R x k => F R x.1 x.2.1 x.2.2.1 x.2.2.2.1 (fun y1 => k (y1, ()) ())⟩
def res186 : List (ResultVar × TypeId × Bool) := [(.tmp 8, 104, false)]
def e186 (F187 : FT187) (R : Type) : Env R := ⟨TT, EQT, 0, 20, ownOf [], callOf [en187 F187] R, loopOf [] R, []⟩
def p186 (F187 : FT187) : FT186 := fun R a0 a1 a2 a3 k =>
F187 R a0 a1 fun y1 =>
F187 R a0 a2 fun y2 =>
let v3 : Int := (ixor .u32 y1 y2);
F187 R a0 a3 fun y4 =>
let v5 : Int := (ixor .u32 v3 y4);
k v5
theorem q186 (F187 : FT187) (F : FT186) (R : Type) (x : AT (en186 F).ins) (k : RT (en186 F).outs → PT (en186 F).ins → Option R) :
  xfun (e186 F187 R) (codeOf Try.f186) res186 (avs (en186 F).ins x) (finK (en186 F).outs (en186 F).ins k) = p186 F187 R x.1 x.2.1 x.2.2.1 x.2.2.2.1 (fun y1 => k (y1, ()) ()) := by kernel_rfl
noncomputable def F186 : FT186 := p186 F187
theorem env186 (R : Type) : EnvOK Try.prog (e186 F187 R) := ⟨tabOK, eqOK, callOf_ok (allE_cons ok187 allE_nil), noIns⟩
theorem ok186 : (en186 F186).OK Try.prog :=
  ent_ok (Ef := fun R => e186 F187 R) (fun R => env186 R) mixed Try.func186 (body := codeOf Try.f186) (by kernel_rfl) (by kernel_rfl) (np := 0) (nt := 20) (fun _ => rfl) (fun _ => rfl) (by kernel_rfl) (res := res186) (by kernel_rfl) (fun _ => rfl) (fun _ => Nat.le_of_ble_eq_true rfl) (by
    intro R
    rw [show loopsOf (codeOf Try.f186) = [] from by kernel_rfl]
    exact allM_nil) (fun R x k => q186 F187 F186 R x k)
/-! drawlot/comp.low -/
abbrev FT183 : Type 1 := (R : Type) → Int → Int → Int → (Int → Option R) → Option R
def en183 (F : FT183) : Ent := ⟨183, [(false, (.int .u32)), (false, (.int .u32)), (false, (.int .u32))], [(false, (.int .u32))], fun R x k => F R x.1 x.2.1 x.2.2.1 (fun y1 => k (y1, ()) ())⟩
def res183 : List (ResultVar × TypeId × Bool) := [(.tmp 6, 104, false)]
def e183 (F186 : FT186) (R : Type) : Env R := ⟨TT, EQT, 0, 18, ownOf [], callOf [en186 F186] R, loopOf [] R, []⟩
def p183 (F186 : FT186) : FT183 := fun R a0 a1 a2 k =>
F186 R a0 (6 : Int) (11 : Int) (25 : Int) fun y1 =>
let v2 : Int := (iand .u32 a0 a1);
let v3 : Int := (ixor .u32 (4294967295 : Int) a0);
let v4 : Int := (iand .u32 v3 a2);
let v5 : Int := (ixor .u32 v2 v4);
let v6 : Int := (IntKind.u32.wrap (y1 + v5));
k v6
theorem q183 (F186 : FT186) (F : FT183) (R : Type) (x : AT (en183 F).ins) (k : RT (en183 F).outs → PT (en183 F).ins → Option R) :
  xfun (e183 F186 R) (codeOf Try.f183) res183 (avs (en183 F).ins x) (finK (en183 F).outs (en183 F).ins k) = p183 F186 R x.1 x.2.1 x.2.2.1 (fun y1 => k (y1, ()) ()) := by kernel_rfl
noncomputable def F183 : FT183 := p183 F186
theorem env183 (R : Type) : EnvOK Try.prog (e183 F186 R) := ⟨tabOK, eqOK, callOf_ok (allE_cons ok186 allE_nil), noIns⟩
theorem ok183 : (en183 F183).OK Try.prog :=
  ent_ok (Ef := fun R => e183 F186 R) (fun R => env183 R) mixed Try.func183 (body := codeOf Try.f183) (by kernel_rfl) (by kernel_rfl) (np := 0) (nt := 18) (fun _ => rfl) (fun _ => rfl) (by kernel_rfl) (res := res183) (by kernel_rfl) (fun _ => rfl) (fun _ => Nat.le_of_ble_eq_true rfl) (by
    intro R
    rw [show loopsOf (codeOf Try.f183) = [] from by kernel_rfl]
    exact allM_nil) (fun R x k => q183 F186 F183 R x k)
/-! drawlot/comp.high -/
abbrev FT184 : Type 1 := (R : Type) → Int → Int → Int → (Int → Option R) → Option R
def en184 (F : FT184) : Ent := ⟨184, [(false, (.int .u32)), (false, (.int .u32)), (false, (.int .u32))], [(false, (.int .u32))], fun R x k => F R x.1 x.2.1 x.2.2.1 (fun y1 => k (y1, ()) ())⟩
def res184 : List (ResultVar × TypeId × Bool) := [(.tmp 6, 104, false)]
def e184 (F186 : FT186) (R : Type) : Env R := ⟨TT, EQT, 0, 21, ownOf [], callOf [en186 F186] R, loopOf [] R, []⟩
def p184 (F186 : FT186) : FT184 := fun R a0 a1 a2 k =>
F186 R a0 (2 : Int) (13 : Int) (22 : Int) fun y1 =>
let v2 : Int := (iand .u32 a0 a1);
let v3 : Int := (iand .u32 a0 a2);
let v4 : Int := (ixor .u32 v2 v3);
let v5 : Int := (iand .u32 a1 a2);
let v6 : Int := (ixor .u32 v4 v5);
let v7 : Int := (IntKind.u32.wrap (y1 + v6));
k v7
theorem q184 (F186 : FT186) (F : FT184) (R : Type) (x : AT (en184 F).ins) (k : RT (en184 F).outs → PT (en184 F).ins → Option R) :
  xfun (e184 F186 R) (codeOf Try.f184) res184 (avs (en184 F).ins x) (finK (en184 F).outs (en184 F).ins k) = p184 F186 R x.1 x.2.1 x.2.2.1 (fun y1 => k (y1, ()) ()) := by kernel_rfl
noncomputable def F184 : FT184 := p184 F186
theorem env184 (R : Type) : EnvOK Try.prog (e184 F186 R) := ⟨tabOK, eqOK, callOf_ok (allE_cons ok186 allE_nil), noIns⟩
theorem ok184 : (en184 F184).OK Try.prog :=
  ent_ok (Ef := fun R => e184 F186 R) (fun R => env184 R) mixed Try.func184 (body := codeOf Try.f184) (by kernel_rfl) (by kernel_rfl) (np := 0) (nt := 21) (fun _ => rfl) (fun _ => rfl) (by kernel_rfl) (res := res184) (by kernel_rfl) (fun _ => rfl) (fun _ => Nat.le_of_ble_eq_true rfl) (by
    intro R
    rw [show loopsOf (codeOf Try.f184) = [] from by kernel_rfl]
    exact allM_nil) (fun R x k => q184 F186 F184 R x k)
/-! drawlot/comp.Round -/
abbrev FT178 : Type 1 := (R : Type) → (List Int) → Int → Int → ((List Int) → Option R) → Option R
def en178 (F : FT178) : Ent := ⟨178, [(false, (.arr 8 (.int .u32))), (false, (.int .u32)), (false, (.int .u32))], [(false, (.arr 8 (.int .u32)))], fun R x k => F R x.1 x.2.1 x.2.2.1 (fun y1 => k (y1, ()) ())⟩
def res178 : List (ResultVar × TypeId × Bool) := [(.cell 6 155, 155, false)]
def e178 (F183 : FT183) (F184 : FT184) (R : Type) : Env R := ⟨TT, EQT, 0, 41, ownOf [], callOf [en183 F183, en184 F184] R, loopOf [] R, []⟩
def p178 (F183 : FT183) (F184 : FT184) : FT178 := fun R a0 a1 a2 k =>
let v1 : Int := (List.getD a0 7 (0 : Int));
let v2 : Int := (List.getD a0 4 (0 : Int));
let v3 : Int := (List.getD a0 5 (0 : Int));
let v4 : Int := (List.getD a0 6 (0 : Int));
F183 R v2 v3 v4 fun y5 =>
let v6 : Int := (IntKind.u32.wrap (v1 + y5));
let v7 : Int := (IntKind.u32.wrap (v6 + a2));
let v8 : Int := (IntKind.u32.wrap (v7 + a1));
let v9 : (List Int) := (lay (List.replicate 8 (0 : Int)) 1 (List.take 7 (List.take 7 (List.drop 0 a0))));
let v10 : Int := (List.getD a0 0 (0 : Int));
let v11 : Int := (List.getD a0 1 (0 : Int));
let v12 : Int := (List.getD a0 2 (0 : Int));
F184 R v10 v11 v12 fun y13 =>
let v14 : Int := (IntKind.u32.wrap (v8 + y13));
let v15 : (List Int) := (List.set v9 0 v14);
let v16 : Int := (List.getD v15 4 (0 : Int));
let v17 : Int := (IntKind.u32.wrap (v16 + v8));
let v18 : (List Int) := (List.set v15 4 v17);
k v18
theorem q178 (F183 : FT183) (F184 : FT184) (F : FT178) (R : Type) (x : AT (en178 F).ins) (k : RT (en178 F).outs → PT (en178 F).ins → Option R) :
  xfun (e178 F183 F184 R) (codeOf Try.f178) res178 (avs (en178 F).ins x) (finK (en178 F).outs (en178 F).ins k) = p178 F183 F184 R x.1 x.2.1 x.2.2.1 (fun y1 => k (y1, ()) ()) := by kernel_rfl
noncomputable def F178 : FT178 := p178 F183 F184
theorem env178 (R : Type) : EnvOK Try.prog (e178 F183 F184 R) := ⟨tabOK, eqOK, callOf_ok (allE_cons ok183 (allE_cons ok184 allE_nil)), noIns⟩
theorem ok178 : (en178 F178).OK Try.prog :=
  ent_ok (Ef := fun R => e178 F183 F184 R) (fun R => env178 R) mixed Try.func178 (body := codeOf Try.f178) (by kernel_rfl) (by kernel_rfl) (np := 0) (nt := 41) (fun _ => rfl) (fun _ => rfl) (by kernel_rfl) (res := res178) (by kernel_rfl) (fun _ => rfl) (fun _ => Nat.le_of_ble_eq_true rfl) (by
    intro R
    rw [show loopsOf (codeOf Try.f178) = [] from by kernel_rfl]
    exact allM_nil) (fun R x k => q178 F183 F184 F178 R x k)
/-! drawlot/comp.Take -/
abbrev FT168 : Type 1 := (R : Type) → (List Int) → (List Int) → ((List Int) → Option R) → Option R
def en168 (F : FT168) : Ent := ⟨168, [(false, (.arr 8 (.int .u32))), (false, (.arr 64 (.int .u8)))], [(false, (.arr 8 (.int .u32)))], fun R x k => F R x.1 x.2.1 (fun y1 => k (y1, ()) ())⟩
def res168 : List (ResultVar × TypeId × Bool) := [(.cell 4 155, 155, false)]
abbrev LT168_3 : Type 1 := (R : Type) → (List Int) → Int → (List Int) → (List Int) → (List Int) → (List Int) → ((List Int) → (List Int) → (List Int) → Option R) → Option R
def le168_3 (L : LT168_3) : LEnt := ⟨3, [.fix 2 (.ptr 0 [] (.arr 8 (.int .u32))), .fix 4 (.ptr 2 [] (.arr 8 (.int .u32))), .fix 5 (.ptr 3 [] (.arr 8 (.int .u32))), .fix 6 (.ptr 4 [] (.arr 64 (.int .u32))), .val 13 (.arr 64 (.int .u32)), .val 14 (.int .i64), .var 0 (.arr 8 (.int .u32)) false, .var 2 (.arr 8 (.int .u32)) false, .var 3 (.arr 8 (.int .u32)) false, .var 4 (.arr 64 (.int .u32)) false], 5, [(.exit 0, [.fix 2 (.ptr 0 [] (.arr 8 (.int .u32))), .fix 4 (.ptr 2 [] (.arr 8 (.int .u32))), .fix 5 (.ptr 3 [] (.arr 8 (.int .u32))), .var 0 (.arr 8 (.int .u32)) false, .var 2 (.arr 8 (.int .u32)) false, .var 3 (.arr 8 (.int .u32)) false])], fun R x ke => L R x.1 x.2.1 x.2.2.1 x.2.2.2.1 x.2.2.2.2.1 x.2.2.2.2.2.1 (fun y1 y2 y3 => ke.1 (y1, y2, y3, ()))⟩
abbrev LT168_8 : Type 1 := (R : Type) → Int → (List Int) → (List Int) → (List Int) → ((List Int) → (List Int) → Option R) → Option R
def le168_8 (L : LT168_8) : LEnt := ⟨8, [.fix 2 (.ptr 0 [] (.arr 8 (.int .u32))), .fix 4 (.ptr 2 [] (.arr 8 (.int .u32))), .fix 5 (.ptr 3 [] (.arr 8 (.int .u32))), .val 25 (.int .i64), .var 0 (.arr 8 (.int .u32)) false, .var 2 (.arr 8 (.int .u32)) false, .var 3 (.arr 8 (.int .u32)) false], 4, [(.exit 2, [.fix 4 (.ptr 2 [] (.arr 8 (.int .u32))), .fix 5 (.ptr 3 [] (.arr 8 (.int .u32))), .var 2 (.arr 8 (.int .u32)) false, .var 3 (.arr 8 (.int .u32)) false])], fun R x ke => L R x.1 x.2.1 x.2.2.1 x.2.2.2.1 (fun y1 y2 => ke.1 (y1, y2, ()))⟩
def e168 (F176 : FT176) (F177 : FT177) (F178 : FT178) (L3 : LT168_3) (L8 : LT168_8) (R : Type) : Env R := ⟨TT, EQT, 0, 38, ownOf [], callOf [en176 F176, en177 F177, en178 F178] R, loopOf [le168_3 L3, le168_8 L8] R, []⟩
def p168_3 (F178 : FT178) : (R : Type) → (List Int) → Int → (List Int) → (List Int) → (List Int) → (List Int) → ((List Int) → Int → (List Int) → (List Int) → (List Int) → (List Int) → Option R) → ((List Int) → (List Int) → (List Int) → Option R) → Option R := fun R x1 x2 x3 x4 x5 x6 kc k0 =>
let v7 : Bool := (decide (x2 < (64 : Int)));
(match v7 with
| true => (match (bnd x2 (64 : Int)) with
| true => let v8 : Int := (List.getD x1 (Int.toNat x2) (0 : Int));
(match (bnd x2 (64 : Int)) with
| true => let v9 : Int := (List.getD x6 (Int.toNat x2) (0 : Int));
F178 R x5 v8 v9 fun y10 =>
let v11 : Int := (IntKind.i64.wrap (x2 + (1 : Int)));
kc x1 v11 x3 x4 y10 x6
| false => none)
| false => none)
| false => k0 x3 x4 x5)
theorem q168_3 (F176 : FT176) (F177 : FT177) (F178 : FT178) (L3 : LT168_3) (L8 : LT168_8) (R : Type) (x : HT (le168_3 L3).H) (kc : HT (le168_3 L3).H → Option R) (ke : KT R (le168_3 L3).exs) :
  exec (e168 F176 F177 F178 L3 L8 R) (lcode 3 (codeOf Try.f168)) (stOf (le168_3 L3).H x 5) (roundK (le168_3 L3).H (le168_3 L3).exs kc ke) =
    p168_3 F178 R x.1 x.2.1 x.2.2.1 x.2.2.2.1 x.2.2.2.2.1 x.2.2.2.2.2.1 (fun x1 x2 x3 x4 x5 x6 => kc (x1, x2, x3, x4, x5, x6, ())) (fun y1 y2 y3 => ke.1 (y1, y2, y3, ())) := by kernel_rfl
noncomputable def G168_3 : Nat → LT168_3
  | 0 => fun _ _ _ _ _ _ _ _ => none
  | n + 1 => fun R x1 x2 x3 x4 x5 x6 k0 => p168_3 F178 R x1 x2 x3 x4 x5 x6 (fun x1 x2 x3 x4 x5 x6 => G168_3 n R x1 x2 x3 x4 x5 x6 k0) k0
def p168_8 : (R : Type) → Int → (List Int) → (List Int) → (List Int) → (Int → (List Int) → (List Int) → (List Int) → Option R) → ((List Int) → (List Int) → Option R) → Option R := fun R x1 x2 x3 x4 kc k0 =>
let v5 : Bool := (decide (x1 < (8 : Int)));
(match v5 with
| true => (match (bnd x1 (8 : Int)) with
| true => let v6 : Int := (List.getD x4 (Int.toNat x1) (0 : Int));
(match (bnd x1 (8 : Int)) with
| true => let v7 : Int := (List.getD x2 (Int.toNat x1) (0 : Int));
let v8 : Int := (IntKind.u32.wrap (v6 + v7));
(match (bnd x1 (8 : Int)) with
| true => let v9 : (List Int) := (List.set x4 (Int.toNat x1) v8);
let v10 : Int := (IntKind.i64.wrap (x1 + (1 : Int)));
kc v10 x2 x3 v9
| false => none)
| false => none)
| false => none)
| false => k0 x3 x4)
theorem q168_8 (F176 : FT176) (F177 : FT177) (F178 : FT178) (L3 : LT168_3) (L8 : LT168_8) (R : Type) (x : HT (le168_8 L8).H) (kc : HT (le168_8 L8).H → Option R) (ke : KT R (le168_8 L8).exs) :
  exec (e168 F176 F177 F178 L3 L8 R) (lcode 8 (codeOf Try.f168)) (stOf (le168_8 L8).H x 4) (roundK (le168_8 L8).H (le168_8 L8).exs kc ke) =
    p168_8 R x.1 x.2.1 x.2.2.1 x.2.2.2.1 (fun x1 x2 x3 x4 => kc (x1, x2, x3, x4, ())) (fun y1 y2 => ke.1 (y1, y2, ())) := by kernel_rfl
noncomputable def G168_8 : Nat → LT168_8
  | 0 => fun _ _ _ _ _ _ => none
  | n + 1 => fun R x1 x2 x3 x4 k0 => p168_8 R x1 x2 x3 x4 (fun x1 x2 x3 x4 => G168_8 n R x1 x2 x3 x4 k0) k0
def p168 (F176 : FT176) (F177 : FT177) (L3 : LT168_3) (L8 : LT168_8) : FT168 := fun R a0 a1 k =>
F176 R  fun y1 =>
F177 R a1 fun y2 =>
L3 R y2 (0 : Int) a0 (List.replicate 8 (0 : Int)) a0 y1 (fun x3 x4 x5 =>
L8 R (0 : Int) x3 x4 x5 (fun x6 x7 =>
k x7))
theorem q168 (F176 : FT176) (F177 : FT177) (F178 : FT178) (L3 : LT168_3) (L8 : LT168_8) (F : FT168) (R : Type) (x : AT (en168 F).ins) (k : RT (en168 F).outs → PT (en168 F).ins → Option R) :
  xfun (e168 F176 F177 F178 L3 L8 R) (codeOf Try.f168) res168 (avs (en168 F).ins x) (finK (en168 F).outs (en168 F).ins k) = p168 F176 F177 L3 L8 R x.1 x.2.1 (fun y1 => k (y1, ()) ()) := by kernel_rfl
noncomputable def F168 : FT168 := p168 F176 F177 (G168_3 FUEL) (G168_8 FUEL)
theorem env168 (R : Type) : EnvOK Try.prog (e168 F176 F177 F178 (G168_3 FUEL) (G168_8 FUEL) R) := ⟨tabOK, eqOK, callOf_ok (allE_cons ok176 (allE_cons ok177 (allE_cons ok178 allE_nil))), noIns⟩
noncomputable def T168_3 : (R : Type) → HT (le168_3 (G168_3 FUEL)).H → (HT (le168_3 (G168_3 FUEL)).H → Option R) → KT R (le168_3 (G168_3 FUEL)).exs → Option R := fun R x kc ke => p168_3 F178 R x.1 x.2.1 x.2.2.1 x.2.2.2.1 x.2.2.2.2.1 x.2.2.2.2.2.1 (fun x1 x2 x3 x4 x5 x6 => kc (x1, x2, x3, x4, x5, x6, ())) (fun y1 y2 y3 => ke.1 (y1, y2, y3, ()))
theorem it168_3 : ∀ (n : Nat) (R : Type) (x : HT (le168_3 (G168_3 FUEL)).H) (ke : KT R (le168_3 (G168_3 FUEL)).exs), iter T168_3 n R x ke = G168_3 n R x.1 x.2.1 x.2.2.1 x.2.2.2.1 x.2.2.2.2.1 x.2.2.2.2.2.1 (fun y1 y2 y3 => ke.1 (y1, y2, y3, ())) := by
  intro n
  induction n with
  | zero => intro R x ke; rfl
  | succ n ih =>
    intro R x ke
    show T168_3 R x (fun x' => iter T168_3 n R x' ke) ke = _
    rw [show (fun x' => iter T168_3 n R x' ke) = fun x => G168_3 n R x.1 x.2.1 x.2.2.1 x.2.2.2.1 x.2.2.2.2.1 x.2.2.2.2.2.1 (fun y1 y2 y3 => ke.1 (y1, y2, y3, ())) from funext fun x' => ih R x' ke]
    rfl
theorem lok168_3 : (le168_3 (G168_3 FUEL)).OK Try.prog 0 38 (lcode 3 (codeOf Try.f168)) := fun R x ke r h =>
  iter_sound (fun R => e168 F176 F177 F178 (G168_3 FUEL) (G168_8 FUEL) R) 0 38 (fun _ => rfl) (fun _ => rfl) (fun R => env168 R) mixed (by
    intro R
    rw [show loopsOf (lcode 3 (codeOf Try.f168)) = [] from by kernel_rfl]
    exact allM_nil) (T := T168_3) (fun R x kc ke => q168_3 F176 F177 F178 (G168_3 FUEL) (G168_8 FUEL) R x kc ke) FUEL R x ke r ((it168_3 FUEL R x ke).trans h)
noncomputable def T168_8 : (R : Type) → HT (le168_8 (G168_8 FUEL)).H → (HT (le168_8 (G168_8 FUEL)).H → Option R) → KT R (le168_8 (G168_8 FUEL)).exs → Option R := fun R x kc ke => p168_8 R x.1 x.2.1 x.2.2.1 x.2.2.2.1 (fun x1 x2 x3 x4 => kc (x1, x2, x3, x4, ())) (fun y1 y2 => ke.1 (y1, y2, ()))
theorem it168_8 : ∀ (n : Nat) (R : Type) (x : HT (le168_8 (G168_8 FUEL)).H) (ke : KT R (le168_8 (G168_8 FUEL)).exs), iter T168_8 n R x ke = G168_8 n R x.1 x.2.1 x.2.2.1 x.2.2.2.1 (fun y1 y2 => ke.1 (y1, y2, ())) := by
  intro n
  induction n with
  | zero => intro R x ke; rfl
  | succ n ih =>
    intro R x ke
    show T168_8 R x (fun x' => iter T168_8 n R x' ke) ke = _
    rw [show (fun x' => iter T168_8 n R x' ke) = fun x => G168_8 n R x.1 x.2.1 x.2.2.1 x.2.2.2.1 (fun y1 y2 => ke.1 (y1, y2, ())) from funext fun x' => ih R x' ke]
    rfl
theorem lok168_8 : (le168_8 (G168_8 FUEL)).OK Try.prog 0 38 (lcode 8 (codeOf Try.f168)) := fun R x ke r h =>
  iter_sound (fun R => e168 F176 F177 F178 (G168_3 FUEL) (G168_8 FUEL) R) 0 38 (fun _ => rfl) (fun _ => rfl) (fun R => env168 R) mixed (by
    intro R
    rw [show loopsOf (lcode 8 (codeOf Try.f168)) = [] from by kernel_rfl]
    exact allM_nil) (T := T168_8) (fun R x kc ke => q168_8 F176 F177 F178 (G168_3 FUEL) (G168_8 FUEL) R x kc ke) FUEL R x ke r ((it168_8 FUEL R x ke).trans h)
theorem ok168 : (en168 F168).OK Try.prog :=
  ent_ok (Ef := fun R => e168 F176 F177 F178 (G168_3 FUEL) (G168_8 FUEL) R) (fun R => env168 R) mixed Try.func168 (body := codeOf Try.f168) (by kernel_rfl) (by kernel_rfl) (np := 0) (nt := 38) (fun _ => rfl) (fun _ => rfl) (by kernel_rfl) (res := res168) (by kernel_rfl) (fun _ => rfl) (fun _ => Nat.le_of_ble_eq_true rfl) (by
    intro R
    rw [show loopsOf (codeOf Try.f168) = [lcode 3 (codeOf Try.f168), lcode 8 (codeOf Try.f168)] from by kernel_rfl]
    exact (allM_cons (loop_ok2 (e := le168_3 (G168_3 FUEL)) rfl rfl lok168_3) (allM_cons (loop_ok2 (e := le168_8 (G168_8 FUEL)) rfl rfl lok168_8) allM_nil))) (fun R x k => q168 F176 F177 F178 (G168_3 FUEL) (G168_8 FUEL) F168 R x k)
/-! (*drawlot/sha.writer).take -/
abbrev FT157 : Type 1 := (R : Type) → (((List Int) × ((List Int) × (Int × Unit))) × Unit) → (List Int) → ((List Int) → (((List Int) × ((List Int) × (Int × Unit))) × Unit) → Option R) → Option R
def en157 (F : FT157) : Ent := ⟨157, [(true, (.pair (.pair (.arr 8 (.int .u32)) (.pair (.sl (.int .u8)) (.pair (.int .u64) .unit))) .unit)), (false, (.sl (.int .u8)))], [(false, (.sl (.int .u8)))], fun R x k => F R x.1 x.2.1 (fun y1 p1 => k (y1, ()) (p1, ()))⟩
def res157 : List (ResultVar × TypeId × Bool) := [(.tmp 4, 23, false)]
abbrev LT157_3 : Type 1 := (R : Type) → (List Int) → (List (List Int)) → Int → Int → (((List Int) × ((List Int) × (Int × Unit))) × Unit) → ((List Int) → (((List Int) × ((List Int) × (Int × Unit))) × Unit) → Option R) → Option R
def le157_3 (L : LT157_3) : LEnt := ⟨3, [.fix 0 (.ptr 0 [] (.pair (.pair (.arr 8 (.int .u32)) (.pair (.sl (.int .u8)) (.pair (.int .u64) .unit))) .unit)), .val 6 (.sl (.int .u8)), .val 14 (.sl (.arr 64 (.int .u8))), .val 15 (.int .i64), .val 16 (.int .i64), .var 0 (.pair (.pair (.arr 8 (.int .u32)) (.pair (.sl (.int .u8)) (.pair (.int .u64) .unit))) .unit) false], 1, [(.exit 0, [.val 6 (.sl (.int .u8)), .var 0 (.pair (.pair (.arr 8 (.int .u32)) (.pair (.sl (.int .u8)) (.pair (.int .u64) .unit))) .unit) false])], fun R x ke => L R x.1 x.2.1 x.2.2.1 x.2.2.2.1 x.2.2.2.2.1 (fun y1 y2 => ke.1 (y1, y2, ()))⟩
def e157 (F167 : FT167) (F168 : FT168) (L3 : LT157_3) (R : Type) : Env R := ⟨TT, EQT, 1, 33, ownOf [], callOf [en167 F167, en168 F168] R, loopOf [le157_3 L3] R, []⟩
def p157_3 (F168 : FT168) : (R : Type) → (List Int) → (List (List Int)) → Int → Int → (((List Int) × ((List Int) × (Int × Unit))) × Unit) → ((List Int) → (List (List Int)) → Int → Int → (((List Int) × ((List Int) × (Int × Unit))) × Unit) → Option R) → ((List Int) → (((List Int) × ((List Int) × (Int × Unit))) × Unit) → Option R) → Option R := fun R x1 x2 x3 x4 x5 kc k0 =>
let v6 : Bool := (decide (x4 < x3));
(match v6 with
| true => (match (bnd x4 (List.length x2 : Int)) with
| true => let v7 : (List Int) := (List.getD x2 (Int.toNat x4) (List.replicate 64 (0 : Int)));
F168 R x5.1.1 v7 fun y8 =>
let v9 : Int := (IntKind.i64.wrap (x4 + (1 : Int)));
kc x1 x2 x3 v9 ((y8, x5.1.2), x5.2)
| false => none)
| false => k0 x1 x5)
theorem q157_3 (F167 : FT167) (F168 : FT168) (L3 : LT157_3) (R : Type) (x : HT (le157_3 L3).H) (kc : HT (le157_3 L3).H → Option R) (ke : KT R (le157_3 L3).exs) :
  exec (e157 F167 F168 L3 R) (lcode 3 (codeOf Try.f157)) (stOf (le157_3 L3).H x 1) (roundK (le157_3 L3).H (le157_3 L3).exs kc ke) =
    p157_3 F168 R x.1 x.2.1 x.2.2.1 x.2.2.2.1 x.2.2.2.2.1 (fun x1 x2 x3 x4 x5 => kc (x1, x2, x3, x4, x5, ())) (fun y1 y2 => ke.1 (y1, y2, ())) := by kernel_rfl
noncomputable def G157_3 : Nat → LT157_3
  | 0 => fun _ _ _ _ _ _ _ => none
  | n + 1 => fun R x1 x2 x3 x4 x5 k0 => p157_3 F168 R x1 x2 x3 x4 x5 (fun x1 x2 x3 x4 x5 => G157_3 n R x1 x2 x3 x4 x5 k0) k0
def p157 (F167 : FT167) (L3 : LT157_3) : FT157 := fun R a0 a1 k =>
F167 R a1 fun y1 y2 =>
let v3 : Int := (List.length y1 : Int);
L3 R y2 y1 v3 (0 : Int) a0 (fun x4 x5 =>
k x4 x5)
theorem q157 (F167 : FT167) (F168 : FT168) (L3 : LT157_3) (F : FT157) (R : Type) (x : AT (en157 F).ins) (k : RT (en157 F).outs → PT (en157 F).ins → Option R) :
  xfun (e157 F167 F168 L3 R) (codeOf Try.f157) res157 (avs (en157 F).ins x) (finK (en157 F).outs (en157 F).ins k) = p157 F167 L3 R x.1 x.2.1 (fun y1 p1 => k (y1, ()) (p1, ())) := by kernel_rfl
noncomputable def F157 : FT157 := p157 F167 (G157_3 FUEL)
theorem env157 (R : Type) : EnvOK Try.prog (e157 F167 F168 (G157_3 FUEL) R) := ⟨tabOK, eqOK, callOf_ok (allE_cons ok167 (allE_cons ok168 allE_nil)), noIns⟩
noncomputable def T157_3 : (R : Type) → HT (le157_3 (G157_3 FUEL)).H → (HT (le157_3 (G157_3 FUEL)).H → Option R) → KT R (le157_3 (G157_3 FUEL)).exs → Option R := fun R x kc ke => p157_3 F168 R x.1 x.2.1 x.2.2.1 x.2.2.2.1 x.2.2.2.2.1 (fun x1 x2 x3 x4 x5 => kc (x1, x2, x3, x4, x5, ())) (fun y1 y2 => ke.1 (y1, y2, ()))
theorem it157_3 : ∀ (n : Nat) (R : Type) (x : HT (le157_3 (G157_3 FUEL)).H) (ke : KT R (le157_3 (G157_3 FUEL)).exs), iter T157_3 n R x ke = G157_3 n R x.1 x.2.1 x.2.2.1 x.2.2.2.1 x.2.2.2.2.1 (fun y1 y2 => ke.1 (y1, y2, ())) := by
  intro n
  induction n with
  | zero => intro R x ke; rfl
  | succ n ih =>
    intro R x ke
    show T157_3 R x (fun x' => iter T157_3 n R x' ke) ke = _
    rw [show (fun x' => iter T157_3 n R x' ke) = fun x => G157_3 n R x.1 x.2.1 x.2.2.1 x.2.2.2.1 x.2.2.2.2.1 (fun y1 y2 => ke.1 (y1, y2, ())) from funext fun x' => ih R x' ke]
    rfl
theorem lok157_3 : (le157_3 (G157_3 FUEL)).OK Try.prog 1 33 (lcode 3 (codeOf Try.f157)) := fun R x ke r h =>
  iter_sound (fun R => e157 F167 F168 (G157_3 FUEL) R) 1 33 (fun _ => rfl) (fun _ => rfl) (fun R => env157 R) mixed (by
    intro R
    rw [show loopsOf (lcode 3 (codeOf Try.f157)) = [] from by kernel_rfl]
    exact allM_nil) (T := T157_3) (fun R x kc ke => q157_3 F167 F168 (G157_3 FUEL) R x kc ke) FUEL R x ke r ((it157_3 FUEL R x ke).trans h)
theorem ok157 : (en157 F157).OK Try.prog :=
  ent_ok (Ef := fun R => e157 F167 F168 (G157_3 FUEL) R) (fun R => env157 R) mixed Try.func157 (body := codeOf Try.f157) (by kernel_rfl) (by kernel_rfl) (np := 1) (nt := 33) (fun _ => rfl) (fun _ => rfl) (by kernel_rfl) (res := res157) (by kernel_rfl) (fun _ => rfl) (fun _ => Nat.le_of_ble_eq_true rfl) (by
    intro R
    rw [show loopsOf (codeOf Try.f157) = [lcode 3 (codeOf Try.f157)] from by kernel_rfl]
    exact (allM_cons (loop_ok2 (e := le157_3 (G157_3 FUEL)) rfl rfl lok157_3) allM_nil)) (fun R x k => q157 F167 F168 (G157_3 FUEL) F157 R x k)
/-! (*drawlot/sha.writer).write -/
abbrev FT154 : Type 1 := (R : Type) → (((List Int) × ((List Int) × (Int × Unit))) × Unit) → (List Int) → ((((List Int) × ((List Int) × (Int × Unit))) × Unit) → Option R) → Option R
def en154 (F : FT154) : Ent := ⟨154, [(true, (.pair (.pair (.arr 8 (.int .u32)) (.pair (.sl (.int .u8)) (.pair (.int .u64) .unit))) .unit)), (false, (.sl (.int .u8)))], [], fun R x k => F R x.1 x.2.1 (fun p1 => k () (p1, ()))⟩
def res154 : List (ResultVar × TypeId × Bool) := []
def e154 (F157 : FT157) (F165 : FT165) (R : Type) : Env R := ⟨TT, EQT, 1, 30, ownOf [], callOf [en157 F157, en165 F165] R, loopOf [] R, []⟩
def p154 (F157 : FT157) (F165 : FT165) : FT154 := fun R a0 a1 k =>
let v1 : Int := (List.length a1 : Int);
let v2 : Int := (IntKind.u64.wrap v1);
let v3 : Int := (IntKind.u64.wrap (a0.1.2.2.1 + v2));
F165 R a0.1.2.1 fun y4 =>
(match (decide (List.length y4 + List.length a1 ≤ 140737488355328)) with
| true => let v5 : (List Int) := (y4 ++ a1);
F157 R ((a0.1.1, a0.1.2.1, v3, a0.1.2.2.2), a0.2) v5 fun y6 p7 =>
k ((p7.1.1, y6, p7.1.2.2), p7.2)
| false => none)
theorem q154 (F157 : FT157) (F165 : FT165) (F : FT154) (R : Type) (x : AT (en154 F).ins) (k : RT (en154 F).outs → PT (en154 F).ins → Option R) :
  xfun (e154 F157 F165 R) (codeOf Try.f154) res154 (avs (en154 F).ins x) (finK (en154 F).outs (en154 F).ins k) = p154 F157 F165 R x.1 x.2.1 (fun p1 => k () (p1, ())) := by kernel_rfl
noncomputable def F154 : FT154 := p154 F157 F165
theorem env154 (R : Type) : EnvOK Try.prog (e154 F157 F165 R) := ⟨tabOK, eqOK, callOf_ok (allE_cons ok157 (allE_cons ok165 allE_nil)), noIns⟩
theorem ok154 : (en154 F154).OK Try.prog :=
  ent_ok (Ef := fun R => e154 F157 F165 R) (fun R => env154 R) mixed Try.func154 (body := codeOf Try.f154) (by kernel_rfl) (by kernel_rfl) (np := 1) (nt := 30) (fun _ => rfl) (fun _ => rfl) (by kernel_rfl) (res := res154) (by kernel_rfl) (fun _ => rfl) (fun _ => Nat.le_of_ble_eq_true rfl) (by
    intro R
    rw [show loopsOf (codeOf Try.f154) = [] from by kernel_rfl]
    exact allM_nil) (fun R x k => q154 F157 F165 F154 R x k)
/-! drawlot/sha.Write -/
abbrev FT141 : Type 1 := (R : Type) → ((List Int) × ((List Int) × (Int × Unit))) → (List (List Int)) → (((List Int) × ((List Int) × (Int × Unit))) → Int → Option R) → Option R
def en141 (F : FT141) : Ent := ⟨141, [(false, (.pair (.arr 8 (.int .u32)) (.pair (.sl (.int .u8)) (.pair (.int .u64) .unit)))), (false, (.sl (.sl (.int .u8))))], [(false, (.pair (.arr 8 (.int .u32)) (.pair (.sl (.int .u8)) (.pair (.int .u64) .unit)))), (false, (.int .i64))], fun R x k => F R x.1 x.2.1 (fun y1 y2 => k (y1, y2, ()) ())⟩
def res141 : List (ResultVar × TypeId × Bool) := [(.cell 4 172, 172, false), (.tmp 5, 31, false)]
abbrev LT141_5 : Type 1 := (R : Type) → (List (List Int)) → Int → Int → ((List Int) × ((List Int) × (Int × Unit))) → (((List Int) × ((List Int) × (Int × Unit))) × Unit) → (Int → ((List Int) × ((List Int) × (Int × Unit))) → Option R) → (((List Int) × ((List Int) × (Int × Unit))) → (((List Int) × ((List Int) × (Int × Unit))) × Unit) → Option R) → Option R
def le141_5 (L : LT141_5) : LEnt := ⟨5, [.fix 4 (.ptr 1 [] (.pair (.arr 8 (.int .u32)) (.pair (.sl (.int .u8)) (.pair (.int .u64) .unit)))), .fix 6 (.ptr 2 [] (.pair (.pair (.arr 8 (.int .u32)) (.pair (.sl (.int .u8)) (.pair (.int .u64) .unit))) .unit)), .val 15 (.sl (.sl (.int .u8))), .val 16 (.int .i64), .val 17 (.int .i64), .var 1 (.pair (.arr 8 (.int .u32)) (.pair (.sl (.int .u8)) (.pair (.int .u64) .unit))) false, .var 2 (.pair (.pair (.arr 8 (.int .u32)) (.pair (.sl (.int .u8)) (.pair (.int .u64) .unit))) .unit) false], 3, [(.ret, [.fix 4 (.ptr 1 [] (.pair (.arr 8 (.int .u32)) (.pair (.sl (.int .u8)) (.pair (.int .u64) .unit)))), .val 5 (.int .i64), .var 1 (.pair (.arr 8 (.int .u32)) (.pair (.sl (.int .u8)) (.pair (.int .u64) .unit))) false]), (.exit 0, [.fix 4 (.ptr 1 [] (.pair (.arr 8 (.int .u32)) (.pair (.sl (.int .u8)) (.pair (.int .u64) .unit)))), .fix 6 (.ptr 2 [] (.pair (.pair (.arr 8 (.int .u32)) (.pair (.sl (.int .u8)) (.pair (.int .u64) .unit))) .unit)), .var 1 (.pair (.arr 8 (.int .u32)) (.pair (.sl (.int .u8)) (.pair (.int .u64) .unit))) false, .var 2 (.pair (.pair (.arr 8 (.int .u32)) (.pair (.sl (.int .u8)) (.pair (.int .u64) .unit))) .unit) false])], fun R x ke => L R x.1 x.2.1 x.2.2.1 x.2.2.2.1 x.2.2.2.2.1 (fun y1 y2 => ke.1 (y1, y2, ())) (fun y1 y2 => ke.2.1 (y1, y2, ()))⟩
def e141 (F153 : FT153) (F154 : FT154) (L5 : LT141_5) (R : Type) : Env R := ⟨TT, EQT, 0, 31, ownOf [], callOf [en153 F153, en154 F154] R, loopOf [le141_5 L5] R, []⟩
def p141_5 (F154 : FT154) : (R : Type) → (List (List Int)) → Int → Int → ((List Int) × ((List Int) × (Int × Unit))) → (((List Int) × ((List Int) × (Int × Unit))) × Unit) → ((List (List Int)) → Int → Int → ((List Int) × ((List Int) × (Int × Unit))) → (((List Int) × ((List Int) × (Int × Unit))) × Unit) → Option R) → (Int → ((List Int) × ((List Int) × (Int × Unit))) → Option R) → (((List Int) × ((List Int) × (Int × Unit))) → (((List Int) × ((List Int) × (Int × Unit))) × Unit) → Option R) → Option R := fun R x1 x2 x3 x4 x5 kc k0 k1 =>
let v6 : Bool := (decide (x3 < x2));
(match v6 with
| true => (match (bnd x3 (List.length x1 : Int)) with
| true => let v7 : (List Int) := (List.getD x1 (Int.toNat x3) ([] : (List Int)));
F154 R x5 v7 fun p8 =>
let v9 : Bool := (decide (p8.1.2.2.1 ≥ (2305843009213693952 : Int)));
(match v9 with
| true => k0 (11 : Int) ((List.replicate 8 (0 : Int)), ([] : (List Int)), (0 : Int), ())
| false => let v10 : Int := (IntKind.i64.wrap (x3 + (1 : Int)));
kc x1 x2 v10 x4 p8)
| false => none)
| false => k1 x4 x5)
theorem q141_5 (F153 : FT153) (F154 : FT154) (L5 : LT141_5) (R : Type) (x : HT (le141_5 L5).H) (kc : HT (le141_5 L5).H → Option R) (ke : KT R (le141_5 L5).exs) :
  exec (e141 F153 F154 L5 R) (lcode 5 (codeOf Try.f141)) (stOf (le141_5 L5).H x 3) (roundK (le141_5 L5).H (le141_5 L5).exs kc ke) =
    p141_5 F154 R x.1 x.2.1 x.2.2.1 x.2.2.2.1 x.2.2.2.2.1 (fun x1 x2 x3 x4 x5 => kc (x1, x2, x3, x4, x5, ())) (fun y1 y2 => ke.1 (y1, y2, ())) (fun y1 y2 => ke.2.1 (y1, y2, ())) := by kernel_rfl
noncomputable def G141_5 : Nat → LT141_5
  | 0 => fun _ _ _ _ _ _ _ _ => none
  | n + 1 => fun R x1 x2 x3 x4 x5 k0 k1 => p141_5 F154 R x1 x2 x3 x4 x5 (fun x1 x2 x3 x4 x5 => G141_5 n R x1 x2 x3 x4 x5 k0 k1) k0 k1
def p141 (F153 : FT153) (L5 : LT141_5) : FT141 := fun R a0 a1 k =>
F153 R a0 fun y1 =>
(match (!y1) with
| true => k ((List.replicate 8 (0 : Int)), ([] : (List Int)), (0 : Int), ()) (1 : Int)
| false => let v2 : Int := (List.length a1 : Int);
L5 R a1 v2 (0 : Int) ((List.replicate 8 (0 : Int)), ([] : (List Int)), (0 : Int), ()) (a0, ()) (fun x3 x4 =>
k x4 x3) (fun x5 x6 =>
k x6.1 (0 : Int)))
theorem q141 (F153 : FT153) (F154 : FT154) (L5 : LT141_5) (F : FT141) (R : Type) (x : AT (en141 F).ins) (k : RT (en141 F).outs → PT (en141 F).ins → Option R) :
  xfun (e141 F153 F154 L5 R) (codeOf Try.f141) res141 (avs (en141 F).ins x) (finK (en141 F).outs (en141 F).ins k) = p141 F153 L5 R x.1 x.2.1 (fun y1 y2 => k (y1, y2, ()) ()) := by kernel_rfl
noncomputable def F141 : FT141 := p141 F153 (G141_5 FUEL)
theorem env141 (R : Type) : EnvOK Try.prog (e141 F153 F154 (G141_5 FUEL) R) := ⟨tabOK, eqOK, callOf_ok (allE_cons ok153 (allE_cons ok154 allE_nil)), noIns⟩
noncomputable def T141_5 : (R : Type) → HT (le141_5 (G141_5 FUEL)).H → (HT (le141_5 (G141_5 FUEL)).H → Option R) → KT R (le141_5 (G141_5 FUEL)).exs → Option R := fun R x kc ke => p141_5 F154 R x.1 x.2.1 x.2.2.1 x.2.2.2.1 x.2.2.2.2.1 (fun x1 x2 x3 x4 x5 => kc (x1, x2, x3, x4, x5, ())) (fun y1 y2 => ke.1 (y1, y2, ())) (fun y1 y2 => ke.2.1 (y1, y2, ()))
theorem it141_5 : ∀ (n : Nat) (R : Type) (x : HT (le141_5 (G141_5 FUEL)).H) (ke : KT R (le141_5 (G141_5 FUEL)).exs), iter T141_5 n R x ke = G141_5 n R x.1 x.2.1 x.2.2.1 x.2.2.2.1 x.2.2.2.2.1 (fun y1 y2 => ke.1 (y1, y2, ())) (fun y1 y2 => ke.2.1 (y1, y2, ())) := by
  intro n
  induction n with
  | zero => intro R x ke; rfl
  | succ n ih =>
    intro R x ke
    show T141_5 R x (fun x' => iter T141_5 n R x' ke) ke = _
    rw [show (fun x' => iter T141_5 n R x' ke) = fun x => G141_5 n R x.1 x.2.1 x.2.2.1 x.2.2.2.1 x.2.2.2.2.1 (fun y1 y2 => ke.1 (y1, y2, ())) (fun y1 y2 => ke.2.1 (y1, y2, ())) from funext fun x' => ih R x' ke]
    rfl
theorem lok141_5 : (le141_5 (G141_5 FUEL)).OK Try.prog 0 31 (lcode 5 (codeOf Try.f141)) := fun R x ke r h =>
  iter_sound (fun R => e141 F153 F154 (G141_5 FUEL) R) 0 31 (fun _ => rfl) (fun _ => rfl) (fun R => env141 R) mixed (by
    intro R
    rw [show loopsOf (lcode 5 (codeOf Try.f141)) = [] from by kernel_rfl]
    exact allM_nil) (T := T141_5) (fun R x kc ke => q141_5 F153 F154 (G141_5 FUEL) R x kc ke) FUEL R x ke r ((it141_5 FUEL R x ke).trans h)
theorem ok141 : (en141 F141).OK Try.prog :=
  ent_ok (Ef := fun R => e141 F153 F154 (G141_5 FUEL) R) (fun R => env141 R) mixed Try.func141 (body := codeOf Try.f141) (by kernel_rfl) (by kernel_rfl) (np := 0) (nt := 31) (fun _ => rfl) (fun _ => rfl) (by kernel_rfl) (res := res141) (by kernel_rfl) (fun _ => rfl) (fun _ => Nat.le_of_ble_eq_true rfl) (by
    intro R
    rw [show loopsOf (codeOf Try.f141) = [lcode 5 (codeOf Try.f141)] from by kernel_rfl]
    exact (allM_cons (loop_ok2 (e := le141_5 (G141_5 FUEL)) rfl rfl lok141_5) allM_nil)) (fun R x k => q141 F153 F154 (G141_5 FUEL) F141 R x k)
/-! drawlot/pad.Blocks -/
abbrev FT166 : Type 1 := (R : Type) → Int → (Int → Option R) → Option R
def en166 (F : FT166) : Ent := ⟨166, [(false, (.int .u64))], [(false, (.int .u64))], fun R x k => F R x.1 (fun y1 => k (y1, ()) ())⟩
def res166 : List (ResultVar × TypeId × Bool) := [(.tmp 2, 24, false)]
def e166 (R : Type) : Env R := ⟨TT, EQT, 0, 9, ownOf [], callOf [] R, loopOf [] R, []⟩
def p166 : FT166 := fun R a0 k =>
let v1 : Bool := (decide (a0 ≥ (2305843009213693952 : Int)));
(match v1 with
| true => k (0 : Int)
| false => let v2 : Int := (IntKind.u64.wrap (a0 + (8 : Int)));
let v3 : Int := (IntKind.u64.wrap (v2 + (64 : Int)));
let v4 : Int := (IntKind.u64.wrap (Int.tdiv v3 (64 : Int)));
k v4)
theorem q166 (F : FT166) (R : Type) (x : AT (en166 F).ins) (k : RT (en166 F).outs → PT (en166 F).ins → Option R) :
  xfun (e166 R) (codeOf Try.f166) res166 (avs (en166 F).ins x) (finK (en166 F).outs (en166 F).ins k) = p166 R x.1 (fun y1 => k (y1, ()) ()) := by kernel_rfl
noncomputable def F166 : FT166 := p166
theorem env166 (R : Type) : EnvOK Try.prog (e166 R) := ⟨tabOK, eqOK, callOf_ok allE_nil, noIns⟩
theorem ok166 : (en166 F166).OK Try.prog :=
  ent_ok (Ef := fun R => e166 R) (fun R => env166 R) mixed Try.func166 (body := codeOf Try.f166) (by kernel_rfl) (by kernel_rfl) (np := 0) (nt := 9) (fun _ => rfl) (fun _ => rfl) (by kernel_rfl) (res := res166) (by kernel_rfl) (fun _ => rfl) (fun _ => Nat.le_of_ble_eq_true rfl) (by
    intro R
    rw [show loopsOf (codeOf Try.f166) = [] from by kernel_rfl]
    exact allM_nil) (fun R x k => q166 F166 R x k)
/-! drawlot/word.Put64 -/
abbrev FT126 : Type 1 := (R : Type) → Int → ((List Int) → Option R) → Option R
def en126 (F : FT126) : Ent := ⟨126, [(false, (.int .u64))], [(false, (.arr 8 (.int .u8)))], fun R x k => F R x.1 (fun y1 => k (y1, ()) ())⟩
def res126 : List (ResultVar × TypeId × Bool) := [(.cell 2 124, 124, false)]
abbrev LT126_2 : Type 1 := (R : Type) → Int → Int → (List Int) → ((List Int) → Option R) → Option R
def le126_2 (L : LT126_2) : LEnt := ⟨2, [.val 0 (.int .u64), .fix 2 (.ptr 0 [] (.arr 8 (.int .u8))), .val 4 (.int .i64), .var 0 (.arr 8 (.int .u8)) false], 1, [(.exit 0, [.fix 2 (.ptr 0 [] (.arr 8 (.int .u8))), .var 0 (.arr 8 (.int .u8)) false])], fun R x ke => L R x.1 x.2.1 x.2.2.1 (fun y1 => ke.1 (y1, ()))⟩
def e126 (L2 : LT126_2) (R : Type) : Env R := ⟨TT, EQT, 0, 18, ownOf [], callOf [] R, loopOf [le126_2 L2] R, []⟩
def p126_2 : (R : Type) → Int → Int → (List Int) → (Int → Int → (List Int) → Option R) → ((List Int) → Option R) → Option R := fun R x1 x2 x3 kc k0 =>
let v4 : Bool := (decide (x2 < (8 : Int)));
(match v4 with
| true => let v5 : Int := (IntKind.i64.wrap ((7 : Int) - x2));
let v6 : Int := (IntKind.i64.wrap ((8 : Int) * v5));
let v7 : Int := (IntKind.u64.wrap v6);
(match (decide (0 ≤ v7)) with
| true => let v8 : Int := (ishr .u64 x1 v7);
let v9 : Int := (IntKind.u8.wrap v8);
(match (bnd x2 (8 : Int)) with
| true => let v10 : (List Int) := (List.set x3 (Int.toNat x2) v9);
let v11 : Int := (IntKind.i64.wrap (x2 + (1 : Int)));
kc x1 v11 v10
| false => none)
| false => none)
| false => k0 x3)
theorem q126_2 (L2 : LT126_2) (R : Type) (x : HT (le126_2 L2).H) (kc : HT (le126_2 L2).H → Option R) (ke : KT R (le126_2 L2).exs) :
  exec (e126 L2 R) (lcode 2 (codeOf Try.f126)) (stOf (le126_2 L2).H x 1) (roundK (le126_2 L2).H (le126_2 L2).exs kc ke) =
    p126_2 R x.1 x.2.1 x.2.2.1 (fun x1 x2 x3 => kc (x1, x2, x3, ())) (fun y1 => ke.1 (y1, ())) := by kernel_rfl
noncomputable def G126_2 : Nat → LT126_2
  | 0 => fun _ _ _ _ _ => none
  | n + 1 => fun R x1 x2 x3 k0 => p126_2 R x1 x2 x3 (fun x1 x2 x3 => G126_2 n R x1 x2 x3 k0) k0
def p126 (L2 : LT126_2) : FT126 := fun R a0 k =>
L2 R a0 (0 : Int) (List.replicate 8 (0 : Int)) (fun x1 =>
k x1)
theorem q126 (L2 : LT126_2) (F : FT126) (R : Type) (x : AT (en126 F).ins) (k : RT (en126 F).outs → PT (en126 F).ins → Option R) :
  xfun (e126 L2 R) (codeOf Try.f126) res126 (avs (en126 F).ins x) (finK (en126 F).outs (en126 F).ins k) = p126 L2 R x.1 (fun y1 => k (y1, ()) ()) := by kernel_rfl
noncomputable def F126 : FT126 := p126 (G126_2 FUEL)
theorem env126 (R : Type) : EnvOK Try.prog (e126 (G126_2 FUEL) R) := ⟨tabOK, eqOK, callOf_ok allE_nil, noIns⟩
noncomputable def T126_2 : (R : Type) → HT (le126_2 (G126_2 FUEL)).H → (HT (le126_2 (G126_2 FUEL)).H → Option R) → KT R (le126_2 (G126_2 FUEL)).exs → Option R := fun R x kc ke => p126_2 R x.1 x.2.1 x.2.2.1 (fun x1 x2 x3 => kc (x1, x2, x3, ())) (fun y1 => ke.1 (y1, ()))
theorem it126_2 : ∀ (n : Nat) (R : Type) (x : HT (le126_2 (G126_2 FUEL)).H) (ke : KT R (le126_2 (G126_2 FUEL)).exs), iter T126_2 n R x ke = G126_2 n R x.1 x.2.1 x.2.2.1 (fun y1 => ke.1 (y1, ())) := by
  intro n
  induction n with
  | zero => intro R x ke; rfl
  | succ n ih =>
    intro R x ke
    show T126_2 R x (fun x' => iter T126_2 n R x' ke) ke = _
    rw [show (fun x' => iter T126_2 n R x' ke) = fun x => G126_2 n R x.1 x.2.1 x.2.2.1 (fun y1 => ke.1 (y1, ())) from funext fun x' => ih R x' ke]
    rfl
theorem lok126_2 : (le126_2 (G126_2 FUEL)).OK Try.prog 0 18 (lcode 2 (codeOf Try.f126)) := fun R x ke r h =>
  iter_sound (fun R => e126 (G126_2 FUEL) R) 0 18 (fun _ => rfl) (fun _ => rfl) (fun R => env126 R) mixed (by
    intro R
    rw [show loopsOf (lcode 2 (codeOf Try.f126)) = [] from by kernel_rfl]
    exact allM_nil) (T := T126_2) (fun R x kc ke => q126_2 (G126_2 FUEL) R x kc ke) FUEL R x ke r ((it126_2 FUEL R x ke).trans h)
theorem ok126 : (en126 F126).OK Try.prog :=
  ent_ok (Ef := fun R => e126 (G126_2 FUEL) R) (fun R => env126 R) mixed Try.func126 (body := codeOf Try.f126) (by kernel_rfl) (by kernel_rfl) (np := 0) (nt := 18) (fun _ => rfl) (fun _ => rfl) (by kernel_rfl) (res := res126) (by kernel_rfl) (fun _ => rfl) (fun _ => Nat.le_of_ble_eq_true rfl) (by
    intro R
    rw [show loopsOf (codeOf Try.f126) = [lcode 2 (codeOf Try.f126)] from by kernel_rfl]
    exact (allM_cons (loop_ok2 (e := le126_2 (G126_2 FUEL)) rfl rfl lok126_2) allM_nil)) (fun R x k => q126 (G126_2 FUEL) F126 R x k)
/-! drawlot/pad.Tail -/
abbrev FT156 : Type 1 := (R : Type) → (List Int) → Int → ((List Int) → Bool → Option R) → Option R
def en156 (F : FT156) : Ent := ⟨156, [(false, (.sl (.int .u8))), (false, (.int .u64))], [(false, (.sl (.int .u8))), (false, .bool)], fun R x k => F R x.1 x.2.1 (fun y1 y2 => k (y1, y2, ()) ())⟩
def res156 : List (ResultVar × TypeId × Bool) := [(.tmp 4, 23, false), (.tmp 5, 4, false)]
def e156 (F126 : FT126) (F166 : FT166) (R : Type) : Env R := ⟨TT, EQT, 0, 45, ownOf [], callOf [en126 F126, en166 F166] R, loopOf [] R, []⟩
def p156 (F126 : FT126) (F166 : FT166) : FT156 := fun R a0 a1 k =>
let v1 : Bool := (decide (a1 ≥ (2305843009213693952 : Int)));
(match v1 with
| true => k ([] : (List Int)) false
| false => let v2 : Int := (List.length a0 : Int);
let v3 : Int := (IntKind.u64.wrap v2);
let v4 : Int := (Int.tmod a1 (64 : Int));
let v5 : Bool := (v3 != v4);
(match v5 with
| true => k ([] : (List Int)) false
| false => F166 R a1 fun y6 =>
let v7 : Int := (IntKind.u64.wrap (Int.tdiv a1 (64 : Int)));
let v8 : Int := (IntKind.u64.wrap (y6 - v7));
let v9 : Int := (IntKind.i64.wrap v8);
let v10 : Int := (IntKind.i64.wrap (v9 * (64 : Int)));
(match (decide (0 ≤ v10 ∧ v10 ≤ v10 ∧ v10 ≤ (140737488355328 : Int))) with
| true => let v11 : (List Int) := (List.replicate (Int.toNat v10) (0 : Int));
let v12 : (List Int) := (lay v11 0 (List.take (List.length v11) a0));
let v13 : Int := (List.length a0 : Int);
(match (bnd v13 (List.length v12 : Int)) with
| true => let v14 : (List Int) := (List.set v12 (Int.toNat v13) (128 : Int));
let v15 : Int := (ishl .u64 a1 (3 : Int));
F126 R v15 fun y16 =>
let v17 : Int := (IntKind.i64.wrap (v10 - (8 : Int)));
(match (decide (0 ≤ v17 ∧ v17 ≤ (List.length v14 : Int) ∧ (List.length v14 : Int) ≤ (List.length v14 : Int) ∧ (List.length v14 : Int) ≤ (List.length v14 : Int))) with
| true => let v18 : (List Int) := (lay v14 (Int.toNat v17) (List.take (Int.toNat ((List.length v14 : Int) - v17)) (List.take 8 (List.drop 0 y16))));
k v18 true
| false => none)
| false => none)
| false => none)))
theorem q156 (F126 : FT126) (F166 : FT166) (F : FT156) (R : Type) (x : AT (en156 F).ins) (k : RT (en156 F).outs → PT (en156 F).ins → Option R) :
  xfun (e156 F126 F166 R) (codeOf Try.f156) res156 (avs (en156 F).ins x) (finK (en156 F).outs (en156 F).ins k) = p156 F126 F166 R x.1 x.2.1 (fun y1 y2 => k (y1, y2, ()) ()) := by kernel_rfl
noncomputable def F156 : FT156 := p156 F126 F166
theorem env156 (R : Type) : EnvOK Try.prog (e156 F126 F166 R) := ⟨tabOK, eqOK, callOf_ok (allE_cons ok126 (allE_cons ok166 allE_nil)), noIns⟩
theorem ok156 : (en156 F156).OK Try.prog :=
  ent_ok (Ef := fun R => e156 F126 F166 R) (fun R => env156 R) mixed Try.func156 (body := codeOf Try.f156) (by kernel_rfl) (by kernel_rfl) (np := 0) (nt := 45) (fun _ => rfl) (fun _ => rfl) (by kernel_rfl) (res := res156) (by kernel_rfl) (fun _ => rfl) (fun _ => Nat.le_of_ble_eq_true rfl) (by
    intro R
    rw [show loopsOf (codeOf Try.f156) = [] from by kernel_rfl]
    exact allM_nil) (fun R x k => q156 F126 F166 F156 R x k)
/-! drawlot/word.Put32 -/
abbrev FT169 : Type 1 := (R : Type) → Int → ((List Int) → Option R) → Option R
def en169 (F : FT169) : Ent := ⟨169, [(false, (.int .u32))], [(false, (.arr 4 (.int .u8)))], fun R x k => F R x.1 (fun y1 => k (y1, ()) ())⟩
def res169 : List (ResultVar × TypeId × Bool) := [(.cell 2 181, 181, false)]
def e169 (R : Type) : Env R := ⟨TT, EQT, 0, 15, ownOf [], callOf [] R, loopOf [] R, []⟩
def p169 : FT169 := fun R a0 k =>
let v1 : Int := (ishr .u32 a0 (24 : Int));
let v2 : Int := (IntKind.u8.wrap v1);
let v3 : Int := (ishr .u32 a0 (16 : Int));
let v4 : Int := (IntKind.u8.wrap v3);
let v5 : Int := (ishr .u32 a0 (8 : Int));
let v6 : Int := (IntKind.u8.wrap v5);
let v7 : Int := (IntKind.u8.wrap a0);
let v8 : (List Int) := (List.set (List.set (List.set (List.set (List.replicate 4 (0 : Int)) 0 v2) 1 v4) 2 v6) 3 v7);
k v8
theorem q169 (F : FT169) (R : Type) (x : AT (en169 F).ins) (k : RT (en169 F).outs → PT (en169 F).ins → Option R) :
  xfun (e169 R) (codeOf Try.f169) res169 (avs (en169 F).ins x) (finK (en169 F).outs (en169 F).ins k) = p169 R x.1 (fun y1 => k (y1, ()) ()) := by kernel_rfl
noncomputable def F169 : FT169 := p169
theorem env169 (R : Type) : EnvOK Try.prog (e169 R) := ⟨tabOK, eqOK, callOf_ok allE_nil, noIns⟩
theorem ok169 : (en169 F169).OK Try.prog :=
  ent_ok (Ef := fun R => e169 R) (fun R => env169 R) mixed Try.func169 (body := codeOf Try.f169) (by kernel_rfl) (by kernel_rfl) (np := 0) (nt := 15) (fun _ => rfl) (fun _ => rfl) (by kernel_rfl) (res := res169) (by kernel_rfl) (fun _ => rfl) (fun _ => Nat.le_of_ble_eq_true rfl) (by
    intro R
    rw [show loopsOf (codeOf Try.f169) = [] from by kernel_rfl]
    exact allM_nil) (fun R x k => q169 F169 R x k)
/-! (*drawlot/sha.writer).hash -/
abbrev FT158 : Type 1 := (R : Type) → (((List Int) × ((List Int) × (Int × Unit))) × Unit) → ((List Int) → (((List Int) × ((List Int) × (Int × Unit))) × Unit) → Option R) → Option R
def en158 (F : FT158) : Ent := ⟨158, [(true, (.pair (.pair (.arr 8 (.int .u32)) (.pair (.sl (.int .u8)) (.pair (.int .u64) .unit))) .unit))], [(false, (.arr 32 (.int .u8)))], fun R x k => F R x.1 (fun y1 p1 => k (y1, ()) (p1, ()))⟩
def res158 : List (ResultVar × TypeId × Bool) := [(.cell 2 26, 26, false)]
abbrev LT158_2 : Type 1 := (R : Type) → (List Int) → Int → (((List Int) × ((List Int) × (Int × Unit))) × Unit) → (List Int) → ((((List Int) × ((List Int) × (Int × Unit))) × Unit) → (List Int) → Option R) → Option R
def le158_2 (L : LT158_2) : LEnt := ⟨2, [.fix 2 (.ptr 1 [] (.arr 32 (.int .u8))), .val 10 (.arr 8 (.int .u32)), .val 11 (.int .i64), .var 0 (.pair (.pair (.arr 8 (.int .u32)) (.pair (.sl (.int .u8)) (.pair (.int .u64) .unit))) .unit) false, .var 1 (.arr 32 (.int .u8)) false], 2, [(.exit 0, [.fix 2 (.ptr 1 [] (.arr 32 (.int .u8))), .var 0 (.pair (.pair (.arr 8 (.int .u32)) (.pair (.sl (.int .u8)) (.pair (.int .u64) .unit))) .unit) false, .var 1 (.arr 32 (.int .u8)) false])], fun R x ke => L R x.1 x.2.1 x.2.2.1 x.2.2.2.1 (fun y1 y2 => ke.1 (y1, y2, ()))⟩
def e158 (F169 : FT169) (L2 : LT158_2) (R : Type) : Env R := ⟨TT, EQT, 1, 24, ownOf [], callOf [en169 F169] R, loopOf [le158_2 L2] R, []⟩
def p158_2 (F169 : FT169) : (R : Type) → (List Int) → Int → (((List Int) × ((List Int) × (Int × Unit))) × Unit) → (List Int) → ((List Int) → Int → (((List Int) × ((List Int) × (Int × Unit))) × Unit) → (List Int) → Option R) → ((((List Int) × ((List Int) × (Int × Unit))) × Unit) → (List Int) → Option R) → Option R := fun R x1 x2 x3 x4 kc k0 =>
let v5 : Bool := (decide (x2 < (8 : Int)));
(match v5 with
| true => (match (bnd x2 (8 : Int)) with
| true => let v6 : Int := (List.getD x1 (Int.toNat x2) (0 : Int));
F169 R v6 fun y7 =>
let v8 : Int := (IntKind.i64.wrap ((4 : Int) * x2));
(match (decide (0 ≤ v8 ∧ v8 ≤ (32 : Int) ∧ (32 : Int) ≤ (32 : Int))) with
| true => let v9 : (List Int) := (lay x4 (Int.toNat v8) (List.take (Int.toNat ((32 : Int) - v8)) (List.take 4 (List.drop 0 y7))));
let v10 : Int := (IntKind.i64.wrap (x2 + (1 : Int)));
kc x1 v10 x3 v9
| false => none)
| false => none)
| false => k0 x3 x4)
theorem q158_2 (F169 : FT169) (L2 : LT158_2) (R : Type) (x : HT (le158_2 L2).H) (kc : HT (le158_2 L2).H → Option R) (ke : KT R (le158_2 L2).exs) :
  exec (e158 F169 L2 R) (lcode 2 (codeOf Try.f158)) (stOf (le158_2 L2).H x 2) (roundK (le158_2 L2).H (le158_2 L2).exs kc ke) =
    p158_2 F169 R x.1 x.2.1 x.2.2.1 x.2.2.2.1 (fun x1 x2 x3 x4 => kc (x1, x2, x3, x4, ())) (fun y1 y2 => ke.1 (y1, y2, ())) := by kernel_rfl
noncomputable def G158_2 : Nat → LT158_2
  | 0 => fun _ _ _ _ _ _ => none
  | n + 1 => fun R x1 x2 x3 x4 k0 => p158_2 F169 R x1 x2 x3 x4 (fun x1 x2 x3 x4 => G158_2 n R x1 x2 x3 x4 k0) k0
def p158 (L2 : LT158_2) : FT158 := fun R a0 k =>
L2 R a0.1.1 (0 : Int) a0 (List.replicate 32 (0 : Int)) (fun x1 x2 =>
k x2 x1)
theorem q158 (F169 : FT169) (L2 : LT158_2) (F : FT158) (R : Type) (x : AT (en158 F).ins) (k : RT (en158 F).outs → PT (en158 F).ins → Option R) :
  xfun (e158 F169 L2 R) (codeOf Try.f158) res158 (avs (en158 F).ins x) (finK (en158 F).outs (en158 F).ins k) = p158 L2 R x.1 (fun y1 p1 => k (y1, ()) (p1, ())) := by kernel_rfl
noncomputable def F158 : FT158 := p158 (G158_2 FUEL)
theorem env158 (R : Type) : EnvOK Try.prog (e158 F169 (G158_2 FUEL) R) := ⟨tabOK, eqOK, callOf_ok (allE_cons ok169 allE_nil), noIns⟩
noncomputable def T158_2 : (R : Type) → HT (le158_2 (G158_2 FUEL)).H → (HT (le158_2 (G158_2 FUEL)).H → Option R) → KT R (le158_2 (G158_2 FUEL)).exs → Option R := fun R x kc ke => p158_2 F169 R x.1 x.2.1 x.2.2.1 x.2.2.2.1 (fun x1 x2 x3 x4 => kc (x1, x2, x3, x4, ())) (fun y1 y2 => ke.1 (y1, y2, ()))
theorem it158_2 : ∀ (n : Nat) (R : Type) (x : HT (le158_2 (G158_2 FUEL)).H) (ke : KT R (le158_2 (G158_2 FUEL)).exs), iter T158_2 n R x ke = G158_2 n R x.1 x.2.1 x.2.2.1 x.2.2.2.1 (fun y1 y2 => ke.1 (y1, y2, ())) := by
  intro n
  induction n with
  | zero => intro R x ke; rfl
  | succ n ih =>
    intro R x ke
    show T158_2 R x (fun x' => iter T158_2 n R x' ke) ke = _
    rw [show (fun x' => iter T158_2 n R x' ke) = fun x => G158_2 n R x.1 x.2.1 x.2.2.1 x.2.2.2.1 (fun y1 y2 => ke.1 (y1, y2, ())) from funext fun x' => ih R x' ke]
    rfl
theorem lok158_2 : (le158_2 (G158_2 FUEL)).OK Try.prog 1 24 (lcode 2 (codeOf Try.f158)) := fun R x ke r h =>
  iter_sound (fun R => e158 F169 (G158_2 FUEL) R) 1 24 (fun _ => rfl) (fun _ => rfl) (fun R => env158 R) mixed (by
    intro R
    rw [show loopsOf (lcode 2 (codeOf Try.f158)) = [] from by kernel_rfl]
    exact allM_nil) (T := T158_2) (fun R x kc ke => q158_2 F169 (G158_2 FUEL) R x kc ke) FUEL R x ke r ((it158_2 FUEL R x ke).trans h)
theorem ok158 : (en158 F158).OK Try.prog :=
  ent_ok (Ef := fun R => e158 F169 (G158_2 FUEL) R) (fun R => env158 R) mixed Try.func158 (body := codeOf Try.f158) (by kernel_rfl) (by kernel_rfl) (np := 1) (nt := 24) (fun _ => rfl) (fun _ => rfl) (by kernel_rfl) (res := res158) (by kernel_rfl) (fun _ => rfl) (fun _ => Nat.le_of_ble_eq_true rfl) (by
    intro R
    rw [show loopsOf (codeOf Try.f158) = [lcode 2 (codeOf Try.f158)] from by kernel_rfl]
    exact (allM_cons (loop_ok2 (e := le158_2 (G158_2 FUEL)) rfl rfl lok158_2) allM_nil)) (fun R x k => q158 F169 (G158_2 FUEL) F158 R x k)
/-! drawlot/sha.Finish -/
abbrev FT143 : Type 1 := (R : Type) → ((List Int) × ((List Int) × (Int × Unit))) → ((List Int) → Int → Option R) → Option R
def en143 (F : FT143) : Ent := ⟨143, [(false, (.pair (.arr 8 (.int .u32)) (.pair (.sl (.int .u8)) (.pair (.int .u64) .unit))))], [(false, (.arr 32 (.int .u8))), (false, (.int .i64))], fun R x k => F R x.1 (fun y1 y2 => k (y1, y2, ()) ())⟩
def res143 : List (ResultVar × TypeId × Bool) := [(.cell 2 26, 26, false), (.tmp 3, 31, false)]
def e143 (F156 : FT156) (F157 : FT157) (F158 : FT158) (R : Type) : Env R := ⟨TT, EQT, 0, 23, ownOf [], callOf [en156 F156, en157 F157, en158 F158] R, loopOf [] R, []⟩
def p143 (F156 : FT156) (F157 : FT157) (F158 : FT158) : FT143 := fun R a0 k =>
F156 R a0.2.1 a0.2.2.1 fun y1 y2 =>
(match (!y2) with
| true => let v3 : (List Int) := (List.replicate 32 (0 : Int));
k v3 (1 : Int)
| false => F157 R (a0, ()) y1 fun y4 p5 =>
F158 R p5 fun y6 p7 =>
k y6 (0 : Int))
theorem q143 (F156 : FT156) (F157 : FT157) (F158 : FT158) (F : FT143) (R : Type) (x : AT (en143 F).ins) (k : RT (en143 F).outs → PT (en143 F).ins → Option R) :
  xfun (e143 F156 F157 F158 R) (codeOf Try.f143) res143 (avs (en143 F).ins x) (finK (en143 F).outs (en143 F).ins k) = p143 F156 F157 F158 R x.1 (fun y1 y2 => k (y1, y2, ()) ()) := by kernel_rfl
noncomputable def F143 : FT143 := p143 F156 F157 F158
theorem env143 (R : Type) : EnvOK Try.prog (e143 F156 F157 F158 R) := ⟨tabOK, eqOK, callOf_ok (allE_cons ok156 (allE_cons ok157 (allE_cons ok158 allE_nil))), noIns⟩
theorem ok143 : (en143 F143).OK Try.prog :=
  ent_ok (Ef := fun R => e143 F156 F157 F158 R) (fun R => env143 R) mixed Try.func143 (body := codeOf Try.f143) (by kernel_rfl) (by kernel_rfl) (np := 0) (nt := 23) (fun _ => rfl) (fun _ => rfl) (by kernel_rfl) (res := res143) (by kernel_rfl) (fun _ => rfl) (fun _ => Nat.le_of_ble_eq_true rfl) (by
    intro R
    rw [show loopsOf (codeOf Try.f143) = [] from by kernel_rfl]
    exact allM_nil) (fun R x k => q143 F156 F157 F158 F143 R x k)
end Go.PG
