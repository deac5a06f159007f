/- A part of the proofs over this seat (own work; the framework that reads a Go function as a pure one, or a use of it). No condition of its own. -/
import Derived.Test.YtckdjafnemoloaaM2
import Derived.Test.YtckdjafnemoloaaProg
import Derived.KernelRfl
set_option linter.unusedVariables false
set_option linter.unusedSimpArgs false
set_option maxRecDepth 100000
namespace Go.PG
open Go.Proofs
def TT : Tab := [
  (3, ⟨.int .i64, 1, 8, some (.int .i64)⟩),
  (4, ⟨.bool, 1, 1, some .bool⟩),
  (5, ⟨.int .u8, 1, 1, some (.int .u8)⟩),
  (9, ⟨.string, 1, 16, some .str⟩),
  (23, ⟨.struct #[{ name := "Slots", type := 3, offset := 0, embedded := false, tag := "", pkgPath := "", byteOffset := 0 }, { name := "Commit", type := 3, offset := 1, embedded := false, tag := "", pkgPath := "", byteOffset := 8 }, { name := "Reveal", type := 3, offset := 2, embedded := false, tag := "", pkgPath := "", byteOffset := 16 }, { name := "Attempts", type := 3, offset := 3, embedded := false, tag := "", pkgPath := "", byteOffset := 24 }, { name := "Most", type := 3, offset := 4, embedded := false, tag := "", pkgPath := "", byteOffset := 32 }], 5, 40, some (.pair (.int .i64) (.pair (.int .i64) (.pair (.int .i64) (.pair (.int .i64) (.pair (.int .i64) .unit)))))⟩),
  (30, ⟨.array 4 3, 4, 32, some (.arr 4 (.int .i64))⟩),
  (32, ⟨.slice 34, 1, 24, some (.sl (.arr 32 (.int .u8)))⟩),
  (34, ⟨.array 32 5, 32, 32, some (.arr 32 (.int .u8))⟩),
  (38, ⟨.int .u64, 1, 8, some (.int .u64)⟩),
  (46, ⟨.slice 5, 1, 24, some (.sl (.int .u8))⟩),
  (49, ⟨.int .u32, 1, 4, some (.int .u32)⟩),
  (50, ⟨.array 2 49, 2, 8, some (.arr 2 (.int .u32))⟩),
  (55, ⟨.int .u16, 1, 2, some (.int .u16)⟩),
  (59, ⟨.struct #[{ name := "Kind", type := 3, offset := 0, embedded := false, tag := "", pkgPath := "", byteOffset := 0 }, { name := "Tape", type := 46, offset := 1, embedded := false, tag := "", pkgPath := "", byteOffset := 8 }, { name := "Bits", type := 38, offset := 2, embedded := false, tag := "", pkgPath := "", byteOffset := 32 }, { name := "Seed", type := 34, offset := 3, embedded := false, tag := "", pkgPath := "", byteOffset := 40 }, { name := "Domain", type := 38, offset := 35, embedded := false, tag := "", pkgPath := "", byteOffset := 72 }, { name := "At", type := 38, offset := 36, embedded := false, tag := "", pkgPath := "", byteOffset := 80 }], 37, 88, some (.pair (.int .i64) (.pair (.sl (.int .u8)) (.pair (.int .u64) (.pair (.arr 32 (.int .u8)) (.pair (.int .u64) (.pair (.int .u64) .unit))))))⟩),
  (61, ⟨.int .i64, 1, 8, some (.int .i64)⟩),
  (76, ⟨.array 16 38, 16, 128, some (.arr 16 (.int .u64))⟩),
  (84, ⟨.array 8 5, 8, 8, some (.arr 8 (.int .u8))⟩),
  (88, ⟨.int .u64, 1, 8, some (.int .u64)⟩),
  (92, ⟨.struct #[{ name := "Source", type := 59, offset := 0, embedded := true, tag := "", pkgPath := "", byteOffset := 0 }, { name := "block", type := 34, offset := 37, embedded := false, tag := "", pkgPath := "drawlot/tape", byteOffset := 88 }, { name := "at", type := 38, offset := 69, embedded := false, tag := "", pkgPath := "drawlot/tape", byteOffset := 120 }, { name := "some", type := 4, offset := 70, embedded := false, tag := "", pkgPath := "drawlot/tape", byteOffset := 128 }], 71, 136, some (.pair (.pair (.int .i64) (.pair (.sl (.int .u8)) (.pair (.int .u64) (.pair (.arr 32 (.int .u8)) (.pair (.int .u64) (.pair (.int .u64) .unit)))))) (.pair (.arr 32 (.int .u8)) (.pair (.int .u64) (.pair .bool .unit))))⟩),
  (99, ⟨.slice 116, 1, 24, some (.sl (.arr 64 (.int .u8)))⟩),
  (104, ⟨.array 8 49, 8, 32, some (.arr 8 (.int .u32))⟩),
  (107, ⟨.slice 46, 1, 24, some (.sl (.sl (.int .u8)))⟩),
  (109, ⟨.struct #[{ name := "State", type := 104, offset := 0, embedded := false, tag := "", pkgPath := "", byteOffset := 0 }, { name := "Rest", type := 46, offset := 8, embedded := false, tag := "", pkgPath := "", byteOffset := 32 }, { name := "Bytes", type := 38, offset := 9, embedded := false, tag := "", pkgPath := "", byteOffset := 56 }], 10, 64, some (.pair (.arr 8 (.int .u32)) (.pair (.sl (.int .u8)) (.pair (.int .u64) .unit)))⟩),
  (116, ⟨.array 64 5, 64, 64, some (.arr 64 (.int .u8))⟩),
  (119, ⟨.array 4 5, 4, 4, some (.arr 4 (.int .u8))⟩),
  (124, ⟨.struct #[{ name := "Writer", type := 109, offset := 0, embedded := true, tag := "", pkgPath := "", byteOffset := 0 }], 10, 64, some (.pair (.pair (.arr 8 (.int .u32)) (.pair (.sl (.int .u8)) (.pair (.int .u64) .unit))) .unit)⟩),
  (127, ⟨.array 64 49, 64, 256, some (.arr 64 (.int .u32))⟩),
  (128, ⟨.array 64 49, 64, 256, some (.arr 64 (.int .u32))⟩),
  (138, ⟨.slice 49, 1, 24, some (.sl (.int .u32))⟩)]
def EQT : List Nat := [34, 50]
theorem ty3 : TyOK Try.prog TT 3 ⟨.int .i64, 1, 8, some (.int .i64)⟩ := tyOK_of Try.underlying3 (by kernel_rfl)
theorem ty4 : TyOK Try.prog TT 4 ⟨.bool, 1, 1, some .bool⟩ := tyOK_of Try.underlying4 (by kernel_rfl)
theorem ty5 : TyOK Try.prog TT 5 ⟨.int .u8, 1, 1, some (.int .u8)⟩ := tyOK_of Try.underlying5 (by kernel_rfl)
theorem ty9 : TyOK Try.prog TT 9 ⟨.string, 1, 16, some .str⟩ := tyOK_of Try.underlying9 (by kernel_rfl)
theorem ty23 : TyOK Try.prog TT 23 ⟨.struct #[{ name := "Slots", type := 3, offset := 0, embedded := false, tag := "", pkgPath := "", byteOffset := 0 }, { name := "Commit", type := 3, offset := 1, embedded := false, tag := "", pkgPath := "", byteOffset := 8 }, { name := "Reveal", type := 3, offset := 2, embedded := false, tag := "", pkgPath := "", byteOffset := 16 }, { name := "Attempts", type := 3, offset := 3, embedded := false, tag := "", pkgPath := "", byteOffset := 24 }, { name := "Most", type := 3, offset := 4, embedded := false, tag := "", pkgPath := "", byteOffset := 32 }], 5, 40, some (.pair (.int .i64) (.pair (.int .i64) (.pair (.int .i64) (.pair (.int .i64) (.pair (.int .i64) .unit)))))⟩ := tyOK_of Try.underlying23 (by kernel_rfl)
theorem ty30 : TyOK Try.prog TT 30 ⟨.array 4 3, 4, 32, some (.arr 4 (.int .i64))⟩ := tyOK_of Try.underlying30 (by kernel_rfl)
theorem ty32 : TyOK Try.prog TT 32 ⟨.slice 34, 1, 24, some (.sl (.arr 32 (.int .u8)))⟩ := tyOK_of Try.underlying32 (by kernel_rfl)
theorem ty34 : TyOK Try.prog TT 34 ⟨.array 32 5, 32, 32, some (.arr 32 (.int .u8))⟩ := tyOK_of Try.underlying34 (by kernel_rfl)
theorem ty38 : TyOK Try.prog TT 38 ⟨.int .u64, 1, 8, some (.int .u64)⟩ := tyOK_of Try.underlying38 (by kernel_rfl)
theorem ty46 : TyOK Try.prog TT 46 ⟨.slice 5, 1, 24, some (.sl (.int .u8))⟩ := tyOK_of Try.underlying46 (by kernel_rfl)
theorem ty49 : TyOK Try.prog TT 49 ⟨.int .u32, 1, 4, some (.int .u32)⟩ := tyOK_of Try.underlying49 (by kernel_rfl)
theorem ty50 : TyOK Try.prog TT 50 ⟨.array 2 49, 2, 8, some (.arr 2 (.int .u32))⟩ := tyOK_of Try.underlying50 (by kernel_rfl)
theorem ty55 : TyOK Try.prog TT 55 ⟨.int .u16, 1, 2, some (.int .u16)⟩ := tyOK_of Try.underlying55 (by kernel_rfl)
theorem ty59 : TyOK Try.prog TT 59 ⟨.struct #[{ name := "Kind", type := 3, offset := 0, embedded := false, tag := "", pkgPath := "", byteOffset := 0 }, { name := "Tape", type := 46, offset := 1, embedded := false, tag := "", pkgPath := "", byteOffset := 8 }, { name := "Bits", type := 38, offset := 2, embedded := false, tag := "", pkgPath := "", byteOffset := 32 }, { name := "Seed", type := 34, offset := 3, embedded := false, tag := "", pkgPath := "", byteOffset := 40 }, { name := "Domain", type := 38, offset := 35, embedded := false, tag := "", pkgPath := "", byteOffset := 72 }, { name := "At", type := 38, offset := 36, embedded := false, tag := "", pkgPath := "", byteOffset := 80 }], 37, 88, some (.pair (.int .i64) (.pair (.sl (.int .u8)) (.pair (.int .u64) (.pair (.arr 32 (.int .u8)) (.pair (.int .u64) (.pair (.int .u64) .unit))))))⟩ := tyOK_of Try.underlying59 (by kernel_rfl)
theorem ty61 : TyOK Try.prog TT 61 ⟨.int .i64, 1, 8, some (.int .i64)⟩ := tyOK_of Try.underlying61 (by kernel_rfl)
theorem ty76 : TyOK Try.prog TT 76 ⟨.array 16 38, 16, 128, some (.arr 16 (.int .u64))⟩ := tyOK_of Try.underlying76 (by kernel_rfl)
theorem ty84 : TyOK Try.prog TT 84 ⟨.array 8 5, 8, 8, some (.arr 8 (.int .u8))⟩ := tyOK_of Try.underlying84 (by kernel_rfl)
theorem ty88 : TyOK Try.prog TT 88 ⟨.int .u64, 1, 8, some (.int .u64)⟩ := tyOK_of Try.underlying88 (by kernel_rfl)
theorem ty92 : TyOK Try.prog TT 92 ⟨.struct #[{ name := "Source", type := 59, offset := 0, embedded := true, tag := "", pkgPath := "", byteOffset := 0 }, { name := "block", type := 34, offset := 37, embedded := false, tag := "", pkgPath := "drawlot/tape", byteOffset := 88 }, { name := "at", type := 38, offset := 69, embedded := false, tag := "", pkgPath := "drawlot/tape", byteOffset := 120 }, { name := "some", type := 4, offset := 70, embedded := false, tag := "", pkgPath := "drawlot/tape", byteOffset := 128 }], 71, 136, some (.pair (.pair (.int .i64) (.pair (.sl (.int .u8)) (.pair (.int .u64) (.pair (.arr 32 (.int .u8)) (.pair (.int .u64) (.pair (.int .u64) .unit)))))) (.pair (.arr 32 (.int .u8)) (.pair (.int .u64) (.pair .bool .unit))))⟩ := tyOK_of Try.underlying92 (by kernel_rfl)
theorem ty99 : TyOK Try.prog TT 99 ⟨.slice 116, 1, 24, some (.sl (.arr 64 (.int .u8)))⟩ := tyOK_of Try.underlying99 (by kernel_rfl)
theorem ty104 : TyOK Try.prog TT 104 ⟨.array 8 49, 8, 32, some (.arr 8 (.int .u32))⟩ := tyOK_of Try.underlying104 (by kernel_rfl)
theorem ty107 : TyOK Try.prog TT 107 ⟨.slice 46, 1, 24, some (.sl (.sl (.int .u8)))⟩ := tyOK_of Try.underlying107 (by kernel_rfl)
theorem ty109 : TyOK Try.prog TT 109 ⟨.struct #[{ name := "State", type := 104, offset := 0, embedded := false, tag := "", pkgPath := "", byteOffset := 0 }, { name := "Rest", type := 46, offset := 8, embedded := false, tag := "", pkgPath := "", byteOffset := 32 }, { name := "Bytes", type := 38, offset := 9, embedded := false, tag := "", pkgPath := "", byteOffset := 56 }], 10, 64, some (.pair (.arr 8 (.int .u32)) (.pair (.sl (.int .u8)) (.pair (.int .u64) .unit)))⟩ := tyOK_of Try.underlying109 (by kernel_rfl)
theorem ty116 : TyOK Try.prog TT 116 ⟨.array 64 5, 64, 64, some (.arr 64 (.int .u8))⟩ := tyOK_of Try.underlying116 (by kernel_rfl)
theorem ty119 : TyOK Try.prog TT 119 ⟨.array 4 5, 4, 4, some (.arr 4 (.int .u8))⟩ := tyOK_of Try.underlying119 (by kernel_rfl)
theorem ty124 : TyOK Try.prog TT 124 ⟨.struct #[{ name := "Writer", type := 109, offset := 0, embedded := true, tag := "", pkgPath := "", byteOffset := 0 }], 10, 64, some (.pair (.pair (.arr 8 (.int .u32)) (.pair (.sl (.int .u8)) (.pair (.int .u64) .unit))) .unit)⟩ := tyOK_of Try.underlying124 (by kernel_rfl)
theorem ty127 : TyOK Try.prog TT 127 ⟨.array 64 49, 64, 256, some (.arr 64 (.int .u32))⟩ := tyOK_of Try.underlying127 (by kernel_rfl)
theorem ty128 : TyOK Try.prog TT 128 ⟨.array 64 49, 64, 256, some (.arr 64 (.int .u32))⟩ := tyOK_of Try.underlying128 (by kernel_rfl)
theorem ty138 : TyOK Try.prog TT 138 ⟨.slice 49, 1, 24, some (.sl (.int .u32))⟩ := tyOK_of Try.underlying138 (by kernel_rfl)
theorem tabOK : TabOK Try.prog TT := tabOK_of (allM_cons ty3 (allM_cons ty4 (allM_cons ty5 (allM_cons ty9 (allM_cons ty23 (allM_cons ty30 (allM_cons ty32 (allM_cons ty34 (allM_cons ty38 (allM_cons ty46 (allM_cons ty49 (allM_cons ty50 (allM_cons ty55 (allM_cons ty59 (allM_cons ty61 (allM_cons ty76 (allM_cons ty84 (allM_cons ty88 (allM_cons ty92 (allM_cons ty99 (allM_cons ty104 (allM_cons ty107 (allM_cons ty109 (allM_cons ty116 (allM_cons ty119 (allM_cons ty124 (allM_cons ty127 (allM_cons ty128 (allM_cons ty138 allM_nil)))))))))))))))))))))))))))))
theorem eqOK : ∀ t ∈ EQT, ∀ k, tkd TT t = some k → EqOK Try.prog t k := (allM_cons (fun k h => by
    have h' : some ((.arr 32 (.int .u8)) : Kd) = some k := h
    cases h'
    exact eqOK_of tabOK (k := (.arr 32 (.int .u8))) rfl (by kernel_rfl) (by kernel_rfl) (by decide)) (allM_cons (fun k h => by
    have h' : some ((.arr 2 (.int .u32)) : Kd) = some k := h
    cases h'
    exact eqOK_of tabOK (k := (.arr 2 (.int .u32))) rfl (by kernel_rfl) (by kernel_rfl) (by decide)) allM_nil))
theorem mixed : Try.prog.follows .mixedOrders = true := by kernel_rfl
/-! drawlot/mix.Xor -/
abbrev FT31 : Type 1 := (R : Type) → (List (List Int)) → ((List Int) → Option R) → Option R
def en31 (F : FT31) : Ent := ⟨31, [(false, (.sl (.arr 32 (.int .u8))))], [(false, (.arr 32 (.int .u8)))], fun R x k => F R x.1 (fun y1 => k (y1, ()) ())⟩
def res31 : List (ResultVar × TypeId × Bool) := [(.cell 2 34, 34, false)]
abbrev LT31_2 : Type 1 := (R : Type) → (List (List Int)) → Int → Int → (List Int) → ((List Int) → Option R) → Option R
def le31_2 (L : LT31_2) : LEnt := ⟨2, [.fix 2 (.ptr 0 [] (.arr 32 (.int .u8))), .val 7 (.sl (.arr 32 (.int .u8))), .val 8 (.int .i64), .val 9 (.int .i64), .var 0 (.arr 32 (.int .u8)) false], 1, [(.exit 0, [.fix 2 (.ptr 0 [] (.arr 32 (.int .u8))), .var 0 (.arr 32 (.int .u8)) false])], fun R x ke => L R x.1 x.2.1 x.2.2.1 x.2.2.2.1 (fun y1 => ke.1 (y1, ()))⟩
abbrev LT31_5 : Type 1 := (R : Type) → (List (List Int)) → Int → Int → (List Int) → Int → (List Int) → ((List (List Int)) → Int → Int → (List Int) → Option R) → Option R
def le31_5 (L : LT31_5) : LEnt := ⟨5, [.fix 2 (.ptr 0 [] (.arr 32 (.int .u8))), .val 7 (.sl (.arr 32 (.int .u8))), .val 8 (.int .i64), .val 9 (.int .i64), .val 13 (.arr 32 (.int .u8)), .val 14 (.int .i64), .var 0 (.arr 32 (.int .u8)) false], 1, [(.exit 2, [.fix 2 (.ptr 0 [] (.arr 32 (.int .u8))), .val 7 (.sl (.arr 32 (.int .u8))), .val 8 (.int .i64), .val 9 (.int .i64), .var 0 (.arr 32 (.int .u8)) false])], fun R x ke => L R x.1 x.2.1 x.2.2.1 x.2.2.2.1 x.2.2.2.2.1 x.2.2.2.2.2.1 (fun y1 y2 y3 y4 => ke.1 (y1, y2, y3, y4, ()))⟩
def e31 (L2 : LT31_2) (L5 : LT31_5) (R : Type) : Env R := ⟨TT, EQT, 0, 27, ownOf [], callOf [] R, loopOf [le31_2 L2, le31_5 L5] R⟩
def p31_5 : (R : Type) → (List (List Int)) → Int → Int → (List Int) → Int → (List Int) → ((List (List Int)) → Int → Int → (List Int) → Int → (List Int) → Option R) → ((List (List Int)) → Int → Int → (List Int) → Option R) → Option R := fun R x1 x2 x3 x4 x5 x6 kc k0 =>
let v7 : Bool := (decide (x5 < (32 : Int)));
(match v7 with
| true => (match (bnd x5 (32 : Int)) with
| true => let v8 : Int := (List.getD x4 (Int.toNat x5) (0 : Int));
(match (bnd x5 (32 : Int)) with
| true => let v9 : Int := (List.getD x6 (Int.toNat x5) (0 : Int));
let v10 : Int := (ixor .u8 v9 v8);
(match (bnd x5 (32 : Int)) with
| true => let v11 : (List Int) := (List.set x6 (Int.toNat x5) v10);
let v12 : Int := (IntKind.i64.wrap (x5 + (1 : Int)));
kc x1 x2 x3 x4 v12 v11
| false => none)
| false => none)
| false => none)
| false => k0 x1 x2 x3 x6)
theorem q31_5 (L2 : LT31_2) (L5 : LT31_5) (R : Type) (x : HT (le31_5 L5).H) (kc : HT (le31_5 L5).H → Option R) (ke : KT R (le31_5 L5).exs) :
  exec (e31 L2 L5 R) (lcode 5 (codeOf Try.f31)) (stOf (le31_5 L5).H x 1) (roundK (le31_5 L5).H (le31_5 L5).exs kc ke) =
    p31_5 R x.1 x.2.1 x.2.2.1 x.2.2.2.1 x.2.2.2.2.1 x.2.2.2.2.2.1 (fun x1 x2 x3 x4 x5 x6 => kc (x1, x2, x3, x4, x5, x6, ())) (fun y1 y2 y3 y4 => ke.1 (y1, y2, y3, y4, ())) := by kernel_rfl
noncomputable def G31_5 : Nat → LT31_5
  | 0 => fun _ _ _ _ _ _ _ _ => none
  | n + 1 => fun R x1 x2 x3 x4 x5 x6 k0 => p31_5 R x1 x2 x3 x4 x5 x6 (fun x1 x2 x3 x4 x5 x6 => G31_5 n R x1 x2 x3 x4 x5 x6 k0) k0
def p31_2 (L5 : LT31_5) : (R : Type) → (List (List Int)) → Int → Int → (List Int) → ((List (List Int)) → Int → Int → (List Int) → Option R) → ((List Int) → Option R) → Option R := fun R x1 x2 x3 x4 kc k0 =>
let v5 : Bool := (decide (x3 < x2));
(match v5 with
| true => (match (bnd x3 (List.length x1 : Int)) with
| true => let v6 : (List Int) := (List.getD x1 (Int.toNat x3) (List.replicate 32 (0 : Int)));
L5 R x1 x2 x3 v6 (0 : Int) x4 (fun x7 x8 x9 x10 =>
let v11 : Int := (IntKind.i64.wrap (x9 + (1 : Int)));
kc x7 x8 v11 x10)
| false => none)
| false => k0 x4)
theorem q31_2 (L2 : LT31_2) (L5 : LT31_5) (R : Type) (x : HT (le31_2 L2).H) (kc : HT (le31_2 L2).H → Option R) (ke : KT R (le31_2 L2).exs) :
  exec (e31 L2 L5 R) (lcode 2 (codeOf Try.f31)) (stOf (le31_2 L2).H x 1) (roundK (le31_2 L2).H (le31_2 L2).exs kc ke) =
    p31_2 L5 R x.1 x.2.1 x.2.2.1 x.2.2.2.1 (fun x1 x2 x3 x4 => kc (x1, x2, x3, x4, ())) (fun y1 => ke.1 (y1, ())) := by kernel_rfl
noncomputable def G31_2 : Nat → LT31_2
  | 0 => fun _ _ _ _ _ _ => none
  | n + 1 => fun R x1 x2 x3 x4 k0 => p31_2 (G31_5 FUEL) R x1 x2 x3 x4 (fun x1 x2 x3 x4 => G31_2 n R x1 x2 x3 x4 k0) k0
def p31 (L2 : LT31_2) : FT31 := fun R a0 k =>
let v1 : Int := (List.length a0 : Int);
L2 R a0 v1 (0 : Int) (List.replicate 32 (0 : Int)) (fun x2 =>
k x2)
theorem q31 (L2 : LT31_2) (L5 : LT31_5) (F : FT31) (R : Type) (x : AT (en31 F).ins) (k : RT (en31 F).outs → PT (en31 F).ins → Option R) :
  xfun (e31 L2 L5 R) (codeOf Try.f31) res31 (avs (en31 F).ins x) (finK (en31 F).outs (en31 F).ins k) = p31 L2 R x.1 (fun y1 => k (y1, ()) ()) := by kernel_rfl
noncomputable def F31 : FT31 := p31 (G31_2 FUEL)
theorem env31 (R : Type) : EnvOK Try.prog (e31 (G31_2 FUEL) (G31_5 FUEL) R) := ⟨tabOK, eqOK, callOf_ok allE_nil⟩
noncomputable def T31_5 : (R : Type) → HT (le31_5 (G31_5 FUEL)).H → (HT (le31_5 (G31_5 FUEL)).H → Option R) → KT R (le31_5 (G31_5 FUEL)).exs → Option R := fun R x kc ke => p31_5 R x.1 x.2.1 x.2.2.1 x.2.2.2.1 x.2.2.2.2.1 x.2.2.2.2.2.1 (fun x1 x2 x3 x4 x5 x6 => kc (x1, x2, x3, x4, x5, x6, ())) (fun y1 y2 y3 y4 => ke.1 (y1, y2, y3, y4, ()))
theorem it31_5 : ∀ (n : Nat) (R : Type) (x : HT (le31_5 (G31_5 FUEL)).H) (ke : KT R (le31_5 (G31_5 FUEL)).exs), iter T31_5 n R x ke = G31_5 n R x.1 x.2.1 x.2.2.1 x.2.2.2.1 x.2.2.2.2.1 x.2.2.2.2.2.1 (fun y1 y2 y3 y4 => ke.1 (y1, y2, y3, y4, ())) := by
  intro n
  induction n with
  | zero => intro R x ke; rfl
  | succ n ih =>
    intro R x ke
    show T31_5 R x (fun x' => iter T31_5 n R x' ke) ke = _
    rw [show (fun x' => iter T31_5 n R x' ke) = fun x => G31_5 n R x.1 x.2.1 x.2.2.1 x.2.2.2.1 x.2.2.2.2.1 x.2.2.2.2.2.1 (fun y1 y2 y3 y4 => ke.1 (y1, y2, y3, y4, ())) from funext fun x' => ih R x' ke]
    rfl
theorem lok31_5 : (le31_5 (G31_5 FUEL)).OK Try.prog 0 27 (lcode 5 (codeOf Try.f31)) := fun R x ke r h =>
  iter_sound (fun R => e31 (G31_2 FUEL) (G31_5 FUEL) R) 0 27 (fun _ => rfl) (fun _ => rfl) (fun R => env31 R) mixed (by
    intro R
    rw [show loopsOf (lcode 5 (codeOf Try.f31)) = [] from by kernel_rfl]
    exact allM_nil) (T := T31_5) (fun R x kc ke => q31_5 (G31_2 FUEL) (G31_5 FUEL) R x kc ke) FUEL R x ke r ((it31_5 FUEL R x ke).trans h)
noncomputable def T31_2 : (R : Type) → HT (le31_2 (G31_2 FUEL)).H → (HT (le31_2 (G31_2 FUEL)).H → Option R) → KT R (le31_2 (G31_2 FUEL)).exs → Option R := fun R x kc ke => p31_2 (G31_5 FUEL) R x.1 x.2.1 x.2.2.1 x.2.2.2.1 (fun x1 x2 x3 x4 => kc (x1, x2, x3, x4, ())) (fun y1 => ke.1 (y1, ()))
theorem it31_2 : ∀ (n : Nat) (R : Type) (x : HT (le31_2 (G31_2 FUEL)).H) (ke : KT R (le31_2 (G31_2 FUEL)).exs), iter T31_2 n R x ke = G31_2 n R x.1 x.2.1 x.2.2.1 x.2.2.2.1 (fun y1 => ke.1 (y1, ())) := by
  intro n
  induction n with
  | zero => intro R x ke; rfl
  | succ n ih =>
    intro R x ke
    show T31_2 R x (fun x' => iter T31_2 n R x' ke) ke = _
    rw [show (fun x' => iter T31_2 n R x' ke) = fun x => G31_2 n R x.1 x.2.1 x.2.2.1 x.2.2.2.1 (fun y1 => ke.1 (y1, ())) from funext fun x' => ih R x' ke]
    rfl
theorem lok31_2 : (le31_2 (G31_2 FUEL)).OK Try.prog 0 27 (lcode 2 (codeOf Try.f31)) := fun R x ke r h =>
  iter_sound (fun R => e31 (G31_2 FUEL) (G31_5 FUEL) R) 0 27 (fun _ => rfl) (fun _ => rfl) (fun R => env31 R) mixed (by
    intro R
    rw [show loopsOf (lcode 2 (codeOf Try.f31)) = [lcode 5 (codeOf Try.f31)] from by kernel_rfl]
    exact (allM_cons (loop_ok2 (e := le31_5 (G31_5 FUEL)) rfl rfl lok31_5) allM_nil)) (T := T31_2) (fun R x kc ke => q31_2 (G31_2 FUEL) (G31_5 FUEL) R x kc ke) FUEL R x ke r ((it31_2 FUEL R x ke).trans h)
theorem ok31 : (en31 F31).OK Try.prog :=
  ent_ok (Ef := fun R => e31 (G31_2 FUEL) (G31_5 FUEL) R) (fun R => env31 R) mixed Try.func31 (body := codeOf Try.f31) (by kernel_rfl) (by kernel_rfl) (np := 0) (nt := 27) (fun _ => rfl) (fun _ => rfl) (by kernel_rfl) (res := res31) (by kernel_rfl) (fun _ => rfl) (fun _ => Nat.le_of_ble_eq_true rfl) (by
    intro R
    rw [show loopsOf (codeOf Try.f31) = [lcode 2 (codeOf Try.f31)] from by kernel_rfl]
    exact (allM_cons (loop_ok2 (e := le31_2 (G31_2 FUEL)) rfl rfl lok31_2) allM_nil)) (fun R x k => q31 (G31_2 FUEL) (G31_5 FUEL) F31 R x k)
/-! drawlot/comp.Start -/
abbrev FT99 : Type 1 := (R : Type) → ((List Int) → Option R) → Option R
def en99 (F : FT99) : Ent := ⟨99, [], [(false, (.arr 8 (.int .u32)))], fun R x k => F R  (fun y1 => k (y1, ()) ())⟩
def res99 : List (ResultVar × TypeId × Bool) := [(.cell 0 104, 104, false)]
def e99 (R : Type) : Env R := ⟨TT, EQT, 0, 2, ownOf [], callOf [] R, loopOf [] R⟩
def p99 : FT99 := fun R k =>
let v1 : (List Int) := (List.set (List.set (List.set (List.set (List.set (List.set (List.set (List.set (List.replicate 8 (0 : Int)) 0 (1779033703 : Int)) 1 (3144134277 : Int)) 2 (1013904242 : Int)) 3 (2773480762 : Int)) 4 (1359893119 : Int)) 5 (2600822924 : Int)) 6 (528734635 : Int)) 7 (1541459225 : Int));
k v1
theorem q99 (F : FT99) (R : Type) (x : AT (en99 F).ins) (k : RT (en99 F).outs → PT (en99 F).ins → Option R) :
  xfun (e99 R) (codeOf Try.f99) res99 (avs (en99 F).ins x) (finK (en99 F).outs (en99 F).ins k) = p99 R  (fun y1 => k (y1, ()) ()) := by kernel_rfl
noncomputable def F99 : FT99 := p99
theorem env99 (R : Type) : EnvOK Try.prog (e99 R) := ⟨tabOK, eqOK, callOf_ok allE_nil⟩
theorem ok99 : (en99 F99).OK Try.prog :=
  ent_ok (Ef := fun R => e99 R) (fun R => env99 R) mixed Try.func99 (body := codeOf Try.f99) (by kernel_rfl) (by kernel_rfl) (np := 0) (nt := 2) (fun _ => rfl) (fun _ => rfl) (by kernel_rfl) (res := res99) (by kernel_rfl) (fun _ => rfl) (fun _ => Nat.le_of_ble_eq_true rfl) (by
    intro R
    rw [show loopsOf (codeOf Try.f99) = [] from by kernel_rfl]
    exact allM_nil) (fun R x k => q99 F99 R x k)
/-! drawlot/sha.New -/
abbrev FT91 : Type 1 := (R : Type) → (((List Int) × ((List Int) × (Int × Unit))) → Option R) → Option R
def en91 (F : FT91) : Ent := ⟨91, [], [(false, (.pair (.arr 8 (.int .u32)) (.pair (.sl (.int .u8)) (.pair (.int .u64) .unit))))], fun R x k => F R  (fun y1 => k (y1, ()) ())⟩
def res91 : List (ResultVar × TypeId × Bool) := [(.cell 0 109, 109, false)]
def e91 (F99 : FT99) (R : Type) : Env R := ⟨TT, EQT, 0, 3, ownOf [], callOf [en99 F99] R, loopOf [] R⟩
def p91 (F99 : FT99) : FT91 := fun R k =>
F99 R  fun y1 =>
k (y1, ([] : (List Int)), (0 : Int), ())
theorem q91 (F99 : FT99) (F : FT91) (R : Type) (x : AT (en91 F).ins) (k : RT (en91 F).outs → PT (en91 F).ins → Option R) :
  xfun (e91 F99 R) (codeOf Try.f91) res91 (avs (en91 F).ins x) (finK (en91 F).outs (en91 F).ins k) = p91 F99 R  (fun y1 => k (y1, ()) ()) := by kernel_rfl
noncomputable def F91 : FT91 := p91 F99
theorem env91 (R : Type) : EnvOK Try.prog (e91 F99 R) := ⟨tabOK, eqOK, callOf_ok (allE_cons ok99 allE_nil)⟩
theorem ok91 : (en91 F91).OK Try.prog :=
  ent_ok (Ef := fun R => e91 F99 R) (fun R => env91 R) mixed Try.func91 (body := codeOf Try.f91) (by kernel_rfl) (by kernel_rfl) (np := 0) (nt := 3) (fun _ => rfl) (fun _ => rfl) (by kernel_rfl) (res := res91) (by kernel_rfl) (fun _ => rfl) (fun _ => Nat.le_of_ble_eq_true rfl) (by
    intro R
    rw [show loopsOf (codeOf Try.f91) = [] from by kernel_rfl]
    exact allM_nil) (fun R x k => q91 F99 F91 R x k)
/-! drawlot/sha.Right -/
abbrev FT97 : Type 1 := (R : Type) → ((List Int) × ((List Int) × (Int × Unit))) → (Bool → Option R) → Option R
def en97 (F : FT97) : Ent := ⟨97, [(false, (.pair (.arr 8 (.int .u32)) (.pair (.sl (.int .u8)) (.pair (.int .u64) .unit))))], [(false, .bool)], fun R x k => F R x.1 (fun y1 => k (y1, ()) ())⟩
def res97 : List (ResultVar × TypeId × Bool) := [(.tmp 2, 4, false)]
def e97 (R : Type) : Env R := ⟨TT, EQT, 0, 16, ownOf [], callOf [] R, loopOf [] R⟩
def p97 : FT97 := fun R a0 k =>
let v1 : Bool := (decide (a0.2.2.1 < (2305843009213693952 : Int)));
(match v1 with
| true => let v2 : Int := (List.length a0.2.1 : Int);
let v3 : Int := (IntKind.u64.wrap v2);
let v4 : Int := (iand .u64 a0.2.2.1 (63 : Int));
let v5 : Bool := (v3 == v4);
k v5
| false => k false)
theorem q97 (F : FT97) (R : Type) (x : AT (en97 F).ins) (k : RT (en97 F).outs → PT (en97 F).ins → Option R) :
  xfun (e97 R) (codeOf Try.f97) res97 (avs (en97 F).ins x) (finK (en97 F).outs (en97 F).ins k) = p97 R x.1 (fun y1 => k (y1, ()) ()) := by kernel_rfl
noncomputable def F97 : FT97 := p97
theorem env97 (R : Type) : EnvOK Try.prog (e97 R) := ⟨tabOK, eqOK, callOf_ok allE_nil⟩
theorem ok97 : (en97 F97).OK Try.prog :=
  ent_ok (Ef := fun R => e97 R) (fun R => env97 R) mixed Try.func97 (body := codeOf Try.f97) (by kernel_rfl) (by kernel_rfl) (np := 0) (nt := 16) (fun _ => rfl) (fun _ => rfl) (by kernel_rfl) (res := res97) (by kernel_rfl) (fun _ => rfl) (fun _ => Nat.le_of_ble_eq_true rfl) (by
    intro R
    rw [show loopsOf (codeOf Try.f97) = [] from by kernel_rfl]
    exact allM_nil) (fun R x k => q97 F97 R x k)
/-! bytes.Clone -/
abbrev FT80 : Type 1 := (R : Type) → (List Int) → ((List Int) → Option R) → Option R
def en80 (F : FT80) : Ent := ⟨80, [(false, (.sl (.int .u8)))], [(true, (.int .u8))], fun R x k => F R x.1 (fun y1 => k (y1, ()) ())⟩
def e80 : Env (RT [(true, (.int .u8))]) := ⟨TT, EQT, 0, 8, ownOf [(2, 0), (3, 0)], fun _ _ _ => none, fun _ _ _ => none⟩
def F80 : FT80 := fun R a0 k => match decide (List.length ([] : (List Int)) + List.length a0 ≤ 140737488355328) with | true => k a0 | false => none
theorem ok80 : (en80 F80).OK Try.prog :=
  clone_ok (e := (.int .u8)) e80 ⟨tabOK, eqOK, fun f b K r h => by cases h⟩ mixed Try.func80 (body := codeOf Try.f80) (by kernel_rfl) (by kernel_rfl) (by kernel_rfl) (res := [(.tmp 2, 46, true)]) (by kernel_rfl) rfl (by decide) (by kernel_rfl) (lim := 140737488355328) (by kernel_rfl) (fun l => by kernel_rfl)
/-! drawlot/pad.Cut -/
abbrev FT107 : Type 1 := (R : Type) → (List Int) → ((List (List Int)) → (List Int) → Option R) → Option R
def en107 (F : FT107) : Ent := ⟨107, [(false, (.sl (.int .u8)))], [(false, (.sl (.arr 64 (.int .u8)))), (false, (.sl (.int .u8)))], fun R x k => F R x.1 (fun y1 y2 => k (y1, y2, ()) ())⟩
def res107 : List (ResultVar × TypeId × Bool) := [(.tmp 2, 99, false), (.tmp 3, 46, false)]
abbrev LT107_1 : Type 1 := (R : Type) → (List Int) → (List (List Int)) → ((List Int) → (List (List Int)) → Option R) → Option R
def le107_1 (L : LT107_1) : LEnt := ⟨1, [.val 0 (.sl (.int .u8)), .fix 2 (.own 0 0), .row 0 (.arr 64 (.int .u8)) false], 1, [(.exit 0, [.val 0 (.sl (.int .u8)), .fix 2 (.own 0 0), .row 0 (.arr 64 (.int .u8)) false])], fun R x ke => L R x.1 x.2.1 (fun y1 y2 => ke.1 (y1, y2, ()))⟩
def e107 (L1 : LT107_1) (R : Type) : Env R := ⟨TT, EQT, 0, 17, ownOf [(0, 0)], callOf [] R, loopOf [le107_1 L1] R⟩
def p107_1 : (R : Type) → (List Int) → (List (List Int)) → ((List Int) → (List (List Int)) → Option R) → ((List Int) → (List (List Int)) → Option R) → Option R := fun R x1 x2 kc k0 =>
let v3 : Int := (List.length x1 : Int);
let v4 : Bool := (decide (v3 ≥ (64 : Int)));
(match v4 with
| true => (match (decide ((64 : Int) ≤ (List.length x1 : Int))) with
| true => let v5 : (List Int) := (List.take 64 x1);
let v6 : (List (List Int)) := ([v5] : (List (List Int)));
(match (decide (List.length x2 + List.length v6 ≤ 2199023255552)) with
| true => let v7 : (List (List Int)) := (x2 ++ v6);
(match (decide (0 ≤ (64 : Int) ∧ (64 : Int) ≤ (List.length x1 : Int) ∧ (List.length x1 : Int) ≤ (List.length x1 : Int) ∧ (List.length x1 : Int) ≤ (List.length x1 : Int))) with
| true => let v8 : (List Int) := (List.take (Int.toNat ((List.length x1 : Int) - (64 : Int))) (List.drop 64 x1));
kc v8 v7
| false => none)
| false => none)
| false => none)
| false => k0 x1 x2)
theorem q107_1 (L1 : LT107_1) (R : Type) (x : HT (le107_1 L1).H) (kc : HT (le107_1 L1).H → Option R) (ke : KT R (le107_1 L1).exs) :
  exec (e107 L1 R) (lcode 1 (codeOf Try.f107)) (stOf (le107_1 L1).H x 1) (roundK (le107_1 L1).H (le107_1 L1).exs kc ke) =
    p107_1 R x.1 x.2.1 (fun x1 x2 => kc (x1, x2, ())) (fun y1 y2 => ke.1 (y1, y2, ())) := by kernel_rfl
noncomputable def G107_1 : Nat → LT107_1
  | 0 => fun _ _ _ _ => none
  | n + 1 => fun R x1 x2 k0 => p107_1 R x1 x2 (fun x1 x2 => G107_1 n R x1 x2 k0) k0
def p107 (L1 : LT107_1) : FT107 := fun R a0 k =>
L1 R a0 ([] : (List (List Int))) (fun x1 x2 =>
k x2 x1)
theorem q107 (L1 : LT107_1) (F : FT107) (R : Type) (x : AT (en107 F).ins) (k : RT (en107 F).outs → PT (en107 F).ins → Option R) :
  xfun (e107 L1 R) (codeOf Try.f107) res107 (avs (en107 F).ins x) (finK (en107 F).outs (en107 F).ins k) = p107 L1 R x.1 (fun y1 y2 => k (y1, y2, ()) ()) := by kernel_rfl
noncomputable def F107 : FT107 := p107 (G107_1 FUEL)
theorem env107 (R : Type) : EnvOK Try.prog (e107 (G107_1 FUEL) R) := ⟨tabOK, eqOK, callOf_ok allE_nil⟩
noncomputable def T107_1 : (R : Type) → HT (le107_1 (G107_1 FUEL)).H → (HT (le107_1 (G107_1 FUEL)).H → Option R) → KT R (le107_1 (G107_1 FUEL)).exs → Option R := fun R x kc ke => p107_1 R x.1 x.2.1 (fun x1 x2 => kc (x1, x2, ())) (fun y1 y2 => ke.1 (y1, y2, ()))
theorem it107_1 : ∀ (n : Nat) (R : Type) (x : HT (le107_1 (G107_1 FUEL)).H) (ke : KT R (le107_1 (G107_1 FUEL)).exs), iter T107_1 n R x ke = G107_1 n R x.1 x.2.1 (fun y1 y2 => ke.1 (y1, y2, ())) := by
  intro n
  induction n with
  | zero => intro R x ke; rfl
  | succ n ih =>
    intro R x ke
    show T107_1 R x (fun x' => iter T107_1 n R x' ke) ke = _
    rw [show (fun x' => iter T107_1 n R x' ke) = fun x => G107_1 n R x.1 x.2.1 (fun y1 y2 => ke.1 (y1, y2, ())) from funext fun x' => ih R x' ke]
    rfl
theorem lok107_1 : (le107_1 (G107_1 FUEL)).OK Try.prog 0 17 (lcode 1 (codeOf Try.f107)) := fun R x ke r h =>
  iter_sound (fun R => e107 (G107_1 FUEL) R) 0 17 (fun _ => rfl) (fun _ => rfl) (fun R => env107 R) mixed (by
    intro R
    rw [show loopsOf (lcode 1 (codeOf Try.f107)) = [] from by kernel_rfl]
    exact allM_nil) (T := T107_1) (fun R x kc ke => q107_1 (G107_1 FUEL) R x kc ke) FUEL R x ke r ((it107_1 FUEL R x ke).trans h)
theorem ok107 : (en107 F107).OK Try.prog :=
  ent_ok (Ef := fun R => e107 (G107_1 FUEL) R) (fun R => env107 R) mixed Try.func107 (body := codeOf Try.f107) (by kernel_rfl) (by kernel_rfl) (np := 0) (nt := 17) (fun _ => rfl) (fun _ => rfl) (by kernel_rfl) (res := res107) (by kernel_rfl) (fun _ => rfl) (fun _ => Nat.le_of_ble_eq_true rfl) (by
    intro R
    rw [show loopsOf (codeOf Try.f107) = [lcode 1 (codeOf Try.f107)] from by kernel_rfl]
    exact (allM_cons (loop_ok2 (e := le107_1 (G107_1 FUEL)) rfl rfl lok107_1) allM_nil)) (fun R x k => q107 (G107_1 FUEL) F107 R x k)
/-! drawlot/comp.constants -/
abbrev FT116 : Type 1 := (R : Type) → ((List Int) → Option R) → Option R
def en116 (F : FT116) : Ent := ⟨116, [], [(false, (.arr 64 (.int .u32)))], fun R x k => F R  (fun y1 => k (y1, ()) ())⟩
def res116 : List (ResultVar × TypeId × Bool) := [(.cell 0 127, 127, false)]
def e116 (R : Type) : Env R := ⟨TT, EQT, 0, 2, ownOf [], callOf [] R, loopOf [] R⟩
def p116 : FT116 := fun R k =>
let v1 : (List Int) := (List.set (List.set (List.set (List.set (List.set (List.set (List.set (List.set (List.set (List.set (List.set (List.set (List.set (List.set (List.set (List.set (List.set (List.set (List.set (List.set (List.set (List.set (List.set (List.set (List.set (List.set (List.set (List.set (List.set (List.set (List.set (List.set (List.set (List.set (List.set (List.set (List.set (List.set (List.set (List.set (List.set (List.set (List.set (List.set (List.set (List.set (List.set (List.set (List.set (List.set (List.set (List.set (List.set (List.set (List.set (List.set (List.set (List.set (List.set (List.set (List.set (List.set (List.set (List.set (List.replicate 64 (0 : Int)) 0 (1116352408 : Int)) 1 (1899447441 : Int)) 2 (3049323471 : Int)) 3 (3921009573 : Int)) 4 (961987163 : Int)) 5 (1508970993 : Int)) 6 (2453635748 : Int)) 7 (2870763221 : Int)) 8 (3624381080 : Int)) 9 (310598401 : Int)) 10 (607225278 : Int)) 11 (1426881987 : Int)) 12 (1925078388 : Int)) 13 (2162078206 : Int)) 14 (2614888103 : Int)) 15 (3248222580 : Int)) 16 (3835390401 : Int)) 17 (4022224774 : Int)) 18 (264347078 : Int)) 19 (604807628 : Int)) 20 (770255983 : Int)) 21 (1249150122 : Int)) 22 (1555081692 : Int)) 23 (1996064986 : Int)) 24 (2554220882 : Int)) 25 (2821834349 : Int)) 26 (2952996808 : Int)) 27 (3210313671 : Int)) 28 (3336571891 : Int)) 29 (3584528711 : Int)) 30 (113926993 : Int)) 31 (338241895 : Int)) 32 (666307205 : Int)) 33 (773529912 : Int)) 34 (1294757372 : Int)) 35 (1396182291 : Int)) 36 (1695183700 : Int)) 37 (1986661051 : Int)) 38 (2177026350 : Int)) 39 (2456956037 : Int)) 40 (2730485921 : Int)) 41 (2820302411 : Int)) 42 (3259730800 : Int)) 43 (3345764771 : Int)) 44 (3516065817 : Int)) 45 (3600352804 : Int)) 46 (4094571909 : Int)) 47 (275423344 : Int)) 48 (430227734 : Int)) 49 (506948616 : Int)) 50 (659060556 : Int)) 51 (883997877 : Int)) 52 (958139571 : Int)) 53 (1322822218 : Int)) 54 (1537002063 : Int)) 55 (1747873779 : Int)) 56 (1955562222 : Int)) 57 (2024104815 : Int)) 58 (2227730452 : Int)) 59 (2361852424 : Int)) 60 (2428436474 : Int)) 61 (2756734187 : Int)) 62 (3204031479 : Int)) 63 (3329325298 : Int));
k v1
theorem q116 (F : FT116) (R : Type) (x : AT (en116 F).ins) (k : RT (en116 F).outs → PT (en116 F).ins → Option R) :
  xfun (e116 R) (codeOf Try.f116) res116 (avs (en116 F).ins x) (finK (en116 F).outs (en116 F).ins k) = p116 R  (fun y1 => k (y1, ()) ()) := by kernel_rfl
noncomputable def F116 : FT116 := p116
theorem env116 (R : Type) : EnvOK Try.prog (e116 R) := ⟨tabOK, eqOK, callOf_ok allE_nil⟩
theorem ok116 : (en116 F116).OK Try.prog :=
  ent_ok (Ef := fun R => e116 R) (fun R => env116 R) mixed Try.func116 (body := codeOf Try.f116) (by kernel_rfl) (by kernel_rfl) (np := 0) (nt := 2) (fun _ => rfl) (fun _ => rfl) (by kernel_rfl) (res := res116) (by kernel_rfl) (fun _ => rfl) (fun _ => Nat.le_of_ble_eq_true rfl) (by
    intro R
    rw [show loopsOf (codeOf Try.f116) = [] from by kernel_rfl]
    exact allM_nil) (fun R x k => q116 F116 R x k)
/-! drawlot/word.Get32 -/
abbrev FT120 : Type 1 := (R : Type) → (List Int) → (Int → Option R) → Option R
def en120 (F : FT120) : Ent := ⟨120, [(false, (.arr 4 (.int .u8)))], [(false, (.int .u32))], fun R x k => F R x.1 (fun y1 => k (y1, ()) ())⟩
def res120 : List (ResultVar × TypeId × Bool) := [(.tmp 2, 49, false)]
abbrev LT120_2 : Type 1 := (R : Type) → Int → (List Int) → Int → (Int → Option R) → Option R
def le120_2 (L : LT120_2) : LEnt := ⟨2, [.val 2 (.int .u32), .val 5 (.arr 4 (.int .u8)), .val 6 (.int .i64)], 0, [(.exit 0, [.val 2 (.int .u32)])], fun R x ke => L R x.1 x.2.1 x.2.2.1 (fun y1 => ke.1 (y1, ()))⟩
def e120 (L2 : LT120_2) (R : Type) : Env R := ⟨TT, EQT, 0, 16, ownOf [], callOf [] R, loopOf [le120_2 L2] R⟩
def p120_2 : (R : Type) → Int → (List Int) → Int → (Int → (List Int) → Int → Option R) → (Int → Option R) → Option R := fun R x1 x2 x3 kc k0 =>
let v4 : Bool := (decide (x3 < (4 : Int)));
(match v4 with
| true => (match (bnd x3 (4 : Int)) with
| true => let v5 : Int := (List.getD x2 (Int.toNat x3) (0 : Int));
let v6 : Int := (ishl .u32 x1 (8 : Int));
let v7 : Int := (IntKind.u32.wrap v5);
let v8 : Int := (ior .u32 v6 v7);
let v9 : Int := (IntKind.i64.wrap (x3 + (1 : Int)));
kc v8 x2 v9
| false => none)
| false => k0 x1)
theorem q120_2 (L2 : LT120_2) (R : Type) (x : HT (le120_2 L2).H) (kc : HT (le120_2 L2).H → Option R) (ke : KT R (le120_2 L2).exs) :
  exec (e120 L2 R) (lcode 2 (codeOf Try.f120)) (stOf (le120_2 L2).H x 0) (roundK (le120_2 L2).H (le120_2 L2).exs kc ke) =
    p120_2 R x.1 x.2.1 x.2.2.1 (fun x1 x2 x3 => kc (x1, x2, x3, ())) (fun y1 => ke.1 (y1, ())) := by kernel_rfl
noncomputable def G120_2 : Nat → LT120_2
  | 0 => fun _ _ _ _ _ => none
  | n + 1 => fun R x1 x2 x3 k0 => p120_2 R x1 x2 x3 (fun x1 x2 x3 => G120_2 n R x1 x2 x3 k0) k0
def p120 (L2 : LT120_2) : FT120 := fun R a0 k =>
L2 R (0 : Int) a0 (0 : Int) (fun x1 =>
k x1)
theorem q120 (L2 : LT120_2) (F : FT120) (R : Type) (x : AT (en120 F).ins) (k : RT (en120 F).outs → PT (en120 F).ins → Option R) :
  xfun (e120 L2 R) (codeOf Try.f120) res120 (avs (en120 F).ins x) (finK (en120 F).outs (en120 F).ins k) = p120 L2 R x.1 (fun y1 => k (y1, ()) ()) := by kernel_rfl
noncomputable def F120 : FT120 := p120 (G120_2 FUEL)
theorem env120 (R : Type) : EnvOK Try.prog (e120 (G120_2 FUEL) R) := ⟨tabOK, eqOK, callOf_ok allE_nil⟩
noncomputable def T120_2 : (R : Type) → HT (le120_2 (G120_2 FUEL)).H → (HT (le120_2 (G120_2 FUEL)).H → Option R) → KT R (le120_2 (G120_2 FUEL)).exs → Option R := fun R x kc ke => p120_2 R x.1 x.2.1 x.2.2.1 (fun x1 x2 x3 => kc (x1, x2, x3, ())) (fun y1 => ke.1 (y1, ()))
theorem it120_2 : ∀ (n : Nat) (R : Type) (x : HT (le120_2 (G120_2 FUEL)).H) (ke : KT R (le120_2 (G120_2 FUEL)).exs), iter T120_2 n R x ke = G120_2 n R x.1 x.2.1 x.2.2.1 (fun y1 => ke.1 (y1, ())) := by
  intro n
  induction n with
  | zero => intro R x ke; rfl
  | succ n ih =>
    intro R x ke
    show T120_2 R x (fun x' => iter T120_2 n R x' ke) ke = _
    rw [show (fun x' => iter T120_2 n R x' ke) = fun x => G120_2 n R x.1 x.2.1 x.2.2.1 (fun y1 => ke.1 (y1, ())) from funext fun x' => ih R x' ke]
    rfl
theorem lok120_2 : (le120_2 (G120_2 FUEL)).OK Try.prog 0 16 (lcode 2 (codeOf Try.f120)) := fun R x ke r h =>
  iter_sound (fun R => e120 (G120_2 FUEL) R) 0 16 (fun _ => rfl) (fun _ => rfl) (fun R => env120 R) mixed (by
    intro R
    rw [show loopsOf (lcode 2 (codeOf Try.f120)) = [] from by kernel_rfl]
    exact allM_nil) (T := T120_2) (fun R x kc ke => q120_2 (G120_2 FUEL) R x kc ke) FUEL R x ke r ((it120_2 FUEL R x ke).trans h)
theorem ok120 : (en120 F120).OK Try.prog :=
  ent_ok (Ef := fun R => e120 (G120_2 FUEL) R) (fun R => env120 R) mixed Try.func120 (body := codeOf Try.f120) (by kernel_rfl) (by kernel_rfl) (np := 0) (nt := 16) (fun _ => rfl) (fun _ => rfl) (by kernel_rfl) (res := res120) (by kernel_rfl) (fun _ => rfl) (fun _ => Nat.le_of_ble_eq_true rfl) (by
    intro R
    rw [show loopsOf (codeOf Try.f120) = [lcode 2 (codeOf Try.f120)] from by kernel_rfl]
    exact (allM_cons (loop_ok2 (e := le120_2 (G120_2 FUEL)) rfl rfl lok120_2) allM_nil)) (fun R x k => q120 (G120_2 FUEL) F120 R x k)
/-! drawlot/word.Rotate -/
abbrev FT127 : Type 1 := (R : Type) → Int → Int → (Int → Option R) → Option R
def en127 (F : FT127) : Ent := ⟨127, [(false, (.int .u32)), (false, (.int .i64))], [(false, (.int .u32))], fun R x k => F R x.1 x.2.1 (fun y1 => k (y1, ()) ())⟩
def res127 : List (ResultVar × TypeId × Bool) := [(.tmp 4, 49, false)]
def e127 (R : Type) : Env R := ⟨TT, EQT, 0, 17, ownOf [], callOf [] R, loopOf [] R⟩
def p127 : FT127 := fun R a0 a1 k =>
let v1 : Int := (IntKind.u64.wrap a1);
let v2 : Int := (Int.tmod v1 (32 : Int));
(match (decide (0 ≤ v2)) with
| true => let v3 : Int := (ishr .u32 a0 v2);
let v4 : Int := (IntKind.u64.wrap ((32 : Int) - v2));
(match (decide (0 ≤ v4)) with
| true => let v5 : Int := (ishl .u32 a0 v4);
let v6 : Int := (ior .u32 v3 v5);
k v6
| false => none)
| false => none)
theorem q127 (F : FT127) (R : Type) (x : AT (en127 F).ins) (k : RT (en127 F).outs → PT (en127 F).ins → Option R) :
  xfun (e127 R) (codeOf Try.f127) res127 (avs (en127 F).ins x) (finK (en127 F).outs (en127 F).ins k) = p127 R x.1 x.2.1 (fun y1 => k (y1, ()) ()) := by kernel_rfl
noncomputable def F127 : FT127 := p127
theorem env127 (R : Type) : EnvOK Try.prog (e127 R) := ⟨tabOK, eqOK, callOf_ok allE_nil⟩
theorem ok127 : (en127 F127).OK Try.prog :=
  ent_ok (Ef := fun R => e127 R) (fun R => env127 R) mixed Try.func127 (body := codeOf Try.f127) (by kernel_rfl) (by kernel_rfl) (np := 0) (nt := 17) (fun _ => rfl) (fun _ => rfl) (by kernel_rfl) (res := res127) (by kernel_rfl) (fun _ => rfl) (fun _ => Nat.le_of_ble_eq_true rfl) (by
    intro R
    rw [show loopsOf (codeOf Try.f127) = [] from by kernel_rfl]
    exact allM_nil) (fun R x k => q127 F127 R x k)
/-! drawlot/word.Right -/
abbrev FT128 : Type 1 := (R : Type) → Int → Int → (Int → Option R) → Option R
def en128 (F : FT128) : Ent := ⟨128, [(false, (.int .u32)), (false, (.int .i64))], [(false, (.int .u32))], fun R x k => F R x.1 x.2.1 (fun y1 => k (y1, ()) ())⟩
def res128 : List (ResultVar × TypeId × Bool) := [(.tmp 4, 49, false)]
def e128 (R : Type) : Env R := ⟨TT, EQT, 0, 10, ownOf [], callOf [] R, loopOf [] R⟩
def p128 : FT128 := fun R a0 a1 k =>
let v1 : Int := (if (0 : Int) > a1 then (0 : Int) else a1);
let v2 : Int := (IntKind.u64.wrap v1);
(match (decide (0 ≤ v2)) with
| true => let v3 : Int := (ishr .u32 a0 v2);
k v3
| false => none)
theorem q128 (F : FT128) (R : Type) (x : AT (en128 F).ins) (k : RT (en128 F).outs → PT (en128 F).ins → Option R) :
  xfun (e128 R) (codeOf Try.f128) res128 (avs (en128 F).ins x) (finK (en128 F).outs (en128 F).ins k) = p128 R x.1 x.2.1 (fun y1 => k (y1, ()) ()) := by kernel_rfl
noncomputable def F128 : FT128 := p128
theorem env128 (R : Type) : EnvOK Try.prog (e128 R) := ⟨tabOK, eqOK, callOf_ok allE_nil⟩
theorem ok128 : (en128 F128).OK Try.prog :=
  ent_ok (Ef := fun R => e128 R) (fun R => env128 R) mixed Try.func128 (body := codeOf Try.f128) (by kernel_rfl) (by kernel_rfl) (np := 0) (nt := 10) (fun _ => rfl) (fun _ => rfl) (by kernel_rfl) (res := res128) (by kernel_rfl) (fun _ => rfl) (fun _ => Nat.le_of_ble_eq_true rfl) (by
    intro R
    rw [show loopsOf (codeOf Try.f128) = [] from by kernel_rfl]
    exact allM_nil) (fun R x k => q128 F128 R x k)
/-! drawlot/plan.mix -/
abbrev FT125 : Type 1 := (R : Type) → Int → Int → Int → Int → (Int → Option R) → Option R
def en125 (F : FT125) : Ent := ⟨125, [(false, (.int .u32)), (false, (.int .i64)), (false, (.int .i64)), (false, (.int .i64))], [(false, (.int .u32))], fun R x k => F R x.1 x.2.1 x.2.2.1 x.2.2.2.1 (fun y1 => k (y1, ()) ())⟩
def res125 : List (ResultVar × TypeId × Bool) := [(.tmp 8, 49, false)]
def e125 (F127 : FT127) (F128 : FT128) (R : Type) : Env R := ⟨TT, EQT, 0, 20, ownOf [], callOf [en127 F127, en128 F128] R, loopOf [] R⟩
def p125 (F127 : FT127) (F128 : FT128) : FT125 := fun R a0 a1 a2 a3 k =>
F127 R a0 a1 fun y1 =>
F127 R a0 a2 fun y2 =>
let v3 : Int := (ixor .u32 y1 y2);
F128 R a0 a3 fun y4 =>
let v5 : Int := (ixor .u32 v3 y4);
k v5
theorem q125 (F127 : FT127) (F128 : FT128) (F : FT125) (R : Type) (x : AT (en125 F).ins) (k : RT (en125 F).outs → PT (en125 F).ins → Option R) :
  xfun (e125 F127 F128 R) (codeOf Try.f125) res125 (avs (en125 F).ins x) (finK (en125 F).outs (en125 F).ins k) = p125 F127 F128 R x.1 x.2.1 x.2.2.1 x.2.2.2.1 (fun y1 => k (y1, ()) ()) := by kernel_rfl
noncomputable def F125 : FT125 := p125 F127 F128
theorem env125 (R : Type) : EnvOK Try.prog (e125 F127 F128 R) := ⟨tabOK, eqOK, callOf_ok (allE_cons ok127 (allE_cons ok128 allE_nil))⟩
theorem ok125 : (en125 F125).OK Try.prog :=
  ent_ok (Ef := fun R => e125 F127 F128 R) (fun R => env125 R) mixed Try.func125 (body := codeOf Try.f125) (by kernel_rfl) (by kernel_rfl) (np := 0) (nt := 20) (fun _ => rfl) (fun _ => rfl) (by kernel_rfl) (res := res125) (by kernel_rfl) (fun _ => rfl) (fun _ => Nat.le_of_ble_eq_true rfl) (by
    intro R
    rw [show loopsOf (codeOf Try.f125) = [] from by kernel_rfl]
    exact allM_nil) (fun R x k => q125 F127 F128 F125 R x k)
/-! drawlot/plan.Second -/
abbrev FT121 : Type 1 := (R : Type) → Int → (Int → Option R) → Option R
def en121 (F : FT121) : Ent := ⟨121, [(false, (.int .u32))], [(false, (.int .u32))], fun R x k => F R x.1 (fun y1 => k (y1, ()) ())⟩
def res121 : List (ResultVar × TypeId × Bool) := [(.tmp 2, 49, false)]
def e121 (F125 : FT125) (R : Type) : Env R := ⟨TT, EQT, 0, 5, ownOf [], callOf [en125 F125] R, loopOf [] R⟩
def p121 (F125 : FT125) : FT121 := fun R a0 k =>
F125 R a0 (17 : Int) (19 : Int) (10 : Int) fun y1 =>
k y1
theorem q121 (F125 : FT125) (F : FT121) (R : Type) (x : AT (en121 F).ins) (k : RT (en121 F).outs → PT (en121 F).ins → Option R) :
  xfun (e121 F125 R) (codeOf Try.f121) res121 (avs (en121 F).ins x) (finK (en121 F).outs (en121 F).ins k) = p121 F125 R x.1 (fun y1 => k (y1, ()) ()) := by kernel_rfl
noncomputable def F121 : FT121 := p121 F125
theorem env121 (R : Type) : EnvOK Try.prog (e121 F125 R) := ⟨tabOK, eqOK, callOf_ok (allE_cons ok125 allE_nil)⟩
theorem ok121 : (en121 F121).OK Try.prog :=
  ent_ok (Ef := fun R => e121 F125 R) (fun R => env121 R) mixed Try.func121 (body := codeOf Try.f121) (by kernel_rfl) (by kernel_rfl) (np := 0) (nt := 5) (fun _ => rfl) (fun _ => rfl) (by kernel_rfl) (res := res121) (by kernel_rfl) (fun _ => rfl) (fun _ => Nat.le_of_ble_eq_true rfl) (by
    intro R
    rw [show loopsOf (codeOf Try.f121) = [] from by kernel_rfl]
    exact allM_nil) (fun R x k => q121 F125 F121 R x k)
/-! drawlot/plan.First -/
abbrev FT122 : Type 1 := (R : Type) → Int → (Int → Option R) → Option R
def en122 (F : FT122) : Ent := ⟨122, [(false, (.int .u32))], [(false, (.int .u32))], fun R x k => F R x.1 (fun y1 => k (y1, ()) ())⟩
def res122 : List (ResultVar × TypeId × Bool) := [(.tmp 2, 49, false)]
def e122 (F125 : FT125) (R : Type) : Env R := ⟨TT, EQT, 0, 5, ownOf [], callOf [en125 F125] R, loopOf [] R⟩
def p122 (F125 : FT125) : FT122 := fun R a0 k =>
F125 R a0 (7 : Int) (18 : Int) (3 : Int) fun y1 =>
k y1
theorem q122 (F125 : FT125) (F : FT122) (R : Type) (x : AT (en122 F).ins) (k : RT (en122 F).outs → PT (en122 F).ins → Option R) :
  xfun (e122 F125 R) (codeOf Try.f122) res122 (avs (en122 F).ins x) (finK (en122 F).outs (en122 F).ins k) = p122 F125 R x.1 (fun y1 => k (y1, ()) ()) := by kernel_rfl
noncomputable def F122 : FT122 := p122 F125
theorem env122 (R : Type) : EnvOK Try.prog (e122 F125 R) := ⟨tabOK, eqOK, callOf_ok (allE_cons ok125 allE_nil)⟩
theorem ok122 : (en122 F122).OK Try.prog :=
  ent_ok (Ef := fun R => e122 F125 R) (fun R => env122 R) mixed Try.func122 (body := codeOf Try.f122) (by kernel_rfl) (by kernel_rfl) (np := 0) (nt := 5) (fun _ => rfl) (fun _ => rfl) (by kernel_rfl) (res := res122) (by kernel_rfl) (fun _ => rfl) (fun _ => Nat.le_of_ble_eq_true rfl) (by
    intro R
    rw [show loopsOf (codeOf Try.f122) = [] from by kernel_rfl]
    exact allM_nil) (fun R x k => q122 F125 F122 R x k)
/-! drawlot/plan.Of -/
abbrev FT117 : Type 1 := (R : Type) → (List Int) → ((List Int) → Option R) → Option R
def en117 (F : FT117) : Ent := ⟨117, [(false, (.arr 64 (.int .u8)))], [(false, (.arr 64 (.int .u32)))], fun R x k => F R x.1 (fun y1 => k (y1, ()) ())⟩
def res117 : List (ResultVar × TypeId × Bool) := [(.cell 2 128, 128, false)]
abbrev LT117_2 : Type 1 := (R : Type) → Int → (List Int) → (List Int) → ((List Int) → Option R) → Option R
def le117_2 (L : LT117_2) : LEnt := ⟨2, [.fix 1 (.ptr 0 [] (.arr 64 (.int .u8))), .fix 2 (.ptr 1 [] (.arr 64 (.int .u32))), .val 5 (.int .i64), .var 0 (.arr 64 (.int .u8)) false, .var 1 (.arr 64 (.int .u32)) false], 2, [(.exit 0, [.fix 2 (.ptr 1 [] (.arr 64 (.int .u32))), .var 1 (.arr 64 (.int .u32)) false])], fun R x ke => L R x.1 x.2.1 x.2.2.1 (fun y1 => ke.1 (y1, ()))⟩
def e117 (F120 : FT120) (F121 : FT121) (F122 : FT122) (L2 : LT117_2) (R : Type) : Env R := ⟨TT, EQT, 0, 46, ownOf [], callOf [en120 F120, en121 F121, en122 F122] R, loopOf [le117_2 L2] R⟩
def p117_2 (F120 : FT120) (F121 : FT121) (F122 : FT122) : (R : Type) → Int → (List Int) → (List Int) → (Int → (List Int) → (List Int) → Option R) → ((List Int) → Option R) → Option R := fun R x1 x2 x3 kc k0 =>
let v4 : Bool := (decide (x1 < (64 : Int)));
(match v4 with
| true => let v5 : Int := (IntKind.i64.wrap ((4 : Int) * x1));
let v6 : Bool := (decide (v5 < (64 : Int)));
(match v6 with
| true => let v7 : Int := (IntKind.i64.wrap (v5 + (4 : Int)));
(match (decide (0 ≤ v5 ∧ v5 ≤ v7 ∧ v7 ≤ (64 : Int))) with
| true => (match (decide ((4 : Int) ≤ ((Int.toNat (v7 - v5)) : Nat))) with
| true => let v8 : (List Int) := (List.take 4 (List.drop (Int.toNat v5) x2));
F120 R v8 fun y9 =>
(match (bnd x1 (64 : Int)) with
| true => let v10 : (List Int) := (List.set x3 (Int.toNat x1) y9);
let v11 : Int := (IntKind.i64.wrap (x1 + (1 : Int)));
kc v11 x2 v10
| false => none)
| false => none)
| false => none)
| false => let v12 : Int := (IntKind.i64.wrap (x1 - (2 : Int)));
(match (bnd v12 (64 : Int)) with
| true => let v13 : Int := (List.getD x3 (Int.toNat v12) (0 : Int));
F121 R v13 fun y14 =>
let v15 : Int := (IntKind.i64.wrap (x1 - (7 : Int)));
(match (bnd v15 (64 : Int)) with
| true => let v16 : Int := (List.getD x3 (Int.toNat v15) (0 : Int));
let v17 : Int := (IntKind.u32.wrap (y14 + v16));
let v18 : Int := (IntKind.i64.wrap (x1 - (15 : Int)));
(match (bnd v18 (64 : Int)) with
| true => let v19 : Int := (List.getD x3 (Int.toNat v18) (0 : Int));
F122 R v19 fun y20 =>
let v21 : Int := (IntKind.u32.wrap (v17 + y20));
let v22 : Int := (IntKind.i64.wrap (x1 - (16 : Int)));
(match (bnd v22 (64 : Int)) with
| true => let v23 : Int := (List.getD x3 (Int.toNat v22) (0 : Int));
let v24 : Int := (IntKind.u32.wrap (v21 + v23));
(match (bnd x1 (64 : Int)) with
| true => let v25 : (List Int) := (List.set x3 (Int.toNat x1) v24);
let v26 : Int := (IntKind.i64.wrap (x1 + (1 : Int)));
kc v26 x2 v25
| false => none)
| false => none)
| false => none)
| false => none)
| false => none))
| false => k0 x3)
theorem q117_2 (F120 : FT120) (F121 : FT121) (F122 : FT122) (L2 : LT117_2) (R : Type) (x : HT (le117_2 L2).H) (kc : HT (le117_2 L2).H → Option R) (ke : KT R (le117_2 L2).exs) :
  exec (e117 F120 F121 F122 L2 R) (lcode 2 (codeOf Try.f117)) (stOf (le117_2 L2).H x 2) (roundK (le117_2 L2).H (le117_2 L2).exs kc ke) =
    p117_2 F120 F121 F122 R x.1 x.2.1 x.2.2.1 (fun x1 x2 x3 => kc (x1, x2, x3, ())) (fun y1 => ke.1 (y1, ())) := by kernel_rfl
noncomputable def G117_2 : Nat → LT117_2
  | 0 => fun _ _ _ _ _ => none
  | n + 1 => fun R x1 x2 x3 k0 => p117_2 F120 F121 F122 R x1 x2 x3 (fun x1 x2 x3 => G117_2 n R x1 x2 x3 k0) k0
def p117 (L2 : LT117_2) : FT117 := fun R a0 k =>
L2 R (0 : Int) a0 (List.replicate 64 (0 : Int)) (fun x1 =>
k x1)
theorem q117 (F120 : FT120) (F121 : FT121) (F122 : FT122) (L2 : LT117_2) (F : FT117) (R : Type) (x : AT (en117 F).ins) (k : RT (en117 F).outs → PT (en117 F).ins → Option R) :
  xfun (e117 F120 F121 F122 L2 R) (codeOf Try.f117) res117 (avs (en117 F).ins x) (finK (en117 F).outs (en117 F).ins k) = p117 L2 R x.1 (fun y1 => k (y1, ()) ()) := by kernel_rfl
noncomputable def F117 : FT117 := p117 (G117_2 FUEL)
theorem env117 (R : Type) : EnvOK Try.prog (e117 F120 F121 F122 (G117_2 FUEL) R) := ⟨tabOK, eqOK, callOf_ok (allE_cons ok120 (allE_cons ok121 (allE_cons ok122 allE_nil)))⟩
noncomputable def T117_2 : (R : Type) → HT (le117_2 (G117_2 FUEL)).H → (HT (le117_2 (G117_2 FUEL)).H → Option R) → KT R (le117_2 (G117_2 FUEL)).exs → Option R := fun R x kc ke => p117_2 F120 F121 F122 R x.1 x.2.1 x.2.2.1 (fun x1 x2 x3 => kc (x1, x2, x3, ())) (fun y1 => ke.1 (y1, ()))
theorem it117_2 : ∀ (n : Nat) (R : Type) (x : HT (le117_2 (G117_2 FUEL)).H) (ke : KT R (le117_2 (G117_2 FUEL)).exs), iter T117_2 n R x ke = G117_2 n R x.1 x.2.1 x.2.2.1 (fun y1 => ke.1 (y1, ())) := by
  intro n
  induction n with
  | zero => intro R x ke; rfl
  | succ n ih =>
    intro R x ke
    show T117_2 R x (fun x' => iter T117_2 n R x' ke) ke = _
    rw [show (fun x' => iter T117_2 n R x' ke) = fun x => G117_2 n R x.1 x.2.1 x.2.2.1 (fun y1 => ke.1 (y1, ())) from funext fun x' => ih R x' ke]
    rfl
theorem lok117_2 : (le117_2 (G117_2 FUEL)).OK Try.prog 0 46 (lcode 2 (codeOf Try.f117)) := fun R x ke r h =>
  iter_sound (fun R => e117 F120 F121 F122 (G117_2 FUEL) R) 0 46 (fun _ => rfl) (fun _ => rfl) (fun R => env117 R) mixed (by
    intro R
    rw [show loopsOf (lcode 2 (codeOf Try.f117)) = [] from by kernel_rfl]
    exact allM_nil) (T := T117_2) (fun R x kc ke => q117_2 F120 F121 F122 (G117_2 FUEL) R x kc ke) FUEL R x ke r ((it117_2 FUEL R x ke).trans h)
theorem ok117 : (en117 F117).OK Try.prog :=
  ent_ok (Ef := fun R => e117 F120 F121 F122 (G117_2 FUEL) R) (fun R => env117 R) mixed Try.func117 (body := codeOf Try.f117) (by kernel_rfl) (by kernel_rfl) (np := 0) (nt := 46) (fun _ => rfl) (fun _ => rfl) (by kernel_rfl) (res := res117) (by kernel_rfl) (fun _ => rfl) (fun _ => Nat.le_of_ble_eq_true rfl) (by
    intro R
    rw [show loopsOf (codeOf Try.f117) = [lcode 2 (codeOf Try.f117)] from by kernel_rfl]
    exact (allM_cons (loop_ok2 (e := le117_2 (G117_2 FUEL)) rfl rfl lok117_2) allM_nil)) (fun R x k => q117 F120 F121 F122 (G117_2 FUEL) F117 R x k)
/-! drawlot/comp.mix -/
abbrev FT126 : Type 1 := (R : Type) → Int → Int → Int → Int → (Int → Option R) → Option R
def en126 (F : FT126) : Ent := ⟨126, [(false, (.int .u32)), (false, (.int .i64)), (false, (.int .i64)), (false, (.int .i64))], [(false, (.int .u32))], fun R x k => F R x.1 x.2.1 x.2.2.1 x.2.2.2.1 (fun y1 => k (y1, ()) ())⟩
def res126 : List (ResultVar × TypeId × Bool) := [(.tmp 8, 49, false)]
def e126 (F127 : FT127) (R : Type) : Env R := ⟨TT, EQT, 0, 20, ownOf [], callOf [en127 F127] R, loopOf [] R⟩
def p126 (F127 : FT127) : FT126 := fun R a0 a1 a2 a3 k =>
F127 R a0 a1 fun y1 =>
F127 R a0 a2 fun y2 =>
let v3 : Int := (ixor .u32 y1 y2);
F127 R a0 a3 fun y4 =>
let v5 : Int := (ixor .u32 v3 y4);
k v5
theorem q126 (F127 : FT127) (F : FT126) (R : Type) (x : AT (en126 F).ins) (k : RT (en126 F).outs → PT (en126 F).ins → Option R) :
  xfun (e126 F127 R) (codeOf Try.f126) res126 (avs (en126 F).ins x) (finK (en126 F).outs (en126 F).ins k) = p126 F127 R x.1 x.2.1 x.2.2.1 x.2.2.2.1 (fun y1 => k (y1, ()) ()) := by kernel_rfl
noncomputable def F126 : FT126 := p126 F127
theorem env126 (R : Type) : EnvOK Try.prog (e126 F127 R) := ⟨tabOK, eqOK, callOf_ok (allE_cons ok127 allE_nil)⟩
theorem ok126 : (en126 F126).OK Try.prog :=
  ent_ok (Ef := fun R => e126 F127 R) (fun R => env126 R) mixed Try.func126 (body := codeOf Try.f126) (by kernel_rfl) (by kernel_rfl) (np := 0) (nt := 20) (fun _ => rfl) (fun _ => rfl) (by kernel_rfl) (res := res126) (by kernel_rfl) (fun _ => rfl) (fun _ => Nat.le_of_ble_eq_true rfl) (by
    intro R
    rw [show loopsOf (codeOf Try.f126) = [] from by kernel_rfl]
    exact allM_nil) (fun R x k => q126 F127 F126 R x k)
/-! drawlot/comp.low -/
abbrev FT123 : Type 1 := (R : Type) → Int → Int → Int → (Int → Option R) → Option R
def en123 (F : FT123) : Ent := ⟨123, [(false, (.int .u32)), (false, (.int .u32)), (false, (.int .u32))], [(false, (.int .u32))], fun R x k => F R x.1 x.2.1 x.2.2.1 (fun y1 => k (y1, ()) ())⟩
def res123 : List (ResultVar × TypeId × Bool) := [(.tmp 6, 49, false)]
def e123 (F126 : FT126) (R : Type) : Env R := ⟨TT, EQT, 0, 18, ownOf [], callOf [en126 F126] R, loopOf [] R⟩
def p123 (F126 : FT126) : FT123 := fun R a0 a1 a2 k =>
F126 R a0 (6 : Int) (11 : Int) (25 : Int) fun y1 =>
let v2 : Int := (iand .u32 a0 a1);
let v3 : Int := (ixor .u32 (4294967295 : Int) a0);
let v4 : Int := (iand .u32 v3 a2);
let v5 : Int := (ixor .u32 v2 v4);
let v6 : Int := (IntKind.u32.wrap (y1 + v5));
k v6
theorem q123 (F126 : FT126) (F : FT123) (R : Type) (x : AT (en123 F).ins) (k : RT (en123 F).outs → PT (en123 F).ins → Option R) :
  xfun (e123 F126 R) (codeOf Try.f123) res123 (avs (en123 F).ins x) (finK (en123 F).outs (en123 F).ins k) = p123 F126 R x.1 x.2.1 x.2.2.1 (fun y1 => k (y1, ()) ()) := by kernel_rfl
noncomputable def F123 : FT123 := p123 F126
theorem env123 (R : Type) : EnvOK Try.prog (e123 F126 R) := ⟨tabOK, eqOK, callOf_ok (allE_cons ok126 allE_nil)⟩
theorem ok123 : (en123 F123).OK Try.prog :=
  ent_ok (Ef := fun R => e123 F126 R) (fun R => env123 R) mixed Try.func123 (body := codeOf Try.f123) (by kernel_rfl) (by kernel_rfl) (np := 0) (nt := 18) (fun _ => rfl) (fun _ => rfl) (by kernel_rfl) (res := res123) (by kernel_rfl) (fun _ => rfl) (fun _ => Nat.le_of_ble_eq_true rfl) (by
    intro R
    rw [show loopsOf (codeOf Try.f123) = [] from by kernel_rfl]
    exact allM_nil) (fun R x k => q123 F126 F123 R x k)
/-! drawlot/comp.high -/
abbrev FT124 : Type 1 := (R : Type) → Int → Int → Int → (Int → Option R) → Option R
def en124 (F : FT124) : Ent := ⟨124, [(false, (.int .u32)), (false, (.int .u32)), (false, (.int .u32))], [(false, (.int .u32))], fun R x k => F R x.1 x.2.1 x.2.2.1 (fun y1 => k (y1, ()) ())⟩
def res124 : List (ResultVar × TypeId × Bool) := [(.tmp 6, 49, false)]
def e124 (F126 : FT126) (R : Type) : Env R := ⟨TT, EQT, 0, 21, ownOf [], callOf [en126 F126] R, loopOf [] R⟩
def p124 (F126 : FT126) : FT124 := fun R a0 a1 a2 k =>
F126 R a0 (2 : Int) (13 : Int) (22 : Int) fun y1 =>
let v2 : Int := (iand .u32 a0 a1);
let v3 : Int := (iand .u32 a0 a2);
let v4 : Int := (ixor .u32 v2 v3);
let v5 : Int := (iand .u32 a1 a2);
let v6 : Int := (ixor .u32 v4 v5);
let v7 : Int := (IntKind.u32.wrap (y1 + v6));
k v7
theorem q124 (F126 : FT126) (F : FT124) (R : Type) (x : AT (en124 F).ins) (k : RT (en124 F).outs → PT (en124 F).ins → Option R) :
  xfun (e124 F126 R) (codeOf Try.f124) res124 (avs (en124 F).ins x) (finK (en124 F).outs (en124 F).ins k) = p124 F126 R x.1 x.2.1 x.2.2.1 (fun y1 => k (y1, ()) ()) := by kernel_rfl
noncomputable def F124 : FT124 := p124 F126
theorem env124 (R : Type) : EnvOK Try.prog (e124 F126 R) := ⟨tabOK, eqOK, callOf_ok (allE_cons ok126 allE_nil)⟩
theorem ok124 : (en124 F124).OK Try.prog :=
  ent_ok (Ef := fun R => e124 F126 R) (fun R => env124 R) mixed Try.func124 (body := codeOf Try.f124) (by kernel_rfl) (by kernel_rfl) (np := 0) (nt := 21) (fun _ => rfl) (fun _ => rfl) (by kernel_rfl) (res := res124) (by kernel_rfl) (fun _ => rfl) (fun _ => Nat.le_of_ble_eq_true rfl) (by
    intro R
    rw [show loopsOf (codeOf Try.f124) = [] from by kernel_rfl]
    exact allM_nil) (fun R x k => q124 F126 F124 R x k)
/-! drawlot/comp.Round -/
abbrev FT118 : Type 1 := (R : Type) → (List Int) → Int → Int → ((List Int) → Option R) → Option R
def en118 (F : FT118) : Ent := ⟨118, [(false, (.arr 8 (.int .u32))), (false, (.int .u32)), (false, (.int .u32))], [(false, (.arr 8 (.int .u32)))], fun R x k => F R x.1 x.2.1 x.2.2.1 (fun y1 => k (y1, ()) ())⟩
def res118 : List (ResultVar × TypeId × Bool) := [(.cell 6 104, 104, false)]
def e118 (F123 : FT123) (F124 : FT124) (R : Type) : Env R := ⟨TT, EQT, 0, 41, ownOf [], callOf [en123 F123, en124 F124] R, loopOf [] R⟩
def p118 (F123 : FT123) (F124 : FT124) : FT118 := fun R a0 a1 a2 k =>
let v1 : Int := (List.getD a0 7 (0 : Int));
let v2 : Int := (List.getD a0 4 (0 : Int));
let v3 : Int := (List.getD a0 5 (0 : Int));
let v4 : Int := (List.getD a0 6 (0 : Int));
F123 R v2 v3 v4 fun y5 =>
let v6 : Int := (IntKind.u32.wrap (v1 + y5));
let v7 : Int := (IntKind.u32.wrap (v6 + a2));
let v8 : Int := (IntKind.u32.wrap (v7 + a1));
let v9 : (List Int) := (lay (List.replicate 8 (0 : Int)) 1 (List.take 7 (List.take 7 (List.drop 0 a0))));
let v10 : Int := (List.getD a0 0 (0 : Int));
let v11 : Int := (List.getD a0 1 (0 : Int));
let v12 : Int := (List.getD a0 2 (0 : Int));
F124 R v10 v11 v12 fun y13 =>
let v14 : Int := (IntKind.u32.wrap (v8 + y13));
let v15 : (List Int) := (List.set v9 0 v14);
let v16 : Int := (List.getD v15 4 (0 : Int));
let v17 : Int := (IntKind.u32.wrap (v16 + v8));
let v18 : (List Int) := (List.set v15 4 v17);
k v18
theorem q118 (F123 : FT123) (F124 : FT124) (F : FT118) (R : Type) (x : AT (en118 F).ins) (k : RT (en118 F).outs → PT (en118 F).ins → Option R) :
  xfun (e118 F123 F124 R) (codeOf Try.f118) res118 (avs (en118 F).ins x) (finK (en118 F).outs (en118 F).ins k) = p118 F123 F124 R x.1 x.2.1 x.2.2.1 (fun y1 => k (y1, ()) ()) := by kernel_rfl
noncomputable def F118 : FT118 := p118 F123 F124
theorem env118 (R : Type) : EnvOK Try.prog (e118 F123 F124 R) := ⟨tabOK, eqOK, callOf_ok (allE_cons ok123 (allE_cons ok124 allE_nil))⟩
theorem ok118 : (en118 F118).OK Try.prog :=
  ent_ok (Ef := fun R => e118 F123 F124 R) (fun R => env118 R) mixed Try.func118 (body := codeOf Try.f118) (by kernel_rfl) (by kernel_rfl) (np := 0) (nt := 41) (fun _ => rfl) (fun _ => rfl) (by kernel_rfl) (res := res118) (by kernel_rfl) (fun _ => rfl) (fun _ => Nat.le_of_ble_eq_true rfl) (by
    intro R
    rw [show loopsOf (codeOf Try.f118) = [] from by kernel_rfl]
    exact allM_nil) (fun R x k => q118 F123 F124 F118 R x k)
/-! drawlot/comp.Take -/
abbrev FT108 : Type 1 := (R : Type) → (List Int) → (List Int) → ((List Int) → Option R) → Option R
def en108 (F : FT108) : Ent := ⟨108, [(false, (.arr 8 (.int .u32))), (false, (.arr 64 (.int .u8)))], [(false, (.arr 8 (.int .u32)))], fun R x k => F R x.1 x.2.1 (fun y1 => k (y1, ()) ())⟩
def res108 : List (ResultVar × TypeId × Bool) := [(.cell 4 104, 104, false)]
abbrev LT108_3 : Type 1 := (R : Type) → (List Int) → Int → (List Int) → (List Int) → (List Int) → (List Int) → ((List Int) → (List Int) → (List Int) → Option R) → Option R
def le108_3 (L : LT108_3) : LEnt := ⟨3, [.fix 2 (.ptr 0 [] (.arr 8 (.int .u32))), .fix 4 (.ptr 2 [] (.arr 8 (.int .u32))), .fix 5 (.ptr 3 [] (.arr 8 (.int .u32))), .fix 6 (.ptr 4 [] (.arr 64 (.int .u32))), .val 13 (.arr 64 (.int .u32)), .val 14 (.int .i64), .var 0 (.arr 8 (.int .u32)) false, .var 2 (.arr 8 (.int .u32)) false, .var 3 (.arr 8 (.int .u32)) false, .var 4 (.arr 64 (.int .u32)) false], 5, [(.exit 0, [.fix 2 (.ptr 0 [] (.arr 8 (.int .u32))), .fix 4 (.ptr 2 [] (.arr 8 (.int .u32))), .fix 5 (.ptr 3 [] (.arr 8 (.int .u32))), .var 0 (.arr 8 (.int .u32)) false, .var 2 (.arr 8 (.int .u32)) false, .var 3 (.arr 8 (.int .u32)) false])], fun R x ke => L R x.1 x.2.1 x.2.2.1 x.2.2.2.1 x.2.2.2.2.1 x.2.2.2.2.2.1 (fun y1 y2 y3 => ke.1 (y1, y2, y3, ()))⟩
abbrev LT108_8 : Type 1 := (R : Type) → Int → (List Int) → (List Int) → (List Int) → ((List Int) → (List Int) → Option R) → Option R
def le108_8 (L : LT108_8) : LEnt := ⟨8, [.fix 2 (.ptr 0 [] (.arr 8 (.int .u32))), .fix 4 (.ptr 2 [] (.arr 8 (.int .u32))), .fix 5 (.ptr 3 [] (.arr 8 (.int .u32))), .val 25 (.int .i64), .var 0 (.arr 8 (.int .u32)) false, .var 2 (.arr 8 (.int .u32)) false, .var 3 (.arr 8 (.int .u32)) false], 4, [(.exit 2, [.fix 4 (.ptr 2 [] (.arr 8 (.int .u32))), .fix 5 (.ptr 3 [] (.arr 8 (.int .u32))), .var 2 (.arr 8 (.int .u32)) false, .var 3 (.arr 8 (.int .u32)) false])], fun R x ke => L R x.1 x.2.1 x.2.2.1 x.2.2.2.1 (fun y1 y2 => ke.1 (y1, y2, ()))⟩
def e108 (F116 : FT116) (F117 : FT117) (F118 : FT118) (L3 : LT108_3) (L8 : LT108_8) (R : Type) : Env R := ⟨TT, EQT, 0, 38, ownOf [], callOf [en116 F116, en117 F117, en118 F118] R, loopOf [le108_3 L3, le108_8 L8] R⟩
def p108_3 (F118 : FT118) : (R : Type) → (List Int) → Int → (List Int) → (List Int) → (List Int) → (List Int) → ((List Int) → Int → (List Int) → (List Int) → (List Int) → (List Int) → Option R) → ((List Int) → (List Int) → (List Int) → Option R) → Option R := fun R x1 x2 x3 x4 x5 x6 kc k0 =>
let v7 : Bool := (decide (x2 < (64 : Int)));
(match v7 with
| true => (match (bnd x2 (64 : Int)) with
| true => let v8 : Int := (List.getD x1 (Int.toNat x2) (0 : Int));
(match (bnd x2 (64 : Int)) with
| true => let v9 : Int := (List.getD x6 (Int.toNat x2) (0 : Int));
F118 R x5 v8 v9 fun y10 =>
let v11 : Int := (IntKind.i64.wrap (x2 + (1 : Int)));
kc x1 v11 x3 x4 y10 x6
| false => none)
| false => none)
| false => k0 x3 x4 x5)
theorem q108_3 (F116 : FT116) (F117 : FT117) (F118 : FT118) (L3 : LT108_3) (L8 : LT108_8) (R : Type) (x : HT (le108_3 L3).H) (kc : HT (le108_3 L3).H → Option R) (ke : KT R (le108_3 L3).exs) :
  exec (e108 F116 F117 F118 L3 L8 R) (lcode 3 (codeOf Try.f108)) (stOf (le108_3 L3).H x 5) (roundK (le108_3 L3).H (le108_3 L3).exs kc ke) =
    p108_3 F118 R x.1 x.2.1 x.2.2.1 x.2.2.2.1 x.2.2.2.2.1 x.2.2.2.2.2.1 (fun x1 x2 x3 x4 x5 x6 => kc (x1, x2, x3, x4, x5, x6, ())) (fun y1 y2 y3 => ke.1 (y1, y2, y3, ())) := by kernel_rfl
noncomputable def G108_3 : Nat → LT108_3
  | 0 => fun _ _ _ _ _ _ _ _ => none
  | n + 1 => fun R x1 x2 x3 x4 x5 x6 k0 => p108_3 F118 R x1 x2 x3 x4 x5 x6 (fun x1 x2 x3 x4 x5 x6 => G108_3 n R x1 x2 x3 x4 x5 x6 k0) k0
def p108_8 : (R : Type) → Int → (List Int) → (List Int) → (List Int) → (Int → (List Int) → (List Int) → (List Int) → Option R) → ((List Int) → (List Int) → Option R) → Option R := fun R x1 x2 x3 x4 kc k0 =>
let v5 : Bool := (decide (x1 < (8 : Int)));
(match v5 with
| true => (match (bnd x1 (8 : Int)) with
| true => let v6 : Int := (List.getD x4 (Int.toNat x1) (0 : Int));
(match (bnd x1 (8 : Int)) with
| true => let v7 : Int := (List.getD x2 (Int.toNat x1) (0 : Int));
let v8 : Int := (IntKind.u32.wrap (v6 + v7));
(match (bnd x1 (8 : Int)) with
| true => let v9 : (List Int) := (List.set x4 (Int.toNat x1) v8);
let v10 : Int := (IntKind.i64.wrap (x1 + (1 : Int)));
kc v10 x2 x3 v9
| false => none)
| false => none)
| false => none)
| false => k0 x3 x4)
theorem q108_8 (F116 : FT116) (F117 : FT117) (F118 : FT118) (L3 : LT108_3) (L8 : LT108_8) (R : Type) (x : HT (le108_8 L8).H) (kc : HT (le108_8 L8).H → Option R) (ke : KT R (le108_8 L8).exs) :
  exec (e108 F116 F117 F118 L3 L8 R) (lcode 8 (codeOf Try.f108)) (stOf (le108_8 L8).H x 4) (roundK (le108_8 L8).H (le108_8 L8).exs kc ke) =
    p108_8 R x.1 x.2.1 x.2.2.1 x.2.2.2.1 (fun x1 x2 x3 x4 => kc (x1, x2, x3, x4, ())) (fun y1 y2 => ke.1 (y1, y2, ())) := by kernel_rfl
noncomputable def G108_8 : Nat → LT108_8
  | 0 => fun _ _ _ _ _ _ => none
  | n + 1 => fun R x1 x2 x3 x4 k0 => p108_8 R x1 x2 x3 x4 (fun x1 x2 x3 x4 => G108_8 n R x1 x2 x3 x4 k0) k0
def p108 (F116 : FT116) (F117 : FT117) (L3 : LT108_3) (L8 : LT108_8) : FT108 := fun R a0 a1 k =>
F116 R  fun y1 =>
F117 R a1 fun y2 =>
L3 R y2 (0 : Int) a0 (List.replicate 8 (0 : Int)) a0 y1 (fun x3 x4 x5 =>
L8 R (0 : Int) x3 x4 x5 (fun x6 x7 =>
k x7))
theorem q108 (F116 : FT116) (F117 : FT117) (F118 : FT118) (L3 : LT108_3) (L8 : LT108_8) (F : FT108) (R : Type) (x : AT (en108 F).ins) (k : RT (en108 F).outs → PT (en108 F).ins → Option R) :
  xfun (e108 F116 F117 F118 L3 L8 R) (codeOf Try.f108) res108 (avs (en108 F).ins x) (finK (en108 F).outs (en108 F).ins k) = p108 F116 F117 L3 L8 R x.1 x.2.1 (fun y1 => k (y1, ()) ()) := by kernel_rfl
noncomputable def F108 : FT108 := p108 F116 F117 (G108_3 FUEL) (G108_8 FUEL)
theorem env108 (R : Type) : EnvOK Try.prog (e108 F116 F117 F118 (G108_3 FUEL) (G108_8 FUEL) R) := ⟨tabOK, eqOK, callOf_ok (allE_cons ok116 (allE_cons ok117 (allE_cons ok118 allE_nil)))⟩
noncomputable def T108_3 : (R : Type) → HT (le108_3 (G108_3 FUEL)).H → (HT (le108_3 (G108_3 FUEL)).H → Option R) → KT R (le108_3 (G108_3 FUEL)).exs → Option R := fun R x kc ke => p108_3 F118 R x.1 x.2.1 x.2.2.1 x.2.2.2.1 x.2.2.2.2.1 x.2.2.2.2.2.1 (fun x1 x2 x3 x4 x5 x6 => kc (x1, x2, x3, x4, x5, x6, ())) (fun y1 y2 y3 => ke.1 (y1, y2, y3, ()))
theorem it108_3 : ∀ (n : Nat) (R : Type) (x : HT (le108_3 (G108_3 FUEL)).H) (ke : KT R (le108_3 (G108_3 FUEL)).exs), iter T108_3 n R x ke = G108_3 n R x.1 x.2.1 x.2.2.1 x.2.2.2.1 x.2.2.2.2.1 x.2.2.2.2.2.1 (fun y1 y2 y3 => ke.1 (y1, y2, y3, ())) := by
  intro n
  induction n with
  | zero => intro R x ke; rfl
  | succ n ih =>
    intro R x ke
    show T108_3 R x (fun x' => iter T108_3 n R x' ke) ke = _
    rw [show (fun x' => iter T108_3 n R x' ke) = fun x => G108_3 n R x.1 x.2.1 x.2.2.1 x.2.2.2.1 x.2.2.2.2.1 x.2.2.2.2.2.1 (fun y1 y2 y3 => ke.1 (y1, y2, y3, ())) from funext fun x' => ih R x' ke]
    rfl
theorem lok108_3 : (le108_3 (G108_3 FUEL)).OK Try.prog 0 38 (lcode 3 (codeOf Try.f108)) := fun R x ke r h =>
  iter_sound (fun R => e108 F116 F117 F118 (G108_3 FUEL) (G108_8 FUEL) R) 0 38 (fun _ => rfl) (fun _ => rfl) (fun R => env108 R) mixed (by
    intro R
    rw [show loopsOf (lcode 3 (codeOf Try.f108)) = [] from by kernel_rfl]
    exact allM_nil) (T := T108_3) (fun R x kc ke => q108_3 F116 F117 F118 (G108_3 FUEL) (G108_8 FUEL) R x kc ke) FUEL R x ke r ((it108_3 FUEL R x ke).trans h)
noncomputable def T108_8 : (R : Type) → HT (le108_8 (G108_8 FUEL)).H → (HT (le108_8 (G108_8 FUEL)).H → Option R) → KT R (le108_8 (G108_8 FUEL)).exs → Option R := fun R x kc ke => p108_8 R x.1 x.2.1 x.2.2.1 x.2.2.2.1 (fun x1 x2 x3 x4 => kc (x1, x2, x3, x4, ())) (fun y1 y2 => ke.1 (y1, y2, ()))
theorem it108_8 : ∀ (n : Nat) (R : Type) (x : HT (le108_8 (G108_8 FUEL)).H) (ke : KT R (le108_8 (G108_8 FUEL)).exs), iter T108_8 n R x ke = G108_8 n R x.1 x.2.1 x.2.2.1 x.2.2.2.1 (fun y1 y2 => ke.1 (y1, y2, ())) := by
  intro n
  induction n with
  | zero => intro R x ke; rfl
  | succ n ih =>
    intro R x ke
    show T108_8 R x (fun x' => iter T108_8 n R x' ke) ke = _
    rw [show (fun x' => iter T108_8 n R x' ke) = fun x => G108_8 n R x.1 x.2.1 x.2.2.1 x.2.2.2.1 (fun y1 y2 => ke.1 (y1, y2, ())) from funext fun x' => ih R x' ke]
    rfl
theorem lok108_8 : (le108_8 (G108_8 FUEL)).OK Try.prog 0 38 (lcode 8 (codeOf Try.f108)) := fun R x ke r h =>
  iter_sound (fun R => e108 F116 F117 F118 (G108_3 FUEL) (G108_8 FUEL) R) 0 38 (fun _ => rfl) (fun _ => rfl) (fun R => env108 R) mixed (by
    intro R
    rw [show loopsOf (lcode 8 (codeOf Try.f108)) = [] from by kernel_rfl]
    exact allM_nil) (T := T108_8) (fun R x kc ke => q108_8 F116 F117 F118 (G108_3 FUEL) (G108_8 FUEL) R x kc ke) FUEL R x ke r ((it108_8 FUEL R x ke).trans h)
theorem ok108 : (en108 F108).OK Try.prog :=
  ent_ok (Ef := fun R => e108 F116 F117 F118 (G108_3 FUEL) (G108_8 FUEL) R) (fun R => env108 R) mixed Try.func108 (body := codeOf Try.f108) (by kernel_rfl) (by kernel_rfl) (np := 0) (nt := 38) (fun _ => rfl) (fun _ => rfl) (by kernel_rfl) (res := res108) (by kernel_rfl) (fun _ => rfl) (fun _ => Nat.le_of_ble_eq_true rfl) (by
    intro R
    rw [show loopsOf (codeOf Try.f108) = [lcode 3 (codeOf Try.f108), lcode 8 (codeOf Try.f108)] from by kernel_rfl]
    exact (allM_cons (loop_ok2 (e := le108_3 (G108_3 FUEL)) rfl rfl lok108_3) (allM_cons (loop_ok2 (e := le108_8 (G108_8 FUEL)) rfl rfl lok108_8) allM_nil))) (fun R x k => q108 F116 F117 F118 (G108_3 FUEL) (G108_8 FUEL) F108 R x k)
/-! (*drawlot/sha.writer).take -/
abbrev FT101 : Type 1 := (R : Type) → (((List Int) × ((List Int) × (Int × Unit))) × Unit) → (List Int) → ((List Int) → (((List Int) × ((List Int) × (Int × Unit))) × Unit) → Option R) → Option R
def en101 (F : FT101) : Ent := ⟨101, [(true, (.pair (.pair (.arr 8 (.int .u32)) (.pair (.sl (.int .u8)) (.pair (.int .u64) .unit))) .unit)), (false, (.sl (.int .u8)))], [(false, (.sl (.int .u8)))], fun R x k => F R x.1 x.2.1 (fun y1 p1 => k (y1, ()) (p1, ()))⟩
def res101 : List (ResultVar × TypeId × Bool) := [(.tmp 4, 46, false)]
abbrev LT101_3 : Type 1 := (R : Type) → (List Int) → (List (List Int)) → Int → Int → (((List Int) × ((List Int) × (Int × Unit))) × Unit) → ((List Int) → (((List Int) × ((List Int) × (Int × Unit))) × Unit) → Option R) → Option R
def le101_3 (L : LT101_3) : LEnt := ⟨3, [.fix 0 (.ptr 0 [] (.pair (.pair (.arr 8 (.int .u32)) (.pair (.sl (.int .u8)) (.pair (.int .u64) .unit))) .unit)), .val 6 (.sl (.int .u8)), .val 14 (.sl (.arr 64 (.int .u8))), .val 15 (.int .i64), .val 16 (.int .i64), .var 0 (.pair (.pair (.arr 8 (.int .u32)) (.pair (.sl (.int .u8)) (.pair (.int .u64) .unit))) .unit) false], 1, [(.exit 0, [.val 6 (.sl (.int .u8)), .var 0 (.pair (.pair (.arr 8 (.int .u32)) (.pair (.sl (.int .u8)) (.pair (.int .u64) .unit))) .unit) false])], fun R x ke => L R x.1 x.2.1 x.2.2.1 x.2.2.2.1 x.2.2.2.2.1 (fun y1 y2 => ke.1 (y1, y2, ()))⟩
def e101 (F107 : FT107) (F108 : FT108) (L3 : LT101_3) (R : Type) : Env R := ⟨TT, EQT, 1, 33, ownOf [], callOf [en107 F107, en108 F108] R, loopOf [le101_3 L3] R⟩
def p101_3 (F108 : FT108) : (R : Type) → (List Int) → (List (List Int)) → Int → Int → (((List Int) × ((List Int) × (Int × Unit))) × Unit) → ((List Int) → (List (List Int)) → Int → Int → (((List Int) × ((List Int) × (Int × Unit))) × Unit) → Option R) → ((List Int) → (((List Int) × ((List Int) × (Int × Unit))) × Unit) → Option R) → Option R := fun R x1 x2 x3 x4 x5 kc k0 =>
let v6 : Bool := (decide (x4 < x3));
(match v6 with
| true => (match (bnd x4 (List.length x2 : Int)) with
| true => let v7 : (List Int) := (List.getD x2 (Int.toNat x4) (List.replicate 64 (0 : Int)));
F108 R x5.1.1 v7 fun y8 =>
let v9 : Int := (IntKind.i64.wrap (x4 + (1 : Int)));
kc x1 x2 x3 v9 ((y8, x5.1.2), x5.2)
| false => none)
| false => k0 x1 x5)
theorem q101_3 (F107 : FT107) (F108 : FT108) (L3 : LT101_3) (R : Type) (x : HT (le101_3 L3).H) (kc : HT (le101_3 L3).H → Option R) (ke : KT R (le101_3 L3).exs) :
  exec (e101 F107 F108 L3 R) (lcode 3 (codeOf Try.f101)) (stOf (le101_3 L3).H x 1) (roundK (le101_3 L3).H (le101_3 L3).exs kc ke) =
    p101_3 F108 R x.1 x.2.1 x.2.2.1 x.2.2.2.1 x.2.2.2.2.1 (fun x1 x2 x3 x4 x5 => kc (x1, x2, x3, x4, x5, ())) (fun y1 y2 => ke.1 (y1, y2, ())) := by kernel_rfl
noncomputable def G101_3 : Nat → LT101_3
  | 0 => fun _ _ _ _ _ _ _ => none
  | n + 1 => fun R x1 x2 x3 x4 x5 k0 => p101_3 F108 R x1 x2 x3 x4 x5 (fun x1 x2 x3 x4 x5 => G101_3 n R x1 x2 x3 x4 x5 k0) k0
def p101 (F107 : FT107) (L3 : LT101_3) : FT101 := fun R a0 a1 k =>
F107 R a1 fun y1 y2 =>
let v3 : Int := (List.length y1 : Int);
L3 R y2 y1 v3 (0 : Int) a0 (fun x4 x5 =>
k x4 x5)
theorem q101 (F107 : FT107) (F108 : FT108) (L3 : LT101_3) (F : FT101) (R : Type) (x : AT (en101 F).ins) (k : RT (en101 F).outs → PT (en101 F).ins → Option R) :
  xfun (e101 F107 F108 L3 R) (codeOf Try.f101) res101 (avs (en101 F).ins x) (finK (en101 F).outs (en101 F).ins k) = p101 F107 L3 R x.1 x.2.1 (fun y1 p1 => k (y1, ()) (p1, ())) := by kernel_rfl
noncomputable def F101 : FT101 := p101 F107 (G101_3 FUEL)
theorem env101 (R : Type) : EnvOK Try.prog (e101 F107 F108 (G101_3 FUEL) R) := ⟨tabOK, eqOK, callOf_ok (allE_cons ok107 (allE_cons ok108 allE_nil))⟩
noncomputable def T101_3 : (R : Type) → HT (le101_3 (G101_3 FUEL)).H → (HT (le101_3 (G101_3 FUEL)).H → Option R) → KT R (le101_3 (G101_3 FUEL)).exs → Option R := fun R x kc ke => p101_3 F108 R x.1 x.2.1 x.2.2.1 x.2.2.2.1 x.2.2.2.2.1 (fun x1 x2 x3 x4 x5 => kc (x1, x2, x3, x4, x5, ())) (fun y1 y2 => ke.1 (y1, y2, ()))
theorem it101_3 : ∀ (n : Nat) (R : Type) (x : HT (le101_3 (G101_3 FUEL)).H) (ke : KT R (le101_3 (G101_3 FUEL)).exs), iter T101_3 n R x ke = G101_3 n R x.1 x.2.1 x.2.2.1 x.2.2.2.1 x.2.2.2.2.1 (fun y1 y2 => ke.1 (y1, y2, ())) := by
  intro n
  induction n with
  | zero => intro R x ke; rfl
  | succ n ih =>
    intro R x ke
    show T101_3 R x (fun x' => iter T101_3 n R x' ke) ke = _
    rw [show (fun x' => iter T101_3 n R x' ke) = fun x => G101_3 n R x.1 x.2.1 x.2.2.1 x.2.2.2.1 x.2.2.2.2.1 (fun y1 y2 => ke.1 (y1, y2, ())) from funext fun x' => ih R x' ke]
    rfl
theorem lok101_3 : (le101_3 (G101_3 FUEL)).OK Try.prog 1 33 (lcode 3 (codeOf Try.f101)) := fun R x ke r h =>
  iter_sound (fun R => e101 F107 F108 (G101_3 FUEL) R) 1 33 (fun _ => rfl) (fun _ => rfl) (fun R => env101 R) mixed (by
    intro R
    rw [show loopsOf (lcode 3 (codeOf Try.f101)) = [] from by kernel_rfl]
    exact allM_nil) (T := T101_3) (fun R x kc ke => q101_3 F107 F108 (G101_3 FUEL) R x kc ke) FUEL R x ke r ((it101_3 FUEL R x ke).trans h)
theorem ok101 : (en101 F101).OK Try.prog :=
  ent_ok (Ef := fun R => e101 F107 F108 (G101_3 FUEL) R) (fun R => env101 R) mixed Try.func101 (body := codeOf Try.f101) (by kernel_rfl) (by kernel_rfl) (np := 1) (nt := 33) (fun _ => rfl) (fun _ => rfl) (by kernel_rfl) (res := res101) (by kernel_rfl) (fun _ => rfl) (fun _ => Nat.le_of_ble_eq_true rfl) (by
    intro R
    rw [show loopsOf (codeOf Try.f101) = [lcode 3 (codeOf Try.f101)] from by kernel_rfl]
    exact (allM_cons (loop_ok2 (e := le101_3 (G101_3 FUEL)) rfl rfl lok101_3) allM_nil)) (fun R x k => q101 F107 F108 (G101_3 FUEL) F101 R x k)
/-! (*drawlot/sha.writer).write -/
abbrev FT98 : Type 1 := (R : Type) → (((List Int) × ((List Int) × (Int × Unit))) × Unit) → (List Int) → ((((List Int) × ((List Int) × (Int × Unit))) × Unit) → Option R) → Option R
def en98 (F : FT98) : Ent := ⟨98, [(true, (.pair (.pair (.arr 8 (.int .u32)) (.pair (.sl (.int .u8)) (.pair (.int .u64) .unit))) .unit)), (false, (.sl (.int .u8)))], [], fun R x k => F R x.1 x.2.1 (fun p1 => k () (p1, ()))⟩
def res98 : List (ResultVar × TypeId × Bool) := []
def e98 (F80 : FT80) (F101 : FT101) (R : Type) : Env R := ⟨TT, EQT, 1, 30, ownOf [], callOf [en80 F80, en101 F101] R, loopOf [] R⟩
def p98 (F80 : FT80) (F101 : FT101) : FT98 := fun R a0 a1 k =>
let v1 : Int := (List.length a1 : Int);
let v2 : Int := (IntKind.u64.wrap v1);
let v3 : Int := (IntKind.u64.wrap (a0.1.2.2.1 + v2));
F80 R a0.1.2.1 fun y4 =>
(match (decide (List.length y4 + List.length a1 ≤ 140737488355328)) with
| true => let v5 : (List Int) := (y4 ++ a1);
F101 R ((a0.1.1, a0.1.2.1, v3, a0.1.2.2.2), a0.2) v5 fun y6 p7 =>
k ((p7.1.1, y6, p7.1.2.2), p7.2)
| false => none)
theorem q98 (F80 : FT80) (F101 : FT101) (F : FT98) (R : Type) (x : AT (en98 F).ins) (k : RT (en98 F).outs → PT (en98 F).ins → Option R) :
  xfun (e98 F80 F101 R) (codeOf Try.f98) res98 (avs (en98 F).ins x) (finK (en98 F).outs (en98 F).ins k) = p98 F80 F101 R x.1 x.2.1 (fun p1 => k () (p1, ())) := by kernel_rfl
noncomputable def F98 : FT98 := p98 F80 F101
theorem env98 (R : Type) : EnvOK Try.prog (e98 F80 F101 R) := ⟨tabOK, eqOK, callOf_ok (allE_cons ok80 (allE_cons ok101 allE_nil))⟩
theorem ok98 : (en98 F98).OK Try.prog :=
  ent_ok (Ef := fun R => e98 F80 F101 R) (fun R => env98 R) mixed Try.func98 (body := codeOf Try.f98) (by kernel_rfl) (by kernel_rfl) (np := 1) (nt := 30) (fun _ => rfl) (fun _ => rfl) (by kernel_rfl) (res := res98) (by kernel_rfl) (fun _ => rfl) (fun _ => Nat.le_of_ble_eq_true rfl) (by
    intro R
    rw [show loopsOf (codeOf Try.f98) = [] from by kernel_rfl]
    exact allM_nil) (fun R x k => q98 F80 F101 F98 R x k)
/-! drawlot/sha.Write -/
abbrev FT90 : Type 1 := (R : Type) → ((List Int) × ((List Int) × (Int × Unit))) → (List (List Int)) → (((List Int) × ((List Int) × (Int × Unit))) → Int → Option R) → Option R
def en90 (F : FT90) : Ent := ⟨90, [(false, (.pair (.arr 8 (.int .u32)) (.pair (.sl (.int .u8)) (.pair (.int .u64) .unit)))), (false, (.sl (.sl (.int .u8))))], [(false, (.pair (.arr 8 (.int .u32)) (.pair (.sl (.int .u8)) (.pair (.int .u64) .unit)))), (false, (.int .i64))], fun R x k => F R x.1 x.2.1 (fun y1 y2 => k (y1, y2, ()) ())⟩
def res90 : List (ResultVar × TypeId × Bool) := [(.cell 4 109, 109, false), (.tmp 5, 61, false)]
abbrev LT90_5 : Type 1 := (R : Type) → (List (List Int)) → Int → Int → ((List Int) × ((List Int) × (Int × Unit))) → (((List Int) × ((List Int) × (Int × Unit))) × Unit) → (Int → ((List Int) × ((List Int) × (Int × Unit))) → Option R) → (((List Int) × ((List Int) × (Int × Unit))) → (((List Int) × ((List Int) × (Int × Unit))) × Unit) → Option R) → Option R
def le90_5 (L : LT90_5) : LEnt := ⟨5, [.fix 4 (.ptr 1 [] (.pair (.arr 8 (.int .u32)) (.pair (.sl (.int .u8)) (.pair (.int .u64) .unit)))), .fix 6 (.ptr 2 [] (.pair (.pair (.arr 8 (.int .u32)) (.pair (.sl (.int .u8)) (.pair (.int .u64) .unit))) .unit)), .val 15 (.sl (.sl (.int .u8))), .val 16 (.int .i64), .val 17 (.int .i64), .var 1 (.pair (.arr 8 (.int .u32)) (.pair (.sl (.int .u8)) (.pair (.int .u64) .unit))) false, .var 2 (.pair (.pair (.arr 8 (.int .u32)) (.pair (.sl (.int .u8)) (.pair (.int .u64) .unit))) .unit) false], 3, [(.ret, [.fix 4 (.ptr 1 [] (.pair (.arr 8 (.int .u32)) (.pair (.sl (.int .u8)) (.pair (.int .u64) .unit)))), .val 5 (.int .i64), .var 1 (.pair (.arr 8 (.int .u32)) (.pair (.sl (.int .u8)) (.pair (.int .u64) .unit))) false]), (.exit 0, [.fix 4 (.ptr 1 [] (.pair (.arr 8 (.int .u32)) (.pair (.sl (.int .u8)) (.pair (.int .u64) .unit)))), .fix 6 (.ptr 2 [] (.pair (.pair (.arr 8 (.int .u32)) (.pair (.sl (.int .u8)) (.pair (.int .u64) .unit))) .unit)), .var 1 (.pair (.arr 8 (.int .u32)) (.pair (.sl (.int .u8)) (.pair (.int .u64) .unit))) false, .var 2 (.pair (.pair (.arr 8 (.int .u32)) (.pair (.sl (.int .u8)) (.pair (.int .u64) .unit))) .unit) false])], fun R x ke => L R x.1 x.2.1 x.2.2.1 x.2.2.2.1 x.2.2.2.2.1 (fun y1 y2 => ke.1 (y1, y2, ())) (fun y1 y2 => ke.2.1 (y1, y2, ()))⟩
def e90 (F97 : FT97) (F98 : FT98) (L5 : LT90_5) (R : Type) : Env R := ⟨TT, EQT, 0, 31, ownOf [], callOf [en97 F97, en98 F98] R, loopOf [le90_5 L5] R⟩
def p90_5 (F98 : FT98) : (R : Type) → (List (List Int)) → Int → Int → ((List Int) × ((List Int) × (Int × Unit))) → (((List Int) × ((List Int) × (Int × Unit))) × Unit) → ((List (List Int)) → Int → Int → ((List Int) × ((List Int) × (Int × Unit))) → (((List Int) × ((List Int) × (Int × Unit))) × Unit) → Option R) → (Int → ((List Int) × ((List Int) × (Int × Unit))) → Option R) → (((List Int) × ((List Int) × (Int × Unit))) → (((List Int) × ((List Int) × (Int × Unit))) × Unit) → Option R) → Option R := fun R x1 x2 x3 x4 x5 kc k0 k1 =>
let v6 : Bool := (decide (x3 < x2));
(match v6 with
| true => (match (bnd x3 (List.length x1 : Int)) with
| true => let v7 : (List Int) := (List.getD x1 (Int.toNat x3) ([] : (List Int)));
F98 R x5 v7 fun p8 =>
let v9 : Bool := (decide (p8.1.2.2.1 ≥ (2305843009213693952 : Int)));
(match v9 with
| true => k0 (11 : Int) ((List.replicate 8 (0 : Int)), ([] : (List Int)), (0 : Int), ())
| false => let v10 : Int := (IntKind.i64.wrap (x3 + (1 : Int)));
kc x1 x2 v10 x4 p8)
| false => none)
| false => k1 x4 x5)
theorem q90_5 (F97 : FT97) (F98 : FT98) (L5 : LT90_5) (R : Type) (x : HT (le90_5 L5).H) (kc : HT (le90_5 L5).H → Option R) (ke : KT R (le90_5 L5).exs) :
  exec (e90 F97 F98 L5 R) (lcode 5 (codeOf Try.f90)) (stOf (le90_5 L5).H x 3) (roundK (le90_5 L5).H (le90_5 L5).exs kc ke) =
    p90_5 F98 R x.1 x.2.1 x.2.2.1 x.2.2.2.1 x.2.2.2.2.1 (fun x1 x2 x3 x4 x5 => kc (x1, x2, x3, x4, x5, ())) (fun y1 y2 => ke.1 (y1, y2, ())) (fun y1 y2 => ke.2.1 (y1, y2, ())) := by kernel_rfl
noncomputable def G90_5 : Nat → LT90_5
  | 0 => fun _ _ _ _ _ _ _ _ => none
  | n + 1 => fun R x1 x2 x3 x4 x5 k0 k1 => p90_5 F98 R x1 x2 x3 x4 x5 (fun x1 x2 x3 x4 x5 => G90_5 n R x1 x2 x3 x4 x5 k0 k1) k0 k1
def p90 (F97 : FT97) (L5 : LT90_5) : FT90 := fun R a0 a1 k =>
F97 R a0 fun y1 =>
(match (!y1) with
| true => k ((List.replicate 8 (0 : Int)), ([] : (List Int)), (0 : Int), ()) (1 : Int)
| false => let v2 : Int := (List.length a1 : Int);
L5 R a1 v2 (0 : Int) ((List.replicate 8 (0 : Int)), ([] : (List Int)), (0 : Int), ()) (a0, ()) (fun x3 x4 =>
k x4 x3) (fun x5 x6 =>
k x6.1 (0 : Int)))
theorem q90 (F97 : FT97) (F98 : FT98) (L5 : LT90_5) (F : FT90) (R : Type) (x : AT (en90 F).ins) (k : RT (en90 F).outs → PT (en90 F).ins → Option R) :
  xfun (e90 F97 F98 L5 R) (codeOf Try.f90) res90 (avs (en90 F).ins x) (finK (en90 F).outs (en90 F).ins k) = p90 F97 L5 R x.1 x.2.1 (fun y1 y2 => k (y1, y2, ()) ()) := by kernel_rfl
noncomputable def F90 : FT90 := p90 F97 (G90_5 FUEL)
theorem env90 (R : Type) : EnvOK Try.prog (e90 F97 F98 (G90_5 FUEL) R) := ⟨tabOK, eqOK, callOf_ok (allE_cons ok97 (allE_cons ok98 allE_nil))⟩
noncomputable def T90_5 : (R : Type) → HT (le90_5 (G90_5 FUEL)).H → (HT (le90_5 (G90_5 FUEL)).H → Option R) → KT R (le90_5 (G90_5 FUEL)).exs → Option R := fun R x kc ke => p90_5 F98 R x.1 x.2.1 x.2.2.1 x.2.2.2.1 x.2.2.2.2.1 (fun x1 x2 x3 x4 x5 => kc (x1, x2, x3, x4, x5, ())) (fun y1 y2 => ke.1 (y1, y2, ())) (fun y1 y2 => ke.2.1 (y1, y2, ()))
theorem it90_5 : ∀ (n : Nat) (R : Type) (x : HT (le90_5 (G90_5 FUEL)).H) (ke : KT R (le90_5 (G90_5 FUEL)).exs), iter T90_5 n R x ke = G90_5 n R x.1 x.2.1 x.2.2.1 x.2.2.2.1 x.2.2.2.2.1 (fun y1 y2 => ke.1 (y1, y2, ())) (fun y1 y2 => ke.2.1 (y1, y2, ())) := by
  intro n
  induction n with
  | zero => intro R x ke; rfl
  | succ n ih =>
    intro R x ke
    show T90_5 R x (fun x' => iter T90_5 n R x' ke) ke = _
    rw [show (fun x' => iter T90_5 n R x' ke) = fun x => G90_5 n R x.1 x.2.1 x.2.2.1 x.2.2.2.1 x.2.2.2.2.1 (fun y1 y2 => ke.1 (y1, y2, ())) (fun y1 y2 => ke.2.1 (y1, y2, ())) from funext fun x' => ih R x' ke]
    rfl
theorem lok90_5 : (le90_5 (G90_5 FUEL)).OK Try.prog 0 31 (lcode 5 (codeOf Try.f90)) := fun R x ke r h =>
  iter_sound (fun R => e90 F97 F98 (G90_5 FUEL) R) 0 31 (fun _ => rfl) (fun _ => rfl) (fun R => env90 R) mixed (by
    intro R
    rw [show loopsOf (lcode 5 (codeOf Try.f90)) = [] from by kernel_rfl]
    exact allM_nil) (T := T90_5) (fun R x kc ke => q90_5 F97 F98 (G90_5 FUEL) R x kc ke) FUEL R x ke r ((it90_5 FUEL R x ke).trans h)
theorem ok90 : (en90 F90).OK Try.prog :=
  ent_ok (Ef := fun R => e90 F97 F98 (G90_5 FUEL) R) (fun R => env90 R) mixed Try.func90 (body := codeOf Try.f90) (by kernel_rfl) (by kernel_rfl) (np := 0) (nt := 31) (fun _ => rfl) (fun _ => rfl) (by kernel_rfl) (res := res90) (by kernel_rfl) (fun _ => rfl) (fun _ => Nat.le_of_ble_eq_true rfl) (by
    intro R
    rw [show loopsOf (codeOf Try.f90) = [lcode 5 (codeOf Try.f90)] from by kernel_rfl]
    exact (allM_cons (loop_ok2 (e := le90_5 (G90_5 FUEL)) rfl rfl lok90_5) allM_nil)) (fun R x k => q90 F97 F98 (G90_5 FUEL) F90 R x k)
/-! drawlot/pad.Blocks -/
abbrev FT106 : Type 1 := (R : Type) → Int → (Int → Option R) → Option R
def en106 (F : FT106) : Ent := ⟨106, [(false, (.int .u64))], [(false, (.int .u64))], fun R x k => F R x.1 (fun y1 => k (y1, ()) ())⟩
def res106 : List (ResultVar × TypeId × Bool) := [(.tmp 2, 38, false)]
def e106 (R : Type) : Env R := ⟨TT, EQT, 0, 9, ownOf [], callOf [] R, loopOf [] R⟩
def p106 : FT106 := fun R a0 k =>
let v1 : Bool := (decide (a0 ≥ (2305843009213693952 : Int)));
(match v1 with
| true => k (0 : Int)
| false => let v2 : Int := (IntKind.u64.wrap (a0 + (8 : Int)));
let v3 : Int := (IntKind.u64.wrap (v2 + (64 : Int)));
let v4 : Int := (IntKind.u64.wrap (Int.tdiv v3 (64 : Int)));
k v4)
theorem q106 (F : FT106) (R : Type) (x : AT (en106 F).ins) (k : RT (en106 F).outs → PT (en106 F).ins → Option R) :
  xfun (e106 R) (codeOf Try.f106) res106 (avs (en106 F).ins x) (finK (en106 F).outs (en106 F).ins k) = p106 R x.1 (fun y1 => k (y1, ()) ()) := by kernel_rfl
noncomputable def F106 : FT106 := p106
theorem env106 (R : Type) : EnvOK Try.prog (e106 R) := ⟨tabOK, eqOK, callOf_ok allE_nil⟩
theorem ok106 : (en106 F106).OK Try.prog :=
  ent_ok (Ef := fun R => e106 R) (fun R => env106 R) mixed Try.func106 (body := codeOf Try.f106) (by kernel_rfl) (by kernel_rfl) (np := 0) (nt := 9) (fun _ => rfl) (fun _ => rfl) (by kernel_rfl) (res := res106) (by kernel_rfl) (fun _ => rfl) (fun _ => Nat.le_of_ble_eq_true rfl) (by
    intro R
    rw [show loopsOf (codeOf Try.f106) = [] from by kernel_rfl]
    exact allM_nil) (fun R x k => q106 F106 R x k)
/-! drawlot/word.Put64 -/
abbrev FT71 : Type 1 := (R : Type) → Int → ((List Int) → Option R) → Option R
def en71 (F : FT71) : Ent := ⟨71, [(false, (.int .u64))], [(false, (.arr 8 (.int .u8)))], fun R x k => F R x.1 (fun y1 => k (y1, ()) ())⟩
def res71 : List (ResultVar × TypeId × Bool) := [(.cell 2 84, 84, false)]
abbrev LT71_2 : Type 1 := (R : Type) → Int → Int → (List Int) → ((List Int) → Option R) → Option R
def le71_2 (L : LT71_2) : LEnt := ⟨2, [.val 0 (.int .u64), .fix 2 (.ptr 0 [] (.arr 8 (.int .u8))), .val 4 (.int .i64), .var 0 (.arr 8 (.int .u8)) false], 1, [(.exit 0, [.fix 2 (.ptr 0 [] (.arr 8 (.int .u8))), .var 0 (.arr 8 (.int .u8)) false])], fun R x ke => L R x.1 x.2.1 x.2.2.1 (fun y1 => ke.1 (y1, ()))⟩
def e71 (L2 : LT71_2) (R : Type) : Env R := ⟨TT, EQT, 0, 18, ownOf [], callOf [] R, loopOf [le71_2 L2] R⟩
def p71_2 : (R : Type) → Int → Int → (List Int) → (Int → Int → (List Int) → Option R) → ((List Int) → Option R) → Option R := fun R x1 x2 x3 kc k0 =>
let v4 : Bool := (decide (x2 < (8 : Int)));
(match v4 with
| true => let v5 : Int := (IntKind.i64.wrap ((7 : Int) - x2));
let v6 : Int := (IntKind.i64.wrap ((8 : Int) * v5));
let v7 : Int := (IntKind.u64.wrap v6);
(match (decide (0 ≤ v7)) with
| true => let v8 : Int := (ishr .u64 x1 v7);
let v9 : Int := (IntKind.u8.wrap v8);
(match (bnd x2 (8 : Int)) with
| true => let v10 : (List Int) := (List.set x3 (Int.toNat x2) v9);
let v11 : Int := (IntKind.i64.wrap (x2 + (1 : Int)));
kc x1 v11 v10
| false => none)
| false => none)
| false => k0 x3)
theorem q71_2 (L2 : LT71_2) (R : Type) (x : HT (le71_2 L2).H) (kc : HT (le71_2 L2).H → Option R) (ke : KT R (le71_2 L2).exs) :
  exec (e71 L2 R) (lcode 2 (codeOf Try.f71)) (stOf (le71_2 L2).H x 1) (roundK (le71_2 L2).H (le71_2 L2).exs kc ke) =
    p71_2 R x.1 x.2.1 x.2.2.1 (fun x1 x2 x3 => kc (x1, x2, x3, ())) (fun y1 => ke.1 (y1, ())) := by kernel_rfl
noncomputable def G71_2 : Nat → LT71_2
  | 0 => fun _ _ _ _ _ => none
  | n + 1 => fun R x1 x2 x3 k0 => p71_2 R x1 x2 x3 (fun x1 x2 x3 => G71_2 n R x1 x2 x3 k0) k0
def p71 (L2 : LT71_2) : FT71 := fun R a0 k =>
L2 R a0 (0 : Int) (List.replicate 8 (0 : Int)) (fun x1 =>
k x1)
theorem q71 (L2 : LT71_2) (F : FT71) (R : Type) (x : AT (en71 F).ins) (k : RT (en71 F).outs → PT (en71 F).ins → Option R) :
  xfun (e71 L2 R) (codeOf Try.f71) res71 (avs (en71 F).ins x) (finK (en71 F).outs (en71 F).ins k) = p71 L2 R x.1 (fun y1 => k (y1, ()) ()) := by kernel_rfl
noncomputable def F71 : FT71 := p71 (G71_2 FUEL)
theorem env71 (R : Type) : EnvOK Try.prog (e71 (G71_2 FUEL) R) := ⟨tabOK, eqOK, callOf_ok allE_nil⟩
noncomputable def T71_2 : (R : Type) → HT (le71_2 (G71_2 FUEL)).H → (HT (le71_2 (G71_2 FUEL)).H → Option R) → KT R (le71_2 (G71_2 FUEL)).exs → Option R := fun R x kc ke => p71_2 R x.1 x.2.1 x.2.2.1 (fun x1 x2 x3 => kc (x1, x2, x3, ())) (fun y1 => ke.1 (y1, ()))
theorem it71_2 : ∀ (n : Nat) (R : Type) (x : HT (le71_2 (G71_2 FUEL)).H) (ke : KT R (le71_2 (G71_2 FUEL)).exs), iter T71_2 n R x ke = G71_2 n R x.1 x.2.1 x.2.2.1 (fun y1 => ke.1 (y1, ())) := by
  intro n
  induction n with
  | zero => intro R x ke; rfl
  | succ n ih =>
    intro R x ke
    show T71_2 R x (fun x' => iter T71_2 n R x' ke) ke = _
    rw [show (fun x' => iter T71_2 n R x' ke) = fun x => G71_2 n R x.1 x.2.1 x.2.2.1 (fun y1 => ke.1 (y1, ())) from funext fun x' => ih R x' ke]
    rfl
theorem lok71_2 : (le71_2 (G71_2 FUEL)).OK Try.prog 0 18 (lcode 2 (codeOf Try.f71)) := fun R x ke r h =>
  iter_sound (fun R => e71 (G71_2 FUEL) R) 0 18 (fun _ => rfl) (fun _ => rfl) (fun R => env71 R) mixed (by
    intro R
    rw [show loopsOf (lcode 2 (codeOf Try.f71)) = [] from by kernel_rfl]
    exact allM_nil) (T := T71_2) (fun R x kc ke => q71_2 (G71_2 FUEL) R x kc ke) FUEL R x ke r ((it71_2 FUEL R x ke).trans h)
theorem ok71 : (en71 F71).OK Try.prog :=
  ent_ok (Ef := fun R => e71 (G71_2 FUEL) R) (fun R => env71 R) mixed Try.func71 (body := codeOf Try.f71) (by kernel_rfl) (by kernel_rfl) (np := 0) (nt := 18) (fun _ => rfl) (fun _ => rfl) (by kernel_rfl) (res := res71) (by kernel_rfl) (fun _ => rfl) (fun _ => Nat.le_of_ble_eq_true rfl) (by
    intro R
    rw [show loopsOf (codeOf Try.f71) = [lcode 2 (codeOf Try.f71)] from by kernel_rfl]
    exact (allM_cons (loop_ok2 (e := le71_2 (G71_2 FUEL)) rfl rfl lok71_2) allM_nil)) (fun R x k => q71 (G71_2 FUEL) F71 R x k)
/-! drawlot/pad.Tail -/
abbrev FT100 : Type 1 := (R : Type) → (List Int) → Int → ((List Int) → Bool → Option R) → Option R
def en100 (F : FT100) : Ent := ⟨100, [(false, (.sl (.int .u8))), (false, (.int .u64))], [(false, (.sl (.int .u8))), (false, .bool)], fun R x k => F R x.1 x.2.1 (fun y1 y2 => k (y1, y2, ()) ())⟩
def res100 : List (ResultVar × TypeId × Bool) := [(.tmp 4, 46, false), (.tmp 5, 4, false)]
def e100 (F71 : FT71) (F106 : FT106) (R : Type) : Env R := ⟨TT, EQT, 0, 45, ownOf [], callOf [en71 F71, en106 F106] R, loopOf [] R⟩
def p100 (F71 : FT71) (F106 : FT106) : FT100 := fun R a0 a1 k =>
let v1 : Bool := (decide (a1 ≥ (2305843009213693952 : Int)));
(match v1 with
| true => k ([] : (List Int)) false
| false => let v2 : Int := (List.length a0 : Int);
let v3 : Int := (IntKind.u64.wrap v2);
let v4 : Int := (Int.tmod a1 (64 : Int));
let v5 : Bool := (v3 != v4);
(match v5 with
| true => k ([] : (List Int)) false
| false => F106 R a1 fun y6 =>
let v7 : Int := (IntKind.u64.wrap (Int.tdiv a1 (64 : Int)));
let v8 : Int := (IntKind.u64.wrap (y6 - v7));
let v9 : Int := (IntKind.i64.wrap v8);
let v10 : Int := (IntKind.i64.wrap (v9 * (64 : Int)));
(match (decide (0 ≤ v10 ∧ v10 ≤ v10 ∧ v10 ≤ (140737488355328 : Int))) with
| true => let v11 : (List Int) := (List.replicate (Int.toNat v10) (0 : Int));
let v12 : (List Int) := (lay v11 0 (List.take (List.length v11) a0));
let v13 : Int := (List.length a0 : Int);
(match (bnd v13 (List.length v12 : Int)) with
| true => let v14 : (List Int) := (List.set v12 (Int.toNat v13) (128 : Int));
let v15 : Int := (ishl .u64 a1 (3 : Int));
F71 R v15 fun y16 =>
let v17 : Int := (IntKind.i64.wrap (v10 - (8 : Int)));
(match (decide (0 ≤ v17 ∧ v17 ≤ (List.length v14 : Int) ∧ (List.length v14 : Int) ≤ (List.length v14 : Int) ∧ (List.length v14 : Int) ≤ (List.length v14 : Int))) with
| true => let v18 : (List Int) := (lay v14 (Int.toNat v17) (List.take (Int.toNat ((List.length v14 : Int) - v17)) (List.take 8 (List.drop 0 y16))));
k v18 true
| false => none)
| false => none)
| false => none)))
theorem q100 (F71 : FT71) (F106 : FT106) (F : FT100) (R : Type) (x : AT (en100 F).ins) (k : RT (en100 F).outs → PT (en100 F).ins → Option R) :
  xfun (e100 F71 F106 R) (codeOf Try.f100) res100 (avs (en100 F).ins x) (finK (en100 F).outs (en100 F).ins k) = p100 F71 F106 R x.1 x.2.1 (fun y1 y2 => k (y1, y2, ()) ()) := by kernel_rfl
noncomputable def F100 : FT100 := p100 F71 F106
theorem env100 (R : Type) : EnvOK Try.prog (e100 F71 F106 R) := ⟨tabOK, eqOK, callOf_ok (allE_cons ok71 (allE_cons ok106 allE_nil))⟩
theorem ok100 : (en100 F100).OK Try.prog :=
  ent_ok (Ef := fun R => e100 F71 F106 R) (fun R => env100 R) mixed Try.func100 (body := codeOf Try.f100) (by kernel_rfl) (by kernel_rfl) (np := 0) (nt := 45) (fun _ => rfl) (fun _ => rfl) (by kernel_rfl) (res := res100) (by kernel_rfl) (fun _ => rfl) (fun _ => Nat.le_of_ble_eq_true rfl) (by
    intro R
    rw [show loopsOf (codeOf Try.f100) = [] from by kernel_rfl]
    exact allM_nil) (fun R x k => q100 F71 F106 F100 R x k)
/-! drawlot/word.Put32 -/
abbrev FT109 : Type 1 := (R : Type) → Int → ((List Int) → Option R) → Option R
def en109 (F : FT109) : Ent := ⟨109, [(false, (.int .u32))], [(false, (.arr 4 (.int .u8)))], fun R x k => F R x.1 (fun y1 => k (y1, ()) ())⟩
def res109 : List (ResultVar × TypeId × Bool) := [(.cell 2 119, 119, false)]
def e109 (R : Type) : Env R := ⟨TT, EQT, 0, 15, ownOf [], callOf [] R, loopOf [] R⟩
def p109 : FT109 := fun R a0 k =>
let v1 : Int := (ishr .u32 a0 (24 : Int));
let v2 : Int := (IntKind.u8.wrap v1);
let v3 : Int := (ishr .u32 a0 (16 : Int));
let v4 : Int := (IntKind.u8.wrap v3);
let v5 : Int := (ishr .u32 a0 (8 : Int));
let v6 : Int := (IntKind.u8.wrap v5);
let v7 : Int := (IntKind.u8.wrap a0);
let v8 : (List Int) := (List.set (List.set (List.set (List.set (List.replicate 4 (0 : Int)) 0 v2) 1 v4) 2 v6) 3 v7);
k v8
theorem q109 (F : FT109) (R : Type) (x : AT (en109 F).ins) (k : RT (en109 F).outs → PT (en109 F).ins → Option R) :
  xfun (e109 R) (codeOf Try.f109) res109 (avs (en109 F).ins x) (finK (en109 F).outs (en109 F).ins k) = p109 R x.1 (fun y1 => k (y1, ()) ()) := by kernel_rfl
noncomputable def F109 : FT109 := p109
theorem env109 (R : Type) : EnvOK Try.prog (e109 R) := ⟨tabOK, eqOK, callOf_ok allE_nil⟩
theorem ok109 : (en109 F109).OK Try.prog :=
  ent_ok (Ef := fun R => e109 R) (fun R => env109 R) mixed Try.func109 (body := codeOf Try.f109) (by kernel_rfl) (by kernel_rfl) (np := 0) (nt := 15) (fun _ => rfl) (fun _ => rfl) (by kernel_rfl) (res := res109) (by kernel_rfl) (fun _ => rfl) (fun _ => Nat.le_of_ble_eq_true rfl) (by
    intro R
    rw [show loopsOf (codeOf Try.f109) = [] from by kernel_rfl]
    exact allM_nil) (fun R x k => q109 F109 R x k)
/-! (*drawlot/sha.writer).hash -/
abbrev FT102 : Type 1 := (R : Type) → (((List Int) × ((List Int) × (Int × Unit))) × Unit) → ((List Int) → (((List Int) × ((List Int) × (Int × Unit))) × Unit) → Option R) → Option R
def en102 (F : FT102) : Ent := ⟨102, [(true, (.pair (.pair (.arr 8 (.int .u32)) (.pair (.sl (.int .u8)) (.pair (.int .u64) .unit))) .unit))], [(false, (.arr 32 (.int .u8)))], fun R x k => F R x.1 (fun y1 p1 => k (y1, ()) (p1, ()))⟩
def res102 : List (ResultVar × TypeId × Bool) := [(.cell 2 34, 34, false)]
abbrev LT102_2 : Type 1 := (R : Type) → (List Int) → Int → (((List Int) × ((List Int) × (Int × Unit))) × Unit) → (List Int) → ((((List Int) × ((List Int) × (Int × Unit))) × Unit) → (List Int) → Option R) → Option R
def le102_2 (L : LT102_2) : LEnt := ⟨2, [.fix 2 (.ptr 1 [] (.arr 32 (.int .u8))), .val 10 (.arr 8 (.int .u32)), .val 11 (.int .i64), .var 0 (.pair (.pair (.arr 8 (.int .u32)) (.pair (.sl (.int .u8)) (.pair (.int .u64) .unit))) .unit) false, .var 1 (.arr 32 (.int .u8)) false], 2, [(.exit 0, [.fix 2 (.ptr 1 [] (.arr 32 (.int .u8))), .var 0 (.pair (.pair (.arr 8 (.int .u32)) (.pair (.sl (.int .u8)) (.pair (.int .u64) .unit))) .unit) false, .var 1 (.arr 32 (.int .u8)) false])], fun R x ke => L R x.1 x.2.1 x.2.2.1 x.2.2.2.1 (fun y1 y2 => ke.1 (y1, y2, ()))⟩
def e102 (F109 : FT109) (L2 : LT102_2) (R : Type) : Env R := ⟨TT, EQT, 1, 24, ownOf [], callOf [en109 F109] R, loopOf [le102_2 L2] R⟩
def p102_2 (F109 : FT109) : (R : Type) → (List Int) → Int → (((List Int) × ((List Int) × (Int × Unit))) × Unit) → (List Int) → ((List Int) → Int → (((List Int) × ((List Int) × (Int × Unit))) × Unit) → (List Int) → Option R) → ((((List Int) × ((List Int) × (Int × Unit))) × Unit) → (List Int) → Option R) → Option R := fun R x1 x2 x3 x4 kc k0 =>
let v5 : Bool := (decide (x2 < (8 : Int)));
(match v5 with
| true => (match (bnd x2 (8 : Int)) with
| true => let v6 : Int := (List.getD x1 (Int.toNat x2) (0 : Int));
F109 R v6 fun y7 =>
let v8 : Int := (IntKind.i64.wrap ((4 : Int) * x2));
(match (decide (0 ≤ v8 ∧ v8 ≤ (32 : Int) ∧ (32 : Int) ≤ (32 : Int))) with
| true => let v9 : (List Int) := (lay x4 (Int.toNat v8) (List.take (Int.toNat ((32 : Int) - v8)) (List.take 4 (List.drop 0 y7))));
let v10 : Int := (IntKind.i64.wrap (x2 + (1 : Int)));
kc x1 v10 x3 v9
| false => none)
| false => none)
| false => k0 x3 x4)
theorem q102_2 (F109 : FT109) (L2 : LT102_2) (R : Type) (x : HT (le102_2 L2).H) (kc : HT (le102_2 L2).H → Option R) (ke : KT R (le102_2 L2).exs) :
  exec (e102 F109 L2 R) (lcode 2 (codeOf Try.f102)) (stOf (le102_2 L2).H x 2) (roundK (le102_2 L2).H (le102_2 L2).exs kc ke) =
    p102_2 F109 R x.1 x.2.1 x.2.2.1 x.2.2.2.1 (fun x1 x2 x3 x4 => kc (x1, x2, x3, x4, ())) (fun y1 y2 => ke.1 (y1, y2, ())) := by kernel_rfl
noncomputable def G102_2 : Nat → LT102_2
  | 0 => fun _ _ _ _ _ _ => none
  | n + 1 => fun R x1 x2 x3 x4 k0 => p102_2 F109 R x1 x2 x3 x4 (fun x1 x2 x3 x4 => G102_2 n R x1 x2 x3 x4 k0) k0
def p102 (L2 : LT102_2) : FT102 := fun R a0 k =>
L2 R a0.1.1 (0 : Int) a0 (List.replicate 32 (0 : Int)) (fun x1 x2 =>
k x2 x1)
theorem q102 (F109 : FT109) (L2 : LT102_2) (F : FT102) (R : Type) (x : AT (en102 F).ins) (k : RT (en102 F).outs → PT (en102 F).ins → Option R) :
  xfun (e102 F109 L2 R) (codeOf Try.f102) res102 (avs (en102 F).ins x) (finK (en102 F).outs (en102 F).ins k) = p102 L2 R x.1 (fun y1 p1 => k (y1, ()) (p1, ())) := by kernel_rfl
noncomputable def F102 : FT102 := p102 (G102_2 FUEL)
theorem env102 (R : Type) : EnvOK Try.prog (e102 F109 (G102_2 FUEL) R) := ⟨tabOK, eqOK, callOf_ok (allE_cons ok109 allE_nil)⟩
noncomputable def T102_2 : (R : Type) → HT (le102_2 (G102_2 FUEL)).H → (HT (le102_2 (G102_2 FUEL)).H → Option R) → KT R (le102_2 (G102_2 FUEL)).exs → Option R := fun R x kc ke => p102_2 F109 R x.1 x.2.1 x.2.2.1 x.2.2.2.1 (fun x1 x2 x3 x4 => kc (x1, x2, x3, x4, ())) (fun y1 y2 => ke.1 (y1, y2, ()))
theorem it102_2 : ∀ (n : Nat) (R : Type) (x : HT (le102_2 (G102_2 FUEL)).H) (ke : KT R (le102_2 (G102_2 FUEL)).exs), iter T102_2 n R x ke = G102_2 n R x.1 x.2.1 x.2.2.1 x.2.2.2.1 (fun y1 y2 => ke.1 (y1, y2, ())) := by
  intro n
  induction n with
  | zero => intro R x ke; rfl
  | succ n ih =>
    intro R x ke
    show T102_2 R x (fun x' => iter T102_2 n R x' ke) ke = _
    rw [show (fun x' => iter T102_2 n R x' ke) = fun x => G102_2 n R x.1 x.2.1 x.2.2.1 x.2.2.2.1 (fun y1 y2 => ke.1 (y1, y2, ())) from funext fun x' => ih R x' ke]
    rfl
theorem lok102_2 : (le102_2 (G102_2 FUEL)).OK Try.prog 1 24 (lcode 2 (codeOf Try.f102)) := fun R x ke r h =>
  iter_sound (fun R => e102 F109 (G102_2 FUEL) R) 1 24 (fun _ => rfl) (fun _ => rfl) (fun R => env102 R) mixed (by
    intro R
    rw [show loopsOf (lcode 2 (codeOf Try.f102)) = [] from by kernel_rfl]
    exact allM_nil) (T := T102_2) (fun R x kc ke => q102_2 F109 (G102_2 FUEL) R x kc ke) FUEL R x ke r ((it102_2 FUEL R x ke).trans h)
theorem ok102 : (en102 F102).OK Try.prog :=
  ent_ok (Ef := fun R => e102 F109 (G102_2 FUEL) R) (fun R => env102 R) mixed Try.func102 (body := codeOf Try.f102) (by kernel_rfl) (by kernel_rfl) (np := 1) (nt := 24) (fun _ => rfl) (fun _ => rfl) (by kernel_rfl) (res := res102) (by kernel_rfl) (fun _ => rfl) (fun _ => Nat.le_of_ble_eq_true rfl) (by
    intro R
    rw [show loopsOf (codeOf Try.f102) = [lcode 2 (codeOf Try.f102)] from by kernel_rfl]
    exact (allM_cons (loop_ok2 (e := le102_2 (G102_2 FUEL)) rfl rfl lok102_2) allM_nil)) (fun R x k => q102 F109 (G102_2 FUEL) F102 R x k)
/-! drawlot/sha.Finish -/
abbrev FT92 : Type 1 := (R : Type) → ((List Int) × ((List Int) × (Int × Unit))) → ((List Int) → Int → Option R) → Option R
def en92 (F : FT92) : Ent := ⟨92, [(false, (.pair (.arr 8 (.int .u32)) (.pair (.sl (.int .u8)) (.pair (.int .u64) .unit))))], [(false, (.arr 32 (.int .u8))), (false, (.int .i64))], fun R x k => F R x.1 (fun y1 y2 => k (y1, y2, ()) ())⟩
def res92 : List (ResultVar × TypeId × Bool) := [(.cell 2 34, 34, false), (.tmp 3, 61, false)]
def e92 (F100 : FT100) (F101 : FT101) (F102 : FT102) (R : Type) : Env R := ⟨TT, EQT, 0, 23, ownOf [], callOf [en100 F100, en101 F101, en102 F102] R, loopOf [] R⟩
def p92 (F100 : FT100) (F101 : FT101) (F102 : FT102) : FT92 := fun R a0 k =>
F100 R a0.2.1 a0.2.2.1 fun y1 y2 =>
(match (!y2) with
| true => let v3 : (List Int) := (List.replicate 32 (0 : Int));
k v3 (1 : Int)
| false => F101 R (a0, ()) y1 fun y4 p5 =>
F102 R p5 fun y6 p7 =>
k y6 (0 : Int))
theorem q92 (F100 : FT100) (F101 : FT101) (F102 : FT102) (F : FT92) (R : Type) (x : AT (en92 F).ins) (k : RT (en92 F).outs → PT (en92 F).ins → Option R) :
  xfun (e92 F100 F101 F102 R) (codeOf Try.f92) res92 (avs (en92 F).ins x) (finK (en92 F).outs (en92 F).ins k) = p92 F100 F101 F102 R x.1 (fun y1 y2 => k (y1, y2, ()) ()) := by kernel_rfl
noncomputable def F92 : FT92 := p92 F100 F101 F102
theorem env92 (R : Type) : EnvOK Try.prog (e92 F100 F101 F102 R) := ⟨tabOK, eqOK, callOf_ok (allE_cons ok100 (allE_cons ok101 (allE_cons ok102 allE_nil)))⟩
theorem ok92 : (en92 F92).OK Try.prog :=
  ent_ok (Ef := fun R => e92 F100 F101 F102 R) (fun R => env92 R) mixed Try.func92 (body := codeOf Try.f92) (by kernel_rfl) (by kernel_rfl) (np := 0) (nt := 23) (fun _ => rfl) (fun _ => rfl) (by kernel_rfl) (res := res92) (by kernel_rfl) (fun _ => rfl) (fun _ => Nat.le_of_ble_eq_true rfl) (by
    intro R
    rw [show loopsOf (codeOf Try.f92) = [] from by kernel_rfl]
    exact allM_nil) (fun R x k => q92 F100 F101 F102 F92 R x k)
/-! drawlot/sha.Sum -/
abbrev FT72 : Type 1 := (R : Type) → (List (List Int)) → ((List Int) → Option R) → Option R
def en72 (F : FT72) : Ent := ⟨72, [(false, (.sl (.sl (.int .u8))))], [(false, (.arr 32 (.int .u8)))], fun R x k => F R x.1 (fun y1 => k (y1, ()) ())⟩
def res72 : List (ResultVar × TypeId × Bool) := [(.cell 2 34, 34, false)]
def e72 (F90 : FT90) (F91 : FT91) (F92 : FT92) (R : Type) : Env R := ⟨TT, EQT, 0, 19, ownOf [], callOf [en90 F90, en91 F91, en92 F92] R, loopOf [] R⟩
def p72 (F90 : FT90) (F91 : FT91) (F92 : FT92) : FT72 := fun R a0 k =>
F91 R  fun y1 =>
F90 R y1 a0 fun y2 y3 =>
F92 R y2 fun y4 y5 =>
k y4
theorem q72 (F90 : FT90) (F91 : FT91) (F92 : FT92) (F : FT72) (R : Type) (x : AT (en72 F).ins) (k : RT (en72 F).outs → PT (en72 F).ins → Option R) :
  xfun (e72 F90 F91 F92 R) (codeOf Try.f72) res72 (avs (en72 F).ins x) (finK (en72 F).outs (en72 F).ins k) = p72 F90 F91 F92 R x.1 (fun y1 => k (y1, ()) ()) := by kernel_rfl
noncomputable def F72 : FT72 := p72 F90 F91 F92
theorem env72 (R : Type) : EnvOK Try.prog (e72 F90 F91 F92 R) := ⟨tabOK, eqOK, callOf_ok (allE_cons ok90 (allE_cons ok91 (allE_cons ok92 allE_nil)))⟩
theorem ok72 : (en72 F72).OK Try.prog :=
  ent_ok (Ef := fun R => e72 F90 F91 F92 R) (fun R => env72 R) mixed Try.func72 (body := codeOf Try.f72) (by kernel_rfl) (by kernel_rfl) (np := 0) (nt := 19) (fun _ => rfl) (fun _ => rfl) (by kernel_rfl) (res := res72) (by kernel_rfl) (fun _ => rfl) (fun _ => Nat.le_of_ble_eq_true rfl) (by
    intro R
    rw [show loopsOf (codeOf Try.f72) = [] from by kernel_rfl]
    exact allM_nil) (fun R x k => q72 F90 F91 F92 F72 R x k)
/-! drawlot/mix.Commitment -/
abbrev FT35 : Type 1 := (R : Type) → (List Int) → ((List Int) → Option R) → Option R
def en35 (F : FT35) : Ent := ⟨35, [(false, (.arr 32 (.int .u8)))], [(false, (.arr 32 (.int .u8)))], fun R x k => F R x.1 (fun y1 => k (y1, ()) ())⟩
def res35 : List (ResultVar × TypeId × Bool) := [(.cell 2 34, 34, false)]
def e35 (F72 : FT72) (R : Type) : Env R := ⟨TT, EQT, 0, 6, ownOf [], callOf [en72 F72] R, loopOf [] R⟩
def p35 (F72 : FT72) : FT35 := fun R a0 k =>
let v1 : (List (List Int)) := ([(List.take 32 (List.drop 0 a0))] : (List (List Int)));
F72 R v1 fun y2 =>
k y2
theorem q35 (F72 : FT72) (F : FT35) (R : Type) (x : AT (en35 F).ins) (k : RT (en35 F).outs → PT (en35 F).ins → Option R) :
  xfun (e35 F72 R) (codeOf Try.f35) res35 (avs (en35 F).ins x) (finK (en35 F).outs (en35 F).ins k) = p35 F72 R x.1 (fun y1 => k (y1, ()) ()) := by kernel_rfl
noncomputable def F35 : FT35 := p35 F72
theorem env35 (R : Type) : EnvOK Try.prog (e35 F72 R) := ⟨tabOK, eqOK, callOf_ok (allE_cons ok72 allE_nil)⟩
theorem ok35 : (en35 F35).OK Try.prog :=
  ent_ok (Ef := fun R => e35 F72 R) (fun R => env35 R) mixed Try.func35 (body := codeOf Try.f35) (by kernel_rfl) (by kernel_rfl) (np := 0) (nt := 6) (fun _ => rfl) (fun _ => rfl) (by kernel_rfl) (res := res35) (by kernel_rfl) (fun _ => rfl) (fun _ => Nat.le_of_ble_eq_true rfl) (by
    intro R
    rw [show loopsOf (codeOf Try.f35) = [] from by kernel_rfl]
    exact allM_nil) (fun R x k => q35 F72 F35 R x k)
/-! drawlot/drawlotref01.Put64 -/
abbrev FT74 : Type 1 := (R : Type) → Int → ((List Int) → Option R) → Option R
def en74 (F : FT74) : Ent := ⟨74, [(false, (.int .u64))], [(false, (.arr 8 (.int .u8)))], fun R x k => F R x.1 (fun y1 => k (y1, ()) ())⟩
def res74 : List (ResultVar × TypeId × Bool) := [(.cell 2 84, 84, false)]
abbrev LT74_3 : Type 1 := (R : Type) → Int → Int → (List Int) → (List Int) → ((List Int) → (List Int) → Option R) → Option R
def le74_3 (L : LT74_3) : LEnt := ⟨3, [.val 0 (.int .u64), .fix 2 (.ptr 0 [] (.arr 8 (.int .u8))), .fix 3 (.ptr 1 [] (.arr 8 (.int .u8))), .val 4 (.int .i64), .var 0 (.arr 8 (.int .u8)) false, .var 1 (.arr 8 (.int .u8)) false], 2, [(.exit 0, [.fix 2 (.ptr 0 [] (.arr 8 (.int .u8))), .fix 3 (.ptr 1 [] (.arr 8 (.int .u8))), .var 0 (.arr 8 (.int .u8)) false, .var 1 (.arr 8 (.int .u8)) false])], fun R x ke => L R x.1 x.2.1 x.2.2.1 x.2.2.2.1 (fun y1 y2 => ke.1 (y1, y2, ()))⟩
def e74 (L3 : LT74_3) (R : Type) : Env R := ⟨TT, EQT, 0, 17, ownOf [], callOf [] R, loopOf [le74_3 L3] R⟩
def p74_3 : (R : Type) → Int → Int → (List Int) → (List Int) → (Int → Int → (List Int) → (List Int) → Option R) → ((List Int) → (List Int) → Option R) → Option R := fun R x1 x2 x3 x4 kc k0 =>
let v5 : Bool := (decide (x2 ≥ (0 : Int)));
(match v5 with
| true => let v6 : Int := (Int.tmod x1 (256 : Int));
let v7 : Int := (IntKind.u8.wrap v6);
(match (bnd x2 (8 : Int)) with
| true => let v8 : (List Int) := (List.set x4 (Int.toNat x2) v7);
let v9 : Int := (IntKind.u64.wrap (Int.tdiv x1 (256 : Int)));
let v10 : Int := (IntKind.i64.wrap (x2 - (1 : Int)));
kc v9 v10 x3 v8
| false => none)
| false => k0 x3 x4)
theorem q74_3 (L3 : LT74_3) (R : Type) (x : HT (le74_3 L3).H) (kc : HT (le74_3 L3).H → Option R) (ke : KT R (le74_3 L3).exs) :
  exec (e74 L3 R) (lcode 3 (codeOf Try.f74)) (stOf (le74_3 L3).H x 2) (roundK (le74_3 L3).H (le74_3 L3).exs kc ke) =
    p74_3 R x.1 x.2.1 x.2.2.1 x.2.2.2.1 (fun x1 x2 x3 x4 => kc (x1, x2, x3, x4, ())) (fun y1 y2 => ke.1 (y1, y2, ())) := by kernel_rfl
noncomputable def G74_3 : Nat → LT74_3
  | 0 => fun _ _ _ _ _ _ => none
  | n + 1 => fun R x1 x2 x3 x4 k0 => p74_3 R x1 x2 x3 x4 (fun x1 x2 x3 x4 => G74_3 n R x1 x2 x3 x4 k0) k0
def p74 (L3 : LT74_3) : FT74 := fun R a0 k =>
L3 R a0 (7 : Int) (List.replicate 8 (0 : Int)) (List.replicate 8 (0 : Int)) (fun x1 x2 =>
k x2)
theorem q74 (L3 : LT74_3) (F : FT74) (R : Type) (x : AT (en74 F).ins) (k : RT (en74 F).outs → PT (en74 F).ins → Option R) :
  xfun (e74 L3 R) (codeOf Try.f74) res74 (avs (en74 F).ins x) (finK (en74 F).outs (en74 F).ins k) = p74 L3 R x.1 (fun y1 => k (y1, ()) ()) := by kernel_rfl
noncomputable def F74 : FT74 := p74 (G74_3 FUEL)
theorem env74 (R : Type) : EnvOK Try.prog (e74 (G74_3 FUEL) R) := ⟨tabOK, eqOK, callOf_ok allE_nil⟩
noncomputable def T74_3 : (R : Type) → HT (le74_3 (G74_3 FUEL)).H → (HT (le74_3 (G74_3 FUEL)).H → Option R) → KT R (le74_3 (G74_3 FUEL)).exs → Option R := fun R x kc ke => p74_3 R x.1 x.2.1 x.2.2.1 x.2.2.2.1 (fun x1 x2 x3 x4 => kc (x1, x2, x3, x4, ())) (fun y1 y2 => ke.1 (y1, y2, ()))
theorem it74_3 : ∀ (n : Nat) (R : Type) (x : HT (le74_3 (G74_3 FUEL)).H) (ke : KT R (le74_3 (G74_3 FUEL)).exs), iter T74_3 n R x ke = G74_3 n R x.1 x.2.1 x.2.2.1 x.2.2.2.1 (fun y1 y2 => ke.1 (y1, y2, ())) := by
  intro n
  induction n with
  | zero => intro R x ke; rfl
  | succ n ih =>
    intro R x ke
    show T74_3 R x (fun x' => iter T74_3 n R x' ke) ke = _
    rw [show (fun x' => iter T74_3 n R x' ke) = fun x => G74_3 n R x.1 x.2.1 x.2.2.1 x.2.2.2.1 (fun y1 y2 => ke.1 (y1, y2, ())) from funext fun x' => ih R x' ke]
    rfl
theorem lok74_3 : (le74_3 (G74_3 FUEL)).OK Try.prog 0 17 (lcode 3 (codeOf Try.f74)) := fun R x ke r h =>
  iter_sound (fun R => e74 (G74_3 FUEL) R) 0 17 (fun _ => rfl) (fun _ => rfl) (fun R => env74 R) mixed (by
    intro R
    rw [show loopsOf (lcode 3 (codeOf Try.f74)) = [] from by kernel_rfl]
    exact allM_nil) (T := T74_3) (fun R x kc ke => q74_3 (G74_3 FUEL) R x kc ke) FUEL R x ke r ((it74_3 FUEL R x ke).trans h)
theorem ok74 : (en74 F74).OK Try.prog :=
  ent_ok (Ef := fun R => e74 (G74_3 FUEL) R) (fun R => env74 R) mixed Try.func74 (body := codeOf Try.f74) (by kernel_rfl) (by kernel_rfl) (np := 0) (nt := 17) (fun _ => rfl) (fun _ => rfl) (by kernel_rfl) (res := res74) (by kernel_rfl) (fun _ => rfl) (fun _ => Nat.le_of_ble_eq_true rfl) (by
    intro R
    rw [show loopsOf (codeOf Try.f74) = [lcode 3 (codeOf Try.f74)] from by kernel_rfl]
    exact (allM_cons (loop_ok2 (e := le74_3 (G74_3 FUEL)) rfl rfl lok74_3) allM_nil)) (fun R x k => q74 (G74_3 FUEL) F74 R x k)
/-! drawlot/drawlotref02.Tail -/
abbrev FT94 : Type 1 := (R : Type) → (List Int) → Int → ((List Int) → Bool → Option R) → Option R
def en94 (F : FT94) : Ent := ⟨94, [(false, (.sl (.int .u8))), (false, (.int .u64))], [(false, (.sl (.int .u8))), (false, .bool)], fun R x k => F R x.1 x.2.1 (fun y1 y2 => k (y1, y2, ()) ())⟩
def res94 : List (ResultVar × TypeId × Bool) := [(.tmp 4, 46, false), (.tmp 5, 4, false)]
abbrev LT94_4 : Type 1 := (R : Type) → Int → (List Int) → (Int → (List Int) → Option R) → Option R
def le94_4 (L : LT94_4) : LEnt := ⟨4, [.val 1 (.int .u64), .fix 6 (.own 0 0), .row 0 (.int .u8) false], 1, [(.exit 0, [.val 1 (.int .u64), .fix 6 (.own 0 0), .row 0 (.int .u8) false])], fun R x ke => L R x.1 x.2.1 (fun y1 y2 => ke.1 (y1, y2, ()))⟩
abbrev LT94_8 : Type 1 := (R : Type) → Int → (List Int) → (List Int) → ((List Int) → Option R) → Option R
def le94_8 (L : LT94_8) : LEnt := ⟨8, [.fix 6 (.own 0 0), .fix 7 (.ptr 1 [] (.arr 8 (.int .u8))), .val 8 (.int .i64), .row 0 (.int .u8) false, .var 1 (.arr 8 (.int .u8)) false], 2, [(.exit 2, [.fix 6 (.own 0 0), .row 0 (.int .u8) false])], fun R x ke => L R x.1 x.2.1 x.2.2.1 (fun y1 => ke.1 (y1, ()))⟩
def e94 (F74 : FT74) (L4 : LT94_4) (L8 : LT94_8) (R : Type) : Env R := ⟨TT, EQT, 0, 45, ownOf [(3, 0)], callOf [en74 F74] R, loopOf [le94_4 L4, le94_8 L8] R⟩
def p94_4 : (R : Type) → Int → (List Int) → (Int → (List Int) → Option R) → (Int → (List Int) → Option R) → Option R := fun R x1 x2 kc k0 =>
let v3 : Int := (List.length x2 : Int);
let v4 : Int := (Int.tmod v3 (64 : Int));
let v5 : Bool := (v4 != (56 : Int));
(match v5 with
| true => let v6 : (List Int) := ([(0 : Int)] : (List Int));
(match (decide (List.length x2 + List.length v6 ≤ 140737488355328)) with
| true => let v7 : (List Int) := (x2 ++ v6);
kc x1 v7
| false => none)
| false => k0 x1 x2)
theorem q94_4 (F74 : FT74) (L4 : LT94_4) (L8 : LT94_8) (R : Type) (x : HT (le94_4 L4).H) (kc : HT (le94_4 L4).H → Option R) (ke : KT R (le94_4 L4).exs) :
  exec (e94 F74 L4 L8 R) (lcode 4 (codeOf Try.f94)) (stOf (le94_4 L4).H x 1) (roundK (le94_4 L4).H (le94_4 L4).exs kc ke) =
    p94_4 R x.1 x.2.1 (fun x1 x2 => kc (x1, x2, ())) (fun y1 y2 => ke.1 (y1, y2, ())) := by kernel_rfl
noncomputable def G94_4 : Nat → LT94_4
  | 0 => fun _ _ _ _ => none
  | n + 1 => fun R x1 x2 k0 => p94_4 R x1 x2 (fun x1 x2 => G94_4 n R x1 x2 k0) k0
def p94_8 : (R : Type) → Int → (List Int) → (List Int) → (Int → (List Int) → (List Int) → Option R) → ((List Int) → Option R) → Option R := fun R x1 x2 x3 kc k0 =>
let v4 : Bool := (decide (x1 < (8 : Int)));
(match v4 with
| true => (match (bnd x1 (8 : Int)) with
| true => let v5 : Int := (List.getD x3 (Int.toNat x1) (0 : Int));
let v6 : (List Int) := ([v5] : (List Int));
(match (decide (List.length x2 + List.length v6 ≤ 140737488355328)) with
| true => let v7 : (List Int) := (x2 ++ v6);
let v8 : Int := (IntKind.i64.wrap (x1 + (1 : Int)));
kc v8 v7 x3
| false => none)
| false => none)
| false => k0 x2)
theorem q94_8 (F74 : FT74) (L4 : LT94_4) (L8 : LT94_8) (R : Type) (x : HT (le94_8 L8).H) (kc : HT (le94_8 L8).H → Option R) (ke : KT R (le94_8 L8).exs) :
  exec (e94 F74 L4 L8 R) (lcode 8 (codeOf Try.f94)) (stOf (le94_8 L8).H x 2) (roundK (le94_8 L8).H (le94_8 L8).exs kc ke) =
    p94_8 R x.1 x.2.1 x.2.2.1 (fun x1 x2 x3 => kc (x1, x2, x3, ())) (fun y1 => ke.1 (y1, ())) := by kernel_rfl
noncomputable def G94_8 : Nat → LT94_8
  | 0 => fun _ _ _ _ _ => none
  | n + 1 => fun R x1 x2 x3 k0 => p94_8 R x1 x2 x3 (fun x1 x2 x3 => G94_8 n R x1 x2 x3 k0) k0
def p94 (F74 : FT74) (L4 : LT94_4) (L8 : LT94_8) : FT94 := fun R a0 a1 k =>
let v1 : Bool := (decide (a1 ≥ (2305843009213693952 : Int)));
(match v1 with
| true => k ([] : (List Int)) false
| false => let v2 : Int := (List.length a0 : Int);
let v3 : Int := (IntKind.u64.wrap v2);
let v4 : Int := (Int.tmod a1 (64 : Int));
let v5 : Bool := (v3 != v4);
(match v5 with
| true => k ([] : (List Int)) false
| false => let v6 : (List Int) := ([] : (List Int));
(match (decide (List.length v6 + List.length a0 ≤ 140737488355328)) with
| true => let v7 : (List Int) := (v6 ++ a0);
let v8 : (List Int) := ([(128 : Int)] : (List Int));
(match (decide (List.length v7 + List.length v8 ≤ 140737488355328)) with
| true => let v9 : (List Int) := (v7 ++ v8);
L4 R a1 v9 (fun x10 x11 =>
let v12 : Int := (IntKind.u64.wrap ((8 : Int) * x10));
F74 R v12 fun y13 =>
L8 R (0 : Int) x11 y13 (fun x14 =>
k x14 true))
| false => none)
| false => none)))
theorem q94 (F74 : FT74) (L4 : LT94_4) (L8 : LT94_8) (F : FT94) (R : Type) (x : AT (en94 F).ins) (k : RT (en94 F).outs → PT (en94 F).ins → Option R) :
  xfun (e94 F74 L4 L8 R) (codeOf Try.f94) res94 (avs (en94 F).ins x) (finK (en94 F).outs (en94 F).ins k) = p94 F74 L4 L8 R x.1 x.2.1 (fun y1 y2 => k (y1, y2, ()) ()) := by kernel_rfl
noncomputable def F94 : FT94 := p94 F74 (G94_4 FUEL) (G94_8 FUEL)
theorem env94 (R : Type) : EnvOK Try.prog (e94 F74 (G94_4 FUEL) (G94_8 FUEL) R) := ⟨tabOK, eqOK, callOf_ok (allE_cons ok74 allE_nil)⟩
noncomputable def T94_4 : (R : Type) → HT (le94_4 (G94_4 FUEL)).H → (HT (le94_4 (G94_4 FUEL)).H → Option R) → KT R (le94_4 (G94_4 FUEL)).exs → Option R := fun R x kc ke => p94_4 R x.1 x.2.1 (fun x1 x2 => kc (x1, x2, ())) (fun y1 y2 => ke.1 (y1, y2, ()))
theorem it94_4 : ∀ (n : Nat) (R : Type) (x : HT (le94_4 (G94_4 FUEL)).H) (ke : KT R (le94_4 (G94_4 FUEL)).exs), iter T94_4 n R x ke = G94_4 n R x.1 x.2.1 (fun y1 y2 => ke.1 (y1, y2, ())) := by
  intro n
  induction n with
  | zero => intro R x ke; rfl
  | succ n ih =>
    intro R x ke
    show T94_4 R x (fun x' => iter T94_4 n R x' ke) ke = _
    rw [show (fun x' => iter T94_4 n R x' ke) = fun x => G94_4 n R x.1 x.2.1 (fun y1 y2 => ke.1 (y1, y2, ())) from funext fun x' => ih R x' ke]
    rfl
theorem lok94_4 : (le94_4 (G94_4 FUEL)).OK Try.prog 0 45 (lcode 4 (codeOf Try.f94)) := fun R x ke r h =>
  iter_sound (fun R => e94 F74 (G94_4 FUEL) (G94_8 FUEL) R) 0 45 (fun _ => rfl) (fun _ => rfl) (fun R => env94 R) mixed (by
    intro R
    rw [show loopsOf (lcode 4 (codeOf Try.f94)) = [] from by kernel_rfl]
    exact allM_nil) (T := T94_4) (fun R x kc ke => q94_4 F74 (G94_4 FUEL) (G94_8 FUEL) R x kc ke) FUEL R x ke r ((it94_4 FUEL R x ke).trans h)
noncomputable def T94_8 : (R : Type) → HT (le94_8 (G94_8 FUEL)).H → (HT (le94_8 (G94_8 FUEL)).H → Option R) → KT R (le94_8 (G94_8 FUEL)).exs → Option R := fun R x kc ke => p94_8 R x.1 x.2.1 x.2.2.1 (fun x1 x2 x3 => kc (x1, x2, x3, ())) (fun y1 => ke.1 (y1, ()))
theorem it94_8 : ∀ (n : Nat) (R : Type) (x : HT (le94_8 (G94_8 FUEL)).H) (ke : KT R (le94_8 (G94_8 FUEL)).exs), iter T94_8 n R x ke = G94_8 n R x.1 x.2.1 x.2.2.1 (fun y1 => ke.1 (y1, ())) := by
  intro n
  induction n with
  | zero => intro R x ke; rfl
  | succ n ih =>
    intro R x ke
    show T94_8 R x (fun x' => iter T94_8 n R x' ke) ke = _
    rw [show (fun x' => iter T94_8 n R x' ke) = fun x => G94_8 n R x.1 x.2.1 x.2.2.1 (fun y1 => ke.1 (y1, ())) from funext fun x' => ih R x' ke]
    rfl
theorem lok94_8 : (le94_8 (G94_8 FUEL)).OK Try.prog 0 45 (lcode 8 (codeOf Try.f94)) := fun R x ke r h =>
  iter_sound (fun R => e94 F74 (G94_4 FUEL) (G94_8 FUEL) R) 0 45 (fun _ => rfl) (fun _ => rfl) (fun R => env94 R) mixed (by
    intro R
    rw [show loopsOf (lcode 8 (codeOf Try.f94)) = [] from by kernel_rfl]
    exact allM_nil) (T := T94_8) (fun R x kc ke => q94_8 F74 (G94_4 FUEL) (G94_8 FUEL) R x kc ke) FUEL R x ke r ((it94_8 FUEL R x ke).trans h)
theorem ok94 : (en94 F94).OK Try.prog :=
  ent_ok (Ef := fun R => e94 F74 (G94_4 FUEL) (G94_8 FUEL) R) (fun R => env94 R) mixed Try.func94 (body := codeOf Try.f94) (by kernel_rfl) (by kernel_rfl) (np := 0) (nt := 45) (fun _ => rfl) (fun _ => rfl) (by kernel_rfl) (res := res94) (by kernel_rfl) (fun _ => rfl) (fun _ => Nat.le_of_ble_eq_true rfl) (by
    intro R
    rw [show loopsOf (codeOf Try.f94) = [lcode 4 (codeOf Try.f94), lcode 8 (codeOf Try.f94)] from by kernel_rfl]
    exact (allM_cons (loop_ok2 (e := le94_4 (G94_4 FUEL)) rfl rfl lok94_4) (allM_cons (loop_ok2 (e := le94_8 (G94_8 FUEL)) rfl rfl lok94_8) allM_nil))) (fun R x k => q94 F74 (G94_4 FUEL) (G94_8 FUEL) F94 R x k)
/-! drawlot/drawlotref02.Pad -/
abbrev FT86 : Type 1 := (R : Type) → (List Int) → ((List Int) → Option R) → Option R
def en86 (F : FT86) : Ent := ⟨86, [(false, (.sl (.int .u8)))], [(false, (.sl (.int .u8)))], fun R x k => F R x.1 (fun y1 => k (y1, ()) ())⟩
def res86 : List (ResultVar × TypeId × Bool) := [(.tmp 2, 46, false)]
def e86 (F94 : FT94) (R : Type) : Env R := ⟨TT, EQT, 0, 29, ownOf [(3, 0)], callOf [en94 F94] R, loopOf [] R⟩
def p86 (F94 : FT94) : FT86 := fun R a0 k =>
let v1 : Int := (List.length a0 : Int);
let v2 : Int := (List.length a0 : Int);
let v3 : Int := (Int.tmod v2 (64 : Int));
let v4 : Int := (IntKind.i64.wrap (v1 - v3));
(match (decide (0 ≤ v4 ∧ v4 ≤ (List.length a0 : Int) ∧ (List.length a0 : Int) ≤ (List.length a0 : Int) ∧ (List.length a0 : Int) ≤ (List.length a0 : Int))) with
| true => let v5 : (List Int) := (List.take (Int.toNat ((List.length a0 : Int) - v4)) (List.drop (Int.toNat v4) a0));
let v6 : Int := (List.length a0 : Int);
let v7 : Int := (IntKind.u64.wrap v6);
F94 R v5 v7 fun y8 y9 =>
let v10 : (List Int) := ([] : (List Int));
(match (decide (0 ≤ (0 : Int) ∧ (0 : Int) ≤ v4 ∧ v4 ≤ v4 ∧ v4 ≤ (List.length a0 : Int))) with
| true => let v11 : (List Int) := (List.take (Int.toNat (v4 - (0 : Int))) (List.drop 0 a0));
(match (decide (List.length v10 + List.length v11 ≤ 140737488355328)) with
| true => let v12 : (List Int) := (v10 ++ v11);
(match (decide (List.length v12 + List.length y8 ≤ 140737488355328)) with
| true => let v13 : (List Int) := (v12 ++ y8);
k v13
| false => none)
| false => none)
| false => none)
| false => none)
theorem q86 (F94 : FT94) (F : FT86) (R : Type) (x : AT (en86 F).ins) (k : RT (en86 F).outs → PT (en86 F).ins → Option R) :
  xfun (e86 F94 R) (codeOf Try.f86) res86 (avs (en86 F).ins x) (finK (en86 F).outs (en86 F).ins k) = p86 F94 R x.1 (fun y1 => k (y1, ()) ()) := by kernel_rfl
noncomputable def F86 : FT86 := p86 F94
theorem env86 (R : Type) : EnvOK Try.prog (e86 F94 R) := ⟨tabOK, eqOK, callOf_ok (allE_cons ok94 allE_nil)⟩
theorem ok86 : (en86 F86).OK Try.prog :=
  ent_ok (Ef := fun R => e86 F94 R) (fun R => env86 R) mixed Try.func86 (body := codeOf Try.f86) (by kernel_rfl) (by kernel_rfl) (np := 0) (nt := 29) (fun _ => rfl) (fun _ => rfl) (by kernel_rfl) (res := res86) (by kernel_rfl) (fun _ => rfl) (fun _ => Nat.le_of_ble_eq_true rfl) (by
    intro R
    rw [show loopsOf (codeOf Try.f86) = [] from by kernel_rfl]
    exact allM_nil) (fun R x k => q86 F94 F86 R x k)
/-! drawlot/drawlotref02.Cut -/
abbrev FT85 : Type 1 := (R : Type) → (List Int) → ((List (List Int)) → (List Int) → Option R) → Option R
def en85 (F : FT85) : Ent := ⟨85, [(false, (.sl (.int .u8)))], [(false, (.sl (.arr 64 (.int .u8)))), (false, (.sl (.int .u8)))], fun R x k => F R x.1 (fun y1 y2 => k (y1, y2, ()) ())⟩
def res85 : List (ResultVar × TypeId × Bool) := [(.tmp 2, 99, false), (.tmp 3, 46, false)]
abbrev LT85_3 : Type 1 := (R : Type) → (List Int) → Int → (List (List Int)) → ((List Int) → Int → (List (List Int)) → Option R) → Option R
def le85_3 (L : LT85_3) : LEnt := ⟨3, [.val 0 (.sl (.int .u8)), .fix 4 (.own 0 0), .val 5 (.int .i64), .row 0 (.arr 64 (.int .u8)) false], 1, [(.exit 0, [.val 0 (.sl (.int .u8)), .fix 4 (.own 0 0), .val 5 (.int .i64), .row 0 (.arr 64 (.int .u8)) false])], fun R x ke => L R x.1 x.2.1 x.2.2.1 (fun y1 y2 y3 => ke.1 (y1, y2, y3, ()))⟩
abbrev LT85_6 : Type 1 := (R : Type) → (List Int) → Int → Int → (List (List Int)) → (List Int) → ((List Int) → Int → (List (List Int)) → (List Int) → Option R) → Option R
def le85_6 (L : LT85_6) : LEnt := ⟨6, [.val 0 (.sl (.int .u8)), .fix 4 (.own 0 0), .val 5 (.int .i64), .fix 6 (.ptr 1 [] (.arr 64 (.int .u8))), .val 7 (.int .i64), .row 0 (.arr 64 (.int .u8)) false, .var 1 (.arr 64 (.int .u8)) false], 2, [(.exit 2, [.val 0 (.sl (.int .u8)), .fix 4 (.own 0 0), .val 5 (.int .i64), .fix 6 (.ptr 1 [] (.arr 64 (.int .u8))), .row 0 (.arr 64 (.int .u8)) false, .var 1 (.arr 64 (.int .u8)) false])], fun R x ke => L R x.1 x.2.1 x.2.2.1 x.2.2.2.1 x.2.2.2.2.1 (fun y1 y2 y3 y4 => ke.1 (y1, y2, y3, y4, ()))⟩
def e85 (L3 : LT85_3) (L6 : LT85_6) (R : Type) : Env R := ⟨TT, EQT, 0, 35, ownOf [(1, 0)], callOf [] R, loopOf [le85_3 L3, le85_6 L6] R⟩
def p85_6 : (R : Type) → (List Int) → Int → Int → (List (List Int)) → (List Int) → ((List Int) → Int → Int → (List (List Int)) → (List Int) → Option R) → ((List Int) → Int → (List (List Int)) → (List Int) → Option R) → Option R := fun R x1 x2 x3 x4 x5 kc k0 =>
let v6 : Bool := (decide (x3 < (64 : Int)));
(match v6 with
| true => let v7 : Int := (IntKind.i64.wrap (x2 + x3));
(match (bnd v7 (List.length x1 : Int)) with
| true => let v8 : Int := (List.getD x1 (Int.toNat v7) (0 : Int));
(match (bnd x3 (64 : Int)) with
| true => let v9 : (List Int) := (List.set x5 (Int.toNat x3) v8);
let v10 : Int := (IntKind.i64.wrap (x3 + (1 : Int)));
kc x1 x2 v10 x4 v9
| false => none)
| false => none)
| false => k0 x1 x2 x4 x5)
theorem q85_6 (L3 : LT85_3) (L6 : LT85_6) (R : Type) (x : HT (le85_6 L6).H) (kc : HT (le85_6 L6).H → Option R) (ke : KT R (le85_6 L6).exs) :
  exec (e85 L3 L6 R) (lcode 6 (codeOf Try.f85)) (stOf (le85_6 L6).H x 2) (roundK (le85_6 L6).H (le85_6 L6).exs kc ke) =
    p85_6 R x.1 x.2.1 x.2.2.1 x.2.2.2.1 x.2.2.2.2.1 (fun x1 x2 x3 x4 x5 => kc (x1, x2, x3, x4, x5, ())) (fun y1 y2 y3 y4 => ke.1 (y1, y2, y3, y4, ())) := by kernel_rfl
noncomputable def G85_6 : Nat → LT85_6
  | 0 => fun _ _ _ _ _ _ _ => none
  | n + 1 => fun R x1 x2 x3 x4 x5 k0 => p85_6 R x1 x2 x3 x4 x5 (fun x1 x2 x3 x4 x5 => G85_6 n R x1 x2 x3 x4 x5 k0) k0
def p85_3 (L6 : LT85_6) : (R : Type) → (List Int) → Int → (List (List Int)) → ((List Int) → Int → (List (List Int)) → Option R) → ((List Int) → Int → (List (List Int)) → Option R) → Option R := fun R x1 x2 x3 kc k0 =>
let v4 : Int := (IntKind.i64.wrap (x2 + (64 : Int)));
let v5 : Int := (List.length x1 : Int);
let v6 : Bool := (decide (v4 ≤ v5));
(match v6 with
| true => L6 R x1 x2 (0 : Int) x3 (List.replicate 64 (0 : Int)) (fun x7 x8 x9 x10 =>
let v11 : (List (List Int)) := ([x10] : (List (List Int)));
(match (decide (List.length x9 + List.length v11 ≤ 2199023255552)) with
| true => let v12 : (List (List Int)) := (x9 ++ v11);
let v13 : Int := (IntKind.i64.wrap (x8 + (64 : Int)));
kc x7 v13 v12
| false => none))
| false => k0 x1 x2 x3)
theorem q85_3 (L3 : LT85_3) (L6 : LT85_6) (R : Type) (x : HT (le85_3 L3).H) (kc : HT (le85_3 L3).H → Option R) (ke : KT R (le85_3 L3).exs) :
  exec (e85 L3 L6 R) (lcode 3 (codeOf Try.f85)) (stOf (le85_3 L3).H x 1) (roundK (le85_3 L3).H (le85_3 L3).exs kc ke) =
    p85_3 L6 R x.1 x.2.1 x.2.2.1 (fun x1 x2 x3 => kc (x1, x2, x3, ())) (fun y1 y2 y3 => ke.1 (y1, y2, y3, ())) := by kernel_rfl
noncomputable def G85_3 : Nat → LT85_3
  | 0 => fun _ _ _ _ _ => none
  | n + 1 => fun R x1 x2 x3 k0 => p85_3 (G85_6 FUEL) R x1 x2 x3 (fun x1 x2 x3 => G85_3 n R x1 x2 x3 k0) k0
def p85 (L3 : LT85_3) : FT85 := fun R a0 k =>
L3 R a0 (0 : Int) ([] : (List (List Int))) (fun x1 x2 x3 =>
(match (decide (0 ≤ x2 ∧ x2 ≤ (List.length x1 : Int) ∧ (List.length x1 : Int) ≤ (List.length x1 : Int) ∧ (List.length x1 : Int) ≤ (List.length x1 : Int))) with
| true => let v4 : (List Int) := (List.take (Int.toNat ((List.length x1 : Int) - x2)) (List.drop (Int.toNat x2) x1));
k x3 v4
| false => none))
theorem q85 (L3 : LT85_3) (L6 : LT85_6) (F : FT85) (R : Type) (x : AT (en85 F).ins) (k : RT (en85 F).outs → PT (en85 F).ins → Option R) :
  xfun (e85 L3 L6 R) (codeOf Try.f85) res85 (avs (en85 F).ins x) (finK (en85 F).outs (en85 F).ins k) = p85 L3 R x.1 (fun y1 y2 => k (y1, y2, ()) ()) := by kernel_rfl
noncomputable def F85 : FT85 := p85 (G85_3 FUEL)
theorem env85 (R : Type) : EnvOK Try.prog (e85 (G85_3 FUEL) (G85_6 FUEL) R) := ⟨tabOK, eqOK, callOf_ok allE_nil⟩
noncomputable def T85_6 : (R : Type) → HT (le85_6 (G85_6 FUEL)).H → (HT (le85_6 (G85_6 FUEL)).H → Option R) → KT R (le85_6 (G85_6 FUEL)).exs → Option R := fun R x kc ke => p85_6 R x.1 x.2.1 x.2.2.1 x.2.2.2.1 x.2.2.2.2.1 (fun x1 x2 x3 x4 x5 => kc (x1, x2, x3, x4, x5, ())) (fun y1 y2 y3 y4 => ke.1 (y1, y2, y3, y4, ()))
theorem it85_6 : ∀ (n : Nat) (R : Type) (x : HT (le85_6 (G85_6 FUEL)).H) (ke : KT R (le85_6 (G85_6 FUEL)).exs), iter T85_6 n R x ke = G85_6 n R x.1 x.2.1 x.2.2.1 x.2.2.2.1 x.2.2.2.2.1 (fun y1 y2 y3 y4 => ke.1 (y1, y2, y3, y4, ())) := by
  intro n
  induction n with
  | zero => intro R x ke; rfl
  | succ n ih =>
    intro R x ke
    show T85_6 R x (fun x' => iter T85_6 n R x' ke) ke = _
    rw [show (fun x' => iter T85_6 n R x' ke) = fun x => G85_6 n R x.1 x.2.1 x.2.2.1 x.2.2.2.1 x.2.2.2.2.1 (fun y1 y2 y3 y4 => ke.1 (y1, y2, y3, y4, ())) from funext fun x' => ih R x' ke]
    rfl
theorem lok85_6 : (le85_6 (G85_6 FUEL)).OK Try.prog 0 35 (lcode 6 (codeOf Try.f85)) := fun R x ke r h =>
  iter_sound (fun R => e85 (G85_3 FUEL) (G85_6 FUEL) R) 0 35 (fun _ => rfl) (fun _ => rfl) (fun R => env85 R) mixed (by
    intro R
    rw [show loopsOf (lcode 6 (codeOf Try.f85)) = [] from by kernel_rfl]
    exact allM_nil) (T := T85_6) (fun R x kc ke => q85_6 (G85_3 FUEL) (G85_6 FUEL) R x kc ke) FUEL R x ke r ((it85_6 FUEL R x ke).trans h)
noncomputable def T85_3 : (R : Type) → HT (le85_3 (G85_3 FUEL)).H → (HT (le85_3 (G85_3 FUEL)).H → Option R) → KT R (le85_3 (G85_3 FUEL)).exs → Option R := fun R x kc ke => p85_3 (G85_6 FUEL) R x.1 x.2.1 x.2.2.1 (fun x1 x2 x3 => kc (x1, x2, x3, ())) (fun y1 y2 y3 => ke.1 (y1, y2, y3, ()))
theorem it85_3 : ∀ (n : Nat) (R : Type) (x : HT (le85_3 (G85_3 FUEL)).H) (ke : KT R (le85_3 (G85_3 FUEL)).exs), iter T85_3 n R x ke = G85_3 n R x.1 x.2.1 x.2.2.1 (fun y1 y2 y3 => ke.1 (y1, y2, y3, ())) := by
  intro n
  induction n with
  | zero => intro R x ke; rfl
  | succ n ih =>
    intro R x ke
    show T85_3 R x (fun x' => iter T85_3 n R x' ke) ke = _
    rw [show (fun x' => iter T85_3 n R x' ke) = fun x => G85_3 n R x.1 x.2.1 x.2.2.1 (fun y1 y2 y3 => ke.1 (y1, y2, y3, ())) from funext fun x' => ih R x' ke]
    rfl
theorem lok85_3 : (le85_3 (G85_3 FUEL)).OK Try.prog 0 35 (lcode 3 (codeOf Try.f85)) := fun R x ke r h =>
  iter_sound (fun R => e85 (G85_3 FUEL) (G85_6 FUEL) R) 0 35 (fun _ => rfl) (fun _ => rfl) (fun R => env85 R) mixed (by
    intro R
    rw [show loopsOf (lcode 3 (codeOf Try.f85)) = [lcode 6 (codeOf Try.f85)] from by kernel_rfl]
    exact (allM_cons (loop_ok2 (e := le85_6 (G85_6 FUEL)) rfl rfl lok85_6) allM_nil)) (T := T85_3) (fun R x kc ke => q85_3 (G85_3 FUEL) (G85_6 FUEL) R x kc ke) FUEL R x ke r ((it85_3 FUEL R x ke).trans h)
theorem ok85 : (en85 F85).OK Try.prog :=
  ent_ok (Ef := fun R => e85 (G85_3 FUEL) (G85_6 FUEL) R) (fun R => env85 R) mixed Try.func85 (body := codeOf Try.f85) (by kernel_rfl) (by kernel_rfl) (np := 0) (nt := 35) (fun _ => rfl) (fun _ => rfl) (by kernel_rfl) (res := res85) (by kernel_rfl) (fun _ => rfl) (fun _ => Nat.le_of_ble_eq_true rfl) (by
    intro R
    rw [show loopsOf (codeOf Try.f85) = [lcode 3 (codeOf Try.f85)] from by kernel_rfl]
    exact (allM_cons (loop_ok2 (e := le85_3 (G85_3 FUEL)) rfl rfl lok85_3) allM_nil)) (fun R x k => q85 (G85_3 FUEL) (G85_6 FUEL) F85 R x k)
/-! drawlot/drawlotref04.Start -/
abbrev FT89 : Type 1 := (R : Type) → ((List Int) → Option R) → Option R
def en89 (F : FT89) : Ent := ⟨89, [], [(false, (.arr 8 (.int .u32)))], fun R x k => F R  (fun y1 => k (y1, ()) ())⟩
def res89 : List (ResultVar × TypeId × Bool) := [(.cell 0 104, 104, false)]
def e89 (R : Type) : Env R := ⟨TT, EQT, 0, 2, ownOf [], callOf [] R, loopOf [] R⟩
def p89 : FT89 := fun R k =>
let v1 : (List Int) := (List.set (List.set (List.set (List.set (List.set (List.set (List.set (List.set (List.replicate 8 (0 : Int)) 0 (1779033703 : Int)) 1 (3144134277 : Int)) 2 (1013904242 : Int)) 3 (2773480762 : Int)) 4 (1359893119 : Int)) 5 (2600822924 : Int)) 6 (528734635 : Int)) 7 (1541459225 : Int));
k v1
theorem q89 (F : FT89) (R : Type) (x : AT (en89 F).ins) (k : RT (en89 F).outs → PT (en89 F).ins → Option R) :
  xfun (e89 R) (codeOf Try.f89) res89 (avs (en89 F).ins x) (finK (en89 F).outs (en89 F).ins k) = p89 R  (fun y1 => k (y1, ()) ()) := by kernel_rfl
noncomputable def F89 : FT89 := p89
theorem env89 (R : Type) : EnvOK Try.prog (e89 R) := ⟨tabOK, eqOK, callOf_ok allE_nil⟩
theorem ok89 : (en89 F89).OK Try.prog :=
  ent_ok (Ef := fun R => e89 R) (fun R => env89 R) mixed Try.func89 (body := codeOf Try.f89) (by kernel_rfl) (by kernel_rfl) (np := 0) (nt := 2) (fun _ => rfl) (fun _ => rfl) (by kernel_rfl) (res := res89) (by kernel_rfl) (fun _ => rfl) (fun _ => Nat.le_of_ble_eq_true rfl) (by
    intro R
    rw [show loopsOf (codeOf Try.f89) = [] from by kernel_rfl]
    exact allM_nil) (fun R x k => q89 F89 R x k)
/-! drawlot/drawlotref01.Get32 -/
abbrev FT110 : Type 1 := (R : Type) → (List Int) → (Int → Option R) → Option R
def en110 (F : FT110) : Ent := ⟨110, [(false, (.arr 4 (.int .u8)))], [(false, (.int .u32))], fun R x k => F R x.1 (fun y1 => k (y1, ()) ())⟩
def res110 : List (ResultVar × TypeId × Bool) := [(.tmp 2, 49, false)]
abbrev LT110_3 : Type 1 := (R : Type) → Int → Int → (List Int) → (Int → Option R) → Option R
def le110_3 (L : LT110_3) : LEnt := ⟨3, [.fix 1 (.ptr 0 [] (.arr 4 (.int .u8))), .val 3 (.int .u32), .val 4 (.int .i64), .var 0 (.arr 4 (.int .u8)) false], 1, [(.exit 0, [.val 3 (.int .u32)])], fun R x ke => L R x.1 x.2.1 x.2.2.1 (fun y1 => ke.1 (y1, ()))⟩
def e110 (L3 : LT110_3) (R : Type) : Env R := ⟨TT, EQT, 0, 17, ownOf [], callOf [] R, loopOf [le110_3 L3] R⟩
def p110_3 : (R : Type) → Int → Int → (List Int) → (Int → Int → (List Int) → Option R) → (Int → Option R) → Option R := fun R x1 x2 x3 kc k0 =>
let v4 : Bool := (decide (x2 < (4 : Int)));
(match v4 with
| true => let v5 : Int := (IntKind.u32.wrap (x1 * (256 : Int)));
(match (bnd x2 (4 : Int)) with
| true => let v6 : Int := (List.getD x3 (Int.toNat x2) (0 : Int));
let v7 : Int := (IntKind.u32.wrap v6);
let v8 : Int := (IntKind.u32.wrap (v5 + v7));
let v9 : Int := (IntKind.i64.wrap (x2 + (1 : Int)));
kc v8 v9 x3
| false => none)
| false => k0 x1)
theorem q110_3 (L3 : LT110_3) (R : Type) (x : HT (le110_3 L3).H) (kc : HT (le110_3 L3).H → Option R) (ke : KT R (le110_3 L3).exs) :
  exec (e110 L3 R) (lcode 3 (codeOf Try.f110)) (stOf (le110_3 L3).H x 1) (roundK (le110_3 L3).H (le110_3 L3).exs kc ke) =
    p110_3 R x.1 x.2.1 x.2.2.1 (fun x1 x2 x3 => kc (x1, x2, x3, ())) (fun y1 => ke.1 (y1, ())) := by kernel_rfl
noncomputable def G110_3 : Nat → LT110_3
  | 0 => fun _ _ _ _ _ => none
  | n + 1 => fun R x1 x2 x3 k0 => p110_3 R x1 x2 x3 (fun x1 x2 x3 => G110_3 n R x1 x2 x3 k0) k0
def p110 (L3 : LT110_3) : FT110 := fun R a0 k =>
L3 R (0 : Int) (0 : Int) a0 (fun x1 =>
k x1)
theorem q110 (L3 : LT110_3) (F : FT110) (R : Type) (x : AT (en110 F).ins) (k : RT (en110 F).outs → PT (en110 F).ins → Option R) :
  xfun (e110 L3 R) (codeOf Try.f110) res110 (avs (en110 F).ins x) (finK (en110 F).outs (en110 F).ins k) = p110 L3 R x.1 (fun y1 => k (y1, ()) ()) := by kernel_rfl
noncomputable def F110 : FT110 := p110 (G110_3 FUEL)
theorem env110 (R : Type) : EnvOK Try.prog (e110 (G110_3 FUEL) R) := ⟨tabOK, eqOK, callOf_ok allE_nil⟩
noncomputable def T110_3 : (R : Type) → HT (le110_3 (G110_3 FUEL)).H → (HT (le110_3 (G110_3 FUEL)).H → Option R) → KT R (le110_3 (G110_3 FUEL)).exs → Option R := fun R x kc ke => p110_3 R x.1 x.2.1 x.2.2.1 (fun x1 x2 x3 => kc (x1, x2, x3, ())) (fun y1 => ke.1 (y1, ()))
theorem it110_3 : ∀ (n : Nat) (R : Type) (x : HT (le110_3 (G110_3 FUEL)).H) (ke : KT R (le110_3 (G110_3 FUEL)).exs), iter T110_3 n R x ke = G110_3 n R x.1 x.2.1 x.2.2.1 (fun y1 => ke.1 (y1, ())) := by
  intro n
  induction n with
  | zero => intro R x ke; rfl
  | succ n ih =>
    intro R x ke
    show T110_3 R x (fun x' => iter T110_3 n R x' ke) ke = _
    rw [show (fun x' => iter T110_3 n R x' ke) = fun x => G110_3 n R x.1 x.2.1 x.2.2.1 (fun y1 => ke.1 (y1, ())) from funext fun x' => ih R x' ke]
    rfl
theorem lok110_3 : (le110_3 (G110_3 FUEL)).OK Try.prog 0 17 (lcode 3 (codeOf Try.f110)) := fun R x ke r h =>
  iter_sound (fun R => e110 (G110_3 FUEL) R) 0 17 (fun _ => rfl) (fun _ => rfl) (fun R => env110 R) mixed (by
    intro R
    rw [show loopsOf (lcode 3 (codeOf Try.f110)) = [] from by kernel_rfl]
    exact allM_nil) (T := T110_3) (fun R x kc ke => q110_3 (G110_3 FUEL) R x kc ke) FUEL R x ke r ((it110_3 FUEL R x ke).trans h)
theorem ok110 : (en110 F110).OK Try.prog :=
  ent_ok (Ef := fun R => e110 (G110_3 FUEL) R) (fun R => env110 R) mixed Try.func110 (body := codeOf Try.f110) (by kernel_rfl) (by kernel_rfl) (np := 0) (nt := 17) (fun _ => rfl) (fun _ => rfl) (by kernel_rfl) (res := res110) (by kernel_rfl) (fun _ => rfl) (fun _ => Nat.le_of_ble_eq_true rfl) (by
    intro R
    rw [show loopsOf (codeOf Try.f110) = [lcode 3 (codeOf Try.f110)] from by kernel_rfl]
    exact (allM_cons (loop_ok2 (e := le110_3 (G110_3 FUEL)) rfl rfl lok110_3) allM_nil)) (fun R x k => q110 (G110_3 FUEL) F110 R x k)
/-! drawlot/drawlotref01.Rotate -/
abbrev FT119 : Type 1 := (R : Type) → Int → Int → (Int → Option R) → Option R
def en119 (F : FT119) : Ent := ⟨119, [(false, (.int .u32)), (false, (.int .i64))], [(false, (.int .u32))], fun R x k => F R x.1 x.2.1 (fun y1 => k (y1, ()) ())⟩
def res119 : List (ResultVar × TypeId × Bool) := [(.tmp 4, 49, false)]
abbrev LT119_5 : Type 1 := (R : Type) → Int → Int → Int → (Int → Option R) → Option R
def le119_5 (L : LT119_5) : LEnt := ⟨5, [.val 0 (.int .u32), .val 1 (.int .i64), .val 5 (.int .i64)], 0, [(.exit 0, [.val 0 (.int .u32)])], fun R x ke => L R x.1 x.2.1 x.2.2.1 (fun y1 => ke.1 (y1, ()))⟩
def e119 (L5 : LT119_5) (R : Type) : Env R := ⟨TT, EQT, 0, 24, ownOf [], callOf [] R, loopOf [le119_5 L5] R⟩
def p119_5 : (R : Type) → Int → Int → Int → (Int → Int → Int → Option R) → (Int → Option R) → Option R := fun R x1 x2 x3 kc k0 =>
let v4 : Bool := (decide (x3 < x2));
(match v4 with
| true => let v5 : Int := (IntKind.u32.wrap (Int.tdiv x1 (2 : Int)));
let v6 : Int := (Int.tmod x1 (2 : Int));
let v7 : Int := (IntKind.u32.wrap (v6 * (2147483648 : Int)));
let v8 : Int := (IntKind.u32.wrap (v5 + v7));
let v9 : Int := (IntKind.i64.wrap (x3 + (1 : Int)));
kc v8 x2 v9
| false => k0 x1)
theorem q119_5 (L5 : LT119_5) (R : Type) (x : HT (le119_5 L5).H) (kc : HT (le119_5 L5).H → Option R) (ke : KT R (le119_5 L5).exs) :
  exec (e119 L5 R) (lcode 5 (codeOf Try.f119)) (stOf (le119_5 L5).H x 0) (roundK (le119_5 L5).H (le119_5 L5).exs kc ke) =
    p119_5 R x.1 x.2.1 x.2.2.1 (fun x1 x2 x3 => kc (x1, x2, x3, ())) (fun y1 => ke.1 (y1, ())) := by kernel_rfl
noncomputable def G119_5 : Nat → LT119_5
  | 0 => fun _ _ _ _ _ => none
  | n + 1 => fun R x1 x2 x3 k0 => p119_5 R x1 x2 x3 (fun x1 x2 x3 => G119_5 n R x1 x2 x3 k0) k0
def p119 (L5 : LT119_5) : FT119 := fun R a0 a1 k =>
let v1 : Int := (Int.tmod a1 (32 : Int));
let v2 : Bool := (decide (v1 < (0 : Int)));
(match v2 with
| true => let v3 : Int := (IntKind.i64.wrap (v1 + (32 : Int)));
L5 R a0 v3 (0 : Int) (fun x4 =>
k x4)
| false => L5 R a0 v1 (0 : Int) (fun x5 =>
k x5))
theorem q119 (L5 : LT119_5) (F : FT119) (R : Type) (x : AT (en119 F).ins) (k : RT (en119 F).outs → PT (en119 F).ins → Option R) :
  xfun (e119 L5 R) (codeOf Try.f119) res119 (avs (en119 F).ins x) (finK (en119 F).outs (en119 F).ins k) = p119 L5 R x.1 x.2.1 (fun y1 => k (y1, ()) ()) := by kernel_rfl
noncomputable def F119 : FT119 := p119 (G119_5 FUEL)
theorem env119 (R : Type) : EnvOK Try.prog (e119 (G119_5 FUEL) R) := ⟨tabOK, eqOK, callOf_ok allE_nil⟩
noncomputable def T119_5 : (R : Type) → HT (le119_5 (G119_5 FUEL)).H → (HT (le119_5 (G119_5 FUEL)).H → Option R) → KT R (le119_5 (G119_5 FUEL)).exs → Option R := fun R x kc ke => p119_5 R x.1 x.2.1 x.2.2.1 (fun x1 x2 x3 => kc (x1, x2, x3, ())) (fun y1 => ke.1 (y1, ()))
theorem it119_5 : ∀ (n : Nat) (R : Type) (x : HT (le119_5 (G119_5 FUEL)).H) (ke : KT R (le119_5 (G119_5 FUEL)).exs), iter T119_5 n R x ke = G119_5 n R x.1 x.2.1 x.2.2.1 (fun y1 => ke.1 (y1, ())) := by
  intro n
  induction n with
  | zero => intro R x ke; rfl
  | succ n ih =>
    intro R x ke
    show T119_5 R x (fun x' => iter T119_5 n R x' ke) ke = _
    rw [show (fun x' => iter T119_5 n R x' ke) = fun x => G119_5 n R x.1 x.2.1 x.2.2.1 (fun y1 => ke.1 (y1, ())) from funext fun x' => ih R x' ke]
    rfl
theorem lok119_5 : (le119_5 (G119_5 FUEL)).OK Try.prog 0 24 (lcode 5 (codeOf Try.f119)) := fun R x ke r h =>
  iter_sound (fun R => e119 (G119_5 FUEL) R) 0 24 (fun _ => rfl) (fun _ => rfl) (fun R => env119 R) mixed (by
    intro R
    rw [show loopsOf (lcode 5 (codeOf Try.f119)) = [] from by kernel_rfl]
    exact allM_nil) (T := T119_5) (fun R x kc ke => q119_5 (G119_5 FUEL) R x kc ke) FUEL R x ke r ((it119_5 FUEL R x ke).trans h)
theorem ok119 : (en119 F119).OK Try.prog :=
  ent_ok (Ef := fun R => e119 (G119_5 FUEL) R) (fun R => env119 R) mixed Try.func119 (body := codeOf Try.f119) (by kernel_rfl) (by kernel_rfl) (np := 0) (nt := 24) (fun _ => rfl) (fun _ => rfl) (by kernel_rfl) (res := res119) (by kernel_rfl) (fun _ => rfl) (fun _ => Nat.le_of_ble_eq_true rfl) (by
    intro R
    rw [show loopsOf (codeOf Try.f119) = [lcode 5 (codeOf Try.f119)] from by kernel_rfl]
    exact (allM_cons (loop_ok2 (e := le119_5 (G119_5 FUEL)) rfl rfl lok119_5) allM_nil)) (fun R x k => q119 (G119_5 FUEL) F119 R x k)
/-! drawlot/drawlotref01.Right -/
abbrev FT47 : Type 1 := (R : Type) → Int → Int → (Int → Option R) → Option R
def en47 (F : FT47) : Ent := ⟨47, [(false, (.int .u32)), (false, (.int .i64))], [(false, (.int .u32))], fun R x k => F R x.1 x.2.1 (fun y1 => k (y1, ()) ())⟩
def res47 : List (ResultVar × TypeId × Bool) := [(.tmp 4, 49, false)]
abbrev LT47_4 : Type 1 := (R : Type) → Int → Int → Int → (Int → Option R) → Option R
def le47_4 (L : LT47_4) : LEnt := ⟨4, [.val 0 (.int .u32), .val 1 (.int .i64), .val 5 (.int .i64)], 0, [(.exit 0, [.val 0 (.int .u32)])], fun R x ke => L R x.1 x.2.1 x.2.2.1 (fun y1 => ke.1 (y1, ()))⟩
def e47 (L4 : LT47_4) (R : Type) : Env R := ⟨TT, EQT, 0, 16, ownOf [], callOf [] R, loopOf [le47_4 L4] R⟩
def p47_4 : (R : Type) → Int → Int → Int → (Int → Int → Int → Option R) → (Int → Option R) → Option R := fun R x1 x2 x3 kc k0 =>
let v4 : Bool := (decide (x3 < x2));
(match v4 with
| true => let v5 : Int := (IntKind.u32.wrap (Int.tdiv x1 (2 : Int)));
let v6 : Int := (IntKind.i64.wrap (x3 + (1 : Int)));
kc v5 x2 v6
| false => k0 x1)
theorem q47_4 (L4 : LT47_4) (R : Type) (x : HT (le47_4 L4).H) (kc : HT (le47_4 L4).H → Option R) (ke : KT R (le47_4 L4).exs) :
  exec (e47 L4 R) (lcode 4 (codeOf Try.f47)) (stOf (le47_4 L4).H x 0) (roundK (le47_4 L4).H (le47_4 L4).exs kc ke) =
    p47_4 R x.1 x.2.1 x.2.2.1 (fun x1 x2 x3 => kc (x1, x2, x3, ())) (fun y1 => ke.1 (y1, ())) := by kernel_rfl
noncomputable def G47_4 : Nat → LT47_4
  | 0 => fun _ _ _ _ _ => none
  | n + 1 => fun R x1 x2 x3 k0 => p47_4 R x1 x2 x3 (fun x1 x2 x3 => G47_4 n R x1 x2 x3 k0) k0
def p47 (L4 : LT47_4) : FT47 := fun R a0 a1 k =>
let v1 : Bool := (decide (a1 > (31 : Int)));
(match v1 with
| true => k (0 : Int)
| false => L4 R a0 a1 (0 : Int) (fun x2 =>
k x2))
theorem q47 (L4 : LT47_4) (F : FT47) (R : Type) (x : AT (en47 F).ins) (k : RT (en47 F).outs → PT (en47 F).ins → Option R) :
  xfun (e47 L4 R) (codeOf Try.f47) res47 (avs (en47 F).ins x) (finK (en47 F).outs (en47 F).ins k) = p47 L4 R x.1 x.2.1 (fun y1 => k (y1, ()) ()) := by kernel_rfl
noncomputable def F47 : FT47 := p47 (G47_4 FUEL)
theorem env47 (R : Type) : EnvOK Try.prog (e47 (G47_4 FUEL) R) := ⟨tabOK, eqOK, callOf_ok allE_nil⟩
noncomputable def T47_4 : (R : Type) → HT (le47_4 (G47_4 FUEL)).H → (HT (le47_4 (G47_4 FUEL)).H → Option R) → KT R (le47_4 (G47_4 FUEL)).exs → Option R := fun R x kc ke => p47_4 R x.1 x.2.1 x.2.2.1 (fun x1 x2 x3 => kc (x1, x2, x3, ())) (fun y1 => ke.1 (y1, ()))
theorem it47_4 : ∀ (n : Nat) (R : Type) (x : HT (le47_4 (G47_4 FUEL)).H) (ke : KT R (le47_4 (G47_4 FUEL)).exs), iter T47_4 n R x ke = G47_4 n R x.1 x.2.1 x.2.2.1 (fun y1 => ke.1 (y1, ())) := by
  intro n
  induction n with
  | zero => intro R x ke; rfl
  | succ n ih =>
    intro R x ke
    show T47_4 R x (fun x' => iter T47_4 n R x' ke) ke = _
    rw [show (fun x' => iter T47_4 n R x' ke) = fun x => G47_4 n R x.1 x.2.1 x.2.2.1 (fun y1 => ke.1 (y1, ())) from funext fun x' => ih R x' ke]
    rfl
theorem lok47_4 : (le47_4 (G47_4 FUEL)).OK Try.prog 0 16 (lcode 4 (codeOf Try.f47)) := fun R x ke r h =>
  iter_sound (fun R => e47 (G47_4 FUEL) R) 0 16 (fun _ => rfl) (fun _ => rfl) (fun R => env47 R) mixed (by
    intro R
    rw [show loopsOf (lcode 4 (codeOf Try.f47)) = [] from by kernel_rfl]
    exact allM_nil) (T := T47_4) (fun R x kc ke => q47_4 (G47_4 FUEL) R x kc ke) FUEL R x ke r ((it47_4 FUEL R x ke).trans h)
theorem ok47 : (en47 F47).OK Try.prog :=
  ent_ok (Ef := fun R => e47 (G47_4 FUEL) R) (fun R => env47 R) mixed Try.func47 (body := codeOf Try.f47) (by kernel_rfl) (by kernel_rfl) (np := 0) (nt := 16) (fun _ => rfl) (fun _ => rfl) (by kernel_rfl) (res := res47) (by kernel_rfl) (fun _ => rfl) (fun _ => Nat.le_of_ble_eq_true rfl) (by
    intro R
    rw [show loopsOf (codeOf Try.f47) = [lcode 4 (codeOf Try.f47)] from by kernel_rfl]
    exact (allM_cons (loop_ok2 (e := le47_4 (G47_4 FUEL)) rfl rfl lok47_4) allM_nil)) (fun R x k => q47 (G47_4 FUEL) F47 R x k)
/-! drawlot/drawlotref03.Second -/
abbrev FT111 : Type 1 := (R : Type) → Int → (Int → Option R) → Option R
def en111 (F : FT111) : Ent := ⟨111, [(false, (.int .u32))], [(false, (.int .u32))], fun R x k => F R x.1 (fun y1 => k (y1, ()) ())⟩
def res111 : List (ResultVar × TypeId × Bool) := [(.tmp 2, 49, false)]
def e111 (F47 : FT47) (F119 : FT119) (R : Type) : Env R := ⟨TT, EQT, 0, 11, ownOf [], callOf [en47 F47, en119 F119] R, loopOf [] R⟩
def p111 (F47 : FT47) (F119 : FT119) : FT111 := fun R a0 k =>
F119 R a0 (17 : Int) fun y1 =>
F119 R a0 (19 : Int) fun y2 =>
let v3 : Int := (ixor .u32 y1 y2);
F47 R a0 (10 : Int) fun y4 =>
let v5 : Int := (ixor .u32 v3 y4);
k v5
theorem q111 (F47 : FT47) (F119 : FT119) (F : FT111) (R : Type) (x : AT (en111 F).ins) (k : RT (en111 F).outs → PT (en111 F).ins → Option R) :
  xfun (e111 F47 F119 R) (codeOf Try.f111) res111 (avs (en111 F).ins x) (finK (en111 F).outs (en111 F).ins k) = p111 F47 F119 R x.1 (fun y1 => k (y1, ()) ()) := by kernel_rfl
noncomputable def F111 : FT111 := p111 F47 F119
theorem env111 (R : Type) : EnvOK Try.prog (e111 F47 F119 R) := ⟨tabOK, eqOK, callOf_ok (allE_cons ok47 (allE_cons ok119 allE_nil))⟩
theorem ok111 : (en111 F111).OK Try.prog :=
  ent_ok (Ef := fun R => e111 F47 F119 R) (fun R => env111 R) mixed Try.func111 (body := codeOf Try.f111) (by kernel_rfl) (by kernel_rfl) (np := 0) (nt := 11) (fun _ => rfl) (fun _ => rfl) (by kernel_rfl) (res := res111) (by kernel_rfl) (fun _ => rfl) (fun _ => Nat.le_of_ble_eq_true rfl) (by
    intro R
    rw [show loopsOf (codeOf Try.f111) = [] from by kernel_rfl]
    exact allM_nil) (fun R x k => q111 F47 F119 F111 R x k)
/-! drawlot/drawlotref03.First -/
abbrev FT112 : Type 1 := (R : Type) → Int → (Int → Option R) → Option R
def en112 (F : FT112) : Ent := ⟨112, [(false, (.int .u32))], [(false, (.int .u32))], fun R x k => F R x.1 (fun y1 => k (y1, ()) ())⟩
def res112 : List (ResultVar × TypeId × Bool) := [(.tmp 2, 49, false)]
def e112 (F47 : FT47) (F119 : FT119) (R : Type) : Env R := ⟨TT, EQT, 0, 11, ownOf [], callOf [en47 F47, en119 F119] R, loopOf [] R⟩
def p112 (F47 : FT47) (F119 : FT119) : FT112 := fun R a0 k =>
F119 R a0 (7 : Int) fun y1 =>
F119 R a0 (18 : Int) fun y2 =>
let v3 : Int := (ixor .u32 y1 y2);
F47 R a0 (3 : Int) fun y4 =>
let v5 : Int := (ixor .u32 v3 y4);
k v5
theorem q112 (F47 : FT47) (F119 : FT119) (F : FT112) (R : Type) (x : AT (en112 F).ins) (k : RT (en112 F).outs → PT (en112 F).ins → Option R) :
  xfun (e112 F47 F119 R) (codeOf Try.f112) res112 (avs (en112 F).ins x) (finK (en112 F).outs (en112 F).ins k) = p112 F47 F119 R x.1 (fun y1 => k (y1, ()) ()) := by kernel_rfl
noncomputable def F112 : FT112 := p112 F47 F119
theorem env112 (R : Type) : EnvOK Try.prog (e112 F47 F119 R) := ⟨tabOK, eqOK, callOf_ok (allE_cons ok47 (allE_cons ok119 allE_nil))⟩
theorem ok112 : (en112 F112).OK Try.prog :=
  ent_ok (Ef := fun R => e112 F47 F119 R) (fun R => env112 R) mixed Try.func112 (body := codeOf Try.f112) (by kernel_rfl) (by kernel_rfl) (np := 0) (nt := 11) (fun _ => rfl) (fun _ => rfl) (by kernel_rfl) (res := res112) (by kernel_rfl) (fun _ => rfl) (fun _ => Nat.le_of_ble_eq_true rfl) (by
    intro R
    rw [show loopsOf (codeOf Try.f112) = [] from by kernel_rfl]
    exact allM_nil) (fun R x k => q112 F47 F119 F112 R x k)
/-! drawlot/drawlotref03.Of -/
abbrev FT103 : Type 1 := (R : Type) → (List Int) → ((List Int) → Option R) → Option R
def en103 (F : FT103) : Ent := ⟨103, [(false, (.arr 64 (.int .u8)))], [(false, (.arr 64 (.int .u32)))], fun R x k => F R x.1 (fun y1 => k (y1, ()) ())⟩
def res103 : List (ResultVar × TypeId × Bool) := [(.cell 2 128, 128, false)]
abbrev LT103_3 : Type 1 := (R : Type) → Int → (List Int) → (List Int) → (List Int) → ((List Int) → (List Int) → Option R) → Option R
def le103_3 (L : LT103_3) : LEnt := ⟨3, [.fix 1 (.ptr 0 [] (.arr 64 (.int .u8))), .fix 2 (.ptr 1 [] (.arr 64 (.int .u32))), .fix 3 (.ptr 2 [] (.arr 64 (.int .u32))), .val 4 (.int .i64), .var 0 (.arr 64 (.int .u8)) false, .var 1 (.arr 64 (.int .u32)) false, .var 2 (.arr 64 (.int .u32)) false], 3, [(.exit 0, [.fix 2 (.ptr 1 [] (.arr 64 (.int .u32))), .fix 3 (.ptr 2 [] (.arr 64 (.int .u32))), .var 1 (.arr 64 (.int .u32)) false, .var 2 (.arr 64 (.int .u32)) false])], fun R x ke => L R x.1 x.2.1 x.2.2.1 x.2.2.2.1 (fun y1 y2 => ke.1 (y1, y2, ()))⟩
abbrev LT103_7 : Type 1 := (R : Type) → Int → (List Int) → (List Int) → ((List Int) → (List Int) → Option R) → Option R
def le103_7 (L : LT103_7) : LEnt := ⟨7, [.fix 2 (.ptr 1 [] (.arr 64 (.int .u32))), .fix 3 (.ptr 2 [] (.arr 64 (.int .u32))), .val 5 (.int .i64), .var 1 (.arr 64 (.int .u32)) false, .var 2 (.arr 64 (.int .u32)) false], 3, [(.exit 2, [.fix 2 (.ptr 1 [] (.arr 64 (.int .u32))), .fix 3 (.ptr 2 [] (.arr 64 (.int .u32))), .var 1 (.arr 64 (.int .u32)) false, .var 2 (.arr 64 (.int .u32)) false])], fun R x ke => L R x.1 x.2.1 x.2.2.1 (fun y1 y2 => ke.1 (y1, y2, ()))⟩
def e103 (F110 : FT110) (F111 : FT111) (F112 : FT112) (L3 : LT103_3) (L7 : LT103_7) (R : Type) : Env R := ⟨TT, EQT, 0, 61, ownOf [], callOf [en110 F110, en111 F111, en112 F112] R, loopOf [le103_3 L3, le103_7 L7] R⟩
def p103_3 (F110 : FT110) : (R : Type) → Int → (List Int) → (List Int) → (List Int) → (Int → (List Int) → (List Int) → (List Int) → Option R) → ((List Int) → (List Int) → Option R) → Option R := fun R x1 x2 x3 x4 kc k0 =>
let v5 : Bool := (decide (x1 < (16 : Int)));
(match v5 with
| true => let v6 : Int := (IntKind.i64.wrap ((4 : Int) * x1));
(match (bnd v6 (64 : Int)) with
| true => let v7 : Int := (List.getD x2 (Int.toNat v6) (0 : Int));
let v8 : Int := (IntKind.i64.wrap ((4 : Int) * x1));
let v9 : Int := (IntKind.i64.wrap (v8 + (1 : Int)));
(match (bnd v9 (64 : Int)) with
| true => let v10 : Int := (List.getD x2 (Int.toNat v9) (0 : Int));
let v11 : Int := (IntKind.i64.wrap ((4 : Int) * x1));
let v12 : Int := (IntKind.i64.wrap (v11 + (2 : Int)));
(match (bnd v12 (64 : Int)) with
| true => let v13 : Int := (List.getD x2 (Int.toNat v12) (0 : Int));
let v14 : Int := (IntKind.i64.wrap ((4 : Int) * x1));
let v15 : Int := (IntKind.i64.wrap (v14 + (3 : Int)));
(match (bnd v15 (64 : Int)) with
| true => let v16 : Int := (List.getD x2 (Int.toNat v15) (0 : Int));
let v17 : (List Int) := (List.set (List.set (List.set (List.set (List.replicate 4 (0 : Int)) 0 v7) 1 v10) 2 v13) 3 v16);
F110 R v17 fun y18 =>
(match (bnd x1 (64 : Int)) with
| true => let v19 : (List Int) := (List.set x4 (Int.toNat x1) y18);
let v20 : Int := (IntKind.i64.wrap (x1 + (1 : Int)));
kc v20 x2 x3 v19
| false => none)
| false => none)
| false => none)
| false => none)
| false => none)
| false => k0 x3 x4)
theorem q103_3 (F110 : FT110) (F111 : FT111) (F112 : FT112) (L3 : LT103_3) (L7 : LT103_7) (R : Type) (x : HT (le103_3 L3).H) (kc : HT (le103_3 L3).H → Option R) (ke : KT R (le103_3 L3).exs) :
  exec (e103 F110 F111 F112 L3 L7 R) (lcode 3 (codeOf Try.f103)) (stOf (le103_3 L3).H x 3) (roundK (le103_3 L3).H (le103_3 L3).exs kc ke) =
    p103_3 F110 R x.1 x.2.1 x.2.2.1 x.2.2.2.1 (fun x1 x2 x3 x4 => kc (x1, x2, x3, x4, ())) (fun y1 y2 => ke.1 (y1, y2, ())) := by kernel_rfl
noncomputable def G103_3 : Nat → LT103_3
  | 0 => fun _ _ _ _ _ _ => none
  | n + 1 => fun R x1 x2 x3 x4 k0 => p103_3 F110 R x1 x2 x3 x4 (fun x1 x2 x3 x4 => G103_3 n R x1 x2 x3 x4 k0) k0
def p103_7 (F111 : FT111) (F112 : FT112) : (R : Type) → Int → (List Int) → (List Int) → (Int → (List Int) → (List Int) → Option R) → ((List Int) → (List Int) → Option R) → Option R := fun R x1 x2 x3 kc k0 =>
let v4 : Bool := (decide (x1 < (64 : Int)));
(match v4 with
| true => let v5 : Int := (IntKind.i64.wrap (x1 - (2 : Int)));
(match (bnd v5 (64 : Int)) with
| true => let v6 : Int := (List.getD x3 (Int.toNat v5) (0 : Int));
F111 R v6 fun y7 =>
let v8 : Int := (IntKind.i64.wrap (x1 - (7 : Int)));
(match (bnd v8 (64 : Int)) with
| true => let v9 : Int := (List.getD x3 (Int.toNat v8) (0 : Int));
let v10 : Int := (IntKind.u32.wrap (y7 + v9));
let v11 : Int := (IntKind.i64.wrap (x1 - (15 : Int)));
(match (bnd v11 (64 : Int)) with
| true => let v12 : Int := (List.getD x3 (Int.toNat v11) (0 : Int));
F112 R v12 fun y13 =>
let v14 : Int := (IntKind.u32.wrap (v10 + y13));
let v15 : Int := (IntKind.i64.wrap (x1 - (16 : Int)));
(match (bnd v15 (64 : Int)) with
| true => let v16 : Int := (List.getD x3 (Int.toNat v15) (0 : Int));
let v17 : Int := (IntKind.u32.wrap (v14 + v16));
(match (bnd x1 (64 : Int)) with
| true => let v18 : (List Int) := (List.set x3 (Int.toNat x1) v17);
let v19 : Int := (IntKind.i64.wrap (x1 + (1 : Int)));
kc v19 x2 v18
| false => none)
| false => none)
| false => none)
| false => none)
| false => none)
| false => k0 x2 x3)
theorem q103_7 (F110 : FT110) (F111 : FT111) (F112 : FT112) (L3 : LT103_3) (L7 : LT103_7) (R : Type) (x : HT (le103_7 L7).H) (kc : HT (le103_7 L7).H → Option R) (ke : KT R (le103_7 L7).exs) :
  exec (e103 F110 F111 F112 L3 L7 R) (lcode 7 (codeOf Try.f103)) (stOf (le103_7 L7).H x 3) (roundK (le103_7 L7).H (le103_7 L7).exs kc ke) =
    p103_7 F111 F112 R x.1 x.2.1 x.2.2.1 (fun x1 x2 x3 => kc (x1, x2, x3, ())) (fun y1 y2 => ke.1 (y1, y2, ())) := by kernel_rfl
noncomputable def G103_7 : Nat → LT103_7
  | 0 => fun _ _ _ _ _ => none
  | n + 1 => fun R x1 x2 x3 k0 => p103_7 F111 F112 R x1 x2 x3 (fun x1 x2 x3 => G103_7 n R x1 x2 x3 k0) k0
def p103 (L3 : LT103_3) (L7 : LT103_7) : FT103 := fun R a0 k =>
L3 R (0 : Int) a0 (List.replicate 64 (0 : Int)) (List.replicate 64 (0 : Int)) (fun x1 x2 =>
L7 R (16 : Int) x1 x2 (fun x3 x4 =>
k x4))
theorem q103 (F110 : FT110) (F111 : FT111) (F112 : FT112) (L3 : LT103_3) (L7 : LT103_7) (F : FT103) (R : Type) (x : AT (en103 F).ins) (k : RT (en103 F).outs → PT (en103 F).ins → Option R) :
  xfun (e103 F110 F111 F112 L3 L7 R) (codeOf Try.f103) res103 (avs (en103 F).ins x) (finK (en103 F).outs (en103 F).ins k) = p103 L3 L7 R x.1 (fun y1 => k (y1, ()) ()) := by kernel_rfl
noncomputable def F103 : FT103 := p103 (G103_3 FUEL) (G103_7 FUEL)
theorem env103 (R : Type) : EnvOK Try.prog (e103 F110 F111 F112 (G103_3 FUEL) (G103_7 FUEL) R) := ⟨tabOK, eqOK, callOf_ok (allE_cons ok110 (allE_cons ok111 (allE_cons ok112 allE_nil)))⟩
noncomputable def T103_3 : (R : Type) → HT (le103_3 (G103_3 FUEL)).H → (HT (le103_3 (G103_3 FUEL)).H → Option R) → KT R (le103_3 (G103_3 FUEL)).exs → Option R := fun R x kc ke => p103_3 F110 R x.1 x.2.1 x.2.2.1 x.2.2.2.1 (fun x1 x2 x3 x4 => kc (x1, x2, x3, x4, ())) (fun y1 y2 => ke.1 (y1, y2, ()))
theorem it103_3 : ∀ (n : Nat) (R : Type) (x : HT (le103_3 (G103_3 FUEL)).H) (ke : KT R (le103_3 (G103_3 FUEL)).exs), iter T103_3 n R x ke = G103_3 n R x.1 x.2.1 x.2.2.1 x.2.2.2.1 (fun y1 y2 => ke.1 (y1, y2, ())) := by
  intro n
  induction n with
  | zero => intro R x ke; rfl
  | succ n ih =>
    intro R x ke
    show T103_3 R x (fun x' => iter T103_3 n R x' ke) ke = _
    rw [show (fun x' => iter T103_3 n R x' ke) = fun x => G103_3 n R x.1 x.2.1 x.2.2.1 x.2.2.2.1 (fun y1 y2 => ke.1 (y1, y2, ())) from funext fun x' => ih R x' ke]
    rfl
theorem lok103_3 : (le103_3 (G103_3 FUEL)).OK Try.prog 0 61 (lcode 3 (codeOf Try.f103)) := fun R x ke r h =>
  iter_sound (fun R => e103 F110 F111 F112 (G103_3 FUEL) (G103_7 FUEL) R) 0 61 (fun _ => rfl) (fun _ => rfl) (fun R => env103 R) mixed (by
    intro R
    rw [show loopsOf (lcode 3 (codeOf Try.f103)) = [] from by kernel_rfl]
    exact allM_nil) (T := T103_3) (fun R x kc ke => q103_3 F110 F111 F112 (G103_3 FUEL) (G103_7 FUEL) R x kc ke) FUEL R x ke r ((it103_3 FUEL R x ke).trans h)
noncomputable def T103_7 : (R : Type) → HT (le103_7 (G103_7 FUEL)).H → (HT (le103_7 (G103_7 FUEL)).H → Option R) → KT R (le103_7 (G103_7 FUEL)).exs → Option R := fun R x kc ke => p103_7 F111 F112 R x.1 x.2.1 x.2.2.1 (fun x1 x2 x3 => kc (x1, x2, x3, ())) (fun y1 y2 => ke.1 (y1, y2, ()))
theorem it103_7 : ∀ (n : Nat) (R : Type) (x : HT (le103_7 (G103_7 FUEL)).H) (ke : KT R (le103_7 (G103_7 FUEL)).exs), iter T103_7 n R x ke = G103_7 n R x.1 x.2.1 x.2.2.1 (fun y1 y2 => ke.1 (y1, y2, ())) := by
  intro n
  induction n with
  | zero => intro R x ke; rfl
  | succ n ih =>
    intro R x ke
    show T103_7 R x (fun x' => iter T103_7 n R x' ke) ke = _
    rw [show (fun x' => iter T103_7 n R x' ke) = fun x => G103_7 n R x.1 x.2.1 x.2.2.1 (fun y1 y2 => ke.1 (y1, y2, ())) from funext fun x' => ih R x' ke]
    rfl
theorem lok103_7 : (le103_7 (G103_7 FUEL)).OK Try.prog 0 61 (lcode 7 (codeOf Try.f103)) := fun R x ke r h =>
  iter_sound (fun R => e103 F110 F111 F112 (G103_3 FUEL) (G103_7 FUEL) R) 0 61 (fun _ => rfl) (fun _ => rfl) (fun R => env103 R) mixed (by
    intro R
    rw [show loopsOf (lcode 7 (codeOf Try.f103)) = [] from by kernel_rfl]
    exact allM_nil) (T := T103_7) (fun R x kc ke => q103_7 F110 F111 F112 (G103_3 FUEL) (G103_7 FUEL) R x kc ke) FUEL R x ke r ((it103_7 FUEL R x ke).trans h)
theorem ok103 : (en103 F103).OK Try.prog :=
  ent_ok (Ef := fun R => e103 F110 F111 F112 (G103_3 FUEL) (G103_7 FUEL) R) (fun R => env103 R) mixed Try.func103 (body := codeOf Try.f103) (by kernel_rfl) (by kernel_rfl) (np := 0) (nt := 61) (fun _ => rfl) (fun _ => rfl) (by kernel_rfl) (res := res103) (by kernel_rfl) (fun _ => rfl) (fun _ => Nat.le_of_ble_eq_true rfl) (by
    intro R
    rw [show loopsOf (codeOf Try.f103) = [lcode 3 (codeOf Try.f103), lcode 7 (codeOf Try.f103)] from by kernel_rfl]
    exact (allM_cons (loop_ok2 (e := le103_3 (G103_3 FUEL)) rfl rfl lok103_3) (allM_cons (loop_ok2 (e := le103_7 (G103_7 FUEL)) rfl rfl lok103_7) allM_nil))) (fun R x k => q103 F110 F111 F112 (G103_3 FUEL) (G103_7 FUEL) F103 R x k)
/-! drawlot/drawlotref04.Constant -/
abbrev FT105 : Type 1 := (R : Type) → Int → (Int → Option R) → Option R
def en105 (F : FT105) : Ent := ⟨105, [(false, (.int .i64))], [(false, (.int .u32))], fun R x k => F R x.1 (fun y1 => k (y1, ()) ())⟩
def res105 : List (ResultVar × TypeId × Bool) := [(.tmp 2, 49, false)]
def e105 (R : Type) : Env R := ⟨TT, EQT, 0, 12, ownOf [], callOf [] R, loopOf [] R⟩
def p105 : FT105 := fun R a0 k =>
let v1 : Bool := (decide (a0 < (0 : Int)));
(match v1 with
| true => k (0 : Int)
| false => let v2 : Bool := (decide (a0 > (63 : Int)));
(match v2 with
| true => k (0 : Int)
| false => let v3 : (List Int) := (List.set (List.set (List.set (List.set (List.set (List.set (List.set (List.set (List.set (List.set (List.set (List.set (List.set (List.set (List.set (List.set (List.set (List.set (List.set (List.set (List.set (List.set (List.set (List.set (List.set (List.set (List.set (List.set (List.set (List.set (List.set (List.set (List.set (List.set (List.set (List.set (List.set (List.set (List.set (List.set (List.set (List.set (List.set (List.set (List.set (List.set (List.set (List.set (List.set (List.set (List.set (List.set (List.set (List.set (List.set (List.set (List.set (List.set (List.set (List.set (List.set (List.set (List.set (List.set (List.replicate 64 (0 : Int)) 0 (1116352408 : Int)) 1 (1899447441 : Int)) 2 (3049323471 : Int)) 3 (3921009573 : Int)) 4 (961987163 : Int)) 5 (1508970993 : Int)) 6 (2453635748 : Int)) 7 (2870763221 : Int)) 8 (3624381080 : Int)) 9 (310598401 : Int)) 10 (607225278 : Int)) 11 (1426881987 : Int)) 12 (1925078388 : Int)) 13 (2162078206 : Int)) 14 (2614888103 : Int)) 15 (3248222580 : Int)) 16 (3835390401 : Int)) 17 (4022224774 : Int)) 18 (264347078 : Int)) 19 (604807628 : Int)) 20 (770255983 : Int)) 21 (1249150122 : Int)) 22 (1555081692 : Int)) 23 (1996064986 : Int)) 24 (2554220882 : Int)) 25 (2821834349 : Int)) 26 (2952996808 : Int)) 27 (3210313671 : Int)) 28 (3336571891 : Int)) 29 (3584528711 : Int)) 30 (113926993 : Int)) 31 (338241895 : Int)) 32 (666307205 : Int)) 33 (773529912 : Int)) 34 (1294757372 : Int)) 35 (1396182291 : Int)) 36 (1695183700 : Int)) 37 (1986661051 : Int)) 38 (2177026350 : Int)) 39 (2456956037 : Int)) 40 (2730485921 : Int)) 41 (2820302411 : Int)) 42 (3259730800 : Int)) 43 (3345764771 : Int)) 44 (3516065817 : Int)) 45 (3600352804 : Int)) 46 (4094571909 : Int)) 47 (275423344 : Int)) 48 (430227734 : Int)) 49 (506948616 : Int)) 50 (659060556 : Int)) 51 (883997877 : Int)) 52 (958139571 : Int)) 53 (1322822218 : Int)) 54 (1537002063 : Int)) 55 (1747873779 : Int)) 56 (1955562222 : Int)) 57 (2024104815 : Int)) 58 (2227730452 : Int)) 59 (2361852424 : Int)) 60 (2428436474 : Int)) 61 (2756734187 : Int)) 62 (3204031479 : Int)) 63 (3329325298 : Int));
(match (bnd a0 (64 : Int)) with
| true => let v4 : Int := (List.getD v3 (Int.toNat a0) (0 : Int));
k v4
| false => none)))
theorem q105 (F : FT105) (R : Type) (x : AT (en105 F).ins) (k : RT (en105 F).outs → PT (en105 F).ins → Option R) :
  xfun (e105 R) (codeOf Try.f105) res105 (avs (en105 F).ins x) (finK (en105 F).outs (en105 F).ins k) = p105 R x.1 (fun y1 => k (y1, ()) ()) := by kernel_rfl
noncomputable def F105 : FT105 := p105
theorem env105 (R : Type) : EnvOK Try.prog (e105 R) := ⟨tabOK, eqOK, callOf_ok allE_nil⟩
theorem ok105 : (en105 F105).OK Try.prog :=
  ent_ok (Ef := fun R => e105 R) (fun R => env105 R) mixed Try.func105 (body := codeOf Try.f105) (by kernel_rfl) (by kernel_rfl) (np := 0) (nt := 12) (fun _ => rfl) (fun _ => rfl) (by kernel_rfl) (res := res105) (by kernel_rfl) (fun _ => rfl) (fun _ => Nat.le_of_ble_eq_true rfl) (by
    intro R
    rw [show loopsOf (codeOf Try.f105) = [] from by kernel_rfl]
    exact allM_nil) (fun R x k => q105 F105 R x k)
/-! drawlot/drawlotref04.turned -/
abbrev FT113 : Type 1 := (R : Type) → Int → Int → Int → Int → (Int → Option R) → Option R
def en113 (F : FT113) : Ent := ⟨113, [(false, (.int .u32)), (false, (.int .i64)), (false, (.int .i64)), (false, (.int .i64))], [(false, (.int .u32))], fun R x k => F R x.1 x.2.1 x.2.2.1 x.2.2.2.1 (fun y1 => k (y1, ()) ())⟩
def res113 : List (ResultVar × TypeId × Bool) := [(.tmp 8, 49, false)]
def e113 (F119 : FT119) (R : Type) : Env R := ⟨TT, EQT, 0, 20, ownOf [], callOf [en119 F119] R, loopOf [] R⟩
def p113 (F119 : FT119) : FT113 := fun R a0 a1 a2 a3 k =>
F119 R a0 a1 fun y1 =>
F119 R a0 a2 fun y2 =>
let v3 : Int := (ixor .u32 y1 y2);
F119 R a0 a3 fun y4 =>
let v5 : Int := (ixor .u32 v3 y4);
k v5
theorem q113 (F119 : FT119) (F : FT113) (R : Type) (x : AT (en113 F).ins) (k : RT (en113 F).outs → PT (en113 F).ins → Option R) :
  xfun (e113 F119 R) (codeOf Try.f113) res113 (avs (en113 F).ins x) (finK (en113 F).outs (en113 F).ins k) = p113 F119 R x.1 x.2.1 x.2.2.1 x.2.2.2.1 (fun y1 => k (y1, ()) ()) := by kernel_rfl
noncomputable def F113 : FT113 := p113 F119
theorem env113 (R : Type) : EnvOK Try.prog (e113 F119 R) := ⟨tabOK, eqOK, callOf_ok (allE_cons ok119 allE_nil)⟩
theorem ok113 : (en113 F113).OK Try.prog :=
  ent_ok (Ef := fun R => e113 F119 R) (fun R => env113 R) mixed Try.func113 (body := codeOf Try.f113) (by kernel_rfl) (by kernel_rfl) (np := 0) (nt := 20) (fun _ => rfl) (fun _ => rfl) (by kernel_rfl) (res := res113) (by kernel_rfl) (fun _ => rfl) (fun _ => Nat.le_of_ble_eq_true rfl) (by
    intro R
    rw [show loopsOf (codeOf Try.f113) = [] from by kernel_rfl]
    exact allM_nil) (fun R x k => q113 F119 F113 R x k)
/-! drawlot/drawlotref04.choice -/
abbrev FT114 : Type 1 := (R : Type) → Int → Int → Int → (Int → Option R) → Option R
def en114 (F : FT114) : Ent := ⟨114, [(false, (.int .u32)), (false, (.int .u32)), (false, (.int .u32))], [(false, (.int .u32))], fun R x k => F R x.1 x.2.1 x.2.2.1 (fun y1 => k (y1, ()) ())⟩
def res114 : List (ResultVar × TypeId × Bool) := [(.tmp 6, 49, false)]
def e114 (R : Type) : Env R := ⟨TT, EQT, 0, 15, ownOf [], callOf [] R, loopOf [] R⟩
def p114 : FT114 := fun R a0 a1 a2 k =>
let v1 : Int := (iand .u32 a0 a1);
let v2 : Int := (IntKind.u32.wrap ((4294967295 : Int) - a0));
let v3 : Int := (iand .u32 v2 a2);
let v4 : Int := (ior .u32 v1 v3);
k v4
theorem q114 (F : FT114) (R : Type) (x : AT (en114 F).ins) (k : RT (en114 F).outs → PT (en114 F).ins → Option R) :
  xfun (e114 R) (codeOf Try.f114) res114 (avs (en114 F).ins x) (finK (en114 F).outs (en114 F).ins k) = p114 R x.1 x.2.1 x.2.2.1 (fun y1 => k (y1, ()) ()) := by kernel_rfl
noncomputable def F114 : FT114 := p114
theorem env114 (R : Type) : EnvOK Try.prog (e114 R) := ⟨tabOK, eqOK, callOf_ok allE_nil⟩
theorem ok114 : (en114 F114).OK Try.prog :=
  ent_ok (Ef := fun R => e114 R) (fun R => env114 R) mixed Try.func114 (body := codeOf Try.f114) (by kernel_rfl) (by kernel_rfl) (np := 0) (nt := 15) (fun _ => rfl) (fun _ => rfl) (by kernel_rfl) (res := res114) (by kernel_rfl) (fun _ => rfl) (fun _ => Nat.le_of_ble_eq_true rfl) (by
    intro R
    rw [show loopsOf (codeOf Try.f114) = [] from by kernel_rfl]
    exact allM_nil) (fun R x k => q114 F114 R x k)
/-! drawlot/drawlotref04.majority -/
abbrev FT115 : Type 1 := (R : Type) → Int → Int → Int → (Int → Option R) → Option R
def en115 (F : FT115) : Ent := ⟨115, [(false, (.int .u32)), (false, (.int .u32)), (false, (.int .u32))], [(false, (.int .u32))], fun R x k => F R x.1 x.2.1 x.2.2.1 (fun y1 => k (y1, ()) ())⟩
def res115 : List (ResultVar × TypeId × Bool) := [(.tmp 6, 49, false)]
def e115 (R : Type) : Env R := ⟨TT, EQT, 0, 18, ownOf [], callOf [] R, loopOf [] R⟩
def p115 : FT115 := fun R a0 a1 a2 k =>
let v1 : Int := (iand .u32 a0 a1);
let v2 : Int := (iand .u32 a0 a2);
let v3 : Int := (ior .u32 v1 v2);
let v4 : Int := (iand .u32 a1 a2);
let v5 : Int := (ior .u32 v3 v4);
k v5
theorem q115 (F : FT115) (R : Type) (x : AT (en115 F).ins) (k : RT (en115 F).outs → PT (en115 F).ins → Option R) :
  xfun (e115 R) (codeOf Try.f115) res115 (avs (en115 F).ins x) (finK (en115 F).outs (en115 F).ins k) = p115 R x.1 x.2.1 x.2.2.1 (fun y1 => k (y1, ()) ()) := by kernel_rfl
noncomputable def F115 : FT115 := p115
theorem env115 (R : Type) : EnvOK Try.prog (e115 R) := ⟨tabOK, eqOK, callOf_ok allE_nil⟩
theorem ok115 : (en115 F115).OK Try.prog :=
  ent_ok (Ef := fun R => e115 R) (fun R => env115 R) mixed Try.func115 (body := codeOf Try.f115) (by kernel_rfl) (by kernel_rfl) (np := 0) (nt := 18) (fun _ => rfl) (fun _ => rfl) (by kernel_rfl) (res := res115) (by kernel_rfl) (fun _ => rfl) (fun _ => Nat.le_of_ble_eq_true rfl) (by
    intro R
    rw [show loopsOf (codeOf Try.f115) = [] from by kernel_rfl]
    exact allM_nil) (fun R x k => q115 F115 R x k)
/-! drawlot/drawlotref04.Round -/
abbrev FT104 : Type 1 := (R : Type) → (List Int) → Int → Int → ((List Int) → Option R) → Option R
def en104 (F : FT104) : Ent := ⟨104, [(false, (.arr 8 (.int .u32))), (false, (.int .u32)), (false, (.int .u32))], [(false, (.arr 8 (.int .u32)))], fun R x k => F R x.1 x.2.1 x.2.2.1 (fun y1 => k (y1, ()) ())⟩
def res104 : List (ResultVar × TypeId × Bool) := [(.cell 6 104, 104, false)]
def e104 (F113 : FT113) (F114 : FT114) (F115 : FT115) (R : Type) : Env R := ⟨TT, EQT, 0, 58, ownOf [], callOf [en113 F113, en114 F114, en115 F115] R, loopOf [] R⟩
def p104 (F113 : FT113) (F114 : FT114) (F115 : FT115) : FT104 := fun R a0 a1 a2 k =>
let v1 : Int := (List.getD a0 7 (0 : Int));
let v2 : Int := (List.getD a0 4 (0 : Int));
F113 R v2 (6 : Int) (11 : Int) (25 : Int) fun y3 =>
let v4 : Int := (IntKind.u32.wrap (v1 + y3));
let v5 : Int := (List.getD a0 4 (0 : Int));
let v6 : Int := (List.getD a0 5 (0 : Int));
let v7 : Int := (List.getD a0 6 (0 : Int));
F114 R v5 v6 v7 fun y8 =>
let v9 : Int := (IntKind.u32.wrap (v4 + y8));
let v10 : Int := (IntKind.u32.wrap (v9 + a2));
let v11 : Int := (IntKind.u32.wrap (v10 + a1));
let v12 : Int := (List.getD a0 0 (0 : Int));
F113 R v12 (2 : Int) (13 : Int) (22 : Int) fun y13 =>
let v14 : Int := (List.getD a0 0 (0 : Int));
let v15 : Int := (List.getD a0 1 (0 : Int));
let v16 : Int := (List.getD a0 2 (0 : Int));
F115 R v14 v15 v16 fun y17 =>
let v18 : Int := (IntKind.u32.wrap (y13 + y17));
let v19 : Int := (IntKind.u32.wrap (v11 + v18));
let v20 : Int := (List.getD a0 0 (0 : Int));
let v21 : Int := (List.getD a0 1 (0 : Int));
let v22 : Int := (List.getD a0 2 (0 : Int));
let v23 : Int := (List.getD a0 3 (0 : Int));
let v24 : Int := (IntKind.u32.wrap (v23 + v11));
let v25 : Int := (List.getD a0 4 (0 : Int));
let v26 : Int := (List.getD a0 5 (0 : Int));
let v27 : Int := (List.getD a0 6 (0 : Int));
let v28 : (List Int) := (List.set (List.set (List.set (List.set (List.set (List.set (List.set (List.set (List.replicate 8 (0 : Int)) 0 v19) 1 v20) 2 v21) 3 v22) 4 v24) 5 v25) 6 v26) 7 v27);
k v28
theorem q104 (F113 : FT113) (F114 : FT114) (F115 : FT115) (F : FT104) (R : Type) (x : AT (en104 F).ins) (k : RT (en104 F).outs → PT (en104 F).ins → Option R) :
  xfun (e104 F113 F114 F115 R) (codeOf Try.f104) res104 (avs (en104 F).ins x) (finK (en104 F).outs (en104 F).ins k) = p104 F113 F114 F115 R x.1 x.2.1 x.2.2.1 (fun y1 => k (y1, ()) ()) := by kernel_rfl
noncomputable def F104 : FT104 := p104 F113 F114 F115
theorem env104 (R : Type) : EnvOK Try.prog (e104 F113 F114 F115 R) := ⟨tabOK, eqOK, callOf_ok (allE_cons ok113 (allE_cons ok114 (allE_cons ok115 allE_nil)))⟩
theorem ok104 : (en104 F104).OK Try.prog :=
  ent_ok (Ef := fun R => e104 F113 F114 F115 R) (fun R => env104 R) mixed Try.func104 (body := codeOf Try.f104) (by kernel_rfl) (by kernel_rfl) (np := 0) (nt := 58) (fun _ => rfl) (fun _ => rfl) (by kernel_rfl) (res := res104) (by kernel_rfl) (fun _ => rfl) (fun _ => Nat.le_of_ble_eq_true rfl) (by
    intro R
    rw [show loopsOf (codeOf Try.f104) = [] from by kernel_rfl]
    exact allM_nil) (fun R x k => q104 F113 F114 F115 F104 R x k)
/-! drawlot/drawlotref04.Take -/
abbrev FT96 : Type 1 := (R : Type) → (List Int) → (List Int) → ((List Int) → Option R) → Option R
def en96 (F : FT96) : Ent := ⟨96, [(false, (.arr 8 (.int .u32))), (false, (.arr 64 (.int .u8)))], [(false, (.arr 8 (.int .u32)))], fun R x k => F R x.1 x.2.1 (fun y1 => k (y1, ()) ())⟩
def res96 : List (ResultVar × TypeId × Bool) := [(.cell 4 104, 104, false)]
abbrev LT96_4 : Type 1 := (R : Type) → Int → (List Int) → (List Int) → (List Int) → (List Int) → ((List Int) → (List Int) → (List Int) → Option R) → Option R
def le96_4 (L : LT96_4) : LEnt := ⟨4, [.fix 2 (.ptr 0 [] (.arr 8 (.int .u32))), .fix 4 (.ptr 2 [] (.arr 8 (.int .u32))), .fix 5 (.ptr 3 [] (.arr 64 (.int .u32))), .fix 6 (.ptr 4 [] (.arr 8 (.int .u32))), .val 7 (.int .i64), .var 0 (.arr 8 (.int .u32)) false, .var 2 (.arr 8 (.int .u32)) false, .var 3 (.arr 64 (.int .u32)) false, .var 4 (.arr 8 (.int .u32)) false], 5, [(.exit 0, [.fix 2 (.ptr 0 [] (.arr 8 (.int .u32))), .fix 4 (.ptr 2 [] (.arr 8 (.int .u32))), .fix 6 (.ptr 4 [] (.arr 8 (.int .u32))), .var 0 (.arr 8 (.int .u32)) false, .var 2 (.arr 8 (.int .u32)) false, .var 4 (.arr 8 (.int .u32)) false])], fun R x ke => L R x.1 x.2.1 x.2.2.1 x.2.2.2.1 x.2.2.2.2.1 (fun y1 y2 y3 => ke.1 (y1, y2, y3, ()))⟩
abbrev LT96_8 : Type 1 := (R : Type) → Int → (List Int) → (List Int) → (List Int) → ((List Int) → (List Int) → Option R) → Option R
def le96_8 (L : LT96_8) : LEnt := ⟨8, [.fix 2 (.ptr 0 [] (.arr 8 (.int .u32))), .fix 4 (.ptr 2 [] (.arr 8 (.int .u32))), .fix 6 (.ptr 4 [] (.arr 8 (.int .u32))), .val 8 (.int .i64), .var 0 (.arr 8 (.int .u32)) false, .var 2 (.arr 8 (.int .u32)) false, .var 4 (.arr 8 (.int .u32)) false], 5, [(.exit 2, [.fix 4 (.ptr 2 [] (.arr 8 (.int .u32))), .fix 6 (.ptr 4 [] (.arr 8 (.int .u32))), .var 2 (.arr 8 (.int .u32)) false, .var 4 (.arr 8 (.int .u32)) false])], fun R x ke => L R x.1 x.2.1 x.2.2.1 x.2.2.2.1 (fun y1 y2 => ke.1 (y1, y2, ()))⟩
def e96 (F103 : FT103) (F104 : FT104) (F105 : FT105) (L4 : LT96_4) (L8 : LT96_8) (R : Type) : Env R := ⟨TT, EQT, 0, 37, ownOf [], callOf [en103 F103, en104 F104, en105 F105] R, loopOf [le96_4 L4, le96_8 L8] R⟩
def p96_4 (F104 : FT104) (F105 : FT105) : (R : Type) → Int → (List Int) → (List Int) → (List Int) → (List Int) → (Int → (List Int) → (List Int) → (List Int) → (List Int) → Option R) → ((List Int) → (List Int) → (List Int) → Option R) → Option R := fun R x1 x2 x3 x4 x5 kc k0 =>
let v6 : Bool := (decide (x1 < (64 : Int)));
(match v6 with
| true => (match (bnd x1 (64 : Int)) with
| true => let v7 : Int := (List.getD x4 (Int.toNat x1) (0 : Int));
F105 R x1 fun y8 =>
F104 R x5 v7 y8 fun y9 =>
let v10 : Int := (IntKind.i64.wrap (x1 + (1 : Int)));
kc v10 x2 x3 x4 y9
| false => none)
| false => k0 x2 x3 x5)
theorem q96_4 (F103 : FT103) (F104 : FT104) (F105 : FT105) (L4 : LT96_4) (L8 : LT96_8) (R : Type) (x : HT (le96_4 L4).H) (kc : HT (le96_4 L4).H → Option R) (ke : KT R (le96_4 L4).exs) :
  exec (e96 F103 F104 F105 L4 L8 R) (lcode 4 (codeOf Try.f96)) (stOf (le96_4 L4).H x 5) (roundK (le96_4 L4).H (le96_4 L4).exs kc ke) =
    p96_4 F104 F105 R x.1 x.2.1 x.2.2.1 x.2.2.2.1 x.2.2.2.2.1 (fun x1 x2 x3 x4 x5 => kc (x1, x2, x3, x4, x5, ())) (fun y1 y2 y3 => ke.1 (y1, y2, y3, ())) := by kernel_rfl
noncomputable def G96_4 : Nat → LT96_4
  | 0 => fun _ _ _ _ _ _ _ => none
  | n + 1 => fun R x1 x2 x3 x4 x5 k0 => p96_4 F104 F105 R x1 x2 x3 x4 x5 (fun x1 x2 x3 x4 x5 => G96_4 n R x1 x2 x3 x4 x5 k0) k0
def p96_8 : (R : Type) → Int → (List Int) → (List Int) → (List Int) → (Int → (List Int) → (List Int) → (List Int) → Option R) → ((List Int) → (List Int) → Option R) → Option R := fun R x1 x2 x3 x4 kc k0 =>
let v5 : Bool := (decide (x1 < (8 : Int)));
(match v5 with
| true => (match (bnd x1 (8 : Int)) with
| true => let v6 : Int := (List.getD x4 (Int.toNat x1) (0 : Int));
(match (bnd x1 (8 : Int)) with
| true => let v7 : Int := (List.getD x2 (Int.toNat x1) (0 : Int));
let v8 : Int := (IntKind.u32.wrap (v6 + v7));
(match (bnd x1 (8 : Int)) with
| true => let v9 : (List Int) := (List.set x4 (Int.toNat x1) v8);
let v10 : Int := (IntKind.i64.wrap (x1 + (1 : Int)));
kc v10 x2 x3 v9
| false => none)
| false => none)
| false => none)
| false => k0 x3 x4)
theorem q96_8 (F103 : FT103) (F104 : FT104) (F105 : FT105) (L4 : LT96_4) (L8 : LT96_8) (R : Type) (x : HT (le96_8 L8).H) (kc : HT (le96_8 L8).H → Option R) (ke : KT R (le96_8 L8).exs) :
  exec (e96 F103 F104 F105 L4 L8 R) (lcode 8 (codeOf Try.f96)) (stOf (le96_8 L8).H x 5) (roundK (le96_8 L8).H (le96_8 L8).exs kc ke) =
    p96_8 R x.1 x.2.1 x.2.2.1 x.2.2.2.1 (fun x1 x2 x3 x4 => kc (x1, x2, x3, x4, ())) (fun y1 y2 => ke.1 (y1, y2, ())) := by kernel_rfl
noncomputable def G96_8 : Nat → LT96_8
  | 0 => fun _ _ _ _ _ _ => none
  | n + 1 => fun R x1 x2 x3 x4 k0 => p96_8 R x1 x2 x3 x4 (fun x1 x2 x3 x4 => G96_8 n R x1 x2 x3 x4 k0) k0
def p96 (F103 : FT103) (L4 : LT96_4) (L8 : LT96_8) : FT96 := fun R a0 a1 k =>
F103 R a1 fun y1 =>
L4 R (0 : Int) a0 (List.replicate 8 (0 : Int)) y1 a0 (fun x2 x3 x4 =>
L8 R (0 : Int) x2 x3 x4 (fun x5 x6 =>
k x6))
theorem q96 (F103 : FT103) (F104 : FT104) (F105 : FT105) (L4 : LT96_4) (L8 : LT96_8) (F : FT96) (R : Type) (x : AT (en96 F).ins) (k : RT (en96 F).outs → PT (en96 F).ins → Option R) :
  xfun (e96 F103 F104 F105 L4 L8 R) (codeOf Try.f96) res96 (avs (en96 F).ins x) (finK (en96 F).outs (en96 F).ins k) = p96 F103 L4 L8 R x.1 x.2.1 (fun y1 => k (y1, ()) ()) := by kernel_rfl
noncomputable def F96 : FT96 := p96 F103 (G96_4 FUEL) (G96_8 FUEL)
theorem env96 (R : Type) : EnvOK Try.prog (e96 F103 F104 F105 (G96_4 FUEL) (G96_8 FUEL) R) := ⟨tabOK, eqOK, callOf_ok (allE_cons ok103 (allE_cons ok104 (allE_cons ok105 allE_nil)))⟩
noncomputable def T96_4 : (R : Type) → HT (le96_4 (G96_4 FUEL)).H → (HT (le96_4 (G96_4 FUEL)).H → Option R) → KT R (le96_4 (G96_4 FUEL)).exs → Option R := fun R x kc ke => p96_4 F104 F105 R x.1 x.2.1 x.2.2.1 x.2.2.2.1 x.2.2.2.2.1 (fun x1 x2 x3 x4 x5 => kc (x1, x2, x3, x4, x5, ())) (fun y1 y2 y3 => ke.1 (y1, y2, y3, ()))
theorem it96_4 : ∀ (n : Nat) (R : Type) (x : HT (le96_4 (G96_4 FUEL)).H) (ke : KT R (le96_4 (G96_4 FUEL)).exs), iter T96_4 n R x ke = G96_4 n R x.1 x.2.1 x.2.2.1 x.2.2.2.1 x.2.2.2.2.1 (fun y1 y2 y3 => ke.1 (y1, y2, y3, ())) := by
  intro n
  induction n with
  | zero => intro R x ke; rfl
  | succ n ih =>
    intro R x ke
    show T96_4 R x (fun x' => iter T96_4 n R x' ke) ke = _
    rw [show (fun x' => iter T96_4 n R x' ke) = fun x => G96_4 n R x.1 x.2.1 x.2.2.1 x.2.2.2.1 x.2.2.2.2.1 (fun y1 y2 y3 => ke.1 (y1, y2, y3, ())) from funext fun x' => ih R x' ke]
    rfl
theorem lok96_4 : (le96_4 (G96_4 FUEL)).OK Try.prog 0 37 (lcode 4 (codeOf Try.f96)) := fun R x ke r h =>
  iter_sound (fun R => e96 F103 F104 F105 (G96_4 FUEL) (G96_8 FUEL) R) 0 37 (fun _ => rfl) (fun _ => rfl) (fun R => env96 R) mixed (by
    intro R
    rw [show loopsOf (lcode 4 (codeOf Try.f96)) = [] from by kernel_rfl]
    exact allM_nil) (T := T96_4) (fun R x kc ke => q96_4 F103 F104 F105 (G96_4 FUEL) (G96_8 FUEL) R x kc ke) FUEL R x ke r ((it96_4 FUEL R x ke).trans h)
noncomputable def T96_8 : (R : Type) → HT (le96_8 (G96_8 FUEL)).H → (HT (le96_8 (G96_8 FUEL)).H → Option R) → KT R (le96_8 (G96_8 FUEL)).exs → Option R := fun R x kc ke => p96_8 R x.1 x.2.1 x.2.2.1 x.2.2.2.1 (fun x1 x2 x3 x4 => kc (x1, x2, x3, x4, ())) (fun y1 y2 => ke.1 (y1, y2, ()))
theorem it96_8 : ∀ (n : Nat) (R : Type) (x : HT (le96_8 (G96_8 FUEL)).H) (ke : KT R (le96_8 (G96_8 FUEL)).exs), iter T96_8 n R x ke = G96_8 n R x.1 x.2.1 x.2.2.1 x.2.2.2.1 (fun y1 y2 => ke.1 (y1, y2, ())) := by
  intro n
  induction n with
  | zero => intro R x ke; rfl
  | succ n ih =>
    intro R x ke
    show T96_8 R x (fun x' => iter T96_8 n R x' ke) ke = _
    rw [show (fun x' => iter T96_8 n R x' ke) = fun x => G96_8 n R x.1 x.2.1 x.2.2.1 x.2.2.2.1 (fun y1 y2 => ke.1 (y1, y2, ())) from funext fun x' => ih R x' ke]
    rfl
theorem lok96_8 : (le96_8 (G96_8 FUEL)).OK Try.prog 0 37 (lcode 8 (codeOf Try.f96)) := fun R x ke r h =>
  iter_sound (fun R => e96 F103 F104 F105 (G96_4 FUEL) (G96_8 FUEL) R) 0 37 (fun _ => rfl) (fun _ => rfl) (fun R => env96 R) mixed (by
    intro R
    rw [show loopsOf (lcode 8 (codeOf Try.f96)) = [] from by kernel_rfl]
    exact allM_nil) (T := T96_8) (fun R x kc ke => q96_8 F103 F104 F105 (G96_4 FUEL) (G96_8 FUEL) R x kc ke) FUEL R x ke r ((it96_8 FUEL R x ke).trans h)
theorem ok96 : (en96 F96).OK Try.prog :=
  ent_ok (Ef := fun R => e96 F103 F104 F105 (G96_4 FUEL) (G96_8 FUEL) R) (fun R => env96 R) mixed Try.func96 (body := codeOf Try.f96) (by kernel_rfl) (by kernel_rfl) (np := 0) (nt := 37) (fun _ => rfl) (fun _ => rfl) (by kernel_rfl) (res := res96) (by kernel_rfl) (fun _ => rfl) (fun _ => Nat.le_of_ble_eq_true rfl) (by
    intro R
    rw [show loopsOf (codeOf Try.f96) = [lcode 4 (codeOf Try.f96), lcode 8 (codeOf Try.f96)] from by kernel_rfl]
    exact (allM_cons (loop_ok2 (e := le96_4 (G96_4 FUEL)) rfl rfl lok96_4) (allM_cons (loop_ok2 (e := le96_8 (G96_8 FUEL)) rfl rfl lok96_8) allM_nil))) (fun R x k => q96 F103 F104 F105 (G96_4 FUEL) (G96_8 FUEL) F96 R x k)
/-! drawlot/drawlotref05.take -/
abbrev FT88 : Type 1 := (R : Type) → (List Int) → (List (List Int)) → ((List Int) → Option R) → Option R
def en88 (F : FT88) : Ent := ⟨88, [(false, (.arr 8 (.int .u32))), (false, (.sl (.arr 64 (.int .u8))))], [(false, (.arr 8 (.int .u32)))], fun R x k => F R x.1 x.2.1 (fun y1 => k (y1, ()) ())⟩
def res88 : List (ResultVar × TypeId × Bool) := [(.cell 4 104, 104, false)]
abbrev LT88_2 : Type 1 := (R : Type) → (List (List Int)) → Int → (List Int) → (List Int) → ((List Int) → (List Int) → Option R) → Option R
def le88_2 (L : LT88_2) : LEnt := ⟨2, [.val 1 (.sl (.arr 64 (.int .u8))), .fix 2 (.ptr 0 [] (.arr 8 (.int .u32))), .fix 4 (.ptr 1 [] (.arr 8 (.int .u32))), .val 5 (.int .i64), .var 0 (.arr 8 (.int .u32)) false, .var 1 (.arr 8 (.int .u32)) false], 2, [(.exit 0, [.fix 2 (.ptr 0 [] (.arr 8 (.int .u32))), .fix 4 (.ptr 1 [] (.arr 8 (.int .u32))), .var 0 (.arr 8 (.int .u32)) false, .var 1 (.arr 8 (.int .u32)) false])], fun R x ke => L R x.1 x.2.1 x.2.2.1 x.2.2.2.1 (fun y1 y2 => ke.1 (y1, y2, ()))⟩
def e88 (F96 : FT96) (L2 : LT88_2) (R : Type) : Env R := ⟨TT, EQT, 0, 19, ownOf [], callOf [en96 F96] R, loopOf [le88_2 L2] R⟩
def p88_2 (F96 : FT96) : (R : Type) → (List (List Int)) → Int → (List Int) → (List Int) → ((List (List Int)) → Int → (List Int) → (List Int) → Option R) → ((List Int) → (List Int) → Option R) → Option R := fun R x1 x2 x3 x4 kc k0 =>
let v5 : Int := (List.length x1 : Int);
let v6 : Bool := (decide (x2 < v5));
(match v6 with
| true => (match (bnd x2 (List.length x1 : Int)) with
| true => let v7 : (List Int) := (List.getD x1 (Int.toNat x2) (List.replicate 64 (0 : Int)));
F96 R x3 v7 fun y8 =>
let v9 : Int := (IntKind.i64.wrap (x2 + (1 : Int)));
kc x1 v9 y8 x4
| false => none)
| false => k0 x3 x4)
theorem q88_2 (F96 : FT96) (L2 : LT88_2) (R : Type) (x : HT (le88_2 L2).H) (kc : HT (le88_2 L2).H → Option R) (ke : KT R (le88_2 L2).exs) :
  exec (e88 F96 L2 R) (lcode 2 (codeOf Try.f88)) (stOf (le88_2 L2).H x 2) (roundK (le88_2 L2).H (le88_2 L2).exs kc ke) =
    p88_2 F96 R x.1 x.2.1 x.2.2.1 x.2.2.2.1 (fun x1 x2 x3 x4 => kc (x1, x2, x3, x4, ())) (fun y1 y2 => ke.1 (y1, y2, ())) := by kernel_rfl
noncomputable def G88_2 : Nat → LT88_2
  | 0 => fun _ _ _ _ _ _ => none
  | n + 1 => fun R x1 x2 x3 x4 k0 => p88_2 F96 R x1 x2 x3 x4 (fun x1 x2 x3 x4 => G88_2 n R x1 x2 x3 x4 k0) k0
def p88 (L2 : LT88_2) : FT88 := fun R a0 a1 k =>
L2 R a1 (0 : Int) a0 (List.replicate 8 (0 : Int)) (fun x1 x2 =>
k x1)
theorem q88 (F96 : FT96) (L2 : LT88_2) (F : FT88) (R : Type) (x : AT (en88 F).ins) (k : RT (en88 F).outs → PT (en88 F).ins → Option R) :
  xfun (e88 F96 L2 R) (codeOf Try.f88) res88 (avs (en88 F).ins x) (finK (en88 F).outs (en88 F).ins k) = p88 L2 R x.1 x.2.1 (fun y1 => k (y1, ()) ()) := by kernel_rfl
noncomputable def F88 : FT88 := p88 (G88_2 FUEL)
theorem env88 (R : Type) : EnvOK Try.prog (e88 F96 (G88_2 FUEL) R) := ⟨tabOK, eqOK, callOf_ok (allE_cons ok96 allE_nil)⟩
noncomputable def T88_2 : (R : Type) → HT (le88_2 (G88_2 FUEL)).H → (HT (le88_2 (G88_2 FUEL)).H → Option R) → KT R (le88_2 (G88_2 FUEL)).exs → Option R := fun R x kc ke => p88_2 F96 R x.1 x.2.1 x.2.2.1 x.2.2.2.1 (fun x1 x2 x3 x4 => kc (x1, x2, x3, x4, ())) (fun y1 y2 => ke.1 (y1, y2, ()))
theorem it88_2 : ∀ (n : Nat) (R : Type) (x : HT (le88_2 (G88_2 FUEL)).H) (ke : KT R (le88_2 (G88_2 FUEL)).exs), iter T88_2 n R x ke = G88_2 n R x.1 x.2.1 x.2.2.1 x.2.2.2.1 (fun y1 y2 => ke.1 (y1, y2, ())) := by
  intro n
  induction n with
  | zero => intro R x ke; rfl
  | succ n ih =>
    intro R x ke
    show T88_2 R x (fun x' => iter T88_2 n R x' ke) ke = _
    rw [show (fun x' => iter T88_2 n R x' ke) = fun x => G88_2 n R x.1 x.2.1 x.2.2.1 x.2.2.2.1 (fun y1 y2 => ke.1 (y1, y2, ())) from funext fun x' => ih R x' ke]
    rfl
theorem lok88_2 : (le88_2 (G88_2 FUEL)).OK Try.prog 0 19 (lcode 2 (codeOf Try.f88)) := fun R x ke r h =>
  iter_sound (fun R => e88 F96 (G88_2 FUEL) R) 0 19 (fun _ => rfl) (fun _ => rfl) (fun R => env88 R) mixed (by
    intro R
    rw [show loopsOf (lcode 2 (codeOf Try.f88)) = [] from by kernel_rfl]
    exact allM_nil) (T := T88_2) (fun R x kc ke => q88_2 F96 (G88_2 FUEL) R x kc ke) FUEL R x ke r ((it88_2 FUEL R x ke).trans h)
theorem ok88 : (en88 F88).OK Try.prog :=
  ent_ok (Ef := fun R => e88 F96 (G88_2 FUEL) R) (fun R => env88 R) mixed Try.func88 (body := codeOf Try.f88) (by kernel_rfl) (by kernel_rfl) (np := 0) (nt := 19) (fun _ => rfl) (fun _ => rfl) (by kernel_rfl) (res := res88) (by kernel_rfl) (fun _ => rfl) (fun _ => Nat.le_of_ble_eq_true rfl) (by
    intro R
    rw [show loopsOf (codeOf Try.f88) = [lcode 2 (codeOf Try.f88)] from by kernel_rfl]
    exact (allM_cons (loop_ok2 (e := le88_2 (G88_2 FUEL)) rfl rfl lok88_2) allM_nil)) (fun R x k => q88 F96 (G88_2 FUEL) F88 R x k)
/-! drawlot/drawlotref01.Put32 -/
abbrev FT95 : Type 1 := (R : Type) → Int → ((List Int) → Option R) → Option R
def en95 (F : FT95) : Ent := ⟨95, [(false, (.int .u32))], [(false, (.arr 4 (.int .u8)))], fun R x k => F R x.1 (fun y1 => k (y1, ()) ())⟩
def res95 : List (ResultVar × TypeId × Bool) := [(.cell 2 119, 119, false)]
def e95 (R : Type) : Env R := ⟨TT, EQT, 0, 18, ownOf [], callOf [] R, loopOf [] R⟩
def p95 : FT95 := fun R a0 k =>
let v1 : Int := (IntKind.u32.wrap (Int.tdiv a0 (16777216 : Int)));
let v2 : Int := (IntKind.u8.wrap v1);
let v3 : Int := (IntKind.u32.wrap (Int.tdiv a0 (65536 : Int)));
let v4 : Int := (Int.tmod v3 (256 : Int));
let v5 : Int := (IntKind.u8.wrap v4);
let v6 : Int := (IntKind.u32.wrap (Int.tdiv a0 (256 : Int)));
let v7 : Int := (Int.tmod v6 (256 : Int));
let v8 : Int := (IntKind.u8.wrap v7);
let v9 : Int := (Int.tmod a0 (256 : Int));
let v10 : Int := (IntKind.u8.wrap v9);
let v11 : (List Int) := (List.set (List.set (List.set (List.set (List.replicate 4 (0 : Int)) 0 v2) 1 v5) 2 v8) 3 v10);
k v11
theorem q95 (F : FT95) (R : Type) (x : AT (en95 F).ins) (k : RT (en95 F).outs → PT (en95 F).ins → Option R) :
  xfun (e95 R) (codeOf Try.f95) res95 (avs (en95 F).ins x) (finK (en95 F).outs (en95 F).ins k) = p95 R x.1 (fun y1 => k (y1, ()) ()) := by kernel_rfl
noncomputable def F95 : FT95 := p95
theorem env95 (R : Type) : EnvOK Try.prog (e95 R) := ⟨tabOK, eqOK, callOf_ok allE_nil⟩
theorem ok95 : (en95 F95).OK Try.prog :=
  ent_ok (Ef := fun R => e95 R) (fun R => env95 R) mixed Try.func95 (body := codeOf Try.f95) (by kernel_rfl) (by kernel_rfl) (np := 0) (nt := 18) (fun _ => rfl) (fun _ => rfl) (by kernel_rfl) (res := res95) (by kernel_rfl) (fun _ => rfl) (fun _ => Nat.le_of_ble_eq_true rfl) (by
    intro R
    rw [show loopsOf (codeOf Try.f95) = [] from by kernel_rfl]
    exact allM_nil) (fun R x k => q95 F95 R x k)
/-! drawlot/drawlotref05.hash -/
abbrev FT87 : Type 1 := (R : Type) → (List Int) → ((List Int) → Option R) → Option R
def en87 (F : FT87) : Ent := ⟨87, [(false, (.arr 8 (.int .u32)))], [(false, (.arr 32 (.int .u8)))], fun R x k => F R x.1 (fun y1 => k (y1, ()) ())⟩
def res87 : List (ResultVar × TypeId × Bool) := [(.cell 2 34, 34, false)]
abbrev LT87_3 : Type 1 := (R : Type) → Int → (List Int) → (List Int) → (List Int) → ((List Int) → (List Int) → Option R) → Option R
def le87_3 (L : LT87_3) : LEnt := ⟨3, [.fix 1 (.ptr 0 [] (.arr 8 (.int .u32))), .fix 2 (.ptr 1 [] (.arr 32 (.int .u8))), .fix 3 (.ptr 2 [] (.arr 32 (.int .u8))), .val 4 (.int .i64), .var 0 (.arr 8 (.int .u32)) false, .var 1 (.arr 32 (.int .u8)) false, .var 2 (.arr 32 (.int .u8)) false], 3, [(.exit 0, [.fix 2 (.ptr 1 [] (.arr 32 (.int .u8))), .fix 3 (.ptr 2 [] (.arr 32 (.int .u8))), .var 1 (.arr 32 (.int .u8)) false, .var 2 (.arr 32 (.int .u8)) false])], fun R x ke => L R x.1 x.2.1 x.2.2.1 x.2.2.2.1 (fun y1 y2 => ke.1 (y1, y2, ()))⟩
abbrev LT87_7 : Type 1 := (R : Type) → Int → Int → (List Int) → (List Int) → (List Int) → (List Int) → (Int → (List Int) → (List Int) → (List Int) → Option R) → Option R
def le87_7 (L : LT87_7) : LEnt := ⟨7, [.fix 1 (.ptr 0 [] (.arr 8 (.int .u32))), .fix 2 (.ptr 1 [] (.arr 32 (.int .u8))), .fix 3 (.ptr 2 [] (.arr 32 (.int .u8))), .val 4 (.int .i64), .fix 5 (.ptr 3 [] (.arr 4 (.int .u8))), .val 6 (.int .i64), .var 0 (.arr 8 (.int .u32)) false, .var 1 (.arr 32 (.int .u8)) false, .var 2 (.arr 32 (.int .u8)) false, .var 3 (.arr 4 (.int .u8)) false], 4, [(.exit 2, [.fix 1 (.ptr 0 [] (.arr 8 (.int .u32))), .fix 2 (.ptr 1 [] (.arr 32 (.int .u8))), .fix 3 (.ptr 2 [] (.arr 32 (.int .u8))), .val 4 (.int .i64), .var 0 (.arr 8 (.int .u32)) false, .var 1 (.arr 32 (.int .u8)) false, .var 2 (.arr 32 (.int .u8)) false])], fun R x ke => L R x.1 x.2.1 x.2.2.1 x.2.2.2.1 x.2.2.2.2.1 x.2.2.2.2.2.1 (fun y1 y2 y3 y4 => ke.1 (y1, y2, y3, y4, ()))⟩
def e87 (F95 : FT95) (L3 : LT87_3) (L7 : LT87_7) (R : Type) : Env R := ⟨TT, EQT, 0, 28, ownOf [], callOf [en95 F95] R, loopOf [le87_3 L3, le87_7 L7] R⟩
def p87_7 : (R : Type) → Int → Int → (List Int) → (List Int) → (List Int) → (List Int) → (Int → Int → (List Int) → (List Int) → (List Int) → (List Int) → Option R) → (Int → (List Int) → (List Int) → (List Int) → Option R) → Option R := fun R x1 x2 x3 x4 x5 x6 kc k0 =>
let v7 : Bool := (decide (x2 < (4 : Int)));
(match v7 with
| true => let v8 : Int := (IntKind.i64.wrap ((4 : Int) * x1));
let v9 : Int := (IntKind.i64.wrap (v8 + x2));
(match (bnd x2 (4 : Int)) with
| true => let v10 : Int := (List.getD x6 (Int.toNat x2) (0 : Int));
(match (bnd v9 (32 : Int)) with
| true => let v11 : (List Int) := (List.set x5 (Int.toNat v9) v10);
let v12 : Int := (IntKind.i64.wrap (x2 + (1 : Int)));
kc x1 v12 x3 x4 v11 x6
| false => none)
| false => none)
| false => k0 x1 x3 x4 x5)
theorem q87_7 (F95 : FT95) (L3 : LT87_3) (L7 : LT87_7) (R : Type) (x : HT (le87_7 L7).H) (kc : HT (le87_7 L7).H → Option R) (ke : KT R (le87_7 L7).exs) :
  exec (e87 F95 L3 L7 R) (lcode 7 (codeOf Try.f87)) (stOf (le87_7 L7).H x 4) (roundK (le87_7 L7).H (le87_7 L7).exs kc ke) =
    p87_7 R x.1 x.2.1 x.2.2.1 x.2.2.2.1 x.2.2.2.2.1 x.2.2.2.2.2.1 (fun x1 x2 x3 x4 x5 x6 => kc (x1, x2, x3, x4, x5, x6, ())) (fun y1 y2 y3 y4 => ke.1 (y1, y2, y3, y4, ())) := by kernel_rfl
noncomputable def G87_7 : Nat → LT87_7
  | 0 => fun _ _ _ _ _ _ _ _ => none
  | n + 1 => fun R x1 x2 x3 x4 x5 x6 k0 => p87_7 R x1 x2 x3 x4 x5 x6 (fun x1 x2 x3 x4 x5 x6 => G87_7 n R x1 x2 x3 x4 x5 x6 k0) k0
def p87_3 (F95 : FT95) (L7 : LT87_7) : (R : Type) → Int → (List Int) → (List Int) → (List Int) → (Int → (List Int) → (List Int) → (List Int) → Option R) → ((List Int) → (List Int) → Option R) → Option R := fun R x1 x2 x3 x4 kc k0 =>
let v5 : Bool := (decide (x1 < (8 : Int)));
(match v5 with
| true => (match (bnd x1 (8 : Int)) with
| true => let v6 : Int := (List.getD x2 (Int.toNat x1) (0 : Int));
F95 R v6 fun y7 =>
L7 R x1 (0 : Int) x2 x3 x4 y7 (fun x8 x9 x10 x11 =>
let v12 : Int := (IntKind.i64.wrap (x8 + (1 : Int)));
kc v12 x9 x10 x11)
| false => none)
| false => k0 x3 x4)
theorem q87_3 (F95 : FT95) (L3 : LT87_3) (L7 : LT87_7) (R : Type) (x : HT (le87_3 L3).H) (kc : HT (le87_3 L3).H → Option R) (ke : KT R (le87_3 L3).exs) :
  exec (e87 F95 L3 L7 R) (lcode 3 (codeOf Try.f87)) (stOf (le87_3 L3).H x 3) (roundK (le87_3 L3).H (le87_3 L3).exs kc ke) =
    p87_3 F95 L7 R x.1 x.2.1 x.2.2.1 x.2.2.2.1 (fun x1 x2 x3 x4 => kc (x1, x2, x3, x4, ())) (fun y1 y2 => ke.1 (y1, y2, ())) := by kernel_rfl
noncomputable def G87_3 : Nat → LT87_3
  | 0 => fun _ _ _ _ _ _ => none
  | n + 1 => fun R x1 x2 x3 x4 k0 => p87_3 F95 (G87_7 FUEL) R x1 x2 x3 x4 (fun x1 x2 x3 x4 => G87_3 n R x1 x2 x3 x4 k0) k0
def p87 (L3 : LT87_3) : FT87 := fun R a0 k =>
L3 R (0 : Int) a0 (List.replicate 32 (0 : Int)) (List.replicate 32 (0 : Int)) (fun x1 x2 =>
k x2)
theorem q87 (F95 : FT95) (L3 : LT87_3) (L7 : LT87_7) (F : FT87) (R : Type) (x : AT (en87 F).ins) (k : RT (en87 F).outs → PT (en87 F).ins → Option R) :
  xfun (e87 F95 L3 L7 R) (codeOf Try.f87) res87 (avs (en87 F).ins x) (finK (en87 F).outs (en87 F).ins k) = p87 L3 R x.1 (fun y1 => k (y1, ()) ()) := by kernel_rfl
noncomputable def F87 : FT87 := p87 (G87_3 FUEL)
theorem env87 (R : Type) : EnvOK Try.prog (e87 F95 (G87_3 FUEL) (G87_7 FUEL) R) := ⟨tabOK, eqOK, callOf_ok (allE_cons ok95 allE_nil)⟩
noncomputable def T87_7 : (R : Type) → HT (le87_7 (G87_7 FUEL)).H → (HT (le87_7 (G87_7 FUEL)).H → Option R) → KT R (le87_7 (G87_7 FUEL)).exs → Option R := fun R x kc ke => p87_7 R x.1 x.2.1 x.2.2.1 x.2.2.2.1 x.2.2.2.2.1 x.2.2.2.2.2.1 (fun x1 x2 x3 x4 x5 x6 => kc (x1, x2, x3, x4, x5, x6, ())) (fun y1 y2 y3 y4 => ke.1 (y1, y2, y3, y4, ()))
theorem it87_7 : ∀ (n : Nat) (R : Type) (x : HT (le87_7 (G87_7 FUEL)).H) (ke : KT R (le87_7 (G87_7 FUEL)).exs), iter T87_7 n R x ke = G87_7 n R x.1 x.2.1 x.2.2.1 x.2.2.2.1 x.2.2.2.2.1 x.2.2.2.2.2.1 (fun y1 y2 y3 y4 => ke.1 (y1, y2, y3, y4, ())) := by
  intro n
  induction n with
  | zero => intro R x ke; rfl
  | succ n ih =>
    intro R x ke
    show T87_7 R x (fun x' => iter T87_7 n R x' ke) ke = _
    rw [show (fun x' => iter T87_7 n R x' ke) = fun x => G87_7 n R x.1 x.2.1 x.2.2.1 x.2.2.2.1 x.2.2.2.2.1 x.2.2.2.2.2.1 (fun y1 y2 y3 y4 => ke.1 (y1, y2, y3, y4, ())) from funext fun x' => ih R x' ke]
    rfl
theorem lok87_7 : (le87_7 (G87_7 FUEL)).OK Try.prog 0 28 (lcode 7 (codeOf Try.f87)) := fun R x ke r h =>
  iter_sound (fun R => e87 F95 (G87_3 FUEL) (G87_7 FUEL) R) 0 28 (fun _ => rfl) (fun _ => rfl) (fun R => env87 R) mixed (by
    intro R
    rw [show loopsOf (lcode 7 (codeOf Try.f87)) = [] from by kernel_rfl]
    exact allM_nil) (T := T87_7) (fun R x kc ke => q87_7 F95 (G87_3 FUEL) (G87_7 FUEL) R x kc ke) FUEL R x ke r ((it87_7 FUEL R x ke).trans h)
noncomputable def T87_3 : (R : Type) → HT (le87_3 (G87_3 FUEL)).H → (HT (le87_3 (G87_3 FUEL)).H → Option R) → KT R (le87_3 (G87_3 FUEL)).exs → Option R := fun R x kc ke => p87_3 F95 (G87_7 FUEL) R x.1 x.2.1 x.2.2.1 x.2.2.2.1 (fun x1 x2 x3 x4 => kc (x1, x2, x3, x4, ())) (fun y1 y2 => ke.1 (y1, y2, ()))
theorem it87_3 : ∀ (n : Nat) (R : Type) (x : HT (le87_3 (G87_3 FUEL)).H) (ke : KT R (le87_3 (G87_3 FUEL)).exs), iter T87_3 n R x ke = G87_3 n R x.1 x.2.1 x.2.2.1 x.2.2.2.1 (fun y1 y2 => ke.1 (y1, y2, ())) := by
  intro n
  induction n with
  | zero => intro R x ke; rfl
  | succ n ih =>
    intro R x ke
    show T87_3 R x (fun x' => iter T87_3 n R x' ke) ke = _
    rw [show (fun x' => iter T87_3 n R x' ke) = fun x => G87_3 n R x.1 x.2.1 x.2.2.1 x.2.2.2.1 (fun y1 y2 => ke.1 (y1, y2, ())) from funext fun x' => ih R x' ke]
    rfl
theorem lok87_3 : (le87_3 (G87_3 FUEL)).OK Try.prog 0 28 (lcode 3 (codeOf Try.f87)) := fun R x ke r h =>
  iter_sound (fun R => e87 F95 (G87_3 FUEL) (G87_7 FUEL) R) 0 28 (fun _ => rfl) (fun _ => rfl) (fun R => env87 R) mixed (by
    intro R
    rw [show loopsOf (lcode 3 (codeOf Try.f87)) = [lcode 7 (codeOf Try.f87)] from by kernel_rfl]
    exact (allM_cons (loop_ok2 (e := le87_7 (G87_7 FUEL)) rfl rfl lok87_7) allM_nil)) (T := T87_3) (fun R x kc ke => q87_3 F95 (G87_3 FUEL) (G87_7 FUEL) R x kc ke) FUEL R x ke r ((it87_3 FUEL R x ke).trans h)
theorem ok87 : (en87 F87).OK Try.prog :=
  ent_ok (Ef := fun R => e87 F95 (G87_3 FUEL) (G87_7 FUEL) R) (fun R => env87 R) mixed Try.func87 (body := codeOf Try.f87) (by kernel_rfl) (by kernel_rfl) (np := 0) (nt := 28) (fun _ => rfl) (fun _ => rfl) (by kernel_rfl) (res := res87) (by kernel_rfl) (fun _ => rfl) (fun _ => Nat.le_of_ble_eq_true rfl) (by
    intro R
    rw [show loopsOf (codeOf Try.f87) = [lcode 3 (codeOf Try.f87)] from by kernel_rfl]
    exact (allM_cons (loop_ok2 (e := le87_3 (G87_3 FUEL)) rfl rfl lok87_3) allM_nil)) (fun R x k => q87 F95 (G87_3 FUEL) (G87_7 FUEL) F87 R x k)
/-! drawlot/drawlotref05.Sum -/
abbrev FT70 : Type 1 := (R : Type) → (List Int) → ((List Int) → Option R) → Option R
def en70 (F : FT70) : Ent := ⟨70, [(false, (.sl (.int .u8)))], [(false, (.arr 32 (.int .u8)))], fun R x k => F R x.1 (fun y1 => k (y1, ()) ())⟩
def res70 : List (ResultVar × TypeId × Bool) := [(.cell 2 34, 34, false)]
def e70 (F85 : FT85) (F86 : FT86) (F87 : FT87) (F88 : FT88) (F89 : FT89) (R : Type) : Env R := ⟨TT, EQT, 0, 15, ownOf [], callOf [en85 F85, en86 F86, en87 F87, en88 F88, en89 F89] R, loopOf [] R⟩
def p70 (F85 : FT85) (F86 : FT86) (F87 : FT87) (F88 : FT88) (F89 : FT89) : FT70 := fun R a0 k =>
F86 R a0 fun y1 =>
F85 R y1 fun y2 y3 =>
F89 R  fun y4 =>
F88 R y4 y2 fun y5 =>
F87 R y5 fun y6 =>
k y6
theorem q70 (F85 : FT85) (F86 : FT86) (F87 : FT87) (F88 : FT88) (F89 : FT89) (F : FT70) (R : Type) (x : AT (en70 F).ins) (k : RT (en70 F).outs → PT (en70 F).ins → Option R) :
  xfun (e70 F85 F86 F87 F88 F89 R) (codeOf Try.f70) res70 (avs (en70 F).ins x) (finK (en70 F).outs (en70 F).ins k) = p70 F85 F86 F87 F88 F89 R x.1 (fun y1 => k (y1, ()) ()) := by kernel_rfl
noncomputable def F70 : FT70 := p70 F85 F86 F87 F88 F89
theorem env70 (R : Type) : EnvOK Try.prog (e70 F85 F86 F87 F88 F89 R) := ⟨tabOK, eqOK, callOf_ok (allE_cons ok85 (allE_cons ok86 (allE_cons ok87 (allE_cons ok88 (allE_cons ok89 allE_nil)))))⟩
theorem ok70 : (en70 F70).OK Try.prog :=
  ent_ok (Ef := fun R => e70 F85 F86 F87 F88 F89 R) (fun R => env70 R) mixed Try.func70 (body := codeOf Try.f70) (by kernel_rfl) (by kernel_rfl) (np := 0) (nt := 15) (fun _ => rfl) (fun _ => rfl) (by kernel_rfl) (res := res70) (by kernel_rfl) (fun _ => rfl) (fun _ => Nat.le_of_ble_eq_true rfl) (by
    intro R
    rw [show loopsOf (codeOf Try.f70) = [] from by kernel_rfl]
    exact allM_nil) (fun R x k => q70 F85 F86 F87 F88 F89 F70 R x k)
/-! drawlot/mix.Seed -/
abbrev FT33 : Type 1 := (R : Type) → (List Int) → Int → (List Int) → ((List Int) → Option R) → Option R
def en33 (F : FT33) : Ent := ⟨33, [(false, (.arr 32 (.int .u8))), (false, (.int .u64)), (false, (.arr 32 (.int .u8)))], [(false, (.arr 32 (.int .u8)))], fun R x k => F R x.1 x.2.1 x.2.2.1 (fun y1 => k (y1, ()) ())⟩
def res33 : List (ResultVar × TypeId × Bool) := [(.cell 6 34, 34, false)]
def e33 (F71 : FT71) (F72 : FT72) (R : Type) : Env R := ⟨TT, EQT, 0, 15, ownOf [], callOf [en71 F71, en72 F72] R, loopOf [] R⟩
def p33 (F71 : FT71) (F72 : FT72) : FT33 := fun R a0 a1 a2 k =>
F71 R a1 fun y1 =>
let v2 : (List (List Int)) := ([(List.take 32 (List.drop 0 a0)), (List.take 8 (List.drop 0 y1)), (List.take 32 (List.drop 0 a2))] : (List (List Int)));
F72 R v2 fun y3 =>
k y3
theorem q33 (F71 : FT71) (F72 : FT72) (F : FT33) (R : Type) (x : AT (en33 F).ins) (k : RT (en33 F).outs → PT (en33 F).ins → Option R) :
  xfun (e33 F71 F72 R) (codeOf Try.f33) res33 (avs (en33 F).ins x) (finK (en33 F).outs (en33 F).ins k) = p33 F71 F72 R x.1 x.2.1 x.2.2.1 (fun y1 => k (y1, ()) ()) := by kernel_rfl
noncomputable def F33 : FT33 := p33 F71 F72
theorem env33 (R : Type) : EnvOK Try.prog (e33 F71 F72 R) := ⟨tabOK, eqOK, callOf_ok (allE_cons ok71 (allE_cons ok72 allE_nil))⟩
theorem ok33 : (en33 F33).OK Try.prog :=
  ent_ok (Ef := fun R => e33 F71 F72 R) (fun R => env33 R) mixed Try.func33 (body := codeOf Try.f33) (by kernel_rfl) (by kernel_rfl) (np := 0) (nt := 15) (fun _ => rfl) (fun _ => rfl) (by kernel_rfl) (res := res33) (by kernel_rfl) (fun _ => rfl) (fun _ => Nat.le_of_ble_eq_true rfl) (by
    intro R
    rw [show loopsOf (codeOf Try.f33) = [] from by kernel_rfl]
    exact allM_nil) (fun R x k => q33 F71 F72 F33 R x k)
/-! drawlot/drawlotlaw18.alive -/
abbrev FT30 : Type 1 := (R : Type) → (Bool → Option R) → Option R
def en30 (F : FT30) : Ent := ⟨30, [], [(false, .bool)], fun R x k => F R  (fun y1 => k (y1, ()) ())⟩
def res30 : List (ResultVar × TypeId × Bool) := [(.tmp 0, 4, false)]
def e30 (F31 : FT31) (F33 : FT33) (F35 : FT35) (F70 : FT70) (R : Type) : Env R := ⟨TT, EQT, 0, 38, ownOf [], callOf [en31 F31, en33 F33, en35 F35, en70 F70] R, loopOf [] R⟩
def p30 (F31 : FT31) (F33 : FT33) (F35 : FT35) (F70 : FT70) : FT30 := fun R k =>
let v1 : (List Int) := (List.set (List.set (List.replicate 32 (0 : Int)) 0 (1 : Int)) 1 (2 : Int));
let v2 : (List Int) := (List.set (List.set (List.replicate 32 (0 : Int)) 0 (3 : Int)) 1 (2 : Int));
let v3 : (List (List Int)) := ([v1] : (List (List Int)));
F31 R v3 fun y4 =>
let v5 : Bool := (Kd.eqv (.arr 32 (.int .u8)) y4 v1);
(match v5 with
| true => let v6 : (List (List Int)) := ([v1, v2] : (List (List Int)));
F31 R v6 fun y7 =>
let v8 : (List Int) := (List.set (List.replicate 32 (0 : Int)) 0 (2 : Int));
let v9 : Bool := (Kd.eqv (.arr 32 (.int .u8)) y7 v8);
(match v9 with
| true => F31 R ([] : (List (List Int))) fun y10 =>
let v11 : (List Int) := (List.replicate 32 (0 : Int));
let v12 : Bool := (Kd.eqv (.arr 32 (.int .u8)) y10 v11);
(match v12 with
| true => let v13 : (List Int) := (List.replicate 32 (0 : Int));
F35 R v13 fun y14 =>
let v15 : (List Int) := (List.replicate 32 (0 : Int));
F70 R v15 fun y16 =>
let v17 : Bool := (Kd.eqv (.arr 32 (.int .u8)) y14 y16);
(match v17 with
| true => let v18 : (List Int) := (List.replicate 32 (0 : Int));
let v19 : (List Int) := (List.replicate 32 (0 : Int));
F33 R v18 (0 : Int) v19 fun y20 =>
let v21 : (List Int) := (List.replicate 72 (0 : Int));
F70 R v21 fun y22 =>
let v23 : Bool := (Kd.eqv (.arr 32 (.int .u8)) y20 y22);
k v23
| false => k false)
| false => k false)
| false => k false)
| false => k false)
theorem q30 (F31 : FT31) (F33 : FT33) (F35 : FT35) (F70 : FT70) (F : FT30) (R : Type) (x : AT (en30 F).ins) (k : RT (en30 F).outs → PT (en30 F).ins → Option R) :
  xfun (e30 F31 F33 F35 F70 R) (codeOf Try.f30) res30 (avs (en30 F).ins x) (finK (en30 F).outs (en30 F).ins k) = p30 F31 F33 F35 F70 R  (fun y1 => k (y1, ()) ()) := by kernel_rfl
noncomputable def F30 : FT30 := p30 F31 F33 F35 F70
theorem env30 (R : Type) : EnvOK Try.prog (e30 F31 F33 F35 F70 R) := ⟨tabOK, eqOK, callOf_ok (allE_cons ok31 (allE_cons ok33 (allE_cons ok35 (allE_cons ok70 allE_nil))))⟩
theorem ok30 : (en30 F30).OK Try.prog :=
  ent_ok (Ef := fun R => e30 F31 F33 F35 F70 R) (fun R => env30 R) mixed Try.func30 (body := codeOf Try.f30) (by kernel_rfl) (by kernel_rfl) (np := 0) (nt := 38) (fun _ => rfl) (fun _ => rfl) (by kernel_rfl) (res := res30) (by kernel_rfl) (fun _ => rfl) (fun _ => Nat.le_of_ble_eq_true rfl) (by
    intro R
    rw [show loopsOf (codeOf Try.f30) = [] from by kernel_rfl]
    exact allM_nil) (fun R x k => q30 F31 F33 F35 F70 F30 R x k)
/-! drawlot/drawlotref18.Xor -/
abbrev FT32 : Type 1 := (R : Type) → (List (List Int)) → ((List Int) → Option R) → Option R
def en32 (F : FT32) : Ent := ⟨32, [(false, (.sl (.arr 32 (.int .u8))))], [(false, (.arr 32 (.int .u8)))], fun R x k => F R x.1 (fun y1 => k (y1, ()) ())⟩
def res32 : List (ResultVar × TypeId × Bool) := [(.cell 2 34, 34, false)]
abbrev LT32_3 : Type 1 := (R : Type) → (List (List Int)) → Int → (List Int) → (List Int) → ((List Int) → (List Int) → Option R) → Option R
def le32_3 (L : LT32_3) : LEnt := ⟨3, [.val 0 (.sl (.arr 32 (.int .u8))), .fix 2 (.ptr 0 [] (.arr 32 (.int .u8))), .fix 3 (.ptr 1 [] (.arr 32 (.int .u8))), .val 4 (.int .i64), .var 0 (.arr 32 (.int .u8)) false, .var 1 (.arr 32 (.int .u8)) false], 2, [(.exit 0, [.fix 2 (.ptr 0 [] (.arr 32 (.int .u8))), .fix 3 (.ptr 1 [] (.arr 32 (.int .u8))), .var 0 (.arr 32 (.int .u8)) false, .var 1 (.arr 32 (.int .u8)) false])], fun R x ke => L R x.1 x.2.1 x.2.2.1 x.2.2.2.1 (fun y1 y2 => ke.1 (y1, y2, ()))⟩
abbrev LT32_6 : Type 1 := (R : Type) → (List (List Int)) → Int → Int → (List Int) → (List Int) → ((List (List Int)) → Int → (List Int) → (List Int) → Option R) → Option R
def le32_6 (L : LT32_6) : LEnt := ⟨6, [.val 0 (.sl (.arr 32 (.int .u8))), .fix 2 (.ptr 0 [] (.arr 32 (.int .u8))), .fix 3 (.ptr 1 [] (.arr 32 (.int .u8))), .val 4 (.int .i64), .val 5 (.int .i64), .var 0 (.arr 32 (.int .u8)) false, .var 1 (.arr 32 (.int .u8)) false], 2, [(.exit 2, [.val 0 (.sl (.arr 32 (.int .u8))), .fix 2 (.ptr 0 [] (.arr 32 (.int .u8))), .fix 3 (.ptr 1 [] (.arr 32 (.int .u8))), .val 4 (.int .i64), .var 0 (.arr 32 (.int .u8)) false, .var 1 (.arr 32 (.int .u8)) false])], fun R x ke => L R x.1 x.2.1 x.2.2.1 x.2.2.2.1 x.2.2.2.2.1 (fun y1 y2 y3 y4 => ke.1 (y1, y2, y3, y4, ()))⟩
def e32 (L3 : LT32_3) (L6 : LT32_6) (R : Type) : Env R := ⟨TT, EQT, 0, 29, ownOf [], callOf [] R, loopOf [le32_3 L3, le32_6 L6] R⟩
def p32_6 : (R : Type) → (List (List Int)) → Int → Int → (List Int) → (List Int) → ((List (List Int)) → Int → Int → (List Int) → (List Int) → Option R) → ((List (List Int)) → Int → (List Int) → (List Int) → Option R) → Option R := fun R x1 x2 x3 x4 x5 kc k0 =>
let v6 : Bool := (decide (x3 < (32 : Int)));
(match v6 with
| true => (match (bnd x3 (32 : Int)) with
| true => let v7 : Int := (List.getD x5 (Int.toNat x3) (0 : Int));
(match (bnd x2 (List.length x1 : Int)) with
| true => (match (bnd x3 (32 : Int)) with
| true => let v8 : Int := (List.getD (List.getD x1 (Int.toNat x2) (List.replicate 32 (0 : Int))) (Int.toNat x3) (0 : Int));
let v9 : Int := (ixor .u8 v7 v8);
(match (bnd x3 (32 : Int)) with
| true => let v10 : (List Int) := (List.set x5 (Int.toNat x3) v9);
let v11 : Int := (IntKind.i64.wrap (x3 + (1 : Int)));
kc x1 x2 v11 x4 v10
| false => none)
| false => none)
| false => none)
| false => none)
| false => k0 x1 x2 x4 x5)
theorem q32_6 (L3 : LT32_3) (L6 : LT32_6) (R : Type) (x : HT (le32_6 L6).H) (kc : HT (le32_6 L6).H → Option R) (ke : KT R (le32_6 L6).exs) :
  exec (e32 L3 L6 R) (lcode 6 (codeOf Try.f32)) (stOf (le32_6 L6).H x 2) (roundK (le32_6 L6).H (le32_6 L6).exs kc ke) =
    p32_6 R x.1 x.2.1 x.2.2.1 x.2.2.2.1 x.2.2.2.2.1 (fun x1 x2 x3 x4 x5 => kc (x1, x2, x3, x4, x5, ())) (fun y1 y2 y3 y4 => ke.1 (y1, y2, y3, y4, ())) := by kernel_rfl
noncomputable def G32_6 : Nat → LT32_6
  | 0 => fun _ _ _ _ _ _ _ => none
  | n + 1 => fun R x1 x2 x3 x4 x5 k0 => p32_6 R x1 x2 x3 x4 x5 (fun x1 x2 x3 x4 x5 => G32_6 n R x1 x2 x3 x4 x5 k0) k0
def p32_3 (L6 : LT32_6) : (R : Type) → (List (List Int)) → Int → (List Int) → (List Int) → ((List (List Int)) → Int → (List Int) → (List Int) → Option R) → ((List Int) → (List Int) → Option R) → Option R := fun R x1 x2 x3 x4 kc k0 =>
let v5 : Int := (List.length x1 : Int);
let v6 : Bool := (decide (x2 < v5));
(match v6 with
| true => L6 R x1 x2 (0 : Int) x3 x4 (fun x7 x8 x9 x10 =>
let v11 : Int := (IntKind.i64.wrap (x8 + (1 : Int)));
kc x7 v11 x9 x10)
| false => k0 x3 x4)
theorem q32_3 (L3 : LT32_3) (L6 : LT32_6) (R : Type) (x : HT (le32_3 L3).H) (kc : HT (le32_3 L3).H → Option R) (ke : KT R (le32_3 L3).exs) :
  exec (e32 L3 L6 R) (lcode 3 (codeOf Try.f32)) (stOf (le32_3 L3).H x 2) (roundK (le32_3 L3).H (le32_3 L3).exs kc ke) =
    p32_3 L6 R x.1 x.2.1 x.2.2.1 x.2.2.2.1 (fun x1 x2 x3 x4 => kc (x1, x2, x3, x4, ())) (fun y1 y2 => ke.1 (y1, y2, ())) := by kernel_rfl
noncomputable def G32_3 : Nat → LT32_3
  | 0 => fun _ _ _ _ _ _ => none
  | n + 1 => fun R x1 x2 x3 x4 k0 => p32_3 (G32_6 FUEL) R x1 x2 x3 x4 (fun x1 x2 x3 x4 => G32_3 n R x1 x2 x3 x4 k0) k0
def p32 (L3 : LT32_3) : FT32 := fun R a0 k =>
L3 R a0 (0 : Int) (List.replicate 32 (0 : Int)) (List.replicate 32 (0 : Int)) (fun x1 x2 =>
k x2)
theorem q32 (L3 : LT32_3) (L6 : LT32_6) (F : FT32) (R : Type) (x : AT (en32 F).ins) (k : RT (en32 F).outs → PT (en32 F).ins → Option R) :
  xfun (e32 L3 L6 R) (codeOf Try.f32) res32 (avs (en32 F).ins x) (finK (en32 F).outs (en32 F).ins k) = p32 L3 R x.1 (fun y1 => k (y1, ()) ()) := by kernel_rfl
noncomputable def F32 : FT32 := p32 (G32_3 FUEL)
theorem env32 (R : Type) : EnvOK Try.prog (e32 (G32_3 FUEL) (G32_6 FUEL) R) := ⟨tabOK, eqOK, callOf_ok allE_nil⟩
noncomputable def T32_6 : (R : Type) → HT (le32_6 (G32_6 FUEL)).H → (HT (le32_6 (G32_6 FUEL)).H → Option R) → KT R (le32_6 (G32_6 FUEL)).exs → Option R := fun R x kc ke => p32_6 R x.1 x.2.1 x.2.2.1 x.2.2.2.1 x.2.2.2.2.1 (fun x1 x2 x3 x4 x5 => kc (x1, x2, x3, x4, x5, ())) (fun y1 y2 y3 y4 => ke.1 (y1, y2, y3, y4, ()))
theorem it32_6 : ∀ (n : Nat) (R : Type) (x : HT (le32_6 (G32_6 FUEL)).H) (ke : KT R (le32_6 (G32_6 FUEL)).exs), iter T32_6 n R x ke = G32_6 n R x.1 x.2.1 x.2.2.1 x.2.2.2.1 x.2.2.2.2.1 (fun y1 y2 y3 y4 => ke.1 (y1, y2, y3, y4, ())) := by
  intro n
  induction n with
  | zero => intro R x ke; rfl
  | succ n ih =>
    intro R x ke
    show T32_6 R x (fun x' => iter T32_6 n R x' ke) ke = _
    rw [show (fun x' => iter T32_6 n R x' ke) = fun x => G32_6 n R x.1 x.2.1 x.2.2.1 x.2.2.2.1 x.2.2.2.2.1 (fun y1 y2 y3 y4 => ke.1 (y1, y2, y3, y4, ())) from funext fun x' => ih R x' ke]
    rfl
theorem lok32_6 : (le32_6 (G32_6 FUEL)).OK Try.prog 0 29 (lcode 6 (codeOf Try.f32)) := fun R x ke r h =>
  iter_sound (fun R => e32 (G32_3 FUEL) (G32_6 FUEL) R) 0 29 (fun _ => rfl) (fun _ => rfl) (fun R => env32 R) mixed (by
    intro R
    rw [show loopsOf (lcode 6 (codeOf Try.f32)) = [] from by kernel_rfl]
    exact allM_nil) (T := T32_6) (fun R x kc ke => q32_6 (G32_3 FUEL) (G32_6 FUEL) R x kc ke) FUEL R x ke r ((it32_6 FUEL R x ke).trans h)
noncomputable def T32_3 : (R : Type) → HT (le32_3 (G32_3 FUEL)).H → (HT (le32_3 (G32_3 FUEL)).H → Option R) → KT R (le32_3 (G32_3 FUEL)).exs → Option R := fun R x kc ke => p32_3 (G32_6 FUEL) R x.1 x.2.1 x.2.2.1 x.2.2.2.1 (fun x1 x2 x3 x4 => kc (x1, x2, x3, x4, ())) (fun y1 y2 => ke.1 (y1, y2, ()))
theorem it32_3 : ∀ (n : Nat) (R : Type) (x : HT (le32_3 (G32_3 FUEL)).H) (ke : KT R (le32_3 (G32_3 FUEL)).exs), iter T32_3 n R x ke = G32_3 n R x.1 x.2.1 x.2.2.1 x.2.2.2.1 (fun y1 y2 => ke.1 (y1, y2, ())) := by
  intro n
  induction n with
  | zero => intro R x ke; rfl
  | succ n ih =>
    intro R x ke
    show T32_3 R x (fun x' => iter T32_3 n R x' ke) ke = _
    rw [show (fun x' => iter T32_3 n R x' ke) = fun x => G32_3 n R x.1 x.2.1 x.2.2.1 x.2.2.2.1 (fun y1 y2 => ke.1 (y1, y2, ())) from funext fun x' => ih R x' ke]
    rfl
theorem lok32_3 : (le32_3 (G32_3 FUEL)).OK Try.prog 0 29 (lcode 3 (codeOf Try.f32)) := fun R x ke r h =>
  iter_sound (fun R => e32 (G32_3 FUEL) (G32_6 FUEL) R) 0 29 (fun _ => rfl) (fun _ => rfl) (fun R => env32 R) mixed (by
    intro R
    rw [show loopsOf (lcode 3 (codeOf Try.f32)) = [lcode 6 (codeOf Try.f32)] from by kernel_rfl]
    exact (allM_cons (loop_ok2 (e := le32_6 (G32_6 FUEL)) rfl rfl lok32_6) allM_nil)) (T := T32_3) (fun R x kc ke => q32_3 (G32_3 FUEL) (G32_6 FUEL) R x kc ke) FUEL R x ke r ((it32_3 FUEL R x ke).trans h)
theorem ok32 : (en32 F32).OK Try.prog :=
  ent_ok (Ef := fun R => e32 (G32_3 FUEL) (G32_6 FUEL) R) (fun R => env32 R) mixed Try.func32 (body := codeOf Try.f32) (by kernel_rfl) (by kernel_rfl) (np := 0) (nt := 29) (fun _ => rfl) (fun _ => rfl) (by kernel_rfl) (res := res32) (by kernel_rfl) (fun _ => rfl) (fun _ => Nat.le_of_ble_eq_true rfl) (by
    intro R
    rw [show loopsOf (codeOf Try.f32) = [lcode 3 (codeOf Try.f32)] from by kernel_rfl]
    exact (allM_cons (loop_ok2 (e := le32_3 (G32_3 FUEL)) rfl rfl lok32_3) allM_nil)) (fun R x k => q32 (G32_3 FUEL) (G32_6 FUEL) F32 R x k)
/-! drawlot/drawlotlaw18.MixXor -/
abbrev FT6 : Type 1 := (R : Type) → (List (List Int)) → (Bool → Option R) → Option R
def en6 (F : FT6) : Ent := ⟨6, [(false, (.sl (.arr 32 (.int .u8))))], [(false, .bool)], fun R x k => F R x.1 (fun y1 => k (y1, ()) ())⟩
def res6 : List (ResultVar × TypeId × Bool) := [(.tmp 2, 4, false)]
abbrev LT6_8 : Type 1 := (R : Type) → (List (List Int)) → Int → (List (List Int)) → (List Int) → (Bool → Option R) → ((List (List Int)) → (List Int) → Option R) → Option R
def le6_8 (L : LT6_8) : LEnt := ⟨8, [.val 0 (.sl (.arr 32 (.int .u8))), .fix 3 (.own 0 0), .fix 4 (.ptr 1 [] (.arr 32 (.int .u8))), .val 5 (.int .i64), .row 0 (.arr 32 (.int .u8)) true, .var 1 (.arr 32 (.int .u8)) false], 2, [(.ret, [.val 2 .bool]), (.exit 0, [.val 0 (.sl (.arr 32 (.int .u8))), .fix 4 (.ptr 1 [] (.arr 32 (.int .u8))), .var 1 (.arr 32 (.int .u8)) false])], fun R x ke => L R x.1 x.2.1 x.2.2.1 x.2.2.2.1 (fun y1 => ke.1 (y1, ())) (fun y1 y2 => ke.2.1 (y1, y2, ()))⟩
def e6 (F30 : FT30) (F31 : FT31) (F32 : FT32) (L8 : LT6_8) (R : Type) : Env R := ⟨TT, EQT, 0, 35, ownOf [(5, 0)], callOf [en30 F30, en31 F31, en32 F32] R, loopOf [le6_8 L8] R⟩
def p6_8 : (R : Type) → (List (List Int)) → Int → (List (List Int)) → (List Int) → ((List (List Int)) → Int → (List (List Int)) → (List Int) → Option R) → (Bool → Option R) → ((List (List Int)) → (List Int) → Option R) → Option R := fun R x1 x2 x3 x4 kc k0 k1 =>
let v5 : Int := (List.length x1 : Int);
let v6 : Bool := (decide (x2 < v5));
(match v6 with
| true => (match (bnd x2 (List.length x3 : Int)) with
| true => let v7 : (List Int) := (List.getD x3 (Int.toNat x2) (List.replicate 32 (0 : Int)));
(match (bnd x2 (List.length x1 : Int)) with
| true => let v8 : (List Int) := (List.getD x1 (Int.toNat x2) (List.replicate 32 (0 : Int)));
let v9 : Bool := (!(Kd.eqv (.arr 32 (.int .u8)) v7 v8));
(match v9 with
| true => k0 false
| false => let v10 : Int := (IntKind.i64.wrap (x2 + (1 : Int)));
kc x1 v10 x3 x4)
| false => none)
| false => none)
| false => k1 x1 x4)
theorem q6_8 (F30 : FT30) (F31 : FT31) (F32 : FT32) (L8 : LT6_8) (R : Type) (x : HT (le6_8 L8).H) (kc : HT (le6_8 L8).H → Option R) (ke : KT R (le6_8 L8).exs) :
  exec (e6 F30 F31 F32 L8 R) (lcode 8 (codeOf Try.f6)) (stOf (le6_8 L8).H x 2) (roundK (le6_8 L8).H (le6_8 L8).exs kc ke) =
    p6_8 R x.1 x.2.1 x.2.2.1 x.2.2.2.1 (fun x1 x2 x3 x4 => kc (x1, x2, x3, x4, ())) (fun y1 => ke.1 (y1, ())) (fun y1 y2 => ke.2.1 (y1, y2, ())) := by kernel_rfl
noncomputable def G6_8 : Nat → LT6_8
  | 0 => fun _ _ _ _ _ _ _ => none
  | n + 1 => fun R x1 x2 x3 x4 k0 k1 => p6_8 R x1 x2 x3 x4 (fun x1 x2 x3 x4 => G6_8 n R x1 x2 x3 x4 k0 k1) k0 k1
def p6 (F30 : FT30) (F31 : FT31) (F32 : FT32) (L8 : LT6_8) : FT6 := fun R a0 k =>
F30 R  fun y1 =>
(match (!y1) with
| true => k false
| false => let v2 : Int := (List.length a0 : Int);
let v3 : Bool := (decide (v2 > (300 : Int)));
(match v3 with
| true => k true
| false => let v4 : (List (List Int)) := ([] : (List (List Int)));
(match (decide (List.length v4 + List.length a0 ≤ 4398046511104)) with
| true => let v5 : (List (List Int)) := (v4 ++ a0);
F31 R v5 fun y6 =>
L8 R a0 (0 : Int) v5 y6 (fun x7 =>
k x7) (fun x8 x9 =>
F32 R x8 fun y10 =>
let v11 : Bool := (Kd.eqv (.arr 32 (.int .u8)) x9 y10);
k v11)
| false => none)))
theorem q6 (F30 : FT30) (F31 : FT31) (F32 : FT32) (L8 : LT6_8) (F : FT6) (R : Type) (x : AT (en6 F).ins) (k : RT (en6 F).outs → PT (en6 F).ins → Option R) :
  xfun (e6 F30 F31 F32 L8 R) (codeOf Try.f6) res6 (avs (en6 F).ins x) (finK (en6 F).outs (en6 F).ins k) = p6 F30 F31 F32 L8 R x.1 (fun y1 => k (y1, ()) ()) := by kernel_rfl
noncomputable def F6 : FT6 := p6 F30 F31 F32 (G6_8 FUEL)
theorem env6 (R : Type) : EnvOK Try.prog (e6 F30 F31 F32 (G6_8 FUEL) R) := ⟨tabOK, eqOK, callOf_ok (allE_cons ok30 (allE_cons ok31 (allE_cons ok32 allE_nil)))⟩
noncomputable def T6_8 : (R : Type) → HT (le6_8 (G6_8 FUEL)).H → (HT (le6_8 (G6_8 FUEL)).H → Option R) → KT R (le6_8 (G6_8 FUEL)).exs → Option R := fun R x kc ke => p6_8 R x.1 x.2.1 x.2.2.1 x.2.2.2.1 (fun x1 x2 x3 x4 => kc (x1, x2, x3, x4, ())) (fun y1 => ke.1 (y1, ())) (fun y1 y2 => ke.2.1 (y1, y2, ()))
theorem it6_8 : ∀ (n : Nat) (R : Type) (x : HT (le6_8 (G6_8 FUEL)).H) (ke : KT R (le6_8 (G6_8 FUEL)).exs), iter T6_8 n R x ke = G6_8 n R x.1 x.2.1 x.2.2.1 x.2.2.2.1 (fun y1 => ke.1 (y1, ())) (fun y1 y2 => ke.2.1 (y1, y2, ())) := by
  intro n
  induction n with
  | zero => intro R x ke; rfl
  | succ n ih =>
    intro R x ke
    show T6_8 R x (fun x' => iter T6_8 n R x' ke) ke = _
    rw [show (fun x' => iter T6_8 n R x' ke) = fun x => G6_8 n R x.1 x.2.1 x.2.2.1 x.2.2.2.1 (fun y1 => ke.1 (y1, ())) (fun y1 y2 => ke.2.1 (y1, y2, ())) from funext fun x' => ih R x' ke]
    rfl
theorem lok6_8 : (le6_8 (G6_8 FUEL)).OK Try.prog 0 35 (lcode 8 (codeOf Try.f6)) := fun R x ke r h =>
  iter_sound (fun R => e6 F30 F31 F32 (G6_8 FUEL) R) 0 35 (fun _ => rfl) (fun _ => rfl) (fun R => env6 R) mixed (by
    intro R
    rw [show loopsOf (lcode 8 (codeOf Try.f6)) = [] from by kernel_rfl]
    exact allM_nil) (T := T6_8) (fun R x kc ke => q6_8 F30 F31 F32 (G6_8 FUEL) R x kc ke) FUEL R x ke r ((it6_8 FUEL R x ke).trans h)
theorem ok6 : (en6 F6).OK Try.prog :=
  ent_ok (Ef := fun R => e6 F30 F31 F32 (G6_8 FUEL) R) (fun R => env6 R) mixed Try.func6 (body := codeOf Try.f6) (by kernel_rfl) (by kernel_rfl) (np := 0) (nt := 35) (fun _ => rfl) (fun _ => rfl) (by kernel_rfl) (res := res6) (by kernel_rfl) (fun _ => rfl) (fun _ => Nat.le_of_ble_eq_true rfl) (by
    intro R
    rw [show loopsOf (codeOf Try.f6) = [lcode 8 (codeOf Try.f6)] from by kernel_rfl]
    exact (allM_cons (loop_ok2 (e := le6_8 (G6_8 FUEL)) rfl rfl lok6_8) allM_nil)) (fun R x k => q6 F30 F31 F32 (G6_8 FUEL) F6 R x k)
/-! drawlot/drawlotref18.bytes -/
abbrev FT73 : Type 1 := (R : Type) → (List Int) → ((List Int) → Option R) → Option R
def en73 (F : FT73) : Ent := ⟨73, [(false, (.arr 32 (.int .u8)))], [(true, (.int .u8))], fun R x k => F R x.1 (fun y1 => k (y1, ()) ())⟩
def res73 : List (ResultVar × TypeId × Bool) := [(.tmp 2, 46, true)]
abbrev LT73_3 : Type 1 := (R : Type) → Int → (List Int) → (List Int) → ((List Int) → Option R) → Option R
def le73_3 (L : LT73_3) : LEnt := ⟨3, [.fix 1 (.ptr 0 [] (.arr 32 (.int .u8))), .fix 3 (.own 1 0), .val 4 (.int .i64), .var 0 (.arr 32 (.int .u8)) false, .row 1 (.int .u8) false], 2, [(.exit 0, [.fix 3 (.own 1 0), .row 1 (.int .u8) false])], fun R x ke => L R x.1 x.2.1 x.2.2.1 (fun y1 => ke.1 (y1, ()))⟩
def e73 (L3 : LT73_3) (R : Type) : Env R := ⟨TT, EQT, 0, 16, ownOf [(1, 0)], callOf [] R, loopOf [le73_3 L3] R⟩
def p73_3 : (R : Type) → Int → (List Int) → (List Int) → (Int → (List Int) → (List Int) → Option R) → ((List Int) → Option R) → Option R := fun R x1 x2 x3 kc k0 =>
let v4 : Bool := (decide (x1 < (32 : Int)));
(match v4 with
| true => (match (bnd x1 (32 : Int)) with
| true => let v5 : Int := (List.getD x2 (Int.toNat x1) (0 : Int));
let v6 : (List Int) := ([v5] : (List Int));
(match (decide (List.length x3 + List.length v6 ≤ 140737488355328)) with
| true => let v7 : (List Int) := (x3 ++ v6);
let v8 : Int := (IntKind.i64.wrap (x1 + (1 : Int)));
kc v8 x2 v7
| false => none)
| false => none)
| false => k0 x3)
theorem q73_3 (L3 : LT73_3) (R : Type) (x : HT (le73_3 L3).H) (kc : HT (le73_3 L3).H → Option R) (ke : KT R (le73_3 L3).exs) :
  exec (e73 L3 R) (lcode 3 (codeOf Try.f73)) (stOf (le73_3 L3).H x 2) (roundK (le73_3 L3).H (le73_3 L3).exs kc ke) =
    p73_3 R x.1 x.2.1 x.2.2.1 (fun x1 x2 x3 => kc (x1, x2, x3, ())) (fun y1 => ke.1 (y1, ())) := by kernel_rfl
noncomputable def G73_3 : Nat → LT73_3
  | 0 => fun _ _ _ _ _ => none
  | n + 1 => fun R x1 x2 x3 k0 => p73_3 R x1 x2 x3 (fun x1 x2 x3 => G73_3 n R x1 x2 x3 k0) k0
def p73 (L3 : LT73_3) : FT73 := fun R a0 k =>
L3 R (0 : Int) a0 ([] : (List Int)) (fun x1 =>
k x1)
theorem q73 (L3 : LT73_3) (F : FT73) (R : Type) (x : AT (en73 F).ins) (k : RT (en73 F).outs → PT (en73 F).ins → Option R) :
  xfun (e73 L3 R) (codeOf Try.f73) res73 (avs (en73 F).ins x) (finK (en73 F).outs (en73 F).ins k) = p73 L3 R x.1 (fun y1 => k (y1, ()) ()) := by kernel_rfl
noncomputable def F73 : FT73 := p73 (G73_3 FUEL)
theorem env73 (R : Type) : EnvOK Try.prog (e73 (G73_3 FUEL) R) := ⟨tabOK, eqOK, callOf_ok allE_nil⟩
noncomputable def T73_3 : (R : Type) → HT (le73_3 (G73_3 FUEL)).H → (HT (le73_3 (G73_3 FUEL)).H → Option R) → KT R (le73_3 (G73_3 FUEL)).exs → Option R := fun R x kc ke => p73_3 R x.1 x.2.1 x.2.2.1 (fun x1 x2 x3 => kc (x1, x2, x3, ())) (fun y1 => ke.1 (y1, ()))
theorem it73_3 : ∀ (n : Nat) (R : Type) (x : HT (le73_3 (G73_3 FUEL)).H) (ke : KT R (le73_3 (G73_3 FUEL)).exs), iter T73_3 n R x ke = G73_3 n R x.1 x.2.1 x.2.2.1 (fun y1 => ke.1 (y1, ())) := by
  intro n
  induction n with
  | zero => intro R x ke; rfl
  | succ n ih =>
    intro R x ke
    show T73_3 R x (fun x' => iter T73_3 n R x' ke) ke = _
    rw [show (fun x' => iter T73_3 n R x' ke) = fun x => G73_3 n R x.1 x.2.1 x.2.2.1 (fun y1 => ke.1 (y1, ())) from funext fun x' => ih R x' ke]
    rfl
theorem lok73_3 : (le73_3 (G73_3 FUEL)).OK Try.prog 0 16 (lcode 3 (codeOf Try.f73)) := fun R x ke r h =>
  iter_sound (fun R => e73 (G73_3 FUEL) R) 0 16 (fun _ => rfl) (fun _ => rfl) (fun R => env73 R) mixed (by
    intro R
    rw [show loopsOf (lcode 3 (codeOf Try.f73)) = [] from by kernel_rfl]
    exact allM_nil) (T := T73_3) (fun R x kc ke => q73_3 (G73_3 FUEL) R x kc ke) FUEL R x ke r ((it73_3 FUEL R x ke).trans h)
theorem ok73 : (en73 F73).OK Try.prog :=
  ent_ok (Ef := fun R => e73 (G73_3 FUEL) R) (fun R => env73 R) mixed Try.func73 (body := codeOf Try.f73) (by kernel_rfl) (by kernel_rfl) (np := 0) (nt := 16) (fun _ => rfl) (fun _ => rfl) (by kernel_rfl) (res := res73) (by kernel_rfl) (fun _ => rfl) (fun _ => Nat.le_of_ble_eq_true rfl) (by
    intro R
    rw [show loopsOf (codeOf Try.f73) = [lcode 3 (codeOf Try.f73)] from by kernel_rfl]
    exact (allM_cons (loop_ok2 (e := le73_3 (G73_3 FUEL)) rfl rfl lok73_3) allM_nil)) (fun R x k => q73 (G73_3 FUEL) F73 R x k)
/-! drawlot/drawlotref18.Seed -/
abbrev FT34 : Type 1 := (R : Type) → (List Int) → Int → (List Int) → ((List Int) → Option R) → Option R
def en34 (F : FT34) : Ent := ⟨34, [(false, (.arr 32 (.int .u8))), (false, (.int .u64)), (false, (.arr 32 (.int .u8)))], [(false, (.arr 32 (.int .u8)))], fun R x k => F R x.1 x.2.1 x.2.2.1 (fun y1 => k (y1, ()) ())⟩
def res34 : List (ResultVar × TypeId × Bool) := [(.cell 6 34, 34, false)]
abbrev LT34_4 : Type 1 := (R : Type) → Int → (List Int) → (List Int) → (List Int) → (List Int) → ((List Int) → (List Int) → (List Int) → Option R) → Option R
def le34_4 (L : LT34_4) : LEnt := ⟨4, [.fix 5 (.ptr 1 [] (.arr 32 (.int .u8))), .fix 6 (.ptr 2 [] (.arr 32 (.int .u8))), .fix 7 (.own 3 0), .fix 8 (.ptr 4 [] (.arr 8 (.int .u8))), .val 9 (.int .i64), .var 1 (.arr 32 (.int .u8)) false, .var 2 (.arr 32 (.int .u8)) false, .row 3 (.int .u8) false, .var 4 (.arr 8 (.int .u8)) false], 5, [(.exit 0, [.fix 5 (.ptr 1 [] (.arr 32 (.int .u8))), .fix 6 (.ptr 2 [] (.arr 32 (.int .u8))), .fix 7 (.own 3 0), .var 1 (.arr 32 (.int .u8)) false, .var 2 (.arr 32 (.int .u8)) false, .row 3 (.int .u8) false])], fun R x ke => L R x.1 x.2.1 x.2.2.1 x.2.2.2.1 x.2.2.2.2.1 (fun y1 y2 y3 => ke.1 (y1, y2, y3, ()))⟩
def e34 (F70 : FT70) (F73 : FT73) (F74 : FT74) (L4 : LT34_4) (R : Type) : Env R := ⟨TT, EQT, 0, 29, ownOf [], callOf [en70 F70, en73 F73, en74 F74] R, loopOf [le34_4 L4] R⟩
def p34_4 : (R : Type) → Int → (List Int) → (List Int) → (List Int) → (List Int) → (Int → (List Int) → (List Int) → (List Int) → (List Int) → Option R) → ((List Int) → (List Int) → (List Int) → Option R) → Option R := fun R x1 x2 x3 x4 x5 kc k0 =>
let v6 : Bool := (decide (x1 < (8 : Int)));
(match v6 with
| true => (match (bnd x1 (8 : Int)) with
| true => let v7 : Int := (List.getD x5 (Int.toNat x1) (0 : Int));
let v8 : (List Int) := ([v7] : (List Int));
(match (decide (List.length x4 + List.length v8 ≤ 140737488355328)) with
| true => let v9 : (List Int) := (x4 ++ v8);
let v10 : Int := (IntKind.i64.wrap (x1 + (1 : Int)));
kc v10 x2 x3 v9 x5
| false => none)
| false => none)
| false => k0 x2 x3 x4)
theorem q34_4 (F70 : FT70) (F73 : FT73) (F74 : FT74) (L4 : LT34_4) (R : Type) (x : HT (le34_4 L4).H) (kc : HT (le34_4 L4).H → Option R) (ke : KT R (le34_4 L4).exs) :
  exec (e34 F70 F73 F74 L4 R) (lcode 4 (codeOf Try.f34)) (stOf (le34_4 L4).H x 5) (roundK (le34_4 L4).H (le34_4 L4).exs kc ke) =
    p34_4 R x.1 x.2.1 x.2.2.1 x.2.2.2.1 x.2.2.2.2.1 (fun x1 x2 x3 x4 x5 => kc (x1, x2, x3, x4, x5, ())) (fun y1 y2 y3 => ke.1 (y1, y2, y3, ())) := by kernel_rfl
noncomputable def G34_4 : Nat → LT34_4
  | 0 => fun _ _ _ _ _ _ _ => none
  | n + 1 => fun R x1 x2 x3 x4 x5 k0 => p34_4 R x1 x2 x3 x4 x5 (fun x1 x2 x3 x4 x5 => G34_4 n R x1 x2 x3 x4 x5 k0) k0
def p34 (F70 : FT70) (F73 : FT73) (F74 : FT74) (L4 : LT34_4) : FT34 := fun R a0 a1 a2 k =>
F73 R a0 fun y1 =>
F74 R a1 fun y2 =>
L4 R (0 : Int) a2 (List.replicate 32 (0 : Int)) y1 y2 (fun x3 x4 x5 =>
F73 R x3 fun y6 =>
(match (decide (List.length x5 + List.length y6 ≤ 140737488355328)) with
| true => let v7 : (List Int) := (x5 ++ y6);
F70 R v7 fun y8 =>
k y8
| false => none))
theorem q34 (F70 : FT70) (F73 : FT73) (F74 : FT74) (L4 : LT34_4) (F : FT34) (R : Type) (x : AT (en34 F).ins) (k : RT (en34 F).outs → PT (en34 F).ins → Option R) :
  xfun (e34 F70 F73 F74 L4 R) (codeOf Try.f34) res34 (avs (en34 F).ins x) (finK (en34 F).outs (en34 F).ins k) = p34 F70 F73 F74 L4 R x.1 x.2.1 x.2.2.1 (fun y1 => k (y1, ()) ()) := by kernel_rfl
noncomputable def F34 : FT34 := p34 F70 F73 F74 (G34_4 FUEL)
theorem env34 (R : Type) : EnvOK Try.prog (e34 F70 F73 F74 (G34_4 FUEL) R) := ⟨tabOK, eqOK, callOf_ok (allE_cons ok70 (allE_cons ok73 (allE_cons ok74 allE_nil)))⟩
noncomputable def T34_4 : (R : Type) → HT (le34_4 (G34_4 FUEL)).H → (HT (le34_4 (G34_4 FUEL)).H → Option R) → KT R (le34_4 (G34_4 FUEL)).exs → Option R := fun R x kc ke => p34_4 R x.1 x.2.1 x.2.2.1 x.2.2.2.1 x.2.2.2.2.1 (fun x1 x2 x3 x4 x5 => kc (x1, x2, x3, x4, x5, ())) (fun y1 y2 y3 => ke.1 (y1, y2, y3, ()))
theorem it34_4 : ∀ (n : Nat) (R : Type) (x : HT (le34_4 (G34_4 FUEL)).H) (ke : KT R (le34_4 (G34_4 FUEL)).exs), iter T34_4 n R x ke = G34_4 n R x.1 x.2.1 x.2.2.1 x.2.2.2.1 x.2.2.2.2.1 (fun y1 y2 y3 => ke.1 (y1, y2, y3, ())) := by
  intro n
  induction n with
  | zero => intro R x ke; rfl
  | succ n ih =>
    intro R x ke
    show T34_4 R x (fun x' => iter T34_4 n R x' ke) ke = _
    rw [show (fun x' => iter T34_4 n R x' ke) = fun x => G34_4 n R x.1 x.2.1 x.2.2.1 x.2.2.2.1 x.2.2.2.2.1 (fun y1 y2 y3 => ke.1 (y1, y2, y3, ())) from funext fun x' => ih R x' ke]
    rfl
theorem lok34_4 : (le34_4 (G34_4 FUEL)).OK Try.prog 0 29 (lcode 4 (codeOf Try.f34)) := fun R x ke r h =>
  iter_sound (fun R => e34 F70 F73 F74 (G34_4 FUEL) R) 0 29 (fun _ => rfl) (fun _ => rfl) (fun R => env34 R) mixed (by
    intro R
    rw [show loopsOf (lcode 4 (codeOf Try.f34)) = [] from by kernel_rfl]
    exact allM_nil) (T := T34_4) (fun R x kc ke => q34_4 F70 F73 F74 (G34_4 FUEL) R x kc ke) FUEL R x ke r ((it34_4 FUEL R x ke).trans h)
theorem ok34 : (en34 F34).OK Try.prog :=
  ent_ok (Ef := fun R => e34 F70 F73 F74 (G34_4 FUEL) R) (fun R => env34 R) mixed Try.func34 (body := codeOf Try.f34) (by kernel_rfl) (by kernel_rfl) (np := 0) (nt := 29) (fun _ => rfl) (fun _ => rfl) (by kernel_rfl) (res := res34) (by kernel_rfl) (fun _ => rfl) (fun _ => Nat.le_of_ble_eq_true rfl) (by
    intro R
    rw [show loopsOf (codeOf Try.f34) = [lcode 4 (codeOf Try.f34)] from by kernel_rfl]
    exact (allM_cons (loop_ok2 (e := le34_4 (G34_4 FUEL)) rfl rfl lok34_4) allM_nil)) (fun R x k => q34 F70 F73 F74 (G34_4 FUEL) F34 R x k)
/-! drawlot/drawlotref18.Commitment -/
abbrev FT36 : Type 1 := (R : Type) → (List Int) → ((List Int) → Option R) → Option R
def en36 (F : FT36) : Ent := ⟨36, [(false, (.arr 32 (.int .u8)))], [(false, (.arr 32 (.int .u8)))], fun R x k => F R x.1 (fun y1 => k (y1, ()) ())⟩
def res36 : List (ResultVar × TypeId × Bool) := [(.cell 2 34, 34, false)]
def e36 (F70 : FT70) (F73 : FT73) (R : Type) : Env R := ⟨TT, EQT, 0, 6, ownOf [], callOf [en70 F70, en73 F73] R, loopOf [] R⟩
def p36 (F70 : FT70) (F73 : FT73) : FT36 := fun R a0 k =>
F73 R a0 fun y1 =>
F70 R y1 fun y2 =>
k y2
theorem q36 (F70 : FT70) (F73 : FT73) (F : FT36) (R : Type) (x : AT (en36 F).ins) (k : RT (en36 F).outs → PT (en36 F).ins → Option R) :
  xfun (e36 F70 F73 R) (codeOf Try.f36) res36 (avs (en36 F).ins x) (finK (en36 F).outs (en36 F).ins k) = p36 F70 F73 R x.1 (fun y1 => k (y1, ()) ()) := by kernel_rfl
noncomputable def F36 : FT36 := p36 F70 F73
theorem env36 (R : Type) : EnvOK Try.prog (e36 F70 F73 R) := ⟨tabOK, eqOK, callOf_ok (allE_cons ok70 (allE_cons ok73 allE_nil))⟩
theorem ok36 : (en36 F36).OK Try.prog :=
  ent_ok (Ef := fun R => e36 F70 F73 R) (fun R => env36 R) mixed Try.func36 (body := codeOf Try.f36) (by kernel_rfl) (by kernel_rfl) (np := 0) (nt := 6) (fun _ => rfl) (fun _ => rfl) (by kernel_rfl) (res := res36) (by kernel_rfl) (fun _ => rfl) (fun _ => Nat.le_of_ble_eq_true rfl) (by
    intro R
    rw [show loopsOf (codeOf Try.f36) = [] from by kernel_rfl]
    exact allM_nil) (fun R x k => q36 F70 F73 F36 R x k)
/-! drawlot/drawlotlaw18.MixSeeds -/
abbrev FT7 : Type 1 := (R : Type) → (List Int) → Int → (List Int) → (Bool → Option R) → Option R
def en7 (F : FT7) : Ent := ⟨7, [(false, (.arr 32 (.int .u8))), (false, (.int .u64)), (false, (.arr 32 (.int .u8)))], [(false, .bool)], fun R x k => F R x.1 x.2.1 x.2.2.1 (fun y1 => k (y1, ()) ())⟩
def res7 : List (ResultVar × TypeId × Bool) := [(.tmp 6, 4, false)]
def e7 (F30 : FT30) (F33 : FT33) (F34 : FT34) (F35 : FT35) (F36 : FT36) (R : Type) : Env R := ⟨TT, EQT, 0, 25, ownOf [], callOf [en30 F30, en33 F33, en34 F34, en35 F35, en36 F36] R, loopOf [] R⟩
def p7 (F30 : FT30) (F33 : FT33) (F34 : FT34) (F35 : FT35) (F36 : FT36) : FT7 := fun R a0 a1 a2 k =>
F30 R  fun y1 =>
(match (!y1) with
| true => k false
| false => F33 R a0 a1 a2 fun y2 =>
F34 R a0 a1 a2 fun y3 =>
let v4 : Bool := (Kd.eqv (.arr 32 (.int .u8)) y2 y3);
(match v4 with
| true => F35 R a2 fun y5 =>
F36 R a2 fun y6 =>
let v7 : Bool := (Kd.eqv (.arr 32 (.int .u8)) y5 y6);
k v7
| false => k false))
theorem q7 (F30 : FT30) (F33 : FT33) (F34 : FT34) (F35 : FT35) (F36 : FT36) (F : FT7) (R : Type) (x : AT (en7 F).ins) (k : RT (en7 F).outs → PT (en7 F).ins → Option R) :
  xfun (e7 F30 F33 F34 F35 F36 R) (codeOf Try.f7) res7 (avs (en7 F).ins x) (finK (en7 F).outs (en7 F).ins k) = p7 F30 F33 F34 F35 F36 R x.1 x.2.1 x.2.2.1 (fun y1 => k (y1, ()) ()) := by kernel_rfl
noncomputable def F7 : FT7 := p7 F30 F33 F34 F35 F36
theorem env7 (R : Type) : EnvOK Try.prog (e7 F30 F33 F34 F35 F36 R) := ⟨tabOK, eqOK, callOf_ok (allE_cons ok30 (allE_cons ok33 (allE_cons ok34 (allE_cons ok35 (allE_cons ok36 allE_nil)))))⟩
theorem ok7 : (en7 F7).OK Try.prog :=
  ent_ok (Ef := fun R => e7 F30 F33 F34 F35 F36 R) (fun R => env7 R) mixed Try.func7 (body := codeOf Try.f7) (by kernel_rfl) (by kernel_rfl) (np := 0) (nt := 25) (fun _ => rfl) (fun _ => rfl) (by kernel_rfl) (res := res7) (by kernel_rfl) (fun _ => rfl) (fun _ => Nat.le_of_ble_eq_true rfl) (by
    intro R
    rw [show loopsOf (codeOf Try.f7) = [] from by kernel_rfl]
    exact allM_nil) (fun R x k => q7 F30 F33 F34 F35 F36 F7 R x k)
/-! drawlot/drawlotlaw18.MixOrder -/
abbrev FT8 : Type 1 := (R : Type) → (List (List Int)) → Int → (List Int) → (Bool → Option R) → Option R
def en8 (F : FT8) : Ent := ⟨8, [(false, (.sl (.arr 32 (.int .u8)))), (false, (.int .u8)), (false, (.arr 32 (.int .u8)))], [(false, .bool)], fun R x k => F R x.1 x.2.1 x.2.2.1 (fun y1 => k (y1, ()) ())⟩
def res8 : List (ResultVar × TypeId × Bool) := [(.tmp 6, 4, false)]
abbrev LT8_9 : Type 1 := (R : Type) → (List (List Int)) → Int → Int → (List Int) → (List (List Int)) → (List (List Int)) → ((List (List Int)) → Int → (List Int) → (List (List Int)) → (List (List Int)) → Option R) → Option R
def le8_9 (L : LT8_9) : LEnt := ⟨9, [.val 0 (.sl (.arr 32 (.int .u8))), .fix 5 (.ptr 0 [] (.arr 32 (.int .u8))), .val 7 (.int .i64), .fix 8 (.own 1 0), .fix 9 (.own 2 0), .val 10 (.int .i64), .var 0 (.arr 32 (.int .u8)) false, .row 1 (.arr 32 (.int .u8)) false, .row 2 (.arr 32 (.int .u8)) false], 3, [(.exit 0, [.val 0 (.sl (.arr 32 (.int .u8))), .fix 5 (.ptr 0 [] (.arr 32 (.int .u8))), .val 7 (.int .i64), .fix 8 (.own 1 0), .fix 9 (.own 2 0), .var 0 (.arr 32 (.int .u8)) false, .row 1 (.arr 32 (.int .u8)) false, .row 2 (.arr 32 (.int .u8)) false])], fun R x ke => L R x.1 x.2.1 x.2.2.1 x.2.2.2.1 x.2.2.2.2.1 x.2.2.2.2.2.1 (fun y1 y2 y3 y4 y5 => ke.1 (y1, y2, y3, y4, y5, ()))⟩
def e8 (F30 : FT30) (F31 : FT31) (L9 : LT8_9) (R : Type) : Env R := ⟨TT, EQT, 0, 85, ownOf [(6, 0), (7, 0)], callOf [en30 F30, en31 F31] R, loopOf [le8_9 L9] R⟩
def p8_9 : (R : Type) → (List (List Int)) → Int → Int → (List Int) → (List (List Int)) → (List (List Int)) → ((List (List Int)) → Int → Int → (List Int) → (List (List Int)) → (List (List Int)) → Option R) → ((List (List Int)) → Int → (List Int) → (List (List Int)) → (List (List Int)) → Option R) → Option R := fun R x1 x2 x3 x4 x5 x6 kc k0 =>
let v7 : Bool := (decide (x3 ≥ (0 : Int)));
(match v7 with
| true => (match (bnd x3 (List.length x1 : Int)) with
| true => let v8 : (List Int) := (List.getD x1 (Int.toNat x3) (List.replicate 32 (0 : Int)));
let v9 : (List (List Int)) := ([v8] : (List (List Int)));
(match (decide (List.length x6 + List.length v9 ≤ 4398046511104)) with
| true => let v10 : (List (List Int)) := (x6 ++ v9);
let v11 : Int := (IntKind.i64.wrap (x3 - (1 : Int)));
kc x1 x2 v11 x4 x5 v10
| false => none)
| false => none)
| false => k0 x1 x2 x4 x5 x6)
theorem q8_9 (F30 : FT30) (F31 : FT31) (L9 : LT8_9) (R : Type) (x : HT (le8_9 L9).H) (kc : HT (le8_9 L9).H → Option R) (ke : KT R (le8_9 L9).exs) :
  exec (e8 F30 F31 L9 R) (lcode 9 (codeOf Try.f8)) (stOf (le8_9 L9).H x 3) (roundK (le8_9 L9).H (le8_9 L9).exs kc ke) =
    p8_9 R x.1 x.2.1 x.2.2.1 x.2.2.2.1 x.2.2.2.2.1 x.2.2.2.2.2.1 (fun x1 x2 x3 x4 x5 x6 => kc (x1, x2, x3, x4, x5, x6, ())) (fun y1 y2 y3 y4 y5 => ke.1 (y1, y2, y3, y4, y5, ())) := by kernel_rfl
noncomputable def G8_9 : Nat → LT8_9
  | 0 => fun _ _ _ _ _ _ _ _ => none
  | n + 1 => fun R x1 x2 x3 x4 x5 x6 k0 => p8_9 R x1 x2 x3 x4 x5 x6 (fun x1 x2 x3 x4 x5 x6 => G8_9 n R x1 x2 x3 x4 x5 x6 k0) k0
def p8 (F30 : FT30) (F31 : FT31) (L9 : LT8_9) : FT8 := fun R a0 a1 a2 k =>
F30 R  fun y1 =>
(match (!y1) with
| true => k false
| false => let v2 : Int := (List.length a0 : Int);
let v3 : Bool := (decide (v2 > (300 : Int)));
(match v3 with
| true => k true
| false => let v4 : Int := (List.length a0 : Int);
let v5 : Bool := (v4 == (0 : Int));
(match v5 with
| true => k true
| false => let v6 : Int := (IntKind.i64.wrap a1);
let v7 : Int := (List.length a0 : Int);
(match (!(v7 == 0)) with
| true => let v8 : Int := (Int.tmod v6 v7);
let v9 : (List (List Int)) := ([] : (List (List Int)));
(match (decide (0 ≤ v8 ∧ v8 ≤ (List.length a0 : Int) ∧ (List.length a0 : Int) ≤ (List.length a0 : Int) ∧ (List.length a0 : Int) ≤ (List.length a0 : Int))) with
| true => let v10 : (List (List Int)) := (List.take (Int.toNat ((List.length a0 : Int) - v8)) (List.drop (Int.toNat v8) a0));
(match (decide (List.length v9 + List.length v10 ≤ 4398046511104)) with
| true => let v11 : (List (List Int)) := (v9 ++ v10);
(match (decide (0 ≤ (0 : Int) ∧ (0 : Int) ≤ v8 ∧ v8 ≤ v8 ∧ v8 ≤ (List.length a0 : Int))) with
| true => let v12 : (List (List Int)) := (List.take (Int.toNat (v8 - (0 : Int))) (List.drop 0 a0));
(match (decide (List.length v11 + List.length v12 ≤ 4398046511104)) with
| true => let v13 : (List (List Int)) := (v11 ++ v12);
let v14 : Int := (List.length a0 : Int);
let v15 : Int := (IntKind.i64.wrap (v14 - (1 : Int)));
L9 R a0 v8 v15 a2 v13 ([] : (List (List Int))) (fun x16 x17 x18 x19 x20 =>
F31 R x16 fun y21 =>
F31 R x19 fun y22 =>
let v23 : Bool := (Kd.eqv (.arr 32 (.int .u8)) y22 y21);
(match v23 with
| true => F31 R x20 fun y24 =>
let v25 : Bool := (Kd.eqv (.arr 32 (.int .u8)) y24 y21);
(match v25 with
| true => (match (decide (0 ≤ (0 : Int) ∧ (0 : Int) ≤ x17 ∧ x17 ≤ x17 ∧ x17 ≤ (List.length x16 : Int))) with
| true => let v26 : (List (List Int)) := (List.take (Int.toNat (x17 - (0 : Int))) (List.drop 0 x16));
F31 R v26 fun y27 =>
(match (decide (0 ≤ x17 ∧ x17 ≤ (List.length x16 : Int) ∧ (List.length x16 : Int) ≤ (List.length x16 : Int) ∧ (List.length x16 : Int) ≤ (List.length x16 : Int))) with
| true => let v28 : (List (List Int)) := (List.take (Int.toNat ((List.length x16 : Int) - x17)) (List.drop (Int.toNat x17) x16));
F31 R v28 fun y29 =>
let v30 : (List (List Int)) := ([y27, y29] : (List (List Int)));
F31 R v30 fun y31 =>
let v32 : Bool := (Kd.eqv (.arr 32 (.int .u8)) y31 y21);
(match v32 with
| true => let v33 : (List (List Int)) := ([x18, y21, x18] : (List (List Int)));
F31 R v33 fun y34 =>
let v35 : Bool := (Kd.eqv (.arr 32 (.int .u8)) y34 y21);
k v35
| false => k false)
| false => none)
| false => none)
| false => k false)
| false => k false))
| false => none)
| false => none)
| false => none)
| false => none)
| false => none))))
theorem q8 (F30 : FT30) (F31 : FT31) (L9 : LT8_9) (F : FT8) (R : Type) (x : AT (en8 F).ins) (k : RT (en8 F).outs → PT (en8 F).ins → Option R) :
  xfun (e8 F30 F31 L9 R) (codeOf Try.f8) res8 (avs (en8 F).ins x) (finK (en8 F).outs (en8 F).ins k) = p8 F30 F31 L9 R x.1 x.2.1 x.2.2.1 (fun y1 => k (y1, ()) ()) := by kernel_rfl
noncomputable def F8 : FT8 := p8 F30 F31 (G8_9 FUEL)
theorem env8 (R : Type) : EnvOK Try.prog (e8 F30 F31 (G8_9 FUEL) R) := ⟨tabOK, eqOK, callOf_ok (allE_cons ok30 (allE_cons ok31 allE_nil))⟩
noncomputable def T8_9 : (R : Type) → HT (le8_9 (G8_9 FUEL)).H → (HT (le8_9 (G8_9 FUEL)).H → Option R) → KT R (le8_9 (G8_9 FUEL)).exs → Option R := fun R x kc ke => p8_9 R x.1 x.2.1 x.2.2.1 x.2.2.2.1 x.2.2.2.2.1 x.2.2.2.2.2.1 (fun x1 x2 x3 x4 x5 x6 => kc (x1, x2, x3, x4, x5, x6, ())) (fun y1 y2 y3 y4 y5 => ke.1 (y1, y2, y3, y4, y5, ()))
theorem it8_9 : ∀ (n : Nat) (R : Type) (x : HT (le8_9 (G8_9 FUEL)).H) (ke : KT R (le8_9 (G8_9 FUEL)).exs), iter T8_9 n R x ke = G8_9 n R x.1 x.2.1 x.2.2.1 x.2.2.2.1 x.2.2.2.2.1 x.2.2.2.2.2.1 (fun y1 y2 y3 y4 y5 => ke.1 (y1, y2, y3, y4, y5, ())) := by
  intro n
  induction n with
  | zero => intro R x ke; rfl
  | succ n ih =>
    intro R x ke
    show T8_9 R x (fun x' => iter T8_9 n R x' ke) ke = _
    rw [show (fun x' => iter T8_9 n R x' ke) = fun x => G8_9 n R x.1 x.2.1 x.2.2.1 x.2.2.2.1 x.2.2.2.2.1 x.2.2.2.2.2.1 (fun y1 y2 y3 y4 y5 => ke.1 (y1, y2, y3, y4, y5, ())) from funext fun x' => ih R x' ke]
    rfl
theorem lok8_9 : (le8_9 (G8_9 FUEL)).OK Try.prog 0 85 (lcode 9 (codeOf Try.f8)) := fun R x ke r h =>
  iter_sound (fun R => e8 F30 F31 (G8_9 FUEL) R) 0 85 (fun _ => rfl) (fun _ => rfl) (fun R => env8 R) mixed (by
    intro R
    rw [show loopsOf (lcode 9 (codeOf Try.f8)) = [] from by kernel_rfl]
    exact allM_nil) (T := T8_9) (fun R x kc ke => q8_9 F30 F31 (G8_9 FUEL) R x kc ke) FUEL R x ke r ((it8_9 FUEL R x ke).trans h)
theorem ok8 : (en8 F8).OK Try.prog :=
  ent_ok (Ef := fun R => e8 F30 F31 (G8_9 FUEL) R) (fun R => env8 R) mixed Try.func8 (body := codeOf Try.f8) (by kernel_rfl) (by kernel_rfl) (np := 0) (nt := 85) (fun _ => rfl) (fun _ => rfl) (by kernel_rfl) (res := res8) (by kernel_rfl) (fun _ => rfl) (fun _ => Nat.le_of_ble_eq_true rfl) (by
    intro R
    rw [show loopsOf (codeOf Try.f8) = [lcode 9 (codeOf Try.f8)] from by kernel_rfl]
    exact (allM_cons (loop_ok2 (e := le8_9 (G8_9 FUEL)) rfl rfl lok8_9) allM_nil)) (fun R x k => q8 F30 F31 (G8_9 FUEL) F8 R x k)
/-! drawlot/stream.Split -/
abbrev FT45 : Type 1 := (R : Type) → Int → (Int → Int → Option R) → Option R
def en45 (F : FT45) : Ent := ⟨45, [(false, (.int .u64))], [(false, (.int .u32)), (false, (.int .u32))], fun R x k => F R x.1 (fun y1 y2 => k (y1, y2, ()) ())⟩
def res45 : List (ResultVar × TypeId × Bool) := [(.tmp 2, 49, false), (.tmp 3, 49, false)]
def e45 (R : Type) : Env R := ⟨TT, EQT, 0, 9, ownOf [], callOf [] R, loopOf [] R⟩
def p45 : FT45 := fun R a0 k =>
let v1 : Int := (ishr .u64 a0 (32 : Int));
let v2 : Int := (IntKind.u32.wrap v1);
let v3 : Int := (IntKind.u32.wrap a0);
k v2 v3
theorem q45 (F : FT45) (R : Type) (x : AT (en45 F).ins) (k : RT (en45 F).outs → PT (en45 F).ins → Option R) :
  xfun (e45 R) (codeOf Try.f45) res45 (avs (en45 F).ins x) (finK (en45 F).outs (en45 F).ins k) = p45 R x.1 (fun y1 y2 => k (y1, y2, ()) ()) := by kernel_rfl
noncomputable def F45 : FT45 := p45
theorem env45 (R : Type) : EnvOK Try.prog (e45 R) := ⟨tabOK, eqOK, callOf_ok allE_nil⟩
theorem ok45 : (en45 F45).OK Try.prog :=
  ent_ok (Ef := fun R => e45 R) (fun R => env45 R) mixed Try.func45 (body := codeOf Try.f45) (by kernel_rfl) (by kernel_rfl) (np := 0) (nt := 9) (fun _ => rfl) (fun _ => rfl) (by kernel_rfl) (res := res45) (by kernel_rfl) (fun _ => rfl) (fun _ => Nat.le_of_ble_eq_true rfl) (by
    intro R
    rw [show loopsOf (codeOf Try.f45) = [] from by kernel_rfl]
    exact allM_nil) (fun R x k => q45 F45 R x k)
/-! drawlot/stream.Block -/
abbrev FT38 : Type 1 := (R : Type) → (List Int) → Int → Int → ((List Int) → Option R) → Option R
def en38 (F : FT38) : Ent := ⟨38, [(false, (.arr 32 (.int .u8))), (false, (.int .u64)), (false, (.int .u64))], [(false, (.arr 32 (.int .u8)))], fun R x k => F R x.1 x.2.1 x.2.2.1 (fun y1 => k (y1, ()) ())⟩
def res38 : List (ResultVar × TypeId × Bool) := [(.cell 6 34, 34, false)]
def e38 (F71 : FT71) (F72 : FT72) (R : Type) : Env R := ⟨TT, EQT, 0, 18, ownOf [], callOf [en71 F71, en72 F72] R, loopOf [] R⟩
def p38 (F71 : FT71) (F72 : FT72) : FT38 := fun R a0 a1 a2 k =>
F71 R a1 fun y1 =>
F71 R a2 fun y2 =>
let v3 : (List (List Int)) := ([(List.take 32 (List.drop 0 a0)), (List.take 8 (List.drop 0 y1)), (List.take 8 (List.drop 0 y2))] : (List (List Int)));
F72 R v3 fun y4 =>
k y4
theorem q38 (F71 : FT71) (F72 : FT72) (F : FT38) (R : Type) (x : AT (en38 F).ins) (k : RT (en38 F).outs → PT (en38 F).ins → Option R) :
  xfun (e38 F71 F72 R) (codeOf Try.f38) res38 (avs (en38 F).ins x) (finK (en38 F).outs (en38 F).ins k) = p38 F71 F72 R x.1 x.2.1 x.2.2.1 (fun y1 => k (y1, ()) ()) := by kernel_rfl
noncomputable def F38 : FT38 := p38 F71 F72
theorem env38 (R : Type) : EnvOK Try.prog (e38 F71 F72 R) := ⟨tabOK, eqOK, callOf_ok (allE_cons ok71 (allE_cons ok72 allE_nil))⟩
theorem ok38 : (en38 F38).OK Try.prog :=
  ent_ok (Ef := fun R => e38 F71 F72 R) (fun R => env38 R) mixed Try.func38 (body := codeOf Try.f38) (by kernel_rfl) (by kernel_rfl) (np := 0) (nt := 18) (fun _ => rfl) (fun _ => rfl) (by kernel_rfl) (res := res38) (by kernel_rfl) (fun _ => rfl) (fun _ => Nat.le_of_ble_eq_true rfl) (by
    intro R
    rw [show loopsOf (codeOf Try.f38) = [] from by kernel_rfl]
    exact allM_nil) (fun R x k => q38 F71 F72 F38 R x k)
/-! drawlot/stream.Bytes -/
abbrev FT42 : Type 1 := (R : Type) → (List Int) → Int → Int → ((List Int) → Option R) → Option R
def en42 (F : FT42) : Ent := ⟨42, [(false, (.arr 32 (.int .u8))), (false, (.int .u64)), (false, (.int .i64))], [(false, (.sl (.int .u8)))], fun R x k => F R x.1 x.2.1 x.2.2.1 (fun y1 => k (y1, ()) ())⟩
def res42 : List (ResultVar × TypeId × Bool) := [(.tmp 6, 46, false)]
abbrev LT42_5 : Type 1 := (R : Type) → Int → Int → Int → (List Int) → (List Int) → (Int → (List Int) → Option R) → Option R
def le42_5 (L : LT42_5) : LEnt := ⟨5, [.val 1 (.int .u64), .val 2 (.int .i64), .fix 3 (.ptr 0 [] (.arr 32 (.int .u8))), .fix 7 (.own 1 0), .val 8 (.int .u64), .var 0 (.arr 32 (.int .u8)) false, .row 1 (.int .u8) false], 2, [(.exit 0, [.val 2 (.int .i64), .fix 7 (.own 1 0), .row 1 (.int .u8) false])], fun R x ke => L R x.1 x.2.1 x.2.2.1 x.2.2.2.1 x.2.2.2.2.1 (fun y1 y2 => ke.1 (y1, y2, ()))⟩
def e42 (F38 : FT38) (L5 : LT42_5) (R : Type) : Env R := ⟨TT, EQT, 0, 33, ownOf [(3, 0)], callOf [en38 F38] R, loopOf [le42_5 L5] R⟩
def p42_5 (F38 : FT38) : (R : Type) → Int → Int → Int → (List Int) → (List Int) → (Int → Int → Int → (List Int) → (List Int) → Option R) → (Int → (List Int) → Option R) → Option R := fun R x1 x2 x3 x4 x5 kc k0 =>
let v6 : Int := (List.length x5 : Int);
let v7 : Bool := (decide (v6 < x2));
(match v7 with
| true => F38 R x4 x1 x3 fun y8 =>
(match (decide (List.length x5 + List.length (List.take 32 (List.drop 0 y8)) ≤ 140737488355328)) with
| true => let v9 : (List Int) := (x5 ++ (List.take 32 (List.drop 0 y8)));
let v10 : Int := (IntKind.u64.wrap (x3 + (1 : Int)));
kc x1 x2 v10 x4 v9
| false => none)
| false => k0 x2 x5)
theorem q42_5 (F38 : FT38) (L5 : LT42_5) (R : Type) (x : HT (le42_5 L5).H) (kc : HT (le42_5 L5).H → Option R) (ke : KT R (le42_5 L5).exs) :
  exec (e42 F38 L5 R) (lcode 5 (codeOf Try.f42)) (stOf (le42_5 L5).H x 2) (roundK (le42_5 L5).H (le42_5 L5).exs kc ke) =
    p42_5 F38 R x.1 x.2.1 x.2.2.1 x.2.2.2.1 x.2.2.2.2.1 (fun x1 x2 x3 x4 x5 => kc (x1, x2, x3, x4, x5, ())) (fun y1 y2 => ke.1 (y1, y2, ())) := by kernel_rfl
noncomputable def G42_5 : Nat → LT42_5
  | 0 => fun _ _ _ _ _ _ _ => none
  | n + 1 => fun R x1 x2 x3 x4 x5 k0 => p42_5 F38 R x1 x2 x3 x4 x5 (fun x1 x2 x3 x4 x5 => G42_5 n R x1 x2 x3 x4 x5 k0) k0
def p42 (L5 : LT42_5) : FT42 := fun R a0 a1 a2 k =>
let v1 : Bool := (decide (a2 < (0 : Int)));
(match v1 with
| true => k ([] : (List Int))
| false => let v2 : Bool := (decide (a2 > (4096 : Int)));
(match v2 with
| true => k ([] : (List Int))
| false => L5 R a1 a2 (0 : Int) a0 ([] : (List Int)) (fun x3 x4 =>
(match (decide (0 ≤ (0 : Int) ∧ (0 : Int) ≤ x3 ∧ x3 ≤ x3 ∧ x3 ≤ (List.length x4 : Int))) with
| true => k (List.take (Int.toNat (x3 - (0 : Int))) (List.drop 0 x4))
| false => none))))
theorem q42 (F38 : FT38) (L5 : LT42_5) (F : FT42) (R : Type) (x : AT (en42 F).ins) (k : RT (en42 F).outs → PT (en42 F).ins → Option R) :
  xfun (e42 F38 L5 R) (codeOf Try.f42) res42 (avs (en42 F).ins x) (finK (en42 F).outs (en42 F).ins k) = p42 L5 R x.1 x.2.1 x.2.2.1 (fun y1 => k (y1, ()) ()) := by kernel_rfl
noncomputable def F42 : FT42 := p42 (G42_5 FUEL)
theorem env42 (R : Type) : EnvOK Try.prog (e42 F38 (G42_5 FUEL) R) := ⟨tabOK, eqOK, callOf_ok (allE_cons ok38 allE_nil)⟩
noncomputable def T42_5 : (R : Type) → HT (le42_5 (G42_5 FUEL)).H → (HT (le42_5 (G42_5 FUEL)).H → Option R) → KT R (le42_5 (G42_5 FUEL)).exs → Option R := fun R x kc ke => p42_5 F38 R x.1 x.2.1 x.2.2.1 x.2.2.2.1 x.2.2.2.2.1 (fun x1 x2 x3 x4 x5 => kc (x1, x2, x3, x4, x5, ())) (fun y1 y2 => ke.1 (y1, y2, ()))
theorem it42_5 : ∀ (n : Nat) (R : Type) (x : HT (le42_5 (G42_5 FUEL)).H) (ke : KT R (le42_5 (G42_5 FUEL)).exs), iter T42_5 n R x ke = G42_5 n R x.1 x.2.1 x.2.2.1 x.2.2.2.1 x.2.2.2.2.1 (fun y1 y2 => ke.1 (y1, y2, ())) := by
  intro n
  induction n with
  | zero => intro R x ke; rfl
  | succ n ih =>
    intro R x ke
    show T42_5 R x (fun x' => iter T42_5 n R x' ke) ke = _
    rw [show (fun x' => iter T42_5 n R x' ke) = fun x => G42_5 n R x.1 x.2.1 x.2.2.1 x.2.2.2.1 x.2.2.2.2.1 (fun y1 y2 => ke.1 (y1, y2, ())) from funext fun x' => ih R x' ke]
    rfl
theorem lok42_5 : (le42_5 (G42_5 FUEL)).OK Try.prog 0 33 (lcode 5 (codeOf Try.f42)) := fun R x ke r h =>
  iter_sound (fun R => e42 F38 (G42_5 FUEL) R) 0 33 (fun _ => rfl) (fun _ => rfl) (fun R => env42 R) mixed (by
    intro R
    rw [show loopsOf (lcode 5 (codeOf Try.f42)) = [] from by kernel_rfl]
    exact allM_nil) (T := T42_5) (fun R x kc ke => q42_5 F38 (G42_5 FUEL) R x kc ke) FUEL R x ke r ((it42_5 FUEL R x ke).trans h)
theorem ok42 : (en42 F42).OK Try.prog :=
  ent_ok (Ef := fun R => e42 F38 (G42_5 FUEL) R) (fun R => env42 R) mixed Try.func42 (body := codeOf Try.f42) (by kernel_rfl) (by kernel_rfl) (np := 0) (nt := 33) (fun _ => rfl) (fun _ => rfl) (by kernel_rfl) (res := res42) (by kernel_rfl) (fun _ => rfl) (fun _ => Nat.le_of_ble_eq_true rfl) (by
    intro R
    rw [show loopsOf (codeOf Try.f42) = [lcode 5 (codeOf Try.f42)] from by kernel_rfl]
    exact (allM_cons (loop_ok2 (e := le42_5 (G42_5 FUEL)) rfl rfl lok42_5) allM_nil)) (fun R x k => q42 F38 (G42_5 FUEL) F42 R x k)
/-! drawlot/stream.Domain -/
abbrev FT44 : Type 1 := (R : Type) → Int → Int → (Int → Option R) → Option R
def en44 (F : FT44) : Ent := ⟨44, [(false, (.int .u32)), (false, (.int .u32))], [(false, (.int .u64))], fun R x k => F R x.1 x.2.1 (fun y1 => k (y1, ()) ())⟩
def res44 : List (ResultVar × TypeId × Bool) := [(.tmp 4, 38, false)]
def e44 (R : Type) : Env R := ⟨TT, EQT, 0, 11, ownOf [], callOf [] R, loopOf [] R⟩
def p44 : FT44 := fun R a0 a1 k =>
let v1 : Int := (IntKind.u64.wrap a0);
let v2 : Int := (ishl .u64 v1 (32 : Int));
let v3 : Int := (IntKind.u64.wrap a1);
let v4 : Int := (ior .u64 v2 v3);
k v4
theorem q44 (F : FT44) (R : Type) (x : AT (en44 F).ins) (k : RT (en44 F).outs → PT (en44 F).ins → Option R) :
  xfun (e44 R) (codeOf Try.f44) res44 (avs (en44 F).ins x) (finK (en44 F).outs (en44 F).ins k) = p44 R x.1 x.2.1 (fun y1 => k (y1, ()) ()) := by kernel_rfl
noncomputable def F44 : FT44 := p44
theorem env44 (R : Type) : EnvOK Try.prog (e44 R) := ⟨tabOK, eqOK, callOf_ok allE_nil⟩
theorem ok44 : (en44 F44).OK Try.prog :=
  ent_ok (Ef := fun R => e44 R) (fun R => env44 R) mixed Try.func44 (body := codeOf Try.f44) (by kernel_rfl) (by kernel_rfl) (np := 0) (nt := 11) (fun _ => rfl) (fun _ => rfl) (by kernel_rfl) (res := res44) (by kernel_rfl) (fun _ => rfl) (fun _ => Nat.le_of_ble_eq_true rfl) (by
    intro R
    rw [show loopsOf (codeOf Try.f44) = [] from by kernel_rfl]
    exact allM_nil) (fun R x k => q44 F44 R x k)
/-! drawlot/stream.Bit -/
abbrev FT40 : Type 1 := (R : Type) → (List Int) → Int → Int → (Int → Option R) → Option R
def en40 (F : FT40) : Ent := ⟨40, [(false, (.arr 32 (.int .u8))), (false, (.int .u64)), (false, (.int .u64))], [(false, (.int .u64))], fun R x k => F R x.1 x.2.1 x.2.2.1 (fun y1 => k (y1, ()) ())⟩
def res40 : List (ResultVar × TypeId × Bool) := [(.tmp 6, 38, false)]
def e40 (F38 : FT38) (R : Type) : Env R := ⟨TT, EQT, 0, 26, ownOf [], callOf [en38 F38] R, loopOf [] R⟩
def p40 (F38 : FT38) : FT40 := fun R a0 a1 a2 k =>
let v1 : Int := (IntKind.u64.wrap (Int.tdiv a2 (256 : Int)));
F38 R a0 a1 v1 fun y2 =>
let v3 : Int := (Int.tmod a2 (256 : Int));
let v4 : Int := (ishr .u64 v3 (3 : Int));
(match (bnd v4 (32 : Int)) with
| true => let v5 : Int := (List.getD y2 (Int.toNat v4) (0 : Int));
let v6 : Int := (iand .u64 v3 (7 : Int));
let v7 : Int := (IntKind.u64.wrap ((7 : Int) - v6));
(match (decide (0 ≤ v7)) with
| true => let v8 : Int := (ishr .u8 v5 v7);
let v9 : Int := (IntKind.u64.wrap v8);
let v10 : Int := (iand .u64 v9 (1 : Int));
k v10
| false => none)
| false => none)
theorem q40 (F38 : FT38) (F : FT40) (R : Type) (x : AT (en40 F).ins) (k : RT (en40 F).outs → PT (en40 F).ins → Option R) :
  xfun (e40 F38 R) (codeOf Try.f40) res40 (avs (en40 F).ins x) (finK (en40 F).outs (en40 F).ins k) = p40 F38 R x.1 x.2.1 x.2.2.1 (fun y1 => k (y1, ()) ()) := by kernel_rfl
noncomputable def F40 : FT40 := p40 F38
theorem env40 (R : Type) : EnvOK Try.prog (e40 F38 R) := ⟨tabOK, eqOK, callOf_ok (allE_cons ok38 allE_nil)⟩
theorem ok40 : (en40 F40).OK Try.prog :=
  ent_ok (Ef := fun R => e40 F38 R) (fun R => env40 R) mixed Try.func40 (body := codeOf Try.f40) (by kernel_rfl) (by kernel_rfl) (np := 0) (nt := 26) (fun _ => rfl) (fun _ => rfl) (by kernel_rfl) (res := res40) (by kernel_rfl) (fun _ => rfl) (fun _ => Nat.le_of_ble_eq_true rfl) (by
    intro R
    rw [show loopsOf (codeOf Try.f40) = [] from by kernel_rfl]
    exact allM_nil) (fun R x k => q40 F38 F40 R x k)
/-! drawlot/drawlotlaw06.alive -/
abbrev FT37 : Type 1 := (R : Type) → (Bool → Option R) → Option R
def en37 (F : FT37) : Ent := ⟨37, [], [(false, .bool)], fun R x k => F R  (fun y1 => k (y1, ()) ())⟩
def res37 : List (ResultVar × TypeId × Bool) := [(.tmp 0, 4, false)]
def e37 (F38 : FT38) (F40 : FT40) (F42 : FT42) (F44 : FT44) (F45 : FT45) (F70 : FT70) (R : Type) : Env R := ⟨TT, EQT, 0, 51, ownOf [], callOf [en38 F38, en40 F40, en42 F42, en44 F44, en45 F45, en70 F70] R, loopOf [] R⟩
def p37 (F38 : FT38) (F40 : FT40) (F42 : FT42) (F44 : FT44) (F45 : FT45) (F70 : FT70) : FT37 := fun R k =>
F45 R (4294967298 : Int) fun y1 y2 =>
let v3 : (List Int) := (List.replicate 32 (0 : Int));
F42 R v3 (0 : Int) (33 : Int) fun y4 =>
F44 R (1 : Int) (2 : Int) fun y5 =>
let v6 : Bool := (y5 == (4294967298 : Int));
(match v6 with
| true => let v7 : Bool := (y1 == (1 : Int));
(match v7 with
| true => let v8 : Bool := (y2 == (2 : Int));
(match v8 with
| true => let v9 : (List Int) := (List.replicate 32 (0 : Int));
F38 R v9 (0 : Int) (0 : Int) fun y10 =>
let v11 : (List Int) := (List.replicate 48 (0 : Int));
F70 R v11 fun y12 =>
let v13 : Bool := (Kd.eqv (.arr 32 (.int .u8)) y10 y12);
(match v13 with
| true => let v14 : Int := (List.length y4 : Int);
let v15 : Bool := (v14 == (33 : Int));
(match v15 with
| true => (match (bnd (0 : Int) (List.length y4 : Int)) with
| true => let v16 : Int := (List.getD y4 0 (0 : Int));
let v17 : (List Int) := (List.replicate 32 (0 : Int));
F38 R v17 (0 : Int) (0 : Int) fun y18 =>
let v19 : Int := (List.getD y18 0 (0 : Int));
let v20 : Bool := (v16 == v19);
(match v20 with
| true => let v21 : (List Int) := (List.replicate 32 (0 : Int));
F40 R v21 (0 : Int) (0 : Int) fun y22 =>
(match (bnd (0 : Int) (List.length y4 : Int)) with
| true => let v23 : Int := (List.getD y4 0 (0 : Int));
let v24 : Int := (IntKind.u64.wrap v23);
let v25 : Int := (IntKind.u64.wrap (Int.tdiv v24 (128 : Int)));
let v26 : Bool := (y22 == v25);
k v26
| false => none)
| false => k false)
| false => none)
| false => k false)
| false => k false)
| false => k false)
| false => k false)
| false => k false)
theorem q37 (F38 : FT38) (F40 : FT40) (F42 : FT42) (F44 : FT44) (F45 : FT45) (F70 : FT70) (F : FT37) (R : Type) (x : AT (en37 F).ins) (k : RT (en37 F).outs → PT (en37 F).ins → Option R) :
  xfun (e37 F38 F40 F42 F44 F45 F70 R) (codeOf Try.f37) res37 (avs (en37 F).ins x) (finK (en37 F).outs (en37 F).ins k) = p37 F38 F40 F42 F44 F45 F70 R  (fun y1 => k (y1, ()) ()) := by kernel_rfl
noncomputable def F37 : FT37 := p37 F38 F40 F42 F44 F45 F70
theorem env37 (R : Type) : EnvOK Try.prog (e37 F38 F40 F42 F44 F45 F70 R) := ⟨tabOK, eqOK, callOf_ok (allE_cons ok38 (allE_cons ok40 (allE_cons ok42 (allE_cons ok44 (allE_cons ok45 (allE_cons ok70 allE_nil))))))⟩
theorem ok37 : (en37 F37).OK Try.prog :=
  ent_ok (Ef := fun R => e37 F38 F40 F42 F44 F45 F70 R) (fun R => env37 R) mixed Try.func37 (body := codeOf Try.f37) (by kernel_rfl) (by kernel_rfl) (np := 0) (nt := 51) (fun _ => rfl) (fun _ => rfl) (by kernel_rfl) (res := res37) (by kernel_rfl) (fun _ => rfl) (fun _ => Nat.le_of_ble_eq_true rfl) (by
    intro R
    rw [show loopsOf (codeOf Try.f37) = [] from by kernel_rfl]
    exact allM_nil) (fun R x k => q37 F38 F40 F42 F44 F45 F70 F37 R x k)
/-! drawlot/drawlotref06.Block -/
abbrev FT39 : Type 1 := (R : Type) → (List Int) → Int → Int → ((List Int) → Option R) → Option R
def en39 (F : FT39) : Ent := ⟨39, [(false, (.arr 32 (.int .u8))), (false, (.int .u64)), (false, (.int .u64))], [(false, (.arr 32 (.int .u8)))], fun R x k => F R x.1 x.2.1 x.2.2.1 (fun y1 => k (y1, ()) ())⟩
def res39 : List (ResultVar × TypeId × Bool) := [(.cell 6 34, 34, false)]
abbrev LT39_3 : Type 1 := (R : Type) → Int → Int → Int → (List Int) → (List Int) → (List Int) → (Int → Int → (List Int) → (List Int) → Option R) → Option R
def le39_3 (L : LT39_3) : LEnt := ⟨3, [.val 1 (.int .u64), .val 2 (.int .u64), .fix 3 (.ptr 0 [] (.arr 32 (.int .u8))), .fix 6 (.ptr 1 [] (.arr 32 (.int .u8))), .fix 7 (.own 2 0), .val 8 (.int .i64), .var 0 (.arr 32 (.int .u8)) false, .var 1 (.arr 32 (.int .u8)) false, .row 2 (.int .u8) false], 3, [(.exit 0, [.val 1 (.int .u64), .val 2 (.int .u64), .fix 6 (.ptr 1 [] (.arr 32 (.int .u8))), .fix 7 (.own 2 0), .var 1 (.arr 32 (.int .u8)) false, .row 2 (.int .u8) false])], fun R x ke => L R x.1 x.2.1 x.2.2.1 x.2.2.2.1 x.2.2.2.2.1 x.2.2.2.2.2.1 (fun y1 y2 y3 y4 => ke.1 (y1, y2, y3, y4, ()))⟩
abbrev LT39_8 : Type 1 := (R : Type) → Int → (List Int) → (List Int) → (List Int) → (List Int) → ((List Int) → (List Int) → (List Int) → Option R) → Option R
def le39_8 (L : LT39_8) : LEnt := ⟨8, [.fix 6 (.ptr 1 [] (.arr 32 (.int .u8))), .fix 7 (.own 2 0), .fix 9 (.ptr 3 [] (.arr 8 (.int .u8))), .fix 10 (.ptr 4 [] (.arr 8 (.int .u8))), .val 11 (.int .i64), .var 1 (.arr 32 (.int .u8)) false, .row 2 (.int .u8) false, .var 3 (.arr 8 (.int .u8)) false, .var 4 (.arr 8 (.int .u8)) false], 5, [(.exit 2, [.fix 6 (.ptr 1 [] (.arr 32 (.int .u8))), .fix 7 (.own 2 0), .fix 10 (.ptr 4 [] (.arr 8 (.int .u8))), .var 1 (.arr 32 (.int .u8)) false, .row 2 (.int .u8) false, .var 4 (.arr 8 (.int .u8)) false])], fun R x ke => L R x.1 x.2.1 x.2.2.1 x.2.2.2.1 x.2.2.2.2.1 (fun y1 y2 y3 => ke.1 (y1, y2, y3, ()))⟩
abbrev LT39_12 : Type 1 := (R : Type) → Int → (List Int) → (List Int) → (List Int) → ((List Int) → (List Int) → Option R) → Option R
def le39_12 (L : LT39_12) : LEnt := ⟨12, [.fix 6 (.ptr 1 [] (.arr 32 (.int .u8))), .fix 7 (.own 2 0), .fix 10 (.ptr 4 [] (.arr 8 (.int .u8))), .val 12 (.int .i64), .var 1 (.arr 32 (.int .u8)) false, .row 2 (.int .u8) false, .var 4 (.arr 8 (.int .u8)) false], 5, [(.exit 4, [.fix 6 (.ptr 1 [] (.arr 32 (.int .u8))), .fix 7 (.own 2 0), .var 1 (.arr 32 (.int .u8)) false, .row 2 (.int .u8) false])], fun R x ke => L R x.1 x.2.1 x.2.2.1 x.2.2.2.1 (fun y1 y2 => ke.1 (y1, y2, ()))⟩
def e39 (F70 : FT70) (F74 : FT74) (L3 : LT39_3) (L8 : LT39_8) (L12 : LT39_12) (R : Type) : Env R := ⟨TT, EQT, 0, 49, ownOf [(1, 0)], callOf [en70 F70, en74 F74] R, loopOf [le39_3 L3, le39_8 L8, le39_12 L12] R⟩
def p39_3 : (R : Type) → Int → Int → Int → (List Int) → (List Int) → (List Int) → (Int → Int → Int → (List Int) → (List Int) → (List Int) → Option R) → (Int → Int → (List Int) → (List Int) → Option R) → Option R := fun R x1 x2 x3 x4 x5 x6 kc k0 =>
let v7 : Bool := (decide (x3 < (32 : Int)));
(match v7 with
| true => (match (bnd x3 (32 : Int)) with
| true => let v8 : Int := (List.getD x4 (Int.toNat x3) (0 : Int));
let v9 : (List Int) := ([v8] : (List Int));
(match (decide (List.length x6 + List.length v9 ≤ 140737488355328)) with
| true => let v10 : (List Int) := (x6 ++ v9);
let v11 : Int := (IntKind.i64.wrap (x3 + (1 : Int)));
kc x1 x2 v11 x4 x5 v10
| false => none)
| false => none)
| false => k0 x1 x2 x5 x6)
theorem q39_3 (F70 : FT70) (F74 : FT74) (L3 : LT39_3) (L8 : LT39_8) (L12 : LT39_12) (R : Type) (x : HT (le39_3 L3).H) (kc : HT (le39_3 L3).H → Option R) (ke : KT R (le39_3 L3).exs) :
  exec (e39 F70 F74 L3 L8 L12 R) (lcode 3 (codeOf Try.f39)) (stOf (le39_3 L3).H x 3) (roundK (le39_3 L3).H (le39_3 L3).exs kc ke) =
    p39_3 R x.1 x.2.1 x.2.2.1 x.2.2.2.1 x.2.2.2.2.1 x.2.2.2.2.2.1 (fun x1 x2 x3 x4 x5 x6 => kc (x1, x2, x3, x4, x5, x6, ())) (fun y1 y2 y3 y4 => ke.1 (y1, y2, y3, y4, ())) := by kernel_rfl
noncomputable def G39_3 : Nat → LT39_3
  | 0 => fun _ _ _ _ _ _ _ _ => none
  | n + 1 => fun R x1 x2 x3 x4 x5 x6 k0 => p39_3 R x1 x2 x3 x4 x5 x6 (fun x1 x2 x3 x4 x5 x6 => G39_3 n R x1 x2 x3 x4 x5 x6 k0) k0
def p39_8 : (R : Type) → Int → (List Int) → (List Int) → (List Int) → (List Int) → (Int → (List Int) → (List Int) → (List Int) → (List Int) → Option R) → ((List Int) → (List Int) → (List Int) → Option R) → Option R := fun R x1 x2 x3 x4 x5 kc k0 =>
let v6 : Bool := (decide (x1 < (8 : Int)));
(match v6 with
| true => (match (bnd x1 (8 : Int)) with
| true => let v7 : Int := (List.getD x4 (Int.toNat x1) (0 : Int));
let v8 : (List Int) := ([v7] : (List Int));
(match (decide (List.length x3 + List.length v8 ≤ 140737488355328)) with
| true => let v9 : (List Int) := (x3 ++ v8);
let v10 : Int := (IntKind.i64.wrap (x1 + (1 : Int)));
kc v10 x2 v9 x4 x5
| false => none)
| false => none)
| false => k0 x2 x3 x5)
theorem q39_8 (F70 : FT70) (F74 : FT74) (L3 : LT39_3) (L8 : LT39_8) (L12 : LT39_12) (R : Type) (x : HT (le39_8 L8).H) (kc : HT (le39_8 L8).H → Option R) (ke : KT R (le39_8 L8).exs) :
  exec (e39 F70 F74 L3 L8 L12 R) (lcode 8 (codeOf Try.f39)) (stOf (le39_8 L8).H x 5) (roundK (le39_8 L8).H (le39_8 L8).exs kc ke) =
    p39_8 R x.1 x.2.1 x.2.2.1 x.2.2.2.1 x.2.2.2.2.1 (fun x1 x2 x3 x4 x5 => kc (x1, x2, x3, x4, x5, ())) (fun y1 y2 y3 => ke.1 (y1, y2, y3, ())) := by kernel_rfl
noncomputable def G39_8 : Nat → LT39_8
  | 0 => fun _ _ _ _ _ _ _ => none
  | n + 1 => fun R x1 x2 x3 x4 x5 k0 => p39_8 R x1 x2 x3 x4 x5 (fun x1 x2 x3 x4 x5 => G39_8 n R x1 x2 x3 x4 x5 k0) k0
def p39_12 : (R : Type) → Int → (List Int) → (List Int) → (List Int) → (Int → (List Int) → (List Int) → (List Int) → Option R) → ((List Int) → (List Int) → Option R) → Option R := fun R x1 x2 x3 x4 kc k0 =>
let v5 : Bool := (decide (x1 < (8 : Int)));
(match v5 with
| true => (match (bnd x1 (8 : Int)) with
| true => let v6 : Int := (List.getD x4 (Int.toNat x1) (0 : Int));
let v7 : (List Int) := ([v6] : (List Int));
(match (decide (List.length x3 + List.length v7 ≤ 140737488355328)) with
| true => let v8 : (List Int) := (x3 ++ v7);
let v9 : Int := (IntKind.i64.wrap (x1 + (1 : Int)));
kc v9 x2 v8 x4
| false => none)
| false => none)
| false => k0 x2 x3)
theorem q39_12 (F70 : FT70) (F74 : FT74) (L3 : LT39_3) (L8 : LT39_8) (L12 : LT39_12) (R : Type) (x : HT (le39_12 L12).H) (kc : HT (le39_12 L12).H → Option R) (ke : KT R (le39_12 L12).exs) :
  exec (e39 F70 F74 L3 L8 L12 R) (lcode 12 (codeOf Try.f39)) (stOf (le39_12 L12).H x 5) (roundK (le39_12 L12).H (le39_12 L12).exs kc ke) =
    p39_12 R x.1 x.2.1 x.2.2.1 x.2.2.2.1 (fun x1 x2 x3 x4 => kc (x1, x2, x3, x4, ())) (fun y1 y2 => ke.1 (y1, y2, ())) := by kernel_rfl
noncomputable def G39_12 : Nat → LT39_12
  | 0 => fun _ _ _ _ _ _ => none
  | n + 1 => fun R x1 x2 x3 x4 k0 => p39_12 R x1 x2 x3 x4 (fun x1 x2 x3 x4 => G39_12 n R x1 x2 x3 x4 k0) k0
def p39 (F70 : FT70) (F74 : FT74) (L3 : LT39_3) (L8 : LT39_8) (L12 : LT39_12) : FT39 := fun R a0 a1 a2 k =>
L3 R a1 a2 (0 : Int) a0 (List.replicate 32 (0 : Int)) ([] : (List Int)) (fun x1 x2 x3 x4 =>
F74 R x1 fun y5 =>
F74 R x2 fun y6 =>
L8 R (0 : Int) x3 x4 y5 y6 (fun x7 x8 x9 =>
L12 R (0 : Int) x7 x8 x9 (fun x10 x11 =>
F70 R x11 fun y12 =>
k y12)))
theorem q39 (F70 : FT70) (F74 : FT74) (L3 : LT39_3) (L8 : LT39_8) (L12 : LT39_12) (F : FT39) (R : Type) (x : AT (en39 F).ins) (k : RT (en39 F).outs → PT (en39 F).ins → Option R) :
  xfun (e39 F70 F74 L3 L8 L12 R) (codeOf Try.f39) res39 (avs (en39 F).ins x) (finK (en39 F).outs (en39 F).ins k) = p39 F70 F74 L3 L8 L12 R x.1 x.2.1 x.2.2.1 (fun y1 => k (y1, ()) ()) := by kernel_rfl
noncomputable def F39 : FT39 := p39 F70 F74 (G39_3 FUEL) (G39_8 FUEL) (G39_12 FUEL)
theorem env39 (R : Type) : EnvOK Try.prog (e39 F70 F74 (G39_3 FUEL) (G39_8 FUEL) (G39_12 FUEL) R) := ⟨tabOK, eqOK, callOf_ok (allE_cons ok70 (allE_cons ok74 allE_nil))⟩
noncomputable def T39_3 : (R : Type) → HT (le39_3 (G39_3 FUEL)).H → (HT (le39_3 (G39_3 FUEL)).H → Option R) → KT R (le39_3 (G39_3 FUEL)).exs → Option R := fun R x kc ke => p39_3 R x.1 x.2.1 x.2.2.1 x.2.2.2.1 x.2.2.2.2.1 x.2.2.2.2.2.1 (fun x1 x2 x3 x4 x5 x6 => kc (x1, x2, x3, x4, x5, x6, ())) (fun y1 y2 y3 y4 => ke.1 (y1, y2, y3, y4, ()))
theorem it39_3 : ∀ (n : Nat) (R : Type) (x : HT (le39_3 (G39_3 FUEL)).H) (ke : KT R (le39_3 (G39_3 FUEL)).exs), iter T39_3 n R x ke = G39_3 n R x.1 x.2.1 x.2.2.1 x.2.2.2.1 x.2.2.2.2.1 x.2.2.2.2.2.1 (fun y1 y2 y3 y4 => ke.1 (y1, y2, y3, y4, ())) := by
  intro n
  induction n with
  | zero => intro R x ke; rfl
  | succ n ih =>
    intro R x ke
    show T39_3 R x (fun x' => iter T39_3 n R x' ke) ke = _
    rw [show (fun x' => iter T39_3 n R x' ke) = fun x => G39_3 n R x.1 x.2.1 x.2.2.1 x.2.2.2.1 x.2.2.2.2.1 x.2.2.2.2.2.1 (fun y1 y2 y3 y4 => ke.1 (y1, y2, y3, y4, ())) from funext fun x' => ih R x' ke]
    rfl
theorem lok39_3 : (le39_3 (G39_3 FUEL)).OK Try.prog 0 49 (lcode 3 (codeOf Try.f39)) := fun R x ke r h =>
  iter_sound (fun R => e39 F70 F74 (G39_3 FUEL) (G39_8 FUEL) (G39_12 FUEL) R) 0 49 (fun _ => rfl) (fun _ => rfl) (fun R => env39 R) mixed (by
    intro R
    rw [show loopsOf (lcode 3 (codeOf Try.f39)) = [] from by kernel_rfl]
    exact allM_nil) (T := T39_3) (fun R x kc ke => q39_3 F70 F74 (G39_3 FUEL) (G39_8 FUEL) (G39_12 FUEL) R x kc ke) FUEL R x ke r ((it39_3 FUEL R x ke).trans h)
noncomputable def T39_8 : (R : Type) → HT (le39_8 (G39_8 FUEL)).H → (HT (le39_8 (G39_8 FUEL)).H → Option R) → KT R (le39_8 (G39_8 FUEL)).exs → Option R := fun R x kc ke => p39_8 R x.1 x.2.1 x.2.2.1 x.2.2.2.1 x.2.2.2.2.1 (fun x1 x2 x3 x4 x5 => kc (x1, x2, x3, x4, x5, ())) (fun y1 y2 y3 => ke.1 (y1, y2, y3, ()))
theorem it39_8 : ∀ (n : Nat) (R : Type) (x : HT (le39_8 (G39_8 FUEL)).H) (ke : KT R (le39_8 (G39_8 FUEL)).exs), iter T39_8 n R x ke = G39_8 n R x.1 x.2.1 x.2.2.1 x.2.2.2.1 x.2.2.2.2.1 (fun y1 y2 y3 => ke.1 (y1, y2, y3, ())) := by
  intro n
  induction n with
  | zero => intro R x ke; rfl
  | succ n ih =>
    intro R x ke
    show T39_8 R x (fun x' => iter T39_8 n R x' ke) ke = _
    rw [show (fun x' => iter T39_8 n R x' ke) = fun x => G39_8 n R x.1 x.2.1 x.2.2.1 x.2.2.2.1 x.2.2.2.2.1 (fun y1 y2 y3 => ke.1 (y1, y2, y3, ())) from funext fun x' => ih R x' ke]
    rfl
theorem lok39_8 : (le39_8 (G39_8 FUEL)).OK Try.prog 0 49 (lcode 8 (codeOf Try.f39)) := fun R x ke r h =>
  iter_sound (fun R => e39 F70 F74 (G39_3 FUEL) (G39_8 FUEL) (G39_12 FUEL) R) 0 49 (fun _ => rfl) (fun _ => rfl) (fun R => env39 R) mixed (by
    intro R
    rw [show loopsOf (lcode 8 (codeOf Try.f39)) = [] from by kernel_rfl]
    exact allM_nil) (T := T39_8) (fun R x kc ke => q39_8 F70 F74 (G39_3 FUEL) (G39_8 FUEL) (G39_12 FUEL) R x kc ke) FUEL R x ke r ((it39_8 FUEL R x ke).trans h)
noncomputable def T39_12 : (R : Type) → HT (le39_12 (G39_12 FUEL)).H → (HT (le39_12 (G39_12 FUEL)).H → Option R) → KT R (le39_12 (G39_12 FUEL)).exs → Option R := fun R x kc ke => p39_12 R x.1 x.2.1 x.2.2.1 x.2.2.2.1 (fun x1 x2 x3 x4 => kc (x1, x2, x3, x4, ())) (fun y1 y2 => ke.1 (y1, y2, ()))
theorem it39_12 : ∀ (n : Nat) (R : Type) (x : HT (le39_12 (G39_12 FUEL)).H) (ke : KT R (le39_12 (G39_12 FUEL)).exs), iter T39_12 n R x ke = G39_12 n R x.1 x.2.1 x.2.2.1 x.2.2.2.1 (fun y1 y2 => ke.1 (y1, y2, ())) := by
  intro n
  induction n with
  | zero => intro R x ke; rfl
  | succ n ih =>
    intro R x ke
    show T39_12 R x (fun x' => iter T39_12 n R x' ke) ke = _
    rw [show (fun x' => iter T39_12 n R x' ke) = fun x => G39_12 n R x.1 x.2.1 x.2.2.1 x.2.2.2.1 (fun y1 y2 => ke.1 (y1, y2, ())) from funext fun x' => ih R x' ke]
    rfl
theorem lok39_12 : (le39_12 (G39_12 FUEL)).OK Try.prog 0 49 (lcode 12 (codeOf Try.f39)) := fun R x ke r h =>
  iter_sound (fun R => e39 F70 F74 (G39_3 FUEL) (G39_8 FUEL) (G39_12 FUEL) R) 0 49 (fun _ => rfl) (fun _ => rfl) (fun R => env39 R) mixed (by
    intro R
    rw [show loopsOf (lcode 12 (codeOf Try.f39)) = [] from by kernel_rfl]
    exact allM_nil) (T := T39_12) (fun R x kc ke => q39_12 F70 F74 (G39_3 FUEL) (G39_8 FUEL) (G39_12 FUEL) R x kc ke) FUEL R x ke r ((it39_12 FUEL R x ke).trans h)
theorem ok39 : (en39 F39).OK Try.prog :=
  ent_ok (Ef := fun R => e39 F70 F74 (G39_3 FUEL) (G39_8 FUEL) (G39_12 FUEL) R) (fun R => env39 R) mixed Try.func39 (body := codeOf Try.f39) (by kernel_rfl) (by kernel_rfl) (np := 0) (nt := 49) (fun _ => rfl) (fun _ => rfl) (by kernel_rfl) (res := res39) (by kernel_rfl) (fun _ => rfl) (fun _ => Nat.le_of_ble_eq_true rfl) (by
    intro R
    rw [show loopsOf (codeOf Try.f39) = [lcode 3 (codeOf Try.f39), lcode 8 (codeOf Try.f39), lcode 12 (codeOf Try.f39)] from by kernel_rfl]
    exact (allM_cons (loop_ok2 (e := le39_3 (G39_3 FUEL)) rfl rfl lok39_3) (allM_cons (loop_ok2 (e := le39_8 (G39_8 FUEL)) rfl rfl lok39_8) (allM_cons (loop_ok2 (e := le39_12 (G39_12 FUEL)) rfl rfl lok39_12) allM_nil)))) (fun R x k => q39 F70 F74 (G39_3 FUEL) (G39_8 FUEL) (G39_12 FUEL) F39 R x k)
/-! drawlot/drawlotref06.pow -/
abbrev FT75 : Type 1 := (R : Type) → Int → (Int → Option R) → Option R
def en75 (F : FT75) : Ent := ⟨75, [(false, (.int .u64))], [(false, (.int .u64))], fun R x k => F R x.1 (fun y1 => k (y1, ()) ())⟩
def res75 : List (ResultVar × TypeId × Bool) := [(.tmp 2, 38, false)]
abbrev LT75_3 : Type 1 := (R : Type) → Int → Int → Int → (Int → Option R) → Option R
def le75_3 (L : LT75_3) : LEnt := ⟨3, [.val 0 (.int .u64), .val 3 (.int .u64), .val 4 (.int .u64)], 0, [(.exit 0, [.val 3 (.int .u64)])], fun R x ke => L R x.1 x.2.1 x.2.2.1 (fun y1 => ke.1 (y1, ()))⟩
def e75 (L3 : LT75_3) (R : Type) : Env R := ⟨TT, EQT, 0, 13, ownOf [], callOf [] R, loopOf [le75_3 L3] R⟩
def p75_3 : (R : Type) → Int → Int → Int → (Int → Int → Int → Option R) → (Int → Option R) → Option R := fun R x1 x2 x3 kc k0 =>
let v4 : Bool := (decide (x3 < x1));
(match v4 with
| true => let v5 : Int := (IntKind.u64.wrap ((2 : Int) * x2));
let v6 : Int := (IntKind.u64.wrap (x3 + (1 : Int)));
kc x1 v5 v6
| false => k0 x2)
theorem q75_3 (L3 : LT75_3) (R : Type) (x : HT (le75_3 L3).H) (kc : HT (le75_3 L3).H → Option R) (ke : KT R (le75_3 L3).exs) :
  exec (e75 L3 R) (lcode 3 (codeOf Try.f75)) (stOf (le75_3 L3).H x 0) (roundK (le75_3 L3).H (le75_3 L3).exs kc ke) =
    p75_3 R x.1 x.2.1 x.2.2.1 (fun x1 x2 x3 => kc (x1, x2, x3, ())) (fun y1 => ke.1 (y1, ())) := by kernel_rfl
noncomputable def G75_3 : Nat → LT75_3
  | 0 => fun _ _ _ _ _ => none
  | n + 1 => fun R x1 x2 x3 k0 => p75_3 R x1 x2 x3 (fun x1 x2 x3 => G75_3 n R x1 x2 x3 k0) k0
def p75 (L3 : LT75_3) : FT75 := fun R a0 k =>
L3 R a0 (1 : Int) (0 : Int) (fun x1 =>
k x1)
theorem q75 (L3 : LT75_3) (F : FT75) (R : Type) (x : AT (en75 F).ins) (k : RT (en75 F).outs → PT (en75 F).ins → Option R) :
  xfun (e75 L3 R) (codeOf Try.f75) res75 (avs (en75 F).ins x) (finK (en75 F).outs (en75 F).ins k) = p75 L3 R x.1 (fun y1 => k (y1, ()) ()) := by kernel_rfl
noncomputable def F75 : FT75 := p75 (G75_3 FUEL)
theorem env75 (R : Type) : EnvOK Try.prog (e75 (G75_3 FUEL) R) := ⟨tabOK, eqOK, callOf_ok allE_nil⟩
noncomputable def T75_3 : (R : Type) → HT (le75_3 (G75_3 FUEL)).H → (HT (le75_3 (G75_3 FUEL)).H → Option R) → KT R (le75_3 (G75_3 FUEL)).exs → Option R := fun R x kc ke => p75_3 R x.1 x.2.1 x.2.2.1 (fun x1 x2 x3 => kc (x1, x2, x3, ())) (fun y1 => ke.1 (y1, ()))
theorem it75_3 : ∀ (n : Nat) (R : Type) (x : HT (le75_3 (G75_3 FUEL)).H) (ke : KT R (le75_3 (G75_3 FUEL)).exs), iter T75_3 n R x ke = G75_3 n R x.1 x.2.1 x.2.2.1 (fun y1 => ke.1 (y1, ())) := by
  intro n
  induction n with
  | zero => intro R x ke; rfl
  | succ n ih =>
    intro R x ke
    show T75_3 R x (fun x' => iter T75_3 n R x' ke) ke = _
    rw [show (fun x' => iter T75_3 n R x' ke) = fun x => G75_3 n R x.1 x.2.1 x.2.2.1 (fun y1 => ke.1 (y1, ())) from funext fun x' => ih R x' ke]
    rfl
theorem lok75_3 : (le75_3 (G75_3 FUEL)).OK Try.prog 0 13 (lcode 3 (codeOf Try.f75)) := fun R x ke r h =>
  iter_sound (fun R => e75 (G75_3 FUEL) R) 0 13 (fun _ => rfl) (fun _ => rfl) (fun R => env75 R) mixed (by
    intro R
    rw [show loopsOf (lcode 3 (codeOf Try.f75)) = [] from by kernel_rfl]
    exact allM_nil) (T := T75_3) (fun R x kc ke => q75_3 (G75_3 FUEL) R x kc ke) FUEL R x ke r ((it75_3 FUEL R x ke).trans h)
theorem ok75 : (en75 F75).OK Try.prog :=
  ent_ok (Ef := fun R => e75 (G75_3 FUEL) R) (fun R => env75 R) mixed Try.func75 (body := codeOf Try.f75) (by kernel_rfl) (by kernel_rfl) (np := 0) (nt := 13) (fun _ => rfl) (fun _ => rfl) (by kernel_rfl) (res := res75) (by kernel_rfl) (fun _ => rfl) (fun _ => Nat.le_of_ble_eq_true rfl) (by
    intro R
    rw [show loopsOf (codeOf Try.f75) = [lcode 3 (codeOf Try.f75)] from by kernel_rfl]
    exact (allM_cons (loop_ok2 (e := le75_3 (G75_3 FUEL)) rfl rfl lok75_3) allM_nil)) (fun R x k => q75 (G75_3 FUEL) F75 R x k)
/-! drawlot/drawlotref06.Bit -/
abbrev FT41 : Type 1 := (R : Type) → (List Int) → Int → Int → (Int → Option R) → Option R
def en41 (F : FT41) : Ent := ⟨41, [(false, (.arr 32 (.int .u8))), (false, (.int .u64)), (false, (.int .u64))], [(false, (.int .u64))], fun R x k => F R x.1 x.2.1 x.2.2.1 (fun y1 => k (y1, ()) ())⟩
def res41 : List (ResultVar × TypeId × Bool) := [(.tmp 6, 38, false)]
def e41 (F39 : FT39) (F75 : FT75) (R : Type) : Env R := ⟨TT, EQT, 0, 25, ownOf [], callOf [en39 F39, en75 F75] R, loopOf [] R⟩
def p41 (F39 : FT39) (F75 : FT75) : FT41 := fun R a0 a1 a2 k =>
let v1 : Int := (IntKind.u64.wrap (Int.tdiv a2 (256 : Int)));
F39 R a0 a1 v1 fun y2 =>
let v3 : Int := (Int.tmod a2 (256 : Int));
let v4 : Int := (IntKind.u64.wrap (Int.tdiv v3 (8 : Int)));
(match (bnd v4 (32 : Int)) with
| true => let v5 : Int := (List.getD y2 (Int.toNat v4) (0 : Int));
let v6 : Int := (IntKind.u64.wrap v5);
let v7 : Int := (Int.tmod a2 (8 : Int));
let v8 : Int := (IntKind.u64.wrap ((7 : Int) - v7));
F75 R v8 fun y9 =>
(match (!(y9 == 0)) with
| true => let v10 : Int := (IntKind.u64.wrap (Int.tdiv v6 y9));
let v11 : Int := (Int.tmod v10 (2 : Int));
k v11
| false => none)
| false => none)
theorem q41 (F39 : FT39) (F75 : FT75) (F : FT41) (R : Type) (x : AT (en41 F).ins) (k : RT (en41 F).outs → PT (en41 F).ins → Option R) :
  xfun (e41 F39 F75 R) (codeOf Try.f41) res41 (avs (en41 F).ins x) (finK (en41 F).outs (en41 F).ins k) = p41 F39 F75 R x.1 x.2.1 x.2.2.1 (fun y1 => k (y1, ()) ()) := by kernel_rfl
noncomputable def F41 : FT41 := p41 F39 F75
theorem env41 (R : Type) : EnvOK Try.prog (e41 F39 F75 R) := ⟨tabOK, eqOK, callOf_ok (allE_cons ok39 (allE_cons ok75 allE_nil))⟩
theorem ok41 : (en41 F41).OK Try.prog :=
  ent_ok (Ef := fun R => e41 F39 F75 R) (fun R => env41 R) mixed Try.func41 (body := codeOf Try.f41) (by kernel_rfl) (by kernel_rfl) (np := 0) (nt := 25) (fun _ => rfl) (fun _ => rfl) (by kernel_rfl) (res := res41) (by kernel_rfl) (fun _ => rfl) (fun _ => Nat.le_of_ble_eq_true rfl) (by
    intro R
    rw [show loopsOf (codeOf Try.f41) = [] from by kernel_rfl]
    exact allM_nil) (fun R x k => q41 F39 F75 F41 R x k)
/-! drawlot/drawlotlaw06.StreamBlocks -/
abbrev FT9 : Type 1 := (R : Type) → (List Int) → Int → Int → (Bool → Option R) → Option R
def en9 (F : FT9) : Ent := ⟨9, [(false, (.arr 32 (.int .u8))), (false, (.int .u64)), (false, (.int .u64))], [(false, .bool)], fun R x k => F R x.1 x.2.1 x.2.2.1 (fun y1 => k (y1, ()) ())⟩
def res9 : List (ResultVar × TypeId × Bool) := [(.tmp 6, 4, false)]
def e9 (F37 : FT37) (F38 : FT38) (F39 : FT39) (F40 : FT40) (F41 : FT41) (R : Type) : Env R := ⟨TT, EQT, 0, 29, ownOf [], callOf [en37 F37, en38 F38, en39 F39, en40 F40, en41 F41] R, loopOf [] R⟩
def p9 (F37 : FT37) (F38 : FT38) (F39 : FT39) (F40 : FT40) (F41 : FT41) : FT9 := fun R a0 a1 a2 k =>
F37 R  fun y1 =>
(match (!y1) with
| true => k false
| false => F38 R a0 a1 a2 fun y2 =>
F39 R a0 a1 a2 fun y3 =>
let v4 : Bool := (Kd.eqv (.arr 32 (.int .u8)) y2 y3);
(match v4 with
| true => F40 R a0 a1 a2 fun y5 =>
F41 R a0 a1 a2 fun y6 =>
let v7 : Bool := (y5 == y6);
k v7
| false => k false))
theorem q9 (F37 : FT37) (F38 : FT38) (F39 : FT39) (F40 : FT40) (F41 : FT41) (F : FT9) (R : Type) (x : AT (en9 F).ins) (k : RT (en9 F).outs → PT (en9 F).ins → Option R) :
  xfun (e9 F37 F38 F39 F40 F41 R) (codeOf Try.f9) res9 (avs (en9 F).ins x) (finK (en9 F).outs (en9 F).ins k) = p9 F37 F38 F39 F40 F41 R x.1 x.2.1 x.2.2.1 (fun y1 => k (y1, ()) ()) := by kernel_rfl
noncomputable def F9 : FT9 := p9 F37 F38 F39 F40 F41
theorem env9 (R : Type) : EnvOK Try.prog (e9 F37 F38 F39 F40 F41 R) := ⟨tabOK, eqOK, callOf_ok (allE_cons ok37 (allE_cons ok38 (allE_cons ok39 (allE_cons ok40 (allE_cons ok41 allE_nil)))))⟩
theorem ok9 : (en9 F9).OK Try.prog :=
  ent_ok (Ef := fun R => e9 F37 F38 F39 F40 F41 R) (fun R => env9 R) mixed Try.func9 (body := codeOf Try.f9) (by kernel_rfl) (by kernel_rfl) (np := 0) (nt := 29) (fun _ => rfl) (fun _ => rfl) (by kernel_rfl) (res := res9) (by kernel_rfl) (fun _ => rfl) (fun _ => Nat.le_of_ble_eq_true rfl) (by
    intro R
    rw [show loopsOf (codeOf Try.f9) = [] from by kernel_rfl]
    exact allM_nil) (fun R x k => q9 F37 F38 F39 F40 F41 F9 R x k)
/-! drawlot/drawlotref06.Bytes -/
abbrev FT43 : Type 1 := (R : Type) → (List Int) → Int → Int → ((List Int) → Option R) → Option R
def en43 (F : FT43) : Ent := ⟨43, [(false, (.arr 32 (.int .u8))), (false, (.int .u64)), (false, (.int .i64))], [(false, (.sl (.int .u8)))], fun R x k => F R x.1 x.2.1 x.2.2.1 (fun y1 => k (y1, ()) ())⟩
def res43 : List (ResultVar × TypeId × Bool) := [(.tmp 6, 46, false)]
abbrev LT43_5 : Type 1 := (R : Type) → Int → Int → Int → (List Int) → (List Int) → ((List Int) → Option R) → Option R
def le43_5 (L : LT43_5) : LEnt := ⟨5, [.val 1 (.int .u64), .val 2 (.int .i64), .fix 3 (.ptr 0 [] (.arr 32 (.int .u8))), .fix 7 (.own 1 0), .val 8 (.int .i64), .var 0 (.arr 32 (.int .u8)) false, .row 1 (.int .u8) false], 2, [(.exit 0, [.fix 7 (.own 1 0), .row 1 (.int .u8) false])], fun R x ke => L R x.1 x.2.1 x.2.2.1 x.2.2.2.1 x.2.2.2.2.1 (fun y1 => ke.1 (y1, ()))⟩
abbrev LT43_9 : Type 1 := (R : Type) → Int → Int → Int → Int → (List Int) → (List Int) → (List Int) → (Int → Int → Int → (List Int) → (List Int) → Option R) → Option R
def le43_9 (L : LT43_9) : LEnt := ⟨9, [.val 1 (.int .u64), .val 2 (.int .i64), .fix 3 (.ptr 0 [] (.arr 32 (.int .u8))), .fix 7 (.own 1 0), .val 8 (.int .i64), .fix 9 (.ptr 2 [] (.arr 32 (.int .u8))), .val 10 (.int .i64), .var 0 (.arr 32 (.int .u8)) false, .row 1 (.int .u8) false, .var 2 (.arr 32 (.int .u8)) false], 3, [(.exit 2, [.val 1 (.int .u64), .val 2 (.int .i64), .fix 3 (.ptr 0 [] (.arr 32 (.int .u8))), .fix 7 (.own 1 0), .val 8 (.int .i64), .var 0 (.arr 32 (.int .u8)) false, .row 1 (.int .u8) false])], fun R x ke => L R x.1 x.2.1 x.2.2.1 x.2.2.2.1 x.2.2.2.2.1 x.2.2.2.2.2.1 x.2.2.2.2.2.2.1 (fun y1 y2 y3 y4 y5 => ke.1 (y1, y2, y3, y4, y5, ()))⟩
def e43 (F39 : FT39) (L5 : LT43_5) (L9 : LT43_9) (R : Type) : Env R := ⟨TT, EQT, 0, 45, ownOf [(3, 0)], callOf [en39 F39] R, loopOf [le43_5 L5, le43_9 L9] R⟩
def p43_9 : (R : Type) → Int → Int → Int → Int → (List Int) → (List Int) → (List Int) → (Int → Int → Int → Int → (List Int) → (List Int) → (List Int) → Option R) → (Int → Int → Int → (List Int) → (List Int) → Option R) → Option R := fun R x1 x2 x3 x4 x5 x6 x7 kc k0 =>
let v8 : Bool := (decide (x4 < (32 : Int)));
(match v8 with
| true => let v9 : Int := (List.length x6 : Int);
let v10 : Bool := (decide (v9 < x2));
(match v10 with
| true => (match (bnd x4 (32 : Int)) with
| true => let v11 : Int := (List.getD x7 (Int.toNat x4) (0 : Int));
let v12 : (List Int) := ([v11] : (List Int));
(match (decide (List.length x6 + List.length v12 ≤ 140737488355328)) with
| true => let v13 : (List Int) := (x6 ++ v12);
let v14 : Int := (IntKind.i64.wrap (x4 + (1 : Int)));
kc x1 x2 x3 v14 x5 v13 x7
| false => none)
| false => none)
| false => k0 x1 x2 x3 x5 x6)
| false => k0 x1 x2 x3 x5 x6)
theorem q43_9 (F39 : FT39) (L5 : LT43_5) (L9 : LT43_9) (R : Type) (x : HT (le43_9 L9).H) (kc : HT (le43_9 L9).H → Option R) (ke : KT R (le43_9 L9).exs) :
  exec (e43 F39 L5 L9 R) (lcode 9 (codeOf Try.f43)) (stOf (le43_9 L9).H x 3) (roundK (le43_9 L9).H (le43_9 L9).exs kc ke) =
    p43_9 R x.1 x.2.1 x.2.2.1 x.2.2.2.1 x.2.2.2.2.1 x.2.2.2.2.2.1 x.2.2.2.2.2.2.1 (fun x1 x2 x3 x4 x5 x6 x7 => kc (x1, x2, x3, x4, x5, x6, x7, ())) (fun y1 y2 y3 y4 y5 => ke.1 (y1, y2, y3, y4, y5, ())) := by kernel_rfl
noncomputable def G43_9 : Nat → LT43_9
  | 0 => fun _ _ _ _ _ _ _ _ _ => none
  | n + 1 => fun R x1 x2 x3 x4 x5 x6 x7 k0 => p43_9 R x1 x2 x3 x4 x5 x6 x7 (fun x1 x2 x3 x4 x5 x6 x7 => G43_9 n R x1 x2 x3 x4 x5 x6 x7 k0) k0
def p43_5 (F39 : FT39) (L9 : LT43_9) : (R : Type) → Int → Int → Int → (List Int) → (List Int) → (Int → Int → Int → (List Int) → (List Int) → Option R) → ((List Int) → Option R) → Option R := fun R x1 x2 x3 x4 x5 kc k0 =>
let v6 : Int := (List.length x5 : Int);
let v7 : Bool := (decide (v6 < x2));
(match v7 with
| true => let v8 : Int := (IntKind.u64.wrap x3);
F39 R x4 x1 v8 fun y9 =>
L9 R x1 x2 x3 (0 : Int) x4 x5 y9 (fun x10 x11 x12 x13 x14 =>
let v15 : Int := (IntKind.i64.wrap (x12 + (1 : Int)));
kc x10 x11 v15 x13 x14)
| false => k0 x5)
theorem q43_5 (F39 : FT39) (L5 : LT43_5) (L9 : LT43_9) (R : Type) (x : HT (le43_5 L5).H) (kc : HT (le43_5 L5).H → Option R) (ke : KT R (le43_5 L5).exs) :
  exec (e43 F39 L5 L9 R) (lcode 5 (codeOf Try.f43)) (stOf (le43_5 L5).H x 2) (roundK (le43_5 L5).H (le43_5 L5).exs kc ke) =
    p43_5 F39 L9 R x.1 x.2.1 x.2.2.1 x.2.2.2.1 x.2.2.2.2.1 (fun x1 x2 x3 x4 x5 => kc (x1, x2, x3, x4, x5, ())) (fun y1 => ke.1 (y1, ())) := by kernel_rfl
noncomputable def G43_5 : Nat → LT43_5
  | 0 => fun _ _ _ _ _ _ _ => none
  | n + 1 => fun R x1 x2 x3 x4 x5 k0 => p43_5 F39 (G43_9 FUEL) R x1 x2 x3 x4 x5 (fun x1 x2 x3 x4 x5 => G43_5 n R x1 x2 x3 x4 x5 k0) k0
def p43 (L5 : LT43_5) : FT43 := fun R a0 a1 a2 k =>
let v1 : Bool := (decide (a2 < (0 : Int)));
(match v1 with
| true => k ([] : (List Int))
| false => let v2 : Bool := (decide (a2 > (4096 : Int)));
(match v2 with
| true => k ([] : (List Int))
| false => L5 R a1 a2 (0 : Int) a0 ([] : (List Int)) (fun x3 =>
k x3)))
theorem q43 (F39 : FT39) (L5 : LT43_5) (L9 : LT43_9) (F : FT43) (R : Type) (x : AT (en43 F).ins) (k : RT (en43 F).outs → PT (en43 F).ins → Option R) :
  xfun (e43 F39 L5 L9 R) (codeOf Try.f43) res43 (avs (en43 F).ins x) (finK (en43 F).outs (en43 F).ins k) = p43 L5 R x.1 x.2.1 x.2.2.1 (fun y1 => k (y1, ()) ()) := by kernel_rfl
noncomputable def F43 : FT43 := p43 (G43_5 FUEL)
theorem env43 (R : Type) : EnvOK Try.prog (e43 F39 (G43_5 FUEL) (G43_9 FUEL) R) := ⟨tabOK, eqOK, callOf_ok (allE_cons ok39 allE_nil)⟩
noncomputable def T43_9 : (R : Type) → HT (le43_9 (G43_9 FUEL)).H → (HT (le43_9 (G43_9 FUEL)).H → Option R) → KT R (le43_9 (G43_9 FUEL)).exs → Option R := fun R x kc ke => p43_9 R x.1 x.2.1 x.2.2.1 x.2.2.2.1 x.2.2.2.2.1 x.2.2.2.2.2.1 x.2.2.2.2.2.2.1 (fun x1 x2 x3 x4 x5 x6 x7 => kc (x1, x2, x3, x4, x5, x6, x7, ())) (fun y1 y2 y3 y4 y5 => ke.1 (y1, y2, y3, y4, y5, ()))
theorem it43_9 : ∀ (n : Nat) (R : Type) (x : HT (le43_9 (G43_9 FUEL)).H) (ke : KT R (le43_9 (G43_9 FUEL)).exs), iter T43_9 n R x ke = G43_9 n R x.1 x.2.1 x.2.2.1 x.2.2.2.1 x.2.2.2.2.1 x.2.2.2.2.2.1 x.2.2.2.2.2.2.1 (fun y1 y2 y3 y4 y5 => ke.1 (y1, y2, y3, y4, y5, ())) := by
  intro n
  induction n with
  | zero => intro R x ke; rfl
  | succ n ih =>
    intro R x ke
    show T43_9 R x (fun x' => iter T43_9 n R x' ke) ke = _
    rw [show (fun x' => iter T43_9 n R x' ke) = fun x => G43_9 n R x.1 x.2.1 x.2.2.1 x.2.2.2.1 x.2.2.2.2.1 x.2.2.2.2.2.1 x.2.2.2.2.2.2.1 (fun y1 y2 y3 y4 y5 => ke.1 (y1, y2, y3, y4, y5, ())) from funext fun x' => ih R x' ke]
    rfl
theorem lok43_9 : (le43_9 (G43_9 FUEL)).OK Try.prog 0 45 (lcode 9 (codeOf Try.f43)) := fun R x ke r h =>
  iter_sound (fun R => e43 F39 (G43_5 FUEL) (G43_9 FUEL) R) 0 45 (fun _ => rfl) (fun _ => rfl) (fun R => env43 R) mixed (by
    intro R
    rw [show loopsOf (lcode 9 (codeOf Try.f43)) = [] from by kernel_rfl]
    exact allM_nil) (T := T43_9) (fun R x kc ke => q43_9 F39 (G43_5 FUEL) (G43_9 FUEL) R x kc ke) FUEL R x ke r ((it43_9 FUEL R x ke).trans h)
noncomputable def T43_5 : (R : Type) → HT (le43_5 (G43_5 FUEL)).H → (HT (le43_5 (G43_5 FUEL)).H → Option R) → KT R (le43_5 (G43_5 FUEL)).exs → Option R := fun R x kc ke => p43_5 F39 (G43_9 FUEL) R x.1 x.2.1 x.2.2.1 x.2.2.2.1 x.2.2.2.2.1 (fun x1 x2 x3 x4 x5 => kc (x1, x2, x3, x4, x5, ())) (fun y1 => ke.1 (y1, ()))
theorem it43_5 : ∀ (n : Nat) (R : Type) (x : HT (le43_5 (G43_5 FUEL)).H) (ke : KT R (le43_5 (G43_5 FUEL)).exs), iter T43_5 n R x ke = G43_5 n R x.1 x.2.1 x.2.2.1 x.2.2.2.1 x.2.2.2.2.1 (fun y1 => ke.1 (y1, ())) := by
  intro n
  induction n with
  | zero => intro R x ke; rfl
  | succ n ih =>
    intro R x ke
    show T43_5 R x (fun x' => iter T43_5 n R x' ke) ke = _
    rw [show (fun x' => iter T43_5 n R x' ke) = fun x => G43_5 n R x.1 x.2.1 x.2.2.1 x.2.2.2.1 x.2.2.2.2.1 (fun y1 => ke.1 (y1, ())) from funext fun x' => ih R x' ke]
    rfl
theorem lok43_5 : (le43_5 (G43_5 FUEL)).OK Try.prog 0 45 (lcode 5 (codeOf Try.f43)) := fun R x ke r h =>
  iter_sound (fun R => e43 F39 (G43_5 FUEL) (G43_9 FUEL) R) 0 45 (fun _ => rfl) (fun _ => rfl) (fun R => env43 R) mixed (by
    intro R
    rw [show loopsOf (lcode 5 (codeOf Try.f43)) = [lcode 9 (codeOf Try.f43)] from by kernel_rfl]
    exact (allM_cons (loop_ok2 (e := le43_9 (G43_9 FUEL)) rfl rfl lok43_9) allM_nil)) (T := T43_5) (fun R x kc ke => q43_5 F39 (G43_5 FUEL) (G43_9 FUEL) R x kc ke) FUEL R x ke r ((it43_5 FUEL R x ke).trans h)
theorem ok43 : (en43 F43).OK Try.prog :=
  ent_ok (Ef := fun R => e43 F39 (G43_5 FUEL) (G43_9 FUEL) R) (fun R => env43 R) mixed Try.func43 (body := codeOf Try.f43) (by kernel_rfl) (by kernel_rfl) (np := 0) (nt := 45) (fun _ => rfl) (fun _ => rfl) (by kernel_rfl) (res := res43) (by kernel_rfl) (fun _ => rfl) (fun _ => Nat.le_of_ble_eq_true rfl) (by
    intro R
    rw [show loopsOf (codeOf Try.f43) = [lcode 5 (codeOf Try.f43)] from by kernel_rfl]
    exact (allM_cons (loop_ok2 (e := le43_5 (G43_5 FUEL)) rfl rfl lok43_5) allM_nil)) (fun R x k => q43 F39 (G43_5 FUEL) (G43_9 FUEL) F43 R x k)
/-! drawlot/drawlotlaw06.StreamBytes -/
abbrev FT10 : Type 1 := (R : Type) → (List Int) → Int → Int → (Bool → Option R) → Option R
def en10 (F : FT10) : Ent := ⟨10, [(false, (.arr 32 (.int .u8))), (false, (.int .u64)), (false, (.int .i64))], [(false, .bool)], fun R x k => F R x.1 x.2.1 x.2.2.1 (fun y1 => k (y1, ()) ())⟩
def res10 : List (ResultVar × TypeId × Bool) := [(.tmp 6, 4, false)]
def e10 (F37 : FT37) (F42 : FT42) (F43 : FT43) (R : Type) : Env R := ⟨TT, EQT, 0, 26, ownOf [], callOf [en37 F37, en42 F42, en43 F43] R, loopOf [] R⟩
def p10 (F37 : FT37) (F42 : FT42) (F43 : FT43) : FT10 := fun R a0 a1 a2 k =>
F37 R  fun y1 =>
(match (!y1) with
| true => k false
| false => let v2 : Bool := (decide (a2 > (600 : Int)));
(match v2 with
| true => let v3 : Bool := (decide (a2 ≤ (4096 : Int)));
(match v3 with
| true => k true
| false => F42 R a0 a1 a2 fun y4 =>
let v5 : ByteArray := (strOf y4);
F43 R a0 a1 a2 fun y6 =>
let v7 : ByteArray := (strOf y6);
let v8 : Bool := (ByteArray.toList v5 == ByteArray.toList v7);
k v8)
| false => F42 R a0 a1 a2 fun y9 =>
let v10 : ByteArray := (strOf y9);
F43 R a0 a1 a2 fun y11 =>
let v12 : ByteArray := (strOf y11);
let v13 : Bool := (ByteArray.toList v10 == ByteArray.toList v12);
k v13))
theorem q10 (F37 : FT37) (F42 : FT42) (F43 : FT43) (F : FT10) (R : Type) (x : AT (en10 F).ins) (k : RT (en10 F).outs → PT (en10 F).ins → Option R) :
  xfun (e10 F37 F42 F43 R) (codeOf Try.f10) res10 (avs (en10 F).ins x) (finK (en10 F).outs (en10 F).ins k) = p10 F37 F42 F43 R x.1 x.2.1 x.2.2.1 (fun y1 => k (y1, ()) ()) := by kernel_rfl
noncomputable def F10 : FT10 := p10 F37 F42 F43
theorem env10 (R : Type) : EnvOK Try.prog (e10 F37 F42 F43 R) := ⟨tabOK, eqOK, callOf_ok (allE_cons ok37 (allE_cons ok42 (allE_cons ok43 allE_nil)))⟩
theorem ok10 : (en10 F10).OK Try.prog :=
  ent_ok (Ef := fun R => e10 F37 F42 F43 R) (fun R => env10 R) mixed Try.func10 (body := codeOf Try.f10) (by kernel_rfl) (by kernel_rfl) (np := 0) (nt := 26) (fun _ => rfl) (fun _ => rfl) (by kernel_rfl) (res := res10) (by kernel_rfl) (fun _ => rfl) (fun _ => Nat.le_of_ble_eq_true rfl) (by
    intro R
    rw [show loopsOf (codeOf Try.f10) = [] from by kernel_rfl]
    exact allM_nil) (fun R x k => q10 F37 F42 F43 F10 R x k)
/-! drawlot/drawlotref06.Domain -/
abbrev FT46 : Type 1 := (R : Type) → Int → Int → (Int → Option R) → Option R
def en46 (F : FT46) : Ent := ⟨46, [(false, (.int .u32)), (false, (.int .u32))], [(false, (.int .u64))], fun R x k => F R x.1 x.2.1 (fun y1 => k (y1, ()) ())⟩
def res46 : List (ResultVar × TypeId × Bool) := [(.tmp 4, 38, false)]
def e46 (R : Type) : Env R := ⟨TT, EQT, 0, 11, ownOf [], callOf [] R, loopOf [] R⟩
def p46 : FT46 := fun R a0 a1 k =>
let v1 : Int := (IntKind.u64.wrap a0);
let v2 : Int := (IntKind.u64.wrap (v1 * (4294967296 : Int)));
let v3 : Int := (IntKind.u64.wrap a1);
let v4 : Int := (IntKind.u64.wrap (v2 + v3));
k v4
theorem q46 (F : FT46) (R : Type) (x : AT (en46 F).ins) (k : RT (en46 F).outs → PT (en46 F).ins → Option R) :
  xfun (e46 R) (codeOf Try.f46) res46 (avs (en46 F).ins x) (finK (en46 F).outs (en46 F).ins k) = p46 R x.1 x.2.1 (fun y1 => k (y1, ()) ()) := by kernel_rfl
noncomputable def F46 : FT46 := p46
theorem env46 (R : Type) : EnvOK Try.prog (e46 R) := ⟨tabOK, eqOK, callOf_ok allE_nil⟩
theorem ok46 : (en46 F46).OK Try.prog :=
  ent_ok (Ef := fun R => e46 R) (fun R => env46 R) mixed Try.func46 (body := codeOf Try.f46) (by kernel_rfl) (by kernel_rfl) (np := 0) (nt := 11) (fun _ => rfl) (fun _ => rfl) (by kernel_rfl) (res := res46) (by kernel_rfl) (fun _ => rfl) (fun _ => Nat.le_of_ble_eq_true rfl) (by
    intro R
    rw [show loopsOf (codeOf Try.f46) = [] from by kernel_rfl]
    exact allM_nil) (fun R x k => q46 F46 R x k)
/-! drawlot/drawlotlaw06.StreamDomains -/
abbrev FT11 : Type 1 := (R : Type) → (List Int) → (List Int) → (Bool → Option R) → Option R
def en11 (F : FT11) : Ent := ⟨11, [(false, (.arr 2 (.int .u32))), (false, (.arr 2 (.int .u32)))], [(false, .bool)], fun R x k => F R x.1 x.2.1 (fun y1 => k (y1, ()) ())⟩
def res11 : List (ResultVar × TypeId × Bool) := [(.tmp 4, 4, false)]
def e11 (F37 : FT37) (F44 : FT44) (F45 : FT45) (F46 : FT46) (R : Type) : Env R := ⟨TT, EQT, 0, 54, ownOf [], callOf [en37 F37, en44 F44, en45 F45, en46 F46] R, loopOf [] R⟩
def p11 (F37 : FT37) (F44 : FT44) (F45 : FT45) (F46 : FT46) : FT11 := fun R a0 a1 k =>
F37 R  fun y1 =>
(match (!y1) with
| true => k false
| false => let v2 : Int := (List.getD a0 0 (0 : Int));
let v3 : Int := (List.getD a0 1 (0 : Int));
F44 R v2 v3 fun y4 =>
let v5 : Int := (List.getD a1 0 (0 : Int));
let v6 : Int := (List.getD a1 1 (0 : Int));
F44 R v5 v6 fun y7 =>
F45 R y4 fun y8 y9 =>
let v10 : Int := (List.getD a0 0 (0 : Int));
let v11 : Int := (List.getD a0 1 (0 : Int));
F46 R v10 v11 fun y12 =>
let v13 : Bool := (y4 == y12);
(match v13 with
| true => let v14 : Int := (List.getD a0 0 (0 : Int));
let v15 : Bool := (y8 == v14);
(match v15 with
| true => let v16 : Int := (List.getD a0 1 (0 : Int));
let v17 : Bool := (y9 == v16);
(match v17 with
| true => let v18 : Bool := (y4 == y7);
let v19 : Bool := (Kd.eqv (.arr 2 (.int .u32)) a0 a1);
let v20 : Bool := (v18 == v19);
k v20
| false => k false)
| false => k false)
| false => k false))
theorem q11 (F37 : FT37) (F44 : FT44) (F45 : FT45) (F46 : FT46) (F : FT11) (R : Type) (x : AT (en11 F).ins) (k : RT (en11 F).outs → PT (en11 F).ins → Option R) :
  xfun (e11 F37 F44 F45 F46 R) (codeOf Try.f11) res11 (avs (en11 F).ins x) (finK (en11 F).outs (en11 F).ins k) = p11 F37 F44 F45 F46 R x.1 x.2.1 (fun y1 => k (y1, ()) ()) := by kernel_rfl
noncomputable def F11 : FT11 := p11 F37 F44 F45 F46
theorem env11 (R : Type) : EnvOK Try.prog (e11 F37 F44 F45 F46 R) := ⟨tabOK, eqOK, callOf_ok (allE_cons ok37 (allE_cons ok44 (allE_cons ok45 (allE_cons ok46 allE_nil))))⟩
theorem ok11 : (en11 F11).OK Try.prog :=
  ent_ok (Ef := fun R => e11 F37 F44 F45 F46 R) (fun R => env11 R) mixed Try.func11 (body := codeOf Try.f11) (by kernel_rfl) (by kernel_rfl) (np := 0) (nt := 54) (fun _ => rfl) (fun _ => rfl) (by kernel_rfl) (res := res11) (by kernel_rfl) (fun _ => rfl) (fun _ => Nat.le_of_ble_eq_true rfl) (by
    intro R
    rw [show loopsOf (codeOf Try.f11) = [] from by kernel_rfl]
    exact allM_nil) (fun R x k => q11 F37 F44 F45 F46 F11 R x k)
/-! drawlot/drawlotlaw06.StreamBits -/
abbrev FT12 : Type 1 := (R : Type) → (List Int) → Int → Int → (Bool → Option R) → Option R
def en12 (F : FT12) : Ent := ⟨12, [(false, (.arr 32 (.int .u8))), (false, (.int .u64)), (false, (.int .u16))], [(false, .bool)], fun R x k => F R x.1 x.2.1 x.2.2.1 (fun y1 => k (y1, ()) ())⟩
def res12 : List (ResultVar × TypeId × Bool) := [(.tmp 6, 4, false)]
def e12 (F37 : FT37) (F40 : FT40) (F42 : FT42) (F47 : FT47) (R : Type) : Env R := ⟨TT, EQT, 0, 48, ownOf [], callOf [en37 F37, en40 F40, en42 F42, en47 F47] R, loopOf [] R⟩
def p12 (F37 : FT37) (F40 : FT40) (F42 : FT42) (F47 : FT47) : FT12 := fun R a0 a1 a2 k =>
F37 R  fun y1 =>
(match (!y1) with
| true => k false
| false => let v2 : Int := (Int.tmod a2 (2000 : Int));
let v3 : Int := (IntKind.u64.wrap v2);
let v4 : Int := (IntKind.u64.wrap (Int.tdiv v3 (8 : Int)));
let v5 : Int := (IntKind.i64.wrap v4);
let v6 : Int := (IntKind.i64.wrap (v5 + (1 : Int)));
F42 R a0 a1 v6 fun y7 =>
let v8 : Int := (List.length y7 : Int);
let v9 : Int := (IntKind.u64.wrap (Int.tdiv v3 (8 : Int)));
let v10 : Int := (IntKind.i64.wrap v9);
let v11 : Int := (IntKind.i64.wrap (v10 + (1 : Int)));
let v12 : Bool := (v8 != v11);
(match v12 with
| true => k false
| false => let v13 : Int := (IntKind.u64.wrap (Int.tdiv v3 (8 : Int)));
(match (bnd v13 (List.length y7 : Int)) with
| true => let v14 : Int := (List.getD y7 (Int.toNat v13) (0 : Int));
let v15 : Int := (IntKind.u32.wrap v14);
let v16 : Int := (Int.tmod v3 (8 : Int));
let v17 : Int := (IntKind.i64.wrap v16);
let v18 : Int := (IntKind.i64.wrap ((7 : Int) - v17));
F47 R v15 v18 fun y19 =>
let v20 : Int := (Int.tmod y19 (2 : Int));
let v21 : Int := (IntKind.u64.wrap v20);
F40 R a0 a1 v3 fun y22 =>
let v23 : Bool := (v21 == y22);
k v23
| false => none)))
theorem q12 (F37 : FT37) (F40 : FT40) (F42 : FT42) (F47 : FT47) (F : FT12) (R : Type) (x : AT (en12 F).ins) (k : RT (en12 F).outs → PT (en12 F).ins → Option R) :
  xfun (e12 F37 F40 F42 F47 R) (codeOf Try.f12) res12 (avs (en12 F).ins x) (finK (en12 F).outs (en12 F).ins k) = p12 F37 F40 F42 F47 R x.1 x.2.1 x.2.2.1 (fun y1 => k (y1, ()) ()) := by kernel_rfl
noncomputable def F12 : FT12 := p12 F37 F40 F42 F47
theorem env12 (R : Type) : EnvOK Try.prog (e12 F37 F40 F42 F47 R) := ⟨tabOK, eqOK, callOf_ok (allE_cons ok37 (allE_cons ok40 (allE_cons ok42 (allE_cons ok47 allE_nil))))⟩
theorem ok12 : (en12 F12).OK Try.prog :=
  ent_ok (Ef := fun R => e12 F37 F40 F42 F47 R) (fun R => env12 R) mixed Try.func12 (body := codeOf Try.f12) (by kernel_rfl) (by kernel_rfl) (np := 0) (nt := 48) (fun _ => rfl) (fun _ => rfl) (by kernel_rfl) (res := res12) (by kernel_rfl) (fun _ => rfl) (fun _ => Nat.le_of_ble_eq_true rfl) (by
    intro R
    rw [show loopsOf (codeOf Try.f12) = [] from by kernel_rfl]
    exact allM_nil) (fun R x k => q12 F37 F40 F42 F47 F12 R x k)
end Go.PG
