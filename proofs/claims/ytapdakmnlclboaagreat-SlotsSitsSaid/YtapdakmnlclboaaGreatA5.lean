/- A part of the proof over this seat (own work; the framework that reads a Go function as a pure one, or a use of it). No condition of its own. -/
import Derived.Test.YtapdakmnlclboaaGreatA4
import Derived.Test.YtapdakmnlclboaaGreatProg
import Derived.KernelRfl
set_option linter.unusedVariables false
set_option linter.unusedSimpArgs false
set_option linter.unusedSectionVars false
set_option maxRecDepth 100000
namespace Go.PG
open Go.Proofs
abbrev Kq1 : Kd := (.pair (.int .u64) (.pair (.int .i64) .unit))
abbrev Tq1 : Type := (Int × (Int × Unit))
abbrev Kq2 : Kd := (.pair (.int .u64) (.pair (.int .u64) .unit))
abbrev Tq2 : Type := (Int × (Int × Unit))
abbrev Kq3 : Kd := (.pair (.arr 32 (.int .u8)) Kq2)
abbrev Tq3 : Type := ((List Int) × Tq2)
abbrev Kq4 : Kd := (.pair (.int .u64) Kq3)
abbrev Tq4 : Type := (Int × Tq3)
abbrev Kq5 : Kd := (.pair (.sl (.int .u8)) Kq4)
abbrev Tq5 : Type := ((List Int) × Tq4)
abbrev Kq6 : Kd := (.pair (.int .i64) Kq5)
abbrev Tq6 : Type := (Int × Tq5)
abbrev Kq7 : Kd := (.pair (.int .u64) (.pair (.sl Kq1) .unit))
abbrev Tq7 : Type := (Int × ((List Tq1) × Unit))
abbrev Kq8 : Kd := (.pair (.sl (.int .u8)) (.pair (.int .u64) .unit))
abbrev Tq8 : Type := ((List Int) × (Int × Unit))
abbrev Kq9 : Kd := (.pair (.arr 8 (.int .u32)) Kq8)
abbrev Tq9 : Type := ((List Int) × Tq8)
abbrev Kq10 : Kd := (.pair Kq9 .unit)
abbrev Tq10 : Type := (Tq9 × Unit)
abbrev Kq11 : Kd := (.pair (.int .u64) (.pair .bool .unit))
abbrev Tq11 : Type := (Int × (Bool × Unit))
abbrev Kq12 : Kd := (.pair (.arr 32 (.int .u8)) Kq11)
abbrev Tq12 : Type := ((List Int) × Tq11)
abbrev Kq13 : Kd := (.pair Kq6 Kq12)
abbrev Tq13 : Type := (Tq6 × Tq12)
abbrev Kq14 : Kd := (.pair (.sl (.int .i64)) (.pair (.sl (.int .i64)) .unit))
abbrev Kq15 : Kd := (.pair (.sl (.int .u64)) Kq14)
abbrev Kq16 : Kd := (.pair Kq7 Kq15)
abbrev Kq17 : Kd := (.pair (.arr 32 (.int .u8)) (.pair (.int .i64) .unit))
abbrev Tq17 : Type := ((List Int) × (Int × Unit))
def TT : Tab := [
  (3, ⟨.int .i64, 1, 8, some (.int .i64)⟩),
  (4, ⟨.bool, 1, 1, some .bool⟩),
  (5, ⟨.int .u8, 1, 1, some (.int .u8)⟩),
  (9, ⟨.string, 1, 16, some .str⟩),
  (22, ⟨.int .u64, 1, 8, some (.int .u64)⟩),
  (23, ⟨.slice 125, 1, 24, some (.sl Kq1)⟩),
  (25, ⟨.struct #[{ name := "Total", type := 22, offset := 0, embedded := false, tag := "", pkgPath := "", byteOffset := 0 }, { name := "Cells", type := 23, offset := 1, embedded := false, tag := "", pkgPath := "", byteOffset := 8 }], 2, 32, some Kq7⟩),
  (26, ⟨.slice 5, 1, 24, some (.sl (.int .u8))⟩),
  (28, ⟨.array 32 5, 32, 32, some (.arr 32 (.int .u8))⟩),
  (30, ⟨.struct #[{ name := "Kind", type := 3, offset := 0, embedded := false, tag := "", pkgPath := "", byteOffset := 0 }, { name := "Tape", type := 26, offset := 1, embedded := false, tag := "", pkgPath := "", byteOffset := 8 }, { name := "Bits", type := 22, offset := 2, embedded := false, tag := "", pkgPath := "", byteOffset := 32 }, { name := "Seed", type := 28, offset := 3, embedded := false, tag := "", pkgPath := "", byteOffset := 40 }, { name := "Domain", type := 22, offset := 35, embedded := false, tag := "", pkgPath := "", byteOffset := 72 }, { name := "At", type := 22, offset := 36, embedded := false, tag := "", pkgPath := "", byteOffset := 80 }], 37, 88, some Kq6⟩),
  (32, ⟨.int .i64, 1, 8, some (.int .i64)⟩),
  (37, ⟨.slice 22, 1, 24, some (.sl (.int .u64))⟩),
  (42, ⟨.slice 3, 1, 24, some (.sl (.int .i64))⟩),
  (49, ⟨.struct #[{ name := "Tree", type := 37, offset := 0, embedded := false, tag := "", pkgPath := "", byteOffset := 0 }], 1, 24, some (.pair (.sl (.int .u64)) .unit)⟩),
  (55, ⟨.array 2 3, 2, 16, some (.arr 2 (.int .i64))⟩),
  (56, ⟨.slice 84, 1, 24, some (.sl (.int .u32))⟩),
  (70, ⟨.array 3 3, 3, 24, some (.arr 3 (.int .i64))⟩),
  (84, ⟨.int .u32, 1, 4, some (.int .u32)⟩),
  (117, ⟨.struct #[{ name := "seed", type := 28, offset := 0, embedded := false, tag := "", pkgPath := "drawlot/slots", byteOffset := 0 }, { name := "attempts", type := 3, offset := 32, embedded := false, tag := "", pkgPath := "drawlot/slots", byteOffset := 32 }], 33, 40, some Kq17⟩),
  (125, ⟨.struct #[{ name := "Cut", type := 22, offset := 0, embedded := false, tag := "", pkgPath := "", byteOffset := 0 }, { name := "Alias", type := 3, offset := 1, embedded := false, tag := "", pkgPath := "", byteOffset := 8 }], 2, 16, some Kq1⟩),
  (132, ⟨.slice 3, 1, 24, some (.sl (.int .i64))⟩),
  (134, ⟨.struct #[{ name := "Table", type := 25, offset := 0, embedded := true, tag := "", pkgPath := "", byteOffset := 0 }, { name := "has", type := 37, offset := 2, embedded := false, tag := "", pkgPath := "drawlot/alias", byteOffset := 32 }, { name := "small", type := 132, offset := 3, embedded := false, tag := "", pkgPath := "drawlot/alias", byteOffset := 56 }, { name := "large", type := 132, offset := 4, embedded := false, tag := "", pkgPath := "drawlot/alias", byteOffset := 80 }], 5, 104, some Kq16⟩),
  (159, ⟨.struct #[{ name := "Source", type := 30, offset := 0, embedded := true, tag := "", pkgPath := "", byteOffset := 0 }, { name := "block", type := 28, offset := 37, embedded := false, tag := "", pkgPath := "drawlot/tape", byteOffset := 88 }, { name := "at", type := 22, offset := 69, embedded := false, tag := "", pkgPath := "drawlot/tape", byteOffset := 120 }, { name := "some", type := 4, offset := 70, embedded := false, tag := "", pkgPath := "drawlot/tape", byteOffset := 128 }], 71, 136, some Kq13⟩),
  (160, ⟨.int .u64, 1, 8, some (.int .u64)⟩),
  (180, ⟨.array 8 5, 8, 8, some (.arr 8 (.int .u8))⟩),
  (184, ⟨.slice 26, 1, 24, some (.sl (.sl (.int .u8)))⟩),
  (186, ⟨.array 8 84, 8, 32, some (.arr 8 (.int .u32))⟩),
  (188, ⟨.struct #[{ name := "State", type := 186, offset := 0, embedded := false, tag := "", pkgPath := "", byteOffset := 0 }, { name := "Rest", type := 26, offset := 8, embedded := false, tag := "", pkgPath := "", byteOffset := 32 }, { name := "Bytes", type := 22, offset := 9, embedded := false, tag := "", pkgPath := "", byteOffset := 56 }], 10, 64, some Kq9⟩),
  (194, ⟨.slice 208, 1, 24, some (.sl (.arr 64 (.int .u8)))⟩),
  (203, ⟨.struct #[{ name := "Writer", type := 188, offset := 0, embedded := true, tag := "", pkgPath := "", byteOffset := 0 }], 10, 64, some Kq10⟩),
  (208, ⟨.array 64 5, 64, 64, some (.arr 64 (.int .u8))⟩),
  (209, ⟨.array 4 5, 4, 4, some (.arr 4 (.int .u8))⟩),
  (213, ⟨.array 64 84, 64, 256, some (.arr 64 (.int .u32))⟩),
  (214, ⟨.array 64 84, 64, 256, some (.arr 64 (.int .u32))⟩)]
def EQT : List Nat := [28]
theorem ty3 : TyOK Tryz.prog TT 3 ⟨.int .i64, 1, 8, some (.int .i64)⟩ := tyOK_of Tryz.underlying3 (by kernel_rfl)
theorem ty4 : TyOK Tryz.prog TT 4 ⟨.bool, 1, 1, some .bool⟩ := tyOK_of Tryz.underlying4 (by kernel_rfl)
theorem ty5 : TyOK Tryz.prog TT 5 ⟨.int .u8, 1, 1, some (.int .u8)⟩ := tyOK_of Tryz.underlying5 (by kernel_rfl)
theorem ty9 : TyOK Tryz.prog TT 9 ⟨.string, 1, 16, some .str⟩ := tyOK_of Tryz.underlying9 (by kernel_rfl)
theorem ty22 : TyOK Tryz.prog TT 22 ⟨.int .u64, 1, 8, some (.int .u64)⟩ := tyOK_of Tryz.underlying22 (by kernel_rfl)
theorem ty23 : TyOK Tryz.prog TT 23 ⟨.slice 125, 1, 24, some (.sl Kq1)⟩ := tyOK_of Tryz.underlying23 (by kernel_rfl)
theorem ty25 : TyOK Tryz.prog TT 25 ⟨.struct #[{ name := "Total", type := 22, offset := 0, embedded := false, tag := "", pkgPath := "", byteOffset := 0 }, { name := "Cells", type := 23, offset := 1, embedded := false, tag := "", pkgPath := "", byteOffset := 8 }], 2, 32, some Kq7⟩ := tyOK_of Tryz.underlying25 (by kernel_rfl)
theorem ty26 : TyOK Tryz.prog TT 26 ⟨.slice 5, 1, 24, some (.sl (.int .u8))⟩ := tyOK_of Tryz.underlying26 (by kernel_rfl)
theorem ty28 : TyOK Tryz.prog TT 28 ⟨.array 32 5, 32, 32, some (.arr 32 (.int .u8))⟩ := tyOK_of Tryz.underlying28 (by kernel_rfl)
theorem ty30 : TyOK Tryz.prog TT 30 ⟨.struct #[{ name := "Kind", type := 3, offset := 0, embedded := false, tag := "", pkgPath := "", byteOffset := 0 }, { name := "Tape", type := 26, offset := 1, embedded := false, tag := "", pkgPath := "", byteOffset := 8 }, { name := "Bits", type := 22, offset := 2, embedded := false, tag := "", pkgPath := "", byteOffset := 32 }, { name := "Seed", type := 28, offset := 3, embedded := false, tag := "", pkgPath := "", byteOffset := 40 }, { name := "Domain", type := 22, offset := 35, embedded := false, tag := "", pkgPath := "", byteOffset := 72 }, { name := "At", type := 22, offset := 36, embedded := false, tag := "", pkgPath := "", byteOffset := 80 }], 37, 88, some Kq6⟩ := tyOK_of Tryz.underlying30 (by kernel_rfl)
theorem ty32 : TyOK Tryz.prog TT 32 ⟨.int .i64, 1, 8, some (.int .i64)⟩ := tyOK_of Tryz.underlying32 (by kernel_rfl)
theorem ty37 : TyOK Tryz.prog TT 37 ⟨.slice 22, 1, 24, some (.sl (.int .u64))⟩ := tyOK_of Tryz.underlying37 (by kernel_rfl)
theorem ty42 : TyOK Tryz.prog TT 42 ⟨.slice 3, 1, 24, some (.sl (.int .i64))⟩ := tyOK_of Tryz.underlying42 (by kernel_rfl)
theorem ty49 : TyOK Tryz.prog TT 49 ⟨.struct #[{ name := "Tree", type := 37, offset := 0, embedded := false, tag := "", pkgPath := "", byteOffset := 0 }], 1, 24, some (.pair (.sl (.int .u64)) .unit)⟩ := tyOK_of Tryz.underlying49 (by kernel_rfl)
theorem ty55 : TyOK Tryz.prog TT 55 ⟨.array 2 3, 2, 16, some (.arr 2 (.int .i64))⟩ := tyOK_of Tryz.underlying55 (by kernel_rfl)
theorem ty56 : TyOK Tryz.prog TT 56 ⟨.slice 84, 1, 24, some (.sl (.int .u32))⟩ := tyOK_of Tryz.underlying56 (by kernel_rfl)
theorem ty70 : TyOK Tryz.prog TT 70 ⟨.array 3 3, 3, 24, some (.arr 3 (.int .i64))⟩ := tyOK_of Tryz.underlying70 (by kernel_rfl)
theorem ty84 : TyOK Tryz.prog TT 84 ⟨.int .u32, 1, 4, some (.int .u32)⟩ := tyOK_of Tryz.underlying84 (by kernel_rfl)
theorem ty117 : TyOK Tryz.prog TT 117 ⟨.struct #[{ name := "seed", type := 28, offset := 0, embedded := false, tag := "", pkgPath := "drawlot/slots", byteOffset := 0 }, { name := "attempts", type := 3, offset := 32, embedded := false, tag := "", pkgPath := "drawlot/slots", byteOffset := 32 }], 33, 40, some Kq17⟩ := tyOK_of Tryz.underlying117 (by kernel_rfl)
theorem ty125 : TyOK Tryz.prog TT 125 ⟨.struct #[{ name := "Cut", type := 22, offset := 0, embedded := false, tag := "", pkgPath := "", byteOffset := 0 }, { name := "Alias", type := 3, offset := 1, embedded := false, tag := "", pkgPath := "", byteOffset := 8 }], 2, 16, some Kq1⟩ := tyOK_of Tryz.underlying125 (by kernel_rfl)
theorem ty132 : TyOK Tryz.prog TT 132 ⟨.slice 3, 1, 24, some (.sl (.int .i64))⟩ := tyOK_of Tryz.underlying132 (by kernel_rfl)
theorem ty134 : TyOK Tryz.prog TT 134 ⟨.struct #[{ name := "Table", type := 25, offset := 0, embedded := true, tag := "", pkgPath := "", byteOffset := 0 }, { name := "has", type := 37, offset := 2, embedded := false, tag := "", pkgPath := "drawlot/alias", byteOffset := 32 }, { name := "small", type := 132, offset := 3, embedded := false, tag := "", pkgPath := "drawlot/alias", byteOffset := 56 }, { name := "large", type := 132, offset := 4, embedded := false, tag := "", pkgPath := "drawlot/alias", byteOffset := 80 }], 5, 104, some Kq16⟩ := tyOK_of Tryz.underlying134 (by kernel_rfl)
theorem ty159 : TyOK Tryz.prog TT 159 ⟨.struct #[{ name := "Source", type := 30, offset := 0, embedded := true, tag := "", pkgPath := "", byteOffset := 0 }, { name := "block", type := 28, offset := 37, embedded := false, tag := "", pkgPath := "drawlot/tape", byteOffset := 88 }, { name := "at", type := 22, offset := 69, embedded := false, tag := "", pkgPath := "drawlot/tape", byteOffset := 120 }, { name := "some", type := 4, offset := 70, embedded := false, tag := "", pkgPath := "drawlot/tape", byteOffset := 128 }], 71, 136, some Kq13⟩ := tyOK_of Tryz.underlying159 (by kernel_rfl)
theorem ty160 : TyOK Tryz.prog TT 160 ⟨.int .u64, 1, 8, some (.int .u64)⟩ := tyOK_of Tryz.underlying160 (by kernel_rfl)
theorem ty180 : TyOK Tryz.prog TT 180 ⟨.array 8 5, 8, 8, some (.arr 8 (.int .u8))⟩ := tyOK_of Tryz.underlying180 (by kernel_rfl)
theorem ty184 : TyOK Tryz.prog TT 184 ⟨.slice 26, 1, 24, some (.sl (.sl (.int .u8)))⟩ := tyOK_of Tryz.underlying184 (by kernel_rfl)
theorem ty186 : TyOK Tryz.prog TT 186 ⟨.array 8 84, 8, 32, some (.arr 8 (.int .u32))⟩ := tyOK_of Tryz.underlying186 (by kernel_rfl)
theorem ty188 : TyOK Tryz.prog TT 188 ⟨.struct #[{ name := "State", type := 186, offset := 0, embedded := false, tag := "", pkgPath := "", byteOffset := 0 }, { name := "Rest", type := 26, offset := 8, embedded := false, tag := "", pkgPath := "", byteOffset := 32 }, { name := "Bytes", type := 22, offset := 9, embedded := false, tag := "", pkgPath := "", byteOffset := 56 }], 10, 64, some Kq9⟩ := tyOK_of Tryz.underlying188 (by kernel_rfl)
theorem ty194 : TyOK Tryz.prog TT 194 ⟨.slice 208, 1, 24, some (.sl (.arr 64 (.int .u8)))⟩ := tyOK_of Tryz.underlying194 (by kernel_rfl)
theorem ty203 : TyOK Tryz.prog TT 203 ⟨.struct #[{ name := "Writer", type := 188, offset := 0, embedded := true, tag := "", pkgPath := "", byteOffset := 0 }], 10, 64, some Kq10⟩ := tyOK_of Tryz.underlying203 (by kernel_rfl)
theorem ty208 : TyOK Tryz.prog TT 208 ⟨.array 64 5, 64, 64, some (.arr 64 (.int .u8))⟩ := tyOK_of Tryz.underlying208 (by kernel_rfl)
theorem ty209 : TyOK Tryz.prog TT 209 ⟨.array 4 5, 4, 4, some (.arr 4 (.int .u8))⟩ := tyOK_of Tryz.underlying209 (by kernel_rfl)
theorem ty213 : TyOK Tryz.prog TT 213 ⟨.array 64 84, 64, 256, some (.arr 64 (.int .u32))⟩ := tyOK_of Tryz.underlying213 (by kernel_rfl)
theorem ty214 : TyOK Tryz.prog TT 214 ⟨.array 64 84, 64, 256, some (.arr 64 (.int .u32))⟩ := tyOK_of Tryz.underlying214 (by kernel_rfl)
theorem tabOK : TabOK Tryz.prog TT := tabOK_of (allM_cons ty3 (allM_cons ty4 (allM_cons ty5 (allM_cons ty9 (allM_cons ty22 (allM_cons ty23 (allM_cons ty25 (allM_cons ty26 (allM_cons ty28 (allM_cons ty30 (allM_cons ty32 (allM_cons ty37 (allM_cons ty42 (allM_cons ty49 (allM_cons ty55 (allM_cons ty56 (allM_cons ty70 (allM_cons ty84 (allM_cons ty117 (allM_cons ty125 (allM_cons ty132 (allM_cons ty134 (allM_cons ty159 (allM_cons ty160 (allM_cons ty180 (allM_cons ty184 (allM_cons ty186 (allM_cons ty188 (allM_cons ty194 (allM_cons ty203 (allM_cons ty208 (allM_cons ty209 (allM_cons ty213 (allM_cons ty214 allM_nil))))))))))))))))))))))))))))))))))
theorem eqOK : ∀ t ∈ EQT, ∀ k, tkd TT t = some k → EqOK Tryz.prog t k := (allM_cons (fun k h => by
    have h' : some ((.arr 32 (.int .u8)) : Kd) = some k := h
    cases h'
    exact eqOK_of tabOK (k := (.arr 32 (.int .u8))) rfl (by kernel_rfl) (by kernel_rfl) (by decide)) allM_nil)
theorem mixed : Tryz.prog.follows .mixedOrders = true := by kernel_rfl
abbrev FT39 : Type 1 := (R : Type) → (List Int) → Int → (Tq6 → Int → Option R) → Option R
def p39 : FT39 := fun R a0 a1 k =>
let v1 : Int := (List.length a0 : Int);
let v2 : Int := (IntKind.u64.wrap v1);
let v3 : Int := (IntKind.u64.wrap ((8 : Int) * v2));
let v4 : Bool := (decide (a1 > v3));
(match v4 with
| true => k ((0 : Int), ([] : (List Int)), (0 : Int), (List.replicate 32 (0 : Int)), (0 : Int), (0 : Int), ()) (1 : Int)
| false => let v5 : (List Int) := ([] : (List Int));
(match (decide (List.length v5 + List.length a0 ≤ 140737488355328)) with
| true => let v6 : (List Int) := (v5 ++ a0);
k ((1 : Int), v6, a1, (List.replicate 32 (0 : Int)), (0 : Int), (0 : Int), ()) (0 : Int)
| false => none))
noncomputable def F39 : FT39 := p39
abbrev FT94 : Type 1 := (R : Type) → Int → Int → (Int → Bool → Option R) → Option R
def en94 (F : FT94) : Ent := ⟨94, [(false, (.int .u64)), (false, (.int .u64))], [(false, (.int .u64)), (false, .bool)], fun R x k => F R x.1 x.2.1 (fun y1 y2 => k (y1, y2, ()) ())⟩
def res94 : List (ResultVar × TypeId × Bool) := [(.tmp 4, 22, false), (.tmp 5, 4, false)]
noncomputable def e94 (R : Type) : Env R := ⟨TT, EQT, 0, 17, ownOf [], callOf [] R, loopOf [] R, [], inlOf []⟩
def p94 : FT94 := fun R a0 a1 k =>
let v1 : Bool := (decide (a0 ≥ (9223372036854775808 : Int)));
(match v1 with
| true => k (0 : Int) false
| false => let v2 : Int := (IntKind.u64.wrap ((9223372036854775808 : Int) - a0));
let v3 : Bool := (decide (a1 ≥ v2));
(match v3 with
| true => k (0 : Int) false
| false => let v4 : Int := (IntKind.u64.wrap (a0 + a1));
k v4 true))
theorem q94 (F : FT94) (R : Type) (x : AT (en94 F).ins) (k : RT (en94 F).outs → PT (en94 F).ins → Option R) :
  xfun (e94 R) (codeOf Tryz.f94) res94 (avs (en94 F).ins x) (finK (en94 F).outs (en94 F).ins k) = p94 R x.1 x.2.1 (fun y1 y2 => k (y1, y2, ()) ()) := by kernel_rfl
noncomputable def F94 : FT94 := p94
theorem env94 (R : Type) : EnvOK Tryz.prog (e94 R) := ⟨tabOK, eqOK, callOf_ok allE_nil, noIns, inlOK_nil⟩
theorem ok94 : (en94 F94).OK Tryz.prog :=
  ent_ok (Ef := fun R => e94 R) (fun R => env94 R) mixed Tryz.func94 (body := codeOf Tryz.f94) (by kernel_rfl) (by kernel_rfl) (np := 0) (nt := 17) (fun _ => rfl) (fun _ => rfl) (by kernel_rfl) (res := res94) (by kernel_rfl) (fun _ => rfl) (fun _ => Nat.le_of_ble_eq_true rfl) (by
    intro R
    rw [show loopsOf (codeOf Tryz.f94) = [] from by kernel_rfl]
    exact allM_nil) (fun R x k => q94 F94 R x k)
abbrev FT52 : Type 1 := (R : Type) → (List Int) → (Int → Bool → Option R) → Option R
def en52 (F : FT52) : Ent := ⟨52, [(false, (.sl (.int .u64)))], [(false, (.int .u64)), (false, .bool)], fun R x k => F R x.1 (fun y1 y2 => k (y1, y2, ()) ())⟩
def res52 : List (ResultVar × TypeId × Bool) := [(.tmp 2, 22, false), (.tmp 3, 4, false)]
abbrev LT52_3 : Type 1 := (R : Type) → (List Int) → Int → Int → (Int → Bool → Option R) → (Int → Option R) → Option R
def le52_3 (L : LT52_3) : LEnt := ⟨3, [.val 0 (.sl (.int .u64)), .val 4 (.int .u64), .val 5 (.int .i64)], 0, [(.ret, [.val 2 (.int .u64), .val 3 .bool]), (.exit 0, [.val 4 (.int .u64)])], fun R x ke => L R x.1 x.2.1 x.2.2.1 (fun y1 y2 => ke.1 (y1, y2, ())) (fun y1 => ke.2.1 (y1, ()))⟩
noncomputable def e52 (F94 : FT94) (L3 : LT52_3) (R : Type) : Env R := ⟨TT, EQT, 0, 27, ownOf [], callOf [en94 F94] R, loopOf [le52_3 L3] R, [], inlOf []⟩
def p52_3 (F94 : FT94) : (R : Type) → (List Int) → Int → Int → ((List Int) → Int → Int → Option R) → (Int → Bool → Option R) → (Int → Option R) → Option R := fun R x1 x2 x3 kc k0 k1 =>
let v4 : Int := (List.length x1 : Int);
let v5 : Bool := (decide (x3 < v4));
(match v5 with
| true => (match (bnd x3 (List.length x1 : Int)) with
| true => let v6 : Int := (List.getD x1 (Int.toNat x3) (0 : Int));
F94 R x2 v6 fun y7 y8 =>
(match (!y8) with
| true => k0 (0 : Int) false
| false => let v9 : Int := (IntKind.i64.wrap (x3 + (1 : Int)));
kc x1 y7 v9)
| false => none)
| false => k1 x2)
theorem q52_3 (F94 : FT94) (L3 : LT52_3) (R : Type) (x : HT (le52_3 L3).H) (kc : HT (le52_3 L3).H → Option R) (ke : KT R (le52_3 L3).exs) :
  exec (e52 F94 L3 R) (lcode 3 (codeOf Tryz.f52)) (stOf (le52_3 L3).H x 0) (roundK (le52_3 L3).H (le52_3 L3).exs kc ke) =
    p52_3 F94 R x.1 x.2.1 x.2.2.1 (fun x1 x2 x3 => kc (x1, x2, x3, ())) (fun y1 y2 => ke.1 (y1, y2, ())) (fun y1 => ke.2.1 (y1, ())) := by kernel_rfl
noncomputable def G52_3 : Nat → LT52_3
  | 0 => fun _ _ _ _ _ _ => none
  | n + 1 => fun R x1 x2 x3 k0 k1 => p52_3 F94 R x1 x2 x3 (fun x1 x2 x3 => G52_3 n R x1 x2 x3 k0 k1) k0 k1
def p52 (L3 : LT52_3) : FT52 := fun R a0 k =>
L3 R a0 (0 : Int) (0 : Int) (fun x1 x2 =>
k x1 x2) (fun x3 =>
k x3 true)
theorem q52 (F94 : FT94) (L3 : LT52_3) (F : FT52) (R : Type) (x : AT (en52 F).ins) (k : RT (en52 F).outs → PT (en52 F).ins → Option R) :
  xfun (e52 F94 L3 R) (codeOf Tryz.f52) res52 (avs (en52 F).ins x) (finK (en52 F).outs (en52 F).ins k) = p52 L3 R x.1 (fun y1 y2 => k (y1, y2, ()) ()) := by kernel_rfl
noncomputable def F52 : FT52 := p52 (G52_3 FUEL)
theorem env52 (R : Type) : EnvOK Tryz.prog (e52 F94 (G52_3 FUEL) R) := ⟨tabOK, eqOK, callOf_ok (allE_cons ok94 allE_nil), noIns, inlOK_nil⟩
noncomputable def T52_3 : (R : Type) → HT (le52_3 (G52_3 FUEL)).H → (HT (le52_3 (G52_3 FUEL)).H → Option R) → KT R (le52_3 (G52_3 FUEL)).exs → Option R := fun R x kc ke => p52_3 F94 R x.1 x.2.1 x.2.2.1 (fun x1 x2 x3 => kc (x1, x2, x3, ())) (fun y1 y2 => ke.1 (y1, y2, ())) (fun y1 => ke.2.1 (y1, ()))
theorem it52_3 : ∀ (n : Nat) (R : Type) (x : HT (le52_3 (G52_3 FUEL)).H) (ke : KT R (le52_3 (G52_3 FUEL)).exs), iter T52_3 n R x ke = G52_3 n R x.1 x.2.1 x.2.2.1 (fun y1 y2 => ke.1 (y1, y2, ())) (fun y1 => ke.2.1 (y1, ())) := by
  intro n
  induction n with
  | zero => intro R x ke; rfl
  | succ n ih =>
    intro R x ke
    show T52_3 R x (fun x' => iter T52_3 n R x' ke) ke = _
    rw [show (fun x' => iter T52_3 n R x' ke) = fun x => G52_3 n R x.1 x.2.1 x.2.2.1 (fun y1 y2 => ke.1 (y1, y2, ())) (fun y1 => ke.2.1 (y1, ())) from funext fun x' => ih R x' ke]
    rfl
theorem lok52_3 : (le52_3 (G52_3 FUEL)).OK Tryz.prog 0 27 (lcode 3 (codeOf Tryz.f52)) := fun R x ke r h =>
  iter_sound (fun R => e52 F94 (G52_3 FUEL) R) 0 27 (fun _ => rfl) (fun _ => rfl) (fun R => env52 R) mixed (by
    intro R
    rw [show loopsOf (lcode 3 (codeOf Tryz.f52)) = [] from by kernel_rfl]
    exact allM_nil) (T := T52_3) (fun R x kc ke => q52_3 F94 (G52_3 FUEL) R x kc ke) FUEL R x ke r ((it52_3 FUEL R x ke).trans h)
theorem ok52 : (en52 F52).OK Tryz.prog :=
  ent_ok (Ef := fun R => e52 F94 (G52_3 FUEL) R) (fun R => env52 R) mixed Tryz.func52 (body := codeOf Tryz.f52) (by kernel_rfl) (by kernel_rfl) (np := 0) (nt := 27) (fun _ => rfl) (fun _ => rfl) (by kernel_rfl) (res := res52) (by kernel_rfl) (fun _ => rfl) (fun _ => Nat.le_of_ble_eq_true rfl) (by
    intro R
    rw [show loopsOf (codeOf Tryz.f52) = [lcode 3 (codeOf Tryz.f52)] from by kernel_rfl]
    exact (allM_cons (loop_ok2 (e := le52_3 (G52_3 FUEL)) rfl rfl lok52_3) allM_nil)) (fun R x k => q52 F94 (G52_3 FUEL) F52 R x k)
abbrev FT78 : Type 1 := (R : Type) → Int → Int → (Int → Bool → Option R) → Option R
def en78 (F : FT78) : Ent := ⟨78, [(false, (.int .u64)), (false, (.int .u64))], [(false, (.int .u64)), (false, .bool)], fun R x k => F R x.1 x.2.1 (fun y1 y2 => k (y1, y2, ()) ())⟩
def res78 : List (ResultVar × TypeId × Bool) := [(.tmp 4, 22, false), (.tmp 5, 4, false)]
noncomputable def e78 (R : Type) : Env R := ⟨TT, EQT, 0, 19, ownOf [], callOf [] R, loopOf [] R, [], inlOf []⟩
def p78 : FT78 := fun R a0 a1 k =>
let v1 : Bool := (a0 == (0 : Int));
(match v1 with
| true => k (0 : Int) true
| false => let v2 : Bool := (a1 == (0 : Int));
(match v2 with
| true => k (0 : Int) true
| false => (match (!(a1 == 0)) with
| true => let v3 : Int := (IntKind.u64.wrap (Int.tdiv (9223372036854775807 : Int) a1));
let v4 : Bool := (decide (a0 > v3));
(match v4 with
| true => k (0 : Int) false
| false => let v5 : Int := (IntKind.u64.wrap (a0 * a1));
k v5 true)
| false => none)))
theorem q78 (F : FT78) (R : Type) (x : AT (en78 F).ins) (k : RT (en78 F).outs → PT (en78 F).ins → Option R) :
  xfun (e78 R) (codeOf Tryz.f78) res78 (avs (en78 F).ins x) (finK (en78 F).outs (en78 F).ins k) = p78 R x.1 x.2.1 (fun y1 y2 => k (y1, y2, ()) ()) := by kernel_rfl
noncomputable def F78 : FT78 := p78
theorem env78 (R : Type) : EnvOK Tryz.prog (e78 R) := ⟨tabOK, eqOK, callOf_ok allE_nil, noIns, inlOK_nil⟩
theorem ok78 : (en78 F78).OK Tryz.prog :=
  ent_ok (Ef := fun R => e78 R) (fun R => env78 R) mixed Tryz.func78 (body := codeOf Tryz.f78) (by kernel_rfl) (by kernel_rfl) (np := 0) (nt := 19) (fun _ => rfl) (fun _ => rfl) (by kernel_rfl) (res := res78) (by kernel_rfl) (fun _ => rfl) (fun _ => Nat.le_of_ble_eq_true rfl) (by
    intro R
    rw [show loopsOf (codeOf Tryz.f78) = [] from by kernel_rfl]
    exact allM_nil) (fun R x k => q78 F78 R x k)
abbrev FT40 : Type 1 := (R : Type) → (List Int) → (Tq7 → Int → Option R) → Option R
def en40 (F : FT40) : Ent := ⟨40, [(false, (.sl (.int .u64)))], [(false, Kq7), (false, (.int .i64))], fun R x k => F R x.1 (fun y1 y2 => k (y1, y2, ()) ())⟩
def res40 : List (ResultVar × TypeId × Bool) := [(.cell 2 25, 25, false), (.tmp 3, 32, false)]
abbrev LT40_16 : Type 1 := (R : Type) → (List Int) → Int → Int → Int → Tq7 → (List Int) → (List Tq1) → (List Int) → (List Int) → (Int → Tq7 → (List Int) → (List Tq1) → (List Int) → (List Int) → Option R) → Option R
def le40_16 (L : LT40_16) : LEnt := ⟨16, [.val 0 (.sl (.int .u64)), .fix 2 (.ptr 0 [] Kq7), .val 4 (.int .u64), .val 6 (.int .u64), .fix 9 (.own 1 0), .fix 10 (.own 2 0), .fix 11 (.own 3 0), .fix 12 (.own 4 0), .val 13 (.int .i64), .var 0 Kq7 false, .row 1 (.int .u64) false, .row 2 Kq1 false, .row 3 (.int .i64) false, .row 4 (.int .i64) false], 5, [(.exit 0, [.fix 2 (.ptr 0 [] Kq7), .val 4 (.int .u64), .fix 9 (.own 1 0), .fix 10 (.own 2 0), .fix 11 (.own 3 0), .fix 12 (.own 4 0), .var 0 Kq7 false, .row 1 (.int .u64) false, .row 2 Kq1 false, .row 3 (.int .i64) false, .row 4 (.int .i64) false])], fun R x ke => L R x.1 x.2.1 x.2.2.1 x.2.2.2.1 x.2.2.2.2.1 x.2.2.2.2.2.1 x.2.2.2.2.2.2.1 x.2.2.2.2.2.2.2.1 x.2.2.2.2.2.2.2.2.1 (fun y1 y2 y3 y4 y5 y6 => ke.1 (y1, y2, y3, y4, y5, y6, ()))⟩
abbrev LT40_23 : Type 1 := (R : Type) → Int → Tq7 → (List Int) → (List Tq1) → (List Int) → (List Int) → (Int → Tq7 → (List Tq1) → Option R) → Option R
def le40_23 (L : LT40_23) : LEnt := ⟨23, [.fix 2 (.ptr 0 [] Kq7), .val 4 (.int .u64), .fix 9 (.own 1 0), .fix 10 (.own 2 0), .fix 11 (.own 3 0), .fix 12 (.own 4 0), .var 0 Kq7 false, .row 1 (.int .u64) false, .row 2 Kq1 false, .row 3 (.int .i64) false, .row 4 (.int .i64) false], 5, [(.exit 2, [.fix 2 (.ptr 0 [] Kq7), .val 4 (.int .u64), .fix 10 (.own 2 0), .var 0 Kq7 false, .row 2 Kq1 false])], fun R x ke => L R x.1 x.2.1 x.2.2.1 x.2.2.2.1 x.2.2.2.2.1 x.2.2.2.2.2.1 (fun y1 y2 y3 => ke.1 (y1, y2, y3, ()))⟩
noncomputable def e40 (F52 : FT52) (F78 : FT78) (L16 : LT40_16) (L23 : LT40_23) (R : Type) : Env R := ⟨TT, EQT, 0, 154, ownOf [(14, 0), (14, 1), (25, 4), (25, 9)], callOf [en52 F52, en78 F78] R, loopOf [le40_16 L16, le40_23 L23] R, [], inlOf []⟩
def p40_16 : (R : Type) → (List Int) → Int → Int → Int → Tq7 → (List Int) → (List Tq1) → (List Int) → (List Int) → ((List Int) → Int → Int → Int → Tq7 → (List Int) → (List Tq1) → (List Int) → (List Int) → Option R) → (Int → Tq7 → (List Int) → (List Tq1) → (List Int) → (List Int) → Option R) → Option R := fun R x1 x2 x3 x4 x5 x6 x7 x8 x9 kc k0 =>
let v10 : Int := (List.length x1 : Int);
let v11 : Bool := (decide (x4 < v10));
(match v11 with
| true => (match (bnd x4 (List.length x1 : Int)) with
| true => let v12 : Int := (List.getD x1 (Int.toNat x4) (0 : Int));
let v13 : Int := (IntKind.u64.wrap (x3 * v12));
(match (bnd x4 (List.length x6 : Int)) with
| true => let v14 : (List Int) := (List.set x6 (Int.toNat x4) v13);
(match (bnd x4 (List.length x7 : Int)) with
| true => let v15 : (List Tq1) := (List.set x7 (Int.toNat x4) (x2, x4, ()));
(match (bnd x4 (List.length v14 : Int)) with
| true => let v16 : Int := (List.getD v14 (Int.toNat x4) (0 : Int));
let v17 : Bool := (decide (v16 < x2));
(match v17 with
| true => let v18 : (List Int) := ([x4] : (List Int));
(match (decide (List.length x8 + List.length v18 ≤ 17592186044416)) with
| true => let v19 : (List Int) := (x8 ++ v18);
let v20 : Int := (IntKind.i64.wrap (x4 + (1 : Int)));
kc x1 x2 x3 v20 x5 v14 v15 v19 x9
| false => none)
| false => let v21 : (List Int) := ([x4] : (List Int));
(match (decide (List.length x9 + List.length v21 ≤ 17592186044416)) with
| true => let v22 : (List Int) := (x9 ++ v21);
let v23 : Int := (IntKind.i64.wrap (x4 + (1 : Int)));
kc x1 x2 x3 v23 x5 v14 v15 x8 v22
| false => none))
| false => none)
| false => none)
| false => none)
| false => none)
| false => k0 x2 x5 x6 x7 x8 x9)
theorem q40_16 (F52 : FT52) (F78 : FT78) (L16 : LT40_16) (L23 : LT40_23) (R : Type) (x : HT (le40_16 L16).H) (kc : HT (le40_16 L16).H → Option R) (ke : KT R (le40_16 L16).exs) :
  exec (e40 F52 F78 L16 L23 R) (lcode 16 (codeOf Tryz.f40)) (stOf (le40_16 L16).H x 5) (roundK (le40_16 L16).H (le40_16 L16).exs kc ke) =
    p40_16 R x.1 x.2.1 x.2.2.1 x.2.2.2.1 x.2.2.2.2.1 x.2.2.2.2.2.1 x.2.2.2.2.2.2.1 x.2.2.2.2.2.2.2.1 x.2.2.2.2.2.2.2.2.1 (fun x1 x2 x3 x4 x5 x6 x7 x8 x9 => kc (x1, x2, x3, x4, x5, x6, x7, x8, x9, ())) (fun y1 y2 y3 y4 y5 y6 => ke.1 (y1, y2, y3, y4, y5, y6, ())) := by kernel_rfl
noncomputable def G40_16 : Nat → LT40_16
  | 0 => fun _ _ _ _ _ _ _ _ _ _ _ => none
  | n + 1 => fun R x1 x2 x3 x4 x5 x6 x7 x8 x9 k0 => p40_16 R x1 x2 x3 x4 x5 x6 x7 x8 x9 (fun x1 x2 x3 x4 x5 x6 x7 x8 x9 => G40_16 n R x1 x2 x3 x4 x5 x6 x7 x8 x9 k0) k0
def p40_23 : (R : Type) → Int → Tq7 → (List Int) → (List Tq1) → (List Int) → (List Int) → (Int → Tq7 → (List Int) → (List Tq1) → (List Int) → (List Int) → Option R) → (Int → Tq7 → (List Tq1) → Option R) → Option R := fun R x1 x2 x3 x4 x5 x6 kc k0 =>
let v7 : Int := (List.length x5 : Int);
let v8 : Bool := (decide (v7 > (0 : Int)));
(match v8 with
| true => let v9 : Int := (List.length x6 : Int);
let v10 : Bool := (decide (v9 > (0 : Int)));
(match v10 with
| true => let v11 : Int := (List.length x5 : Int);
let v12 : Int := (IntKind.i64.wrap (v11 - (1 : Int)));
(match (bnd v12 (List.length x5 : Int)) with
| true => let v13 : Int := (List.getD x5 (Int.toNat v12) (0 : Int));
let v14 : Int := (List.length x6 : Int);
let v15 : Int := (IntKind.i64.wrap (v14 - (1 : Int)));
(match (bnd v15 (List.length x6 : Int)) with
| true => let v16 : Int := (List.getD x6 (Int.toNat v15) (0 : Int));
let v17 : Int := (List.length x5 : Int);
let v18 : Int := (IntKind.i64.wrap (v17 - (1 : Int)));
(match (decide (0 ≤ v18 ∧ v18 ≤ (List.length x5 : Int))) with
| true => let v19 : (List Int) := (List.take (Int.toNat v18) x5);
let v20 : Int := (List.length x6 : Int);
let v21 : Int := (IntKind.i64.wrap (v20 - (1 : Int)));
(match (decide (0 ≤ v21 ∧ v21 ≤ (List.length x6 : Int))) with
| true => let v22 : (List Int) := (List.take (Int.toNat v21) x6);
(match (bnd v13 (List.length x3 : Int)) with
| true => let v23 : Int := (List.getD x3 (Int.toNat v13) (0 : Int));
(match (bnd v13 (List.length x4 : Int)) with
| true => let v24 : (List Tq1) := (List.set x4 (Int.toNat v13) (v23, v16, ()));
(match (bnd v16 (List.length x3 : Int)) with
| true => let v25 : Int := (List.getD x3 (Int.toNat v16) (0 : Int));
(match (bnd v13 (List.length x3 : Int)) with
| true => let v26 : Int := (List.getD x3 (Int.toNat v13) (0 : Int));
let v27 : Int := (IntKind.u64.wrap (x1 - v26));
let v28 : Int := (IntKind.u64.wrap (v25 - v27));
(match (bnd v16 (List.length x3 : Int)) with
| true => let v29 : (List Int) := (List.set x3 (Int.toNat v16) v28);
(match (bnd v16 (List.length v29 : Int)) with
| true => let v30 : Int := (List.getD v29 (Int.toNat v16) (0 : Int));
let v31 : Bool := (decide (v30 < x1));
(match v31 with
| true => let v32 : (List Int) := ([v16] : (List Int));
(match (decide (List.length v19 + List.length v32 ≤ 17592186044416)) with
| true => let v33 : (List Int) := (v19 ++ v32);
kc x1 x2 v29 v24 v33 v22
| false => none)
| false => let v34 : (List Int) := ([v16] : (List Int));
(match (decide (List.length v22 + List.length v34 ≤ 17592186044416)) with
| true => let v35 : (List Int) := (v22 ++ v34);
kc x1 x2 v29 v24 v19 v35
| false => none))
| false => none)
| false => none)
| false => none)
| false => none)
| false => none)
| false => none)
| false => none)
| false => none)
| false => none)
| false => none)
| false => k0 x1 x2 x4)
| false => k0 x1 x2 x4)
theorem q40_23 (F52 : FT52) (F78 : FT78) (L16 : LT40_16) (L23 : LT40_23) (R : Type) (x : HT (le40_23 L23).H) (kc : HT (le40_23 L23).H → Option R) (ke : KT R (le40_23 L23).exs) :
  exec (e40 F52 F78 L16 L23 R) (lcode 23 (codeOf Tryz.f40)) (stOf (le40_23 L23).H x 5) (roundK (le40_23 L23).H (le40_23 L23).exs kc ke) =
    p40_23 R x.1 x.2.1 x.2.2.1 x.2.2.2.1 x.2.2.2.2.1 x.2.2.2.2.2.1 (fun x1 x2 x3 x4 x5 x6 => kc (x1, x2, x3, x4, x5, x6, ())) (fun y1 y2 y3 => ke.1 (y1, y2, y3, ())) := by kernel_rfl
noncomputable def G40_23 : Nat → LT40_23
  | 0 => fun _ _ _ _ _ _ _ _ => none
  | n + 1 => fun R x1 x2 x3 x4 x5 x6 k0 => p40_23 R x1 x2 x3 x4 x5 x6 (fun x1 x2 x3 x4 x5 x6 => G40_23 n R x1 x2 x3 x4 x5 x6 k0) k0
def p40 (F52 : FT52) (F78 : FT78) (L16 : LT40_16) (L23 : LT40_23) : FT40 := fun R a0 k =>
let v1 : Int := (List.length a0 : Int);
let v2 : Bool := (v1 == (0 : Int));
(match v2 with
| true => k ((0 : Int), ([] : (List Tq1)), ()) (10 : Int)
| false => F52 R a0 fun y3 y4 =>
(match (!y4) with
| true => k ((0 : Int), ([] : (List Tq1)), ()) (11 : Int)
| false => let v5 : Bool := (y3 == (0 : Int));
(match v5 with
| true => k ((0 : Int), ([] : (List Tq1)), ()) (10 : Int)
| false => let v6 : Int := (List.length a0 : Int);
let v7 : Int := (IntKind.u64.wrap v6);
F78 R v7 y3 fun y8 y9 =>
(match (!y9) with
| true => k ((0 : Int), ([] : (List Tq1)), ()) (11 : Int)
| false => let v10 : Int := (List.length a0 : Int);
(match (decide (0 ≤ v10 ∧ v10 ≤ v10 ∧ v10 ≤ (17592186044416 : Int))) with
| true => let v11 : (List Int) := (List.replicate (Int.toNat v10) (0 : Int));
let v12 : Int := (List.length a0 : Int);
(match (decide (0 ≤ v12 ∧ v12 ≤ v12 ∧ v12 ≤ (8796093022208 : Int))) with
| true => let v13 : (List Tq1) := (List.replicate (Int.toNat v12) ((0 : Int), (0 : Int), ()));
L16 R a0 y3 v7 (0 : Int) ((0 : Int), ([] : (List Tq1)), ()) v11 v13 ([] : (List Int)) ([] : (List Int)) (fun x14 x15 x16 x17 x18 x19 =>
L23 R x14 x15 x16 x17 x18 x19 (fun x20 x21 x22 =>
k (x20, x22, ()) (0 : Int)))
| false => none)
| false => none)))))
theorem q40 (F52 : FT52) (F78 : FT78) (L16 : LT40_16) (L23 : LT40_23) (F : FT40) (R : Type) (x : AT (en40 F).ins) (k : RT (en40 F).outs → PT (en40 F).ins → Option R) :
  xfun (e40 F52 F78 L16 L23 R) (codeOf Tryz.f40) res40 (avs (en40 F).ins x) (finK (en40 F).outs (en40 F).ins k) = p40 F52 F78 L16 L23 R x.1 (fun y1 y2 => k (y1, y2, ()) ()) := by kernel_rfl
noncomputable def F40 : FT40 := p40 F52 F78 (G40_16 FUEL) (G40_23 FUEL)
theorem env40 (R : Type) : EnvOK Tryz.prog (e40 F52 F78 (G40_16 FUEL) (G40_23 FUEL) R) := ⟨tabOK, eqOK, callOf_ok (allE_cons ok52 (allE_cons ok78 allE_nil)), noIns, inlOK_nil⟩
noncomputable def T40_16 : (R : Type) → HT (le40_16 (G40_16 FUEL)).H → (HT (le40_16 (G40_16 FUEL)).H → Option R) → KT R (le40_16 (G40_16 FUEL)).exs → Option R := fun R x kc ke => p40_16 R x.1 x.2.1 x.2.2.1 x.2.2.2.1 x.2.2.2.2.1 x.2.2.2.2.2.1 x.2.2.2.2.2.2.1 x.2.2.2.2.2.2.2.1 x.2.2.2.2.2.2.2.2.1 (fun x1 x2 x3 x4 x5 x6 x7 x8 x9 => kc (x1, x2, x3, x4, x5, x6, x7, x8, x9, ())) (fun y1 y2 y3 y4 y5 y6 => ke.1 (y1, y2, y3, y4, y5, y6, ()))
theorem it40_16 : ∀ (n : Nat) (R : Type) (x : HT (le40_16 (G40_16 FUEL)).H) (ke : KT R (le40_16 (G40_16 FUEL)).exs), iter T40_16 n R x ke = G40_16 n R x.1 x.2.1 x.2.2.1 x.2.2.2.1 x.2.2.2.2.1 x.2.2.2.2.2.1 x.2.2.2.2.2.2.1 x.2.2.2.2.2.2.2.1 x.2.2.2.2.2.2.2.2.1 (fun y1 y2 y3 y4 y5 y6 => ke.1 (y1, y2, y3, y4, y5, y6, ())) := by
  intro n
  induction n with
  | zero => intro R x ke; rfl
  | succ n ih =>
    intro R x ke
    show T40_16 R x (fun x' => iter T40_16 n R x' ke) ke = _
    rw [show (fun x' => iter T40_16 n R x' ke) = fun x => G40_16 n R x.1 x.2.1 x.2.2.1 x.2.2.2.1 x.2.2.2.2.1 x.2.2.2.2.2.1 x.2.2.2.2.2.2.1 x.2.2.2.2.2.2.2.1 x.2.2.2.2.2.2.2.2.1 (fun y1 y2 y3 y4 y5 y6 => ke.1 (y1, y2, y3, y4, y5, y6, ())) from funext fun x' => ih R x' ke]
    rfl
theorem lok40_16 : (le40_16 (G40_16 FUEL)).OK Tryz.prog 0 154 (lcode 16 (codeOf Tryz.f40)) := fun R x ke r h =>
  iter_sound (fun R => e40 F52 F78 (G40_16 FUEL) (G40_23 FUEL) R) 0 154 (fun _ => rfl) (fun _ => rfl) (fun R => env40 R) mixed (by
    intro R
    rw [show loopsOf (lcode 16 (codeOf Tryz.f40)) = [] from by kernel_rfl]
    exact allM_nil) (T := T40_16) (fun R x kc ke => q40_16 F52 F78 (G40_16 FUEL) (G40_23 FUEL) R x kc ke) FUEL R x ke r ((it40_16 FUEL R x ke).trans h)
noncomputable def T40_23 : (R : Type) → HT (le40_23 (G40_23 FUEL)).H → (HT (le40_23 (G40_23 FUEL)).H → Option R) → KT R (le40_23 (G40_23 FUEL)).exs → Option R := fun R x kc ke => p40_23 R x.1 x.2.1 x.2.2.1 x.2.2.2.1 x.2.2.2.2.1 x.2.2.2.2.2.1 (fun x1 x2 x3 x4 x5 x6 => kc (x1, x2, x3, x4, x5, x6, ())) (fun y1 y2 y3 => ke.1 (y1, y2, y3, ()))
theorem it40_23 : ∀ (n : Nat) (R : Type) (x : HT (le40_23 (G40_23 FUEL)).H) (ke : KT R (le40_23 (G40_23 FUEL)).exs), iter T40_23 n R x ke = G40_23 n R x.1 x.2.1 x.2.2.1 x.2.2.2.1 x.2.2.2.2.1 x.2.2.2.2.2.1 (fun y1 y2 y3 => ke.1 (y1, y2, y3, ())) := by
  intro n
  induction n with
  | zero => intro R x ke; rfl
  | succ n ih =>
    intro R x ke
    show T40_23 R x (fun x' => iter T40_23 n R x' ke) ke = _
    rw [show (fun x' => iter T40_23 n R x' ke) = fun x => G40_23 n R x.1 x.2.1 x.2.2.1 x.2.2.2.1 x.2.2.2.2.1 x.2.2.2.2.2.1 (fun y1 y2 y3 => ke.1 (y1, y2, y3, ())) from funext fun x' => ih R x' ke]
    rfl
theorem lok40_23 : (le40_23 (G40_23 FUEL)).OK Tryz.prog 0 154 (lcode 23 (codeOf Tryz.f40)) := fun R x ke r h =>
  iter_sound (fun R => e40 F52 F78 (G40_16 FUEL) (G40_23 FUEL) R) 0 154 (fun _ => rfl) (fun _ => rfl) (fun R => env40 R) mixed (by
    intro R
    rw [show loopsOf (lcode 23 (codeOf Tryz.f40)) = [] from by kernel_rfl]
    exact allM_nil) (T := T40_23) (fun R x kc ke => q40_23 F52 F78 (G40_16 FUEL) (G40_23 FUEL) R x kc ke) FUEL R x ke r ((it40_23 FUEL R x ke).trans h)
theorem ok40 : (en40 F40).OK Tryz.prog :=
  ent_ok (Ef := fun R => e40 F52 F78 (G40_16 FUEL) (G40_23 FUEL) R) (fun R => env40 R) mixed Tryz.func40 (body := codeOf Tryz.f40) (by kernel_rfl) (by kernel_rfl) (np := 0) (nt := 154) (fun _ => rfl) (fun _ => rfl) (by kernel_rfl) (res := res40) (by kernel_rfl) (fun _ => rfl) (fun _ => Nat.le_of_ble_eq_true rfl) (by
    intro R
    rw [show loopsOf (codeOf Tryz.f40) = [lcode 16 (codeOf Tryz.f40), lcode 23 (codeOf Tryz.f40)] from by kernel_rfl]
    exact (allM_cons (loop_ok2 (e := le40_16 (G40_16 FUEL)) rfl rfl lok40_16) (allM_cons (loop_ok2 (e := le40_23 (G40_23 FUEL)) rfl rfl lok40_23) allM_nil))) (fun R x k => q40 F52 F78 (G40_16 FUEL) (G40_23 FUEL) F40 R x k)
abbrev FT116 : Type 1 := (R : Type) → Int → Int → (Int → Int → Option R) → Option R
def en116 (F : FT116) : Ent := ⟨116, [(false, (.int .u64)), (false, (.int .u64))], [(false, (.int .u64)), (false, (.int .u64))], fun R x k => F R x.1 x.2.1 (fun y1 y2 => k (y1, y2, ()) ())⟩
def res116 : List (ResultVar × TypeId × Bool) := [(.tmp 4, 22, false), (.tmp 5, 22, false)]
noncomputable def e116 (R : Type) : Env R := ⟨TT, EQT, 0, 51, ownOf [], callOf [] R, loopOf [] R, [], inlOf []⟩
def p116 : FT116 := fun R a0 a1 k =>
let v1 : Int := (iand .u64 a0 (4294967295 : Int));
let v2 : Int := (ishr .u64 a0 (32 : Int));
let v3 : Int := (iand .u64 a1 (4294967295 : Int));
let v4 : Int := (ishr .u64 a1 (32 : Int));
let v5 : Int := (IntKind.u64.wrap (v1 * v3));
let v6 : Int := (IntKind.u64.wrap (v2 * v3));
let v7 : Int := (ishr .u64 v5 (32 : Int));
let v8 : Int := (IntKind.u64.wrap (v6 + v7));
let v9 : Int := (iand .u64 v8 (4294967295 : Int));
let v10 : Int := (ishr .u64 v8 (32 : Int));
let v11 : Int := (IntKind.u64.wrap (v1 * v4));
let v12 : Int := (IntKind.u64.wrap (v9 + v11));
let v13 : Int := (IntKind.u64.wrap (v2 * v4));
let v14 : Int := (IntKind.u64.wrap (v13 + v10));
let v15 : Int := (ishr .u64 v12 (32 : Int));
let v16 : Int := (IntKind.u64.wrap (v14 + v15));
let v17 : Int := (IntKind.u64.wrap (a0 * a1));
k v16 v17
theorem q116 (F : FT116) (R : Type) (x : AT (en116 F).ins) (k : RT (en116 F).outs → PT (en116 F).ins → Option R) :
  xfun (e116 R) (codeOf Tryz.f116) res116 (avs (en116 F).ins x) (finK (en116 F).outs (en116 F).ins k) = p116 R x.1 x.2.1 (fun y1 y2 => k (y1, y2, ()) ()) := by kernel_rfl
noncomputable def F116 : FT116 := p116
theorem env116 (R : Type) : EnvOK Tryz.prog (e116 R) := ⟨tabOK, eqOK, callOf_ok allE_nil, noIns, inlOK_nil⟩
theorem ok116 : (en116 F116).OK Tryz.prog :=
  ent_ok (Ef := fun R => e116 R) (fun R => env116 R) mixed Tryz.func116 (body := codeOf Tryz.f116) (by kernel_rfl) (by kernel_rfl) (np := 0) (nt := 51) (fun _ => rfl) (fun _ => rfl) (by kernel_rfl) (res := res116) (by kernel_rfl) (fun _ => rfl) (fun _ => Nat.le_of_ble_eq_true rfl) (by
    intro R
    rw [show loopsOf (codeOf Tryz.f116) = [] from by kernel_rfl]
    exact allM_nil) (fun R x k => q116 F116 R x k)
abbrev FT136 : Type 1 := (R : Type) → Int → (Bool → Option R) → Option R
def en136 (F : FT136) : Ent := ⟨136, [(false, (.int .u64))], [(false, .bool)], fun R x k => F R x.1 (fun y1 => k (y1, ()) ())⟩
def res136 : List (ResultVar × TypeId × Bool) := [(.tmp 2, 4, false)]
noncomputable def e136 (R : Type) : Env R := ⟨TT, EQT, 0, 5, ownOf [], callOf [] R, loopOf [] R, [], inlOf []⟩
def p136 : FT136 := fun R a0 k =>
let v1 : Bool := (decide (a0 < (9223372036854775808 : Int)));
k v1
theorem q136 (F : FT136) (R : Type) (x : AT (en136 F).ins) (k : RT (en136 F).outs → PT (en136 F).ins → Option R) :
  xfun (e136 R) (codeOf Tryz.f136) res136 (avs (en136 F).ins x) (finK (en136 F).outs (en136 F).ins k) = p136 R x.1 (fun y1 => k (y1, ()) ()) := by kernel_rfl
noncomputable def F136 : FT136 := p136
theorem env136 (R : Type) : EnvOK Tryz.prog (e136 R) := ⟨tabOK, eqOK, callOf_ok allE_nil, noIns, inlOK_nil⟩
theorem ok136 : (en136 F136).OK Tryz.prog :=
  ent_ok (Ef := fun R => e136 R) (fun R => env136 R) mixed Tryz.func136 (body := codeOf Tryz.f136) (by kernel_rfl) (by kernel_rfl) (np := 0) (nt := 5) (fun _ => rfl) (fun _ => rfl) (by kernel_rfl) (res := res136) (by kernel_rfl) (fun _ => rfl) (fun _ => Nat.le_of_ble_eq_true rfl) (by
    intro R
    rw [show loopsOf (codeOf Tryz.f136) = [] from by kernel_rfl]
    exact allM_nil) (fun R x k => q136 F136 R x k)
abbrev FT117 : Type 1 := (R : Type) → Int → Int → (Int → Bool → Option R) → Option R
def en117 (F : FT117) : Ent := ⟨117, [(false, (.int .u64)), (false, (.int .u64))], [(false, (.int .u64)), (false, .bool)], fun R x k => F R x.1 x.2.1 (fun y1 y2 => k (y1, y2, ()) ())⟩
def res117 : List (ResultVar × TypeId × Bool) := [(.tmp 4, 22, false), (.tmp 5, 4, false)]
noncomputable def e117 (F136 : FT136) (R : Type) : Env R := ⟨TT, EQT, 0, 14, ownOf [], callOf [en136 F136] R, loopOf [] R, [], inlOf []⟩
def p117 (F136 : FT136) : FT117 := fun R a0 a1 k =>
let v1 : Bool := (a1 != (0 : Int));
(match v1 with
| true => k (0 : Int) false
| false => F136 R a0 fun y2 =>
(match (!y2) with
| true => k (0 : Int) false
| false => k a0 true))
theorem q117 (F136 : FT136) (F : FT117) (R : Type) (x : AT (en117 F).ins) (k : RT (en117 F).outs → PT (en117 F).ins → Option R) :
  xfun (e117 F136 R) (codeOf Tryz.f117) res117 (avs (en117 F).ins x) (finK (en117 F).outs (en117 F).ins k) = p117 F136 R x.1 x.2.1 (fun y1 y2 => k (y1, y2, ()) ()) := by kernel_rfl
noncomputable def F117 : FT117 := p117 F136
theorem env117 (R : Type) : EnvOK Tryz.prog (e117 F136 R) := ⟨tabOK, eqOK, callOf_ok (allE_cons ok136 allE_nil), noIns, inlOK_nil⟩
theorem ok117 : (en117 F117).OK Tryz.prog :=
  ent_ok (Ef := fun R => e117 F136 R) (fun R => env117 R) mixed Tryz.func117 (body := codeOf Tryz.f117) (by kernel_rfl) (by kernel_rfl) (np := 0) (nt := 14) (fun _ => rfl) (fun _ => rfl) (by kernel_rfl) (res := res117) (by kernel_rfl) (fun _ => rfl) (fun _ => Nat.le_of_ble_eq_true rfl) (by
    intro R
    rw [show loopsOf (codeOf Tryz.f117) = [] from by kernel_rfl]
    exact allM_nil) (fun R x k => q117 F136 F117 R x k)
abbrev FT79 : Type 1 := (R : Type) → Int → Int → (Int → Bool → Option R) → Option R
def en79 (F : FT79) : Ent := ⟨79, [(false, (.int .u64)), (false, (.int .u64))], [(false, (.int .u64)), (false, .bool)], fun R x k => F R x.1 x.2.1 (fun y1 y2 => k (y1, y2, ()) ())⟩
def res79 : List (ResultVar × TypeId × Bool) := [(.tmp 4, 22, false), (.tmp 5, 4, false)]
noncomputable def e79 (F116 : FT116) (F117 : FT117) (R : Type) : Env R := ⟨TT, EQT, 0, 19, ownOf [], callOf [en116 F116, en117 F117] R, loopOf [] R, [], inlOf []⟩
def p79 (F116 : FT116) (F117 : FT117) : FT79 := fun R a0 a1 k =>
F116 R a0 a1 fun y1 y2 =>
F117 R y2 y1 fun y3 y4 =>
k y3 y4
theorem q79 (F116 : FT116) (F117 : FT117) (F : FT79) (R : Type) (x : AT (en79 F).ins) (k : RT (en79 F).outs → PT (en79 F).ins → Option R) :
  xfun (e79 F116 F117 R) (codeOf Tryz.f79) res79 (avs (en79 F).ins x) (finK (en79 F).outs (en79 F).ins k) = p79 F116 F117 R x.1 x.2.1 (fun y1 y2 => k (y1, y2, ()) ()) := by kernel_rfl
noncomputable def F79 : FT79 := p79 F116 F117
theorem env79 (R : Type) : EnvOK Tryz.prog (e79 F116 F117 R) := ⟨tabOK, eqOK, callOf_ok (allE_cons ok116 (allE_cons ok117 allE_nil)), noIns, inlOK_nil⟩
theorem ok79 : (en79 F79).OK Tryz.prog :=
  ent_ok (Ef := fun R => e79 F116 F117 R) (fun R => env79 R) mixed Tryz.func79 (body := codeOf Tryz.f79) (by kernel_rfl) (by kernel_rfl) (np := 0) (nt := 19) (fun _ => rfl) (fun _ => rfl) (by kernel_rfl) (res := res79) (by kernel_rfl) (fun _ => rfl) (fun _ => Nat.le_of_ble_eq_true rfl) (by
    intro R
    rw [show loopsOf (codeOf Tryz.f79) = [] from by kernel_rfl]
    exact allM_nil) (fun R x k => q79 F116 F117 F79 R x k)
abbrev FT81 : Type 1 := (R : Type) → Tq1 → Tq7 → (Bool → Tq7 → Option R) → Option R
def en81 (F : FT81) : Ent := ⟨81, [(false, Kq1), (true, Kq7)], [(false, .bool)], fun R x k => F R x.1 x.2.1 (fun y1 p1 => k (y1, ()) (p1, ()))⟩
def res81 : List (ResultVar × TypeId × Bool) := [(.tmp 3, 4, false)]
noncomputable def e81 (R : Type) : Env R := ⟨TT, EQT, 1, 22, ownOf [], callOf [] R, loopOf [] R, [], inlOf []⟩
def p81 : FT81 := fun R a0 a1 k =>
let v1 : Bool := (decide (a0.1 > a1.1));
(match v1 with
| true => k true a1
| false => let v2 : Bool := (decide (a0.2.1 < (0 : Int)));
(match v2 with
| true => k true a1
| false => let v3 : Int := (List.length a1.2.1 : Int);
let v4 : Bool := (decide (a0.2.1 ≥ v3));
k v4 a1))
theorem q81 (F : FT81) (R : Type) (x : AT (en81 F).ins) (k : RT (en81 F).outs → PT (en81 F).ins → Option R) :
  xfun (e81 R) (codeOf Tryz.f81) res81 (avs (en81 F).ins x) (finK (en81 F).outs (en81 F).ins k) = p81 R x.1 x.2.1 (fun y1 p1 => k (y1, ()) (p1, ())) := by kernel_rfl
noncomputable def F81 : FT81 := p81
theorem env81 (R : Type) : EnvOK Tryz.prog (e81 R) := ⟨tabOK, eqOK, callOf_ok allE_nil, noIns, inlOK_nil⟩
theorem ok81 : (en81 F81).OK Tryz.prog :=
  ent_ok (Ef := fun R => e81 R) (fun R => env81 R) mixed Tryz.func81 (body := codeOf Tryz.f81) (by kernel_rfl) (by kernel_rfl) (np := 1) (nt := 22) (fun _ => rfl) (fun _ => rfl) (by kernel_rfl) (res := res81) (by kernel_rfl) (fun _ => rfl) (fun _ => Nat.le_of_ble_eq_true rfl) (by
    intro R
    rw [show loopsOf (codeOf Tryz.f81) = [] from by kernel_rfl]
    exact allM_nil) (fun R x k => q81 F81 R x k)
abbrev FT119081 : Type 1 := (R : Type) → (List Tq1) → Tq7 → (Int → Tq7 → Option R) → Option R
def en119081 (F : FT119081) : EntC := ⟨118, 81, Kq7, [(false, (.sl Kq1))], [(false, (.int .i64))], fun R x c k => F R x.1 c (fun y1 c1 => k (y1, ()) () c1)⟩
def res119081 : List (ResultVar × TypeId × Bool) := [(.tmp 4, 3, false)]
abbrev LT119081_2 : Type 1 := (R : Type) → (List Tq1) → Int → Int → Tq7 → (Int → Tq7 → Option R) → (Tq7 → Option R) → Option R
def le119081_2 (L : LT119081_2) : LEnt := ⟨2, [.val 0 (.sl Kq1), .fix 1 (.clo 81 [(0, Kq7)]), .val 7 (.int .i64), .val 8 (.int .i64), .var 0 Kq7 false], 1, [(.ret, [.val 4 (.int .i64), .var 0 Kq7 false]), (.exit 0, [.var 0 Kq7 false])], fun R x ke => L R x.1 x.2.1 x.2.2.1 x.2.2.2.1 (fun y1 y2 => ke.1 (y1, y2, ())) (fun y1 => ke.2.1 (y1, ()))⟩
noncomputable def e119081 (F81 : FT81) (L2 : LT119081_2) (R : Type) : Env R := ⟨TT, EQT, 1, 19, ownOf [], callOf [en81 F81] R, loopOf [le119081_2 L2] R, [], inlOf []⟩
def p119081_2 (F81 : FT81) : (R : Type) → (List Tq1) → Int → Int → Tq7 → ((List Tq1) → Int → Int → Tq7 → Option R) → (Int → Tq7 → Option R) → (Tq7 → Option R) → Option R := fun R x1 x2 x3 x4 kc k0 k1 =>
let v5 : Bool := (decide (x3 < x2));
(match v5 with
| true => (match (bnd x3 (List.length x1 : Int)) with
| true => let v6 : Tq1 := (List.getD x1 (Int.toNat x3) ((0 : Int), (0 : Int), ()));
F81 R v6 x4 fun y7 p8 =>
(match y7 with
| true => k0 x3 p8
| false => let v9 : Int := (IntKind.i64.wrap (x3 + (1 : Int)));
kc x1 x2 v9 p8)
| false => none)
| false => k1 x4)
theorem q119081_2 (F81 : FT81) (L2 : LT119081_2) (R : Type) (x : HT (le119081_2 L2).H) (kc : HT (le119081_2 L2).H → Option R) (ke : KT R (le119081_2 L2).exs) :
  exec (e119081 F81 L2 R) (lcode 2 (codeOf Tryz.f118)) (stOf (le119081_2 L2).H x 1) (roundK (le119081_2 L2).H (le119081_2 L2).exs kc ke) =
    p119081_2 F81 R x.1 x.2.1 x.2.2.1 x.2.2.2.1 (fun x1 x2 x3 x4 => kc (x1, x2, x3, x4, ())) (fun y1 y2 => ke.1 (y1, y2, ())) (fun y1 => ke.2.1 (y1, ())) := by kernel_rfl
noncomputable def G119081_2 : Nat → LT119081_2
  | 0 => fun _ _ _ _ _ _ _ => none
  | n + 1 => fun R x1 x2 x3 x4 k0 k1 => p119081_2 F81 R x1 x2 x3 x4 (fun x1 x2 x3 x4 => G119081_2 n R x1 x2 x3 x4 k0 k1) k0 k1
def p119081 (L2 : LT119081_2) : FT119081 := fun R a0 c0 k =>
let v1 : Int := (List.length a0 : Int);
L2 R a0 v1 (0 : Int) c0 (fun x2 x3 =>
k x2 x3) (fun x4 =>
k (-1 : Int) x4)
theorem q119081 (F81 : FT81) (L2 : LT119081_2) (F : FT119081) (R : Type) (x : AT (en119081 F).ins) (c : (en119081 F).ck.T) (k : RT (en119081 F).outs → PT (en119081 F).ins → (en119081 F).ck.T → Option R) :
  xfun (e119081 F81 L2 R) (codeOf Tryz.f118) res119081 (avs (en119081 F).ins x ++ [AV.clo 81 (en119081 F).ck c]) (finKC (en119081 F).outs (en119081 F).ins (en119081 F).ck k) = p119081 L2 R x.1 c (fun y1 c1 => k (y1, ()) () c1) := by kernel_rfl
noncomputable def F119081 : FT119081 := p119081 (G119081_2 FUEL)
theorem env119081 (R : Type) : EnvOK Tryz.prog (e119081 F81 (G119081_2 FUEL) R) := ⟨tabOK, eqOK, callOf_ok (allE_cons ok81 allE_nil), noIns, inlOK_nil⟩
noncomputable def T119081_2 : (R : Type) → HT (le119081_2 (G119081_2 FUEL)).H → (HT (le119081_2 (G119081_2 FUEL)).H → Option R) → KT R (le119081_2 (G119081_2 FUEL)).exs → Option R := fun R x kc ke => p119081_2 F81 R x.1 x.2.1 x.2.2.1 x.2.2.2.1 (fun x1 x2 x3 x4 => kc (x1, x2, x3, x4, ())) (fun y1 y2 => ke.1 (y1, y2, ())) (fun y1 => ke.2.1 (y1, ()))
theorem it119081_2 : ∀ (n : Nat) (R : Type) (x : HT (le119081_2 (G119081_2 FUEL)).H) (ke : KT R (le119081_2 (G119081_2 FUEL)).exs), iter T119081_2 n R x ke = G119081_2 n R x.1 x.2.1 x.2.2.1 x.2.2.2.1 (fun y1 y2 => ke.1 (y1, y2, ())) (fun y1 => ke.2.1 (y1, ())) := by
  intro n
  induction n with
  | zero => intro R x ke; rfl
  | succ n ih =>
    intro R x ke
    show T119081_2 R x (fun x' => iter T119081_2 n R x' ke) ke = _
    rw [show (fun x' => iter T119081_2 n R x' ke) = fun x => G119081_2 n R x.1 x.2.1 x.2.2.1 x.2.2.2.1 (fun y1 y2 => ke.1 (y1, y2, ())) (fun y1 => ke.2.1 (y1, ())) from funext fun x' => ih R x' ke]
    rfl
theorem lok119081_2 : (le119081_2 (G119081_2 FUEL)).OK Tryz.prog 1 19 (lcode 2 (codeOf Tryz.f118)) := fun R x ke r h =>
  iter_sound (fun R => e119081 F81 (G119081_2 FUEL) R) 1 19 (fun _ => rfl) (fun _ => rfl) (fun R => env119081 R) mixed (by
    intro R
    rw [show loopsOf (lcode 2 (codeOf Tryz.f118)) = [] from by kernel_rfl]
    exact allM_nil) (T := T119081_2) (fun R x kc ke => q119081_2 F81 (G119081_2 FUEL) R x kc ke) FUEL R x ke r ((it119081_2 FUEL R x ke).trans h)
theorem ok119081 : (en119081 F119081).OK Tryz.prog :=
  ent_okC (Ef := fun R => e119081 F81 (G119081_2 FUEL) R) (fun R => env119081 R) mixed Tryz.func118 (body := codeOf Tryz.f118) (by kernel_rfl) (by kernel_rfl) (np := 1) (nt := 19) (fun _ => rfl) (fun _ => rfl) (by kernel_rfl) (res := res119081) (by kernel_rfl) (fun _ _ => rfl) (fun _ _ => Nat.le_of_ble_eq_true rfl) (by
    intro R
    rw [show loopsOf (codeOf Tryz.f118) = [lcode 2 (codeOf Tryz.f118)] from by kernel_rfl]
    exact (allM_cons (loop_ok2 (e := le119081_2 (G119081_2 FUEL)) rfl rfl lok119081_2) allM_nil)) (fun R x c k => q119081 F81 (G119081_2 FUEL) F119081 R x c k)
abbrev FT81081 : Type 1 := (R : Type) → (List Tq1) → Tq7 → (Bool → Tq7 → Option R) → Option R
def en81081 (F : FT81081) : EntC := ⟨80, 81, Kq7, [(false, (.sl Kq1))], [(false, .bool)], fun R x c k => F R x.1 c (fun y1 c1 => k (y1, ()) () c1)⟩
def res81081 : List (ResultVar × TypeId × Bool) := [(.tmp 4, 4, false)]
noncomputable def e81081 (F119081 : FT119081) (R : Type) : Env R := ⟨TT, EQT, 1, 9, ownOf [], callOfC [en119081 F119081] [] [] R, loopOf [] R, [], inlOf []⟩
def p81081 (F119081 : FT119081) : FT81081 := fun R a0 c0 k =>
F119081 R a0 c0 fun y1 p2 =>
let v3 : Bool := (decide (y1 ≥ (0 : Int)));
k v3 p2
theorem q81081 (F119081 : FT119081) (F : FT81081) (R : Type) (x : AT (en81081 F).ins) (c : (en81081 F).ck.T) (k : RT (en81081 F).outs → PT (en81081 F).ins → (en81081 F).ck.T → Option R) :
  xfun (e81081 F119081 R) (codeOf Tryz.f80) res81081 (avs (en81081 F).ins x ++ [AV.clo 81 (en81081 F).ck c]) (finKC (en81081 F).outs (en81081 F).ins (en81081 F).ck k) = p81081 F119081 R x.1 c (fun y1 c1 => k (y1, ()) () c1) := by kernel_rfl
noncomputable def F81081 : FT81081 := p81081 F119081
theorem env81081 (R : Type) : EnvOK Tryz.prog (e81081 F119081 R) := ⟨tabOK, eqOK, callOfC_ok (allC_cons ok119081 allC_nil) allF_nil allE_nil, noIns, inlOK_nil⟩
theorem ok81081 : (en81081 F81081).OK Tryz.prog :=
  ent_okC (Ef := fun R => e81081 F119081 R) (fun R => env81081 R) mixed Tryz.func80 (body := codeOf Tryz.f80) (by kernel_rfl) (by kernel_rfl) (np := 1) (nt := 9) (fun _ => rfl) (fun _ => rfl) (by kernel_rfl) (res := res81081) (by kernel_rfl) (fun _ _ => rfl) (fun _ _ => Nat.le_of_ble_eq_true rfl) (by
    intro R
    rw [show loopsOf (codeOf Tryz.f80) = [] from by kernel_rfl]
    exact allM_nil) (fun R x c k => q81081 F119081 F81081 R x c k)
abbrev FT41 : Type 1 := (R : Type) → Tq7 → (Bool → Option R) → Option R
def en41 (F : FT41) : Ent := ⟨41, [(false, Kq7)], [(false, .bool)], fun R x k => F R x.1 (fun y1 => k (y1, ()) ())⟩
def res41 : List (ResultVar × TypeId × Bool) := [(.tmp 2, 4, false)]
noncomputable def e41 (F79 : FT79) (F81081 : FT81081) (R : Type) : Env R := ⟨TT, EQT, 0, 33, ownOf [], callOfC [en81081 F81081] [] [en79 F79] R, loopOf [] R, [], inlOf []⟩
def p41 (F79 : FT79) (F81081 : FT81081) : FT41 := fun R a0 k =>
let v1 : Int := (List.length a0.2.1 : Int);
let v2 : Int := (IntKind.u64.wrap v1);
F79 R v2 a0.1 fun y3 y4 =>
(match (!y4) with
| true => k false
| false => let v5 : Int := (List.length a0.2.1 : Int);
let v6 : Bool := (v5 == (0 : Int));
(match v6 with
| true => k false
| false => let v7 : Bool := (a0.1 == (0 : Int));
(match v7 with
| true => k false
| false => F81081 R a0.2.1 a0 fun y8 p9 =>
k (!y8))))
theorem q41 (F79 : FT79) (F81081 : FT81081) (F : FT41) (R : Type) (x : AT (en41 F).ins) (k : RT (en41 F).outs → PT (en41 F).ins → Option R) :
  xfun (e41 F79 F81081 R) (codeOf Tryz.f41) res41 (avs (en41 F).ins x) (finK (en41 F).outs (en41 F).ins k) = p41 F79 F81081 R x.1 (fun y1 => k (y1, ()) ()) := by kernel_rfl
noncomputable def F41 : FT41 := p41 F79 F81081
theorem env41 (R : Type) : EnvOK Tryz.prog (e41 F79 F81081 R) := ⟨tabOK, eqOK, callOfC_ok (allC_cons ok81081 allC_nil) allF_nil (allE_cons ok79 allE_nil), noIns, inlOK_nil⟩
theorem ok41 : (en41 F41).OK Tryz.prog :=
  ent_ok (Ef := fun R => e41 F79 F81081 R) (fun R => env41 R) mixed Tryz.func41 (body := codeOf Tryz.f41) (by kernel_rfl) (by kernel_rfl) (np := 0) (nt := 33) (fun _ => rfl) (fun _ => rfl) (by kernel_rfl) (res := res41) (by kernel_rfl) (fun _ => rfl) (fun _ => Nat.le_of_ble_eq_true rfl) (by
    intro R
    rw [show loopsOf (codeOf Tryz.f41) = [] from by kernel_rfl]
    exact allM_nil) (fun R x k => q41 F79 F81081 F41 R x k)
abbrev FT43 : Type 1 := (R : Type) → Tq7 → (Int → Option R) → Option R
def en43 (F : FT43) : Ent := ⟨43, [(false, Kq7)], [(false, (.int .u64))], fun R x k => F R x.1 (fun y1 => k (y1, ()) ())⟩
def res43 : List (ResultVar × TypeId × Bool) := [(.tmp 2, 22, false)]
noncomputable def e43 (F41 : FT41) (R : Type) : Env R := ⟨TT, EQT, 0, 13, ownOf [], callOf [en41 F41] R, loopOf [] R, [], inlOf []⟩
def p43 (F41 : FT41) : FT43 := fun R a0 k =>
F41 R a0 fun y1 =>
(match (!y1) with
| true => k (0 : Int)
| false => let v2 : Int := (List.length a0.2.1 : Int);
let v3 : Int := (IntKind.u64.wrap v2);
let v4 : Int := (IntKind.u64.wrap (v3 * a0.1));
k v4)
theorem q43 (F41 : FT41) (F : FT43) (R : Type) (x : AT (en43 F).ins) (k : RT (en43 F).outs → PT (en43 F).ins → Option R) :
  xfun (e43 F41 R) (codeOf Tryz.f43) res43 (avs (en43 F).ins x) (finK (en43 F).outs (en43 F).ins k) = p43 F41 R x.1 (fun y1 => k (y1, ()) ()) := by kernel_rfl
noncomputable def F43 : FT43 := p43 F41
theorem env43 (R : Type) : EnvOK Tryz.prog (e43 F41 R) := ⟨tabOK, eqOK, callOf_ok (allE_cons ok41 allE_nil), noIns, inlOK_nil⟩
theorem ok43 : (en43 F43).OK Tryz.prog :=
  ent_ok (Ef := fun R => e43 F41 R) (fun R => env43 R) mixed Tryz.func43 (body := codeOf Tryz.f43) (by kernel_rfl) (by kernel_rfl) (np := 0) (nt := 13) (fun _ => rfl) (fun _ => rfl) (by kernel_rfl) (res := res43) (by kernel_rfl) (fun _ => rfl) (fun _ => Nat.le_of_ble_eq_true rfl) (by
    intro R
    rw [show loopsOf (codeOf Tryz.f43) = [] from by kernel_rfl]
    exact allM_nil) (fun R x k => q43 F41 F43 R x k)
abbrev FT126 : Type 1 := (R : Type) → Tq6 → (Int → Bool → Option R) → Option R
def en126 (F : FT126) : Ent := ⟨126, [(false, Kq6)], [(false, (.int .u64)), (false, .bool)], fun R x k => F R x.1 (fun y1 y2 => k (y1, y2, ()) ())⟩
def res126 : List (ResultVar × TypeId × Bool) := [(.tmp 2, 22, false), (.tmp 3, 4, false)]
noncomputable def e126 (R : Type) : Env R := ⟨TT, EQT, 0, 20, ownOf [], callOf [] R, loopOf [] R, [], inlOf []⟩
def p126 : FT126 := fun R a0 k =>
let v1 : Bool := (a0.1 == (1 : Int));
(match v1 with
| true => let v2 : Int := (List.length a0.2.1 : Int);
let v3 : Int := (IntKind.u64.wrap v2);
let v4 : Int := (IntKind.u64.wrap (v3 * (8 : Int)));
let v5 : Bool := (decide (a0.2.2.1 ≤ v4));
k a0.2.2.1 v5
| false => let v6 : Bool := (a0.1 == (2 : Int));
(match v6 with
| true => k (4611686018427387904 : Int) true
| false => k (0 : Int) false))
theorem q126 (F : FT126) (R : Type) (x : AT (en126 F).ins) (k : RT (en126 F).outs → PT (en126 F).ins → Option R) :
  xfun (e126 R) (codeOf Tryz.f126) res126 (avs (en126 F).ins x) (finK (en126 F).outs (en126 F).ins k) = p126 R x.1 (fun y1 y2 => k (y1, y2, ()) ()) := by kernel_rfl
noncomputable def F126 : FT126 := p126
theorem env126 (R : Type) : EnvOK Tryz.prog (e126 R) := ⟨tabOK, eqOK, callOf_ok allE_nil, noIns, inlOK_nil⟩
theorem ok126 : (en126 F126).OK Tryz.prog :=
  ent_ok (Ef := fun R => e126 R) (fun R => env126 R) mixed Tryz.func126 (body := codeOf Tryz.f126) (by kernel_rfl) (by kernel_rfl) (np := 0) (nt := 20) (fun _ => rfl) (fun _ => rfl) (by kernel_rfl) (res := res126) (by kernel_rfl) (fun _ => rfl) (fun _ => Nat.le_of_ble_eq_true rfl) (by
    intro R
    rw [show loopsOf (codeOf Tryz.f126) = [] from by kernel_rfl]
    exact allM_nil) (fun R x k => q126 F126 R x k)
abbrev FT95 : Type 1 := (R : Type) → Tq6 → (Bool → Option R) → Option R
def en95 (F : FT95) : Ent := ⟨95, [(false, Kq6)], [(false, .bool)], fun R x k => F R x.1 (fun y1 => k (y1, ()) ())⟩
def res95 : List (ResultVar × TypeId × Bool) := [(.tmp 2, 4, false)]
noncomputable def e95 (F126 : FT126) (R : Type) : Env R := ⟨TT, EQT, 0, 17, ownOf [], callOf [en126 F126] R, loopOf [] R, [], inlOf []⟩
def p95 (F126 : FT126) : FT95 := fun R a0 k =>
F126 R a0 fun y1 y2 =>
(match y2 with
| true => let v3 : Bool := (decide (a0.2.2.2.2.2.1 ≤ y1));
k v3
| false => k false)
theorem q95 (F126 : FT126) (F : FT95) (R : Type) (x : AT (en95 F).ins) (k : RT (en95 F).outs → PT (en95 F).ins → Option R) :
  xfun (e95 F126 R) (codeOf Tryz.f95) res95 (avs (en95 F).ins x) (finK (en95 F).outs (en95 F).ins k) = p95 F126 R x.1 (fun y1 => k (y1, ()) ()) := by kernel_rfl
noncomputable def F95 : FT95 := p95 F126
theorem env95 (R : Type) : EnvOK Tryz.prog (e95 F126 R) := ⟨tabOK, eqOK, callOf_ok (allE_cons ok126 allE_nil), noIns, inlOK_nil⟩
theorem ok95 : (en95 F95).OK Tryz.prog :=
  ent_ok (Ef := fun R => e95 F126 R) (fun R => env95 R) mixed Tryz.func95 (body := codeOf Tryz.f95) (by kernel_rfl) (by kernel_rfl) (np := 0) (nt := 17) (fun _ => rfl) (fun _ => rfl) (by kernel_rfl) (res := res95) (by kernel_rfl) (fun _ => rfl) (fun _ => Nat.le_of_ble_eq_true rfl) (by
    intro R
    rw [show loopsOf (codeOf Tryz.f95) = [] from by kernel_rfl]
    exact allM_nil) (fun R x k => q95 F126 F95 R x k)
abbrev FT82 : Type 1 := (R : Type) → Tq6 → Int → Int → (Bool → Option R) → Option R
def en82 (F : FT82) : Ent := ⟨82, [(false, Kq6), (false, (.int .u64)), (false, (.int .i64))], [(false, .bool)], fun R x k => F R x.1 x.2.1 x.2.2.1 (fun y1 => k (y1, ()) ())⟩
def res82 : List (ResultVar × TypeId × Bool) := [(.tmp 6, 4, false)]
noncomputable def e82 (F95 : FT95) (R : Type) : Env R := ⟨TT, EQT, 0, 25, ownOf [], callOf [en95 F95] R, loopOf [] R, [], inlOf []⟩
def p82 (F95 : FT95) : FT82 := fun R a0 a1 a2 k =>
F95 R a0 fun y1 =>
(match y1 with
| true => let v2 : Bool := (decide (a1 > (0 : Int)));
(match v2 with
| true => let v3 : Bool := (decide (a1 < (9223372036854775808 : Int)));
(match v3 with
| true => let v4 : Bool := (decide (a2 > (0 : Int)));
(match v4 with
| true => let v5 : Bool := (decide (a2 ≤ (64 : Int)));
k v5
| false => k false)
| false => k false)
| false => k false)
| false => k false)
theorem q82 (F95 : FT95) (F : FT82) (R : Type) (x : AT (en82 F).ins) (k : RT (en82 F).outs → PT (en82 F).ins → Option R) :
  xfun (e82 F95 R) (codeOf Tryz.f82) res82 (avs (en82 F).ins x) (finK (en82 F).outs (en82 F).ins k) = p82 F95 R x.1 x.2.1 x.2.2.1 (fun y1 => k (y1, ()) ()) := by kernel_rfl
noncomputable def F82 : FT82 := p82 F95
theorem env82 (R : Type) : EnvOK Tryz.prog (e82 F95 R) := ⟨tabOK, eqOK, callOf_ok (allE_cons ok95 allE_nil), noIns, inlOK_nil⟩
theorem ok82 : (en82 F82).OK Tryz.prog :=
  ent_ok (Ef := fun R => e82 F95 R) (fun R => env82 R) mixed Tryz.func82 (body := codeOf Tryz.f82) (by kernel_rfl) (by kernel_rfl) (np := 0) (nt := 25) (fun _ => rfl) (fun _ => rfl) (by kernel_rfl) (res := res82) (by kernel_rfl) (fun _ => rfl) (fun _ => Nat.le_of_ble_eq_true rfl) (by
    intro R
    rw [show loopsOf (codeOf Tryz.f82) = [] from by kernel_rfl]
    exact allM_nil) (fun R x k => q82 F95 F82 R x k)
abbrev FT121 : Type 1 := (R : Type) → Int → (Int → Option R) → Option R
def en121 (F : FT121) : Ent := ⟨121, [(false, (.int .u64))], [(false, (.int .i64))], fun R x k => F R x.1 (fun y1 => k (y1, ()) ())⟩
def res121 : List (ResultVar × TypeId × Bool) := [(.tmp 2, 3, false)]
abbrev LT121_1 : Type 1 := (R : Type) → Int → Int → (Int → Option R) → Option R
def le121_1 (L : LT121_1) : LEnt := ⟨1, [.val 0 (.int .u64), .val 2 (.int .i64)], 0, [(.exit 0, [.val 2 (.int .i64)])], fun R x ke => L R x.1 x.2.1 (fun y1 => ke.1 (y1, ()))⟩
noncomputable def e121 (L1 : LT121_1) (R : Type) : Env R := ⟨TT, EQT, 0, 10, ownOf [], callOf [] R, loopOf [le121_1 L1] R, [], inlOf []⟩
def p121_1 : (R : Type) → Int → Int → (Int → Int → Option R) → (Int → Option R) → Option R := fun R x1 x2 kc k0 =>
let v3 : Bool := (x1 != (0 : Int));
(match v3 with
| true => let v4 : Int := (IntKind.i64.wrap (x2 + (1 : Int)));
let v5 : Int := (ishr .u64 x1 (1 : Int));
kc v5 v4
| false => k0 x2)
theorem q121_1 (L1 : LT121_1) (R : Type) (x : HT (le121_1 L1).H) (kc : HT (le121_1 L1).H → Option R) (ke : KT R (le121_1 L1).exs) :
  exec (e121 L1 R) (lcode 1 (codeOf Tryz.f121)) (stOf (le121_1 L1).H x 0) (roundK (le121_1 L1).H (le121_1 L1).exs kc ke) =
    p121_1 R x.1 x.2.1 (fun x1 x2 => kc (x1, x2, ())) (fun y1 => ke.1 (y1, ())) := by kernel_rfl
noncomputable def G121_1 : Nat → LT121_1
  | 0 => fun _ _ _ _ => none
  | n + 1 => fun R x1 x2 k0 => p121_1 R x1 x2 (fun x1 x2 => G121_1 n R x1 x2 k0) k0
def p121 (L1 : LT121_1) : FT121 := fun R a0 k =>
L1 R a0 (0 : Int) (fun x1 =>
k x1)
theorem q121 (L1 : LT121_1) (F : FT121) (R : Type) (x : AT (en121 F).ins) (k : RT (en121 F).outs → PT (en121 F).ins → Option R) :
  xfun (e121 L1 R) (codeOf Tryz.f121) res121 (avs (en121 F).ins x) (finK (en121 F).outs (en121 F).ins k) = p121 L1 R x.1 (fun y1 => k (y1, ()) ()) := by kernel_rfl
noncomputable def F121 : FT121 := p121 (G121_1 FUEL)
theorem env121 (R : Type) : EnvOK Tryz.prog (e121 (G121_1 FUEL) R) := ⟨tabOK, eqOK, callOf_ok allE_nil, noIns, inlOK_nil⟩
noncomputable def T121_1 : (R : Type) → HT (le121_1 (G121_1 FUEL)).H → (HT (le121_1 (G121_1 FUEL)).H → Option R) → KT R (le121_1 (G121_1 FUEL)).exs → Option R := fun R x kc ke => p121_1 R x.1 x.2.1 (fun x1 x2 => kc (x1, x2, ())) (fun y1 => ke.1 (y1, ()))
theorem it121_1 : ∀ (n : Nat) (R : Type) (x : HT (le121_1 (G121_1 FUEL)).H) (ke : KT R (le121_1 (G121_1 FUEL)).exs), iter T121_1 n R x ke = G121_1 n R x.1 x.2.1 (fun y1 => ke.1 (y1, ())) := by
  intro n
  induction n with
  | zero => intro R x ke; rfl
  | succ n ih =>
    intro R x ke
    show T121_1 R x (fun x' => iter T121_1 n R x' ke) ke = _
    rw [show (fun x' => iter T121_1 n R x' ke) = fun x => G121_1 n R x.1 x.2.1 (fun y1 => ke.1 (y1, ())) from funext fun x' => ih R x' ke]
    rfl
theorem lok121_1 : (le121_1 (G121_1 FUEL)).OK Tryz.prog 0 10 (lcode 1 (codeOf Tryz.f121)) := fun R x ke r h =>
  iter_sound (fun R => e121 (G121_1 FUEL) R) 0 10 (fun _ => rfl) (fun _ => rfl) (fun R => env121 R) mixed (by
    intro R
    rw [show loopsOf (lcode 1 (codeOf Tryz.f121)) = [] from by kernel_rfl]
    exact allM_nil) (T := T121_1) (fun R x kc ke => q121_1 (G121_1 FUEL) R x kc ke) FUEL R x ke r ((it121_1 FUEL R x ke).trans h)
theorem ok121 : (en121 F121).OK Tryz.prog :=
  ent_ok (Ef := fun R => e121 (G121_1 FUEL) R) (fun R => env121 R) mixed Tryz.func121 (body := codeOf Tryz.f121) (by kernel_rfl) (by kernel_rfl) (np := 0) (nt := 10) (fun _ => rfl) (fun _ => rfl) (by kernel_rfl) (res := res121) (by kernel_rfl) (fun _ => rfl) (fun _ => Nat.le_of_ble_eq_true rfl) (by
    intro R
    rw [show loopsOf (codeOf Tryz.f121) = [lcode 1 (codeOf Tryz.f121)] from by kernel_rfl]
    exact (allM_cons (loop_ok2 (e := le121_1 (G121_1 FUEL)) rfl rfl lok121_1) allM_nil)) (fun R x k => q121 (G121_1 FUEL) F121 R x k)
abbrev FT84 : Type 1 := (R : Type) → Int → (Int → Option R) → Option R
def en84 (F : FT84) : Ent := ⟨84, [(false, (.int .u64))], [(false, (.int .i64))], fun R x k => F R x.1 (fun y1 => k (y1, ()) ())⟩
def res84 : List (ResultVar × TypeId × Bool) := [(.tmp 2, 3, false)]
noncomputable def e84 (F121 : FT121) (R : Type) : Env R := ⟨TT, EQT, 0, 7, ownOf [], callOf [en121 F121] R, loopOf [] R, [], inlOf []⟩
def p84 (F121 : FT121) : FT84 := fun R a0 k =>
let v1 : Int := (if (1 : Int) > a0 then (1 : Int) else a0);
let v2 : Int := (IntKind.u64.wrap (v1 - (1 : Int)));
F121 R v2 fun y3 =>
k y3
theorem q84 (F121 : FT121) (F : FT84) (R : Type) (x : AT (en84 F).ins) (k : RT (en84 F).outs → PT (en84 F).ins → Option R) :
  xfun (e84 F121 R) (codeOf Tryz.f84) res84 (avs (en84 F).ins x) (finK (en84 F).outs (en84 F).ins k) = p84 F121 R x.1 (fun y1 => k (y1, ()) ()) := by kernel_rfl
noncomputable def F84 : FT84 := p84 F121
theorem env84 (R : Type) : EnvOK Tryz.prog (e84 F121 R) := ⟨tabOK, eqOK, callOf_ok (allE_cons ok121 allE_nil), noIns, inlOK_nil⟩
theorem ok84 : (en84 F84).OK Tryz.prog :=
  ent_ok (Ef := fun R => e84 F121 R) (fun R => env84 R) mixed Tryz.func84 (body := codeOf Tryz.f84) (by kernel_rfl) (by kernel_rfl) (np := 0) (nt := 7) (fun _ => rfl) (fun _ => rfl) (by kernel_rfl) (res := res84) (by kernel_rfl) (fun _ => rfl) (fun _ => Nat.le_of_ble_eq_true rfl) (by
    intro R
    rw [show loopsOf (codeOf Tryz.f84) = [] from by kernel_rfl]
    exact allM_nil) (fun R x k => q84 F121 F84 R x k)
abbrev FT119 : Type 1 := (R : Type) → Tq6 → (Int → Option R) → Option R
def en119 (F : FT119) : Ent := ⟨119, [(false, Kq6)], [(false, (.int .u64))], fun R x k => F R x.1 (fun y1 => k (y1, ()) ())⟩
def res119 : List (ResultVar × TypeId × Bool) := [(.tmp 2, 22, false)]
noncomputable def e119 (F95 : FT95) (F126 : FT126) (R : Type) : Env R := ⟨TT, EQT, 0, 17, ownOf [], callOf [en95 F95, en126 F126] R, loopOf [] R, [], inlOf []⟩
def p119 (F95 : FT95) (F126 : FT126) : FT119 := fun R a0 k =>
F95 R a0 fun y1 =>
(match (!y1) with
| true => k (0 : Int)
| false => F126 R a0 fun y2 y3 =>
let v4 : Int := (IntKind.u64.wrap (y2 - a0.2.2.2.2.2.1));
k v4)
theorem q119 (F95 : FT95) (F126 : FT126) (F : FT119) (R : Type) (x : AT (en119 F).ins) (k : RT (en119 F).outs → PT (en119 F).ins → Option R) :
  xfun (e119 F95 F126 R) (codeOf Tryz.f119) res119 (avs (en119 F).ins x) (finK (en119 F).outs (en119 F).ins k) = p119 F95 F126 R x.1 (fun y1 => k (y1, ()) ()) := by kernel_rfl
noncomputable def F119 : FT119 := p119 F95 F126
theorem env119 (R : Type) : EnvOK Tryz.prog (e119 F95 F126 R) := ⟨tabOK, eqOK, callOf_ok (allE_cons ok95 (allE_cons ok126 allE_nil)), noIns, inlOK_nil⟩
theorem ok119 : (en119 F119).OK Tryz.prog :=
  ent_ok (Ef := fun R => e119 F95 F126 R) (fun R => env119 R) mixed Tryz.func119 (body := codeOf Tryz.f119) (by kernel_rfl) (by kernel_rfl) (np := 0) (nt := 17) (fun _ => rfl) (fun _ => rfl) (by kernel_rfl) (res := res119) (by kernel_rfl) (fun _ => rfl) (fun _ => Nat.le_of_ble_eq_true rfl) (by
    intro R
    rw [show loopsOf (codeOf Tryz.f119) = [] from by kernel_rfl]
    exact allM_nil) (fun R x k => q119 F95 F126 F119 R x k)
abbrev FT147 : Type 1 := (R : Type) → Int → ((List Int) → Option R) → Option R
def en147 (F : FT147) : Ent := ⟨147, [(false, (.int .u64))], [(false, (.arr 8 (.int .u8)))], fun R x k => F R x.1 (fun y1 => k (y1, ()) ())⟩
def res147 : List (ResultVar × TypeId × Bool) := [(.cell 2 180, 180, false)]
abbrev LT147_2 : Type 1 := (R : Type) → Int → Int → (List Int) → ((List Int) → Option R) → Option R
def le147_2 (L : LT147_2) : LEnt := ⟨2, [.val 0 (.int .u64), .fix 2 (.ptr 0 [] (.arr 8 (.int .u8))), .val 4 (.int .i64), .var 0 (.arr 8 (.int .u8)) false], 1, [(.exit 0, [.fix 2 (.ptr 0 [] (.arr 8 (.int .u8))), .var 0 (.arr 8 (.int .u8)) false])], fun R x ke => L R x.1 x.2.1 x.2.2.1 (fun y1 => ke.1 (y1, ()))⟩
noncomputable def e147 (L2 : LT147_2) (R : Type) : Env R := ⟨TT, EQT, 0, 18, ownOf [], callOf [] R, loopOf [le147_2 L2] R, [], inlOf []⟩
def p147_2 : (R : Type) → Int → Int → (List Int) → (Int → Int → (List Int) → Option R) → ((List Int) → Option R) → Option R := fun R x1 x2 x3 kc k0 =>
let v4 : Bool := (decide (x2 < (8 : Int)));
(match v4 with
| true => let v5 : Int := (IntKind.i64.wrap ((7 : Int) - x2));
let v6 : Int := (IntKind.i64.wrap ((8 : Int) * v5));
let v7 : Int := (IntKind.u64.wrap v6);
(match (decide (0 ≤ v7)) with
| true => let v8 : Int := (ishr .u64 x1 v7);
let v9 : Int := (IntKind.u8.wrap v8);
(match (bnd x2 (8 : Int)) with
| true => let v10 : (List Int) := (List.set x3 (Int.toNat x2) v9);
let v11 : Int := (IntKind.i64.wrap (x2 + (1 : Int)));
kc x1 v11 v10
| false => none)
| false => none)
| false => k0 x3)
theorem q147_2 (L2 : LT147_2) (R : Type) (x : HT (le147_2 L2).H) (kc : HT (le147_2 L2).H → Option R) (ke : KT R (le147_2 L2).exs) :
  exec (e147 L2 R) (lcode 2 (codeOf Tryz.f147)) (stOf (le147_2 L2).H x 1) (roundK (le147_2 L2).H (le147_2 L2).exs kc ke) =
    p147_2 R x.1 x.2.1 x.2.2.1 (fun x1 x2 x3 => kc (x1, x2, x3, ())) (fun y1 => ke.1 (y1, ())) := by kernel_rfl
noncomputable def G147_2 : Nat → LT147_2
  | 0 => fun _ _ _ _ _ => none
  | n + 1 => fun R x1 x2 x3 k0 => p147_2 R x1 x2 x3 (fun x1 x2 x3 => G147_2 n R x1 x2 x3 k0) k0
def p147 (L2 : LT147_2) : FT147 := fun R a0 k =>
L2 R a0 (0 : Int) (List.replicate 8 (0 : Int)) (fun x1 =>
k x1)
theorem q147 (L2 : LT147_2) (F : FT147) (R : Type) (x : AT (en147 F).ins) (k : RT (en147 F).outs → PT (en147 F).ins → Option R) :
  xfun (e147 L2 R) (codeOf Tryz.f147) res147 (avs (en147 F).ins x) (finK (en147 F).outs (en147 F).ins k) = p147 L2 R x.1 (fun y1 => k (y1, ()) ()) := by kernel_rfl
noncomputable def F147 : FT147 := p147 (G147_2 FUEL)
theorem env147 (R : Type) : EnvOK Tryz.prog (e147 (G147_2 FUEL) R) := ⟨tabOK, eqOK, callOf_ok allE_nil, noIns, inlOK_nil⟩
noncomputable def T147_2 : (R : Type) → HT (le147_2 (G147_2 FUEL)).H → (HT (le147_2 (G147_2 FUEL)).H → Option R) → KT R (le147_2 (G147_2 FUEL)).exs → Option R := fun R x kc ke => p147_2 R x.1 x.2.1 x.2.2.1 (fun x1 x2 x3 => kc (x1, x2, x3, ())) (fun y1 => ke.1 (y1, ()))
theorem it147_2 : ∀ (n : Nat) (R : Type) (x : HT (le147_2 (G147_2 FUEL)).H) (ke : KT R (le147_2 (G147_2 FUEL)).exs), iter T147_2 n R x ke = G147_2 n R x.1 x.2.1 x.2.2.1 (fun y1 => ke.1 (y1, ())) := by
  intro n
  induction n with
  | zero => intro R x ke; rfl
  | succ n ih =>
    intro R x ke
    show T147_2 R x (fun x' => iter T147_2 n R x' ke) ke = _
    rw [show (fun x' => iter T147_2 n R x' ke) = fun x => G147_2 n R x.1 x.2.1 x.2.2.1 (fun y1 => ke.1 (y1, ())) from funext fun x' => ih R x' ke]
    rfl
theorem lok147_2 : (le147_2 (G147_2 FUEL)).OK Tryz.prog 0 18 (lcode 2 (codeOf Tryz.f147)) := fun R x ke r h =>
  iter_sound (fun R => e147 (G147_2 FUEL) R) 0 18 (fun _ => rfl) (fun _ => rfl) (fun R => env147 R) mixed (by
    intro R
    rw [show loopsOf (lcode 2 (codeOf Tryz.f147)) = [] from by kernel_rfl]
    exact allM_nil) (T := T147_2) (fun R x kc ke => q147_2 (G147_2 FUEL) R x kc ke) FUEL R x ke r ((it147_2 FUEL R x ke).trans h)
theorem ok147 : (en147 F147).OK Tryz.prog :=
  ent_ok (Ef := fun R => e147 (G147_2 FUEL) R) (fun R => env147 R) mixed Tryz.func147 (body := codeOf Tryz.f147) (by kernel_rfl) (by kernel_rfl) (np := 0) (nt := 18) (fun _ => rfl) (fun _ => rfl) (by kernel_rfl) (res := res147) (by kernel_rfl) (fun _ => rfl) (fun _ => Nat.le_of_ble_eq_true rfl) (by
    intro R
    rw [show loopsOf (codeOf Tryz.f147) = [lcode 2 (codeOf Tryz.f147)] from by kernel_rfl]
    exact (allM_cons (loop_ok2 (e := le147_2 (G147_2 FUEL)) rfl rfl lok147_2) allM_nil)) (fun R x k => q147 (G147_2 FUEL) F147 R x k)
abbrev FT161 : Type 1 := (R : Type) → ((List Int) → Option R) → Option R
def en161 (F : FT161) : Ent := ⟨161, [], [(false, (.arr 8 (.int .u32)))], fun R x k => F R  (fun y1 => k (y1, ()) ())⟩
def res161 : List (ResultVar × TypeId × Bool) := [(.cell 0 186, 186, false)]
noncomputable def e161 (R : Type) : Env R := ⟨TT, EQT, 0, 2, ownOf [], callOf [] R, loopOf [] R, [], inlOf []⟩
def p161 : FT161 := fun R k =>
let v1 : (List Int) := (List.set (List.set (List.set (List.set (List.set (List.set (List.set (List.set (List.replicate 8 (0 : Int)) 0 (1779033703 : Int)) 1 (3144134277 : Int)) 2 (1013904242 : Int)) 3 (2773480762 : Int)) 4 (1359893119 : Int)) 5 (2600822924 : Int)) 6 (528734635 : Int)) 7 (1541459225 : Int));
k v1
theorem q161 (F : FT161) (R : Type) (x : AT (en161 F).ins) (k : RT (en161 F).outs → PT (en161 F).ins → Option R) :
  xfun (e161 R) (codeOf Tryz.f161) res161 (avs (en161 F).ins x) (finK (en161 F).outs (en161 F).ins k) = p161 R  (fun y1 => k (y1, ()) ()) := by kernel_rfl
noncomputable def F161 : FT161 := p161
theorem env161 (R : Type) : EnvOK Tryz.prog (e161 R) := ⟨tabOK, eqOK, callOf_ok allE_nil, noIns, inlOK_nil⟩
theorem ok161 : (en161 F161).OK Tryz.prog :=
  ent_ok (Ef := fun R => e161 R) (fun R => env161 R) mixed Tryz.func161 (body := codeOf Tryz.f161) (by kernel_rfl) (by kernel_rfl) (np := 0) (nt := 2) (fun _ => rfl) (fun _ => rfl) (by kernel_rfl) (res := res161) (by kernel_rfl) (fun _ => rfl) (fun _ => Nat.le_of_ble_eq_true rfl) (by
    intro R
    rw [show loopsOf (codeOf Tryz.f161) = [] from by kernel_rfl]
    exact allM_nil) (fun R x k => q161 F161 R x k)
abbrev FT152 : Type 1 := (R : Type) → (Tq9 → Option R) → Option R
def en152 (F : FT152) : Ent := ⟨152, [], [(false, Kq9)], fun R x k => F R  (fun y1 => k (y1, ()) ())⟩
def res152 : List (ResultVar × TypeId × Bool) := [(.cell 0 188, 188, false)]
noncomputable def e152 (F161 : FT161) (R : Type) : Env R := ⟨TT, EQT, 0, 3, ownOf [], callOf [en161 F161] R, loopOf [] R, [], inlOf []⟩
def p152 (F161 : FT161) : FT152 := fun R k =>
F161 R  fun y1 =>
k (y1, ([] : (List Int)), (0 : Int), ())
theorem q152 (F161 : FT161) (F : FT152) (R : Type) (x : AT (en152 F).ins) (k : RT (en152 F).outs → PT (en152 F).ins → Option R) :
  xfun (e152 F161 R) (codeOf Tryz.f152) res152 (avs (en152 F).ins x) (finK (en152 F).outs (en152 F).ins k) = p152 F161 R  (fun y1 => k (y1, ()) ()) := by kernel_rfl
noncomputable def F152 : FT152 := p152 F161
theorem env152 (R : Type) : EnvOK Tryz.prog (e152 F161 R) := ⟨tabOK, eqOK, callOf_ok (allE_cons ok161 allE_nil), noIns, inlOK_nil⟩
theorem ok152 : (en152 F152).OK Tryz.prog :=
  ent_ok (Ef := fun R => e152 F161 R) (fun R => env152 R) mixed Tryz.func152 (body := codeOf Tryz.f152) (by kernel_rfl) (by kernel_rfl) (np := 0) (nt := 3) (fun _ => rfl) (fun _ => rfl) (by kernel_rfl) (res := res152) (by kernel_rfl) (fun _ => rfl) (fun _ => Nat.le_of_ble_eq_true rfl) (by
    intro R
    rw [show loopsOf (codeOf Tryz.f152) = [] from by kernel_rfl]
    exact allM_nil) (fun R x k => q152 F161 F152 R x k)
abbrev FT159 : Type 1 := (R : Type) → Tq9 → (Bool → Option R) → Option R
def en159 (F : FT159) : Ent := ⟨159, [(false, Kq9)], [(false, .bool)], fun R x k => F R x.1 (fun y1 => k (y1, ()) ())⟩
def res159 : List (ResultVar × TypeId × Bool) := [(.tmp 2, 4, false)]
noncomputable def e159 (R : Type) : Env R := ⟨TT, EQT, 0, 16, ownOf [], callOf [] R, loopOf [] R, [], inlOf []⟩
def p159 : FT159 := fun R a0 k =>
let v1 : Bool := (decide (a0.2.2.1 < (2305843009213693952 : Int)));
(match v1 with
| true => let v2 : Int := (List.length a0.2.1 : Int);
let v3 : Int := (IntKind.u64.wrap v2);
let v4 : Int := (iand .u64 a0.2.2.1 (63 : Int));
let v5 : Bool := (v3 == v4);
k v5
| false => k false)
theorem q159 (F : FT159) (R : Type) (x : AT (en159 F).ins) (k : RT (en159 F).outs → PT (en159 F).ins → Option R) :
  xfun (e159 R) (codeOf Tryz.f159) res159 (avs (en159 F).ins x) (finK (en159 F).outs (en159 F).ins k) = p159 R x.1 (fun y1 => k (y1, ()) ()) := by kernel_rfl
noncomputable def F159 : FT159 := p159
theorem env159 (R : Type) : EnvOK Tryz.prog (e159 R) := ⟨tabOK, eqOK, callOf_ok allE_nil, noIns, inlOK_nil⟩
theorem ok159 : (en159 F159).OK Tryz.prog :=
  ent_ok (Ef := fun R => e159 R) (fun R => env159 R) mixed Tryz.func159 (body := codeOf Tryz.f159) (by kernel_rfl) (by kernel_rfl) (np := 0) (nt := 16) (fun _ => rfl) (fun _ => rfl) (by kernel_rfl) (res := res159) (by kernel_rfl) (fun _ => rfl) (fun _ => Nat.le_of_ble_eq_true rfl) (by
    intro R
    rw [show loopsOf (codeOf Tryz.f159) = [] from by kernel_rfl]
    exact allM_nil) (fun R x k => q159 F159 R x k)
abbrev FT168 : Type 1 := (R : Type) → (List Int) → ((List Int) → Option R) → Option R
def en168 (F : FT168) : Ent := ⟨168, [(false, (.sl (.int .u8)))], [(true, (.int .u8))], fun R x k => F R x.1 (fun y1 => k (y1, ()) ())⟩
def e168 : Env (RT [(true, (.int .u8))]) := ⟨TT, EQT, 0, 8, ownOf [(2, 0), (3, 0)], fun _ _ _ => none, fun _ _ _ => none, [], inlOf []⟩
def F168 : FT168 := fun R a0 k => match decide (List.length ([] : (List Int)) + List.length a0 ≤ 140737488355328) with | true => k a0 | false => none
theorem ok168 : (en168 F168).OK Tryz.prog :=
  clone_ok (e := (.int .u8)) e168 ⟨tabOK, eqOK, (fun f b K r h => by cases h), noIns, inlOK_nil⟩ mixed Tryz.func168 (body := codeOf Tryz.f168) (by kernel_rfl) (by kernel_rfl) (by kernel_rfl) (res := [(.tmp 2, 26, true)]) (by kernel_rfl) rfl (by decide) (by kernel_rfl) (lim := 140737488355328) (by kernel_rfl) (fun l => by kernel_rfl)
abbrev FT170 : Type 1 := (R : Type) → (List Int) → ((List (List Int)) → (List Int) → Option R) → Option R
def en170 (F : FT170) : Ent := ⟨170, [(false, (.sl (.int .u8)))], [(false, (.sl (.arr 64 (.int .u8)))), (false, (.sl (.int .u8)))], fun R x k => F R x.1 (fun y1 y2 => k (y1, y2, ()) ())⟩
def res170 : List (ResultVar × TypeId × Bool) := [(.tmp 2, 194, false), (.tmp 3, 26, false)]
abbrev LT170_1 : Type 1 := (R : Type) → (List Int) → (List (List Int)) → ((List Int) → (List (List Int)) → Option R) → Option R
def le170_1 (L : LT170_1) : LEnt := ⟨1, [.val 0 (.sl (.int .u8)), .fix 2 (.own 0 0), .row 0 (.arr 64 (.int .u8)) false], 1, [(.exit 0, [.val 0 (.sl (.int .u8)), .fix 2 (.own 0 0), .row 0 (.arr 64 (.int .u8)) false])], fun R x ke => L R x.1 x.2.1 (fun y1 y2 => ke.1 (y1, y2, ()))⟩
noncomputable def e170 (L1 : LT170_1) (R : Type) : Env R := ⟨TT, EQT, 0, 17, ownOf [(0, 0)], callOf [] R, loopOf [le170_1 L1] R, [], inlOf []⟩
def p170_1 : (R : Type) → (List Int) → (List (List Int)) → ((List Int) → (List (List Int)) → Option R) → ((List Int) → (List (List Int)) → Option R) → Option R := fun R x1 x2 kc k0 =>
let v3 : Int := (List.length x1 : Int);
let v4 : Bool := (decide (v3 ≥ (64 : Int)));
(match v4 with
| true => (match (decide ((64 : Int) ≤ (List.length x1 : Int))) with
| true => let v5 : (List Int) := (List.take 64 x1);
let v6 : (List (List Int)) := ([v5] : (List (List Int)));
(match (decide (List.length x2 + List.length v6 ≤ 2199023255552)) with
| true => let v7 : (List (List Int)) := (x2 ++ v6);
(match (decide (0 ≤ (64 : Int) ∧ (64 : Int) ≤ (List.length x1 : Int) ∧ (List.length x1 : Int) ≤ (List.length x1 : Int) ∧ (List.length x1 : Int) ≤ (List.length x1 : Int))) with
| true => let v8 : (List Int) := (List.take (Int.toNat ((List.length x1 : Int) - (64 : Int))) (List.drop 64 x1));
kc v8 v7
| false => none)
| false => none)
| false => none)
| false => k0 x1 x2)
theorem q170_1 (L1 : LT170_1) (R : Type) (x : HT (le170_1 L1).H) (kc : HT (le170_1 L1).H → Option R) (ke : KT R (le170_1 L1).exs) :
  exec (e170 L1 R) (lcode 1 (codeOf Tryz.f170)) (stOf (le170_1 L1).H x 1) (roundK (le170_1 L1).H (le170_1 L1).exs kc ke) =
    p170_1 R x.1 x.2.1 (fun x1 x2 => kc (x1, x2, ())) (fun y1 y2 => ke.1 (y1, y2, ())) := by kernel_rfl
noncomputable def G170_1 : Nat → LT170_1
  | 0 => fun _ _ _ _ => none
  | n + 1 => fun R x1 x2 k0 => p170_1 R x1 x2 (fun x1 x2 => G170_1 n R x1 x2 k0) k0
def p170 (L1 : LT170_1) : FT170 := fun R a0 k =>
L1 R a0 ([] : (List (List Int))) (fun x1 x2 =>
k x2 x1)
theorem q170 (L1 : LT170_1) (F : FT170) (R : Type) (x : AT (en170 F).ins) (k : RT (en170 F).outs → PT (en170 F).ins → Option R) :
  xfun (e170 L1 R) (codeOf Tryz.f170) res170 (avs (en170 F).ins x) (finK (en170 F).outs (en170 F).ins k) = p170 L1 R x.1 (fun y1 y2 => k (y1, y2, ()) ()) := by kernel_rfl
noncomputable def F170 : FT170 := p170 (G170_1 FUEL)
theorem env170 (R : Type) : EnvOK Tryz.prog (e170 (G170_1 FUEL) R) := ⟨tabOK, eqOK, callOf_ok allE_nil, noIns, inlOK_nil⟩
noncomputable def T170_1 : (R : Type) → HT (le170_1 (G170_1 FUEL)).H → (HT (le170_1 (G170_1 FUEL)).H → Option R) → KT R (le170_1 (G170_1 FUEL)).exs → Option R := fun R x kc ke => p170_1 R x.1 x.2.1 (fun x1 x2 => kc (x1, x2, ())) (fun y1 y2 => ke.1 (y1, y2, ()))
theorem it170_1 : ∀ (n : Nat) (R : Type) (x : HT (le170_1 (G170_1 FUEL)).H) (ke : KT R (le170_1 (G170_1 FUEL)).exs), iter T170_1 n R x ke = G170_1 n R x.1 x.2.1 (fun y1 y2 => ke.1 (y1, y2, ())) := by
  intro n
  induction n with
  | zero => intro R x ke; rfl
  | succ n ih =>
    intro R x ke
    show T170_1 R x (fun x' => iter T170_1 n R x' ke) ke = _
    rw [show (fun x' => iter T170_1 n R x' ke) = fun x => G170_1 n R x.1 x.2.1 (fun y1 y2 => ke.1 (y1, y2, ())) from funext fun x' => ih R x' ke]
    rfl
theorem lok170_1 : (le170_1 (G170_1 FUEL)).OK Tryz.prog 0 17 (lcode 1 (codeOf Tryz.f170)) := fun R x ke r h =>
  iter_sound (fun R => e170 (G170_1 FUEL) R) 0 17 (fun _ => rfl) (fun _ => rfl) (fun R => env170 R) mixed (by
    intro R
    rw [show loopsOf (lcode 1 (codeOf Tryz.f170)) = [] from by kernel_rfl]
    exact allM_nil) (T := T170_1) (fun R x kc ke => q170_1 (G170_1 FUEL) R x kc ke) FUEL R x ke r ((it170_1 FUEL R x ke).trans h)
theorem ok170 : (en170 F170).OK Tryz.prog :=
  ent_ok (Ef := fun R => e170 (G170_1 FUEL) R) (fun R => env170 R) mixed Tryz.func170 (body := codeOf Tryz.f170) (by kernel_rfl) (by kernel_rfl) (np := 0) (nt := 17) (fun _ => rfl) (fun _ => rfl) (by kernel_rfl) (res := res170) (by kernel_rfl) (fun _ => rfl) (fun _ => Nat.le_of_ble_eq_true rfl) (by
    intro R
    rw [show loopsOf (codeOf Tryz.f170) = [lcode 1 (codeOf Tryz.f170)] from by kernel_rfl]
    exact (allM_cons (loop_ok2 (e := le170_1 (G170_1 FUEL)) rfl rfl lok170_1) allM_nil)) (fun R x k => q170 (G170_1 FUEL) F170 R x k)
abbrev FT176 : Type 1 := (R : Type) → ((List Int) → Option R) → Option R
def en176 (F : FT176) : Ent := ⟨176, [], [(false, (.arr 64 (.int .u32)))], fun R x k => F R  (fun y1 => k (y1, ()) ())⟩
def res176 : List (ResultVar × TypeId × Bool) := [(.cell 0 213, 213, false)]
noncomputable def e176 (R : Type) : Env R := ⟨TT, EQT, 0, 2, ownOf [], callOf [] R, loopOf [] R, [], inlOf []⟩
def p176 : FT176 := fun R k =>
let v1 : (List Int) := (List.set (List.set (List.set (List.set (List.set (List.set (List.set (List.set (List.set (List.set (List.set (List.set (List.set (List.set (List.set (List.set (List.set (List.set (List.set (List.set (List.set (List.set (List.set (List.set (List.set (List.set (List.set (List.set (List.set (List.set (List.set (List.set (List.set (List.set (List.set (List.set (List.set (List.set (List.set (List.set (List.set (List.set (List.set (List.set (List.set (List.set (List.set (List.set (List.set (List.set (List.set (List.set (List.set (List.set (List.set (List.set (List.set (List.set (List.set (List.set (List.set (List.set (List.set (List.set (List.replicate 64 (0 : Int)) 0 (1116352408 : Int)) 1 (1899447441 : Int)) 2 (3049323471 : Int)) 3 (3921009573 : Int)) 4 (961987163 : Int)) 5 (1508970993 : Int)) 6 (2453635748 : Int)) 7 (2870763221 : Int)) 8 (3624381080 : Int)) 9 (310598401 : Int)) 10 (607225278 : Int)) 11 (1426881987 : Int)) 12 (1925078388 : Int)) 13 (2162078206 : Int)) 14 (2614888103 : Int)) 15 (3248222580 : Int)) 16 (3835390401 : Int)) 17 (4022224774 : Int)) 18 (264347078 : Int)) 19 (604807628 : Int)) 20 (770255983 : Int)) 21 (1249150122 : Int)) 22 (1555081692 : Int)) 23 (1996064986 : Int)) 24 (2554220882 : Int)) 25 (2821834349 : Int)) 26 (2952996808 : Int)) 27 (3210313671 : Int)) 28 (3336571891 : Int)) 29 (3584528711 : Int)) 30 (113926993 : Int)) 31 (338241895 : Int)) 32 (666307205 : Int)) 33 (773529912 : Int)) 34 (1294757372 : Int)) 35 (1396182291 : Int)) 36 (1695183700 : Int)) 37 (1986661051 : Int)) 38 (2177026350 : Int)) 39 (2456956037 : Int)) 40 (2730485921 : Int)) 41 (2820302411 : Int)) 42 (3259730800 : Int)) 43 (3345764771 : Int)) 44 (3516065817 : Int)) 45 (3600352804 : Int)) 46 (4094571909 : Int)) 47 (275423344 : Int)) 48 (430227734 : Int)) 49 (506948616 : Int)) 50 (659060556 : Int)) 51 (883997877 : Int)) 52 (958139571 : Int)) 53 (1322822218 : Int)) 54 (1537002063 : Int)) 55 (1747873779 : Int)) 56 (1955562222 : Int)) 57 (2024104815 : Int)) 58 (2227730452 : Int)) 59 (2361852424 : Int)) 60 (2428436474 : Int)) 61 (2756734187 : Int)) 62 (3204031479 : Int)) 63 (3329325298 : Int));
k v1
theorem q176 (F : FT176) (R : Type) (x : AT (en176 F).ins) (k : RT (en176 F).outs → PT (en176 F).ins → Option R) :
  xfun (e176 R) (codeOf Tryz.f176) res176 (avs (en176 F).ins x) (finK (en176 F).outs (en176 F).ins k) = p176 R  (fun y1 => k (y1, ()) ()) := by kernel_rfl
noncomputable def F176 : FT176 := p176
theorem env176 (R : Type) : EnvOK Tryz.prog (e176 R) := ⟨tabOK, eqOK, callOf_ok allE_nil, noIns, inlOK_nil⟩
theorem ok176 : (en176 F176).OK Tryz.prog :=
  ent_ok (Ef := fun R => e176 R) (fun R => env176 R) mixed Tryz.func176 (body := codeOf Tryz.f176) (by kernel_rfl) (by kernel_rfl) (np := 0) (nt := 2) (fun _ => rfl) (fun _ => rfl) (by kernel_rfl) (res := res176) (by kernel_rfl) (fun _ => rfl) (fun _ => Nat.le_of_ble_eq_true rfl) (by
    intro R
    rw [show loopsOf (codeOf Tryz.f176) = [] from by kernel_rfl]
    exact allM_nil) (fun R x k => q176 F176 R x k)
abbrev FT185 : Type 1 := (R : Type) → (List Int) → (Int → Option R) → Option R
def en185 (F : FT185) : Ent := ⟨185, [(false, (.arr 4 (.int .u8)))], [(false, (.int .u32))], fun R x k => F R x.1 (fun y1 => k (y1, ()) ())⟩
def res185 : List (ResultVar × TypeId × Bool) := [(.tmp 2, 84, false)]
abbrev LT185_2 : Type 1 := (R : Type) → Int → (List Int) → Int → (Int → Option R) → Option R
def le185_2 (L : LT185_2) : LEnt := ⟨2, [.val 2 (.int .u32), .val 5 (.arr 4 (.int .u8)), .val 6 (.int .i64)], 0, [(.exit 0, [.val 2 (.int .u32)])], fun R x ke => L R x.1 x.2.1 x.2.2.1 (fun y1 => ke.1 (y1, ()))⟩
noncomputable def e185 (L2 : LT185_2) (R : Type) : Env R := ⟨TT, EQT, 0, 16, ownOf [], callOf [] R, loopOf [le185_2 L2] R, [], inlOf []⟩
def p185_2 : (R : Type) → Int → (List Int) → Int → (Int → (List Int) → Int → Option R) → (Int → Option R) → Option R := fun R x1 x2 x3 kc k0 =>
let v4 : Bool := (decide (x3 < (4 : Int)));
(match v4 with
| true => (match (bnd x3 (4 : Int)) with
| true => let v5 : Int := (List.getD x2 (Int.toNat x3) (0 : Int));
let v6 : Int := (ishl .u32 x1 (8 : Int));
let v7 : Int := (IntKind.u32.wrap v5);
let v8 : Int := (ior .u32 v6 v7);
let v9 : Int := (IntKind.i64.wrap (x3 + (1 : Int)));
kc v8 x2 v9
| false => none)
| false => k0 x1)
theorem q185_2 (L2 : LT185_2) (R : Type) (x : HT (le185_2 L2).H) (kc : HT (le185_2 L2).H → Option R) (ke : KT R (le185_2 L2).exs) :
  exec (e185 L2 R) (lcode 2 (codeOf Tryz.f185)) (stOf (le185_2 L2).H x 0) (roundK (le185_2 L2).H (le185_2 L2).exs kc ke) =
    p185_2 R x.1 x.2.1 x.2.2.1 (fun x1 x2 x3 => kc (x1, x2, x3, ())) (fun y1 => ke.1 (y1, ())) := by kernel_rfl
noncomputable def G185_2 : Nat → LT185_2
  | 0 => fun _ _ _ _ _ => none
  | n + 1 => fun R x1 x2 x3 k0 => p185_2 R x1 x2 x3 (fun x1 x2 x3 => G185_2 n R x1 x2 x3 k0) k0
def p185 (L2 : LT185_2) : FT185 := fun R a0 k =>
L2 R (0 : Int) a0 (0 : Int) (fun x1 =>
k x1)
theorem q185 (L2 : LT185_2) (F : FT185) (R : Type) (x : AT (en185 F).ins) (k : RT (en185 F).outs → PT (en185 F).ins → Option R) :
  xfun (e185 L2 R) (codeOf Tryz.f185) res185 (avs (en185 F).ins x) (finK (en185 F).outs (en185 F).ins k) = p185 L2 R x.1 (fun y1 => k (y1, ()) ()) := by kernel_rfl
noncomputable def F185 : FT185 := p185 (G185_2 FUEL)
theorem env185 (R : Type) : EnvOK Tryz.prog (e185 (G185_2 FUEL) R) := ⟨tabOK, eqOK, callOf_ok allE_nil, noIns, inlOK_nil⟩
noncomputable def T185_2 : (R : Type) → HT (le185_2 (G185_2 FUEL)).H → (HT (le185_2 (G185_2 FUEL)).H → Option R) → KT R (le185_2 (G185_2 FUEL)).exs → Option R := fun R x kc ke => p185_2 R x.1 x.2.1 x.2.2.1 (fun x1 x2 x3 => kc (x1, x2, x3, ())) (fun y1 => ke.1 (y1, ()))
theorem it185_2 : ∀ (n : Nat) (R : Type) (x : HT (le185_2 (G185_2 FUEL)).H) (ke : KT R (le185_2 (G185_2 FUEL)).exs), iter T185_2 n R x ke = G185_2 n R x.1 x.2.1 x.2.2.1 (fun y1 => ke.1 (y1, ())) := by
  intro n
  induction n with
  | zero => intro R x ke; rfl
  | succ n ih =>
    intro R x ke
    show T185_2 R x (fun x' => iter T185_2 n R x' ke) ke = _
    rw [show (fun x' => iter T185_2 n R x' ke) = fun x => G185_2 n R x.1 x.2.1 x.2.2.1 (fun y1 => ke.1 (y1, ())) from funext fun x' => ih R x' ke]
    rfl
theorem lok185_2 : (le185_2 (G185_2 FUEL)).OK Tryz.prog 0 16 (lcode 2 (codeOf Tryz.f185)) := fun R x ke r h =>
  iter_sound (fun R => e185 (G185_2 FUEL) R) 0 16 (fun _ => rfl) (fun _ => rfl) (fun R => env185 R) mixed (by
    intro R
    rw [show loopsOf (lcode 2 (codeOf Tryz.f185)) = [] from by kernel_rfl]
    exact allM_nil) (T := T185_2) (fun R x kc ke => q185_2 (G185_2 FUEL) R x kc ke) FUEL R x ke r ((it185_2 FUEL R x ke).trans h)
theorem ok185 : (en185 F185).OK Tryz.prog :=
  ent_ok (Ef := fun R => e185 (G185_2 FUEL) R) (fun R => env185 R) mixed Tryz.func185 (body := codeOf Tryz.f185) (by kernel_rfl) (by kernel_rfl) (np := 0) (nt := 16) (fun _ => rfl) (fun _ => rfl) (by kernel_rfl) (res := res185) (by kernel_rfl) (fun _ => rfl) (fun _ => Nat.le_of_ble_eq_true rfl) (by
    intro R
    rw [show loopsOf (codeOf Tryz.f185) = [lcode 2 (codeOf Tryz.f185)] from by kernel_rfl]
    exact (allM_cons (loop_ok2 (e := le185_2 (G185_2 FUEL)) rfl rfl lok185_2) allM_nil)) (fun R x k => q185 (G185_2 FUEL) F185 R x k)
abbrev FT193 : Type 1 := (R : Type) → Int → Int → (Int → Option R) → Option R
def en193 (F : FT193) : Ent := ⟨193, [(false, (.int .u32)), (false, (.int .i64))], [(false, (.int .u32))], fun R x k => F R x.1 x.2.1 (fun y1 => k (y1, ()) ())⟩
def res193 : List (ResultVar × TypeId × Bool) := [(.tmp 4, 84, false)]
noncomputable def e193 (R : Type) : Env R := ⟨TT, EQT, 0, 17, ownOf [], callOf [] R, loopOf [] R, [], inlOf []⟩
def p193 : FT193 := fun R a0 a1 k =>
let v1 : Int := (IntKind.u64.wrap a1);
let v2 : Int := (Int.tmod v1 (32 : Int));
(match (decide (0 ≤ v2)) with
| true => let v3 : Int := (ishr .u32 a0 v2);
let v4 : Int := (IntKind.u64.wrap ((32 : Int) - v2));
(match (decide (0 ≤ v4)) with
| true => let v5 : Int := (ishl .u32 a0 v4);
let v6 : Int := (ior .u32 v3 v5);
k v6
| false => none)
| false => none)
theorem q193 (F : FT193) (R : Type) (x : AT (en193 F).ins) (k : RT (en193 F).outs → PT (en193 F).ins → Option R) :
  xfun (e193 R) (codeOf Tryz.f193) res193 (avs (en193 F).ins x) (finK (en193 F).outs (en193 F).ins k) = p193 R x.1 x.2.1 (fun y1 => k (y1, ()) ()) := by kernel_rfl
noncomputable def F193 : FT193 := p193
theorem env193 (R : Type) : EnvOK Tryz.prog (e193 R) := ⟨tabOK, eqOK, callOf_ok allE_nil, noIns, inlOK_nil⟩
theorem ok193 : (en193 F193).OK Tryz.prog :=
  ent_ok (Ef := fun R => e193 R) (fun R => env193 R) mixed Tryz.func193 (body := codeOf Tryz.f193) (by kernel_rfl) (by kernel_rfl) (np := 0) (nt := 17) (fun _ => rfl) (fun _ => rfl) (by kernel_rfl) (res := res193) (by kernel_rfl) (fun _ => rfl) (fun _ => Nat.le_of_ble_eq_true rfl) (by
    intro R
    rw [show loopsOf (codeOf Tryz.f193) = [] from by kernel_rfl]
    exact allM_nil) (fun R x k => q193 F193 R x k)
abbrev FT194 : Type 1 := (R : Type) → Int → Int → (Int → Option R) → Option R
def en194 (F : FT194) : Ent := ⟨194, [(false, (.int .u32)), (false, (.int .i64))], [(false, (.int .u32))], fun R x k => F R x.1 x.2.1 (fun y1 => k (y1, ()) ())⟩
def res194 : List (ResultVar × TypeId × Bool) := [(.tmp 4, 84, false)]
noncomputable def e194 (R : Type) : Env R := ⟨TT, EQT, 0, 10, ownOf [], callOf [] R, loopOf [] R, [], inlOf []⟩
def p194 : FT194 := fun R a0 a1 k =>
let v1 : Int := (if (0 : Int) > a1 then (0 : Int) else a1);
let v2 : Int := (IntKind.u64.wrap v1);
(match (decide (0 ≤ v2)) with
| true => let v3 : Int := (ishr .u32 a0 v2);
k v3
| false => none)
theorem q194 (F : FT194) (R : Type) (x : AT (en194 F).ins) (k : RT (en194 F).outs → PT (en194 F).ins → Option R) :
  xfun (e194 R) (codeOf Tryz.f194) res194 (avs (en194 F).ins x) (finK (en194 F).outs (en194 F).ins k) = p194 R x.1 x.2.1 (fun y1 => k (y1, ()) ()) := by kernel_rfl
noncomputable def F194 : FT194 := p194
theorem env194 (R : Type) : EnvOK Tryz.prog (e194 R) := ⟨tabOK, eqOK, callOf_ok allE_nil, noIns, inlOK_nil⟩
theorem ok194 : (en194 F194).OK Tryz.prog :=
  ent_ok (Ef := fun R => e194 R) (fun R => env194 R) mixed Tryz.func194 (body := codeOf Tryz.f194) (by kernel_rfl) (by kernel_rfl) (np := 0) (nt := 10) (fun _ => rfl) (fun _ => rfl) (by kernel_rfl) (res := res194) (by kernel_rfl) (fun _ => rfl) (fun _ => Nat.le_of_ble_eq_true rfl) (by
    intro R
    rw [show loopsOf (codeOf Tryz.f194) = [] from by kernel_rfl]
    exact allM_nil) (fun R x k => q194 F194 R x k)
abbrev FT191 : Type 1 := (R : Type) → Int → Int → Int → Int → (Int → Option R) → Option R
def en191 (F : FT191) : Ent := ⟨191, [(false, (.int .u32)), (false, (.int .i64)), (false, (.int .i64)), (false, (.int .i64))], [(false, (.int .u32))], fun R x k => F R x.1 x.2.1 x.2.2.1 x.2.2.2.1 (fun y1 => k (y1, ()) ())⟩
def res191 : List (ResultVar × TypeId × Bool) := [(.tmp 8, 84, false)]
noncomputable def e191 (F193 : FT193) (F194 : FT194) (R : Type) : Env R := ⟨TT, EQT, 0, 20, ownOf [], callOf [en193 F193, en194 F194] R, loopOf [] R, [], inlOf []⟩
def p191 (F193 : FT193) (F194 : FT194) : FT191 := fun R a0 a1 a2 a3 k =>
F193 R a0 a1 fun y1 =>
F193 R a0 a2 fun y2 =>
let v3 : Int := (ixor .u32 y1 y2);
F194 R a0 a3 fun y4 =>
let v5 : Int := (ixor .u32 v3 y4);
k v5
theorem q191 (F193 : FT193) (F194 : FT194) (F : FT191) (R : Type) (x : AT (en191 F).ins) (k : RT (en191 F).outs → PT (en191 F).ins → Option R) :
  xfun (e191 F193 F194 R) (codeOf Tryz.f191) res191 (avs (en191 F).ins x) (finK (en191 F).outs (en191 F).ins k) = p191 F193 F194 R x.1 x.2.1 x.2.2.1 x.2.2.2.1 (fun y1 => k (y1, ()) ()) := by kernel_rfl
noncomputable def F191 : FT191 := p191 F193 F194
theorem env191 (R : Type) : EnvOK Tryz.prog (e191 F193 F194 R) := ⟨tabOK, eqOK, callOf_ok (allE_cons ok193 (allE_cons ok194 allE_nil)), noIns, inlOK_nil⟩
theorem ok191 : (en191 F191).OK Tryz.prog :=
  ent_ok (Ef := fun R => e191 F193 F194 R) (fun R => env191 R) mixed Tryz.func191 (body := codeOf Tryz.f191) (by kernel_rfl) (by kernel_rfl) (np := 0) (nt := 20) (fun _ => rfl) (fun _ => rfl) (by kernel_rfl) (res := res191) (by kernel_rfl) (fun _ => rfl) (fun _ => Nat.le_of_ble_eq_true rfl) (by
    intro R
    rw [show loopsOf (codeOf Tryz.f191) = [] from by kernel_rfl]
    exact allM_nil) (fun R x k => q191 F193 F194 F191 R x k)
abbrev FT186 : Type 1 := (R : Type) → Int → (Int → Option R) → Option R
def en186 (F : FT186) : Ent := ⟨186, [(false, (.int .u32))], [(false, (.int .u32))], fun R x k => F R x.1 (fun y1 => k (y1, ()) ())⟩
def res186 : List (ResultVar × TypeId × Bool) := [(.tmp 2, 84, false)]
noncomputable def e186 (F191 : FT191) (R : Type) : Env R := ⟨TT, EQT, 0, 5, ownOf [], callOf [en191 F191] R, loopOf [] R, [], inlOf []⟩
def p186 (F191 : FT191) : FT186 := fun R a0 k =>
F191 R a0 (17 : Int) (19 : Int) (10 : Int) fun y1 =>
k y1
theorem q186 (F191 : FT191) (F : FT186) (R : Type) (x : AT (en186 F).ins) (k : RT (en186 F).outs → PT (en186 F).ins → Option R) :
  xfun (e186 F191 R) (codeOf Tryz.f186) res186 (avs (en186 F).ins x) (finK (en186 F).outs (en186 F).ins k) = p186 F191 R x.1 (fun y1 => k (y1, ()) ()) := by kernel_rfl
noncomputable def F186 : FT186 := p186 F191
theorem env186 (R : Type) : EnvOK Tryz.prog (e186 F191 R) := ⟨tabOK, eqOK, callOf_ok (allE_cons ok191 allE_nil), noIns, inlOK_nil⟩
theorem ok186 : (en186 F186).OK Tryz.prog :=
  ent_ok (Ef := fun R => e186 F191 R) (fun R => env186 R) mixed Tryz.func186 (body := codeOf Tryz.f186) (by kernel_rfl) (by kernel_rfl) (np := 0) (nt := 5) (fun _ => rfl) (fun _ => rfl) (by kernel_rfl) (res := res186) (by kernel_rfl) (fun _ => rfl) (fun _ => Nat.le_of_ble_eq_true rfl) (by
    intro R
    rw [show loopsOf (codeOf Tryz.f186) = [] from by kernel_rfl]
    exact allM_nil) (fun R x k => q186 F191 F186 R x k)
abbrev FT187 : Type 1 := (R : Type) → Int → (Int → Option R) → Option R
def en187 (F : FT187) : Ent := ⟨187, [(false, (.int .u32))], [(false, (.int .u32))], fun R x k => F R x.1 (fun y1 => k (y1, ()) ())⟩
def res187 : List (ResultVar × TypeId × Bool) := [(.tmp 2, 84, false)]
noncomputable def e187 (F191 : FT191) (R : Type) : Env R := ⟨TT, EQT, 0, 5, ownOf [], callOf [en191 F191] R, loopOf [] R, [], inlOf []⟩
def p187 (F191 : FT191) : FT187 := fun R a0 k =>
F191 R a0 (7 : Int) (18 : Int) (3 : Int) fun y1 =>
k y1
theorem q187 (F191 : FT191) (F : FT187) (R : Type) (x : AT (en187 F).ins) (k : RT (en187 F).outs → PT (en187 F).ins → Option R) :
  xfun (e187 F191 R) (codeOf Tryz.f187) res187 (avs (en187 F).ins x) (finK (en187 F).outs (en187 F).ins k) = p187 F191 R x.1 (fun y1 => k (y1, ()) ()) := by kernel_rfl
noncomputable def F187 : FT187 := p187 F191
theorem env187 (R : Type) : EnvOK Tryz.prog (e187 F191 R) := ⟨tabOK, eqOK, callOf_ok (allE_cons ok191 allE_nil), noIns, inlOK_nil⟩
theorem ok187 : (en187 F187).OK Tryz.prog :=
  ent_ok (Ef := fun R => e187 F191 R) (fun R => env187 R) mixed Tryz.func187 (body := codeOf Tryz.f187) (by kernel_rfl) (by kernel_rfl) (np := 0) (nt := 5) (fun _ => rfl) (fun _ => rfl) (by kernel_rfl) (res := res187) (by kernel_rfl) (fun _ => rfl) (fun _ => Nat.le_of_ble_eq_true rfl) (by
    intro R
    rw [show loopsOf (codeOf Tryz.f187) = [] from by kernel_rfl]
    exact allM_nil) (fun R x k => q187 F191 F187 R x k)
abbrev FT177 : Type 1 := (R : Type) → (List Int) → ((List Int) → Option R) → Option R
def en177 (F : FT177) : Ent := ⟨177, [(false, (.arr 64 (.int .u8)))], [(false, (.arr 64 (.int .u32)))], fun R x k => F R x.1 (fun y1 => k (y1, ()) ())⟩
def res177 : List (ResultVar × TypeId × Bool) := [(.cell 2 214, 214, false)]
abbrev LT177_2 : Type 1 := (R : Type) → Int → (List Int) → (List Int) → ((List Int) → Option R) → Option R
def le177_2 (L : LT177_2) : LEnt := ⟨2, [.fix 1 (.ptr 0 [] (.arr 64 (.int .u8))), .fix 2 (.ptr 1 [] (.arr 64 (.int .u32))), .val 5 (.int .i64), .var 0 (.arr 64 (.int .u8)) false, .var 1 (.arr 64 (.int .u32)) false], 2, [(.exit 0, [.fix 2 (.ptr 1 [] (.arr 64 (.int .u32))), .var 1 (.arr 64 (.int .u32)) false])], fun R x ke => L R x.1 x.2.1 x.2.2.1 (fun y1 => ke.1 (y1, ()))⟩
noncomputable def e177 (F185 : FT185) (F186 : FT186) (F187 : FT187) (L2 : LT177_2) (R : Type) : Env R := ⟨TT, EQT, 0, 46, ownOf [], callOf [en185 F185, en186 F186, en187 F187] R, loopOf [le177_2 L2] R, [], inlOf []⟩
def p177_2 (F185 : FT185) (F186 : FT186) (F187 : FT187) : (R : Type) → Int → (List Int) → (List Int) → (Int → (List Int) → (List Int) → Option R) → ((List Int) → Option R) → Option R := fun R x1 x2 x3 kc k0 =>
let v4 : Bool := (decide (x1 < (64 : Int)));
(match v4 with
| true => let v5 : Int := (IntKind.i64.wrap ((4 : Int) * x1));
let v6 : Bool := (decide (v5 < (64 : Int)));
(match v6 with
| true => let v7 : Int := (IntKind.i64.wrap (v5 + (4 : Int)));
(match (decide (0 ≤ v5 ∧ v5 ≤ v7 ∧ v7 ≤ (64 : Int))) with
| true => (match (decide ((4 : Int) ≤ ((Int.toNat (v7 - v5)) : Nat))) with
| true => let v8 : (List Int) := (List.take 4 (List.drop (Int.toNat v5) x2));
F185 R v8 fun y9 =>
(match (bnd x1 (64 : Int)) with
| true => let v10 : (List Int) := (List.set x3 (Int.toNat x1) y9);
let v11 : Int := (IntKind.i64.wrap (x1 + (1 : Int)));
kc v11 x2 v10
| false => none)
| false => none)
| false => none)
| false => let v12 : Int := (IntKind.i64.wrap (x1 - (2 : Int)));
(match (bnd v12 (64 : Int)) with
| true => let v13 : Int := (List.getD x3 (Int.toNat v12) (0 : Int));
F186 R v13 fun y14 =>
let v15 : Int := (IntKind.i64.wrap (x1 - (7 : Int)));
(match (bnd v15 (64 : Int)) with
| true => let v16 : Int := (List.getD x3 (Int.toNat v15) (0 : Int));
let v17 : Int := (IntKind.u32.wrap (y14 + v16));
let v18 : Int := (IntKind.i64.wrap (x1 - (15 : Int)));
(match (bnd v18 (64 : Int)) with
| true => let v19 : Int := (List.getD x3 (Int.toNat v18) (0 : Int));
F187 R v19 fun y20 =>
let v21 : Int := (IntKind.u32.wrap (v17 + y20));
let v22 : Int := (IntKind.i64.wrap (x1 - (16 : Int)));
(match (bnd v22 (64 : Int)) with
| true => let v23 : Int := (List.getD x3 (Int.toNat v22) (0 : Int));
let v24 : Int := (IntKind.u32.wrap (v21 + v23));
(match (bnd x1 (64 : Int)) with
| true => let v25 : (List Int) := (List.set x3 (Int.toNat x1) v24);
let v26 : Int := (IntKind.i64.wrap (x1 + (1 : Int)));
kc v26 x2 v25
| false => none)
| false => none)
| false => none)
| false => none)
| false => none))
| false => k0 x3)
theorem q177_2 (F185 : FT185) (F186 : FT186) (F187 : FT187) (L2 : LT177_2) (R : Type) (x : HT (le177_2 L2).H) (kc : HT (le177_2 L2).H → Option R) (ke : KT R (le177_2 L2).exs) :
  exec (e177 F185 F186 F187 L2 R) (lcode 2 (codeOf Tryz.f177)) (stOf (le177_2 L2).H x 2) (roundK (le177_2 L2).H (le177_2 L2).exs kc ke) =
    p177_2 F185 F186 F187 R x.1 x.2.1 x.2.2.1 (fun x1 x2 x3 => kc (x1, x2, x3, ())) (fun y1 => ke.1 (y1, ())) := by kernel_rfl
noncomputable def G177_2 : Nat → LT177_2
  | 0 => fun _ _ _ _ _ => none
  | n + 1 => fun R x1 x2 x3 k0 => p177_2 F185 F186 F187 R x1 x2 x3 (fun x1 x2 x3 => G177_2 n R x1 x2 x3 k0) k0
def p177 (L2 : LT177_2) : FT177 := fun R a0 k =>
L2 R (0 : Int) a0 (List.replicate 64 (0 : Int)) (fun x1 =>
k x1)
theorem q177 (F185 : FT185) (F186 : FT186) (F187 : FT187) (L2 : LT177_2) (F : FT177) (R : Type) (x : AT (en177 F).ins) (k : RT (en177 F).outs → PT (en177 F).ins → Option R) :
  xfun (e177 F185 F186 F187 L2 R) (codeOf Tryz.f177) res177 (avs (en177 F).ins x) (finK (en177 F).outs (en177 F).ins k) = p177 L2 R x.1 (fun y1 => k (y1, ()) ()) := by kernel_rfl
noncomputable def F177 : FT177 := p177 (G177_2 FUEL)
theorem env177 (R : Type) : EnvOK Tryz.prog (e177 F185 F186 F187 (G177_2 FUEL) R) := ⟨tabOK, eqOK, callOf_ok (allE_cons ok185 (allE_cons ok186 (allE_cons ok187 allE_nil))), noIns, inlOK_nil⟩
noncomputable def T177_2 : (R : Type) → HT (le177_2 (G177_2 FUEL)).H → (HT (le177_2 (G177_2 FUEL)).H → Option R) → KT R (le177_2 (G177_2 FUEL)).exs → Option R := fun R x kc ke => p177_2 F185 F186 F187 R x.1 x.2.1 x.2.2.1 (fun x1 x2 x3 => kc (x1, x2, x3, ())) (fun y1 => ke.1 (y1, ()))
theorem it177_2 : ∀ (n : Nat) (R : Type) (x : HT (le177_2 (G177_2 FUEL)).H) (ke : KT R (le177_2 (G177_2 FUEL)).exs), iter T177_2 n R x ke = G177_2 n R x.1 x.2.1 x.2.2.1 (fun y1 => ke.1 (y1, ())) := by
  intro n
  induction n with
  | zero => intro R x ke; rfl
  | succ n ih =>
    intro R x ke
    show T177_2 R x (fun x' => iter T177_2 n R x' ke) ke = _
    rw [show (fun x' => iter T177_2 n R x' ke) = fun x => G177_2 n R x.1 x.2.1 x.2.2.1 (fun y1 => ke.1 (y1, ())) from funext fun x' => ih R x' ke]
    rfl
theorem lok177_2 : (le177_2 (G177_2 FUEL)).OK Tryz.prog 0 46 (lcode 2 (codeOf Tryz.f177)) := fun R x ke r h =>
  iter_sound (fun R => e177 F185 F186 F187 (G177_2 FUEL) R) 0 46 (fun _ => rfl) (fun _ => rfl) (fun R => env177 R) mixed (by
    intro R
    rw [show loopsOf (lcode 2 (codeOf Tryz.f177)) = [] from by kernel_rfl]
    exact allM_nil) (T := T177_2) (fun R x kc ke => q177_2 F185 F186 F187 (G177_2 FUEL) R x kc ke) FUEL R x ke r ((it177_2 FUEL R x ke).trans h)
theorem ok177 : (en177 F177).OK Tryz.prog :=
  ent_ok (Ef := fun R => e177 F185 F186 F187 (G177_2 FUEL) R) (fun R => env177 R) mixed Tryz.func177 (body := codeOf Tryz.f177) (by kernel_rfl) (by kernel_rfl) (np := 0) (nt := 46) (fun _ => rfl) (fun _ => rfl) (by kernel_rfl) (res := res177) (by kernel_rfl) (fun _ => rfl) (fun _ => Nat.le_of_ble_eq_true rfl) (by
    intro R
    rw [show loopsOf (codeOf Tryz.f177) = [lcode 2 (codeOf Tryz.f177)] from by kernel_rfl]
    exact (allM_cons (loop_ok2 (e := le177_2 (G177_2 FUEL)) rfl rfl lok177_2) allM_nil)) (fun R x k => q177 F185 F186 F187 (G177_2 FUEL) F177 R x k)
abbrev FT192 : Type 1 := (R : Type) → Int → Int → Int → Int → (Int → Option R) → Option R
def en192 (F : FT192) : Ent := ⟨192, [(false, (.int .u32)), (false, (.int .i64)), (false, (.int .i64)), (false, (.int .i64))], [(false, (.int .u32))], fun R x k => F R x.1 x.2.1 x.2.2.1 x.2.2.2.1 (fun y1 => k (y1, ()) ())⟩
def res192 : List (ResultVar × TypeId × Bool) := [(.tmp 8, 84, false)]
noncomputable def e192 (F193 : FT193) (R : Type) : Env R := ⟨TT, EQT, 0, 20, ownOf [], callOf [en193 F193] R, loopOf [] R, [], inlOf []⟩
def p192 (F193 : FT193) : FT192 := fun R a0 a1 a2 a3 k =>
F193 R a0 a1 fun y1 =>
F193 R a0 a2 fun y2 =>
let v3 : Int := (ixor .u32 y1 y2);
F193 R a0 a3 fun y4 =>
let v5 : Int := (ixor .u32 v3 y4);
k v5
theorem q192 (F193 : FT193) (F : FT192) (R : Type) (x : AT (en192 F).ins) (k : RT (en192 F).outs → PT (en192 F).ins → Option R) :
  xfun (e192 F193 R) (codeOf Tryz.f192) res192 (avs (en192 F).ins x) (finK (en192 F).outs (en192 F).ins k) = p192 F193 R x.1 x.2.1 x.2.2.1 x.2.2.2.1 (fun y1 => k (y1, ()) ()) := by kernel_rfl
noncomputable def F192 : FT192 := p192 F193
theorem env192 (R : Type) : EnvOK Tryz.prog (e192 F193 R) := ⟨tabOK, eqOK, callOf_ok (allE_cons ok193 allE_nil), noIns, inlOK_nil⟩
theorem ok192 : (en192 F192).OK Tryz.prog :=
  ent_ok (Ef := fun R => e192 F193 R) (fun R => env192 R) mixed Tryz.func192 (body := codeOf Tryz.f192) (by kernel_rfl) (by kernel_rfl) (np := 0) (nt := 20) (fun _ => rfl) (fun _ => rfl) (by kernel_rfl) (res := res192) (by kernel_rfl) (fun _ => rfl) (fun _ => Nat.le_of_ble_eq_true rfl) (by
    intro R
    rw [show loopsOf (codeOf Tryz.f192) = [] from by kernel_rfl]
    exact allM_nil) (fun R x k => q192 F193 F192 R x k)
abbrev FT188 : Type 1 := (R : Type) → Int → Int → Int → (Int → Option R) → Option R
def en188 (F : FT188) : Ent := ⟨188, [(false, (.int .u32)), (false, (.int .u32)), (false, (.int .u32))], [(false, (.int .u32))], fun R x k => F R x.1 x.2.1 x.2.2.1 (fun y1 => k (y1, ()) ())⟩
def res188 : List (ResultVar × TypeId × Bool) := [(.tmp 6, 84, false)]
noncomputable def e188 (F192 : FT192) (R : Type) : Env R := ⟨TT, EQT, 0, 18, ownOf [], callOf [en192 F192] R, loopOf [] R, [], inlOf []⟩
def p188 (F192 : FT192) : FT188 := fun R a0 a1 a2 k =>
F192 R a0 (6 : Int) (11 : Int) (25 : Int) fun y1 =>
let v2 : Int := (iand .u32 a0 a1);
let v3 : Int := (ixor .u32 (4294967295 : Int) a0);
let v4 : Int := (iand .u32 v3 a2);
let v5 : Int := (ixor .u32 v2 v4);
let v6 : Int := (IntKind.u32.wrap (y1 + v5));
k v6
theorem q188 (F192 : FT192) (F : FT188) (R : Type) (x : AT (en188 F).ins) (k : RT (en188 F).outs → PT (en188 F).ins → Option R) :
  xfun (e188 F192 R) (codeOf Tryz.f188) res188 (avs (en188 F).ins x) (finK (en188 F).outs (en188 F).ins k) = p188 F192 R x.1 x.2.1 x.2.2.1 (fun y1 => k (y1, ()) ()) := by kernel_rfl
noncomputable def F188 : FT188 := p188 F192
theorem env188 (R : Type) : EnvOK Tryz.prog (e188 F192 R) := ⟨tabOK, eqOK, callOf_ok (allE_cons ok192 allE_nil), noIns, inlOK_nil⟩
theorem ok188 : (en188 F188).OK Tryz.prog :=
  ent_ok (Ef := fun R => e188 F192 R) (fun R => env188 R) mixed Tryz.func188 (body := codeOf Tryz.f188) (by kernel_rfl) (by kernel_rfl) (np := 0) (nt := 18) (fun _ => rfl) (fun _ => rfl) (by kernel_rfl) (res := res188) (by kernel_rfl) (fun _ => rfl) (fun _ => Nat.le_of_ble_eq_true rfl) (by
    intro R
    rw [show loopsOf (codeOf Tryz.f188) = [] from by kernel_rfl]
    exact allM_nil) (fun R x k => q188 F192 F188 R x k)
abbrev FT189 : Type 1 := (R : Type) → Int → Int → Int → (Int → Option R) → Option R
def en189 (F : FT189) : Ent := ⟨189, [(false, (.int .u32)), (false, (.int .u32)), (false, (.int .u32))], [(false, (.int .u32))], fun R x k => F R x.1 x.2.1 x.2.2.1 (fun y1 => k (y1, ()) ())⟩
def res189 : List (ResultVar × TypeId × Bool) := [(.tmp 6, 84, false)]
noncomputable def e189 (F192 : FT192) (R : Type) : Env R := ⟨TT, EQT, 0, 21, ownOf [], callOf [en192 F192] R, loopOf [] R, [], inlOf []⟩
def p189 (F192 : FT192) : FT189 := fun R a0 a1 a2 k =>
F192 R a0 (2 : Int) (13 : Int) (22 : Int) fun y1 =>
let v2 : Int := (iand .u32 a0 a1);
let v3 : Int := (iand .u32 a0 a2);
let v4 : Int := (ixor .u32 v2 v3);
let v5 : Int := (iand .u32 a1 a2);
let v6 : Int := (ixor .u32 v4 v5);
let v7 : Int := (IntKind.u32.wrap (y1 + v6));
k v7
theorem q189 (F192 : FT192) (F : FT189) (R : Type) (x : AT (en189 F).ins) (k : RT (en189 F).outs → PT (en189 F).ins → Option R) :
  xfun (e189 F192 R) (codeOf Tryz.f189) res189 (avs (en189 F).ins x) (finK (en189 F).outs (en189 F).ins k) = p189 F192 R x.1 x.2.1 x.2.2.1 (fun y1 => k (y1, ()) ()) := by kernel_rfl
noncomputable def F189 : FT189 := p189 F192
theorem env189 (R : Type) : EnvOK Tryz.prog (e189 F192 R) := ⟨tabOK, eqOK, callOf_ok (allE_cons ok192 allE_nil), noIns, inlOK_nil⟩
theorem ok189 : (en189 F189).OK Tryz.prog :=
  ent_ok (Ef := fun R => e189 F192 R) (fun R => env189 R) mixed Tryz.func189 (body := codeOf Tryz.f189) (by kernel_rfl) (by kernel_rfl) (np := 0) (nt := 21) (fun _ => rfl) (fun _ => rfl) (by kernel_rfl) (res := res189) (by kernel_rfl) (fun _ => rfl) (fun _ => Nat.le_of_ble_eq_true rfl) (by
    intro R
    rw [show loopsOf (codeOf Tryz.f189) = [] from by kernel_rfl]
    exact allM_nil) (fun R x k => q189 F192 F189 R x k)
abbrev FT178 : Type 1 := (R : Type) → (List Int) → Int → Int → ((List Int) → Option R) → Option R
def en178 (F : FT178) : Ent := ⟨178, [(false, (.arr 8 (.int .u32))), (false, (.int .u32)), (false, (.int .u32))], [(false, (.arr 8 (.int .u32)))], fun R x k => F R x.1 x.2.1 x.2.2.1 (fun y1 => k (y1, ()) ())⟩
def res178 : List (ResultVar × TypeId × Bool) := [(.cell 6 186, 186, false)]
noncomputable def e178 (F188 : FT188) (F189 : FT189) (R : Type) : Env R := ⟨TT, EQT, 0, 41, ownOf [], callOf [en188 F188, en189 F189] R, loopOf [] R, [], inlOf []⟩
def p178 (F188 : FT188) (F189 : FT189) : FT178 := fun R a0 a1 a2 k =>
let v1 : Int := (List.getD a0 7 (0 : Int));
let v2 : Int := (List.getD a0 4 (0 : Int));
let v3 : Int := (List.getD a0 5 (0 : Int));
let v4 : Int := (List.getD a0 6 (0 : Int));
F188 R v2 v3 v4 fun y5 =>
let v6 : Int := (IntKind.u32.wrap (v1 + y5));
let v7 : Int := (IntKind.u32.wrap (v6 + a2));
let v8 : Int := (IntKind.u32.wrap (v7 + a1));
let v9 : (List Int) := (lay (List.replicate 8 (0 : Int)) 1 (List.take 7 (List.take 7 (List.drop 0 a0))));
let v10 : Int := (List.getD a0 0 (0 : Int));
let v11 : Int := (List.getD a0 1 (0 : Int));
let v12 : Int := (List.getD a0 2 (0 : Int));
F189 R v10 v11 v12 fun y13 =>
let v14 : Int := (IntKind.u32.wrap (v8 + y13));
let v15 : (List Int) := (List.set v9 0 v14);
let v16 : Int := (List.getD v15 4 (0 : Int));
let v17 : Int := (IntKind.u32.wrap (v16 + v8));
let v18 : (List Int) := (List.set v15 4 v17);
k v18
theorem q178 (F188 : FT188) (F189 : FT189) (F : FT178) (R : Type) (x : AT (en178 F).ins) (k : RT (en178 F).outs → PT (en178 F).ins → Option R) :
  xfun (e178 F188 F189 R) (codeOf Tryz.f178) res178 (avs (en178 F).ins x) (finK (en178 F).outs (en178 F).ins k) = p178 F188 F189 R x.1 x.2.1 x.2.2.1 (fun y1 => k (y1, ()) ()) := by kernel_rfl
noncomputable def F178 : FT178 := p178 F188 F189
theorem env178 (R : Type) : EnvOK Tryz.prog (e178 F188 F189 R) := ⟨tabOK, eqOK, callOf_ok (allE_cons ok188 (allE_cons ok189 allE_nil)), noIns, inlOK_nil⟩
theorem ok178 : (en178 F178).OK Tryz.prog :=
  ent_ok (Ef := fun R => e178 F188 F189 R) (fun R => env178 R) mixed Tryz.func178 (body := codeOf Tryz.f178) (by kernel_rfl) (by kernel_rfl) (np := 0) (nt := 41) (fun _ => rfl) (fun _ => rfl) (by kernel_rfl) (res := res178) (by kernel_rfl) (fun _ => rfl) (fun _ => Nat.le_of_ble_eq_true rfl) (by
    intro R
    rw [show loopsOf (codeOf Tryz.f178) = [] from by kernel_rfl]
    exact allM_nil) (fun R x k => q178 F188 F189 F178 R x k)
abbrev FT171 : Type 1 := (R : Type) → (List Int) → (List Int) → ((List Int) → Option R) → Option R
def en171 (F : FT171) : Ent := ⟨171, [(false, (.arr 8 (.int .u32))), (false, (.arr 64 (.int .u8)))], [(false, (.arr 8 (.int .u32)))], fun R x k => F R x.1 x.2.1 (fun y1 => k (y1, ()) ())⟩
def res171 : List (ResultVar × TypeId × Bool) := [(.cell 4 186, 186, false)]
abbrev LT171_3 : Type 1 := (R : Type) → (List Int) → Int → (List Int) → (List Int) → (List Int) → (List Int) → ((List Int) → (List Int) → (List Int) → Option R) → Option R
def le171_3 (L : LT171_3) : LEnt := ⟨3, [.fix 2 (.ptr 0 [] (.arr 8 (.int .u32))), .fix 4 (.ptr 2 [] (.arr 8 (.int .u32))), .fix 5 (.ptr 3 [] (.arr 8 (.int .u32))), .fix 6 (.ptr 4 [] (.arr 64 (.int .u32))), .val 13 (.arr 64 (.int .u32)), .val 14 (.int .i64), .var 0 (.arr 8 (.int .u32)) false, .var 2 (.arr 8 (.int .u32)) false, .var 3 (.arr 8 (.int .u32)) false, .var 4 (.arr 64 (.int .u32)) false], 5, [(.exit 0, [.fix 2 (.ptr 0 [] (.arr 8 (.int .u32))), .fix 4 (.ptr 2 [] (.arr 8 (.int .u32))), .fix 5 (.ptr 3 [] (.arr 8 (.int .u32))), .var 0 (.arr 8 (.int .u32)) false, .var 2 (.arr 8 (.int .u32)) false, .var 3 (.arr 8 (.int .u32)) false])], fun R x ke => L R x.1 x.2.1 x.2.2.1 x.2.2.2.1 x.2.2.2.2.1 x.2.2.2.2.2.1 (fun y1 y2 y3 => ke.1 (y1, y2, y3, ()))⟩
abbrev LT171_8 : Type 1 := (R : Type) → Int → (List Int) → (List Int) → (List Int) → ((List Int) → (List Int) → Option R) → Option R
def le171_8 (L : LT171_8) : LEnt := ⟨8, [.fix 2 (.ptr 0 [] (.arr 8 (.int .u32))), .fix 4 (.ptr 2 [] (.arr 8 (.int .u32))), .fix 5 (.ptr 3 [] (.arr 8 (.int .u32))), .val 25 (.int .i64), .var 0 (.arr 8 (.int .u32)) false, .var 2 (.arr 8 (.int .u32)) false, .var 3 (.arr 8 (.int .u32)) false], 4, [(.exit 2, [.fix 4 (.ptr 2 [] (.arr 8 (.int .u32))), .fix 5 (.ptr 3 [] (.arr 8 (.int .u32))), .var 2 (.arr 8 (.int .u32)) false, .var 3 (.arr 8 (.int .u32)) false])], fun R x ke => L R x.1 x.2.1 x.2.2.1 x.2.2.2.1 (fun y1 y2 => ke.1 (y1, y2, ()))⟩
noncomputable def e171 (F176 : FT176) (F177 : FT177) (F178 : FT178) (L3 : LT171_3) (L8 : LT171_8) (R : Type) : Env R := ⟨TT, EQT, 0, 38, ownOf [], callOf [en176 F176, en177 F177, en178 F178] R, loopOf [le171_3 L3, le171_8 L8] R, [], inlOf []⟩
def p171_3 (F178 : FT178) : (R : Type) → (List Int) → Int → (List Int) → (List Int) → (List Int) → (List Int) → ((List Int) → Int → (List Int) → (List Int) → (List Int) → (List Int) → Option R) → ((List Int) → (List Int) → (List Int) → Option R) → Option R := fun R x1 x2 x3 x4 x5 x6 kc k0 =>
let v7 : Bool := (decide (x2 < (64 : Int)));
(match v7 with
| true => (match (bnd x2 (64 : Int)) with
| true => let v8 : Int := (List.getD x1 (Int.toNat x2) (0 : Int));
(match (bnd x2 (64 : Int)) with
| true => let v9 : Int := (List.getD x6 (Int.toNat x2) (0 : Int));
F178 R x5 v8 v9 fun y10 =>
let v11 : Int := (IntKind.i64.wrap (x2 + (1 : Int)));
kc x1 v11 x3 x4 y10 x6
| false => none)
| false => none)
| false => k0 x3 x4 x5)
theorem q171_3 (F176 : FT176) (F177 : FT177) (F178 : FT178) (L3 : LT171_3) (L8 : LT171_8) (R : Type) (x : HT (le171_3 L3).H) (kc : HT (le171_3 L3).H → Option R) (ke : KT R (le171_3 L3).exs) :
  exec (e171 F176 F177 F178 L3 L8 R) (lcode 3 (codeOf Tryz.f171)) (stOf (le171_3 L3).H x 5) (roundK (le171_3 L3).H (le171_3 L3).exs kc ke) =
    p171_3 F178 R x.1 x.2.1 x.2.2.1 x.2.2.2.1 x.2.2.2.2.1 x.2.2.2.2.2.1 (fun x1 x2 x3 x4 x5 x6 => kc (x1, x2, x3, x4, x5, x6, ())) (fun y1 y2 y3 => ke.1 (y1, y2, y3, ())) := by kernel_rfl
noncomputable def G171_3 : Nat → LT171_3
  | 0 => fun _ _ _ _ _ _ _ _ => none
  | n + 1 => fun R x1 x2 x3 x4 x5 x6 k0 => p171_3 F178 R x1 x2 x3 x4 x5 x6 (fun x1 x2 x3 x4 x5 x6 => G171_3 n R x1 x2 x3 x4 x5 x6 k0) k0
def p171_8 : (R : Type) → Int → (List Int) → (List Int) → (List Int) → (Int → (List Int) → (List Int) → (List Int) → Option R) → ((List Int) → (List Int) → Option R) → Option R := fun R x1 x2 x3 x4 kc k0 =>
let v5 : Bool := (decide (x1 < (8 : Int)));
(match v5 with
| true => (match (bnd x1 (8 : Int)) with
| true => let v6 : Int := (List.getD x4 (Int.toNat x1) (0 : Int));
(match (bnd x1 (8 : Int)) with
| true => let v7 : Int := (List.getD x2 (Int.toNat x1) (0 : Int));
let v8 : Int := (IntKind.u32.wrap (v6 + v7));
(match (bnd x1 (8 : Int)) with
| true => let v9 : (List Int) := (List.set x4 (Int.toNat x1) v8);
let v10 : Int := (IntKind.i64.wrap (x1 + (1 : Int)));
kc v10 x2 x3 v9
| false => none)
| false => none)
| false => none)
| false => k0 x3 x4)
theorem q171_8 (F176 : FT176) (F177 : FT177) (F178 : FT178) (L3 : LT171_3) (L8 : LT171_8) (R : Type) (x : HT (le171_8 L8).H) (kc : HT (le171_8 L8).H → Option R) (ke : KT R (le171_8 L8).exs) :
  exec (e171 F176 F177 F178 L3 L8 R) (lcode 8 (codeOf Tryz.f171)) (stOf (le171_8 L8).H x 4) (roundK (le171_8 L8).H (le171_8 L8).exs kc ke) =
    p171_8 R x.1 x.2.1 x.2.2.1 x.2.2.2.1 (fun x1 x2 x3 x4 => kc (x1, x2, x3, x4, ())) (fun y1 y2 => ke.1 (y1, y2, ())) := by kernel_rfl
noncomputable def G171_8 : Nat → LT171_8
  | 0 => fun _ _ _ _ _ _ => none
  | n + 1 => fun R x1 x2 x3 x4 k0 => p171_8 R x1 x2 x3 x4 (fun x1 x2 x3 x4 => G171_8 n R x1 x2 x3 x4 k0) k0
def p171 (F176 : FT176) (F177 : FT177) (L3 : LT171_3) (L8 : LT171_8) : FT171 := fun R a0 a1 k =>
F176 R  fun y1 =>
F177 R a1 fun y2 =>
L3 R y2 (0 : Int) a0 (List.replicate 8 (0 : Int)) a0 y1 (fun x3 x4 x5 =>
L8 R (0 : Int) x3 x4 x5 (fun x6 x7 =>
k x7))
theorem q171 (F176 : FT176) (F177 : FT177) (F178 : FT178) (L3 : LT171_3) (L8 : LT171_8) (F : FT171) (R : Type) (x : AT (en171 F).ins) (k : RT (en171 F).outs → PT (en171 F).ins → Option R) :
  xfun (e171 F176 F177 F178 L3 L8 R) (codeOf Tryz.f171) res171 (avs (en171 F).ins x) (finK (en171 F).outs (en171 F).ins k) = p171 F176 F177 L3 L8 R x.1 x.2.1 (fun y1 => k (y1, ()) ()) := by kernel_rfl
noncomputable def F171 : FT171 := p171 F176 F177 (G171_3 FUEL) (G171_8 FUEL)
theorem env171 (R : Type) : EnvOK Tryz.prog (e171 F176 F177 F178 (G171_3 FUEL) (G171_8 FUEL) R) := ⟨tabOK, eqOK, callOf_ok (allE_cons ok176 (allE_cons ok177 (allE_cons ok178 allE_nil))), noIns, inlOK_nil⟩
noncomputable def T171_3 : (R : Type) → HT (le171_3 (G171_3 FUEL)).H → (HT (le171_3 (G171_3 FUEL)).H → Option R) → KT R (le171_3 (G171_3 FUEL)).exs → Option R := fun R x kc ke => p171_3 F178 R x.1 x.2.1 x.2.2.1 x.2.2.2.1 x.2.2.2.2.1 x.2.2.2.2.2.1 (fun x1 x2 x3 x4 x5 x6 => kc (x1, x2, x3, x4, x5, x6, ())) (fun y1 y2 y3 => ke.1 (y1, y2, y3, ()))
theorem it171_3 : ∀ (n : Nat) (R : Type) (x : HT (le171_3 (G171_3 FUEL)).H) (ke : KT R (le171_3 (G171_3 FUEL)).exs), iter T171_3 n R x ke = G171_3 n R x.1 x.2.1 x.2.2.1 x.2.2.2.1 x.2.2.2.2.1 x.2.2.2.2.2.1 (fun y1 y2 y3 => ke.1 (y1, y2, y3, ())) := by
  intro n
  induction n with
  | zero => intro R x ke; rfl
  | succ n ih =>
    intro R x ke
    show T171_3 R x (fun x' => iter T171_3 n R x' ke) ke = _
    rw [show (fun x' => iter T171_3 n R x' ke) = fun x => G171_3 n R x.1 x.2.1 x.2.2.1 x.2.2.2.1 x.2.2.2.2.1 x.2.2.2.2.2.1 (fun y1 y2 y3 => ke.1 (y1, y2, y3, ())) from funext fun x' => ih R x' ke]
    rfl
theorem lok171_3 : (le171_3 (G171_3 FUEL)).OK Tryz.prog 0 38 (lcode 3 (codeOf Tryz.f171)) := fun R x ke r h =>
  iter_sound (fun R => e171 F176 F177 F178 (G171_3 FUEL) (G171_8 FUEL) R) 0 38 (fun _ => rfl) (fun _ => rfl) (fun R => env171 R) mixed (by
    intro R
    rw [show loopsOf (lcode 3 (codeOf Tryz.f171)) = [] from by kernel_rfl]
    exact allM_nil) (T := T171_3) (fun R x kc ke => q171_3 F176 F177 F178 (G171_3 FUEL) (G171_8 FUEL) R x kc ke) FUEL R x ke r ((it171_3 FUEL R x ke).trans h)
noncomputable def T171_8 : (R : Type) → HT (le171_8 (G171_8 FUEL)).H → (HT (le171_8 (G171_8 FUEL)).H → Option R) → KT R (le171_8 (G171_8 FUEL)).exs → Option R := fun R x kc ke => p171_8 R x.1 x.2.1 x.2.2.1 x.2.2.2.1 (fun x1 x2 x3 x4 => kc (x1, x2, x3, x4, ())) (fun y1 y2 => ke.1 (y1, y2, ()))
theorem it171_8 : ∀ (n : Nat) (R : Type) (x : HT (le171_8 (G171_8 FUEL)).H) (ke : KT R (le171_8 (G171_8 FUEL)).exs), iter T171_8 n R x ke = G171_8 n R x.1 x.2.1 x.2.2.1 x.2.2.2.1 (fun y1 y2 => ke.1 (y1, y2, ())) := by
  intro n
  induction n with
  | zero => intro R x ke; rfl
  | succ n ih =>
    intro R x ke
    show T171_8 R x (fun x' => iter T171_8 n R x' ke) ke = _
    rw [show (fun x' => iter T171_8 n R x' ke) = fun x => G171_8 n R x.1 x.2.1 x.2.2.1 x.2.2.2.1 (fun y1 y2 => ke.1 (y1, y2, ())) from funext fun x' => ih R x' ke]
    rfl
theorem lok171_8 : (le171_8 (G171_8 FUEL)).OK Tryz.prog 0 38 (lcode 8 (codeOf Tryz.f171)) := fun R x ke r h =>
  iter_sound (fun R => e171 F176 F177 F178 (G171_3 FUEL) (G171_8 FUEL) R) 0 38 (fun _ => rfl) (fun _ => rfl) (fun R => env171 R) mixed (by
    intro R
    rw [show loopsOf (lcode 8 (codeOf Tryz.f171)) = [] from by kernel_rfl]
    exact allM_nil) (T := T171_8) (fun R x kc ke => q171_8 F176 F177 F178 (G171_3 FUEL) (G171_8 FUEL) R x kc ke) FUEL R x ke r ((it171_8 FUEL R x ke).trans h)
theorem ok171 : (en171 F171).OK Tryz.prog :=
  ent_ok (Ef := fun R => e171 F176 F177 F178 (G171_3 FUEL) (G171_8 FUEL) R) (fun R => env171 R) mixed Tryz.func171 (body := codeOf Tryz.f171) (by kernel_rfl) (by kernel_rfl) (np := 0) (nt := 38) (fun _ => rfl) (fun _ => rfl) (by kernel_rfl) (res := res171) (by kernel_rfl) (fun _ => rfl) (fun _ => Nat.le_of_ble_eq_true rfl) (by
    intro R
    rw [show loopsOf (codeOf Tryz.f171) = [lcode 3 (codeOf Tryz.f171), lcode 8 (codeOf Tryz.f171)] from by kernel_rfl]
    exact (allM_cons (loop_ok2 (e := le171_3 (G171_3 FUEL)) rfl rfl lok171_3) (allM_cons (loop_ok2 (e := le171_8 (G171_8 FUEL)) rfl rfl lok171_8) allM_nil))) (fun R x k => q171 F176 F177 F178 (G171_3 FUEL) (G171_8 FUEL) F171 R x k)
abbrev FT163 : Type 1 := (R : Type) → Tq10 → (List Int) → ((List Int) → Tq10 → Option R) → Option R
def en163 (F : FT163) : Ent := ⟨163, [(true, Kq10), (false, (.sl (.int .u8)))], [(false, (.sl (.int .u8)))], fun R x k => F R x.1 x.2.1 (fun y1 p1 => k (y1, ()) (p1, ()))⟩
def res163 : List (ResultVar × TypeId × Bool) := [(.tmp 4, 26, false)]
abbrev LT163_3 : Type 1 := (R : Type) → (List Int) → (List (List Int)) → Int → Int → Tq10 → ((List Int) → Tq10 → Option R) → Option R
def le163_3 (L : LT163_3) : LEnt := ⟨3, [.fix 0 (.ptr 0 [] Kq10), .val 6 (.sl (.int .u8)), .val 14 (.sl (.arr 64 (.int .u8))), .val 15 (.int .i64), .val 16 (.int .i64), .var 0 Kq10 false], 1, [(.exit 0, [.val 6 (.sl (.int .u8)), .var 0 Kq10 false])], fun R x ke => L R x.1 x.2.1 x.2.2.1 x.2.2.2.1 x.2.2.2.2.1 (fun y1 y2 => ke.1 (y1, y2, ()))⟩
noncomputable def e163 (F170 : FT170) (F171 : FT171) (L3 : LT163_3) (R : Type) : Env R := ⟨TT, EQT, 1, 33, ownOf [], callOf [en170 F170, en171 F171] R, loopOf [le163_3 L3] R, [], inlOf []⟩
def p163_3 (F171 : FT171) : (R : Type) → (List Int) → (List (List Int)) → Int → Int → Tq10 → ((List Int) → (List (List Int)) → Int → Int → Tq10 → Option R) → ((List Int) → Tq10 → Option R) → Option R := fun R x1 x2 x3 x4 x5 kc k0 =>
let v6 : Bool := (decide (x4 < x3));
(match v6 with
| true => (match (bnd x4 (List.length x2 : Int)) with
| true => let v7 : (List Int) := (List.getD x2 (Int.toNat x4) (List.replicate 64 (0 : Int)));
F171 R x5.1.1 v7 fun y8 =>
let v9 : Int := (IntKind.i64.wrap (x4 + (1 : Int)));
kc x1 x2 x3 v9 ((y8, x5.1.2), x5.2)
| false => none)
| false => k0 x1 x5)
theorem q163_3 (F170 : FT170) (F171 : FT171) (L3 : LT163_3) (R : Type) (x : HT (le163_3 L3).H) (kc : HT (le163_3 L3).H → Option R) (ke : KT R (le163_3 L3).exs) :
  exec (e163 F170 F171 L3 R) (lcode 3 (codeOf Tryz.f163)) (stOf (le163_3 L3).H x 1) (roundK (le163_3 L3).H (le163_3 L3).exs kc ke) =
    p163_3 F171 R x.1 x.2.1 x.2.2.1 x.2.2.2.1 x.2.2.2.2.1 (fun x1 x2 x3 x4 x5 => kc (x1, x2, x3, x4, x5, ())) (fun y1 y2 => ke.1 (y1, y2, ())) := by kernel_rfl
noncomputable def G163_3 : Nat → LT163_3
  | 0 => fun _ _ _ _ _ _ _ => none
  | n + 1 => fun R x1 x2 x3 x4 x5 k0 => p163_3 F171 R x1 x2 x3 x4 x5 (fun x1 x2 x3 x4 x5 => G163_3 n R x1 x2 x3 x4 x5 k0) k0
def p163 (F170 : FT170) (L3 : LT163_3) : FT163 := fun R a0 a1 k =>
F170 R a1 fun y1 y2 =>
let v3 : Int := (List.length y1 : Int);
L3 R y2 y1 v3 (0 : Int) a0 (fun x4 x5 =>
k x4 x5)
theorem q163 (F170 : FT170) (F171 : FT171) (L3 : LT163_3) (F : FT163) (R : Type) (x : AT (en163 F).ins) (k : RT (en163 F).outs → PT (en163 F).ins → Option R) :
  xfun (e163 F170 F171 L3 R) (codeOf Tryz.f163) res163 (avs (en163 F).ins x) (finK (en163 F).outs (en163 F).ins k) = p163 F170 L3 R x.1 x.2.1 (fun y1 p1 => k (y1, ()) (p1, ())) := by kernel_rfl
noncomputable def F163 : FT163 := p163 F170 (G163_3 FUEL)
theorem env163 (R : Type) : EnvOK Tryz.prog (e163 F170 F171 (G163_3 FUEL) R) := ⟨tabOK, eqOK, callOf_ok (allE_cons ok170 (allE_cons ok171 allE_nil)), noIns, inlOK_nil⟩
noncomputable def T163_3 : (R : Type) → HT (le163_3 (G163_3 FUEL)).H → (HT (le163_3 (G163_3 FUEL)).H → Option R) → KT R (le163_3 (G163_3 FUEL)).exs → Option R := fun R x kc ke => p163_3 F171 R x.1 x.2.1 x.2.2.1 x.2.2.2.1 x.2.2.2.2.1 (fun x1 x2 x3 x4 x5 => kc (x1, x2, x3, x4, x5, ())) (fun y1 y2 => ke.1 (y1, y2, ()))
theorem it163_3 : ∀ (n : Nat) (R : Type) (x : HT (le163_3 (G163_3 FUEL)).H) (ke : KT R (le163_3 (G163_3 FUEL)).exs), iter T163_3 n R x ke = G163_3 n R x.1 x.2.1 x.2.2.1 x.2.2.2.1 x.2.2.2.2.1 (fun y1 y2 => ke.1 (y1, y2, ())) := by
  intro n
  induction n with
  | zero => intro R x ke; rfl
  | succ n ih =>
    intro R x ke
    show T163_3 R x (fun x' => iter T163_3 n R x' ke) ke = _
    rw [show (fun x' => iter T163_3 n R x' ke) = fun x => G163_3 n R x.1 x.2.1 x.2.2.1 x.2.2.2.1 x.2.2.2.2.1 (fun y1 y2 => ke.1 (y1, y2, ())) from funext fun x' => ih R x' ke]
    rfl
theorem lok163_3 : (le163_3 (G163_3 FUEL)).OK Tryz.prog 1 33 (lcode 3 (codeOf Tryz.f163)) := fun R x ke r h =>
  iter_sound (fun R => e163 F170 F171 (G163_3 FUEL) R) 1 33 (fun _ => rfl) (fun _ => rfl) (fun R => env163 R) mixed (by
    intro R
    rw [show loopsOf (lcode 3 (codeOf Tryz.f163)) = [] from by kernel_rfl]
    exact allM_nil) (T := T163_3) (fun R x kc ke => q163_3 F170 F171 (G163_3 FUEL) R x kc ke) FUEL R x ke r ((it163_3 FUEL R x ke).trans h)
theorem ok163 : (en163 F163).OK Tryz.prog :=
  ent_ok (Ef := fun R => e163 F170 F171 (G163_3 FUEL) R) (fun R => env163 R) mixed Tryz.func163 (body := codeOf Tryz.f163) (by kernel_rfl) (by kernel_rfl) (np := 1) (nt := 33) (fun _ => rfl) (fun _ => rfl) (by kernel_rfl) (res := res163) (by kernel_rfl) (fun _ => rfl) (fun _ => Nat.le_of_ble_eq_true rfl) (by
    intro R
    rw [show loopsOf (codeOf Tryz.f163) = [lcode 3 (codeOf Tryz.f163)] from by kernel_rfl]
    exact (allM_cons (loop_ok2 (e := le163_3 (G163_3 FUEL)) rfl rfl lok163_3) allM_nil)) (fun R x k => q163 F170 F171 (G163_3 FUEL) F163 R x k)
abbrev FT160 : Type 1 := (R : Type) → Tq10 → (List Int) → (Tq10 → Option R) → Option R
def en160 (F : FT160) : Ent := ⟨160, [(true, Kq10), (false, (.sl (.int .u8)))], [], fun R x k => F R x.1 x.2.1 (fun p1 => k () (p1, ()))⟩
def res160 : List (ResultVar × TypeId × Bool) := []
noncomputable def e160 (F163 : FT163) (F168 : FT168) (R : Type) : Env R := ⟨TT, EQT, 1, 30, ownOf [], callOf [en163 F163, en168 F168] R, loopOf [] R, [], inlOf []⟩
def p160 (F163 : FT163) (F168 : FT168) : FT160 := fun R a0 a1 k =>
let v1 : Int := (List.length a1 : Int);
let v2 : Int := (IntKind.u64.wrap v1);
let v3 : Int := (IntKind.u64.wrap (a0.1.2.2.1 + v2));
F168 R a0.1.2.1 fun y4 =>
(match (decide (List.length y4 + List.length a1 ≤ 140737488355328)) with
| true => let v5 : (List Int) := (y4 ++ a1);
F163 R ((a0.1.1, a0.1.2.1, v3, a0.1.2.2.2), a0.2) v5 fun y6 p7 =>
k ((p7.1.1, y6, p7.1.2.2), p7.2)
| false => none)
theorem q160 (F163 : FT163) (F168 : FT168) (F : FT160) (R : Type) (x : AT (en160 F).ins) (k : RT (en160 F).outs → PT (en160 F).ins → Option R) :
  xfun (e160 F163 F168 R) (codeOf Tryz.f160) res160 (avs (en160 F).ins x) (finK (en160 F).outs (en160 F).ins k) = p160 F163 F168 R x.1 x.2.1 (fun p1 => k () (p1, ())) := by kernel_rfl
noncomputable def F160 : FT160 := p160 F163 F168
theorem env160 (R : Type) : EnvOK Tryz.prog (e160 F163 F168 R) := ⟨tabOK, eqOK, callOf_ok (allE_cons ok163 (allE_cons ok168 allE_nil)), noIns, inlOK_nil⟩
theorem ok160 : (en160 F160).OK Tryz.prog :=
  ent_ok (Ef := fun R => e160 F163 F168 R) (fun R => env160 R) mixed Tryz.func160 (body := codeOf Tryz.f160) (by kernel_rfl) (by kernel_rfl) (np := 1) (nt := 30) (fun _ => rfl) (fun _ => rfl) (by kernel_rfl) (res := res160) (by kernel_rfl) (fun _ => rfl) (fun _ => Nat.le_of_ble_eq_true rfl) (by
    intro R
    rw [show loopsOf (codeOf Tryz.f160) = [] from by kernel_rfl]
    exact allM_nil) (fun R x k => q160 F163 F168 F160 R x k)
abbrev FT151 : Type 1 := (R : Type) → Tq9 → (List (List Int)) → (Tq9 → Int → Option R) → Option R
def en151 (F : FT151) : Ent := ⟨151, [(false, Kq9), (false, (.sl (.sl (.int .u8))))], [(false, Kq9), (false, (.int .i64))], fun R x k => F R x.1 x.2.1 (fun y1 y2 => k (y1, y2, ()) ())⟩
def res151 : List (ResultVar × TypeId × Bool) := [(.cell 4 188, 188, false), (.tmp 5, 32, false)]
abbrev LT151_5 : Type 1 := (R : Type) → (List (List Int)) → Int → Int → Tq9 → Tq10 → (Int → Tq9 → Option R) → (Tq9 → Tq10 → Option R) → Option R
def le151_5 (L : LT151_5) : LEnt := ⟨5, [.fix 4 (.ptr 1 [] Kq9), .fix 6 (.ptr 2 [] Kq10), .val 15 (.sl (.sl (.int .u8))), .val 16 (.int .i64), .val 17 (.int .i64), .var 1 Kq9 false, .var 2 Kq10 false], 3, [(.ret, [.fix 4 (.ptr 1 [] Kq9), .val 5 (.int .i64), .var 1 Kq9 false]), (.exit 0, [.fix 4 (.ptr 1 [] Kq9), .fix 6 (.ptr 2 [] Kq10), .var 1 Kq9 false, .var 2 Kq10 false])], fun R x ke => L R x.1 x.2.1 x.2.2.1 x.2.2.2.1 x.2.2.2.2.1 (fun y1 y2 => ke.1 (y1, y2, ())) (fun y1 y2 => ke.2.1 (y1, y2, ()))⟩
noncomputable def e151 (F159 : FT159) (F160 : FT160) (L5 : LT151_5) (R : Type) : Env R := ⟨TT, EQT, 0, 31, ownOf [], callOf [en159 F159, en160 F160] R, loopOf [le151_5 L5] R, [], inlOf []⟩
def p151_5 (F160 : FT160) : (R : Type) → (List (List Int)) → Int → Int → Tq9 → Tq10 → ((List (List Int)) → Int → Int → Tq9 → Tq10 → Option R) → (Int → Tq9 → Option R) → (Tq9 → Tq10 → Option R) → Option R := fun R x1 x2 x3 x4 x5 kc k0 k1 =>
let v6 : Bool := (decide (x3 < x2));
(match v6 with
| true => (match (bnd x3 (List.length x1 : Int)) with
| true => let v7 : (List Int) := (List.getD x1 (Int.toNat x3) ([] : (List Int)));
F160 R x5 v7 fun p8 =>
let v9 : Bool := (decide (p8.1.2.2.1 ≥ (2305843009213693952 : Int)));
(match v9 with
| true => k0 (11 : Int) ((List.replicate 8 (0 : Int)), ([] : (List Int)), (0 : Int), ())
| false => let v10 : Int := (IntKind.i64.wrap (x3 + (1 : Int)));
kc x1 x2 v10 x4 p8)
| false => none)
| false => k1 x4 x5)
theorem q151_5 (F159 : FT159) (F160 : FT160) (L5 : LT151_5) (R : Type) (x : HT (le151_5 L5).H) (kc : HT (le151_5 L5).H → Option R) (ke : KT R (le151_5 L5).exs) :
  exec (e151 F159 F160 L5 R) (lcode 5 (codeOf Tryz.f151)) (stOf (le151_5 L5).H x 3) (roundK (le151_5 L5).H (le151_5 L5).exs kc ke) =
    p151_5 F160 R x.1 x.2.1 x.2.2.1 x.2.2.2.1 x.2.2.2.2.1 (fun x1 x2 x3 x4 x5 => kc (x1, x2, x3, x4, x5, ())) (fun y1 y2 => ke.1 (y1, y2, ())) (fun y1 y2 => ke.2.1 (y1, y2, ())) := by kernel_rfl
noncomputable def G151_5 : Nat → LT151_5
  | 0 => fun _ _ _ _ _ _ _ _ => none
  | n + 1 => fun R x1 x2 x3 x4 x5 k0 k1 => p151_5 F160 R x1 x2 x3 x4 x5 (fun x1 x2 x3 x4 x5 => G151_5 n R x1 x2 x3 x4 x5 k0 k1) k0 k1
def p151 (F159 : FT159) (L5 : LT151_5) : FT151 := fun R a0 a1 k =>
F159 R a0 fun y1 =>
(match (!y1) with
| true => k ((List.replicate 8 (0 : Int)), ([] : (List Int)), (0 : Int), ()) (1 : Int)
| false => let v2 : Int := (List.length a1 : Int);
L5 R a1 v2 (0 : Int) ((List.replicate 8 (0 : Int)), ([] : (List Int)), (0 : Int), ()) (a0, ()) (fun x3 x4 =>
k x4 x3) (fun x5 x6 =>
k x6.1 (0 : Int)))
theorem q151 (F159 : FT159) (F160 : FT160) (L5 : LT151_5) (F : FT151) (R : Type) (x : AT (en151 F).ins) (k : RT (en151 F).outs → PT (en151 F).ins → Option R) :
  xfun (e151 F159 F160 L5 R) (codeOf Tryz.f151) res151 (avs (en151 F).ins x) (finK (en151 F).outs (en151 F).ins k) = p151 F159 L5 R x.1 x.2.1 (fun y1 y2 => k (y1, y2, ()) ()) := by kernel_rfl
noncomputable def F151 : FT151 := p151 F159 (G151_5 FUEL)
theorem env151 (R : Type) : EnvOK Tryz.prog (e151 F159 F160 (G151_5 FUEL) R) := ⟨tabOK, eqOK, callOf_ok (allE_cons ok159 (allE_cons ok160 allE_nil)), noIns, inlOK_nil⟩
noncomputable def T151_5 : (R : Type) → HT (le151_5 (G151_5 FUEL)).H → (HT (le151_5 (G151_5 FUEL)).H → Option R) → KT R (le151_5 (G151_5 FUEL)).exs → Option R := fun R x kc ke => p151_5 F160 R x.1 x.2.1 x.2.2.1 x.2.2.2.1 x.2.2.2.2.1 (fun x1 x2 x3 x4 x5 => kc (x1, x2, x3, x4, x5, ())) (fun y1 y2 => ke.1 (y1, y2, ())) (fun y1 y2 => ke.2.1 (y1, y2, ()))
theorem it151_5 : ∀ (n : Nat) (R : Type) (x : HT (le151_5 (G151_5 FUEL)).H) (ke : KT R (le151_5 (G151_5 FUEL)).exs), iter T151_5 n R x ke = G151_5 n R x.1 x.2.1 x.2.2.1 x.2.2.2.1 x.2.2.2.2.1 (fun y1 y2 => ke.1 (y1, y2, ())) (fun y1 y2 => ke.2.1 (y1, y2, ())) := by
  intro n
  induction n with
  | zero => intro R x ke; rfl
  | succ n ih =>
    intro R x ke
    show T151_5 R x (fun x' => iter T151_5 n R x' ke) ke = _
    rw [show (fun x' => iter T151_5 n R x' ke) = fun x => G151_5 n R x.1 x.2.1 x.2.2.1 x.2.2.2.1 x.2.2.2.2.1 (fun y1 y2 => ke.1 (y1, y2, ())) (fun y1 y2 => ke.2.1 (y1, y2, ())) from funext fun x' => ih R x' ke]
    rfl
theorem lok151_5 : (le151_5 (G151_5 FUEL)).OK Tryz.prog 0 31 (lcode 5 (codeOf Tryz.f151)) := fun R x ke r h =>
  iter_sound (fun R => e151 F159 F160 (G151_5 FUEL) R) 0 31 (fun _ => rfl) (fun _ => rfl) (fun R => env151 R) mixed (by
    intro R
    rw [show loopsOf (lcode 5 (codeOf Tryz.f151)) = [] from by kernel_rfl]
    exact allM_nil) (T := T151_5) (fun R x kc ke => q151_5 F159 F160 (G151_5 FUEL) R x kc ke) FUEL R x ke r ((it151_5 FUEL R x ke).trans h)
theorem ok151 : (en151 F151).OK Tryz.prog :=
  ent_ok (Ef := fun R => e151 F159 F160 (G151_5 FUEL) R) (fun R => env151 R) mixed Tryz.func151 (body := codeOf Tryz.f151) (by kernel_rfl) (by kernel_rfl) (np := 0) (nt := 31) (fun _ => rfl) (fun _ => rfl) (by kernel_rfl) (res := res151) (by kernel_rfl) (fun _ => rfl) (fun _ => Nat.le_of_ble_eq_true rfl) (by
    intro R
    rw [show loopsOf (codeOf Tryz.f151) = [lcode 5 (codeOf Tryz.f151)] from by kernel_rfl]
    exact (allM_cons (loop_ok2 (e := le151_5 (G151_5 FUEL)) rfl rfl lok151_5) allM_nil)) (fun R x k => q151 F159 F160 (G151_5 FUEL) F151 R x k)
abbrev FT169 : Type 1 := (R : Type) → Int → (Int → Option R) → Option R
def en169 (F : FT169) : Ent := ⟨169, [(false, (.int .u64))], [(false, (.int .u64))], fun R x k => F R x.1 (fun y1 => k (y1, ()) ())⟩
def res169 : List (ResultVar × TypeId × Bool) := [(.tmp 2, 22, false)]
noncomputable def e169 (R : Type) : Env R := ⟨TT, EQT, 0, 9, ownOf [], callOf [] R, loopOf [] R, [], inlOf []⟩
def p169 : FT169 := fun R a0 k =>
let v1 : Bool := (decide (a0 ≥ (2305843009213693952 : Int)));
(match v1 with
| true => k (0 : Int)
| false => let v2 : Int := (IntKind.u64.wrap (a0 + (8 : Int)));
let v3 : Int := (IntKind.u64.wrap (v2 + (64 : Int)));
let v4 : Int := (IntKind.u64.wrap (Int.tdiv v3 (64 : Int)));
k v4)
theorem q169 (F : FT169) (R : Type) (x : AT (en169 F).ins) (k : RT (en169 F).outs → PT (en169 F).ins → Option R) :
  xfun (e169 R) (codeOf Tryz.f169) res169 (avs (en169 F).ins x) (finK (en169 F).outs (en169 F).ins k) = p169 R x.1 (fun y1 => k (y1, ()) ()) := by kernel_rfl
noncomputable def F169 : FT169 := p169
theorem env169 (R : Type) : EnvOK Tryz.prog (e169 R) := ⟨tabOK, eqOK, callOf_ok allE_nil, noIns, inlOK_nil⟩
theorem ok169 : (en169 F169).OK Tryz.prog :=
  ent_ok (Ef := fun R => e169 R) (fun R => env169 R) mixed Tryz.func169 (body := codeOf Tryz.f169) (by kernel_rfl) (by kernel_rfl) (np := 0) (nt := 9) (fun _ => rfl) (fun _ => rfl) (by kernel_rfl) (res := res169) (by kernel_rfl) (fun _ => rfl) (fun _ => Nat.le_of_ble_eq_true rfl) (by
    intro R
    rw [show loopsOf (codeOf Tryz.f169) = [] from by kernel_rfl]
    exact allM_nil) (fun R x k => q169 F169 R x k)
abbrev FT162 : Type 1 := (R : Type) → (List Int) → Int → ((List Int) → Bool → Option R) → Option R
def en162 (F : FT162) : Ent := ⟨162, [(false, (.sl (.int .u8))), (false, (.int .u64))], [(false, (.sl (.int .u8))), (false, .bool)], fun R x k => F R x.1 x.2.1 (fun y1 y2 => k (y1, y2, ()) ())⟩
def res162 : List (ResultVar × TypeId × Bool) := [(.tmp 4, 26, false), (.tmp 5, 4, false)]
noncomputable def e162 (F147 : FT147) (F169 : FT169) (R : Type) : Env R := ⟨TT, EQT, 0, 45, ownOf [], callOf [en147 F147, en169 F169] R, loopOf [] R, [], inlOf []⟩
def p162 (F147 : FT147) (F169 : FT169) : FT162 := fun R a0 a1 k =>
let v1 : Bool := (decide (a1 ≥ (2305843009213693952 : Int)));
(match v1 with
| true => k ([] : (List Int)) false
| false => let v2 : Int := (List.length a0 : Int);
let v3 : Int := (IntKind.u64.wrap v2);
let v4 : Int := (Int.tmod a1 (64 : Int));
let v5 : Bool := (v3 != v4);
(match v5 with
| true => k ([] : (List Int)) false
| false => F169 R a1 fun y6 =>
let v7 : Int := (IntKind.u64.wrap (Int.tdiv a1 (64 : Int)));
let v8 : Int := (IntKind.u64.wrap (y6 - v7));
let v9 : Int := (IntKind.i64.wrap v8);
let v10 : Int := (IntKind.i64.wrap (v9 * (64 : Int)));
(match (decide (0 ≤ v10 ∧ v10 ≤ v10 ∧ v10 ≤ (140737488355328 : Int))) with
| true => let v11 : (List Int) := (List.replicate (Int.toNat v10) (0 : Int));
let v12 : (List Int) := (lay v11 0 (List.take (List.length v11) a0));
let v13 : Int := (List.length a0 : Int);
(match (bnd v13 (List.length v12 : Int)) with
| true => let v14 : (List Int) := (List.set v12 (Int.toNat v13) (128 : Int));
let v15 : Int := (ishl .u64 a1 (3 : Int));
F147 R v15 fun y16 =>
let v17 : Int := (IntKind.i64.wrap (v10 - (8 : Int)));
(match (decide (0 ≤ v17 ∧ v17 ≤ (List.length v14 : Int) ∧ (List.length v14 : Int) ≤ (List.length v14 : Int) ∧ (List.length v14 : Int) ≤ (List.length v14 : Int))) with
| true => let v18 : (List Int) := (lay v14 (Int.toNat v17) (List.take (Int.toNat ((List.length v14 : Int) - v17)) (List.take 8 (List.drop 0 y16))));
k v18 true
| false => none)
| false => none)
| false => none)))
theorem q162 (F147 : FT147) (F169 : FT169) (F : FT162) (R : Type) (x : AT (en162 F).ins) (k : RT (en162 F).outs → PT (en162 F).ins → Option R) :
  xfun (e162 F147 F169 R) (codeOf Tryz.f162) res162 (avs (en162 F).ins x) (finK (en162 F).outs (en162 F).ins k) = p162 F147 F169 R x.1 x.2.1 (fun y1 y2 => k (y1, y2, ()) ()) := by kernel_rfl
noncomputable def F162 : FT162 := p162 F147 F169
theorem env162 (R : Type) : EnvOK Tryz.prog (e162 F147 F169 R) := ⟨tabOK, eqOK, callOf_ok (allE_cons ok147 (allE_cons ok169 allE_nil)), noIns, inlOK_nil⟩
theorem ok162 : (en162 F162).OK Tryz.prog :=
  ent_ok (Ef := fun R => e162 F147 F169 R) (fun R => env162 R) mixed Tryz.func162 (body := codeOf Tryz.f162) (by kernel_rfl) (by kernel_rfl) (np := 0) (nt := 45) (fun _ => rfl) (fun _ => rfl) (by kernel_rfl) (res := res162) (by kernel_rfl) (fun _ => rfl) (fun _ => Nat.le_of_ble_eq_true rfl) (by
    intro R
    rw [show loopsOf (codeOf Tryz.f162) = [] from by kernel_rfl]
    exact allM_nil) (fun R x k => q162 F147 F169 F162 R x k)
abbrev FT172 : Type 1 := (R : Type) → Int → ((List Int) → Option R) → Option R
def en172 (F : FT172) : Ent := ⟨172, [(false, (.int .u32))], [(false, (.arr 4 (.int .u8)))], fun R x k => F R x.1 (fun y1 => k (y1, ()) ())⟩
def res172 : List (ResultVar × TypeId × Bool) := [(.cell 2 209, 209, false)]
noncomputable def e172 (R : Type) : Env R := ⟨TT, EQT, 0, 15, ownOf [], callOf [] R, loopOf [] R, [], inlOf []⟩
def p172 : FT172 := fun R a0 k =>
let v1 : Int := (ishr .u32 a0 (24 : Int));
let v2 : Int := (IntKind.u8.wrap v1);
let v3 : Int := (ishr .u32 a0 (16 : Int));
let v4 : Int := (IntKind.u8.wrap v3);
let v5 : Int := (ishr .u32 a0 (8 : Int));
let v6 : Int := (IntKind.u8.wrap v5);
let v7 : Int := (IntKind.u8.wrap a0);
let v8 : (List Int) := (List.set (List.set (List.set (List.set (List.replicate 4 (0 : Int)) 0 v2) 1 v4) 2 v6) 3 v7);
k v8
theorem q172 (F : FT172) (R : Type) (x : AT (en172 F).ins) (k : RT (en172 F).outs → PT (en172 F).ins → Option R) :
  xfun (e172 R) (codeOf Tryz.f172) res172 (avs (en172 F).ins x) (finK (en172 F).outs (en172 F).ins k) = p172 R x.1 (fun y1 => k (y1, ()) ()) := by kernel_rfl
noncomputable def F172 : FT172 := p172
theorem env172 (R : Type) : EnvOK Tryz.prog (e172 R) := ⟨tabOK, eqOK, callOf_ok allE_nil, noIns, inlOK_nil⟩
theorem ok172 : (en172 F172).OK Tryz.prog :=
  ent_ok (Ef := fun R => e172 R) (fun R => env172 R) mixed Tryz.func172 (body := codeOf Tryz.f172) (by kernel_rfl) (by kernel_rfl) (np := 0) (nt := 15) (fun _ => rfl) (fun _ => rfl) (by kernel_rfl) (res := res172) (by kernel_rfl) (fun _ => rfl) (fun _ => Nat.le_of_ble_eq_true rfl) (by
    intro R
    rw [show loopsOf (codeOf Tryz.f172) = [] from by kernel_rfl]
    exact allM_nil) (fun R x k => q172 F172 R x k)
abbrev FT164 : Type 1 := (R : Type) → Tq10 → ((List Int) → Tq10 → Option R) → Option R
def en164 (F : FT164) : Ent := ⟨164, [(true, Kq10)], [(false, (.arr 32 (.int .u8)))], fun R x k => F R x.1 (fun y1 p1 => k (y1, ()) (p1, ()))⟩
def res164 : List (ResultVar × TypeId × Bool) := [(.cell 2 28, 28, false)]
abbrev LT164_2 : Type 1 := (R : Type) → (List Int) → Int → Tq10 → (List Int) → (Tq10 → (List Int) → Option R) → Option R
def le164_2 (L : LT164_2) : LEnt := ⟨2, [.fix 2 (.ptr 1 [] (.arr 32 (.int .u8))), .val 10 (.arr 8 (.int .u32)), .val 11 (.int .i64), .var 0 Kq10 false, .var 1 (.arr 32 (.int .u8)) false], 2, [(.exit 0, [.fix 2 (.ptr 1 [] (.arr 32 (.int .u8))), .var 0 Kq10 false, .var 1 (.arr 32 (.int .u8)) false])], fun R x ke => L R x.1 x.2.1 x.2.2.1 x.2.2.2.1 (fun y1 y2 => ke.1 (y1, y2, ()))⟩
noncomputable def e164 (F172 : FT172) (L2 : LT164_2) (R : Type) : Env R := ⟨TT, EQT, 1, 24, ownOf [], callOf [en172 F172] R, loopOf [le164_2 L2] R, [], inlOf []⟩
def p164_2 (F172 : FT172) : (R : Type) → (List Int) → Int → Tq10 → (List Int) → ((List Int) → Int → Tq10 → (List Int) → Option R) → (Tq10 → (List Int) → Option R) → Option R := fun R x1 x2 x3 x4 kc k0 =>
let v5 : Bool := (decide (x2 < (8 : Int)));
(match v5 with
| true => (match (bnd x2 (8 : Int)) with
| true => let v6 : Int := (List.getD x1 (Int.toNat x2) (0 : Int));
F172 R v6 fun y7 =>
let v8 : Int := (IntKind.i64.wrap ((4 : Int) * x2));
(match (decide (0 ≤ v8 ∧ v8 ≤ (32 : Int) ∧ (32 : Int) ≤ (32 : Int))) with
| true => let v9 : (List Int) := (lay x4 (Int.toNat v8) (List.take (Int.toNat ((32 : Int) - v8)) (List.take 4 (List.drop 0 y7))));
let v10 : Int := (IntKind.i64.wrap (x2 + (1 : Int)));
kc x1 v10 x3 v9
| false => none)
| false => none)
| false => k0 x3 x4)
theorem q164_2 (F172 : FT172) (L2 : LT164_2) (R : Type) (x : HT (le164_2 L2).H) (kc : HT (le164_2 L2).H → Option R) (ke : KT R (le164_2 L2).exs) :
  exec (e164 F172 L2 R) (lcode 2 (codeOf Tryz.f164)) (stOf (le164_2 L2).H x 2) (roundK (le164_2 L2).H (le164_2 L2).exs kc ke) =
    p164_2 F172 R x.1 x.2.1 x.2.2.1 x.2.2.2.1 (fun x1 x2 x3 x4 => kc (x1, x2, x3, x4, ())) (fun y1 y2 => ke.1 (y1, y2, ())) := by kernel_rfl
noncomputable def G164_2 : Nat → LT164_2
  | 0 => fun _ _ _ _ _ _ => none
  | n + 1 => fun R x1 x2 x3 x4 k0 => p164_2 F172 R x1 x2 x3 x4 (fun x1 x2 x3 x4 => G164_2 n R x1 x2 x3 x4 k0) k0
def p164 (L2 : LT164_2) : FT164 := fun R a0 k =>
L2 R a0.1.1 (0 : Int) a0 (List.replicate 32 (0 : Int)) (fun x1 x2 =>
k x2 x1)
theorem q164 (F172 : FT172) (L2 : LT164_2) (F : FT164) (R : Type) (x : AT (en164 F).ins) (k : RT (en164 F).outs → PT (en164 F).ins → Option R) :
  xfun (e164 F172 L2 R) (codeOf Tryz.f164) res164 (avs (en164 F).ins x) (finK (en164 F).outs (en164 F).ins k) = p164 L2 R x.1 (fun y1 p1 => k (y1, ()) (p1, ())) := by kernel_rfl
noncomputable def F164 : FT164 := p164 (G164_2 FUEL)
theorem env164 (R : Type) : EnvOK Tryz.prog (e164 F172 (G164_2 FUEL) R) := ⟨tabOK, eqOK, callOf_ok (allE_cons ok172 allE_nil), noIns, inlOK_nil⟩
noncomputable def T164_2 : (R : Type) → HT (le164_2 (G164_2 FUEL)).H → (HT (le164_2 (G164_2 FUEL)).H → Option R) → KT R (le164_2 (G164_2 FUEL)).exs → Option R := fun R x kc ke => p164_2 F172 R x.1 x.2.1 x.2.2.1 x.2.2.2.1 (fun x1 x2 x3 x4 => kc (x1, x2, x3, x4, ())) (fun y1 y2 => ke.1 (y1, y2, ()))
theorem it164_2 : ∀ (n : Nat) (R : Type) (x : HT (le164_2 (G164_2 FUEL)).H) (ke : KT R (le164_2 (G164_2 FUEL)).exs), iter T164_2 n R x ke = G164_2 n R x.1 x.2.1 x.2.2.1 x.2.2.2.1 (fun y1 y2 => ke.1 (y1, y2, ())) := by
  intro n
  induction n with
  | zero => intro R x ke; rfl
  | succ n ih =>
    intro R x ke
    show T164_2 R x (fun x' => iter T164_2 n R x' ke) ke = _
    rw [show (fun x' => iter T164_2 n R x' ke) = fun x => G164_2 n R x.1 x.2.1 x.2.2.1 x.2.2.2.1 (fun y1 y2 => ke.1 (y1, y2, ())) from funext fun x' => ih R x' ke]
    rfl
theorem lok164_2 : (le164_2 (G164_2 FUEL)).OK Tryz.prog 1 24 (lcode 2 (codeOf Tryz.f164)) := fun R x ke r h =>
  iter_sound (fun R => e164 F172 (G164_2 FUEL) R) 1 24 (fun _ => rfl) (fun _ => rfl) (fun R => env164 R) mixed (by
    intro R
    rw [show loopsOf (lcode 2 (codeOf Tryz.f164)) = [] from by kernel_rfl]
    exact allM_nil) (T := T164_2) (fun R x kc ke => q164_2 F172 (G164_2 FUEL) R x kc ke) FUEL R x ke r ((it164_2 FUEL R x ke).trans h)
theorem ok164 : (en164 F164).OK Tryz.prog :=
  ent_ok (Ef := fun R => e164 F172 (G164_2 FUEL) R) (fun R => env164 R) mixed Tryz.func164 (body := codeOf Tryz.f164) (by kernel_rfl) (by kernel_rfl) (np := 1) (nt := 24) (fun _ => rfl) (fun _ => rfl) (by kernel_rfl) (res := res164) (by kernel_rfl) (fun _ => rfl) (fun _ => Nat.le_of_ble_eq_true rfl) (by
    intro R
    rw [show loopsOf (codeOf Tryz.f164) = [lcode 2 (codeOf Tryz.f164)] from by kernel_rfl]
    exact (allM_cons (loop_ok2 (e := le164_2 (G164_2 FUEL)) rfl rfl lok164_2) allM_nil)) (fun R x k => q164 F172 (G164_2 FUEL) F164 R x k)
abbrev FT153 : Type 1 := (R : Type) → Tq9 → ((List Int) → Int → Option R) → Option R
def en153 (F : FT153) : Ent := ⟨153, [(false, Kq9)], [(false, (.arr 32 (.int .u8))), (false, (.int .i64))], fun R x k => F R x.1 (fun y1 y2 => k (y1, y2, ()) ())⟩
def res153 : List (ResultVar × TypeId × Bool) := [(.cell 2 28, 28, false), (.tmp 3, 32, false)]
noncomputable def e153 (F162 : FT162) (F163 : FT163) (F164 : FT164) (R : Type) : Env R := ⟨TT, EQT, 0, 23, ownOf [], callOf [en162 F162, en163 F163, en164 F164] R, loopOf [] R, [], inlOf []⟩
def p153 (F162 : FT162) (F163 : FT163) (F164 : FT164) : FT153 := fun R a0 k =>
F162 R a0.2.1 a0.2.2.1 fun y1 y2 =>
(match (!y2) with
| true => let v3 : (List Int) := (List.replicate 32 (0 : Int));
k v3 (1 : Int)
| false => F163 R (a0, ()) y1 fun y4 p5 =>
F164 R p5 fun y6 p7 =>
k y6 (0 : Int))
theorem q153 (F162 : FT162) (F163 : FT163) (F164 : FT164) (F : FT153) (R : Type) (x : AT (en153 F).ins) (k : RT (en153 F).outs → PT (en153 F).ins → Option R) :
  xfun (e153 F162 F163 F164 R) (codeOf Tryz.f153) res153 (avs (en153 F).ins x) (finK (en153 F).outs (en153 F).ins k) = p153 F162 F163 F164 R x.1 (fun y1 y2 => k (y1, y2, ()) ()) := by kernel_rfl
noncomputable def F153 : FT153 := p153 F162 F163 F164
theorem env153 (R : Type) : EnvOK Tryz.prog (e153 F162 F163 F164 R) := ⟨tabOK, eqOK, callOf_ok (allE_cons ok162 (allE_cons ok163 (allE_cons ok164 allE_nil))), noIns, inlOK_nil⟩
theorem ok153 : (en153 F153).OK Tryz.prog :=
  ent_ok (Ef := fun R => e153 F162 F163 F164 R) (fun R => env153 R) mixed Tryz.func153 (body := codeOf Tryz.f153) (by kernel_rfl) (by kernel_rfl) (np := 0) (nt := 23) (fun _ => rfl) (fun _ => rfl) (by kernel_rfl) (res := res153) (by kernel_rfl) (fun _ => rfl) (fun _ => Nat.le_of_ble_eq_true rfl) (by
    intro R
    rw [show loopsOf (codeOf Tryz.f153) = [] from by kernel_rfl]
    exact allM_nil) (fun R x k => q153 F162 F163 F164 F153 R x k)
abbrev FT148 : Type 1 := (R : Type) → (List (List Int)) → ((List Int) → Option R) → Option R
def en148 (F : FT148) : Ent := ⟨148, [(false, (.sl (.sl (.int .u8))))], [(false, (.arr 32 (.int .u8)))], fun R x k => F R x.1 (fun y1 => k (y1, ()) ())⟩
def res148 : List (ResultVar × TypeId × Bool) := [(.cell 2 28, 28, false)]
noncomputable def e148 (F151 : FT151) (F152 : FT152) (F153 : FT153) (R : Type) : Env R := ⟨TT, EQT, 0, 19, ownOf [], callOf [en151 F151, en152 F152, en153 F153] R, loopOf [] R, [], inlOf []⟩
def p148 (F151 : FT151) (F152 : FT152) (F153 : FT153) : FT148 := fun R a0 k =>
F152 R  fun y1 =>
F151 R y1 a0 fun y2 y3 =>
F153 R y2 fun y4 y5 =>
k y4
theorem q148 (F151 : FT151) (F152 : FT152) (F153 : FT153) (F : FT148) (R : Type) (x : AT (en148 F).ins) (k : RT (en148 F).outs → PT (en148 F).ins → Option R) :
  xfun (e148 F151 F152 F153 R) (codeOf Tryz.f148) res148 (avs (en148 F).ins x) (finK (en148 F).outs (en148 F).ins k) = p148 F151 F152 F153 R x.1 (fun y1 => k (y1, ()) ()) := by kernel_rfl
noncomputable def F148 : FT148 := p148 F151 F152 F153
theorem env148 (R : Type) : EnvOK Tryz.prog (e148 F151 F152 F153 R) := ⟨tabOK, eqOK, callOf_ok (allE_cons ok151 (allE_cons ok152 (allE_cons ok153 allE_nil))), noIns, inlOK_nil⟩
theorem ok148 : (en148 F148).OK Tryz.prog :=
  ent_ok (Ef := fun R => e148 F151 F152 F153 R) (fun R => env148 R) mixed Tryz.func148 (body := codeOf Tryz.f148) (by kernel_rfl) (by kernel_rfl) (np := 0) (nt := 19) (fun _ => rfl) (fun _ => rfl) (by kernel_rfl) (res := res148) (by kernel_rfl) (fun _ => rfl) (fun _ => Nat.le_of_ble_eq_true rfl) (by
    intro R
    rw [show loopsOf (codeOf Tryz.f148) = [] from by kernel_rfl]
    exact allM_nil) (fun R x k => q148 F151 F152 F153 F148 R x k)
abbrev FT143 : Type 1 := (R : Type) → (List Int) → Int → Int → ((List Int) → Option R) → Option R
def en143 (F : FT143) : Ent := ⟨143, [(false, (.arr 32 (.int .u8))), (false, (.int .u64)), (false, (.int .u64))], [(false, (.arr 32 (.int .u8)))], fun R x k => F R x.1 x.2.1 x.2.2.1 (fun y1 => k (y1, ()) ())⟩
def res143 : List (ResultVar × TypeId × Bool) := [(.cell 6 28, 28, false)]
noncomputable def e143 (F147 : FT147) (F148 : FT148) (R : Type) : Env R := ⟨TT, EQT, 0, 18, ownOf [], callOf [en147 F147, en148 F148] R, loopOf [] R, [], inlOf []⟩
def p143 (F147 : FT147) (F148 : FT148) : FT143 := fun R a0 a1 a2 k =>
F147 R a1 fun y1 =>
F147 R a2 fun y2 =>
let v3 : (List (List Int)) := ([(List.take 32 (List.drop 0 a0)), (List.take 8 (List.drop 0 y1)), (List.take 8 (List.drop 0 y2))] : (List (List Int)));
F148 R v3 fun y4 =>
k y4
theorem q143 (F147 : FT147) (F148 : FT148) (F : FT143) (R : Type) (x : AT (en143 F).ins) (k : RT (en143 F).outs → PT (en143 F).ins → Option R) :
  xfun (e143 F147 F148 R) (codeOf Tryz.f143) res143 (avs (en143 F).ins x) (finK (en143 F).outs (en143 F).ins k) = p143 F147 F148 R x.1 x.2.1 x.2.2.1 (fun y1 => k (y1, ()) ()) := by kernel_rfl
noncomputable def F143 : FT143 := p143 F147 F148
theorem env143 (R : Type) : EnvOK Tryz.prog (e143 F147 F148 R) := ⟨tabOK, eqOK, callOf_ok (allE_cons ok147 (allE_cons ok148 allE_nil)), noIns, inlOK_nil⟩
theorem ok143 : (en143 F143).OK Tryz.prog :=
  ent_ok (Ef := fun R => e143 F147 F148 R) (fun R => env143 R) mixed Tryz.func143 (body := codeOf Tryz.f143) (by kernel_rfl) (by kernel_rfl) (np := 0) (nt := 18) (fun _ => rfl) (fun _ => rfl) (by kernel_rfl) (res := res143) (by kernel_rfl) (fun _ => rfl) (fun _ => Nat.le_of_ble_eq_true rfl) (by
    intro R
    rw [show loopsOf (codeOf Tryz.f143) = [] from by kernel_rfl]
    exact allM_nil) (fun R x k => q143 F147 F148 F143 R x k)
abbrev FT137 : Type 1 := (R : Type) → Tq13 → Int → (Int → Tq13 → Option R) → Option R
def en137 (F : FT137) : Ent := ⟨137, [(true, Kq13), (false, (.int .u64))], [(false, (.int .u8))], fun R x k => F R x.1 x.2.1 (fun y1 p1 => k (y1, ()) (p1, ()))⟩
def res137 : List (ResultVar × TypeId × Bool) := [(.tmp 4, 5, false)]
noncomputable def e137 (F143 : FT143) (R : Type) : Env R := ⟨TT, EQT, 1, 67, ownOf [], callOf [en143 F143] R, loopOf [] R, [], inlOf []⟩
def p137 (F143 : FT143) : FT137 := fun R a0 a1 k =>
let v1 : Bool := (a0.1.1 == (1 : Int));
(match v1 with
| true => (match (bnd a1 (List.length a0.1.2.1 : Int)) with
| true => let v2 : Int := (List.getD a0.1.2.1 (Int.toNat a1) (0 : Int));
k v2 a0
| false => none)
| false => let v3 : Int := (IntKind.u64.wrap (Int.tdiv a1 (32 : Int)));
let v4 : Bool := (!a0.2.2.2.1);
(match v4 with
| true => F143 R a0.1.2.2.2.1 a0.1.2.2.2.2.1 v3 fun y5 =>
let v6 : Int := (Int.tmod a1 (32 : Int));
(match (bnd v6 (32 : Int)) with
| true => let v7 : Int := (List.getD y5 (Int.toNat v6) (0 : Int));
k v7 (a0.1, y5, v3, true, a0.2.2.2.2)
| false => none)
| false => let v8 : Bool := (v3 != a0.2.2.1);
(match v8 with
| true => F143 R a0.1.2.2.2.1 a0.1.2.2.2.2.1 v3 fun y9 =>
let v10 : Int := (Int.tmod a1 (32 : Int));
(match (bnd v10 (32 : Int)) with
| true => let v11 : Int := (List.getD y9 (Int.toNat v10) (0 : Int));
k v11 (a0.1, y9, v3, true, a0.2.2.2.2)
| false => none)
| false => let v12 : Int := (Int.tmod a1 (32 : Int));
(match (bnd v12 (32 : Int)) with
| true => let v13 : Int := (List.getD a0.2.1 (Int.toNat v12) (0 : Int));
k v13 a0
| false => none))))
theorem q137 (F143 : FT143) (F : FT137) (R : Type) (x : AT (en137 F).ins) (k : RT (en137 F).outs → PT (en137 F).ins → Option R) :
  xfun (e137 F143 R) (codeOf Tryz.f137) res137 (avs (en137 F).ins x) (finK (en137 F).outs (en137 F).ins k) = p137 F143 R x.1 x.2.1 (fun y1 p1 => k (y1, ()) (p1, ())) := by kernel_rfl
noncomputable def F137 : FT137 := p137 F143
theorem env137 (R : Type) : EnvOK Tryz.prog (e137 F143 R) := ⟨tabOK, eqOK, callOf_ok (allE_cons ok143 allE_nil), noIns, inlOK_nil⟩
theorem ok137 : (en137 F137).OK Tryz.prog :=
  ent_ok (Ef := fun R => e137 F143 R) (fun R => env137 R) mixed Tryz.func137 (body := codeOf Tryz.f137) (by kernel_rfl) (by kernel_rfl) (np := 1) (nt := 67) (fun _ => rfl) (fun _ => rfl) (by kernel_rfl) (res := res137) (by kernel_rfl) (fun _ => rfl) (fun _ => Nat.le_of_ble_eq_true rfl) (by
    intro R
    rw [show loopsOf (codeOf Tryz.f137) = [] from by kernel_rfl]
    exact allM_nil) (fun R x k => q137 F143 F137 R x k)
abbrev FT120 : Type 1 := (R : Type) → Tq13 → (Int → Tq13 → Option R) → Option R
abbrev KS120 : Kd := Kq6
abbrev KQ120 : Kd := Kq12
abbrev K120 : Kd := .pair KS120 KQ120
def en120 (F : FT120) : Ent := ⟨120, [(true, K120)], [(false, (.int .u64))], fun R x k => F R x.1 (fun y1 p1 => k (y1, ()) (p1, ()))⟩
def res120 : List (ResultVar × TypeId × Bool) := [(.tmp 2, 22, false)]
noncomputable def u120 : (R : Type) → K120.T → Int → KQ120.T → (Int → K120.T → Option R) → Option R := fun R a0 y2 q k =>
let v6 : Int := (ishr .u8 y2 (IntKind.u64.wrap ((7 : Int) - (Int.tmod a0.1.2.2.2.2.2.1 (8 : Int)))));
let v7 : Int := (IntKind.u64.wrap (a0.1.2.2.2.2.2.1 + (1 : Int)));
let v8 : Int := (iand .u8 v6 (1 : Int));
let v9 : Int := (IntKind.u64.wrap v8);
k v9 ((a0.1.1, a0.1.2.1, a0.1.2.2.1, a0.1.2.2.2.1, a0.1.2.2.2.2.1, v7, a0.1.2.2.2.2.2.2), q)
noncomputable def F120 : FT120 := fun R a0 k =>
F137 R a0 (IntKind.u64.wrap (Int.tdiv a0.1.2.2.2.2.2.1 (8 : Int))) fun y2 p3 =>
match decide (0 ≤ IntKind.u64.wrap ((7 : Int) - (Int.tmod a0.1.2.2.2.2.2.1 (8 : Int)))) with
| true => u120 R a0 y2 p3.2 k
| false => none
theorem F137_keep (R : Type) (a0 : K120.T) (a1 : Int) (k : Int → K120.T → Option R) : F137 R a0 a1 k = F137 R a0 a1 (fun y p => @ite (Option R) (p.1 = a0.1) (Classical.propDecidable _) (k y p) none) := by
  simp only [F137, p137, if_true]
noncomputable def same2 {α : Type} (x y : α) : Bool := @decide (x = y) (Classical.propDecidable _)
theorem same2_self {α : Type} (x : α) : same2 x x = true := @decide_eq_true _ (Classical.propDecidable _) rfl
theorem same2_eq {α : Type} {x y : α} (h : same2 x y = true) : x = y := @of_decide_eq_true _ (Classical.propDecidable _) h
noncomputable def en137c (a0 : K120.T) (a1 y : Int) (q : KQ120.T) : Ent := ⟨137, [(true, K120), (false, (.int .u64))], [(false, (.int .u8))], fun _ x k => match same2 x (a0, a1, ()) with | true => k (y, ()) ((a0.1, q), ()) | false => none⟩
theorem ok137c {a0 : K120.T} {a1 y : Int} {q : KQ120.T} (h : Holds Tryz.prog 137 (avs [(true, K120), (false, (.int .u64))] (a0, a1, ())) (rvs [(false, (.int .u8))] (y, ())) (tvs [(true, K120), (false, (.int .u64))] ((a0.1, q), ()))) : (en137c a0 a1 y q).OK Tryz.prog := by
  intro R x k r hr
  simp only [en137c] at hr
  split at hr
  · rename_i he
    have := same2_eq he
    subst this
    exact ⟨(y, ()), ((a0.1, q), ()), h, hr⟩
  · cases hr
noncomputable def c120 (a0 : K120.T) (a1 y : Int) (q : KQ120.T) : Env (St × List Acc) := ⟨TT, EQT, 1, 32, ownOf [], callOf [en137c a0 a1 y q] _, loopOf [] _, [], inlOf []⟩
def e120 (R : Type) : Env R := ⟨TT, EQT, 1, 32, ownOf [], callOf [] R, loopOf [] R, [], inlOf []⟩
def first120 : Code → Code
  | .seq a _ => a
  | c => c
def ops120 : Code → Array Oper
  | .seq _ (.seq (.region _ ops _) _) => ops
  | _ => #[]
def o12120 : Code → Oper
  | .seq _ (.seq (.region _ ops _) _) => (ops[12]?).getD ⟨none, .assign (.tmp 0), 0, "", #[], none⟩
  | _ => ⟨none, .assign (.tmp 0), 0, "", #[], none⟩
def rest120 : Code → Code
  | .seq _ (.seq _ c) => c
  | c => c
def z0120 (a0 : K120.T) : St := ⟨[(0, .ptr 0 [] K120)], [(0, .var K120 a0 false)], 1⟩
def z1120 (a0 : K120.T) : St := ⟨[(2, .val (.int .u64) (0 : Int)), (0, .ptr 0 [] K120)], [(0, .var K120 a0 false)], 1⟩
noncomputable def z2120 (a0 : K120.T) (y : Int) (q : KQ120.T) : St :=
  ⟨[(3, .val (.int .u8) (ishr .u8 y (IntKind.u64.wrap ((7 : Int) - (Int.tmod a0.1.2.2.2.2.2.1 (8 : Int)))))), (19, .val (.int .u8) (ishr .u8 y (IntKind.u64.wrap ((7 : Int) - (Int.tmod a0.1.2.2.2.2.2.1 (8 : Int)))))),
    (18, .val (.int .u64) (IntKind.u64.wrap ((7 : Int) - (Int.tmod a0.1.2.2.2.2.2.1 (8 : Int))))), (17, .val (.int .u64) (Int.tmod a0.1.2.2.2.2.2.1 (8 : Int))), (16, .val (.int .u64) a0.1.2.2.2.2.2.1),
    (15, .ptr 0 [.fld 0, .fld 5] (.int .u64)), (14, .ptr 0 [.fld 0] KS120), (13, .ptr 0 [] K120), (12, .ptr 0 [] K120), (11, .val (.int .u8) y), (10, .val (.int .u64) (IntKind.u64.wrap (Int.tdiv a0.1.2.2.2.2.2.1 (8 : Int)))), (9, .val (.int .u64) a0.1.2.2.2.2.2.1),
    (8, .ptr 0 [.fld 0, .fld 5] (.int .u64)), (7, .ptr 0 [.fld 0] KS120), (6, .ptr 0 [] K120), (5, .ptr 0 [] K120), (4, .ptr 0 [] K120), (2, .val (.int .u64) (0 : Int)), (0, .ptr 0 [] K120)],
   [(0, .var K120 (a0.1, q) false), (0, .var K120 a0 false)], 1⟩
def acc120 : List Acc := [([], [], false), ([], [], false), ([], [], false), ([], [], false), ([], [0], false), ([], [], false), ([], [], false), ([], [], false), ([], [], false), ([0], [0, 0], false), ([], [], false), ([], [0], false), ([], [], false), ([], [], false), ([], [], false), ([], [], false), ([], [], false)]
theorem x0120 (a0 : K120.T) : exec (e120 St) (first120 (codeOf Tryz.f120)) (z0120 a0) (fun e σ => match e with | .normal => some σ | _ => none) = some (z1120 a0) := by kernel_rfl
theorem x1120 (a0 : K120.T) (y : Int) (q : KQ120.T) : xops (c120 a0 (IntKind.u64.wrap (Int.tdiv a0.1.2.2.2.2.2.1 (8 : Int))) y q) 1 (ops120 (codeOf Tryz.f120)) (ops120 (codeOf Tryz.f120)).toList 0 (z1120 a0) [] (fun σ' accs => some (σ', accs)) =
    (match same2 (a0, IntKind.u64.wrap (Int.tdiv a0.1.2.2.2.2.2.1 (8 : Int)), ()) (a0, IntKind.u64.wrap (Int.tdiv a0.1.2.2.2.2.2.1 (8 : Int)), ()) with
     | true => (match decide (0 ≤ IntKind.u64.wrap ((7 : Int) - (Int.tmod a0.1.2.2.2.2.2.1 (8 : Int)))) with | true => some (z2120 a0 y q, acc120) | false => none)
     | false => none) := by kernel_rfl
theorem x2120 (R : Type) (a0 : K120.T) (y : Int) (q : KQ120.T) (k : RT [(false, Kd.int .u64)] → PT [(true, K120)] → Option R) :
    exec (e120 R) (rest120 (codeOf Tryz.f120)) (z2120 a0 y q) (funK (e120 R) res120 (finK [(false, .int .u64)] [(true, K120)] k)) = u120 R a0 y q (fun y1 p1 => k (y1, ()) (p1, ())) := by kernel_rfl
theorem ok120 : (en120 F120).OK Tryz.prog := by
  intro R x k r h
  obtain ⟨a0, u⟩ := x
  change F120 R a0 (fun y1 p1 => k (y1, ()) (p1, ())) = some r at h
  unfold F120 at h
  rw [F137_keep] at h
  obtain ⟨⟨y, uy⟩, ⟨⟨p1, q⟩, up⟩, hH, hk⟩ := ok137 R (a0, IntKind.u64.wrap (Int.tdiv a0.1.2.2.2.2.2.1 (8 : Int)), ()) (fun y p => (fun (y : Int) (p : K120.T) => @ite (Option R) (p.1 = a0.1) (Classical.propDecidable _) (match decide (0 ≤ IntKind.u64.wrap ((7 : Int) - (Int.tmod a0.1.2.2.2.2.2.1 (8 : Int)))) with
    | true => u120 R a0 y p.2 (fun y1 p1 => k (y1, ()) (p1, ()))
    | false => none) none) y.1 p.1) r h
  simp only at hk
  split at hk <;> try (cases hk; done)
  rename_i hp
  subst hp
  split at hk <;> try (cases hk; done)
  rename_i hv
  have hE0 : EnvOK Tryz.prog (e120 R) := ⟨tabOK, eqOK, callOf_ok allE_nil, noIns, inlOK_nil⟩
  have hE1 : EnvOK Tryz.prog (e120 St) := ⟨tabOK, eqOK, callOf_ok allE_nil, noIns, inlOK_nil⟩
  have hE2 : EnvOK Tryz.prog (c120 a0 (IntKind.u64.wrap (Int.tdiv a0.1.2.2.2.2.2.1 (8 : Int))) y q) := ⟨tabOK, eqOK, callOf_ok (allE_cons (ok137c hH) allE_nil), noIns, inlOK_nil⟩
  have hL0 : Leads 1 32 Tryz.prog (first120 (codeOf Tryz.f120)) (z0120 a0) .normal (z1120 a0) := by
    obtain ⟨e, σ, h1, h2⟩ := exec_sound hE1 mixed (first120 (codeOf Tryz.f120)) (by rw [show loopsOf (first120 (codeOf Tryz.f120)) = [] from by kernel_rfl]; exact allM_nil) _ _ _ (x0120 a0)
    cases e with
    | normal => simp only [Option.some.injEq] at h1; subst h1; exact h2
    | exit i => cases h1
    | ret => cases h1
  have hL1 : Leads 1 32 Tryz.prog (.region 1 (ops120 (codeOf Tryz.f120)) true) (z1120 a0) .normal (z2120 a0 y q) := by
    have hx := x1120 a0 y q
    rw [same2_self, hv] at hx
    obtain ⟨w1, w2⟩ := qWr_spec (i0 := 7) (b := 0) (l := acc120.reverse) (by kernel_rfl)
    exact leads_flex (j0 := 12) (i0 := 7) (b := 0) (d := 16) (t := 15) (nx := 1) (o := o12120 (codeOf Tryz.f120)) (b1 := .var K120 a0 false) (b2 := .var K120 (a0.1, q) false) hE2 mixed hx (by kernel_rfl) w1 w2 (by omega)
      (by kernel_rfl) (by kernel_rfl) (by kernel_rfl) (by kernel_rfl) rfl (Nat.lt_of_succ_le (Nat.le_of_ble_eq_true rfl)) (qDst_spec (by kernel_rfl)) (qTmp_spec (by kernel_rfl))
      (by rw [show (o12120 (codeOf Tryz.f120)).op.operands = #[.tmp 15] from by kernel_rfl]; intro x hx; simpa using hx) rfl rfl
      (fun B hB => by rcases hB with rfl | rfl <;> kernel_rfl)
  have hbody : codeOf Tryz.f120 = .seq (first120 (codeOf Tryz.f120)) (.seq (.region 1 (ops120 (codeOf Tryz.f120)) true) (rest120 (codeOf Tryz.f120))) := by kernel_rfl
  have hx2 := x2120 R a0 y q k
  rw [hk] at hx2
  obtain ⟨e, σ, h1, h2⟩ := exec_sound hE0 mixed (rest120 (codeOf Tryz.f120)) (by rw [show loopsOf (rest120 (codeOf Tryz.f120)) = [] from by kernel_rfl]; exact allM_nil) _ _ _ hx2
  have hL := Leads.seq hL0 (Leads.seq hL1 h2)
  rw [← hbody] at hL
  obtain ⟨rs, os, g1, g2⟩ := xfun_leads hE0 Tryz.func120 (body := codeOf Tryz.f120) (by kernel_rfl) (enters Tryz.func120 (by kernel_rfl) (by kernel_rfl)) (by kernel_rfl) (res := res120) (by kernel_rfl) («as» := [.ptr K120 a0]) rfl (Nat.le_of_ble_eq_true rfl) (tm0 := (z0120 a0).tm) (me0 := (z0120 a0).me) rfl hL h1
  unfold finK at g2
  split at g2 <;> try (cases g2; done)
  rename_i y' hy
  split at g2 <;> try (cases g2; done)
  rename_i p' hp
  rw [asR_spec hy, asP_spec hp] at g1
  exact ⟨y', p', g1, g2⟩
abbrev FT83 : Type 1 := (R : Type) → Tq6 → Int → (Int → Tq6 → Int → Option R) → Option R
def en83 (F : FT83) : Ent := ⟨83, [(false, Kq6), (false, (.int .i64))], [(false, (.int .u64)), (false, Kq6), (false, (.int .i64))], fun R x k => F R x.1 x.2.1 (fun y1 y2 y3 => k (y1, y2, y3, ()) ())⟩
def res83 : List (ResultVar × TypeId × Bool) := [(.tmp 4, 22, false), (.cell 5 30, 30, false), (.tmp 6, 32, false)]
abbrev LT83_7 : Type 1 := (R : Type) → Int → Int → Int → Tq6 → Tq13 → (Int → Tq6 → Tq13 → Option R) → Option R
def le83_7 (L : LT83_7) : LEnt := ⟨7, [.val 4 (.int .u64), .fix 5 (.ptr 1 [] Kq6), .fix 7 (.ptr 2 [] Kq13), .val 31 (.int .i64), .val 32 (.int .i64), .var 1 Kq6 false, .var 2 Kq13 false], 3, [(.exit 1, [.val 4 (.int .u64), .fix 5 (.ptr 1 [] Kq6), .fix 7 (.ptr 2 [] Kq13), .var 1 Kq6 false, .var 2 Kq13 false])], fun R x ke => L R x.1 x.2.1 x.2.2.1 x.2.2.2.1 x.2.2.2.2.1 (fun y1 y2 y3 => ke.1 (y1, y2, y3, ()))⟩
noncomputable def e83 (F95 : FT95) (F119 : FT119) (F120 : FT120) (L7 : LT83_7) (R : Type) : Env R := ⟨TT, EQT, 0, 45, ownOf [], callOf [en95 F95, en119 F119, en120 F120] R, loopOf [le83_7 L7] R, [], inlOf []⟩
def p83_7 (F120 : FT120) : (R : Type) → Int → Int → Int → Tq6 → Tq13 → (Int → Int → Int → Tq6 → Tq13 → Option R) → (Int → Tq6 → Tq13 → Option R) → Option R := fun R x1 x2 x3 x4 x5 kc k0 =>
let v6 : Bool := (decide (x3 < x2));
(match v6 with
| true => let v7 : Int := (ishl .u64 x1 (1 : Int));
F120 R x5 fun y8 p9 =>
let v10 : Int := (ior .u64 v7 y8);
let v11 : Int := (IntKind.i64.wrap (x3 + (1 : Int)));
kc v10 x2 v11 x4 p9
| false => k0 x1 x4 x5)
theorem q83_7 (F95 : FT95) (F119 : FT119) (F120 : FT120) (L7 : LT83_7) (R : Type) (x : HT (le83_7 L7).H) (kc : HT (le83_7 L7).H → Option R) (ke : KT R (le83_7 L7).exs) :
  exec (e83 F95 F119 F120 L7 R) (lcode 7 (codeOf Tryz.f83)) (stOf (le83_7 L7).H x 3) (roundK (le83_7 L7).H (le83_7 L7).exs kc ke) =
    p83_7 F120 R x.1 x.2.1 x.2.2.1 x.2.2.2.1 x.2.2.2.2.1 (fun x1 x2 x3 x4 x5 => kc (x1, x2, x3, x4, x5, ())) (fun y1 y2 y3 => ke.1 (y1, y2, y3, ())) := by kernel_rfl
noncomputable def G83_7 : Nat → LT83_7
  | 0 => fun _ _ _ _ _ _ _ => none
  | n + 1 => fun R x1 x2 x3 x4 x5 k0 => p83_7 F120 R x1 x2 x3 x4 x5 (fun x1 x2 x3 x4 x5 => G83_7 n R x1 x2 x3 x4 x5 k0) k0
def p83 (F95 : FT95) (F119 : FT119) (L7 : LT83_7) : FT83 := fun R a0 a1 k =>
F95 R a0 fun y1 =>
(match (!y1) with
| true => k (0 : Int) a0 (1 : Int)
| false => let v2 : Bool := (decide (a1 < (0 : Int)));
(match v2 with
| true => k (0 : Int) a0 (1 : Int)
| false => let v3 : Bool := (decide (a1 > (64 : Int)));
(match v3 with
| true => k (0 : Int) a0 (1 : Int)
| false => let v4 : Int := (IntKind.u64.wrap a1);
F119 R a0 fun y5 =>
let v6 : Bool := (decide (v4 > y5));
(match v6 with
| true => k (0 : Int) a0 (8 : Int)
| false => L7 R (0 : Int) a1 (0 : Int) ((0 : Int), ([] : (List Int)), (0 : Int), (List.replicate 32 (0 : Int)), (0 : Int), (0 : Int), ()) (a0, (List.replicate 32 (0 : Int)), (0 : Int), false, ()) (fun x7 x8 x9 =>
k x7 x9.1 (0 : Int))))))
theorem q83 (F95 : FT95) (F119 : FT119) (F120 : FT120) (L7 : LT83_7) (F : FT83) (R : Type) (x : AT (en83 F).ins) (k : RT (en83 F).outs → PT (en83 F).ins → Option R) :
  xfun (e83 F95 F119 F120 L7 R) (codeOf Tryz.f83) res83 (avs (en83 F).ins x) (finK (en83 F).outs (en83 F).ins k) = p83 F95 F119 L7 R x.1 x.2.1 (fun y1 y2 y3 => k (y1, y2, y3, ()) ()) := by kernel_rfl
noncomputable def F83 : FT83 := p83 F95 F119 (G83_7 FUEL)
theorem env83 (R : Type) : EnvOK Tryz.prog (e83 F95 F119 F120 (G83_7 FUEL) R) := ⟨tabOK, eqOK, callOf_ok (allE_cons ok95 (allE_cons ok119 (allE_cons ok120 allE_nil))), noIns, inlOK_nil⟩
noncomputable def T83_7 : (R : Type) → HT (le83_7 (G83_7 FUEL)).H → (HT (le83_7 (G83_7 FUEL)).H → Option R) → KT R (le83_7 (G83_7 FUEL)).exs → Option R := fun R x kc ke => p83_7 F120 R x.1 x.2.1 x.2.2.1 x.2.2.2.1 x.2.2.2.2.1 (fun x1 x2 x3 x4 x5 => kc (x1, x2, x3, x4, x5, ())) (fun y1 y2 y3 => ke.1 (y1, y2, y3, ()))
theorem it83_7 : ∀ (n : Nat) (R : Type) (x : HT (le83_7 (G83_7 FUEL)).H) (ke : KT R (le83_7 (G83_7 FUEL)).exs), iter T83_7 n R x ke = G83_7 n R x.1 x.2.1 x.2.2.1 x.2.2.2.1 x.2.2.2.2.1 (fun y1 y2 y3 => ke.1 (y1, y2, y3, ())) := by
  intro n
  induction n with
  | zero => intro R x ke; rfl
  | succ n ih =>
    intro R x ke
    show T83_7 R x (fun x' => iter T83_7 n R x' ke) ke = _
    rw [show (fun x' => iter T83_7 n R x' ke) = fun x => G83_7 n R x.1 x.2.1 x.2.2.1 x.2.2.2.1 x.2.2.2.2.1 (fun y1 y2 y3 => ke.1 (y1, y2, y3, ())) from funext fun x' => ih R x' ke]
    rfl
theorem lok83_7 : (le83_7 (G83_7 FUEL)).OK Tryz.prog 0 45 (lcode 7 (codeOf Tryz.f83)) := fun R x ke r h =>
  iter_sound (fun R => e83 F95 F119 F120 (G83_7 FUEL) R) 0 45 (fun _ => rfl) (fun _ => rfl) (fun R => env83 R) mixed (by
    intro R
    rw [show loopsOf (lcode 7 (codeOf Tryz.f83)) = [] from by kernel_rfl]
    exact allM_nil) (T := T83_7) (fun R x kc ke => q83_7 F95 F119 F120 (G83_7 FUEL) R x kc ke) FUEL R x ke r ((it83_7 FUEL R x ke).trans h)
theorem ok83 : (en83 F83).OK Tryz.prog :=
  ent_ok (Ef := fun R => e83 F95 F119 F120 (G83_7 FUEL) R) (fun R => env83 R) mixed Tryz.func83 (body := codeOf Tryz.f83) (by kernel_rfl) (by kernel_rfl) (np := 0) (nt := 45) (fun _ => rfl) (fun _ => rfl) (by kernel_rfl) (res := res83) (by kernel_rfl) (fun _ => rfl) (fun _ => Nat.le_of_ble_eq_true rfl) (by
    intro R
    rw [show loopsOf (codeOf Tryz.f83) = [lcode 7 (codeOf Tryz.f83)] from by kernel_rfl]
    exact (allM_cons (loop_ok2 (e := le83_7 (G83_7 FUEL)) rfl rfl lok83_7) allM_nil)) (fun R x k => q83 F95 F119 F120 (G83_7 FUEL) F83 R x k)
abbrev FT42 : Type 1 := (R : Type) → Tq6 → Int → Int → (Int → Tq6 → Int → Option R) → Option R
def en42 (F : FT42) : Ent := ⟨42, [(false, Kq6), (false, (.int .u64)), (false, (.int .i64))], [(false, (.int .u64)), (false, Kq6), (false, (.int .i64))], fun R x k => F R x.1 x.2.1 x.2.2.1 (fun y1 y2 y3 => k (y1, y2, y3, ()) ())⟩
def res42 : List (ResultVar × TypeId × Bool) := [(.tmp 6, 22, false), (.cell 7 30, 30, false), (.tmp 8, 32, false)]
abbrev LT42_4 : Type 1 := (R : Type) → Int → Int → Int → Tq6 → Tq6 → (Int → Int → Tq6 → Option R) → (Tq6 → Tq6 → Option R) → Option R
def le42_4 (L : LT42_4) : LEnt := ⟨4, [.val 1 (.int .u64), .fix 3 (.ptr 0 [] Kq6), .fix 7 (.ptr 1 [] Kq6), .val 18 (.int .i64), .val 19 (.int .i64), .var 0 Kq6 false, .var 1 Kq6 false], 2, [(.ret, [.val 6 (.int .u64), .fix 7 (.ptr 1 [] Kq6), .val 8 (.int .i64), .var 1 Kq6 false]), (.exit 0, [.fix 3 (.ptr 0 [] Kq6), .fix 7 (.ptr 1 [] Kq6), .var 0 Kq6 false, .var 1 Kq6 false])], fun R x ke => L R x.1 x.2.1 x.2.2.1 x.2.2.2.1 x.2.2.2.2.1 (fun y1 y2 y3 => ke.1 (y1, y2, y3, ())) (fun y1 y2 => ke.2.1 (y1, y2, ()))⟩
noncomputable def e42 (F82 : FT82) (F83 : FT83) (F84 : FT84) (L4 : LT42_4) (R : Type) : Env R := ⟨TT, EQT, 0, 43, ownOf [], callOf [en82 F82, en83 F83, en84 F84] R, loopOf [le42_4 L4] R, [], inlOf []⟩
def p42_4 (F83 : FT83) (F84 : FT84) : (R : Type) → Int → Int → Int → Tq6 → Tq6 → (Int → Int → Int → Tq6 → Tq6 → Option R) → (Int → Int → Tq6 → Option R) → (Tq6 → Tq6 → Option R) → Option R := fun R x1 x2 x3 x4 x5 kc k0 k1 =>
let v6 : Bool := (decide (x3 < x2));
(match v6 with
| true => F84 R x1 fun y7 =>
F83 R x4 y7 fun y8 y9 y10 =>
let v11 : Bool := (y10 != (0 : Int));
(match v11 with
| true => k0 (0 : Int) y10 x4
| false => let v12 : Bool := (decide (y8 < x1));
(match v12 with
| true => k0 y8 (0 : Int) y9
| false => let v13 : Int := (IntKind.i64.wrap (x3 + (1 : Int)));
kc x1 x2 v13 y9 x5))
| false => k1 x4 x5)
theorem q42_4 (F82 : FT82) (F83 : FT83) (F84 : FT84) (L4 : LT42_4) (R : Type) (x : HT (le42_4 L4).H) (kc : HT (le42_4 L4).H → Option R) (ke : KT R (le42_4 L4).exs) :
  exec (e42 F82 F83 F84 L4 R) (lcode 4 (codeOf Tryz.f42)) (stOf (le42_4 L4).H x 2) (roundK (le42_4 L4).H (le42_4 L4).exs kc ke) =
    p42_4 F83 F84 R x.1 x.2.1 x.2.2.1 x.2.2.2.1 x.2.2.2.2.1 (fun x1 x2 x3 x4 x5 => kc (x1, x2, x3, x4, x5, ())) (fun y1 y2 y3 => ke.1 (y1, y2, y3, ())) (fun y1 y2 => ke.2.1 (y1, y2, ())) := by kernel_rfl
noncomputable def G42_4 : Nat → LT42_4
  | 0 => fun _ _ _ _ _ _ _ _ => none
  | n + 1 => fun R x1 x2 x3 x4 x5 k0 k1 => p42_4 F83 F84 R x1 x2 x3 x4 x5 (fun x1 x2 x3 x4 x5 => G42_4 n R x1 x2 x3 x4 x5 k0 k1) k0 k1
def p42 (F82 : FT82) (L4 : LT42_4) : FT42 := fun R a0 a1 a2 k =>
F82 R a0 a1 a2 fun y1 =>
(match (!y1) with
| true => k (0 : Int) a0 (1 : Int)
| false => L4 R a1 a2 (0 : Int) a0 ((0 : Int), ([] : (List Int)), (0 : Int), (List.replicate 32 (0 : Int)), (0 : Int), (0 : Int), ()) (fun x2 x3 x4 =>
k x2 x4 x3) (fun x5 x6 =>
k (0 : Int) x5 (9 : Int)))
theorem q42 (F82 : FT82) (F83 : FT83) (F84 : FT84) (L4 : LT42_4) (F : FT42) (R : Type) (x : AT (en42 F).ins) (k : RT (en42 F).outs → PT (en42 F).ins → Option R) :
  xfun (e42 F82 F83 F84 L4 R) (codeOf Tryz.f42) res42 (avs (en42 F).ins x) (finK (en42 F).outs (en42 F).ins k) = p42 F82 L4 R x.1 x.2.1 x.2.2.1 (fun y1 y2 y3 => k (y1, y2, y3, ()) ()) := by kernel_rfl
noncomputable def F42 : FT42 := p42 F82 (G42_4 FUEL)
theorem env42 (R : Type) : EnvOK Tryz.prog (e42 F82 F83 F84 (G42_4 FUEL) R) := ⟨tabOK, eqOK, callOf_ok (allE_cons ok82 (allE_cons ok83 (allE_cons ok84 allE_nil))), noIns, inlOK_nil⟩
noncomputable def T42_4 : (R : Type) → HT (le42_4 (G42_4 FUEL)).H → (HT (le42_4 (G42_4 FUEL)).H → Option R) → KT R (le42_4 (G42_4 FUEL)).exs → Option R := fun R x kc ke => p42_4 F83 F84 R x.1 x.2.1 x.2.2.1 x.2.2.2.1 x.2.2.2.2.1 (fun x1 x2 x3 x4 x5 => kc (x1, x2, x3, x4, x5, ())) (fun y1 y2 y3 => ke.1 (y1, y2, y3, ())) (fun y1 y2 => ke.2.1 (y1, y2, ()))
theorem it42_4 : ∀ (n : Nat) (R : Type) (x : HT (le42_4 (G42_4 FUEL)).H) (ke : KT R (le42_4 (G42_4 FUEL)).exs), iter T42_4 n R x ke = G42_4 n R x.1 x.2.1 x.2.2.1 x.2.2.2.1 x.2.2.2.2.1 (fun y1 y2 y3 => ke.1 (y1, y2, y3, ())) (fun y1 y2 => ke.2.1 (y1, y2, ())) := by
  intro n
  induction n with
  | zero => intro R x ke; rfl
  | succ n ih =>
    intro R x ke
    show T42_4 R x (fun x' => iter T42_4 n R x' ke) ke = _
    rw [show (fun x' => iter T42_4 n R x' ke) = fun x => G42_4 n R x.1 x.2.1 x.2.2.1 x.2.2.2.1 x.2.2.2.2.1 (fun y1 y2 y3 => ke.1 (y1, y2, y3, ())) (fun y1 y2 => ke.2.1 (y1, y2, ())) from funext fun x' => ih R x' ke]
    rfl
theorem lok42_4 : (le42_4 (G42_4 FUEL)).OK Tryz.prog 0 43 (lcode 4 (codeOf Tryz.f42)) := fun R x ke r h =>
  iter_sound (fun R => e42 F82 F83 F84 (G42_4 FUEL) R) 0 43 (fun _ => rfl) (fun _ => rfl) (fun R => env42 R) mixed (by
    intro R
    rw [show loopsOf (lcode 4 (codeOf Tryz.f42)) = [] from by kernel_rfl]
    exact allM_nil) (T := T42_4) (fun R x kc ke => q42_4 F82 F83 F84 (G42_4 FUEL) R x kc ke) FUEL R x ke r ((it42_4 FUEL R x ke).trans h)
theorem ok42 : (en42 F42).OK Tryz.prog :=
  ent_ok (Ef := fun R => e42 F82 F83 F84 (G42_4 FUEL) R) (fun R => env42 R) mixed Tryz.func42 (body := codeOf Tryz.f42) (by kernel_rfl) (by kernel_rfl) (np := 0) (nt := 43) (fun _ => rfl) (fun _ => rfl) (by kernel_rfl) (res := res42) (by kernel_rfl) (fun _ => rfl) (fun _ => Nat.le_of_ble_eq_true rfl) (by
    intro R
    rw [show loopsOf (codeOf Tryz.f42) = [lcode 4 (codeOf Tryz.f42)] from by kernel_rfl]
    exact (allM_cons (loop_ok2 (e := le42_4 (G42_4 FUEL)) rfl rfl lok42_4) allM_nil)) (fun R x k => q42 F82 F83 F84 (G42_4 FUEL) F42 R x k)
abbrev FT122 : Type 1 := (R : Type) → Tq7 → Int → (Int → Option R) → Option R
def en122 (F : FT122) : Ent := ⟨122, [(false, Kq7), (false, (.int .i64))], [(false, (.int .i64))], fun R x k => F R x.1 x.2.1 (fun y1 => k (y1, ()) ())⟩
def res122 : List (ResultVar × TypeId × Bool) := [(.tmp 4, 32, false)]
noncomputable def e122 (F41 : FT41) (R : Type) : Env R := ⟨TT, EQT, 0, 19, ownOf [], callOf [en41 F41] R, loopOf [] R, [], inlOf []⟩
def p122 (F41 : FT41) : FT122 := fun R a0 a1 k =>
F41 R a0 fun y1 =>
(match (!y1) with
| true => k (1 : Int)
| false => let v2 : Bool := (decide (a1 < (0 : Int)));
(match v2 with
| true => k (3 : Int)
| false => let v3 : Int := (List.length a0.2.1 : Int);
let v4 : Bool := (decide (a1 ≥ v3));
(match v4 with
| true => k (3 : Int)
| false => k (0 : Int))))
theorem q122 (F41 : FT41) (F : FT122) (R : Type) (x : AT (en122 F).ins) (k : RT (en122 F).outs → PT (en122 F).ins → Option R) :
  xfun (e122 F41 R) (codeOf Tryz.f122) res122 (avs (en122 F).ins x) (finK (en122 F).outs (en122 F).ins k) = p122 F41 R x.1 x.2.1 (fun y1 => k (y1, ()) ()) := by kernel_rfl
noncomputable def F122 : FT122 := p122 F41
theorem env122 (R : Type) : EnvOK Tryz.prog (e122 F41 R) := ⟨tabOK, eqOK, callOf_ok (allE_cons ok41 allE_nil), noIns, inlOK_nil⟩
theorem ok122 : (en122 F122).OK Tryz.prog :=
  ent_ok (Ef := fun R => e122 F41 R) (fun R => env122 R) mixed Tryz.func122 (body := codeOf Tryz.f122) (by kernel_rfl) (by kernel_rfl) (np := 0) (nt := 19) (fun _ => rfl) (fun _ => rfl) (by kernel_rfl) (res := res122) (by kernel_rfl) (fun _ => rfl) (fun _ => Nat.le_of_ble_eq_true rfl) (by
    intro R
    rw [show loopsOf (codeOf Tryz.f122) = [] from by kernel_rfl]
    exact allM_nil) (fun R x k => q122 F41 F122 R x k)
abbrev FT85 : Type 1 := (R : Type) → Tq7 → Int → Int → (Int → Int → Option R) → Option R
def en85 (F : FT85) : Ent := ⟨85, [(false, Kq7), (false, (.int .i64)), (false, (.int .u64))], [(false, (.int .i64)), (false, (.int .i64))], fun R x k => F R x.1 x.2.1 x.2.2.1 (fun y1 y2 => k (y1, y2, ()) ())⟩
def res85 : List (ResultVar × TypeId × Bool) := [(.tmp 6, 3, false), (.tmp 7, 32, false)]
noncomputable def e85 (F122 : FT122) (R : Type) : Env R := ⟨TT, EQT, 0, 32, ownOf [], callOf [en122 F122] R, loopOf [] R, [], inlOf []⟩
def p85 (F122 : FT122) : FT85 := fun R a0 a1 a2 k =>
F122 R a0 a1 fun y1 =>
let v2 : Bool := (y1 != (0 : Int));
(match v2 with
| true => k (0 : Int) y1
| false => let v3 : Bool := (decide (a2 ≥ a0.1));
(match v3 with
| true => k (0 : Int) (3 : Int)
| false => (match (bnd a1 (List.length a0.2.1 : Int)) with
| true => let v4 : Tq1 := (List.getD a0.2.1 (Int.toNat a1) ((0 : Int), (0 : Int), ()));
let v5 : Bool := (decide (a2 ≥ v4.1));
(match v5 with
| true => k v4.2.1 (0 : Int)
| false => k a1 (0 : Int))
| false => none)))
theorem q85 (F122 : FT122) (F : FT85) (R : Type) (x : AT (en85 F).ins) (k : RT (en85 F).outs → PT (en85 F).ins → Option R) :
  xfun (e85 F122 R) (codeOf Tryz.f85) res85 (avs (en85 F).ins x) (finK (en85 F).outs (en85 F).ins k) = p85 F122 R x.1 x.2.1 x.2.2.1 (fun y1 y2 => k (y1, y2, ()) ()) := by kernel_rfl
noncomputable def F85 : FT85 := p85 F122
theorem env85 (R : Type) : EnvOK Tryz.prog (e85 F122 R) := ⟨tabOK, eqOK, callOf_ok (allE_cons ok122 allE_nil), noIns, inlOK_nil⟩
theorem ok85 : (en85 F85).OK Tryz.prog :=
  ent_ok (Ef := fun R => e85 F122 R) (fun R => env85 R) mixed Tryz.func85 (body := codeOf Tryz.f85) (by kernel_rfl) (by kernel_rfl) (np := 0) (nt := 32) (fun _ => rfl) (fun _ => rfl) (by kernel_rfl) (res := res85) (by kernel_rfl) (fun _ => rfl) (fun _ => Nat.le_of_ble_eq_true rfl) (by
    intro R
    rw [show loopsOf (codeOf Tryz.f85) = [] from by kernel_rfl]
    exact allM_nil) (fun R x k => q85 F122 F85 R x k)
abbrev FT44 : Type 1 := (R : Type) → Tq7 → Int → (Int → Int → Option R) → Option R
def en44 (F : FT44) : Ent := ⟨44, [(false, Kq7), (false, (.int .u64))], [(false, (.int .i64)), (false, (.int .i64))], fun R x k => F R x.1 x.2.1 (fun y1 y2 => k (y1, y2, ()) ())⟩
def res44 : List (ResultVar × TypeId × Bool) := [(.tmp 4, 3, false), (.tmp 5, 32, false)]
noncomputable def e44 (F41 : FT41) (F43 : FT43) (F85 : FT85) (R : Type) : Env R := ⟨TT, EQT, 0, 28, ownOf [], callOf [en41 F41, en43 F43, en85 F85] R, loopOf [] R, [], inlOf []⟩
def p44 (F41 : FT41) (F43 : FT43) (F85 : FT85) : FT44 := fun R a0 a1 k =>
F41 R a0 fun y1 =>
(match (!y1) with
| true => k (0 : Int) (1 : Int)
| false => F43 R a0 fun y2 =>
let v3 : Bool := (decide (a1 ≥ y2));
(match v3 with
| true => k (0 : Int) (3 : Int)
| false => (match (!(a0.1 == 0)) with
| true => let v4 : Int := (IntKind.u64.wrap (Int.tdiv a1 a0.1));
let v5 : Int := (IntKind.i64.wrap v4);
(match (!(a0.1 == 0)) with
| true => let v6 : Int := (Int.tmod a1 a0.1);
F85 R a0 v5 v6 fun y7 y8 =>
k y7 y8
| false => none)
| false => none)))
theorem q44 (F41 : FT41) (F43 : FT43) (F85 : FT85) (F : FT44) (R : Type) (x : AT (en44 F).ins) (k : RT (en44 F).outs → PT (en44 F).ins → Option R) :
  xfun (e44 F41 F43 F85 R) (codeOf Tryz.f44) res44 (avs (en44 F).ins x) (finK (en44 F).outs (en44 F).ins k) = p44 F41 F43 F85 R x.1 x.2.1 (fun y1 y2 => k (y1, y2, ()) ()) := by kernel_rfl
noncomputable def F44 : FT44 := p44 F41 F43 F85
theorem env44 (R : Type) : EnvOK Tryz.prog (e44 F41 F43 F85 R) := ⟨tabOK, eqOK, callOf_ok (allE_cons ok41 (allE_cons ok43 (allE_cons ok85 allE_nil))), noIns, inlOK_nil⟩
theorem ok44 : (en44 F44).OK Tryz.prog :=
  ent_ok (Ef := fun R => e44 F41 F43 F85 R) (fun R => env44 R) mixed Tryz.func44 (body := codeOf Tryz.f44) (by kernel_rfl) (by kernel_rfl) (np := 0) (nt := 28) (fun _ => rfl) (fun _ => rfl) (by kernel_rfl) (res := res44) (by kernel_rfl) (fun _ => rfl) (fun _ => Nat.le_of_ble_eq_true rfl) (by
    intro R
    rw [show loopsOf (codeOf Tryz.f44) = [] from by kernel_rfl]
    exact allM_nil) (fun R x k => q44 F41 F43 F85 F44 R x k)
abbrev FT12 : Type 1 := (R : Type) → Tq7 → Tq6 → Int → (Int → Tq6 → Int → Option R) → Option R
def en12 (F : FT12) : Ent := ⟨12, [(false, Kq7), (false, Kq6), (false, (.int .i64))], [(false, (.int .i64)), (false, Kq6), (false, (.int .i64))], fun R x k => F R x.1 x.2.1 x.2.2.1 (fun y1 y2 y3 => k (y1, y2, y3, ()) ())⟩
def res12 : List (ResultVar × TypeId × Bool) := [(.tmp 6, 3, false), (.cell 7 30, 30, false), (.tmp 8, 32, false)]
noncomputable def e12 (F41 : FT41) (F42 : FT42) (F43 : FT43) (F44 : FT44) (R : Type) : Env R := ⟨TT, EQT, 0, 39, ownOf [], callOf [en41 F41, en42 F42, en43 F43, en44 F44] R, loopOf [] R, [], inlOf []⟩
def p12 (F41 : FT41) (F42 : FT42) (F43 : FT43) (F44 : FT44) : FT12 := fun R a0 a1 a2 k =>
F41 R a0 fun y1 =>
(match (!y1) with
| true => k (0 : Int) a1 (1 : Int)
| false => F43 R a0 fun y2 =>
F42 R a1 y2 a2 fun y3 y4 y5 =>
let v6 : Bool := (y5 != (0 : Int));
(match v6 with
| true => k (0 : Int) y4 y5
| false => F44 R a0 y3 fun y7 y8 =>
k y7 y4 y8))
theorem q12 (F41 : FT41) (F42 : FT42) (F43 : FT43) (F44 : FT44) (F : FT12) (R : Type) (x : AT (en12 F).ins) (k : RT (en12 F).outs → PT (en12 F).ins → Option R) :
  xfun (e12 F41 F42 F43 F44 R) (codeOf Tryz.f12) res12 (avs (en12 F).ins x) (finK (en12 F).outs (en12 F).ins k) = p12 F41 F42 F43 F44 R x.1 x.2.1 x.2.2.1 (fun y1 y2 y3 => k (y1, y2, y3, ()) ()) := by kernel_rfl
noncomputable def F12 : FT12 := p12 F41 F42 F43 F44
theorem env12 (R : Type) : EnvOK Tryz.prog (e12 F41 F42 F43 F44 R) := ⟨tabOK, eqOK, callOf_ok (allE_cons ok41 (allE_cons ok42 (allE_cons ok43 (allE_cons ok44 allE_nil)))), noIns, inlOK_nil⟩
theorem ok12 : (en12 F12).OK Tryz.prog :=
  ent_ok (Ef := fun R => e12 F41 F42 F43 F44 R) (fun R => env12 R) mixed Tryz.func12 (body := codeOf Tryz.f12) (by kernel_rfl) (by kernel_rfl) (np := 0) (nt := 39) (fun _ => rfl) (fun _ => rfl) (by kernel_rfl) (res := res12) (by kernel_rfl) (fun _ => rfl) (fun _ => Nat.le_of_ble_eq_true rfl) (by
    intro R
    rw [show loopsOf (codeOf Tryz.f12) = [] from by kernel_rfl]
    exact allM_nil) (fun R x k => q12 F41 F42 F43 F44 F12 R x k)
abbrev FT129 : Type 1 := (R : Type) → Int → Int → Int → (Int → Int → Option R) → Option R
def en129 (F : FT129) : Ent := ⟨129, [(false, (.int .u64)), (false, (.int .u64)), (false, (.int .u64))], [(false, (.int .u64)), (false, (.int .u64))], fun R x k => F R x.1 x.2.1 x.2.2.1 (fun y1 y2 => k (y1, y2, ()) ())⟩
def F129 : FT129 := fun R a0 a1 a2 k => match decide (0 ≤ a0 ∧ 0 ≤ a1 ∧ 0 ≤ a2 ∧ a2 ≤ 1) with | true => k ((a0 + a1 + a2) % 18446744073709551616) ((a0 + a1 + a2) / 18446744073709551616) | false => none
theorem ok129 : (en129 F129).OK Tryz.prog := add64_ok Tryz.func129 (by kernel_rfl) (by kernel_rfl) (by kernel_rfl) (by kernel_rfl)
abbrev FT99 : Type 1 := (R : Type) → Int → Int → (Int → Bool → Option R) → Option R
def en99 (F : FT99) : Ent := ⟨99, [(false, (.int .u64)), (false, (.int .u64))], [(false, (.int .u64)), (false, .bool)], fun R x k => F R x.1 x.2.1 (fun y1 y2 => k (y1, y2, ()) ())⟩
def res99 : List (ResultVar × TypeId × Bool) := [(.tmp 4, 22, false), (.tmp 5, 4, false)]
noncomputable def e99 (F117 : FT117) (F129 : FT129) (R : Type) : Env R := ⟨TT, EQT, 0, 14, ownOf [], callOf [en117 F117, en129 F129] R, loopOf [] R, [], inlOf []⟩
def p99 (F117 : FT117) (F129 : FT129) : FT99 := fun R a0 a1 k =>
F129 R a0 a1 (0 : Int) fun y1 y2 =>
F117 R y1 y2 fun y3 y4 =>
k y3 y4
theorem q99 (F117 : FT117) (F129 : FT129) (F : FT99) (R : Type) (x : AT (en99 F).ins) (k : RT (en99 F).outs → PT (en99 F).ins → Option R) :
  xfun (e99 F117 F129 R) (codeOf Tryz.f99) res99 (avs (en99 F).ins x) (finK (en99 F).outs (en99 F).ins k) = p99 F117 F129 R x.1 x.2.1 (fun y1 y2 => k (y1, y2, ()) ()) := by kernel_rfl
noncomputable def F99 : FT99 := p99 F117 F129
theorem env99 (R : Type) : EnvOK Tryz.prog (e99 F117 F129 R) := ⟨tabOK, eqOK, callOf_ok (allE_cons ok117 (allE_cons ok129 allE_nil)), noIns, inlOK_nil⟩
theorem ok99 : (en99 F99).OK Tryz.prog :=
  ent_ok (Ef := fun R => e99 F117 F129 R) (fun R => env99 R) mixed Tryz.func99 (body := codeOf Tryz.f99) (by kernel_rfl) (by kernel_rfl) (np := 0) (nt := 14) (fun _ => rfl) (fun _ => rfl) (by kernel_rfl) (res := res99) (by kernel_rfl) (fun _ => rfl) (fun _ => Nat.le_of_ble_eq_true rfl) (by
    intro R
    rw [show loopsOf (codeOf Tryz.f99) = [] from by kernel_rfl]
    exact allM_nil) (fun R x k => q99 F117 F129 F99 R x k)
abbrev FT91 : Type 1 := (R : Type) → (List Int) → (Int → Bool → Option R) → Option R
def en91 (F : FT91) : Ent := ⟨91, [(false, (.sl (.int .u64)))], [(false, (.int .u64)), (false, .bool)], fun R x k => F R x.1 (fun y1 y2 => k (y1, y2, ()) ())⟩
def res91 : List (ResultVar × TypeId × Bool) := [(.tmp 2, 22, false), (.tmp 3, 4, false)]
abbrev LT91_2 : Type 1 := (R : Type) → Int → (List Int) → Int → Int → (Int → Bool → Option R) → (Int → Option R) → Option R
def le91_2 (L : LT91_2) : LEnt := ⟨2, [.val 2 (.int .u64), .val 6 (.sl (.int .u64)), .val 7 (.int .i64), .val 8 (.int .i64)], 0, [(.ret, [.val 2 (.int .u64), .val 3 .bool]), (.exit 0, [.val 2 (.int .u64)])], fun R x ke => L R x.1 x.2.1 x.2.2.1 x.2.2.2.1 (fun y1 y2 => ke.1 (y1, y2, ())) (fun y1 => ke.2.1 (y1, ()))⟩
noncomputable def e91 (F99 : FT99) (L2 : LT91_2) (R : Type) : Env R := ⟨TT, EQT, 0, 22, ownOf [], callOf [en99 F99] R, loopOf [le91_2 L2] R, [], inlOf []⟩
def p91_2 (F99 : FT99) : (R : Type) → Int → (List Int) → Int → Int → (Int → (List Int) → Int → Int → Option R) → (Int → Bool → Option R) → (Int → Option R) → Option R := fun R x1 x2 x3 x4 kc k0 k1 =>
let v5 : Bool := (decide (x4 < x3));
(match v5 with
| true => (match (bnd x4 (List.length x2 : Int)) with
| true => let v6 : Int := (List.getD x2 (Int.toNat x4) (0 : Int));
F99 R x1 v6 fun y7 y8 =>
(match (!y8) with
| true => k0 (0 : Int) false
| false => let v9 : Int := (IntKind.i64.wrap (x4 + (1 : Int)));
kc y7 x2 x3 v9)
| false => none)
| false => k1 x1)
theorem q91_2 (F99 : FT99) (L2 : LT91_2) (R : Type) (x : HT (le91_2 L2).H) (kc : HT (le91_2 L2).H → Option R) (ke : KT R (le91_2 L2).exs) :
  exec (e91 F99 L2 R) (lcode 2 (codeOf Tryz.f91)) (stOf (le91_2 L2).H x 0) (roundK (le91_2 L2).H (le91_2 L2).exs kc ke) =
    p91_2 F99 R x.1 x.2.1 x.2.2.1 x.2.2.2.1 (fun x1 x2 x3 x4 => kc (x1, x2, x3, x4, ())) (fun y1 y2 => ke.1 (y1, y2, ())) (fun y1 => ke.2.1 (y1, ())) := by kernel_rfl
noncomputable def G91_2 : Nat → LT91_2
  | 0 => fun _ _ _ _ _ _ _ => none
  | n + 1 => fun R x1 x2 x3 x4 k0 k1 => p91_2 F99 R x1 x2 x3 x4 (fun x1 x2 x3 x4 => G91_2 n R x1 x2 x3 x4 k0 k1) k0 k1
def p91 (L2 : LT91_2) : FT91 := fun R a0 k =>
let v1 : Int := (List.length a0 : Int);
L2 R (0 : Int) a0 v1 (0 : Int) (fun x2 x3 =>
k x2 x3) (fun x4 =>
k x4 true)
theorem q91 (F99 : FT99) (L2 : LT91_2) (F : FT91) (R : Type) (x : AT (en91 F).ins) (k : RT (en91 F).outs → PT (en91 F).ins → Option R) :
  xfun (e91 F99 L2 R) (codeOf Tryz.f91) res91 (avs (en91 F).ins x) (finK (en91 F).outs (en91 F).ins k) = p91 L2 R x.1 (fun y1 y2 => k (y1, y2, ()) ()) := by kernel_rfl
noncomputable def F91 : FT91 := p91 (G91_2 FUEL)
theorem env91 (R : Type) : EnvOK Tryz.prog (e91 F99 (G91_2 FUEL) R) := ⟨tabOK, eqOK, callOf_ok (allE_cons ok99 allE_nil), noIns, inlOK_nil⟩
noncomputable def T91_2 : (R : Type) → HT (le91_2 (G91_2 FUEL)).H → (HT (le91_2 (G91_2 FUEL)).H → Option R) → KT R (le91_2 (G91_2 FUEL)).exs → Option R := fun R x kc ke => p91_2 F99 R x.1 x.2.1 x.2.2.1 x.2.2.2.1 (fun x1 x2 x3 x4 => kc (x1, x2, x3, x4, ())) (fun y1 y2 => ke.1 (y1, y2, ())) (fun y1 => ke.2.1 (y1, ()))
theorem it91_2 : ∀ (n : Nat) (R : Type) (x : HT (le91_2 (G91_2 FUEL)).H) (ke : KT R (le91_2 (G91_2 FUEL)).exs), iter T91_2 n R x ke = G91_2 n R x.1 x.2.1 x.2.2.1 x.2.2.2.1 (fun y1 y2 => ke.1 (y1, y2, ())) (fun y1 => ke.2.1 (y1, ())) := by
  intro n
  induction n with
  | zero => intro R x ke; rfl
  | succ n ih =>
    intro R x ke
    show T91_2 R x (fun x' => iter T91_2 n R x' ke) ke = _
    rw [show (fun x' => iter T91_2 n R x' ke) = fun x => G91_2 n R x.1 x.2.1 x.2.2.1 x.2.2.2.1 (fun y1 y2 => ke.1 (y1, y2, ())) (fun y1 => ke.2.1 (y1, ())) from funext fun x' => ih R x' ke]
    rfl
theorem lok91_2 : (le91_2 (G91_2 FUEL)).OK Tryz.prog 0 22 (lcode 2 (codeOf Tryz.f91)) := fun R x ke r h =>
  iter_sound (fun R => e91 F99 (G91_2 FUEL) R) 0 22 (fun _ => rfl) (fun _ => rfl) (fun R => env91 R) mixed (by
    intro R
    rw [show loopsOf (lcode 2 (codeOf Tryz.f91)) = [] from by kernel_rfl]
    exact allM_nil) (T := T91_2) (fun R x kc ke => q91_2 F99 (G91_2 FUEL) R x kc ke) FUEL R x ke r ((it91_2 FUEL R x ke).trans h)
theorem ok91 : (en91 F91).OK Tryz.prog :=
  ent_ok (Ef := fun R => e91 F99 (G91_2 FUEL) R) (fun R => env91 R) mixed Tryz.func91 (body := codeOf Tryz.f91) (by kernel_rfl) (by kernel_rfl) (np := 0) (nt := 22) (fun _ => rfl) (fun _ => rfl) (by kernel_rfl) (res := res91) (by kernel_rfl) (fun _ => rfl) (fun _ => Nat.le_of_ble_eq_true rfl) (by
    intro R
    rw [show loopsOf (codeOf Tryz.f91) = [lcode 2 (codeOf Tryz.f91)] from by kernel_rfl]
    exact (allM_cons (loop_ok2 (e := le91_2 (G91_2 FUEL)) rfl rfl lok91_2) allM_nil)) (fun R x k => q91 F99 (G91_2 FUEL) F91 R x k)
abbrev FT88 : Type 1 := (R : Type) → (List Int) → (Int → Int → Option R) → Option R
def en88 (F : FT88) : Ent := ⟨88, [(false, (.sl (.int .u64)))], [(false, (.int .u64)), (false, (.int .i64))], fun R x k => F R x.1 (fun y1 y2 => k (y1, y2, ()) ())⟩
def res88 : List (ResultVar × TypeId × Bool) := [(.tmp 2, 22, false), (.tmp 3, 32, false)]
noncomputable def e88 (F79 : FT79) (F91 : FT91) (R : Type) : Env R := ⟨TT, EQT, 0, 32, ownOf [], callOf [en79 F79, en91 F91] R, loopOf [] R, [], inlOf []⟩
def p88 (F79 : FT79) (F91 : FT91) : FT88 := fun R a0 k =>
let v1 : Int := (List.length a0 : Int);
let v2 : Int := (IntKind.u64.wrap v1);
let v3 : Bool := (v2 == (0 : Int));
(match v3 with
| true => k (0 : Int) (10 : Int)
| false => F91 R a0 fun y4 y5 =>
(match (!y5) with
| true => k (0 : Int) (11 : Int)
| false => let v6 : Bool := (y4 == (0 : Int));
(match v6 with
| true => k (0 : Int) (10 : Int)
| false => F79 R v2 y4 fun y7 y8 =>
(match (!y8) with
| true => k (0 : Int) (11 : Int)
| false => k y4 (0 : Int)))))
theorem q88 (F79 : FT79) (F91 : FT91) (F : FT88) (R : Type) (x : AT (en88 F).ins) (k : RT (en88 F).outs → PT (en88 F).ins → Option R) :
  xfun (e88 F79 F91 R) (codeOf Tryz.f88) res88 (avs (en88 F).ins x) (finK (en88 F).outs (en88 F).ins k) = p88 F79 F91 R x.1 (fun y1 y2 => k (y1, y2, ()) ()) := by kernel_rfl
noncomputable def F88 : FT88 := p88 F79 F91
theorem env88 (R : Type) : EnvOK Tryz.prog (e88 F79 F91 R) := ⟨tabOK, eqOK, callOf_ok (allE_cons ok79 (allE_cons ok91 allE_nil)), noIns, inlOK_nil⟩
theorem ok88 : (en88 F88).OK Tryz.prog :=
  ent_ok (Ef := fun R => e88 F79 F91 R) (fun R => env88 R) mixed Tryz.func88 (body := codeOf Tryz.f88) (by kernel_rfl) (by kernel_rfl) (np := 0) (nt := 32) (fun _ => rfl) (fun _ => rfl) (by kernel_rfl) (res := res88) (by kernel_rfl) (fun _ => rfl) (fun _ => Nat.le_of_ble_eq_true rfl) (by
    intro R
    rw [show loopsOf (codeOf Tryz.f88) = [] from by kernel_rfl]
    exact allM_nil) (fun R x k => q88 F79 F91 F88 R x k)
abbrev FT49 : Type 1 := (R : Type) → (List Int) → (Tq7 → Int → Option R) → Option R
def en49 (F : FT49) : Ent := ⟨49, [(false, (.sl (.int .u64)))], [(false, Kq7), (false, (.int .i64))], fun R x k => F R x.1 (fun y1 y2 => k (y1, y2, ()) ())⟩
def res49 : List (ResultVar × TypeId × Bool) := [(.cell 2 25, 25, false), (.tmp 3, 32, false)]
abbrev LT49_7 : Type 1 := (R : Type) → (List Int) → Int → (List Int) → Int → Int → Tq7 → (List Int) → (List Tq1) → (List Int) → (List Int) → (Int × Unit) → (Tq7 → (List Int) → (List Tq1) → (List Int) → (List Int) → (Int × Unit) → Option R) → Option R
def le49_7 (L : LT49_7) : LEnt := ⟨7, [.val 0 (.sl (.int .u64)), .fix 2 (.ptr 0 [] Kq7), .val 4 (.int .u64), .fix 6 (.mptr 6 0 Kq16), .val 28 (.sl (.int .u64)), .val 29 (.int .i64), .val 30 (.int .i64), .var 0 Kq7 false, .row 1 (.int .u64) false, .row 2 Kq1 false, .row 4 (.int .i64) false, .row 5 (.int .i64) false, .mix 6 [((.int .u64), none), ((.sl Kq1), some 2), ((.sl (.int .u64)), some 1), ((.sl (.int .i64)), some 4), ((.sl (.int .i64)), some 5)]], 7, [(.exit 0, [.fix 2 (.ptr 0 [] Kq7), .fix 6 (.mptr 6 0 Kq16), .var 0 Kq7 false, .row 1 (.int .u64) false, .row 2 Kq1 false, .row 4 (.int .i64) false, .row 5 (.int .i64) false, .mix 6 [((.int .u64), none), ((.sl Kq1), some 2), ((.sl (.int .u64)), some 1), ((.sl (.int .i64)), some 4), ((.sl (.int .i64)), some 5)]])], fun R x ke => L R x.1 x.2.1 x.2.2.1 x.2.2.2.1 x.2.2.2.2.1 x.2.2.2.2.2.1 x.2.2.2.2.2.2.1 x.2.2.2.2.2.2.2.1 x.2.2.2.2.2.2.2.2.1 x.2.2.2.2.2.2.2.2.2.1 x.2.2.2.2.2.2.2.2.2.2.1 (fun y1 y2 y3 y4 y5 y6 => ke.1 (y1, y2, y3, y4, y5, y6, ()))⟩
abbrev LT49_13 : Type 1 := (R : Type) → Tq7 → (List Int) → (List Tq1) → (List Int) → (List Int) → (Int × Unit) → (Tq7 → (List Int) → (List Tq1) → (List Int) → (List Int) → (Int × Unit) → Option R) → Option R
def le49_13 (L : LT49_13) : LEnt := ⟨13, [.fix 2 (.ptr 0 [] Kq7), .fix 6 (.mptr 6 0 Kq16), .var 0 Kq7 false, .row 1 (.int .u64) false, .row 2 Kq1 false, .row 4 (.int .i64) false, .row 5 (.int .i64) false, .mix 6 [((.int .u64), none), ((.sl Kq1), some 2), ((.sl (.int .u64)), some 1), ((.sl (.int .i64)), some 4), ((.sl (.int .i64)), some 5)]], 7, [(.exit 2, [.fix 2 (.ptr 0 [] Kq7), .fix 6 (.mptr 6 0 Kq16), .var 0 Kq7 false, .row 1 (.int .u64) false, .row 2 Kq1 false, .row 4 (.int .i64) false, .row 5 (.int .i64) false, .mix 6 [((.int .u64), none), ((.sl Kq1), some 2), ((.sl (.int .u64)), some 1), ((.sl (.int .i64)), some 4), ((.sl (.int .i64)), some 5)]])], fun R x ke => L R x.1 x.2.1 x.2.2.1 x.2.2.2.1 x.2.2.2.2.1 x.2.2.2.2.2.1 (fun y1 y2 y3 y4 y5 y6 => ke.1 (y1, y2, y3, y4, y5, y6, ()))⟩
noncomputable def e89i0 (R : Type) : Env R := ⟨TT, EQT, 0, 37, ownOf [], callOf [] R, fun _ _ _ => none, [], inlOf []⟩
theorem env89i0 (R : Type) : EnvOK Tryz.prog (e89i0 R) := ⟨tabOK, eqOK, callOf_ok allE_nil, noIns, inlOK_nil⟩
noncomputable def e125i0 (R : Type) : Env R := ⟨TT, EQT, 0, 26, ownOf [(2, 9)], callOf [] R, fun _ _ _ => none, [], inlOf []⟩
theorem env125i0 (R : Type) : EnvOK Tryz.prog (e125i0 R) := ⟨tabOK, eqOK, callOf_ok allE_nil, noIns, inlOK_nil⟩
noncomputable def e90i0 (R : Type) : Env R := ⟨TT, EQT, 0, 53, ownOf [(0, 3), (0, 7), (3, 2)], callOf [] R, fun _ _ _ => none, [], inlOf [(89, xinl (e89i0 R) (codeOf Tryz.f89) [] 2), (125, xinl (e125i0 R) (codeOf Tryz.f125) [.tmp 2] 1)]⟩
theorem env90i0 (R : Type) : EnvOK Tryz.prog (e90i0 R) := ⟨tabOK, eqOK, callOf_ok allE_nil, noIns, (inlOK_cons (xinl_sound (env89i0 R) mixed Tryz.func89 (body := codeOf Tryz.f89) (by kernel_rfl) (by kernel_rfl) (by kernel_rfl) (res := []) (by kernel_rfl) (n := 2) (Nat.le_of_ble_eq_true rfl) (by kernel_rfl)) (inlOK_cons (xinl_sound (env125i0 R) mixed Tryz.func125 (body := codeOf Tryz.f125) (by kernel_rfl) (by kernel_rfl) (by kernel_rfl) (res := [.tmp 2]) (by kernel_rfl) (n := 1) (Nat.le_of_ble_eq_true rfl) (by kernel_rfl)) inlOK_nil))⟩
noncomputable def e49 (F88 : FT88) (L7 : LT49_7) (L13 : LT49_13) (R : Type) : Env R := ⟨TT, EQT, 0, 84, ownOf [(4, 3), (4, 4), (11, 2), (14, 1)], callOf [en88 F88] R, loopOf [le49_7 L7, le49_13 L13] R, [], inlOf [(89, xinl (e89i0 R) (codeOf Tryz.f89) [] 2), (90, xinl (e90i0 R) (codeOf Tryz.f90) [] 1)]⟩
def p49_7 : (R : Type) → (List Int) → Int → (List Int) → Int → Int → Tq7 → (List Int) → (List Tq1) → (List Int) → (List Int) → (Int × Unit) → ((List Int) → Int → (List Int) → Int → Int → Tq7 → (List Int) → (List Tq1) → (List Int) → (List Int) → (Int × Unit) → Option R) → (Tq7 → (List Int) → (List Tq1) → (List Int) → (List Int) → (Int × Unit) → Option R) → Option R := fun R x1 x2 x3 x4 x5 x6 x7 x8 x9 x10 x11 kc k0 =>
let v12 : Bool := (decide (x5 < x4));
(match v12 with
| true => (match (bnd x5 (List.length x3 : Int)) with
| true => let v13 : Int := (List.getD x3 (Int.toNat x5) (0 : Int));
let v14 : Int := (List.length x1 : Int);
let v15 : Int := (IntKind.u64.wrap v14);
let v16 : Int := (IntKind.u64.wrap (v13 * v15));
(match (bnd x5 (List.length x7 : Int)) with
| true => let v17 : (List Int) := (List.set x7 (Int.toNat x5) v16);
let v18 : (List Tq1) := ([(x2, x5, ())] : (List Tq1));
(match (decide (List.length x8 + List.length v18 ≤ 8796093022208)) with
| true => let v19 : (List Tq1) := (x8 ++ v18);
(match (bnd x5 (List.length v17 : Int)) with
| true => let v20 : Int := (List.getD v17 (Int.toNat x5) (0 : Int));
let v21 : Bool := (decide (v20 < x11.1));
(match v21 with
| true => let v22 : (List Int) := ([x5] : (List Int));
(match (decide (List.length x9 + List.length v22 ≤ 17592186044416)) with
| true => let v23 : (List Int) := (x9 ++ v22);
let v24 : Int := (IntKind.i64.wrap (x5 + (1 : Int)));
kc x1 x2 x3 x4 v24 x6 v17 v19 v23 x10 (x11.1, ())
| false => none)
| false => let v25 : (List Int) := ([x5] : (List Int));
(match (decide (List.length x10 + List.length v25 ≤ 17592186044416)) with
| true => let v26 : (List Int) := (x10 ++ v25);
let v27 : Int := (IntKind.i64.wrap (x5 + (1 : Int)));
kc x1 x2 x3 x4 v27 x6 v17 v19 x9 v26 (x11.1, ())
| false => none))
| false => none)
| false => none)
| false => none)
| false => none)
| false => k0 x6 x7 x8 x9 x10 (x11.1, ()))
theorem q49_7 (F88 : FT88) (L7 : LT49_7) (L13 : LT49_13) (R : Type) (x : HT (le49_7 L7).H) (kc : HT (le49_7 L7).H → Option R) (ke : KT R (le49_7 L7).exs) :
  exec (e49 F88 L7 L13 R) (lcode 7 (codeOf Tryz.f49)) (stOf (le49_7 L7).H x 7) (roundK (le49_7 L7).H (le49_7 L7).exs kc ke) =
    p49_7 R x.1 x.2.1 x.2.2.1 x.2.2.2.1 x.2.2.2.2.1 x.2.2.2.2.2.1 x.2.2.2.2.2.2.1 x.2.2.2.2.2.2.2.1 x.2.2.2.2.2.2.2.2.1 x.2.2.2.2.2.2.2.2.2.1 x.2.2.2.2.2.2.2.2.2.2.1 (fun x1 x2 x3 x4 x5 x6 x7 x8 x9 x10 x11 => kc (x1, x2, x3, x4, x5, x6, x7, x8, x9, x10, x11, ())) (fun y1 y2 y3 y4 y5 y6 => ke.1 (y1, y2, y3, y4, y5, y6, ())) := by kernel_rfl
noncomputable def G49_7 : Nat → LT49_7
  | 0 => fun _ _ _ _ _ _ _ _ _ _ _ _ _ => none
  | n + 1 => fun R x1 x2 x3 x4 x5 x6 x7 x8 x9 x10 x11 k0 => p49_7 R x1 x2 x3 x4 x5 x6 x7 x8 x9 x10 x11 (fun x1 x2 x3 x4 x5 x6 x7 x8 x9 x10 x11 => G49_7 n R x1 x2 x3 x4 x5 x6 x7 x8 x9 x10 x11 k0) k0
def p49_13 : (R : Type) → Tq7 → (List Int) → (List Tq1) → (List Int) → (List Int) → (Int × Unit) → (Tq7 → (List Int) → (List Tq1) → (List Int) → (List Int) → (Int × Unit) → Option R) → (Tq7 → (List Int) → (List Tq1) → (List Int) → (List Int) → (Int × Unit) → Option R) → Option R := fun R x1 x2 x3 x4 x5 x6 kc k0 =>
let v7 : Int := (List.length x4 : Int);
let v8 : Bool := (decide (v7 > (0 : Int)));
(match v8 with
| true => let v9 : Int := (List.length x5 : Int);
let v10 : Bool := (decide (v9 > (0 : Int)));
(match v10 with
| true => let v11 : Int := (List.length x4 : Int);
let v12 : Int := (IntKind.i64.wrap (v11 - (1 : Int)));
(match (bnd v12 (List.length x4 : Int)) with
| true => let v13 : Int := (List.getD x4 (Int.toNat v12) (0 : Int));
let v14 : Int := (List.length x4 : Int);
let v15 : Int := (IntKind.i64.wrap (v14 - (1 : Int)));
(match (decide (0 ≤ v15 ∧ v15 ≤ (List.length x4 : Int))) with
| true => let v16 : (List Int) := (List.take (Int.toNat v15) x4);
let v17 : Int := (List.length x5 : Int);
let v18 : Int := (IntKind.i64.wrap (v17 - (1 : Int)));
(match (bnd v18 (List.length x5 : Int)) with
| true => let v19 : Int := (List.getD x5 (Int.toNat v18) (0 : Int));
let v20 : Int := (List.length x5 : Int);
let v21 : Int := (IntKind.i64.wrap (v20 - (1 : Int)));
(match (decide (0 ≤ v21 ∧ v21 ≤ (List.length x5 : Int))) with
| true => let v22 : (List Int) := (List.take (Int.toNat v21) x5);
(match (bnd v13 (List.length x2 : Int)) with
| true => let v23 : Int := (List.getD x2 (Int.toNat v13) (0 : Int));
(match (bnd v13 (List.length x3 : Int)) with
| true => let v24 : (List Tq1) := (List.set x3 (Int.toNat v13) (v23, v19, ()));
(match (bnd v19 (List.length x2 : Int)) with
| true => let v25 : Int := (List.getD x2 (Int.toNat v19) (0 : Int));
(match (bnd v13 (List.length x2 : Int)) with
| true => let v26 : Int := (List.getD x2 (Int.toNat v13) (0 : Int));
let v27 : Int := (IntKind.u64.wrap (x6.1 - v26));
let v28 : Int := (IntKind.u64.wrap (v25 - v27));
(match (bnd v19 (List.length x2 : Int)) with
| true => let v29 : (List Int) := (List.set x2 (Int.toNat v19) v28);
(match (bnd v19 (List.length v29 : Int)) with
| true => let v30 : Int := (List.getD v29 (Int.toNat v19) (0 : Int));
let v31 : Bool := (decide (v30 < x6.1));
(match v31 with
| true => let v32 : (List Int) := ([v19] : (List Int));
(match (decide (List.length v16 + List.length v32 ≤ 17592186044416)) with
| true => let v33 : (List Int) := (v16 ++ v32);
kc x1 v29 v24 v33 v22 (x6.1, ())
| false => none)
| false => let v34 : (List Int) := ([v19] : (List Int));
(match (decide (List.length v22 + List.length v34 ≤ 17592186044416)) with
| true => let v35 : (List Int) := (v22 ++ v34);
kc x1 v29 v24 v16 v35 (x6.1, ())
| false => none))
| false => none)
| false => none)
| false => none)
| false => none)
| false => none)
| false => none)
| false => none)
| false => none)
| false => none)
| false => none)
| false => k0 x1 x2 x3 x4 x5 (x6.1, ()))
| false => k0 x1 x2 x3 x4 x5 (x6.1, ()))
theorem q49_13 (F88 : FT88) (L7 : LT49_7) (L13 : LT49_13) (R : Type) (x : HT (le49_13 L13).H) (kc : HT (le49_13 L13).H → Option R) (ke : KT R (le49_13 L13).exs) :
  exec (e49 F88 L7 L13 R) (lcode 13 (codeOf Tryz.f49)) (stOf (le49_13 L13).H x 7) (roundK (le49_13 L13).H (le49_13 L13).exs kc ke) =
    p49_13 R x.1 x.2.1 x.2.2.1 x.2.2.2.1 x.2.2.2.2.1 x.2.2.2.2.2.1 (fun x1 x2 x3 x4 x5 x6 => kc (x1, x2, x3, x4, x5, x6, ())) (fun y1 y2 y3 y4 y5 y6 => ke.1 (y1, y2, y3, y4, y5, y6, ())) := by kernel_rfl
noncomputable def G49_13 : Nat → LT49_13
  | 0 => fun _ _ _ _ _ _ _ _ => none
  | n + 1 => fun R x1 x2 x3 x4 x5 x6 k0 => p49_13 R x1 x2 x3 x4 x5 x6 (fun x1 x2 x3 x4 x5 x6 => G49_13 n R x1 x2 x3 x4 x5 x6 k0) k0
def p49 (F88 : FT88) (L7 : LT49_7) (L13 : LT49_13) : FT49 := fun R a0 k =>
F88 R a0 fun y1 y2 =>
let v3 : Bool := (y2 != (0 : Int));
(match v3 with
| true => k ((0 : Int), ([] : (List Tq1)), ()) y2
| false => let v4 : Int := (List.length a0 : Int);
(match (decide (0 ≤ v4 ∧ v4 ≤ v4 ∧ v4 ≤ (17592186044416 : Int))) with
| true => let v5 : (List Int) := (List.replicate (Int.toNat v4) (0 : Int));
let v6 : Int := (List.length a0 : Int);
L7 R a0 y1 a0 v6 (0 : Int) ((0 : Int), ([] : (List Tq1)), ()) v5 ([] : (List Tq1)) ([] : (List Int)) ([] : (List Int)) (y1, ()) (fun x7 x8 x9 x10 x11 x12 =>
L13 R x7 x8 x9 x10 x11 (x12.1, ()) (fun x13 x14 x15 x16 x17 x18 =>
k (x18.1, x15, ()) (0 : Int)))
| false => none))
theorem q49 (F88 : FT88) (L7 : LT49_7) (L13 : LT49_13) (F : FT49) (R : Type) (x : AT (en49 F).ins) (k : RT (en49 F).outs → PT (en49 F).ins → Option R) :
  xfun (e49 F88 L7 L13 R) (codeOf Tryz.f49) res49 (avs (en49 F).ins x) (finK (en49 F).outs (en49 F).ins k) = p49 F88 L7 L13 R x.1 (fun y1 y2 => k (y1, y2, ()) ()) := by kernel_rfl
noncomputable def F49 : FT49 := p49 F88 (G49_7 FUEL) (G49_13 FUEL)
theorem env49 (R : Type) : EnvOK Tryz.prog (e49 F88 (G49_7 FUEL) (G49_13 FUEL) R) := ⟨tabOK, eqOK, callOf_ok (allE_cons ok88 allE_nil), noIns, (inlOK_cons (xinl_sound (env89i0 R) mixed Tryz.func89 (body := codeOf Tryz.f89) (by kernel_rfl) (by kernel_rfl) (by kernel_rfl) (res := []) (by kernel_rfl) (n := 2) (Nat.le_of_ble_eq_true rfl) (by kernel_rfl)) (inlOK_cons (xinl_sound (env90i0 R) mixed Tryz.func90 (body := codeOf Tryz.f90) (by kernel_rfl) (by kernel_rfl) (by kernel_rfl) (res := []) (by kernel_rfl) (n := 1) (Nat.le_of_ble_eq_true rfl) (by kernel_rfl)) inlOK_nil))⟩
noncomputable def T49_7 : (R : Type) → HT (le49_7 (G49_7 FUEL)).H → (HT (le49_7 (G49_7 FUEL)).H → Option R) → KT R (le49_7 (G49_7 FUEL)).exs → Option R := fun R x kc ke => p49_7 R x.1 x.2.1 x.2.2.1 x.2.2.2.1 x.2.2.2.2.1 x.2.2.2.2.2.1 x.2.2.2.2.2.2.1 x.2.2.2.2.2.2.2.1 x.2.2.2.2.2.2.2.2.1 x.2.2.2.2.2.2.2.2.2.1 x.2.2.2.2.2.2.2.2.2.2.1 (fun x1 x2 x3 x4 x5 x6 x7 x8 x9 x10 x11 => kc (x1, x2, x3, x4, x5, x6, x7, x8, x9, x10, x11, ())) (fun y1 y2 y3 y4 y5 y6 => ke.1 (y1, y2, y3, y4, y5, y6, ()))
theorem it49_7 : ∀ (n : Nat) (R : Type) (x : HT (le49_7 (G49_7 FUEL)).H) (ke : KT R (le49_7 (G49_7 FUEL)).exs), iter T49_7 n R x ke = G49_7 n R x.1 x.2.1 x.2.2.1 x.2.2.2.1 x.2.2.2.2.1 x.2.2.2.2.2.1 x.2.2.2.2.2.2.1 x.2.2.2.2.2.2.2.1 x.2.2.2.2.2.2.2.2.1 x.2.2.2.2.2.2.2.2.2.1 x.2.2.2.2.2.2.2.2.2.2.1 (fun y1 y2 y3 y4 y5 y6 => ke.1 (y1, y2, y3, y4, y5, y6, ())) := by
  intro n
  induction n with
  | zero => intro R x ke; rfl
  | succ n ih =>
    intro R x ke
    show T49_7 R x (fun x' => iter T49_7 n R x' ke) ke = _
    rw [show (fun x' => iter T49_7 n R x' ke) = fun x => G49_7 n R x.1 x.2.1 x.2.2.1 x.2.2.2.1 x.2.2.2.2.1 x.2.2.2.2.2.1 x.2.2.2.2.2.2.1 x.2.2.2.2.2.2.2.1 x.2.2.2.2.2.2.2.2.1 x.2.2.2.2.2.2.2.2.2.1 x.2.2.2.2.2.2.2.2.2.2.1 (fun y1 y2 y3 y4 y5 y6 => ke.1 (y1, y2, y3, y4, y5, y6, ())) from funext fun x' => ih R x' ke]
    rfl
theorem lok49_7 : (le49_7 (G49_7 FUEL)).OK Tryz.prog 0 84 (lcode 7 (codeOf Tryz.f49)) := fun R x ke r h =>
  iter_sound (fun R => e49 F88 (G49_7 FUEL) (G49_13 FUEL) R) 0 84 (fun _ => rfl) (fun _ => rfl) (fun R => env49 R) mixed (by
    intro R
    rw [show loopsOf (lcode 7 (codeOf Tryz.f49)) = [] from by kernel_rfl]
    exact allM_nil) (T := T49_7) (fun R x kc ke => q49_7 F88 (G49_7 FUEL) (G49_13 FUEL) R x kc ke) FUEL R x ke r ((it49_7 FUEL R x ke).trans h)
noncomputable def T49_13 : (R : Type) → HT (le49_13 (G49_13 FUEL)).H → (HT (le49_13 (G49_13 FUEL)).H → Option R) → KT R (le49_13 (G49_13 FUEL)).exs → Option R := fun R x kc ke => p49_13 R x.1 x.2.1 x.2.2.1 x.2.2.2.1 x.2.2.2.2.1 x.2.2.2.2.2.1 (fun x1 x2 x3 x4 x5 x6 => kc (x1, x2, x3, x4, x5, x6, ())) (fun y1 y2 y3 y4 y5 y6 => ke.1 (y1, y2, y3, y4, y5, y6, ()))
theorem it49_13 : ∀ (n : Nat) (R : Type) (x : HT (le49_13 (G49_13 FUEL)).H) (ke : KT R (le49_13 (G49_13 FUEL)).exs), iter T49_13 n R x ke = G49_13 n R x.1 x.2.1 x.2.2.1 x.2.2.2.1 x.2.2.2.2.1 x.2.2.2.2.2.1 (fun y1 y2 y3 y4 y5 y6 => ke.1 (y1, y2, y3, y4, y5, y6, ())) := by
  intro n
  induction n with
  | zero => intro R x ke; rfl
  | succ n ih =>
    intro R x ke
    show T49_13 R x (fun x' => iter T49_13 n R x' ke) ke = _
    rw [show (fun x' => iter T49_13 n R x' ke) = fun x => G49_13 n R x.1 x.2.1 x.2.2.1 x.2.2.2.1 x.2.2.2.2.1 x.2.2.2.2.2.1 (fun y1 y2 y3 y4 y5 y6 => ke.1 (y1, y2, y3, y4, y5, y6, ())) from funext fun x' => ih R x' ke]
    rfl
theorem lok49_13 : (le49_13 (G49_13 FUEL)).OK Tryz.prog 0 84 (lcode 13 (codeOf Tryz.f49)) := fun R x ke r h =>
  iter_sound (fun R => e49 F88 (G49_7 FUEL) (G49_13 FUEL) R) 0 84 (fun _ => rfl) (fun _ => rfl) (fun R => env49 R) mixed (by
    intro R
    rw [show loopsOf (lcode 13 (codeOf Tryz.f49)) = [] from by kernel_rfl]
    exact allM_nil) (T := T49_13) (fun R x kc ke => q49_13 F88 (G49_7 FUEL) (G49_13 FUEL) R x kc ke) FUEL R x ke r ((it49_13 FUEL R x ke).trans h)
theorem ok49 : (en49 F49).OK Tryz.prog :=
  ent_ok (Ef := fun R => e49 F88 (G49_7 FUEL) (G49_13 FUEL) R) (fun R => env49 R) mixed Tryz.func49 (body := codeOf Tryz.f49) (by kernel_rfl) (by kernel_rfl) (np := 0) (nt := 84) (fun _ => rfl) (fun _ => rfl) (by kernel_rfl) (res := res49) (by kernel_rfl) (fun _ => rfl) (fun _ => Nat.le_of_ble_eq_true rfl) (by
    intro R
    rw [show loopsOf (codeOf Tryz.f49) = [lcode 7 (codeOf Tryz.f49), lcode 13 (codeOf Tryz.f49)] from by kernel_rfl]
    exact (allM_cons (loop_ok2 (e := le49_7 (G49_7 FUEL)) rfl rfl lok49_7) (allM_cons (loop_ok2 (e := le49_13 (G49_13 FUEL)) rfl rfl lok49_13) allM_nil))) (fun R x k => q49 F88 (G49_7 FUEL) (G49_13 FUEL) F49 R x k)
abbrev FT16 : Type 1 := (R : Type) → Tq6 → Int → (List Int) → (Int → Tq6 → Int → Option R) → Option R
def en16 (F : FT16) : Ent := ⟨16, [(false, Kq6), (false, (.int .i64)), (false, (.sl (.int .u64)))], [(false, (.int .i64)), (false, Kq6), (false, (.int .i64))], fun R x k => F R x.1 x.2.1 x.2.2.1 (fun y1 y2 y3 => k (y1, y2, y3, ()) ())⟩
def res16 : List (ResultVar × TypeId × Bool) := [(.tmp 6, 3, false), (.cell 7 30, 30, false), (.tmp 8, 32, false)]
noncomputable def e16 (F12 : FT12) (F49 : FT49) (R : Type) : Env R := ⟨TT, EQT, 0, 27, ownOf [], callOf [en12 F12, en49 F49] R, loopOf [] R, [], inlOf []⟩
def p16 (F12 : FT12) (F49 : FT49) : FT16 := fun R a0 a1 a2 k =>
F49 R a2 fun y1 y2 =>
let v3 : Bool := (y2 != (0 : Int));
(match v3 with
| true => k (0 : Int) a0 y2
| false => F12 R y1 a0 a1 fun y4 y5 y6 =>
k y4 y5 y6)
theorem q16 (F12 : FT12) (F49 : FT49) (F : FT16) (R : Type) (x : AT (en16 F).ins) (k : RT (en16 F).outs → PT (en16 F).ins → Option R) :
  xfun (e16 F12 F49 R) (codeOf Tryz.f16) res16 (avs (en16 F).ins x) (finK (en16 F).outs (en16 F).ins k) = p16 F12 F49 R x.1 x.2.1 x.2.2.1 (fun y1 y2 y3 => k (y1, y2, y3, ()) ()) := by kernel_rfl
noncomputable def F16 : FT16 := p16 F12 F49
theorem env16 (R : Type) : EnvOK Tryz.prog (e16 F12 F49 R) := ⟨tabOK, eqOK, callOf_ok (allE_cons ok12 (allE_cons ok49 allE_nil)), noIns, inlOK_nil⟩
theorem ok16 : (en16 F16).OK Tryz.prog :=
  ent_ok (Ef := fun R => e16 F12 F49 R) (fun R => env16 R) mixed Tryz.func16 (body := codeOf Tryz.f16) (by kernel_rfl) (by kernel_rfl) (np := 0) (nt := 27) (fun _ => rfl) (fun _ => rfl) (by kernel_rfl) (res := res16) (by kernel_rfl) (fun _ => rfl) (fun _ => Nat.le_of_ble_eq_true rfl) (by
    intro R
    rw [show loopsOf (codeOf Tryz.f16) = [] from by kernel_rfl]
    exact allM_nil) (fun R x k => q16 F12 F49 F16 R x k)
abbrev FT11 : Type 1 := (R : Type) → (Bool → Option R) → Option R
def en11 (F : FT11) : Ent := ⟨11, [], [(false, .bool)], fun R x k => F R  (fun y1 => k (y1, ()) ())⟩
def p11 (F12 : FT12) (F16 : FT16) (F39 : FT39) (F40 : FT40) : FT11 := fun R k =>
let v1 : (List Int) := ([(160 : Int)] : (List Int));
F39 R v1 (8 : Int) fun y2 y3 =>
let v4 : (List Int) := ([(3 : Int), (1 : Int)] : (List Int));
F40 R v4 fun y5 y6 =>
F12 R y5 y2 (1 : Int) fun y7 y8 y9 =>
let v10 : (List Int) := ([(3 : Int), (1 : Int)] : (List Int));
F16 R y2 (1 : Int) v10 fun y11 y12 y13 =>
F12 R ((0 : Int), ([] : (List Tq1)), ()) y2 (1 : Int) fun y14 y15 y16 =>
F16 R y2 (1 : Int) ([] : (List Int)) fun y17 y18 y19 =>
F12 R y5 y8 (1 : Int) fun y20 y21 y22 =>
let v23 : Bool := (y9 == (0 : Int));
(match v23 with
| true => let v24 : Bool := (y13 == (0 : Int));
(match v24 with
| true => let v25 : Bool := (y16 == (1 : Int));
(match v25 with
| true => let v26 : Bool := (y19 == (10 : Int));
(match v26 with
| true => let v27 : Bool := (y22 == (0 : Int));
(match v27 with
| true => let v28 : Bool := (y7 == (1 : Int));
(match v28 with
| true => let v29 : Bool := (y11 == (1 : Int));
(match v29 with
| true => let v30 : Bool := (y20 == (0 : Int));
(match v30 with
| true => let v31 : Bool := (y8.2.2.2.2.2.1 == (3 : Int));
(match v31 with
| true => let v32 : Bool := (y15.2.2.2.2.2.1 == (0 : Int));
(match v32 with
| true => let v33 : Bool := (y21.2.2.2.2.2.1 == (6 : Int));
k v33
| false => k false)
| false => k false)
| false => k false)
| false => k false)
| false => k false)
| false => k false)
| false => k false)
| false => k false)
| false => k false)
| false => k false)
noncomputable def F11 : FT11 := p11 F12 F16 F39 F40
abbrev FT45 : Type 1 := (R : Type) → Tq7 → (Bool → Option R) → Option R
def en45 (F : FT45) : Ent := ⟨45, [(false, Kq7)], [(false, .bool)], fun R x k => F R x.1 (fun y1 => k (y1, ()) ())⟩
def res45 : List (ResultVar × TypeId × Bool) := [(.tmp 2, 4, false)]
abbrev LT45_6 : Type 1 := (R : Type) → Int → Tq7 → (Bool → Option R) → (Option R) → Option R
def le45_6 (L : LT45_6) : LEnt := ⟨6, [.fix 1 (.ptr 0 [] Kq7), .val 6 (.int .i64), .var 0 Kq7 false], 1, [(.ret, [.val 2 .bool]), (.exit 0, [])], fun R x ke => L R x.1 x.2.1 (fun y1 => ke.1 (y1, ())) (ke.2.1 ())⟩
noncomputable def e45 (F78 : FT78) (L6 : LT45_6) (R : Type) : Env R := ⟨TT, EQT, 0, 60, ownOf [], callOf [en78 F78] R, loopOf [le45_6 L6] R, [], inlOf []⟩
def p45_6 : (R : Type) → Int → Tq7 → (Int → Tq7 → Option R) → (Bool → Option R) → (Option R) → Option R := fun R x1 x2 kc k0 k1 =>
let v3 : Int := (List.length x2.2.1 : Int);
let v4 : Bool := (decide (x1 < v3));
(match v4 with
| true => (match (bnd x1 (List.length x2.2.1 : Int)) with
| true => let v5 : Tq1 := (List.getD x2.2.1 (Int.toNat x1) ((0 : Int), (0 : Int), ()));
let v6 : Bool := (decide (v5.1 > x2.1));
(match v6 with
| true => k0 false
| false => let v7 : Bool := (decide (v5.2.1 < (0 : Int)));
(match v7 with
| true => k0 false
| false => let v8 : Int := (List.length x2.2.1 : Int);
let v9 : Bool := (decide (v5.2.1 ≥ v8));
(match v9 with
| true => k0 false
| false => let v10 : Int := (IntKind.i64.wrap (x1 + (1 : Int)));
kc v10 x2)))
| false => none)
| false => k1)
theorem q45_6 (F78 : FT78) (L6 : LT45_6) (R : Type) (x : HT (le45_6 L6).H) (kc : HT (le45_6 L6).H → Option R) (ke : KT R (le45_6 L6).exs) :
  exec (e45 F78 L6 R) (lcode 6 (codeOf Tryz.f45)) (stOf (le45_6 L6).H x 1) (roundK (le45_6 L6).H (le45_6 L6).exs kc ke) =
    p45_6 R x.1 x.2.1 (fun x1 x2 => kc (x1, x2, ())) (fun y1 => ke.1 (y1, ())) (ke.2.1 ()) := by kernel_rfl
noncomputable def G45_6 : Nat → LT45_6
  | 0 => fun _ _ _ _ _ => none
  | n + 1 => fun R x1 x2 k0 k1 => p45_6 R x1 x2 (fun x1 x2 => G45_6 n R x1 x2 k0 k1) k0 k1
def p45 (F78 : FT78) (L6 : LT45_6) : FT45 := fun R a0 k =>
let v1 : Int := (List.length a0.2.1 : Int);
let v2 : Int := (IntKind.u64.wrap v1);
F78 R v2 a0.1 fun y3 y4 =>
let v5 : Bool := (v2 == (0 : Int));
(match v5 with
| true => k false
| false => let v6 : Bool := (a0.1 == (0 : Int));
(match v6 with
| true => k false
| false => (match (!y4) with
| true => k false
| false => L6 R (0 : Int) a0 (fun x7 =>
k x7) (k true))))
theorem q45 (F78 : FT78) (L6 : LT45_6) (F : FT45) (R : Type) (x : AT (en45 F).ins) (k : RT (en45 F).outs → PT (en45 F).ins → Option R) :
  xfun (e45 F78 L6 R) (codeOf Tryz.f45) res45 (avs (en45 F).ins x) (finK (en45 F).outs (en45 F).ins k) = p45 F78 L6 R x.1 (fun y1 => k (y1, ()) ()) := by kernel_rfl
noncomputable def F45 : FT45 := p45 F78 (G45_6 FUEL)
theorem env45 (R : Type) : EnvOK Tryz.prog (e45 F78 (G45_6 FUEL) R) := ⟨tabOK, eqOK, callOf_ok (allE_cons ok78 allE_nil), noIns, inlOK_nil⟩
noncomputable def T45_6 : (R : Type) → HT (le45_6 (G45_6 FUEL)).H → (HT (le45_6 (G45_6 FUEL)).H → Option R) → KT R (le45_6 (G45_6 FUEL)).exs → Option R := fun R x kc ke => p45_6 R x.1 x.2.1 (fun x1 x2 => kc (x1, x2, ())) (fun y1 => ke.1 (y1, ())) (ke.2.1 ())
theorem it45_6 : ∀ (n : Nat) (R : Type) (x : HT (le45_6 (G45_6 FUEL)).H) (ke : KT R (le45_6 (G45_6 FUEL)).exs), iter T45_6 n R x ke = G45_6 n R x.1 x.2.1 (fun y1 => ke.1 (y1, ())) (ke.2.1 ()) := by
  intro n
  induction n with
  | zero => intro R x ke; rfl
  | succ n ih =>
    intro R x ke
    show T45_6 R x (fun x' => iter T45_6 n R x' ke) ke = _
    rw [show (fun x' => iter T45_6 n R x' ke) = fun x => G45_6 n R x.1 x.2.1 (fun y1 => ke.1 (y1, ())) (ke.2.1 ()) from funext fun x' => ih R x' ke]
    rfl
theorem lok45_6 : (le45_6 (G45_6 FUEL)).OK Tryz.prog 0 60 (lcode 6 (codeOf Tryz.f45)) := fun R x ke r h =>
  iter_sound (fun R => e45 F78 (G45_6 FUEL) R) 0 60 (fun _ => rfl) (fun _ => rfl) (fun R => env45 R) mixed (by
    intro R
    rw [show loopsOf (lcode 6 (codeOf Tryz.f45)) = [] from by kernel_rfl]
    exact allM_nil) (T := T45_6) (fun R x kc ke => q45_6 F78 (G45_6 FUEL) R x kc ke) FUEL R x ke r ((it45_6 FUEL R x ke).trans h)
theorem ok45 : (en45 F45).OK Tryz.prog :=
  ent_ok (Ef := fun R => e45 F78 (G45_6 FUEL) R) (fun R => env45 R) mixed Tryz.func45 (body := codeOf Tryz.f45) (by kernel_rfl) (by kernel_rfl) (np := 0) (nt := 60) (fun _ => rfl) (fun _ => rfl) (by kernel_rfl) (res := res45) (by kernel_rfl) (fun _ => rfl) (fun _ => Nat.le_of_ble_eq_true rfl) (by
    intro R
    rw [show loopsOf (codeOf Tryz.f45) = [lcode 6 (codeOf Tryz.f45)] from by kernel_rfl]
    exact (allM_cons (loop_ok2 (e := le45_6 (G45_6 FUEL)) rfl rfl lok45_6) allM_nil)) (fun R x k => q45 F78 (G45_6 FUEL) F45 R x k)
abbrev FT47 : Type 1 := (R : Type) → Tq7 → (Int → Option R) → Option R
def en47 (F : FT47) : Ent := ⟨47, [(false, Kq7)], [(false, (.int .u64))], fun R x k => F R x.1 (fun y1 => k (y1, ()) ())⟩
def res47 : List (ResultVar × TypeId × Bool) := [(.tmp 2, 22, false)]
noncomputable def e47 (F45 : FT45) (R : Type) : Env R := ⟨TT, EQT, 0, 13, ownOf [], callOf [en45 F45] R, loopOf [] R, [], inlOf []⟩
def p47 (F45 : FT45) : FT47 := fun R a0 k =>
F45 R a0 fun y1 =>
(match (!y1) with
| true => k (0 : Int)
| false => let v2 : Int := (List.length a0.2.1 : Int);
let v3 : Int := (IntKind.u64.wrap v2);
let v4 : Int := (IntKind.u64.wrap (v3 * a0.1));
k v4)
theorem q47 (F45 : FT45) (F : FT47) (R : Type) (x : AT (en47 F).ins) (k : RT (en47 F).outs → PT (en47 F).ins → Option R) :
  xfun (e47 F45 R) (codeOf Tryz.f47) res47 (avs (en47 F).ins x) (finK (en47 F).outs (en47 F).ins k) = p47 F45 R x.1 (fun y1 => k (y1, ()) ()) := by kernel_rfl
noncomputable def F47 : FT47 := p47 F45
theorem env47 (R : Type) : EnvOK Tryz.prog (e47 F45 R) := ⟨tabOK, eqOK, callOf_ok (allE_cons ok45 allE_nil), noIns, inlOK_nil⟩
theorem ok47 : (en47 F47).OK Tryz.prog :=
  ent_ok (Ef := fun R => e47 F45 R) (fun R => env47 R) mixed Tryz.func47 (body := codeOf Tryz.f47) (by kernel_rfl) (by kernel_rfl) (np := 0) (nt := 13) (fun _ => rfl) (fun _ => rfl) (by kernel_rfl) (res := res47) (by kernel_rfl) (fun _ => rfl) (fun _ => Nat.le_of_ble_eq_true rfl) (by
    intro R
    rw [show loopsOf (codeOf Tryz.f47) = [] from by kernel_rfl]
    exact allM_nil) (fun R x k => q47 F45 F47 R x k)
abbrev FT58 : Type 1 := (R : Type) → Tq6 → (Bool → Option R) → Option R
def en58 (F : FT58) : Ent := ⟨58, [(false, Kq6)], [(false, .bool)], fun R x k => F R x.1 (fun y1 => k (y1, ()) ())⟩
def res58 : List (ResultVar × TypeId × Bool) := [(.tmp 2, 4, false)]
noncomputable def e58 (R : Type) : Env R := ⟨TT, EQT, 0, 29, ownOf [], callOf [] R, loopOf [] R, [], inlOf []⟩
def p58 : FT58 := fun R a0 k =>
let v1 : Bool := (a0.1 == (1 : Int));
(match v1 with
| true => let v2 : Int := (List.length a0.2.1 : Int);
let v3 : Int := (IntKind.u64.wrap v2);
let v4 : Int := (IntKind.u64.wrap ((8 : Int) * v3));
let v5 : Bool := (decide (a0.2.2.1 ≤ v4));
(match v5 with
| true => let v6 : Bool := (decide (a0.2.2.2.2.2.1 ≤ a0.2.2.1));
k v6
| false => k false)
| false => let v7 : Bool := (a0.1 == (2 : Int));
(match v7 with
| true => let v8 : Bool := (decide (a0.2.2.2.2.2.1 ≤ (4611686018427387904 : Int)));
k v8
| false => k false))
theorem q58 (F : FT58) (R : Type) (x : AT (en58 F).ins) (k : RT (en58 F).outs → PT (en58 F).ins → Option R) :
  xfun (e58 R) (codeOf Tryz.f58) res58 (avs (en58 F).ins x) (finK (en58 F).outs (en58 F).ins k) = p58 R x.1 (fun y1 => k (y1, ()) ()) := by kernel_rfl
noncomputable def F58 : FT58 := p58
theorem env58 (R : Type) : EnvOK Tryz.prog (e58 R) := ⟨tabOK, eqOK, callOf_ok allE_nil, noIns, inlOK_nil⟩
theorem ok58 : (en58 F58).OK Tryz.prog :=
  ent_ok (Ef := fun R => e58 R) (fun R => env58 R) mixed Tryz.func58 (body := codeOf Tryz.f58) (by kernel_rfl) (by kernel_rfl) (np := 0) (nt := 29) (fun _ => rfl) (fun _ => rfl) (by kernel_rfl) (res := res58) (by kernel_rfl) (fun _ => rfl) (fun _ => Nat.le_of_ble_eq_true rfl) (by
    intro R
    rw [show loopsOf (codeOf Tryz.f58) = [] from by kernel_rfl]
    exact allM_nil) (fun R x k => q58 F58 R x k)
abbrev FT108 : Type 1 := (R : Type) → Int → (Int → Option R) → Option R
def en108 (F : FT108) : Ent := ⟨108, [(false, (.int .u64))], [(false, (.int .i64))], fun R x k => F R x.1 (fun y1 => k (y1, ()) ())⟩
def res108 : List (ResultVar × TypeId × Bool) := [(.tmp 2, 3, false)]
abbrev LT108_2 : Type 1 := (R : Type) → Int → Int → (Int → Option R) → Option R
def le108_2 (L : LT108_2) : LEnt := ⟨2, [.val 0 (.int .u64), .val 3 (.int .i64)], 0, [(.exit 0, [.val 3 (.int .i64)])], fun R x ke => L R x.1 x.2.1 (fun y1 => ke.1 (y1, ()))⟩
noncomputable def e108 (L2 : LT108_2) (R : Type) : Env R := ⟨TT, EQT, 0, 11, ownOf [], callOf [] R, loopOf [le108_2 L2] R, [], inlOf []⟩
def p108_2 : (R : Type) → Int → Int → (Int → Int → Option R) → (Int → Option R) → Option R := fun R x1 x2 kc k0 =>
let v3 : Bool := (decide (x1 > (0 : Int)));
(match v3 with
| true => let v4 : Int := (IntKind.u64.wrap (Int.tdiv x1 (2 : Int)));
let v5 : Int := (IntKind.i64.wrap (x2 + (1 : Int)));
kc v4 v5
| false => k0 x2)
theorem q108_2 (L2 : LT108_2) (R : Type) (x : HT (le108_2 L2).H) (kc : HT (le108_2 L2).H → Option R) (ke : KT R (le108_2 L2).exs) :
  exec (e108 L2 R) (lcode 2 (codeOf Tryz.f108)) (stOf (le108_2 L2).H x 0) (roundK (le108_2 L2).H (le108_2 L2).exs kc ke) =
    p108_2 R x.1 x.2.1 (fun x1 x2 => kc (x1, x2, ())) (fun y1 => ke.1 (y1, ())) := by kernel_rfl
noncomputable def G108_2 : Nat → LT108_2
  | 0 => fun _ _ _ _ => none
  | n + 1 => fun R x1 x2 k0 => p108_2 R x1 x2 (fun x1 x2 => G108_2 n R x1 x2 k0) k0
def p108 (L2 : LT108_2) : FT108 := fun R a0 k =>
L2 R a0 (0 : Int) (fun x1 =>
k x1)
theorem q108 (L2 : LT108_2) (F : FT108) (R : Type) (x : AT (en108 F).ins) (k : RT (en108 F).outs → PT (en108 F).ins → Option R) :
  xfun (e108 L2 R) (codeOf Tryz.f108) res108 (avs (en108 F).ins x) (finK (en108 F).outs (en108 F).ins k) = p108 L2 R x.1 (fun y1 => k (y1, ()) ()) := by kernel_rfl
noncomputable def F108 : FT108 := p108 (G108_2 FUEL)
theorem env108 (R : Type) : EnvOK Tryz.prog (e108 (G108_2 FUEL) R) := ⟨tabOK, eqOK, callOf_ok allE_nil, noIns, inlOK_nil⟩
noncomputable def T108_2 : (R : Type) → HT (le108_2 (G108_2 FUEL)).H → (HT (le108_2 (G108_2 FUEL)).H → Option R) → KT R (le108_2 (G108_2 FUEL)).exs → Option R := fun R x kc ke => p108_2 R x.1 x.2.1 (fun x1 x2 => kc (x1, x2, ())) (fun y1 => ke.1 (y1, ()))
theorem it108_2 : ∀ (n : Nat) (R : Type) (x : HT (le108_2 (G108_2 FUEL)).H) (ke : KT R (le108_2 (G108_2 FUEL)).exs), iter T108_2 n R x ke = G108_2 n R x.1 x.2.1 (fun y1 => ke.1 (y1, ())) := by
  intro n
  induction n with
  | zero => intro R x ke; rfl
  | succ n ih =>
    intro R x ke
    show T108_2 R x (fun x' => iter T108_2 n R x' ke) ke = _
    rw [show (fun x' => iter T108_2 n R x' ke) = fun x => G108_2 n R x.1 x.2.1 (fun y1 => ke.1 (y1, ())) from funext fun x' => ih R x' ke]
    rfl
theorem lok108_2 : (le108_2 (G108_2 FUEL)).OK Tryz.prog 0 11 (lcode 2 (codeOf Tryz.f108)) := fun R x ke r h =>
  iter_sound (fun R => e108 (G108_2 FUEL) R) 0 11 (fun _ => rfl) (fun _ => rfl) (fun R => env108 R) mixed (by
    intro R
    rw [show loopsOf (lcode 2 (codeOf Tryz.f108)) = [] from by kernel_rfl]
    exact allM_nil) (T := T108_2) (fun R x kc ke => q108_2 (G108_2 FUEL) R x kc ke) FUEL R x ke r ((it108_2 FUEL R x ke).trans h)
theorem ok108 : (en108 F108).OK Tryz.prog :=
  ent_ok (Ef := fun R => e108 (G108_2 FUEL) R) (fun R => env108 R) mixed Tryz.func108 (body := codeOf Tryz.f108) (by kernel_rfl) (by kernel_rfl) (np := 0) (nt := 11) (fun _ => rfl) (fun _ => rfl) (by kernel_rfl) (res := res108) (by kernel_rfl) (fun _ => rfl) (fun _ => Nat.le_of_ble_eq_true rfl) (by
    intro R
    rw [show loopsOf (codeOf Tryz.f108) = [lcode 2 (codeOf Tryz.f108)] from by kernel_rfl]
    exact (allM_cons (loop_ok2 (e := le108_2 (G108_2 FUEL)) rfl rfl lok108_2) allM_nil)) (fun R x k => q108 (G108_2 FUEL) F108 R x k)
abbrev FT67 : Type 1 := (R : Type) → Int → (Int → Option R) → Option R
def en67 (F : FT67) : Ent := ⟨67, [(false, (.int .u64))], [(false, (.int .i64))], fun R x k => F R x.1 (fun y1 => k (y1, ()) ())⟩
def res67 : List (ResultVar × TypeId × Bool) := [(.tmp 2, 3, false)]
noncomputable def e67 (F108 : FT108) (R : Type) : Env R := ⟨TT, EQT, 0, 8, ownOf [], callOf [en108 F108] R, loopOf [] R, [], inlOf []⟩
def p67 (F108 : FT108) : FT67 := fun R a0 k =>
let v1 : Bool := (a0 == (0 : Int));
(match v1 with
| true => k (0 : Int)
| false => let v2 : Int := (IntKind.u64.wrap (a0 - (1 : Int)));
F108 R v2 fun y3 =>
k y3)
theorem q67 (F108 : FT108) (F : FT67) (R : Type) (x : AT (en67 F).ins) (k : RT (en67 F).outs → PT (en67 F).ins → Option R) :
  xfun (e67 F108 R) (codeOf Tryz.f67) res67 (avs (en67 F).ins x) (finK (en67 F).outs (en67 F).ins k) = p67 F108 R x.1 (fun y1 => k (y1, ()) ()) := by kernel_rfl
noncomputable def F67 : FT67 := p67 F108
theorem env67 (R : Type) : EnvOK Tryz.prog (e67 F108 R) := ⟨tabOK, eqOK, callOf_ok (allE_cons ok108 allE_nil), noIns, inlOK_nil⟩
theorem ok67 : (en67 F67).OK Tryz.prog :=
  ent_ok (Ef := fun R => e67 F108 R) (fun R => env67 R) mixed Tryz.func67 (body := codeOf Tryz.f67) (by kernel_rfl) (by kernel_rfl) (np := 0) (nt := 8) (fun _ => rfl) (fun _ => rfl) (by kernel_rfl) (res := res67) (by kernel_rfl) (fun _ => rfl) (fun _ => Nat.le_of_ble_eq_true rfl) (by
    intro R
    rw [show loopsOf (codeOf Tryz.f67) = [] from by kernel_rfl]
    exact allM_nil) (fun R x k => q67 F108 F67 R x k)
abbrev FT123 : Type 1 := (R : Type) → Tq6 → (Int → Option R) → Option R
def en123 (F : FT123) : Ent := ⟨123, [(false, Kq6)], [(false, (.int .u64))], fun R x k => F R x.1 (fun y1 => k (y1, ()) ())⟩
def res123 : List (ResultVar × TypeId × Bool) := [(.tmp 2, 22, false)]
noncomputable def e123 (F58 : FT58) (R : Type) : Env R := ⟨TT, EQT, 0, 17, ownOf [], callOf [en58 F58] R, loopOf [] R, [], inlOf []⟩
def p123 (F58 : FT58) : FT123 := fun R a0 k =>
F58 R a0 fun y1 =>
(match (!y1) with
| true => k (0 : Int)
| false => let v2 : Bool := (a0.1 == (1 : Int));
(match v2 with
| true => let v3 : Int := (IntKind.u64.wrap (a0.2.2.1 - a0.2.2.2.2.2.1));
k v3
| false => let v4 : Int := (IntKind.u64.wrap ((4611686018427387904 : Int) - a0.2.2.2.2.2.1));
k v4))
theorem q123 (F58 : FT58) (F : FT123) (R : Type) (x : AT (en123 F).ins) (k : RT (en123 F).outs → PT (en123 F).ins → Option R) :
  xfun (e123 F58 R) (codeOf Tryz.f123) res123 (avs (en123 F).ins x) (finK (en123 F).outs (en123 F).ins k) = p123 F58 R x.1 (fun y1 => k (y1, ()) ()) := by kernel_rfl
noncomputable def F123 : FT123 := p123 F58
theorem env123 (R : Type) : EnvOK Tryz.prog (e123 F58 R) := ⟨tabOK, eqOK, callOf_ok (allE_cons ok58 allE_nil), noIns, inlOK_nil⟩
theorem ok123 : (en123 F123).OK Tryz.prog :=
  ent_ok (Ef := fun R => e123 F58 R) (fun R => env123 R) mixed Tryz.func123 (body := codeOf Tryz.f123) (by kernel_rfl) (by kernel_rfl) (np := 0) (nt := 17) (fun _ => rfl) (fun _ => rfl) (by kernel_rfl) (res := res123) (by kernel_rfl) (fun _ => rfl) (fun _ => Nat.le_of_ble_eq_true rfl) (by
    intro R
    rw [show loopsOf (codeOf Tryz.f123) = [] from by kernel_rfl]
    exact allM_nil) (fun R x k => q123 F58 F123 R x k)
abbrev FT149 : Type 1 := (R : Type) → Int → ((List Int) → Option R) → Option R
def en149 (F : FT149) : Ent := ⟨149, [(false, (.int .u64))], [(false, (.arr 8 (.int .u8)))], fun R x k => F R x.1 (fun y1 => k (y1, ()) ())⟩
def res149 : List (ResultVar × TypeId × Bool) := [(.cell 2 180, 180, false)]
abbrev LT149_3 : Type 1 := (R : Type) → Int → Int → (List Int) → (List Int) → ((List Int) → (List Int) → Option R) → Option R
def le149_3 (L : LT149_3) : LEnt := ⟨3, [.val 0 (.int .u64), .fix 2 (.ptr 0 [] (.arr 8 (.int .u8))), .fix 3 (.ptr 1 [] (.arr 8 (.int .u8))), .val 4 (.int .i64), .var 0 (.arr 8 (.int .u8)) false, .var 1 (.arr 8 (.int .u8)) false], 2, [(.exit 0, [.fix 2 (.ptr 0 [] (.arr 8 (.int .u8))), .fix 3 (.ptr 1 [] (.arr 8 (.int .u8))), .var 0 (.arr 8 (.int .u8)) false, .var 1 (.arr 8 (.int .u8)) false])], fun R x ke => L R x.1 x.2.1 x.2.2.1 x.2.2.2.1 (fun y1 y2 => ke.1 (y1, y2, ()))⟩
noncomputable def e149 (L3 : LT149_3) (R : Type) : Env R := ⟨TT, EQT, 0, 17, ownOf [], callOf [] R, loopOf [le149_3 L3] R, [], inlOf []⟩
def p149_3 : (R : Type) → Int → Int → (List Int) → (List Int) → (Int → Int → (List Int) → (List Int) → Option R) → ((List Int) → (List Int) → Option R) → Option R := fun R x1 x2 x3 x4 kc k0 =>
let v5 : Bool := (decide (x2 ≥ (0 : Int)));
(match v5 with
| true => let v6 : Int := (Int.tmod x1 (256 : Int));
let v7 : Int := (IntKind.u8.wrap v6);
(match (bnd x2 (8 : Int)) with
| true => let v8 : (List Int) := (List.set x4 (Int.toNat x2) v7);
let v9 : Int := (IntKind.u64.wrap (Int.tdiv x1 (256 : Int)));
let v10 : Int := (IntKind.i64.wrap (x2 - (1 : Int)));
kc v9 v10 x3 v8
| false => none)
| false => k0 x3 x4)
theorem q149_3 (L3 : LT149_3) (R : Type) (x : HT (le149_3 L3).H) (kc : HT (le149_3 L3).H → Option R) (ke : KT R (le149_3 L3).exs) :
  exec (e149 L3 R) (lcode 3 (codeOf Tryz.f149)) (stOf (le149_3 L3).H x 2) (roundK (le149_3 L3).H (le149_3 L3).exs kc ke) =
    p149_3 R x.1 x.2.1 x.2.2.1 x.2.2.2.1 (fun x1 x2 x3 x4 => kc (x1, x2, x3, x4, ())) (fun y1 y2 => ke.1 (y1, y2, ())) := by kernel_rfl
noncomputable def G149_3 : Nat → LT149_3
  | 0 => fun _ _ _ _ _ _ => none
  | n + 1 => fun R x1 x2 x3 x4 k0 => p149_3 R x1 x2 x3 x4 (fun x1 x2 x3 x4 => G149_3 n R x1 x2 x3 x4 k0) k0
def p149 (L3 : LT149_3) : FT149 := fun R a0 k =>
L3 R a0 (7 : Int) (List.replicate 8 (0 : Int)) (List.replicate 8 (0 : Int)) (fun x1 x2 =>
k x2)
theorem q149 (L3 : LT149_3) (F : FT149) (R : Type) (x : AT (en149 F).ins) (k : RT (en149 F).outs → PT (en149 F).ins → Option R) :
  xfun (e149 L3 R) (codeOf Tryz.f149) res149 (avs (en149 F).ins x) (finK (en149 F).outs (en149 F).ins k) = p149 L3 R x.1 (fun y1 => k (y1, ()) ()) := by kernel_rfl
noncomputable def F149 : FT149 := p149 (G149_3 FUEL)
theorem env149 (R : Type) : EnvOK Tryz.prog (e149 (G149_3 FUEL) R) := ⟨tabOK, eqOK, callOf_ok allE_nil, noIns, inlOK_nil⟩
noncomputable def T149_3 : (R : Type) → HT (le149_3 (G149_3 FUEL)).H → (HT (le149_3 (G149_3 FUEL)).H → Option R) → KT R (le149_3 (G149_3 FUEL)).exs → Option R := fun R x kc ke => p149_3 R x.1 x.2.1 x.2.2.1 x.2.2.2.1 (fun x1 x2 x3 x4 => kc (x1, x2, x3, x4, ())) (fun y1 y2 => ke.1 (y1, y2, ()))
theorem it149_3 : ∀ (n : Nat) (R : Type) (x : HT (le149_3 (G149_3 FUEL)).H) (ke : KT R (le149_3 (G149_3 FUEL)).exs), iter T149_3 n R x ke = G149_3 n R x.1 x.2.1 x.2.2.1 x.2.2.2.1 (fun y1 y2 => ke.1 (y1, y2, ())) := by
  intro n
  induction n with
  | zero => intro R x ke; rfl
  | succ n ih =>
    intro R x ke
    show T149_3 R x (fun x' => iter T149_3 n R x' ke) ke = _
    rw [show (fun x' => iter T149_3 n R x' ke) = fun x => G149_3 n R x.1 x.2.1 x.2.2.1 x.2.2.2.1 (fun y1 y2 => ke.1 (y1, y2, ())) from funext fun x' => ih R x' ke]
    rfl
theorem lok149_3 : (le149_3 (G149_3 FUEL)).OK Tryz.prog 0 17 (lcode 3 (codeOf Tryz.f149)) := fun R x ke r h =>
  iter_sound (fun R => e149 (G149_3 FUEL) R) 0 17 (fun _ => rfl) (fun _ => rfl) (fun R => env149 R) mixed (by
    intro R
    rw [show loopsOf (lcode 3 (codeOf Tryz.f149)) = [] from by kernel_rfl]
    exact allM_nil) (T := T149_3) (fun R x kc ke => q149_3 (G149_3 FUEL) R x kc ke) FUEL R x ke r ((it149_3 FUEL R x ke).trans h)
theorem ok149 : (en149 F149).OK Tryz.prog :=
  ent_ok (Ef := fun R => e149 (G149_3 FUEL) R) (fun R => env149 R) mixed Tryz.func149 (body := codeOf Tryz.f149) (by kernel_rfl) (by kernel_rfl) (np := 0) (nt := 17) (fun _ => rfl) (fun _ => rfl) (by kernel_rfl) (res := res149) (by kernel_rfl) (fun _ => rfl) (fun _ => Nat.le_of_ble_eq_true rfl) (by
    intro R
    rw [show loopsOf (codeOf Tryz.f149) = [lcode 3 (codeOf Tryz.f149)] from by kernel_rfl]
    exact (allM_cons (loop_ok2 (e := le149_3 (G149_3 FUEL)) rfl rfl lok149_3) allM_nil)) (fun R x k => q149 (G149_3 FUEL) F149 R x k)
abbrev FT165 : Type 1 := (R : Type) → (List Int) → Int → ((List Int) → Bool → Option R) → Option R
def en165 (F : FT165) : Ent := ⟨165, [(false, (.sl (.int .u8))), (false, (.int .u64))], [(false, (.sl (.int .u8))), (false, .bool)], fun R x k => F R x.1 x.2.1 (fun y1 y2 => k (y1, y2, ()) ())⟩
def res165 : List (ResultVar × TypeId × Bool) := [(.tmp 4, 26, false), (.tmp 5, 4, false)]
abbrev LT165_4 : Type 1 := (R : Type) → Int → (List Int) → (Int → (List Int) → Option R) → Option R
def le165_4 (L : LT165_4) : LEnt := ⟨4, [.val 1 (.int .u64), .fix 6 (.own 0 0), .row 0 (.int .u8) false], 1, [(.exit 0, [.val 1 (.int .u64), .fix 6 (.own 0 0), .row 0 (.int .u8) false])], fun R x ke => L R x.1 x.2.1 (fun y1 y2 => ke.1 (y1, y2, ()))⟩
abbrev LT165_8 : Type 1 := (R : Type) → Int → (List Int) → (List Int) → ((List Int) → Option R) → Option R
def le165_8 (L : LT165_8) : LEnt := ⟨8, [.fix 6 (.own 0 0), .fix 7 (.ptr 1 [] (.arr 8 (.int .u8))), .val 8 (.int .i64), .row 0 (.int .u8) false, .var 1 (.arr 8 (.int .u8)) false], 2, [(.exit 2, [.fix 6 (.own 0 0), .row 0 (.int .u8) false])], fun R x ke => L R x.1 x.2.1 x.2.2.1 (fun y1 => ke.1 (y1, ()))⟩
noncomputable def e165 (F149 : FT149) (L4 : LT165_4) (L8 : LT165_8) (R : Type) : Env R := ⟨TT, EQT, 0, 45, ownOf [(3, 0)], callOf [en149 F149] R, loopOf [le165_4 L4, le165_8 L8] R, [], inlOf []⟩
def p165_4 : (R : Type) → Int → (List Int) → (Int → (List Int) → Option R) → (Int → (List Int) → Option R) → Option R := fun R x1 x2 kc k0 =>
let v3 : Int := (List.length x2 : Int);
let v4 : Int := (Int.tmod v3 (64 : Int));
let v5 : Bool := (v4 != (56 : Int));
(match v5 with
| true => let v6 : (List Int) := ([(0 : Int)] : (List Int));
(match (decide (List.length x2 + List.length v6 ≤ 140737488355328)) with
| true => let v7 : (List Int) := (x2 ++ v6);
kc x1 v7
| false => none)
| false => k0 x1 x2)
theorem q165_4 (F149 : FT149) (L4 : LT165_4) (L8 : LT165_8) (R : Type) (x : HT (le165_4 L4).H) (kc : HT (le165_4 L4).H → Option R) (ke : KT R (le165_4 L4).exs) :
  exec (e165 F149 L4 L8 R) (lcode 4 (codeOf Tryz.f165)) (stOf (le165_4 L4).H x 1) (roundK (le165_4 L4).H (le165_4 L4).exs kc ke) =
    p165_4 R x.1 x.2.1 (fun x1 x2 => kc (x1, x2, ())) (fun y1 y2 => ke.1 (y1, y2, ())) := by kernel_rfl
noncomputable def G165_4 : Nat → LT165_4
  | 0 => fun _ _ _ _ => none
  | n + 1 => fun R x1 x2 k0 => p165_4 R x1 x2 (fun x1 x2 => G165_4 n R x1 x2 k0) k0
def p165_8 : (R : Type) → Int → (List Int) → (List Int) → (Int → (List Int) → (List Int) → Option R) → ((List Int) → Option R) → Option R := fun R x1 x2 x3 kc k0 =>
let v4 : Bool := (decide (x1 < (8 : Int)));
(match v4 with
| true => (match (bnd x1 (8 : Int)) with
| true => let v5 : Int := (List.getD x3 (Int.toNat x1) (0 : Int));
let v6 : (List Int) := ([v5] : (List Int));
(match (decide (List.length x2 + List.length v6 ≤ 140737488355328)) with
| true => let v7 : (List Int) := (x2 ++ v6);
let v8 : Int := (IntKind.i64.wrap (x1 + (1 : Int)));
kc v8 v7 x3
| false => none)
| false => none)
| false => k0 x2)
theorem q165_8 (F149 : FT149) (L4 : LT165_4) (L8 : LT165_8) (R : Type) (x : HT (le165_8 L8).H) (kc : HT (le165_8 L8).H → Option R) (ke : KT R (le165_8 L8).exs) :
  exec (e165 F149 L4 L8 R) (lcode 8 (codeOf Tryz.f165)) (stOf (le165_8 L8).H x 2) (roundK (le165_8 L8).H (le165_8 L8).exs kc ke) =
    p165_8 R x.1 x.2.1 x.2.2.1 (fun x1 x2 x3 => kc (x1, x2, x3, ())) (fun y1 => ke.1 (y1, ())) := by kernel_rfl
noncomputable def G165_8 : Nat → LT165_8
  | 0 => fun _ _ _ _ _ => none
  | n + 1 => fun R x1 x2 x3 k0 => p165_8 R x1 x2 x3 (fun x1 x2 x3 => G165_8 n R x1 x2 x3 k0) k0
def p165 (F149 : FT149) (L4 : LT165_4) (L8 : LT165_8) : FT165 := fun R a0 a1 k =>
let v1 : Bool := (decide (a1 ≥ (2305843009213693952 : Int)));
(match v1 with
| true => k ([] : (List Int)) false
| false => let v2 : Int := (List.length a0 : Int);
let v3 : Int := (IntKind.u64.wrap v2);
let v4 : Int := (Int.tmod a1 (64 : Int));
let v5 : Bool := (v3 != v4);
(match v5 with
| true => k ([] : (List Int)) false
| false => let v6 : (List Int) := ([] : (List Int));
(match (decide (List.length v6 + List.length a0 ≤ 140737488355328)) with
| true => let v7 : (List Int) := (v6 ++ a0);
let v8 : (List Int) := ([(128 : Int)] : (List Int));
(match (decide (List.length v7 + List.length v8 ≤ 140737488355328)) with
| true => let v9 : (List Int) := (v7 ++ v8);
L4 R a1 v9 (fun x10 x11 =>
let v12 : Int := (IntKind.u64.wrap ((8 : Int) * x10));
F149 R v12 fun y13 =>
L8 R (0 : Int) x11 y13 (fun x14 =>
k x14 true))
| false => none)
| false => none)))
theorem q165 (F149 : FT149) (L4 : LT165_4) (L8 : LT165_8) (F : FT165) (R : Type) (x : AT (en165 F).ins) (k : RT (en165 F).outs → PT (en165 F).ins → Option R) :
  xfun (e165 F149 L4 L8 R) (codeOf Tryz.f165) res165 (avs (en165 F).ins x) (finK (en165 F).outs (en165 F).ins k) = p165 F149 L4 L8 R x.1 x.2.1 (fun y1 y2 => k (y1, y2, ()) ()) := by kernel_rfl
noncomputable def F165 : FT165 := p165 F149 (G165_4 FUEL) (G165_8 FUEL)
theorem env165 (R : Type) : EnvOK Tryz.prog (e165 F149 (G165_4 FUEL) (G165_8 FUEL) R) := ⟨tabOK, eqOK, callOf_ok (allE_cons ok149 allE_nil), noIns, inlOK_nil⟩
noncomputable def T165_4 : (R : Type) → HT (le165_4 (G165_4 FUEL)).H → (HT (le165_4 (G165_4 FUEL)).H → Option R) → KT R (le165_4 (G165_4 FUEL)).exs → Option R := fun R x kc ke => p165_4 R x.1 x.2.1 (fun x1 x2 => kc (x1, x2, ())) (fun y1 y2 => ke.1 (y1, y2, ()))
theorem it165_4 : ∀ (n : Nat) (R : Type) (x : HT (le165_4 (G165_4 FUEL)).H) (ke : KT R (le165_4 (G165_4 FUEL)).exs), iter T165_4 n R x ke = G165_4 n R x.1 x.2.1 (fun y1 y2 => ke.1 (y1, y2, ())) := by
  intro n
  induction n with
  | zero => intro R x ke; rfl
  | succ n ih =>
    intro R x ke
    show T165_4 R x (fun x' => iter T165_4 n R x' ke) ke = _
    rw [show (fun x' => iter T165_4 n R x' ke) = fun x => G165_4 n R x.1 x.2.1 (fun y1 y2 => ke.1 (y1, y2, ())) from funext fun x' => ih R x' ke]
    rfl
theorem lok165_4 : (le165_4 (G165_4 FUEL)).OK Tryz.prog 0 45 (lcode 4 (codeOf Tryz.f165)) := fun R x ke r h =>
  iter_sound (fun R => e165 F149 (G165_4 FUEL) (G165_8 FUEL) R) 0 45 (fun _ => rfl) (fun _ => rfl) (fun R => env165 R) mixed (by
    intro R
    rw [show loopsOf (lcode 4 (codeOf Tryz.f165)) = [] from by kernel_rfl]
    exact allM_nil) (T := T165_4) (fun R x kc ke => q165_4 F149 (G165_4 FUEL) (G165_8 FUEL) R x kc ke) FUEL R x ke r ((it165_4 FUEL R x ke).trans h)
noncomputable def T165_8 : (R : Type) → HT (le165_8 (G165_8 FUEL)).H → (HT (le165_8 (G165_8 FUEL)).H → Option R) → KT R (le165_8 (G165_8 FUEL)).exs → Option R := fun R x kc ke => p165_8 R x.1 x.2.1 x.2.2.1 (fun x1 x2 x3 => kc (x1, x2, x3, ())) (fun y1 => ke.1 (y1, ()))
theorem it165_8 : ∀ (n : Nat) (R : Type) (x : HT (le165_8 (G165_8 FUEL)).H) (ke : KT R (le165_8 (G165_8 FUEL)).exs), iter T165_8 n R x ke = G165_8 n R x.1 x.2.1 x.2.2.1 (fun y1 => ke.1 (y1, ())) := by
  intro n
  induction n with
  | zero => intro R x ke; rfl
  | succ n ih =>
    intro R x ke
    show T165_8 R x (fun x' => iter T165_8 n R x' ke) ke = _
    rw [show (fun x' => iter T165_8 n R x' ke) = fun x => G165_8 n R x.1 x.2.1 x.2.2.1 (fun y1 => ke.1 (y1, ())) from funext fun x' => ih R x' ke]
    rfl
theorem lok165_8 : (le165_8 (G165_8 FUEL)).OK Tryz.prog 0 45 (lcode 8 (codeOf Tryz.f165)) := fun R x ke r h =>
  iter_sound (fun R => e165 F149 (G165_4 FUEL) (G165_8 FUEL) R) 0 45 (fun _ => rfl) (fun _ => rfl) (fun R => env165 R) mixed (by
    intro R
    rw [show loopsOf (lcode 8 (codeOf Tryz.f165)) = [] from by kernel_rfl]
    exact allM_nil) (T := T165_8) (fun R x kc ke => q165_8 F149 (G165_4 FUEL) (G165_8 FUEL) R x kc ke) FUEL R x ke r ((it165_8 FUEL R x ke).trans h)
theorem ok165 : (en165 F165).OK Tryz.prog :=
  ent_ok (Ef := fun R => e165 F149 (G165_4 FUEL) (G165_8 FUEL) R) (fun R => env165 R) mixed Tryz.func165 (body := codeOf Tryz.f165) (by kernel_rfl) (by kernel_rfl) (np := 0) (nt := 45) (fun _ => rfl) (fun _ => rfl) (by kernel_rfl) (res := res165) (by kernel_rfl) (fun _ => rfl) (fun _ => Nat.le_of_ble_eq_true rfl) (by
    intro R
    rw [show loopsOf (codeOf Tryz.f165) = [lcode 4 (codeOf Tryz.f165), lcode 8 (codeOf Tryz.f165)] from by kernel_rfl]
    exact (allM_cons (loop_ok2 (e := le165_4 (G165_4 FUEL)) rfl rfl lok165_4) (allM_cons (loop_ok2 (e := le165_8 (G165_8 FUEL)) rfl rfl lok165_8) allM_nil))) (fun R x k => q165 F149 (G165_4 FUEL) (G165_8 FUEL) F165 R x k)
end Go.PG
