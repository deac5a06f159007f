/- A part of the proof over this seat (own work; the framework that reads a Go function as a pure one, or a use of it). No condition of its own. -/
import Derived.Test.YtapdakmnlclboaaGreatCW3
import Derived.Test.YtapdakmnlclboaaGreatProg
import Derived.KernelRfl
set_option linter.unusedVariables false
set_option linter.unusedSimpArgs false
set_option linter.unusedSectionVars false
set_option maxRecDepth 100000
namespace Go.PG
open Go.Proofs
abbrev Kq1 : Kd := (.pair (.int .i64) (.pair (.int .i64) .unit))
abbrev Tq1 : Type := (Int × (Int × Unit))
abbrev Tq2 : Type := (Tq1 × (List Int))
abbrev Kq3 : Kd := (.pair (.int .u64) (.pair (.int .u64) .unit))
abbrev Tq3 : Type := (Int × (Int × Unit))
abbrev Kq4 : Kd := (.pair (.arr 32 (.int .u8)) Kq3)
abbrev Tq4 : Type := ((List Int) × Tq3)
abbrev Kq5 : Kd := (.pair (.int .u64) Kq4)
abbrev Tq5 : Type := (Int × Tq4)
abbrev Kq6 : Kd := (.pair (.sl (.int .u8)) Kq5)
abbrev Tq6 : Type := ((List Int) × Tq5)
abbrev Kq7 : Kd := (.pair (.int .i64) Kq6)
abbrev Tq7 : Type := (Int × Tq6)
abbrev Kq8 : Kd := (.pair (.sl (.int .u8)) (.pair (.int .u64) .unit))
abbrev Tq8 : Type := ((List Int) × (Int × Unit))
abbrev Kq9 : Kd := (.pair (.arr 8 (.int .u32)) Kq8)
abbrev Tq9 : Type := ((List Int) × Tq8)
abbrev Kq10 : Kd := (.pair Kq9 .unit)
abbrev Tq10 : Type := (Tq9 × Unit)
abbrev Kq11 : Kd := (.pair (.int .u64) (.pair .bool .unit))
abbrev Tq11 : Type := (Int × (Bool × Unit))
abbrev Kq12 : Kd := (.pair (.arr 32 (.int .u8)) Kq11)
abbrev Tq12 : Type := ((List Int) × Tq11)
abbrev Kq13 : Kd := (.pair Kq7 Kq12)
abbrev Tq13 : Type := (Tq7 × Tq12)
abbrev Kq14 : Kd := (.pair .mp (.pair (.int .i64) .unit))
abbrev Kq15 : Kd := (.pair (.sl (.sl (.int .u32))) Kq14)
abbrev Kq16 : Kd := (.pair (.sl (.int .i64)) Kq15)
abbrev Kq17 : Kd := (.pair (.sl (.sl (.int .u32))) Kq16)
abbrev Kq18 : Kd := (.pair (.int .i64) Kq17)
abbrev Tq19 : Type := ((List (List Int)) × (Int × Unit))
abbrev Tq20 : Type := ((List Int) × Tq19)
abbrev Tq21 : Type := ((List (List Int)) × Tq20)
abbrev Tq22 : Type := (Int × Tq21)
def TT : Tab := [
  (2, ⟨.int .i64, 1, 8, some (.int .i64)⟩),
  (3, ⟨.int .i64, 1, 8, some (.int .i64)⟩),
  (4, ⟨.bool, 1, 1, some .bool⟩),
  (5, ⟨.int .u8, 1, 1, some (.int .u8)⟩),
  (9, ⟨.string, 1, 16, some .str⟩),
  (22, ⟨.int .u64, 1, 8, some (.int .u64)⟩),
  (26, ⟨.slice 5, 1, 24, some (.sl (.int .u8))⟩),
  (28, ⟨.array 32 5, 32, 32, some (.arr 32 (.int .u8))⟩),
  (30, ⟨.struct #[{ name := "Kind", type := 3, offset := 0, embedded := false, tag := "", pkgPath := "", byteOffset := 0 }, { name := "Tape", type := 26, offset := 1, embedded := false, tag := "", pkgPath := "", byteOffset := 8 }, { name := "Bits", type := 22, offset := 2, embedded := false, tag := "", pkgPath := "", byteOffset := 32 }, { name := "Seed", type := 28, offset := 3, embedded := false, tag := "", pkgPath := "", byteOffset := 40 }, { name := "Domain", type := 22, offset := 35, embedded := false, tag := "", pkgPath := "", byteOffset := 72 }, { name := "At", type := 22, offset := 36, embedded := false, tag := "", pkgPath := "", byteOffset := 80 }], 37, 88, some Kq7⟩),
  (32, ⟨.int .i64, 1, 8, some (.int .i64)⟩),
  (37, ⟨.slice 22, 1, 24, some (.sl (.int .u64))⟩),
  (42, ⟨.slice 3, 1, 24, some (.sl (.int .i64))⟩),
  (49, ⟨.struct #[{ name := "Tree", type := 37, offset := 0, embedded := false, tag := "", pkgPath := "", byteOffset := 0 }], 1, 24, some (.pair (.sl (.int .u64)) .unit)⟩),
  (55, ⟨.array 2 3, 2, 16, some (.arr 2 (.int .i64))⟩),
  (56, ⟨.slice 84, 1, 24, some (.sl (.int .u32))⟩),
  (57, ⟨.slice 84, 1, 24, some (.sl (.int .u32))⟩),
  (84, ⟨.int .u32, 1, 4, some (.int .u32)⟩),
  (102, ⟨.map 110 57, 1, 8, some .mp⟩),
  (103, ⟨.slice 57, 1, 24, some (.sl (.sl (.int .u32)))⟩),
  (105, ⟨.struct #[{ name := "attempts", type := 3, offset := 0, embedded := false, tag := "", pkgPath := "drawlot/comm", byteOffset := 0 }, { name := "stakes", type := 103, offset := 1, embedded := false, tag := "", pkgPath := "drawlot/comm", byteOffset := 8 }, { name := "needs", type := 42, offset := 2, embedded := false, tag := "", pkgPath := "drawlot/comm", byteOffset := 32 }, { name := "lost", type := 103, offset := 3, embedded := false, tag := "", pkgPath := "drawlot/comm", byteOffset := 56 }, { name := "known", type := 102, offset := 4, embedded := false, tag := "", pkgPath := "drawlot/comm", byteOffset := 80 }, { name := "broken", type := 32, offset := 5, embedded := false, tag := "", pkgPath := "drawlot/comm", byteOffset := 88 }], 6, 96, some Kq18⟩),
  (110, ⟨.struct #[{ name := "member", type := 3, offset := 0, embedded := false, tag := "", pkgPath := "drawlot/comm", byteOffset := 0 }, { name := "left", type := 3, offset := 1, embedded := false, tag := "", pkgPath := "drawlot/comm", byteOffset := 8 }], 2, 16, some Kq1⟩),
  (159, ⟨.struct #[{ name := "Source", type := 30, offset := 0, embedded := true, tag := "", pkgPath := "", byteOffset := 0 }, { name := "block", type := 28, offset := 37, embedded := false, tag := "", pkgPath := "drawlot/tape", byteOffset := 88 }, { name := "at", type := 22, offset := 69, embedded := false, tag := "", pkgPath := "drawlot/tape", byteOffset := 120 }, { name := "some", type := 4, offset := 70, embedded := false, tag := "", pkgPath := "drawlot/tape", byteOffset := 128 }], 71, 136, some Kq13⟩),
  (160, ⟨.int .u64, 1, 8, some (.int .u64)⟩),
  (180, ⟨.array 8 5, 8, 8, some (.arr 8 (.int .u8))⟩),
  (184, ⟨.slice 26, 1, 24, some (.sl (.sl (.int .u8)))⟩),
  (186, ⟨.array 8 84, 8, 32, some (.arr 8 (.int .u32))⟩),
  (188, ⟨.struct #[{ name := "State", type := 186, offset := 0, embedded := false, tag := "", pkgPath := "", byteOffset := 0 }, { name := "Rest", type := 26, offset := 8, embedded := false, tag := "", pkgPath := "", byteOffset := 32 }, { name := "Bytes", type := 22, offset := 9, embedded := false, tag := "", pkgPath := "", byteOffset := 56 }], 10, 64, some Kq9⟩),
  (194, ⟨.slice 208, 1, 24, some (.sl (.arr 64 (.int .u8)))⟩),
  (203, ⟨.struct #[{ name := "Writer", type := 188, offset := 0, embedded := true, tag := "", pkgPath := "", byteOffset := 0 }], 10, 64, some Kq10⟩),
  (208, ⟨.array 64 5, 64, 64, some (.arr 64 (.int .u8))⟩),
  (209, ⟨.array 4 5, 4, 4, some (.arr 4 (.int .u8))⟩),
  (213, ⟨.array 64 84, 64, 256, some (.arr 64 (.int .u32))⟩),
  (214, ⟨.array 64 84, 64, 256, some (.arr 64 (.int .u32))⟩)]
def EQT : List Nat := [28, 110]
theorem ty2 : TyOK Tryz.prog TT 2 ⟨.int .i64, 1, 8, some (.int .i64)⟩ := tyOK_of Tryz.underlying2 (by kernel_rfl)
theorem ty3 : TyOK Tryz.prog TT 3 ⟨.int .i64, 1, 8, some (.int .i64)⟩ := tyOK_of Tryz.underlying3 (by kernel_rfl)
theorem ty4 : TyOK Tryz.prog TT 4 ⟨.bool, 1, 1, some .bool⟩ := tyOK_of Tryz.underlying4 (by kernel_rfl)
theorem ty5 : TyOK Tryz.prog TT 5 ⟨.int .u8, 1, 1, some (.int .u8)⟩ := tyOK_of Tryz.underlying5 (by kernel_rfl)
theorem ty9 : TyOK Tryz.prog TT 9 ⟨.string, 1, 16, some .str⟩ := tyOK_of Tryz.underlying9 (by kernel_rfl)
theorem ty22 : TyOK Tryz.prog TT 22 ⟨.int .u64, 1, 8, some (.int .u64)⟩ := tyOK_of Tryz.underlying22 (by kernel_rfl)
theorem ty26 : TyOK Tryz.prog TT 26 ⟨.slice 5, 1, 24, some (.sl (.int .u8))⟩ := tyOK_of Tryz.underlying26 (by kernel_rfl)
theorem ty28 : TyOK Tryz.prog TT 28 ⟨.array 32 5, 32, 32, some (.arr 32 (.int .u8))⟩ := tyOK_of Tryz.underlying28 (by kernel_rfl)
theorem ty30 : TyOK Tryz.prog TT 30 ⟨.struct #[{ name := "Kind", type := 3, offset := 0, embedded := false, tag := "", pkgPath := "", byteOffset := 0 }, { name := "Tape", type := 26, offset := 1, embedded := false, tag := "", pkgPath := "", byteOffset := 8 }, { name := "Bits", type := 22, offset := 2, embedded := false, tag := "", pkgPath := "", byteOffset := 32 }, { name := "Seed", type := 28, offset := 3, embedded := false, tag := "", pkgPath := "", byteOffset := 40 }, { name := "Domain", type := 22, offset := 35, embedded := false, tag := "", pkgPath := "", byteOffset := 72 }, { name := "At", type := 22, offset := 36, embedded := false, tag := "", pkgPath := "", byteOffset := 80 }], 37, 88, some Kq7⟩ := tyOK_of Tryz.underlying30 (by kernel_rfl)
theorem ty32 : TyOK Tryz.prog TT 32 ⟨.int .i64, 1, 8, some (.int .i64)⟩ := tyOK_of Tryz.underlying32 (by kernel_rfl)
theorem ty37 : TyOK Tryz.prog TT 37 ⟨.slice 22, 1, 24, some (.sl (.int .u64))⟩ := tyOK_of Tryz.underlying37 (by kernel_rfl)
theorem ty42 : TyOK Tryz.prog TT 42 ⟨.slice 3, 1, 24, some (.sl (.int .i64))⟩ := tyOK_of Tryz.underlying42 (by kernel_rfl)
theorem ty49 : TyOK Tryz.prog TT 49 ⟨.struct #[{ name := "Tree", type := 37, offset := 0, embedded := false, tag := "", pkgPath := "", byteOffset := 0 }], 1, 24, some (.pair (.sl (.int .u64)) .unit)⟩ := tyOK_of Tryz.underlying49 (by kernel_rfl)
theorem ty55 : TyOK Tryz.prog TT 55 ⟨.array 2 3, 2, 16, some (.arr 2 (.int .i64))⟩ := tyOK_of Tryz.underlying55 (by kernel_rfl)
theorem ty56 : TyOK Tryz.prog TT 56 ⟨.slice 84, 1, 24, some (.sl (.int .u32))⟩ := tyOK_of Tryz.underlying56 (by kernel_rfl)
theorem ty57 : TyOK Tryz.prog TT 57 ⟨.slice 84, 1, 24, some (.sl (.int .u32))⟩ := tyOK_of Tryz.underlying57 (by kernel_rfl)
theorem ty84 : TyOK Tryz.prog TT 84 ⟨.int .u32, 1, 4, some (.int .u32)⟩ := tyOK_of Tryz.underlying84 (by kernel_rfl)
theorem ty102 : TyOK Tryz.prog TT 102 ⟨.map 110 57, 1, 8, some .mp⟩ := tyOK_of Tryz.underlying102 (by kernel_rfl)
theorem ty103 : TyOK Tryz.prog TT 103 ⟨.slice 57, 1, 24, some (.sl (.sl (.int .u32)))⟩ := tyOK_of Tryz.underlying103 (by kernel_rfl)
theorem ty105 : TyOK Tryz.prog TT 105 ⟨.struct #[{ name := "attempts", type := 3, offset := 0, embedded := false, tag := "", pkgPath := "drawlot/comm", byteOffset := 0 }, { name := "stakes", type := 103, offset := 1, embedded := false, tag := "", pkgPath := "drawlot/comm", byteOffset := 8 }, { name := "needs", type := 42, offset := 2, embedded := false, tag := "", pkgPath := "drawlot/comm", byteOffset := 32 }, { name := "lost", type := 103, offset := 3, embedded := false, tag := "", pkgPath := "drawlot/comm", byteOffset := 56 }, { name := "known", type := 102, offset := 4, embedded := false, tag := "", pkgPath := "drawlot/comm", byteOffset := 80 }, { name := "broken", type := 32, offset := 5, embedded := false, tag := "", pkgPath := "drawlot/comm", byteOffset := 88 }], 6, 96, some Kq18⟩ := tyOK_of Tryz.underlying105 (by kernel_rfl)
theorem ty110 : TyOK Tryz.prog TT 110 ⟨.struct #[{ name := "member", type := 3, offset := 0, embedded := false, tag := "", pkgPath := "drawlot/comm", byteOffset := 0 }, { name := "left", type := 3, offset := 1, embedded := false, tag := "", pkgPath := "drawlot/comm", byteOffset := 8 }], 2, 16, some Kq1⟩ := tyOK_of Tryz.underlying110 (by kernel_rfl)
theorem ty159 : TyOK Tryz.prog TT 159 ⟨.struct #[{ name := "Source", type := 30, offset := 0, embedded := true, tag := "", pkgPath := "", byteOffset := 0 }, { name := "block", type := 28, offset := 37, embedded := false, tag := "", pkgPath := "drawlot/tape", byteOffset := 88 }, { name := "at", type := 22, offset := 69, embedded := false, tag := "", pkgPath := "drawlot/tape", byteOffset := 120 }, { name := "some", type := 4, offset := 70, embedded := false, tag := "", pkgPath := "drawlot/tape", byteOffset := 128 }], 71, 136, some Kq13⟩ := tyOK_of Tryz.underlying159 (by kernel_rfl)
theorem ty160 : TyOK Tryz.prog TT 160 ⟨.int .u64, 1, 8, some (.int .u64)⟩ := tyOK_of Tryz.underlying160 (by kernel_rfl)
theorem ty180 : TyOK Tryz.prog TT 180 ⟨.array 8 5, 8, 8, some (.arr 8 (.int .u8))⟩ := tyOK_of Tryz.underlying180 (by kernel_rfl)
theorem ty184 : TyOK Tryz.prog TT 184 ⟨.slice 26, 1, 24, some (.sl (.sl (.int .u8)))⟩ := tyOK_of Tryz.underlying184 (by kernel_rfl)
theorem ty186 : TyOK Tryz.prog TT 186 ⟨.array 8 84, 8, 32, some (.arr 8 (.int .u32))⟩ := tyOK_of Tryz.underlying186 (by kernel_rfl)
theorem ty188 : TyOK Tryz.prog TT 188 ⟨.struct #[{ name := "State", type := 186, offset := 0, embedded := false, tag := "", pkgPath := "", byteOffset := 0 }, { name := "Rest", type := 26, offset := 8, embedded := false, tag := "", pkgPath := "", byteOffset := 32 }, { name := "Bytes", type := 22, offset := 9, embedded := false, tag := "", pkgPath := "", byteOffset := 56 }], 10, 64, some Kq9⟩ := tyOK_of Tryz.underlying188 (by kernel_rfl)
theorem ty194 : TyOK Tryz.prog TT 194 ⟨.slice 208, 1, 24, some (.sl (.arr 64 (.int .u8)))⟩ := tyOK_of Tryz.underlying194 (by kernel_rfl)
theorem ty203 : TyOK Tryz.prog TT 203 ⟨.struct #[{ name := "Writer", type := 188, offset := 0, embedded := true, tag := "", pkgPath := "", byteOffset := 0 }], 10, 64, some Kq10⟩ := tyOK_of Tryz.underlying203 (by kernel_rfl)
theorem ty208 : TyOK Tryz.prog TT 208 ⟨.array 64 5, 64, 64, some (.arr 64 (.int .u8))⟩ := tyOK_of Tryz.underlying208 (by kernel_rfl)
theorem ty209 : TyOK Tryz.prog TT 209 ⟨.array 4 5, 4, 4, some (.arr 4 (.int .u8))⟩ := tyOK_of Tryz.underlying209 (by kernel_rfl)
theorem ty213 : TyOK Tryz.prog TT 213 ⟨.array 64 84, 64, 256, some (.arr 64 (.int .u32))⟩ := tyOK_of Tryz.underlying213 (by kernel_rfl)
theorem ty214 : TyOK Tryz.prog TT 214 ⟨.array 64 84, 64, 256, some (.arr 64 (.int .u32))⟩ := tyOK_of Tryz.underlying214 (by kernel_rfl)
theorem tabOK : TabOK Tryz.prog TT := tabOK_of (allM_cons ty2 (allM_cons ty3 (allM_cons ty4 (allM_cons ty5 (allM_cons ty9 (allM_cons ty22 (allM_cons ty26 (allM_cons ty28 (allM_cons ty30 (allM_cons ty32 (allM_cons ty37 (allM_cons ty42 (allM_cons ty49 (allM_cons ty55 (allM_cons ty56 (allM_cons ty57 (allM_cons ty84 (allM_cons ty102 (allM_cons ty103 (allM_cons ty105 (allM_cons ty110 (allM_cons ty159 (allM_cons ty160 (allM_cons ty180 (allM_cons ty184 (allM_cons ty186 (allM_cons ty188 (allM_cons ty194 (allM_cons ty203 (allM_cons ty208 (allM_cons ty209 (allM_cons ty213 (allM_cons ty214 allM_nil)))))))))))))))))))))))))))))))))
theorem eqOK : ∀ t ∈ EQT, ∀ k, tkd TT t = some k → EqOK Tryz.prog t k := (allM_cons (fun k h => by
    have h' : some ((.arr 32 (.int .u8)) : Kd) = some k := h
    cases h'
    exact eqOK_of tabOK (k := (.arr 32 (.int .u8))) rfl (by kernel_rfl) (by kernel_rfl) (by decide)) (allM_cons (fun k h => by
    have h' : some (Kq1 : Kd) = some k := h
    cases h'
    exact eqOK_of tabOK (k := Kq1) rfl (by kernel_rfl) (by kernel_rfl) (by decide)) allM_nil))
theorem mixed : Tryz.prog.follows .mixedOrders = true := by kernel_rfl
abbrev FT39 : Type 1 := (R : Type) → (List Int) → Int → (Tq7 → Int → Option R) → Option R
def en39 (F : FT39) : Ent := ⟨39, [(false, (.sl (.int .u8))), (false, (.int .u64))], [(false, Kq7), (false, (.int .i64))], fun R x k => F R x.1 x.2.1 (fun y1 y2 => k (y1, y2, ()) ())⟩
def res39 : List (ResultVar × TypeId × Bool) := [(.cell 4 30, 30, false), (.tmp 5, 32, false)]
noncomputable def e39 (R : Type) : Env R := ⟨TT, EQT, 0, 18, ownOf [(3, 0)], callOf [] R, loopOf [] R, [], inlOf []⟩
def p39 : FT39 := fun R a0 a1 k =>
let v1 := (List.length a0 : Int);
let v2 := (IntKind.u64.wrap v1);
let v3 := (IntKind.u64.wrap ((8 : Int) * v2));
let v4 := (decide (a1 > v3));
(match v4 with
| true => k ((0 : Int), ([] : (List Int)), (0 : Int), (List.replicate 32 (0 : Int)), (0 : Int), (0 : Int), ()) (1 : Int)
| false => let v5 : (List Int) := ([] : (List Int));
(match (decide (List.length v5 + List.length a0 ≤ 140737488355328)) with
| true => let v6 : (List Int) := (v5 ++ a0);
k ((1 : Int), v6, a1, (List.replicate 32 (0 : Int)), (0 : Int), (0 : Int), ()) (0 : Int)
| false => none))
theorem q39 (F : FT39) (R : Type) (x : AT (en39 F).ins) (k : RT (en39 F).outs → PT (en39 F).ins → Option R) :
  xfun (e39 R) (codeOf Tryz.f39) res39 (avs (en39 F).ins x) (finK (en39 F).outs (en39 F).ins k) = p39 R x.1 x.2.1 (fun y1 y2 => k (y1, y2, ()) ()) := by kernel_rfl
noncomputable def F39 : FT39 := p39
theorem env39 (R : Type) : EnvOK Tryz.prog (e39 R) := ⟨tabOK, eqOK, callOf_ok allE_nil, noIns, inlOK_nil⟩
theorem ok39 : (en39 F39).OK Tryz.prog :=
  ent_ok (Ef := fun R => e39 R) (fun R => env39 R) mixed Tryz.func39 (body := codeOf Tryz.f39) (by kernel_rfl) (by kernel_rfl) (np := 0) (nt := 18) (fun _ => rfl) (fun _ => rfl) (by kernel_rfl) (res := res39) (by kernel_rfl) (fun _ => rfl) (fun _ => Nat.le_of_ble_eq_true rfl) (by
    intro R
    rw [show loopsOf (codeOf Tryz.f39) = [] from by kernel_rfl]
    exact allM_nil) (fun R x k => q39 F39 R x k)
abbrev FT63 : Type 1 := (R : Type) → Int → (Int → Option R) → Option R
def en63 (F : FT63) : Ent := ⟨63, [(false, (.int .i64))], [(false, (.int .i64))], fun R x k => F R x.1 (fun y1 => k (y1, ()) ())⟩
def res63 : List (ResultVar × TypeId × Bool) := [(.tmp 2, 3, false)]
abbrev LT63_2 : Type 1 := (R : Type) → Int → Int → (Int → Option R) → Option R
def le63_2 (L : LT63_2) : LEnt := ⟨2, [.val 0 (.int .i64), .val 3 (.int .i64)], 0, [(.exit 0, [.val 3 (.int .i64)])], fun R x ke => L R x.1 x.2.1 (fun y1 => ke.1 (y1, ()))⟩
noncomputable def e63 (L2 : LT63_2) (R : Type) : Env R := ⟨TT, EQT, 0, 12, ownOf [], callOf [] R, loopOf [le63_2 L2] R, [], inlOf []⟩
def p63_2 : (R : Type) → Int → Int → (Int → Int → Option R) → (Int → Option R) → Option R := fun R x1 x2 kc k0 =>
let v3 := (Int.tmod x1 (2 : Int));
let v4 := (v3 == (0 : Int));
(match v4 with
| true => let v5 := (IntKind.i64.wrap (Int.tdiv x1 (2 : Int)));
let v6 := (IntKind.i64.wrap ((2 : Int) * x2));
kc v5 v6
| false => k0 x2)
theorem q63_2 (L2 : LT63_2) (R : Type) (x : HT (le63_2 L2).H) (kc : HT (le63_2 L2).H → Option R) (ke : KT R (le63_2 L2).exs) :
  exec (e63 L2 R) (lcode 2 (codeOf Tryz.f63)) (stOf (le63_2 L2).H x 0) (roundK (le63_2 L2).H (le63_2 L2).exs kc ke) =
    p63_2 R x.1 x.2.1 (fun x1 x2 => kc (x1, x2, ())) (fun y1 => ke.1 (y1, ())) := by kernel_rfl
noncomputable def G63_2 : Nat → LT63_2
  | 0 => fun _ _ _ _ => none
  | n + 1 => fun R x1 x2 k0 => p63_2 R x1 x2 (fun x1 x2 => G63_2 n R x1 x2 k0) k0
def p63 (L2 : LT63_2) : FT63 := fun R a0 k =>
L2 R a0 (1 : Int) (fun x1 =>
k x1)
theorem q63 (L2 : LT63_2) (F : FT63) (R : Type) (x : AT (en63 F).ins) (k : RT (en63 F).outs → PT (en63 F).ins → Option R) :
  xfun (e63 L2 R) (codeOf Tryz.f63) res63 (avs (en63 F).ins x) (finK (en63 F).outs (en63 F).ins k) = p63 L2 R x.1 (fun y1 => k (y1, ()) ()) := by kernel_rfl
noncomputable def F63 : FT63 := p63 (G63_2 FUEL)
theorem env63 (R : Type) : EnvOK Tryz.prog (e63 (G63_2 FUEL) R) := ⟨tabOK, eqOK, callOf_ok allE_nil, noIns, inlOK_nil⟩
noncomputable def T63_2 : (R : Type) → HT (le63_2 (G63_2 FUEL)).H → (HT (le63_2 (G63_2 FUEL)).H → Option R) → KT R (le63_2 (G63_2 FUEL)).exs → Option R := fun R x kc ke => p63_2 R x.1 x.2.1 (fun x1 x2 => kc (x1, x2, ())) (fun y1 => ke.1 (y1, ()))
theorem it63_2 : ∀ (n : Nat) (R : Type) (x : HT (le63_2 (G63_2 FUEL)).H) (ke : KT R (le63_2 (G63_2 FUEL)).exs), iter T63_2 n R x ke = G63_2 n R x.1 x.2.1 (fun y1 => ke.1 (y1, ())) := by
  intro n
  induction n with
  | zero => intro R x ke; rfl
  | succ n ih =>
    intro R x ke
    show T63_2 R x (fun x' => iter T63_2 n R x' ke) ke = _
    rw [show (fun x' => iter T63_2 n R x' ke) = fun x => G63_2 n R x.1 x.2.1 (fun y1 => ke.1 (y1, ())) from funext fun x' => ih R x' ke]
    rfl
theorem lok63_2 : (le63_2 (G63_2 FUEL)).OK Tryz.prog 0 12 (lcode 2 (codeOf Tryz.f63)) := fun R x ke r h =>
  iter_sound (fun R => e63 (G63_2 FUEL) R) 0 12 (fun _ => rfl) (fun _ => rfl) (fun R => env63 R) mixed (by
    intro R
    rw [show loopsOf (lcode 2 (codeOf Tryz.f63)) = [] from by kernel_rfl]
    exact allM_nil) (T := T63_2) (fun R x kc ke => q63_2 (G63_2 FUEL) R x kc ke) FUEL R x ke r ((it63_2 FUEL R x ke).trans h)
theorem ok63 : (en63 F63).OK Tryz.prog :=
  ent_ok (Ef := fun R => e63 (G63_2 FUEL) R) (fun R => env63 R) mixed Tryz.func63 (body := codeOf Tryz.f63) (by kernel_rfl) (by kernel_rfl) (np := 0) (nt := 12) (fun _ => rfl) (fun _ => rfl) (by kernel_rfl) (res := res63) (by kernel_rfl) (fun _ => rfl) (fun _ => Nat.le_of_ble_eq_true rfl) (by
    intro R
    rw [show loopsOf (codeOf Tryz.f63) = [lcode 2 (codeOf Tryz.f63)] from by kernel_rfl]
    exact (allM_cons (loop_ok2 (e := le63_2 (G63_2 FUEL)) rfl rfl lok63_2) allM_nil)) (fun R x k => q63 (G63_2 FUEL) F63 R x k)
abbrev FT62 : Type 1 := (R : Type) → (List Int) → Int → Int → (Int → Option R) → Option R
def en62 (F : FT62) : Ent := ⟨62, [(false, (.sl (.int .u64))), (false, (.int .i64)), (false, (.int .i64))], [(false, (.int .u64))], fun R x k => F R x.1 x.2.1 x.2.2.1 (fun y1 => k (y1, ()) ())⟩
def res62 : List (ResultVar × TypeId × Bool) := [(.tmp 6, 22, false)]
abbrev LT62_3 : Type 1 := (R : Type) → (List Int) → Int → Int → Int → (Int → Option R) → Option R
def le62_3 (L : LT62_3) : LEnt := ⟨3, [.val 0 (.sl (.int .u64)), .val 2 (.int .i64), .val 7 (.int .u64), .val 8 (.int .i64)], 0, [(.exit 0, [.val 7 (.int .u64)])], fun R x ke => L R x.1 x.2.1 x.2.2.1 x.2.2.2.1 (fun y1 => ke.1 (y1, ()))⟩
noncomputable def e62 (L3 : LT62_3) (R : Type) : Env R := ⟨TT, EQT, 0, 22, ownOf [], callOf [] R, loopOf [le62_3 L3] R, [], inlOf []⟩
def p62_3 : (R : Type) → (List Int) → Int → Int → Int → ((List Int) → Int → Int → Int → Option R) → (Int → Option R) → Option R := fun R x1 x2 x3 x4 kc k0 =>
let v5 := (decide (x4 < x2));
(match v5 with
| true => (match (bnd x4 (List.length x1 : Int)) with
| true => let v6 := (List.getD x1 (Int.toNat x4) (0 : Int));
let v7 := (IntKind.u64.wrap (x3 + v6));
let v8 := (IntKind.i64.wrap (x4 + (1 : Int)));
kc x1 x2 v7 v8
| false => none)
| false => k0 x3)
theorem q62_3 (L3 : LT62_3) (R : Type) (x : HT (le62_3 L3).H) (kc : HT (le62_3 L3).H → Option R) (ke : KT R (le62_3 L3).exs) :
  exec (e62 L3 R) (lcode 3 (codeOf Tryz.f62)) (stOf (le62_3 L3).H x 0) (roundK (le62_3 L3).H (le62_3 L3).exs kc ke) =
    p62_3 R x.1 x.2.1 x.2.2.1 x.2.2.2.1 (fun x1 x2 x3 x4 => kc (x1, x2, x3, x4, ())) (fun y1 => ke.1 (y1, ())) := by kernel_rfl
noncomputable def G62_3 : Nat → LT62_3
  | 0 => fun _ _ _ _ _ _ => none
  | n + 1 => fun R x1 x2 x3 x4 k0 => p62_3 R x1 x2 x3 x4 (fun x1 x2 x3 x4 => G62_3 n R x1 x2 x3 x4 k0) k0
def p62 (L3 : LT62_3) : FT62 := fun R a0 a1 a2 k =>
L3 R a0 a2 (0 : Int) a1 (fun x1 =>
k x1)
theorem q62 (L3 : LT62_3) (F : FT62) (R : Type) (x : AT (en62 F).ins) (k : RT (en62 F).outs → PT (en62 F).ins → Option R) :
  xfun (e62 L3 R) (codeOf Tryz.f62) res62 (avs (en62 F).ins x) (finK (en62 F).outs (en62 F).ins k) = p62 L3 R x.1 x.2.1 x.2.2.1 (fun y1 => k (y1, ()) ()) := by kernel_rfl
noncomputable def F62 : FT62 := p62 (G62_3 FUEL)
theorem env62 (R : Type) : EnvOK Tryz.prog (e62 (G62_3 FUEL) R) := ⟨tabOK, eqOK, callOf_ok allE_nil, noIns, inlOK_nil⟩
noncomputable def T62_3 : (R : Type) → HT (le62_3 (G62_3 FUEL)).H → (HT (le62_3 (G62_3 FUEL)).H → Option R) → KT R (le62_3 (G62_3 FUEL)).exs → Option R := fun R x kc ke => p62_3 R x.1 x.2.1 x.2.2.1 x.2.2.2.1 (fun x1 x2 x3 x4 => kc (x1, x2, x3, x4, ())) (fun y1 => ke.1 (y1, ()))
theorem it62_3 : ∀ (n : Nat) (R : Type) (x : HT (le62_3 (G62_3 FUEL)).H) (ke : KT R (le62_3 (G62_3 FUEL)).exs), iter T62_3 n R x ke = G62_3 n R x.1 x.2.1 x.2.2.1 x.2.2.2.1 (fun y1 => ke.1 (y1, ())) := by
  intro n
  induction n with
  | zero => intro R x ke; rfl
  | succ n ih =>
    intro R x ke
    show T62_3 R x (fun x' => iter T62_3 n R x' ke) ke = _
    rw [show (fun x' => iter T62_3 n R x' ke) = fun x => G62_3 n R x.1 x.2.1 x.2.2.1 x.2.2.2.1 (fun y1 => ke.1 (y1, ())) from funext fun x' => ih R x' ke]
    rfl
theorem lok62_3 : (le62_3 (G62_3 FUEL)).OK Tryz.prog 0 22 (lcode 3 (codeOf Tryz.f62)) := fun R x ke r h =>
  iter_sound (fun R => e62 (G62_3 FUEL) R) 0 22 (fun _ => rfl) (fun _ => rfl) (fun R => env62 R) mixed (by
    intro R
    rw [show loopsOf (lcode 3 (codeOf Tryz.f62)) = [] from by kernel_rfl]
    exact allM_nil) (T := T62_3) (fun R x kc ke => q62_3 (G62_3 FUEL) R x kc ke) FUEL R x ke r ((it62_3 FUEL R x ke).trans h)
theorem ok62 : (en62 F62).OK Tryz.prog :=
  ent_ok (Ef := fun R => e62 (G62_3 FUEL) R) (fun R => env62 R) mixed Tryz.func62 (body := codeOf Tryz.f62) (by kernel_rfl) (by kernel_rfl) (np := 0) (nt := 22) (fun _ => rfl) (fun _ => rfl) (by kernel_rfl) (res := res62) (by kernel_rfl) (fun _ => rfl) (fun _ => Nat.le_of_ble_eq_true rfl) (by
    intro R
    rw [show loopsOf (codeOf Tryz.f62) = [lcode 3 (codeOf Tryz.f62)] from by kernel_rfl]
    exact (allM_cons (loop_ok2 (e := le62_3 (G62_3 FUEL)) rfl rfl lok62_3) allM_nil)) (fun R x k => q62 (G62_3 FUEL) F62 R x k)
abbrev FT26 : Type 1 := (R : Type) → (List Int) → (((List Int) × Unit) → Option R) → Option R
def en26 (F : FT26) : Ent := ⟨26, [(false, (.sl (.int .u64)))], [(false, (.pair (.sl (.int .u64)) .unit))], fun R x k => F R x.1 (fun y1 => k (y1, ()) ())⟩
def res26 : List (ResultVar × TypeId × Bool) := [(.cell 2 49, 49, false)]
abbrev LT26_3 : Type 1 := (R : Type) → (List Int) → Int → ((List Int) × Unit) → (List Int) → Unit → (((List Int) × Unit) → (List Int) → Unit → Option R) → Option R
def le26_3 (L : LT26_3) : LEnt := ⟨3, [.val 0 (.sl (.int .u64)), .fix 2 (.ptr 0 [] (.pair (.sl (.int .u64)) .unit)), .fix 3 (.mptr 2 0 (.pair (.sl (.int .u64)) .unit)), .val 4 (.int .i64), .var 0 (.pair (.sl (.int .u64)) .unit) false, .row 1 (.int .u64) false, .mix 2 [((.sl (.int .u64)), some 1)]], 3, [(.exit 0, [.fix 2 (.ptr 0 [] (.pair (.sl (.int .u64)) .unit)), .fix 3 (.mptr 2 0 (.pair (.sl (.int .u64)) .unit)), .var 0 (.pair (.sl (.int .u64)) .unit) false, .row 1 (.int .u64) false, .mix 2 [((.sl (.int .u64)), some 1)]])], fun R x ke => L R x.1 x.2.1 x.2.2.1 x.2.2.2.1 x.2.2.2.2.1 (fun y1 y2 y3 => ke.1 (y1, y2, y3, ()))⟩
noncomputable def e26 (F62 : FT62) (F63 : FT63) (L3 : LT26_3) (R : Type) : Env R := ⟨TT, EQT, 0, 27, ownOf [(1, 0)], callOf [en62 F62, en63 F63] R, loopOf [le26_3 L3] R, [], inlOf []⟩
def p26_3 (F62 : FT62) (F63 : FT63) : (R : Type) → (List Int) → Int → ((List Int) × Unit) → (List Int) → Unit → ((List Int) → Int → ((List Int) × Unit) → (List Int) → Unit → Option R) → (((List Int) × Unit) → (List Int) → Unit → Option R) → Option R := fun R x1 x2 x3 x4 x5 kc k0 =>
let v6 := (List.length x1 : Int);
let v7 := (decide (x2 < v6));
(match v7 with
| true => let v8 := (IntKind.i64.wrap (x2 + (1 : Int)));
let v9 := (IntKind.i64.wrap (x2 + (1 : Int)));
F63 R v9 fun y10 =>
let v11 := (IntKind.i64.wrap (v8 - y10));
let v12 := (IntKind.i64.wrap (x2 + (1 : Int)));
F62 R x1 v11 v12 fun y13 =>
let v14 : (List Int) := ([y13] : (List Int));
(match (decide (List.length x4 + List.length v14 ≤ 17592186044416)) with
| true => let v15 : (List Int) := (x4 ++ v14);
let v16 := (IntKind.i64.wrap (x2 + (1 : Int)));
kc x1 v16 x3 v15 ()
| false => none)
| false => k0 x3 x4 ())
theorem q26_3 (F62 : FT62) (F63 : FT63) (L3 : LT26_3) (R : Type) (x : HT (le26_3 L3).H) (kc : HT (le26_3 L3).H → Option R) (ke : KT R (le26_3 L3).exs) :
  exec (e26 F62 F63 L3 R) (lcode 3 (codeOf Tryz.f26)) (stOf (le26_3 L3).H x 3) (roundK (le26_3 L3).H (le26_3 L3).exs kc ke) =
    p26_3 F62 F63 R x.1 x.2.1 x.2.2.1 x.2.2.2.1 x.2.2.2.2.1 (fun x1 x2 x3 x4 x5 => kc (x1, x2, x3, x4, x5, ())) (fun y1 y2 y3 => ke.1 (y1, y2, y3, ())) := by kernel_rfl
noncomputable def G26_3 : Nat → LT26_3
  | 0 => fun _ _ _ _ _ _ _ => none
  | n + 1 => fun R x1 x2 x3 x4 x5 k0 => p26_3 F62 F63 R x1 x2 x3 x4 x5 (fun x1 x2 x3 x4 x5 => G26_3 n R x1 x2 x3 x4 x5 k0) k0
def p26 (L3 : LT26_3) : FT26 := fun R a0 k =>
L3 R a0 (0 : Int) (([] : (List Int)), ()) ([] : (List Int)) () (fun x1 x2 x3 =>
k (x2, ()))
theorem q26 (F62 : FT62) (F63 : FT63) (L3 : LT26_3) (F : FT26) (R : Type) (x : AT (en26 F).ins) (k : RT (en26 F).outs → PT (en26 F).ins → Option R) :
  xfun (e26 F62 F63 L3 R) (codeOf Tryz.f26) res26 (avs (en26 F).ins x) (finK (en26 F).outs (en26 F).ins k) = p26 L3 R x.1 (fun y1 => k (y1, ()) ()) := by kernel_rfl
noncomputable def F26 : FT26 := p26 (G26_3 FUEL)
theorem env26 (R : Type) : EnvOK Tryz.prog (e26 F62 F63 (G26_3 FUEL) R) := ⟨tabOK, eqOK, callOf_ok (allE_cons ok62 (allE_cons ok63 allE_nil)), noIns, inlOK_nil⟩
noncomputable def T26_3 : (R : Type) → HT (le26_3 (G26_3 FUEL)).H → (HT (le26_3 (G26_3 FUEL)).H → Option R) → KT R (le26_3 (G26_3 FUEL)).exs → Option R := fun R x kc ke => p26_3 F62 F63 R x.1 x.2.1 x.2.2.1 x.2.2.2.1 x.2.2.2.2.1 (fun x1 x2 x3 x4 x5 => kc (x1, x2, x3, x4, x5, ())) (fun y1 y2 y3 => ke.1 (y1, y2, y3, ()))
theorem it26_3 : ∀ (n : Nat) (R : Type) (x : HT (le26_3 (G26_3 FUEL)).H) (ke : KT R (le26_3 (G26_3 FUEL)).exs), iter T26_3 n R x ke = G26_3 n R x.1 x.2.1 x.2.2.1 x.2.2.2.1 x.2.2.2.2.1 (fun y1 y2 y3 => ke.1 (y1, y2, y3, ())) := by
  intro n
  induction n with
  | zero => intro R x ke; rfl
  | succ n ih =>
    intro R x ke
    show T26_3 R x (fun x' => iter T26_3 n R x' ke) ke = _
    rw [show (fun x' => iter T26_3 n R x' ke) = fun x => G26_3 n R x.1 x.2.1 x.2.2.1 x.2.2.2.1 x.2.2.2.2.1 (fun y1 y2 y3 => ke.1 (y1, y2, y3, ())) from funext fun x' => ih R x' ke]
    rfl
theorem lok26_3 : (le26_3 (G26_3 FUEL)).OK Tryz.prog 0 27 (lcode 3 (codeOf Tryz.f26)) := fun R x ke r h =>
  iter_sound (fun R => e26 F62 F63 (G26_3 FUEL) R) 0 27 (fun _ => rfl) (fun _ => rfl) (fun R => env26 R) mixed (by
    intro R
    rw [show loopsOf (lcode 3 (codeOf Tryz.f26)) = [] from by kernel_rfl]
    exact allM_nil) (T := T26_3) (fun R x kc ke => q26_3 F62 F63 (G26_3 FUEL) R x kc ke) FUEL R x ke r ((it26_3 FUEL R x ke).trans h)
theorem ok26 : (en26 F26).OK Tryz.prog :=
  ent_ok (Ef := fun R => e26 F62 F63 (G26_3 FUEL) R) (fun R => env26 R) mixed Tryz.func26 (body := codeOf Tryz.f26) (by kernel_rfl) (by kernel_rfl) (np := 0) (nt := 27) (fun _ => rfl) (fun _ => rfl) (by kernel_rfl) (res := res26) (by kernel_rfl) (fun _ => rfl) (fun _ => Nat.le_of_ble_eq_true rfl) (by
    intro R
    rw [show loopsOf (codeOf Tryz.f26) = [lcode 3 (codeOf Tryz.f26)] from by kernel_rfl]
    exact (allM_cons (loop_ok2 (e := le26_3 (G26_3 FUEL)) rfl rfl lok26_3) allM_nil)) (fun R x k => q26 F62 F63 (G26_3 FUEL) F26 R x k)
abbrev FT126 : Type 1 := (R : Type) → Tq7 → (Int → Bool → Option R) → Option R
def en126 (F : FT126) : Ent := ⟨126, [(false, Kq7)], [(false, (.int .u64)), (false, .bool)], fun R x k => F R x.1 (fun y1 y2 => k (y1, y2, ()) ())⟩
def res126 : List (ResultVar × TypeId × Bool) := [(.tmp 2, 22, false), (.tmp 3, 4, false)]
noncomputable def e126 (R : Type) : Env R := ⟨TT, EQT, 0, 20, ownOf [], callOf [] R, loopOf [] R, [], inlOf []⟩
def p126 : FT126 := fun R a0 k =>
let v1 := (a0.1 == (1 : Int));
(match v1 with
| true => let v2 := (List.length a0.2.1 : Int);
let v3 := (IntKind.u64.wrap v2);
let v4 := (IntKind.u64.wrap (v3 * (8 : Int)));
let v5 := (decide (a0.2.2.1 ≤ v4));
k a0.2.2.1 v5
| false => let v6 := (a0.1 == (2 : Int));
(match v6 with
| true => k (4611686018427387904 : Int) true
| false => k (0 : Int) false))
theorem q126 (F : FT126) (R : Type) (x : AT (en126 F).ins) (k : RT (en126 F).outs → PT (en126 F).ins → Option R) :
  xfun (e126 R) (codeOf Tryz.f126) res126 (avs (en126 F).ins x) (finK (en126 F).outs (en126 F).ins k) = p126 R x.1 (fun y1 y2 => k (y1, y2, ()) ()) := by kernel_rfl
noncomputable def F126 : FT126 := p126
theorem env126 (R : Type) : EnvOK Tryz.prog (e126 R) := ⟨tabOK, eqOK, callOf_ok allE_nil, noIns, inlOK_nil⟩
theorem ok126 : (en126 F126).OK Tryz.prog :=
  ent_ok (Ef := fun R => e126 R) (fun R => env126 R) mixed Tryz.func126 (body := codeOf Tryz.f126) (by kernel_rfl) (by kernel_rfl) (np := 0) (nt := 20) (fun _ => rfl) (fun _ => rfl) (by kernel_rfl) (res := res126) (by kernel_rfl) (fun _ => rfl) (fun _ => Nat.le_of_ble_eq_true rfl) (by
    intro R
    rw [show loopsOf (codeOf Tryz.f126) = [] from by kernel_rfl]
    exact allM_nil) (fun R x k => q126 F126 R x k)
abbrev FT95 : Type 1 := (R : Type) → Tq7 → (Bool → Option R) → Option R
def en95 (F : FT95) : Ent := ⟨95, [(false, Kq7)], [(false, .bool)], fun R x k => F R x.1 (fun y1 => k (y1, ()) ())⟩
def res95 : List (ResultVar × TypeId × Bool) := [(.tmp 2, 4, false)]
noncomputable def e95 (F126 : FT126) (R : Type) : Env R := ⟨TT, EQT, 0, 17, ownOf [], callOf [en126 F126] R, loopOf [] R, [], inlOf []⟩
def p95 (F126 : FT126) : FT95 := fun R a0 k =>
F126 R a0 fun y1 y2 =>
(match y2 with
| true => let v3 := (decide (a0.2.2.2.2.2.1 ≤ y1));
k v3
| false => k false)
theorem q95 (F126 : FT126) (F : FT95) (R : Type) (x : AT (en95 F).ins) (k : RT (en95 F).outs → PT (en95 F).ins → Option R) :
  xfun (e95 F126 R) (codeOf Tryz.f95) res95 (avs (en95 F).ins x) (finK (en95 F).outs (en95 F).ins k) = p95 F126 R x.1 (fun y1 => k (y1, ()) ()) := by kernel_rfl
noncomputable def F95 : FT95 := p95 F126
theorem env95 (R : Type) : EnvOK Tryz.prog (e95 F126 R) := ⟨tabOK, eqOK, callOf_ok (allE_cons ok126 allE_nil), noIns, inlOK_nil⟩
theorem ok95 : (en95 F95).OK Tryz.prog :=
  ent_ok (Ef := fun R => e95 F126 R) (fun R => env95 R) mixed Tryz.func95 (body := codeOf Tryz.f95) (by kernel_rfl) (by kernel_rfl) (np := 0) (nt := 17) (fun _ => rfl) (fun _ => rfl) (by kernel_rfl) (res := res95) (by kernel_rfl) (fun _ => rfl) (fun _ => Nat.le_of_ble_eq_true rfl) (by
    intro R
    rw [show loopsOf (codeOf Tryz.f95) = [] from by kernel_rfl]
    exact allM_nil) (fun R x k => q95 F126 F95 R x k)
abbrev FT53 : Type 1 := (R : Type) → Int → Tq7 → Int → (Bool → Option R) → Option R
def en53 (F : FT53) : Ent := ⟨53, [(false, (.int .i64)), (false, Kq7), (false, (.int .i64))], [(false, .bool)], fun R x k => F R x.1 x.2.1 x.2.2.1 (fun y1 => k (y1, ()) ())⟩
def res53 : List (ResultVar × TypeId × Bool) := [(.tmp 6, 4, false)]
noncomputable def e53 (F95 : FT95) (R : Type) : Env R := ⟨TT, EQT, 0, 25, ownOf [], callOf [en95 F95] R, loopOf [] R, [], inlOf []⟩
def p53 (F95 : FT95) : FT53 := fun R a0 a1 a2 k =>
let v1 := (decide (a0 ≥ (0 : Int)));
(match v1 with
| true => let v2 := (decide (a0 ≤ (256 : Int)));
(match v2 with
| true => F95 R a1 fun y3 =>
(match y3 with
| true => let v4 := (decide (a2 > (0 : Int)));
(match v4 with
| true => let v5 := (decide (a2 ≤ (64 : Int)));
k v5
| false => k false)
| false => k false)
| false => k false)
| false => k false)
theorem q53 (F95 : FT95) (F : FT53) (R : Type) (x : AT (en53 F).ins) (k : RT (en53 F).outs → PT (en53 F).ins → Option R) :
  xfun (e53 F95 R) (codeOf Tryz.f53) res53 (avs (en53 F).ins x) (finK (en53 F).outs (en53 F).ins k) = p53 F95 R x.1 x.2.1 x.2.2.1 (fun y1 => k (y1, ()) ()) := by kernel_rfl
noncomputable def F53 : FT53 := p53 F95
theorem env53 (R : Type) : EnvOK Tryz.prog (e53 F95 R) := ⟨tabOK, eqOK, callOf_ok (allE_cons ok95 allE_nil), noIns, inlOK_nil⟩
theorem ok53 : (en53 F53).OK Tryz.prog :=
  ent_ok (Ef := fun R => e53 F95 R) (fun R => env53 R) mixed Tryz.func53 (body := codeOf Tryz.f53) (by kernel_rfl) (by kernel_rfl) (np := 0) (nt := 25) (fun _ => rfl) (fun _ => rfl) (by kernel_rfl) (res := res53) (by kernel_rfl) (fun _ => rfl) (fun _ => Nat.le_of_ble_eq_true rfl) (by
    intro R
    rw [show loopsOf (codeOf Tryz.f53) = [] from by kernel_rfl]
    exact allM_nil) (fun R x k => q53 F95 F53 R x k)
abbrev FT92 : Type 1 := (R : Type) → (List Int) → ((List Int) → Option R) → Option R
def en92 (F : FT92) : Ent := ⟨92, [(false, (.sl (.int .u64)))], [(true, (.int .u64))], fun R x k => F R x.1 (fun y1 => k (y1, ()) ())⟩
def e92 : Env (RT [(true, (.int .u64))]) := ⟨TT, EQT, 0, 8, ownOf [(2, 0), (3, 0)], fun _ _ _ => none, fun _ _ _ => none, [], inlOf []⟩
def F92 : FT92 := fun R a0 k => match decide (List.length ([] : (List Int)) + List.length a0 ≤ 17592186044416) with | true => k a0 | false => none
theorem ok92 : (en92 F92).OK Tryz.prog :=
  clone_ok (e := (.int .u64)) e92 ⟨tabOK, eqOK, (fun f b K r h => by cases h), noIns, inlOK_nil⟩ mixed Tryz.func92 (body := codeOf Tryz.f92) (by kernel_rfl) (by kernel_rfl) (by kernel_rfl) (res := [(.tmp 2, 37, true)]) (by kernel_rfl) rfl (by decide) (by kernel_rfl) (lim := 17592186044416) (by kernel_rfl) (fun l => by kernel_rfl)
abbrev FT93 : Type 1 := (R : Type) → Int → (Int → Option R) → Option R
def en93 (F : FT93) : Ent := ⟨93, [(false, (.int .i64))], [(false, (.int .i64))], fun R x k => F R x.1 (fun y1 => k (y1, ()) ())⟩
def res93 : List (ResultVar × TypeId × Bool) := [(.tmp 2, 3, false)]
noncomputable def e93 (R : Type) : Env R := ⟨TT, EQT, 0, 7, ownOf [], callOf [] R, loopOf [] R, [], inlOf []⟩
def p93 : FT93 := fun R a0 k =>
let v1 := (IntKind.i64.wrap (0 - a0));
let v2 := (iand .i64 a0 v1);
k v2
theorem q93 (F : FT93) (R : Type) (x : AT (en93 F).ins) (k : RT (en93 F).outs → PT (en93 F).ins → Option R) :
  xfun (e93 R) (codeOf Tryz.f93) res93 (avs (en93 F).ins x) (finK (en93 F).outs (en93 F).ins k) = p93 R x.1 (fun y1 => k (y1, ()) ()) := by kernel_rfl
noncomputable def F93 : FT93 := p93
theorem env93 (R : Type) : EnvOK Tryz.prog (e93 R) := ⟨tabOK, eqOK, callOf_ok allE_nil, noIns, inlOK_nil⟩
theorem ok93 : (en93 F93).OK Tryz.prog :=
  ent_ok (Ef := fun R => e93 R) (fun R => env93 R) mixed Tryz.func93 (body := codeOf Tryz.f93) (by kernel_rfl) (by kernel_rfl) (np := 0) (nt := 7) (fun _ => rfl) (fun _ => rfl) (by kernel_rfl) (res := res93) (by kernel_rfl) (fun _ => rfl) (fun _ => Nat.le_of_ble_eq_true rfl) (by
    intro R
    rw [show loopsOf (codeOf Tryz.f93) = [] from by kernel_rfl]
    exact allM_nil) (fun R x k => q93 F93 R x k)
abbrev FT55 : Type 1 := (R : Type) → ((List Int) × Unit) → ((List Int) → Option R) → Option R
def en55 (F : FT55) : Ent := ⟨55, [(false, (.pair (.sl (.int .u64)) .unit))], [(false, (.sl (.int .u64)))], fun R x k => F R x.1 (fun y1 => k (y1, ()) ())⟩
def res55 : List (ResultVar × TypeId × Bool) := [(.tmp 2, 37, false)]
abbrev LT55_3 : Type 1 := (R : Type) → Int → (List Int) → ((List Int) → Option R) → Option R
def le55_3 (L : LT55_3) : LEnt := ⟨3, [.fix 3 (.own 1 0), .val 4 (.int .i64), .row 1 (.int .u64) false], 2, [(.exit 0, [.fix 3 (.own 1 0), .row 1 (.int .u64) false])], fun R x ke => L R x.1 x.2.1 (fun y1 => ke.1 (y1, ()))⟩
noncomputable def e55 (F92 : FT92) (F93 : FT93) (L3 : LT55_3) (R : Type) : Env R := ⟨TT, EQT, 0, 36, ownOf [], callOf [en92 F92, en93 F93] R, loopOf [le55_3 L3] R, [], inlOf []⟩
def p55_3 (F93 : FT93) : (R : Type) → Int → (List Int) → (Int → (List Int) → Option R) → ((List Int) → Option R) → Option R := fun R x1 x2 kc k0 =>
let v3 := (decide (x1 > (0 : Int)));
(match v3 with
| true => F93 R x1 fun y4 =>
let v5 := (IntKind.i64.wrap (x1 + y4));
let v6 := (List.length x2 : Int);
let v7 := (decide (v5 ≤ v6));
(match v7 with
| true => let v8 := (IntKind.i64.wrap (v5 - (1 : Int)));
(match (bnd v8 (List.length x2 : Int)) with
| true => let v9 := (List.getD x2 (Int.toNat v8) (0 : Int));
let v10 := (IntKind.i64.wrap (x1 - (1 : Int)));
(match (bnd v10 (List.length x2 : Int)) with
| true => let v11 := (List.getD x2 (Int.toNat v10) (0 : Int));
let v12 := (IntKind.u64.wrap (v9 - v11));
(match (bnd v8 (List.length x2 : Int)) with
| true => let v13 : (List Int) := (List.set x2 (Int.toNat v8) v12);
let v14 := (IntKind.i64.wrap (x1 - (1 : Int)));
kc v14 v13
| false => none)
| false => none)
| false => none)
| false => let v15 := (IntKind.i64.wrap (x1 - (1 : Int)));
kc v15 x2)
| false => k0 x2)
theorem q55_3 (F92 : FT92) (F93 : FT93) (L3 : LT55_3) (R : Type) (x : HT (le55_3 L3).H) (kc : HT (le55_3 L3).H → Option R) (ke : KT R (le55_3 L3).exs) :
  exec (e55 F92 F93 L3 R) (lcode 3 (codeOf Tryz.f55)) (stOf (le55_3 L3).H x 2) (roundK (le55_3 L3).H (le55_3 L3).exs kc ke) =
    p55_3 F93 R x.1 x.2.1 (fun x1 x2 => kc (x1, x2, ())) (fun y1 => ke.1 (y1, ())) := by kernel_rfl
noncomputable def G55_3 : Nat → LT55_3
  | 0 => fun _ _ _ _ => none
  | n + 1 => fun R x1 x2 k0 => p55_3 F93 R x1 x2 (fun x1 x2 => G55_3 n R x1 x2 k0) k0
def p55 (F92 : FT92) (L3 : LT55_3) : FT55 := fun R a0 k =>
F92 R a0.1 fun y1 =>
let v2 := (List.length y1 : Int);
L3 R v2 y1 (fun x3 =>
k x3)
theorem q55 (F92 : FT92) (F93 : FT93) (L3 : LT55_3) (F : FT55) (R : Type) (x : AT (en55 F).ins) (k : RT (en55 F).outs → PT (en55 F).ins → Option R) :
  xfun (e55 F92 F93 L3 R) (codeOf Tryz.f55) res55 (avs (en55 F).ins x) (finK (en55 F).outs (en55 F).ins k) = p55 F92 L3 R x.1 (fun y1 => k (y1, ()) ()) := by kernel_rfl
noncomputable def F55 : FT55 := p55 F92 (G55_3 FUEL)
theorem env55 (R : Type) : EnvOK Tryz.prog (e55 F92 F93 (G55_3 FUEL) R) := ⟨tabOK, eqOK, callOf_ok (allE_cons ok92 (allE_cons ok93 allE_nil)), noIns, inlOK_nil⟩
noncomputable def T55_3 : (R : Type) → HT (le55_3 (G55_3 FUEL)).H → (HT (le55_3 (G55_3 FUEL)).H → Option R) → KT R (le55_3 (G55_3 FUEL)).exs → Option R := fun R x kc ke => p55_3 F93 R x.1 x.2.1 (fun x1 x2 => kc (x1, x2, ())) (fun y1 => ke.1 (y1, ()))
theorem it55_3 : ∀ (n : Nat) (R : Type) (x : HT (le55_3 (G55_3 FUEL)).H) (ke : KT R (le55_3 (G55_3 FUEL)).exs), iter T55_3 n R x ke = G55_3 n R x.1 x.2.1 (fun y1 => ke.1 (y1, ())) := by
  intro n
  induction n with
  | zero => intro R x ke; rfl
  | succ n ih =>
    intro R x ke
    show T55_3 R x (fun x' => iter T55_3 n R x' ke) ke = _
    rw [show (fun x' => iter T55_3 n R x' ke) = fun x => G55_3 n R x.1 x.2.1 (fun y1 => ke.1 (y1, ())) from funext fun x' => ih R x' ke]
    rfl
theorem lok55_3 : (le55_3 (G55_3 FUEL)).OK Tryz.prog 0 36 (lcode 3 (codeOf Tryz.f55)) := fun R x ke r h =>
  iter_sound (fun R => e55 F92 F93 (G55_3 FUEL) R) 0 36 (fun _ => rfl) (fun _ => rfl) (fun R => env55 R) mixed (by
    intro R
    rw [show loopsOf (lcode 3 (codeOf Tryz.f55)) = [] from by kernel_rfl]
    exact allM_nil) (T := T55_3) (fun R x kc ke => q55_3 F92 F93 (G55_3 FUEL) R x kc ke) FUEL R x ke r ((it55_3 FUEL R x ke).trans h)
theorem ok55 : (en55 F55).OK Tryz.prog :=
  ent_ok (Ef := fun R => e55 F92 F93 (G55_3 FUEL) R) (fun R => env55 R) mixed Tryz.func55 (body := codeOf Tryz.f55) (by kernel_rfl) (by kernel_rfl) (np := 0) (nt := 36) (fun _ => rfl) (fun _ => rfl) (by kernel_rfl) (res := res55) (by kernel_rfl) (fun _ => rfl) (fun _ => Nat.le_of_ble_eq_true rfl) (by
    intro R
    rw [show loopsOf (codeOf Tryz.f55) = [lcode 3 (codeOf Tryz.f55)] from by kernel_rfl]
    exact (allM_cons (loop_ok2 (e := le55_3 (G55_3 FUEL)) rfl rfl lok55_3) allM_nil)) (fun R x k => q55 F92 F93 (G55_3 FUEL) F55 R x k)
abbrev FT54 : Type 1 := (R : Type) → (List Int) → (Int → Option R) → Option R
def en54 (F : FT54) : Ent := ⟨54, [(false, (.sl (.int .u64)))], [(false, (.int .i64))], fun R x k => F R x.1 (fun y1 => k (y1, ()) ())⟩
def res54 : List (ResultVar × TypeId × Bool) := [(.tmp 2, 3, false)]
abbrev LT54_2 : Type 1 := (R : Type) → Int → (List Int) → Int → Int → (Int → Option R) → Option R
def le54_2 (L : LT54_2) : LEnt := ⟨2, [.val 2 (.int .i64), .val 5 (.sl (.int .u64)), .val 6 (.int .i64), .val 7 (.int .i64)], 0, [(.exit 0, [.val 2 (.int .i64)])], fun R x ke => L R x.1 x.2.1 x.2.2.1 x.2.2.2.1 (fun y1 => ke.1 (y1, ()))⟩
noncomputable def e54 (L2 : LT54_2) (R : Type) : Env R := ⟨TT, EQT, 0, 17, ownOf [], callOf [] R, loopOf [le54_2 L2] R, [], inlOf []⟩
def p54_2 : (R : Type) → Int → (List Int) → Int → Int → (Int → (List Int) → Int → Int → Option R) → (Int → Option R) → Option R := fun R x1 x2 x3 x4 kc k0 =>
let v5 := (decide (x4 < x3));
(match v5 with
| true => (match (bnd x4 (List.length x2 : Int)) with
| true => let v6 := (List.getD x2 (Int.toNat x4) (0 : Int));
let v7 := (decide (v6 > (0 : Int)));
(match v7 with
| true => let v8 := (IntKind.i64.wrap (x1 + (1 : Int)));
let v9 := (IntKind.i64.wrap (x4 + (1 : Int)));
kc v8 x2 x3 v9
| false => let v10 := (IntKind.i64.wrap (x4 + (1 : Int)));
kc x1 x2 x3 v10)
| false => none)
| false => k0 x1)
theorem q54_2 (L2 : LT54_2) (R : Type) (x : HT (le54_2 L2).H) (kc : HT (le54_2 L2).H → Option R) (ke : KT R (le54_2 L2).exs) :
  exec (e54 L2 R) (lcode 2 (codeOf Tryz.f54)) (stOf (le54_2 L2).H x 0) (roundK (le54_2 L2).H (le54_2 L2).exs kc ke) =
    p54_2 R x.1 x.2.1 x.2.2.1 x.2.2.2.1 (fun x1 x2 x3 x4 => kc (x1, x2, x3, x4, ())) (fun y1 => ke.1 (y1, ())) := by kernel_rfl
noncomputable def G54_2 : Nat → LT54_2
  | 0 => fun _ _ _ _ _ _ => none
  | n + 1 => fun R x1 x2 x3 x4 k0 => p54_2 R x1 x2 x3 x4 (fun x1 x2 x3 x4 => G54_2 n R x1 x2 x3 x4 k0) k0
def p54 (L2 : LT54_2) : FT54 := fun R a0 k =>
let v1 := (List.length a0 : Int);
L2 R (0 : Int) a0 v1 (0 : Int) (fun x2 =>
k x2)
theorem q54 (L2 : LT54_2) (F : FT54) (R : Type) (x : AT (en54 F).ins) (k : RT (en54 F).outs → PT (en54 F).ins → Option R) :
  xfun (e54 L2 R) (codeOf Tryz.f54) res54 (avs (en54 F).ins x) (finK (en54 F).outs (en54 F).ins k) = p54 L2 R x.1 (fun y1 => k (y1, ()) ()) := by kernel_rfl
noncomputable def F54 : FT54 := p54 (G54_2 FUEL)
theorem env54 (R : Type) : EnvOK Tryz.prog (e54 (G54_2 FUEL) R) := ⟨tabOK, eqOK, callOf_ok allE_nil, noIns, inlOK_nil⟩
noncomputable def T54_2 : (R : Type) → HT (le54_2 (G54_2 FUEL)).H → (HT (le54_2 (G54_2 FUEL)).H → Option R) → KT R (le54_2 (G54_2 FUEL)).exs → Option R := fun R x kc ke => p54_2 R x.1 x.2.1 x.2.2.1 x.2.2.2.1 (fun x1 x2 x3 x4 => kc (x1, x2, x3, x4, ())) (fun y1 => ke.1 (y1, ()))
theorem it54_2 : ∀ (n : Nat) (R : Type) (x : HT (le54_2 (G54_2 FUEL)).H) (ke : KT R (le54_2 (G54_2 FUEL)).exs), iter T54_2 n R x ke = G54_2 n R x.1 x.2.1 x.2.2.1 x.2.2.2.1 (fun y1 => ke.1 (y1, ())) := by
  intro n
  induction n with
  | zero => intro R x ke; rfl
  | succ n ih =>
    intro R x ke
    show T54_2 R x (fun x' => iter T54_2 n R x' ke) ke = _
    rw [show (fun x' => iter T54_2 n R x' ke) = fun x => G54_2 n R x.1 x.2.1 x.2.2.1 x.2.2.2.1 (fun y1 => ke.1 (y1, ())) from funext fun x' => ih R x' ke]
    rfl
theorem lok54_2 : (le54_2 (G54_2 FUEL)).OK Tryz.prog 0 17 (lcode 2 (codeOf Tryz.f54)) := fun R x ke r h =>
  iter_sound (fun R => e54 (G54_2 FUEL) R) 0 17 (fun _ => rfl) (fun _ => rfl) (fun R => env54 R) mixed (by
    intro R
    rw [show loopsOf (lcode 2 (codeOf Tryz.f54)) = [] from by kernel_rfl]
    exact allM_nil) (T := T54_2) (fun R x kc ke => q54_2 (G54_2 FUEL) R x kc ke) FUEL R x ke r ((it54_2 FUEL R x ke).trans h)
theorem ok54 : (en54 F54).OK Tryz.prog :=
  ent_ok (Ef := fun R => e54 (G54_2 FUEL) R) (fun R => env54 R) mixed Tryz.func54 (body := codeOf Tryz.f54) (by kernel_rfl) (by kernel_rfl) (np := 0) (nt := 17) (fun _ => rfl) (fun _ => rfl) (by kernel_rfl) (res := res54) (by kernel_rfl) (fun _ => rfl) (fun _ => Nat.le_of_ble_eq_true rfl) (by
    intro R
    rw [show loopsOf (codeOf Tryz.f54) = [lcode 2 (codeOf Tryz.f54)] from by kernel_rfl]
    exact (allM_cons (loop_ok2 (e := le54_2 (G54_2 FUEL)) rfl rfl lok54_2) allM_nil)) (fun R x k => q54 (G54_2 FUEL) F54 R x k)
abbrev FT128 : Type 1 := (R : Type) → ((List Int) × Unit) → (Int → Option R) → Option R
def en128 (F : FT128) : Ent := ⟨128, [(false, (.pair (.sl (.int .u64)) .unit))], [(false, (.int .i64))], fun R x k => F R x.1 (fun y1 => k (y1, ()) ())⟩
def res128 : List (ResultVar × TypeId × Bool) := [(.tmp 2, 3, false)]
noncomputable def e128 (R : Type) : Env R := ⟨TT, EQT, 0, 6, ownOf [], callOf [] R, loopOf [] R, [], inlOf []⟩
def p128 : FT128 := fun R a0 k =>
let v1 := (List.length a0.1 : Int);
k v1
theorem q128 (F : FT128) (R : Type) (x : AT (en128 F).ins) (k : RT (en128 F).outs → PT (en128 F).ins → Option R) :
  xfun (e128 R) (codeOf Tryz.f128) res128 (avs (en128 F).ins x) (finK (en128 F).outs (en128 F).ins k) = p128 R x.1 (fun y1 => k (y1, ()) ()) := by kernel_rfl
noncomputable def F128 : FT128 := p128
theorem env128 (R : Type) : EnvOK Tryz.prog (e128 R) := ⟨tabOK, eqOK, callOf_ok allE_nil, noIns, inlOK_nil⟩
theorem ok128 : (en128 F128).OK Tryz.prog :=
  ent_ok (Ef := fun R => e128 R) (fun R => env128 R) mixed Tryz.func128 (body := codeOf Tryz.f128) (by kernel_rfl) (by kernel_rfl) (np := 0) (nt := 6) (fun _ => rfl) (fun _ => rfl) (by kernel_rfl) (res := res128) (by kernel_rfl) (fun _ => rfl) (fun _ => Nat.le_of_ble_eq_true rfl) (by
    intro R
    rw [show loopsOf (codeOf Tryz.f128) = [] from by kernel_rfl]
    exact allM_nil) (fun R x k => q128 F128 R x k)
abbrev FT127 : Type 1 := (R : Type) → ((List Int) × Unit) → Int → (Int → Option R) → Option R
def en127 (F : FT127) : Ent := ⟨127, [(false, (.pair (.sl (.int .u64)) .unit)), (false, (.int .i64))], [(false, (.int .u64))], fun R x k => F R x.1 x.2.1 (fun y1 => k (y1, ()) ())⟩
def res127 : List (ResultVar × TypeId × Bool) := [(.tmp 4, 22, false)]
abbrev LT127_1 : Type 1 := (R : Type) → Int → Int → ((List Int) × Unit) → (Int → Option R) → Option R
def le127_1 (L : LT127_1) : LEnt := ⟨1, [.val 1 (.int .i64), .fix 2 (.ptr 0 [] (.pair (.sl (.int .u64)) .unit)), .val 4 (.int .u64), .var 0 (.pair (.sl (.int .u64)) .unit) false], 1, [(.exit 0, [.val 4 (.int .u64)])], fun R x ke => L R x.1 x.2.1 x.2.2.1 (fun y1 => ke.1 (y1, ()))⟩
noncomputable def e127 (F93 : FT93) (L1 : LT127_1) (R : Type) : Env R := ⟨TT, EQT, 0, 20, ownOf [], callOf [en93 F93] R, loopOf [le127_1 L1] R, [], inlOf []⟩
def p127_1 (F93 : FT93) : (R : Type) → Int → Int → ((List Int) × Unit) → (Int → Int → ((List Int) × Unit) → Option R) → (Int → Option R) → Option R := fun R x1 x2 x3 kc k0 =>
let v4 := (decide (x1 > (0 : Int)));
(match v4 with
| true => let v5 := (IntKind.i64.wrap (x1 - (1 : Int)));
(match (bnd v5 (List.length x3.1 : Int)) with
| true => let v6 := (List.getD x3.1 (Int.toNat v5) (0 : Int));
let v7 := (IntKind.u64.wrap (x2 + v6));
F93 R x1 fun y8 =>
let v9 := (IntKind.i64.wrap (x1 - y8));
kc v9 v7 x3
| false => none)
| false => k0 x2)
theorem q127_1 (F93 : FT93) (L1 : LT127_1) (R : Type) (x : HT (le127_1 L1).H) (kc : HT (le127_1 L1).H → Option R) (ke : KT R (le127_1 L1).exs) :
  exec (e127 F93 L1 R) (lcode 1 (codeOf Tryz.f127)) (stOf (le127_1 L1).H x 1) (roundK (le127_1 L1).H (le127_1 L1).exs kc ke) =
    p127_1 F93 R x.1 x.2.1 x.2.2.1 (fun x1 x2 x3 => kc (x1, x2, x3, ())) (fun y1 => ke.1 (y1, ())) := by kernel_rfl
noncomputable def G127_1 : Nat → LT127_1
  | 0 => fun _ _ _ _ _ => none
  | n + 1 => fun R x1 x2 x3 k0 => p127_1 F93 R x1 x2 x3 (fun x1 x2 x3 => G127_1 n R x1 x2 x3 k0) k0
def p127 (L1 : LT127_1) : FT127 := fun R a0 a1 k =>
L1 R a1 (0 : Int) a0 (fun x1 =>
k x1)
theorem q127 (F93 : FT93) (L1 : LT127_1) (F : FT127) (R : Type) (x : AT (en127 F).ins) (k : RT (en127 F).outs → PT (en127 F).ins → Option R) :
  xfun (e127 F93 L1 R) (codeOf Tryz.f127) res127 (avs (en127 F).ins x) (finK (en127 F).outs (en127 F).ins k) = p127 L1 R x.1 x.2.1 (fun y1 => k (y1, ()) ()) := by kernel_rfl
noncomputable def F127 : FT127 := p127 (G127_1 FUEL)
theorem env127 (R : Type) : EnvOK Tryz.prog (e127 F93 (G127_1 FUEL) R) := ⟨tabOK, eqOK, callOf_ok (allE_cons ok93 allE_nil), noIns, inlOK_nil⟩
noncomputable def T127_1 : (R : Type) → HT (le127_1 (G127_1 FUEL)).H → (HT (le127_1 (G127_1 FUEL)).H → Option R) → KT R (le127_1 (G127_1 FUEL)).exs → Option R := fun R x kc ke => p127_1 F93 R x.1 x.2.1 x.2.2.1 (fun x1 x2 x3 => kc (x1, x2, x3, ())) (fun y1 => ke.1 (y1, ()))
theorem it127_1 : ∀ (n : Nat) (R : Type) (x : HT (le127_1 (G127_1 FUEL)).H) (ke : KT R (le127_1 (G127_1 FUEL)).exs), iter T127_1 n R x ke = G127_1 n R x.1 x.2.1 x.2.2.1 (fun y1 => ke.1 (y1, ())) := by
  intro n
  induction n with
  | zero => intro R x ke; rfl
  | succ n ih =>
    intro R x ke
    show T127_1 R x (fun x' => iter T127_1 n R x' ke) ke = _
    rw [show (fun x' => iter T127_1 n R x' ke) = fun x => G127_1 n R x.1 x.2.1 x.2.2.1 (fun y1 => ke.1 (y1, ())) from funext fun x' => ih R x' ke]
    rfl
theorem lok127_1 : (le127_1 (G127_1 FUEL)).OK Tryz.prog 0 20 (lcode 1 (codeOf Tryz.f127)) := fun R x ke r h =>
  iter_sound (fun R => e127 F93 (G127_1 FUEL) R) 0 20 (fun _ => rfl) (fun _ => rfl) (fun R => env127 R) mixed (by
    intro R
    rw [show loopsOf (lcode 1 (codeOf Tryz.f127)) = [] from by kernel_rfl]
    exact allM_nil) (T := T127_1) (fun R x kc ke => q127_1 F93 (G127_1 FUEL) R x kc ke) FUEL R x ke r ((it127_1 FUEL R x ke).trans h)
theorem ok127 : (en127 F127).OK Tryz.prog :=
  ent_ok (Ef := fun R => e127 F93 (G127_1 FUEL) R) (fun R => env127 R) mixed Tryz.func127 (body := codeOf Tryz.f127) (by kernel_rfl) (by kernel_rfl) (np := 0) (nt := 20) (fun _ => rfl) (fun _ => rfl) (by kernel_rfl) (res := res127) (by kernel_rfl) (fun _ => rfl) (fun _ => Nat.le_of_ble_eq_true rfl) (by
    intro R
    rw [show loopsOf (codeOf Tryz.f127) = [lcode 1 (codeOf Tryz.f127)] from by kernel_rfl]
    exact (allM_cons (loop_ok2 (e := le127_1 (G127_1 FUEL)) rfl rfl lok127_1) allM_nil)) (fun R x k => q127 F93 (G127_1 FUEL) F127 R x k)
abbrev FT96 : Type 1 := (R : Type) → ((List Int) × Unit) → (Int → Option R) → Option R
def en96 (F : FT96) : Ent := ⟨96, [(false, (.pair (.sl (.int .u64)) .unit))], [(false, (.int .u64))], fun R x k => F R x.1 (fun y1 => k (y1, ()) ())⟩
def res96 : List (ResultVar × TypeId × Bool) := [(.tmp 2, 22, false)]
noncomputable def e96 (F127 : FT127) (F128 : FT128) (R : Type) : Env R := ⟨TT, EQT, 0, 7, ownOf [], callOf [en127 F127, en128 F128] R, loopOf [] R, [], inlOf []⟩
def p96 (F127 : FT127) (F128 : FT128) : FT96 := fun R a0 k =>
F128 R a0 fun y1 =>
F127 R a0 y1 fun y2 =>
k y2
theorem q96 (F127 : FT127) (F128 : FT128) (F : FT96) (R : Type) (x : AT (en96 F).ins) (k : RT (en96 F).outs → PT (en96 F).ins → Option R) :
  xfun (e96 F127 F128 R) (codeOf Tryz.f96) res96 (avs (en96 F).ins x) (finK (en96 F).outs (en96 F).ins k) = p96 F127 F128 R x.1 (fun y1 => k (y1, ()) ()) := by kernel_rfl
noncomputable def F96 : FT96 := p96 F127 F128
theorem env96 (R : Type) : EnvOK Tryz.prog (e96 F127 F128 R) := ⟨tabOK, eqOK, callOf_ok (allE_cons ok127 (allE_cons ok128 allE_nil)), noIns, inlOK_nil⟩
theorem ok96 : (en96 F96).OK Tryz.prog :=
  ent_ok (Ef := fun R => e96 F127 F128 R) (fun R => env96 R) mixed Tryz.func96 (body := codeOf Tryz.f96) (by kernel_rfl) (by kernel_rfl) (np := 0) (nt := 7) (fun _ => rfl) (fun _ => rfl) (by kernel_rfl) (res := res96) (by kernel_rfl) (fun _ => rfl) (fun _ => Nat.le_of_ble_eq_true rfl) (by
    intro R
    rw [show loopsOf (codeOf Tryz.f96) = [] from by kernel_rfl]
    exact allM_nil) (fun R x k => q96 F127 F128 F96 R x k)
abbrev FT82 : Type 1 := (R : Type) → Tq7 → Int → Int → (Bool → Option R) → Option R
def en82 (F : FT82) : Ent := ⟨82, [(false, Kq7), (false, (.int .u64)), (false, (.int .i64))], [(false, .bool)], fun R x k => F R x.1 x.2.1 x.2.2.1 (fun y1 => k (y1, ()) ())⟩
def res82 : List (ResultVar × TypeId × Bool) := [(.tmp 6, 4, false)]
noncomputable def e82 (F95 : FT95) (R : Type) : Env R := ⟨TT, EQT, 0, 25, ownOf [], callOf [en95 F95] R, loopOf [] R, [], inlOf []⟩
def p82 (F95 : FT95) : FT82 := fun R a0 a1 a2 k =>
F95 R a0 fun y1 =>
(match y1 with
| true => let v2 := (decide (a1 > (0 : Int)));
(match v2 with
| true => let v3 := (decide (a1 < (9223372036854775808 : Int)));
(match v3 with
| true => let v4 := (decide (a2 > (0 : Int)));
(match v4 with
| true => let v5 := (decide (a2 ≤ (64 : Int)));
k v5
| false => k false)
| false => k false)
| false => k false)
| false => k false)
theorem q82 (F95 : FT95) (F : FT82) (R : Type) (x : AT (en82 F).ins) (k : RT (en82 F).outs → PT (en82 F).ins → Option R) :
  xfun (e82 F95 R) (codeOf Tryz.f82) res82 (avs (en82 F).ins x) (finK (en82 F).outs (en82 F).ins k) = p82 F95 R x.1 x.2.1 x.2.2.1 (fun y1 => k (y1, ()) ()) := by kernel_rfl
noncomputable def F82 : FT82 := p82 F95
theorem env82 (R : Type) : EnvOK Tryz.prog (e82 F95 R) := ⟨tabOK, eqOK, callOf_ok (allE_cons ok95 allE_nil), noIns, inlOK_nil⟩
theorem ok82 : (en82 F82).OK Tryz.prog :=
  ent_ok (Ef := fun R => e82 F95 R) (fun R => env82 R) mixed Tryz.func82 (body := codeOf Tryz.f82) (by kernel_rfl) (by kernel_rfl) (np := 0) (nt := 25) (fun _ => rfl) (fun _ => rfl) (by kernel_rfl) (res := res82) (by kernel_rfl) (fun _ => rfl) (fun _ => Nat.le_of_ble_eq_true rfl) (by
    intro R
    rw [show loopsOf (codeOf Tryz.f82) = [] from by kernel_rfl]
    exact allM_nil) (fun R x k => q82 F95 F82 R x k)
abbrev FT121 : Type 1 := (R : Type) → Int → (Int → Option R) → Option R
def en121 (F : FT121) : Ent := ⟨121, [(false, (.int .u64))], [(false, (.int .i64))], fun R x k => F R x.1 (fun y1 => k (y1, ()) ())⟩
def res121 : List (ResultVar × TypeId × Bool) := [(.tmp 2, 3, false)]
abbrev LT121_1 : Type 1 := (R : Type) → Int → Int → (Int → Option R) → Option R
def le121_1 (L : LT121_1) : LEnt := ⟨1, [.val 0 (.int .u64), .val 2 (.int .i64)], 0, [(.exit 0, [.val 2 (.int .i64)])], fun R x ke => L R x.1 x.2.1 (fun y1 => ke.1 (y1, ()))⟩
noncomputable def e121 (L1 : LT121_1) (R : Type) : Env R := ⟨TT, EQT, 0, 10, ownOf [], callOf [] R, loopOf [le121_1 L1] R, [], inlOf []⟩
def p121_1 : (R : Type) → Int → Int → (Int → Int → Option R) → (Int → Option R) → Option R := fun R x1 x2 kc k0 =>
let v3 := (x1 != (0 : Int));
(match v3 with
| true => let v4 := (IntKind.i64.wrap (x2 + (1 : Int)));
let v5 := (ishr .u64 x1 (1 : Int));
kc v5 v4
| false => k0 x2)
theorem q121_1 (L1 : LT121_1) (R : Type) (x : HT (le121_1 L1).H) (kc : HT (le121_1 L1).H → Option R) (ke : KT R (le121_1 L1).exs) :
  exec (e121 L1 R) (lcode 1 (codeOf Tryz.f121)) (stOf (le121_1 L1).H x 0) (roundK (le121_1 L1).H (le121_1 L1).exs kc ke) =
    p121_1 R x.1 x.2.1 (fun x1 x2 => kc (x1, x2, ())) (fun y1 => ke.1 (y1, ())) := by kernel_rfl
noncomputable def G121_1 : Nat → LT121_1
  | 0 => fun _ _ _ _ => none
  | n + 1 => fun R x1 x2 k0 => p121_1 R x1 x2 (fun x1 x2 => G121_1 n R x1 x2 k0) k0
def p121 (L1 : LT121_1) : FT121 := fun R a0 k =>
L1 R a0 (0 : Int) (fun x1 =>
k x1)
theorem q121 (L1 : LT121_1) (F : FT121) (R : Type) (x : AT (en121 F).ins) (k : RT (en121 F).outs → PT (en121 F).ins → Option R) :
  xfun (e121 L1 R) (codeOf Tryz.f121) res121 (avs (en121 F).ins x) (finK (en121 F).outs (en121 F).ins k) = p121 L1 R x.1 (fun y1 => k (y1, ()) ()) := by kernel_rfl
noncomputable def F121 : FT121 := p121 (G121_1 FUEL)
theorem env121 (R : Type) : EnvOK Tryz.prog (e121 (G121_1 FUEL) R) := ⟨tabOK, eqOK, callOf_ok allE_nil, noIns, inlOK_nil⟩
noncomputable def T121_1 : (R : Type) → HT (le121_1 (G121_1 FUEL)).H → (HT (le121_1 (G121_1 FUEL)).H → Option R) → KT R (le121_1 (G121_1 FUEL)).exs → Option R := fun R x kc ke => p121_1 R x.1 x.2.1 (fun x1 x2 => kc (x1, x2, ())) (fun y1 => ke.1 (y1, ()))
theorem it121_1 : ∀ (n : Nat) (R : Type) (x : HT (le121_1 (G121_1 FUEL)).H) (ke : KT R (le121_1 (G121_1 FUEL)).exs), iter T121_1 n R x ke = G121_1 n R x.1 x.2.1 (fun y1 => ke.1 (y1, ())) := by
  intro n
  induction n with
  | zero => intro R x ke; rfl
  | succ n ih =>
    intro R x ke
    show T121_1 R x (fun x' => iter T121_1 n R x' ke) ke = _
    rw [show (fun x' => iter T121_1 n R x' ke) = fun x => G121_1 n R x.1 x.2.1 (fun y1 => ke.1 (y1, ())) from funext fun x' => ih R x' ke]
    rfl
theorem lok121_1 : (le121_1 (G121_1 FUEL)).OK Tryz.prog 0 10 (lcode 1 (codeOf Tryz.f121)) := fun R x ke r h =>
  iter_sound (fun R => e121 (G121_1 FUEL) R) 0 10 (fun _ => rfl) (fun _ => rfl) (fun R => env121 R) mixed (by
    intro R
    rw [show loopsOf (lcode 1 (codeOf Tryz.f121)) = [] from by kernel_rfl]
    exact allM_nil) (T := T121_1) (fun R x kc ke => q121_1 (G121_1 FUEL) R x kc ke) FUEL R x ke r ((it121_1 FUEL R x ke).trans h)
theorem ok121 : (en121 F121).OK Tryz.prog :=
  ent_ok (Ef := fun R => e121 (G121_1 FUEL) R) (fun R => env121 R) mixed Tryz.func121 (body := codeOf Tryz.f121) (by kernel_rfl) (by kernel_rfl) (np := 0) (nt := 10) (fun _ => rfl) (fun _ => rfl) (by kernel_rfl) (res := res121) (by kernel_rfl) (fun _ => rfl) (fun _ => Nat.le_of_ble_eq_true rfl) (by
    intro R
    rw [show loopsOf (codeOf Tryz.f121) = [lcode 1 (codeOf Tryz.f121)] from by kernel_rfl]
    exact (allM_cons (loop_ok2 (e := le121_1 (G121_1 FUEL)) rfl rfl lok121_1) allM_nil)) (fun R x k => q121 (G121_1 FUEL) F121 R x k)
abbrev FT84 : Type 1 := (R : Type) → Int → (Int → Option R) → Option R
def en84 (F : FT84) : Ent := ⟨84, [(false, (.int .u64))], [(false, (.int .i64))], fun R x k => F R x.1 (fun y1 => k (y1, ()) ())⟩
def res84 : List (ResultVar × TypeId × Bool) := [(.tmp 2, 3, false)]
noncomputable def e84 (F121 : FT121) (R : Type) : Env R := ⟨TT, EQT, 0, 7, ownOf [], callOf [en121 F121] R, loopOf [] R, [], inlOf []⟩
def p84 (F121 : FT121) : FT84 := fun R a0 k =>
let v1 := (if (1 : Int) > a0 then (1 : Int) else a0);
let v2 := (IntKind.u64.wrap (v1 - (1 : Int)));
F121 R v2 fun y3 =>
k y3
theorem q84 (F121 : FT121) (F : FT84) (R : Type) (x : AT (en84 F).ins) (k : RT (en84 F).outs → PT (en84 F).ins → Option R) :
  xfun (e84 F121 R) (codeOf Tryz.f84) res84 (avs (en84 F).ins x) (finK (en84 F).outs (en84 F).ins k) = p84 F121 R x.1 (fun y1 => k (y1, ()) ()) := by kernel_rfl
noncomputable def F84 : FT84 := p84 F121
theorem env84 (R : Type) : EnvOK Tryz.prog (e84 F121 R) := ⟨tabOK, eqOK, callOf_ok (allE_cons ok121 allE_nil), noIns, inlOK_nil⟩
theorem ok84 : (en84 F84).OK Tryz.prog :=
  ent_ok (Ef := fun R => e84 F121 R) (fun R => env84 R) mixed Tryz.func84 (body := codeOf Tryz.f84) (by kernel_rfl) (by kernel_rfl) (np := 0) (nt := 7) (fun _ => rfl) (fun _ => rfl) (by kernel_rfl) (res := res84) (by kernel_rfl) (fun _ => rfl) (fun _ => Nat.le_of_ble_eq_true rfl) (by
    intro R
    rw [show loopsOf (codeOf Tryz.f84) = [] from by kernel_rfl]
    exact allM_nil) (fun R x k => q84 F121 F84 R x k)
abbrev FT119 : Type 1 := (R : Type) → Tq7 → (Int → Option R) → Option R
def en119 (F : FT119) : Ent := ⟨119, [(false, Kq7)], [(false, (.int .u64))], fun R x k => F R x.1 (fun y1 => k (y1, ()) ())⟩
def res119 : List (ResultVar × TypeId × Bool) := [(.tmp 2, 22, false)]
noncomputable def e119 (F95 : FT95) (F126 : FT126) (R : Type) : Env R := ⟨TT, EQT, 0, 17, ownOf [], callOf [en95 F95, en126 F126] R, loopOf [] R, [], inlOf []⟩
def p119 (F95 : FT95) (F126 : FT126) : FT119 := fun R a0 k =>
F95 R a0 fun y1 =>
(match (!y1) with
| true => k (0 : Int)
| false => F126 R a0 fun y2 y3 =>
let v4 := (IntKind.u64.wrap (y2 - a0.2.2.2.2.2.1));
k v4)
theorem q119 (F95 : FT95) (F126 : FT126) (F : FT119) (R : Type) (x : AT (en119 F).ins) (k : RT (en119 F).outs → PT (en119 F).ins → Option R) :
  xfun (e119 F95 F126 R) (codeOf Tryz.f119) res119 (avs (en119 F).ins x) (finK (en119 F).outs (en119 F).ins k) = p119 F95 F126 R x.1 (fun y1 => k (y1, ()) ()) := by kernel_rfl
noncomputable def F119 : FT119 := p119 F95 F126
theorem env119 (R : Type) : EnvOK Tryz.prog (e119 F95 F126 R) := ⟨tabOK, eqOK, callOf_ok (allE_cons ok95 (allE_cons ok126 allE_nil)), noIns, inlOK_nil⟩
theorem ok119 : (en119 F119).OK Tryz.prog :=
  ent_ok (Ef := fun R => e119 F95 F126 R) (fun R => env119 R) mixed Tryz.func119 (body := codeOf Tryz.f119) (by kernel_rfl) (by kernel_rfl) (np := 0) (nt := 17) (fun _ => rfl) (fun _ => rfl) (by kernel_rfl) (res := res119) (by kernel_rfl) (fun _ => rfl) (fun _ => Nat.le_of_ble_eq_true rfl) (by
    intro R
    rw [show loopsOf (codeOf Tryz.f119) = [] from by kernel_rfl]
    exact allM_nil) (fun R x k => q119 F95 F126 F119 R x k)
abbrev FT147 : Type 1 := (R : Type) → Int → ((List Int) → Option R) → Option R
def en147 (F : FT147) : Ent := ⟨147, [(false, (.int .u64))], [(false, (.arr 8 (.int .u8)))], fun R x k => F R x.1 (fun y1 => k (y1, ()) ())⟩
def res147 : List (ResultVar × TypeId × Bool) := [(.cell 2 180, 180, false)]
abbrev LT147_2 : Type 1 := (R : Type) → Int → Int → (List Int) → ((List Int) → Option R) → Option R
def le147_2 (L : LT147_2) : LEnt := ⟨2, [.val 0 (.int .u64), .fix 2 (.ptr 0 [] (.arr 8 (.int .u8))), .val 4 (.int .i64), .var 0 (.arr 8 (.int .u8)) false], 1, [(.exit 0, [.fix 2 (.ptr 0 [] (.arr 8 (.int .u8))), .var 0 (.arr 8 (.int .u8)) false])], fun R x ke => L R x.1 x.2.1 x.2.2.1 (fun y1 => ke.1 (y1, ()))⟩
noncomputable def e147 (L2 : LT147_2) (R : Type) : Env R := ⟨TT, EQT, 0, 18, ownOf [], callOf [] R, loopOf [le147_2 L2] R, [], inlOf []⟩
def p147_2 : (R : Type) → Int → Int → (List Int) → (Int → Int → (List Int) → Option R) → ((List Int) → Option R) → Option R := fun R x1 x2 x3 kc k0 =>
let v4 := (decide (x2 < (8 : Int)));
(match v4 with
| true => let v5 := (IntKind.i64.wrap ((7 : Int) - x2));
let v6 := (IntKind.i64.wrap ((8 : Int) * v5));
let v7 := (IntKind.u64.wrap v6);
(match (decide (0 ≤ v7)) with
| true => let v8 := (ishr .u64 x1 v7);
let v9 := (IntKind.u8.wrap v8);
(match (bnd x2 (8 : Int)) with
| true => let v10 : (List Int) := (List.set x3 (Int.toNat x2) v9);
let v11 := (IntKind.i64.wrap (x2 + (1 : Int)));
kc x1 v11 v10
| false => none)
| false => none)
| false => k0 x3)
theorem q147_2 (L2 : LT147_2) (R : Type) (x : HT (le147_2 L2).H) (kc : HT (le147_2 L2).H → Option R) (ke : KT R (le147_2 L2).exs) :
  exec (e147 L2 R) (lcode 2 (codeOf Tryz.f147)) (stOf (le147_2 L2).H x 1) (roundK (le147_2 L2).H (le147_2 L2).exs kc ke) =
    p147_2 R x.1 x.2.1 x.2.2.1 (fun x1 x2 x3 => kc (x1, x2, x3, ())) (fun y1 => ke.1 (y1, ())) := by kernel_rfl
noncomputable def G147_2 : Nat → LT147_2
  | 0 => fun _ _ _ _ _ => none
  | n + 1 => fun R x1 x2 x3 k0 => p147_2 R x1 x2 x3 (fun x1 x2 x3 => G147_2 n R x1 x2 x3 k0) k0
def p147 (L2 : LT147_2) : FT147 := fun R a0 k =>
L2 R a0 (0 : Int) (List.replicate 8 (0 : Int)) (fun x1 =>
k x1)
theorem q147 (L2 : LT147_2) (F : FT147) (R : Type) (x : AT (en147 F).ins) (k : RT (en147 F).outs → PT (en147 F).ins → Option R) :
  xfun (e147 L2 R) (codeOf Tryz.f147) res147 (avs (en147 F).ins x) (finK (en147 F).outs (en147 F).ins k) = p147 L2 R x.1 (fun y1 => k (y1, ()) ()) := by kernel_rfl
noncomputable def F147 : FT147 := p147 (G147_2 FUEL)
theorem env147 (R : Type) : EnvOK Tryz.prog (e147 (G147_2 FUEL) R) := ⟨tabOK, eqOK, callOf_ok allE_nil, noIns, inlOK_nil⟩
noncomputable def T147_2 : (R : Type) → HT (le147_2 (G147_2 FUEL)).H → (HT (le147_2 (G147_2 FUEL)).H → Option R) → KT R (le147_2 (G147_2 FUEL)).exs → Option R := fun R x kc ke => p147_2 R x.1 x.2.1 x.2.2.1 (fun x1 x2 x3 => kc (x1, x2, x3, ())) (fun y1 => ke.1 (y1, ()))
theorem it147_2 : ∀ (n : Nat) (R : Type) (x : HT (le147_2 (G147_2 FUEL)).H) (ke : KT R (le147_2 (G147_2 FUEL)).exs), iter T147_2 n R x ke = G147_2 n R x.1 x.2.1 x.2.2.1 (fun y1 => ke.1 (y1, ())) := by
  intro n
  induction n with
  | zero => intro R x ke; rfl
  | succ n ih =>
    intro R x ke
    show T147_2 R x (fun x' => iter T147_2 n R x' ke) ke = _
    rw [show (fun x' => iter T147_2 n R x' ke) = fun x => G147_2 n R x.1 x.2.1 x.2.2.1 (fun y1 => ke.1 (y1, ())) from funext fun x' => ih R x' ke]
    rfl
theorem lok147_2 : (le147_2 (G147_2 FUEL)).OK Tryz.prog 0 18 (lcode 2 (codeOf Tryz.f147)) := fun R x ke r h =>
  iter_sound (fun R => e147 (G147_2 FUEL) R) 0 18 (fun _ => rfl) (fun _ => rfl) (fun R => env147 R) mixed (by
    intro R
    rw [show loopsOf (lcode 2 (codeOf Tryz.f147)) = [] from by kernel_rfl]
    exact allM_nil) (T := T147_2) (fun R x kc ke => q147_2 (G147_2 FUEL) R x kc ke) FUEL R x ke r ((it147_2 FUEL R x ke).trans h)
theorem ok147 : (en147 F147).OK Tryz.prog :=
  ent_ok (Ef := fun R => e147 (G147_2 FUEL) R) (fun R => env147 R) mixed Tryz.func147 (body := codeOf Tryz.f147) (by kernel_rfl) (by kernel_rfl) (np := 0) (nt := 18) (fun _ => rfl) (fun _ => rfl) (by kernel_rfl) (res := res147) (by kernel_rfl) (fun _ => rfl) (fun _ => Nat.le_of_ble_eq_true rfl) (by
    intro R
    rw [show loopsOf (codeOf Tryz.f147) = [lcode 2 (codeOf Tryz.f147)] from by kernel_rfl]
    exact (allM_cons (loop_ok2 (e := le147_2 (G147_2 FUEL)) rfl rfl lok147_2) allM_nil)) (fun R x k => q147 (G147_2 FUEL) F147 R x k)
abbrev FT161 : Type 1 := (R : Type) → ((List Int) → Option R) → Option R
def en161 (F : FT161) : Ent := ⟨161, [], [(false, (.arr 8 (.int .u32)))], fun R x k => F R  (fun y1 => k (y1, ()) ())⟩
def res161 : List (ResultVar × TypeId × Bool) := [(.cell 0 186, 186, false)]
noncomputable def e161 (R : Type) : Env R := ⟨TT, EQT, 0, 2, ownOf [], callOf [] R, loopOf [] R, [], inlOf []⟩
def p161 : FT161 := fun R k =>
let v1 : (List Int) := (List.set (List.set (List.set (List.set (List.set (List.set (List.set (List.set (List.replicate 8 (0 : Int)) 0 (1779033703 : Int)) 1 (3144134277 : Int)) 2 (1013904242 : Int)) 3 (2773480762 : Int)) 4 (1359893119 : Int)) 5 (2600822924 : Int)) 6 (528734635 : Int)) 7 (1541459225 : Int));
k v1
theorem q161 (F : FT161) (R : Type) (x : AT (en161 F).ins) (k : RT (en161 F).outs → PT (en161 F).ins → Option R) :
  xfun (e161 R) (codeOf Tryz.f161) res161 (avs (en161 F).ins x) (finK (en161 F).outs (en161 F).ins k) = p161 R  (fun y1 => k (y1, ()) ()) := by kernel_rfl
noncomputable def F161 : FT161 := p161
theorem env161 (R : Type) : EnvOK Tryz.prog (e161 R) := ⟨tabOK, eqOK, callOf_ok allE_nil, noIns, inlOK_nil⟩
theorem ok161 : (en161 F161).OK Tryz.prog :=
  ent_ok (Ef := fun R => e161 R) (fun R => env161 R) mixed Tryz.func161 (body := codeOf Tryz.f161) (by kernel_rfl) (by kernel_rfl) (np := 0) (nt := 2) (fun _ => rfl) (fun _ => rfl) (by kernel_rfl) (res := res161) (by kernel_rfl) (fun _ => rfl) (fun _ => Nat.le_of_ble_eq_true rfl) (by
    intro R
    rw [show loopsOf (codeOf Tryz.f161) = [] from by kernel_rfl]
    exact allM_nil) (fun R x k => q161 F161 R x k)
abbrev FT152 : Type 1 := (R : Type) → (Tq9 → Option R) → Option R
def en152 (F : FT152) : Ent := ⟨152, [], [(false, Kq9)], fun R x k => F R  (fun y1 => k (y1, ()) ())⟩
def res152 : List (ResultVar × TypeId × Bool) := [(.cell 0 188, 188, false)]
noncomputable def e152 (F161 : FT161) (R : Type) : Env R := ⟨TT, EQT, 0, 3, ownOf [], callOf [en161 F161] R, loopOf [] R, [], inlOf []⟩
def p152 (F161 : FT161) : FT152 := fun R k =>
F161 R  fun y1 =>
k (y1, ([] : (List Int)), (0 : Int), ())
theorem q152 (F161 : FT161) (F : FT152) (R : Type) (x : AT (en152 F).ins) (k : RT (en152 F).outs → PT (en152 F).ins → Option R) :
  xfun (e152 F161 R) (codeOf Tryz.f152) res152 (avs (en152 F).ins x) (finK (en152 F).outs (en152 F).ins k) = p152 F161 R  (fun y1 => k (y1, ()) ()) := by kernel_rfl
noncomputable def F152 : FT152 := p152 F161
theorem env152 (R : Type) : EnvOK Tryz.prog (e152 F161 R) := ⟨tabOK, eqOK, callOf_ok (allE_cons ok161 allE_nil), noIns, inlOK_nil⟩
theorem ok152 : (en152 F152).OK Tryz.prog :=
  ent_ok (Ef := fun R => e152 F161 R) (fun R => env152 R) mixed Tryz.func152 (body := codeOf Tryz.f152) (by kernel_rfl) (by kernel_rfl) (np := 0) (nt := 3) (fun _ => rfl) (fun _ => rfl) (by kernel_rfl) (res := res152) (by kernel_rfl) (fun _ => rfl) (fun _ => Nat.le_of_ble_eq_true rfl) (by
    intro R
    rw [show loopsOf (codeOf Tryz.f152) = [] from by kernel_rfl]
    exact allM_nil) (fun R x k => q152 F161 F152 R x k)
abbrev FT159 : Type 1 := (R : Type) → Tq9 → (Bool → Option R) → Option R
def en159 (F : FT159) : Ent := ⟨159, [(false, Kq9)], [(false, .bool)], fun R x k => F R x.1 (fun y1 => k (y1, ()) ())⟩
def res159 : List (ResultVar × TypeId × Bool) := [(.tmp 2, 4, false)]
noncomputable def e159 (R : Type) : Env R := ⟨TT, EQT, 0, 16, ownOf [], callOf [] R, loopOf [] R, [], inlOf []⟩
def p159 : FT159 := fun R a0 k =>
let v1 := (decide (a0.2.2.1 < (2305843009213693952 : Int)));
(match v1 with
| true => let v2 := (List.length a0.2.1 : Int);
let v3 := (IntKind.u64.wrap v2);
let v4 := (iand .u64 a0.2.2.1 (63 : Int));
let v5 := (v3 == v4);
k v5
| false => k false)
theorem q159 (F : FT159) (R : Type) (x : AT (en159 F).ins) (k : RT (en159 F).outs → PT (en159 F).ins → Option R) :
  xfun (e159 R) (codeOf Tryz.f159) res159 (avs (en159 F).ins x) (finK (en159 F).outs (en159 F).ins k) = p159 R x.1 (fun y1 => k (y1, ()) ()) := by kernel_rfl
noncomputable def F159 : FT159 := p159
theorem env159 (R : Type) : EnvOK Tryz.prog (e159 R) := ⟨tabOK, eqOK, callOf_ok allE_nil, noIns, inlOK_nil⟩
theorem ok159 : (en159 F159).OK Tryz.prog :=
  ent_ok (Ef := fun R => e159 R) (fun R => env159 R) mixed Tryz.func159 (body := codeOf Tryz.f159) (by kernel_rfl) (by kernel_rfl) (np := 0) (nt := 16) (fun _ => rfl) (fun _ => rfl) (by kernel_rfl) (res := res159) (by kernel_rfl) (fun _ => rfl) (fun _ => Nat.le_of_ble_eq_true rfl) (by
    intro R
    rw [show loopsOf (codeOf Tryz.f159) = [] from by kernel_rfl]
    exact allM_nil) (fun R x k => q159 F159 R x k)
abbrev FT168 : Type 1 := (R : Type) → (List Int) → ((List Int) → Option R) → Option R
def en168 (F : FT168) : Ent := ⟨168, [(false, (.sl (.int .u8)))], [(true, (.int .u8))], fun R x k => F R x.1 (fun y1 => k (y1, ()) ())⟩
def e168 : Env (RT [(true, (.int .u8))]) := ⟨TT, EQT, 0, 8, ownOf [(2, 0), (3, 0)], fun _ _ _ => none, fun _ _ _ => none, [], inlOf []⟩
def F168 : FT168 := fun R a0 k => match decide (List.length ([] : (List Int)) + List.length a0 ≤ 140737488355328) with | true => k a0 | false => none
theorem ok168 : (en168 F168).OK Tryz.prog :=
  clone_ok (e := (.int .u8)) e168 ⟨tabOK, eqOK, (fun f b K r h => by cases h), noIns, inlOK_nil⟩ mixed Tryz.func168 (body := codeOf Tryz.f168) (by kernel_rfl) (by kernel_rfl) (by kernel_rfl) (res := [(.tmp 2, 26, true)]) (by kernel_rfl) rfl (by decide) (by kernel_rfl) (lim := 140737488355328) (by kernel_rfl) (fun l => by kernel_rfl)
abbrev FT170 : Type 1 := (R : Type) → (List Int) → ((List (List Int)) → (List Int) → Option R) → Option R
def en170 (F : FT170) : Ent := ⟨170, [(false, (.sl (.int .u8)))], [(false, (.sl (.arr 64 (.int .u8)))), (false, (.sl (.int .u8)))], fun R x k => F R x.1 (fun y1 y2 => k (y1, y2, ()) ())⟩
def res170 : List (ResultVar × TypeId × Bool) := [(.tmp 2, 194, false), (.tmp 3, 26, false)]
abbrev LT170_1 : Type 1 := (R : Type) → (List Int) → (List (List Int)) → ((List Int) → (List (List Int)) → Option R) → Option R
def le170_1 (L : LT170_1) : LEnt := ⟨1, [.val 0 (.sl (.int .u8)), .fix 2 (.own 0 0), .row 0 (.arr 64 (.int .u8)) false], 1, [(.exit 0, [.val 0 (.sl (.int .u8)), .fix 2 (.own 0 0), .row 0 (.arr 64 (.int .u8)) false])], fun R x ke => L R x.1 x.2.1 (fun y1 y2 => ke.1 (y1, y2, ()))⟩
noncomputable def e170 (L1 : LT170_1) (R : Type) : Env R := ⟨TT, EQT, 0, 17, ownOf [(0, 0)], callOf [] R, loopOf [le170_1 L1] R, [], inlOf []⟩
def p170_1 : (R : Type) → (List Int) → (List (List Int)) → ((List Int) → (List (List Int)) → Option R) → ((List Int) → (List (List Int)) → Option R) → Option R := fun R x1 x2 kc k0 =>
let v3 := (List.length x1 : Int);
let v4 := (decide (v3 ≥ (64 : Int)));
(match v4 with
| true => (match (decide ((64 : Int) ≤ (List.length x1 : Int))) with
| true => let v5 : (List Int) := (List.take 64 x1);
let v6 : (List (List Int)) := ([v5] : (List (List Int)));
(match (decide (List.length x2 + List.length v6 ≤ 2199023255552)) with
| true => let v7 : (List (List Int)) := (x2 ++ v6);
(match (decide (0 ≤ (64 : Int) ∧ (64 : Int) ≤ (List.length x1 : Int) ∧ (List.length x1 : Int) ≤ (List.length x1 : Int) ∧ (List.length x1 : Int) ≤ (List.length x1 : Int))) with
| true => let v8 : (List Int) := (List.take (Int.toNat ((List.length x1 : Int) - (64 : Int))) (List.drop 64 x1));
kc v8 v7
| false => none)
| false => none)
| false => none)
| false => k0 x1 x2)
theorem q170_1 (L1 : LT170_1) (R : Type) (x : HT (le170_1 L1).H) (kc : HT (le170_1 L1).H → Option R) (ke : KT R (le170_1 L1).exs) :
  exec (e170 L1 R) (lcode 1 (codeOf Tryz.f170)) (stOf (le170_1 L1).H x 1) (roundK (le170_1 L1).H (le170_1 L1).exs kc ke) =
    p170_1 R x.1 x.2.1 (fun x1 x2 => kc (x1, x2, ())) (fun y1 y2 => ke.1 (y1, y2, ())) := by kernel_rfl
noncomputable def G170_1 : Nat → LT170_1
  | 0 => fun _ _ _ _ => none
  | n + 1 => fun R x1 x2 k0 => p170_1 R x1 x2 (fun x1 x2 => G170_1 n R x1 x2 k0) k0
def p170 (L1 : LT170_1) : FT170 := fun R a0 k =>
L1 R a0 ([] : (List (List Int))) (fun x1 x2 =>
k x2 x1)
theorem q170 (L1 : LT170_1) (F : FT170) (R : Type) (x : AT (en170 F).ins) (k : RT (en170 F).outs → PT (en170 F).ins → Option R) :
  xfun (e170 L1 R) (codeOf Tryz.f170) res170 (avs (en170 F).ins x) (finK (en170 F).outs (en170 F).ins k) = p170 L1 R x.1 (fun y1 y2 => k (y1, y2, ()) ()) := by kernel_rfl
noncomputable def F170 : FT170 := p170 (G170_1 FUEL)
theorem env170 (R : Type) : EnvOK Tryz.prog (e170 (G170_1 FUEL) R) := ⟨tabOK, eqOK, callOf_ok allE_nil, noIns, inlOK_nil⟩
noncomputable def T170_1 : (R : Type) → HT (le170_1 (G170_1 FUEL)).H → (HT (le170_1 (G170_1 FUEL)).H → Option R) → KT R (le170_1 (G170_1 FUEL)).exs → Option R := fun R x kc ke => p170_1 R x.1 x.2.1 (fun x1 x2 => kc (x1, x2, ())) (fun y1 y2 => ke.1 (y1, y2, ()))
theorem it170_1 : ∀ (n : Nat) (R : Type) (x : HT (le170_1 (G170_1 FUEL)).H) (ke : KT R (le170_1 (G170_1 FUEL)).exs), iter T170_1 n R x ke = G170_1 n R x.1 x.2.1 (fun y1 y2 => ke.1 (y1, y2, ())) := by
  intro n
  induction n with
  | zero => intro R x ke; rfl
  | succ n ih =>
    intro R x ke
    show T170_1 R x (fun x' => iter T170_1 n R x' ke) ke = _
    rw [show (fun x' => iter T170_1 n R x' ke) = fun x => G170_1 n R x.1 x.2.1 (fun y1 y2 => ke.1 (y1, y2, ())) from funext fun x' => ih R x' ke]
    rfl
theorem lok170_1 : (le170_1 (G170_1 FUEL)).OK Tryz.prog 0 17 (lcode 1 (codeOf Tryz.f170)) := fun R x ke r h =>
  iter_sound (fun R => e170 (G170_1 FUEL) R) 0 17 (fun _ => rfl) (fun _ => rfl) (fun R => env170 R) mixed (by
    intro R
    rw [show loopsOf (lcode 1 (codeOf Tryz.f170)) = [] from by kernel_rfl]
    exact allM_nil) (T := T170_1) (fun R x kc ke => q170_1 (G170_1 FUEL) R x kc ke) FUEL R x ke r ((it170_1 FUEL R x ke).trans h)
theorem ok170 : (en170 F170).OK Tryz.prog :=
  ent_ok (Ef := fun R => e170 (G170_1 FUEL) R) (fun R => env170 R) mixed Tryz.func170 (body := codeOf Tryz.f170) (by kernel_rfl) (by kernel_rfl) (np := 0) (nt := 17) (fun _ => rfl) (fun _ => rfl) (by kernel_rfl) (res := res170) (by kernel_rfl) (fun _ => rfl) (fun _ => Nat.le_of_ble_eq_true rfl) (by
    intro R
    rw [show loopsOf (codeOf Tryz.f170) = [lcode 1 (codeOf Tryz.f170)] from by kernel_rfl]
    exact (allM_cons (loop_ok2 (e := le170_1 (G170_1 FUEL)) rfl rfl lok170_1) allM_nil)) (fun R x k => q170 (G170_1 FUEL) F170 R x k)
abbrev FT176 : Type 1 := (R : Type) → ((List Int) → Option R) → Option R
def en176 (F : FT176) : Ent := ⟨176, [], [(false, (.arr 64 (.int .u32)))], fun R x k => F R  (fun y1 => k (y1, ()) ())⟩
def res176 : List (ResultVar × TypeId × Bool) := [(.cell 0 213, 213, false)]
noncomputable def e176 (R : Type) : Env R := ⟨TT, EQT, 0, 2, ownOf [], callOf [] R, loopOf [] R, [], inlOf []⟩
def p176 : FT176 := fun R k =>
let v1 : (List Int) := (List.set (List.set (List.set (List.set (List.set (List.set (List.set (List.set (List.set (List.set (List.set (List.set (List.set (List.set (List.set (List.set (List.set (List.set (List.set (List.set (List.set (List.set (List.set (List.set (List.set (List.set (List.set (List.set (List.set (List.set (List.set (List.set (List.set (List.set (List.set (List.set (List.set (List.set (List.set (List.set (List.set (List.set (List.set (List.set (List.set (List.set (List.set (List.set (List.set (List.set (List.set (List.set (List.set (List.set (List.set (List.set (List.set (List.set (List.set (List.set (List.set (List.set (List.set (List.set (List.replicate 64 (0 : Int)) 0 (1116352408 : Int)) 1 (1899447441 : Int)) 2 (3049323471 : Int)) 3 (3921009573 : Int)) 4 (961987163 : Int)) 5 (1508970993 : Int)) 6 (2453635748 : Int)) 7 (2870763221 : Int)) 8 (3624381080 : Int)) 9 (310598401 : Int)) 10 (607225278 : Int)) 11 (1426881987 : Int)) 12 (1925078388 : Int)) 13 (2162078206 : Int)) 14 (2614888103 : Int)) 15 (3248222580 : Int)) 16 (3835390401 : Int)) 17 (4022224774 : Int)) 18 (264347078 : Int)) 19 (604807628 : Int)) 20 (770255983 : Int)) 21 (1249150122 : Int)) 22 (1555081692 : Int)) 23 (1996064986 : Int)) 24 (2554220882 : Int)) 25 (2821834349 : Int)) 26 (2952996808 : Int)) 27 (3210313671 : Int)) 28 (3336571891 : Int)) 29 (3584528711 : Int)) 30 (113926993 : Int)) 31 (338241895 : Int)) 32 (666307205 : Int)) 33 (773529912 : Int)) 34 (1294757372 : Int)) 35 (1396182291 : Int)) 36 (1695183700 : Int)) 37 (1986661051 : Int)) 38 (2177026350 : Int)) 39 (2456956037 : Int)) 40 (2730485921 : Int)) 41 (2820302411 : Int)) 42 (3259730800 : Int)) 43 (3345764771 : Int)) 44 (3516065817 : Int)) 45 (3600352804 : Int)) 46 (4094571909 : Int)) 47 (275423344 : Int)) 48 (430227734 : Int)) 49 (506948616 : Int)) 50 (659060556 : Int)) 51 (883997877 : Int)) 52 (958139571 : Int)) 53 (1322822218 : Int)) 54 (1537002063 : Int)) 55 (1747873779 : Int)) 56 (1955562222 : Int)) 57 (2024104815 : Int)) 58 (2227730452 : Int)) 59 (2361852424 : Int)) 60 (2428436474 : Int)) 61 (2756734187 : Int)) 62 (3204031479 : Int)) 63 (3329325298 : Int));
k v1
theorem q176 (F : FT176) (R : Type) (x : AT (en176 F).ins) (k : RT (en176 F).outs → PT (en176 F).ins → Option R) :
  xfun (e176 R) (codeOf Tryz.f176) res176 (avs (en176 F).ins x) (finK (en176 F).outs (en176 F).ins k) = p176 R  (fun y1 => k (y1, ()) ()) := by kernel_rfl
noncomputable def F176 : FT176 := p176
theorem env176 (R : Type) : EnvOK Tryz.prog (e176 R) := ⟨tabOK, eqOK, callOf_ok allE_nil, noIns, inlOK_nil⟩
theorem ok176 : (en176 F176).OK Tryz.prog :=
  ent_ok (Ef := fun R => e176 R) (fun R => env176 R) mixed Tryz.func176 (body := codeOf Tryz.f176) (by kernel_rfl) (by kernel_rfl) (np := 0) (nt := 2) (fun _ => rfl) (fun _ => rfl) (by kernel_rfl) (res := res176) (by kernel_rfl) (fun _ => rfl) (fun _ => Nat.le_of_ble_eq_true rfl) (by
    intro R
    rw [show loopsOf (codeOf Tryz.f176) = [] from by kernel_rfl]
    exact allM_nil) (fun R x k => q176 F176 R x k)
abbrev FT185 : Type 1 := (R : Type) → (List Int) → (Int → Option R) → Option R
def en185 (F : FT185) : Ent := ⟨185, [(false, (.arr 4 (.int .u8)))], [(false, (.int .u32))], fun R x k => F R x.1 (fun y1 => k (y1, ()) ())⟩
def res185 : List (ResultVar × TypeId × Bool) := [(.tmp 2, 84, false)]
abbrev LT185_2 : Type 1 := (R : Type) → Int → (List Int) → Int → (Int → Option R) → Option R
def le185_2 (L : LT185_2) : LEnt := ⟨2, [.val 2 (.int .u32), .val 5 (.arr 4 (.int .u8)), .val 6 (.int .i64)], 0, [(.exit 0, [.val 2 (.int .u32)])], fun R x ke => L R x.1 x.2.1 x.2.2.1 (fun y1 => ke.1 (y1, ()))⟩
noncomputable def e185 (L2 : LT185_2) (R : Type) : Env R := ⟨TT, EQT, 0, 16, ownOf [], callOf [] R, loopOf [le185_2 L2] R, [], inlOf []⟩
def p185_2 : (R : Type) → Int → (List Int) → Int → (Int → (List Int) → Int → Option R) → (Int → Option R) → Option R := fun R x1 x2 x3 kc k0 =>
let v4 := (decide (x3 < (4 : Int)));
(match v4 with
| true => (match (bnd x3 (4 : Int)) with
| true => let v5 := (List.getD x2 (Int.toNat x3) (0 : Int));
let v6 := (ishl .u32 x1 (8 : Int));
let v7 := (IntKind.u32.wrap v5);
let v8 := (ior .u32 v6 v7);
let v9 := (IntKind.i64.wrap (x3 + (1 : Int)));
kc v8 x2 v9
| false => none)
| false => k0 x1)
theorem q185_2 (L2 : LT185_2) (R : Type) (x : HT (le185_2 L2).H) (kc : HT (le185_2 L2).H → Option R) (ke : KT R (le185_2 L2).exs) :
  exec (e185 L2 R) (lcode 2 (codeOf Tryz.f185)) (stOf (le185_2 L2).H x 0) (roundK (le185_2 L2).H (le185_2 L2).exs kc ke) =
    p185_2 R x.1 x.2.1 x.2.2.1 (fun x1 x2 x3 => kc (x1, x2, x3, ())) (fun y1 => ke.1 (y1, ())) := by kernel_rfl
noncomputable def G185_2 : Nat → LT185_2
  | 0 => fun _ _ _ _ _ => none
  | n + 1 => fun R x1 x2 x3 k0 => p185_2 R x1 x2 x3 (fun x1 x2 x3 => G185_2 n R x1 x2 x3 k0) k0
def p185 (L2 : LT185_2) : FT185 := fun R a0 k =>
L2 R (0 : Int) a0 (0 : Int) (fun x1 =>
k x1)
theorem q185 (L2 : LT185_2) (F : FT185) (R : Type) (x : AT (en185 F).ins) (k : RT (en185 F).outs → PT (en185 F).ins → Option R) :
  xfun (e185 L2 R) (codeOf Tryz.f185) res185 (avs (en185 F).ins x) (finK (en185 F).outs (en185 F).ins k) = p185 L2 R x.1 (fun y1 => k (y1, ()) ()) := by kernel_rfl
noncomputable def F185 : FT185 := p185 (G185_2 FUEL)
theorem env185 (R : Type) : EnvOK Tryz.prog (e185 (G185_2 FUEL) R) := ⟨tabOK, eqOK, callOf_ok allE_nil, noIns, inlOK_nil⟩
noncomputable def T185_2 : (R : Type) → HT (le185_2 (G185_2 FUEL)).H → (HT (le185_2 (G185_2 FUEL)).H → Option R) → KT R (le185_2 (G185_2 FUEL)).exs → Option R := fun R x kc ke => p185_2 R x.1 x.2.1 x.2.2.1 (fun x1 x2 x3 => kc (x1, x2, x3, ())) (fun y1 => ke.1 (y1, ()))
theorem it185_2 : ∀ (n : Nat) (R : Type) (x : HT (le185_2 (G185_2 FUEL)).H) (ke : KT R (le185_2 (G185_2 FUEL)).exs), iter T185_2 n R x ke = G185_2 n R x.1 x.2.1 x.2.2.1 (fun y1 => ke.1 (y1, ())) := by
  intro n
  induction n with
  | zero => intro R x ke; rfl
  | succ n ih =>
    intro R x ke
    show T185_2 R x (fun x' => iter T185_2 n R x' ke) ke = _
    rw [show (fun x' => iter T185_2 n R x' ke) = fun x => G185_2 n R x.1 x.2.1 x.2.2.1 (fun y1 => ke.1 (y1, ())) from funext fun x' => ih R x' ke]
    rfl
theorem lok185_2 : (le185_2 (G185_2 FUEL)).OK Tryz.prog 0 16 (lcode 2 (codeOf Tryz.f185)) := fun R x ke r h =>
  iter_sound (fun R => e185 (G185_2 FUEL) R) 0 16 (fun _ => rfl) (fun _ => rfl) (fun R => env185 R) mixed (by
    intro R
    rw [show loopsOf (lcode 2 (codeOf Tryz.f185)) = [] from by kernel_rfl]
    exact allM_nil) (T := T185_2) (fun R x kc ke => q185_2 (G185_2 FUEL) R x kc ke) FUEL R x ke r ((it185_2 FUEL R x ke).trans h)
theorem ok185 : (en185 F185).OK Tryz.prog :=
  ent_ok (Ef := fun R => e185 (G185_2 FUEL) R) (fun R => env185 R) mixed Tryz.func185 (body := codeOf Tryz.f185) (by kernel_rfl) (by kernel_rfl) (np := 0) (nt := 16) (fun _ => rfl) (fun _ => rfl) (by kernel_rfl) (res := res185) (by kernel_rfl) (fun _ => rfl) (fun _ => Nat.le_of_ble_eq_true rfl) (by
    intro R
    rw [show loopsOf (codeOf Tryz.f185) = [lcode 2 (codeOf Tryz.f185)] from by kernel_rfl]
    exact (allM_cons (loop_ok2 (e := le185_2 (G185_2 FUEL)) rfl rfl lok185_2) allM_nil)) (fun R x k => q185 (G185_2 FUEL) F185 R x k)
abbrev FT193 : Type 1 := (R : Type) → Int → Int → (Int → Option R) → Option R
def en193 (F : FT193) : Ent := ⟨193, [(false, (.int .u32)), (false, (.int .i64))], [(false, (.int .u32))], fun R x k => F R x.1 x.2.1 (fun y1 => k (y1, ()) ())⟩
def res193 : List (ResultVar × TypeId × Bool) := [(.tmp 4, 84, false)]
noncomputable def e193 (R : Type) : Env R := ⟨TT, EQT, 0, 17, ownOf [], callOf [] R, loopOf [] R, [], inlOf []⟩
def p193 : FT193 := fun R a0 a1 k =>
let v1 := (IntKind.u64.wrap a1);
let v2 := (Int.tmod v1 (32 : Int));
(match (decide (0 ≤ v2)) with
| true => let v3 := (ishr .u32 a0 v2);
let v4 := (IntKind.u64.wrap ((32 : Int) - v2));
(match (decide (0 ≤ v4)) with
| true => let v5 := (ishl .u32 a0 v4);
let v6 := (ior .u32 v3 v5);
k v6
| false => none)
| false => none)
theorem q193 (F : FT193) (R : Type) (x : AT (en193 F).ins) (k : RT (en193 F).outs → PT (en193 F).ins → Option R) :
  xfun (e193 R) (codeOf Tryz.f193) res193 (avs (en193 F).ins x) (finK (en193 F).outs (en193 F).ins k) = p193 R x.1 x.2.1 (fun y1 => k (y1, ()) ()) := by kernel_rfl
noncomputable def F193 : FT193 := p193
theorem env193 (R : Type) : EnvOK Tryz.prog (e193 R) := ⟨tabOK, eqOK, callOf_ok allE_nil, noIns, inlOK_nil⟩
theorem ok193 : (en193 F193).OK Tryz.prog :=
  ent_ok (Ef := fun R => e193 R) (fun R => env193 R) mixed Tryz.func193 (body := codeOf Tryz.f193) (by kernel_rfl) (by kernel_rfl) (np := 0) (nt := 17) (fun _ => rfl) (fun _ => rfl) (by kernel_rfl) (res := res193) (by kernel_rfl) (fun _ => rfl) (fun _ => Nat.le_of_ble_eq_true rfl) (by
    intro R
    rw [show loopsOf (codeOf Tryz.f193) = [] from by kernel_rfl]
    exact allM_nil) (fun R x k => q193 F193 R x k)
abbrev FT194 : Type 1 := (R : Type) → Int → Int → (Int → Option R) → Option R
def en194 (F : FT194) : Ent := ⟨194, [(false, (.int .u32)), (false, (.int .i64))], [(false, (.int .u32))], fun R x k => F R x.1 x.2.1 (fun y1 => k (y1, ()) ())⟩
def res194 : List (ResultVar × TypeId × Bool) := [(.tmp 4, 84, false)]
noncomputable def e194 (R : Type) : Env R := ⟨TT, EQT, 0, 10, ownOf [], callOf [] R, loopOf [] R, [], inlOf []⟩
def p194 : FT194 := fun R a0 a1 k =>
let v1 := (if (0 : Int) > a1 then (0 : Int) else a1);
let v2 := (IntKind.u64.wrap v1);
(match (decide (0 ≤ v2)) with
| true => let v3 := (ishr .u32 a0 v2);
k v3
| false => none)
theorem q194 (F : FT194) (R : Type) (x : AT (en194 F).ins) (k : RT (en194 F).outs → PT (en194 F).ins → Option R) :
  xfun (e194 R) (codeOf Tryz.f194) res194 (avs (en194 F).ins x) (finK (en194 F).outs (en194 F).ins k) = p194 R x.1 x.2.1 (fun y1 => k (y1, ()) ()) := by kernel_rfl
noncomputable def F194 : FT194 := p194
theorem env194 (R : Type) : EnvOK Tryz.prog (e194 R) := ⟨tabOK, eqOK, callOf_ok allE_nil, noIns, inlOK_nil⟩
theorem ok194 : (en194 F194).OK Tryz.prog :=
  ent_ok (Ef := fun R => e194 R) (fun R => env194 R) mixed Tryz.func194 (body := codeOf Tryz.f194) (by kernel_rfl) (by kernel_rfl) (np := 0) (nt := 10) (fun _ => rfl) (fun _ => rfl) (by kernel_rfl) (res := res194) (by kernel_rfl) (fun _ => rfl) (fun _ => Nat.le_of_ble_eq_true rfl) (by
    intro R
    rw [show loopsOf (codeOf Tryz.f194) = [] from by kernel_rfl]
    exact allM_nil) (fun R x k => q194 F194 R x k)
abbrev FT191 : Type 1 := (R : Type) → Int → Int → Int → Int → (Int → Option R) → Option R
def en191 (F : FT191) : Ent := ⟨191, [(false, (.int .u32)), (false, (.int .i64)), (false, (.int .i64)), (false, (.int .i64))], [(false, (.int .u32))], fun R x k => F R x.1 x.2.1 x.2.2.1 x.2.2.2.1 (fun y1 => k (y1, ()) ())⟩
def res191 : List (ResultVar × TypeId × Bool) := [(.tmp 8, 84, false)]
noncomputable def e191 (F193 : FT193) (F194 : FT194) (R : Type) : Env R := ⟨TT, EQT, 0, 20, ownOf [], callOf [en193 F193, en194 F194] R, loopOf [] R, [], inlOf []⟩
def p191 (F193 : FT193) (F194 : FT194) : FT191 := fun R a0 a1 a2 a3 k =>
F193 R a0 a1 fun y1 =>
F193 R a0 a2 fun y2 =>
let v3 := (ixor .u32 y1 y2);
F194 R a0 a3 fun y4 =>
let v5 := (ixor .u32 v3 y4);
k v5
theorem q191 (F193 : FT193) (F194 : FT194) (F : FT191) (R : Type) (x : AT (en191 F).ins) (k : RT (en191 F).outs → PT (en191 F).ins → Option R) :
  xfun (e191 F193 F194 R) (codeOf Tryz.f191) res191 (avs (en191 F).ins x) (finK (en191 F).outs (en191 F).ins k) = p191 F193 F194 R x.1 x.2.1 x.2.2.1 x.2.2.2.1 (fun y1 => k (y1, ()) ()) := by kernel_rfl
noncomputable def F191 : FT191 := p191 F193 F194
theorem env191 (R : Type) : EnvOK Tryz.prog (e191 F193 F194 R) := ⟨tabOK, eqOK, callOf_ok (allE_cons ok193 (allE_cons ok194 allE_nil)), noIns, inlOK_nil⟩
theorem ok191 : (en191 F191).OK Tryz.prog :=
  ent_ok (Ef := fun R => e191 F193 F194 R) (fun R => env191 R) mixed Tryz.func191 (body := codeOf Tryz.f191) (by kernel_rfl) (by kernel_rfl) (np := 0) (nt := 20) (fun _ => rfl) (fun _ => rfl) (by kernel_rfl) (res := res191) (by kernel_rfl) (fun _ => rfl) (fun _ => Nat.le_of_ble_eq_true rfl) (by
    intro R
    rw [show loopsOf (codeOf Tryz.f191) = [] from by kernel_rfl]
    exact allM_nil) (fun R x k => q191 F193 F194 F191 R x k)
abbrev FT186 : Type 1 := (R : Type) → Int → (Int → Option R) → Option R
def en186 (F : FT186) : Ent := ⟨186, [(false, (.int .u32))], [(false, (.int .u32))], fun R x k => F R x.1 (fun y1 => k (y1, ()) ())⟩
def res186 : List (ResultVar × TypeId × Bool) := [(.tmp 2, 84, false)]
noncomputable def e186 (F191 : FT191) (R : Type) : Env R := ⟨TT, EQT, 0, 5, ownOf [], callOf [en191 F191] R, loopOf [] R, [], inlOf []⟩
def p186 (F191 : FT191) : FT186 := fun R a0 k =>
F191 R a0 (17 : Int) (19 : Int) (10 : Int) fun y1 =>
k y1
theorem q186 (F191 : FT191) (F : FT186) (R : Type) (x : AT (en186 F).ins) (k : RT (en186 F).outs → PT (en186 F).ins → Option R) :
  xfun (e186 F191 R) (codeOf Tryz.f186) res186 (avs (en186 F).ins x) (finK (en186 F).outs (en186 F).ins k) = p186 F191 R x.1 (fun y1 => k (y1, ()) ()) := by kernel_rfl
noncomputable def F186 : FT186 := p186 F191
theorem env186 (R : Type) : EnvOK Tryz.prog (e186 F191 R) := ⟨tabOK, eqOK, callOf_ok (allE_cons ok191 allE_nil), noIns, inlOK_nil⟩
theorem ok186 : (en186 F186).OK Tryz.prog :=
  ent_ok (Ef := fun R => e186 F191 R) (fun R => env186 R) mixed Tryz.func186 (body := codeOf Tryz.f186) (by kernel_rfl) (by kernel_rfl) (np := 0) (nt := 5) (fun _ => rfl) (fun _ => rfl) (by kernel_rfl) (res := res186) (by kernel_rfl) (fun _ => rfl) (fun _ => Nat.le_of_ble_eq_true rfl) (by
    intro R
    rw [show loopsOf (codeOf Tryz.f186) = [] from by kernel_rfl]
    exact allM_nil) (fun R x k => q186 F191 F186 R x k)
abbrev FT187 : Type 1 := (R : Type) → Int → (Int → Option R) → Option R
def en187 (F : FT187) : Ent := ⟨187, [(false, (.int .u32))], [(false, (.int .u32))], fun R x k => F R x.1 (fun y1 => k (y1, ()) ())⟩
def res187 : List (ResultVar × TypeId × Bool) := [(.tmp 2, 84, false)]
noncomputable def e187 (F191 : FT191) (R : Type) : Env R := ⟨TT, EQT, 0, 5, ownOf [], callOf [en191 F191] R, loopOf [] R, [], inlOf []⟩
def p187 (F191 : FT191) : FT187 := fun R a0 k =>
F191 R a0 (7 : Int) (18 : Int) (3 : Int) fun y1 =>
k y1
theorem q187 (F191 : FT191) (F : FT187) (R : Type) (x : AT (en187 F).ins) (k : RT (en187 F).outs → PT (en187 F).ins → Option R) :
  xfun (e187 F191 R) (codeOf Tryz.f187) res187 (avs (en187 F).ins x) (finK (en187 F).outs (en187 F).ins k) = p187 F191 R x.1 (fun y1 => k (y1, ()) ()) := by kernel_rfl
noncomputable def F187 : FT187 := p187 F191
theorem env187 (R : Type) : EnvOK Tryz.prog (e187 F191 R) := ⟨tabOK, eqOK, callOf_ok (allE_cons ok191 allE_nil), noIns, inlOK_nil⟩
theorem ok187 : (en187 F187).OK Tryz.prog :=
  ent_ok (Ef := fun R => e187 F191 R) (fun R => env187 R) mixed Tryz.func187 (body := codeOf Tryz.f187) (by kernel_rfl) (by kernel_rfl) (np := 0) (nt := 5) (fun _ => rfl) (fun _ => rfl) (by kernel_rfl) (res := res187) (by kernel_rfl) (fun _ => rfl) (fun _ => Nat.le_of_ble_eq_true rfl) (by
    intro R
    rw [show loopsOf (codeOf Tryz.f187) = [] from by kernel_rfl]
    exact allM_nil) (fun R x k => q187 F191 F187 R x k)
abbrev FT177 : Type 1 := (R : Type) → (List Int) → ((List Int) → Option R) → Option R
def en177 (F : FT177) : Ent := ⟨177, [(false, (.arr 64 (.int .u8)))], [(false, (.arr 64 (.int .u32)))], fun R x k => F R x.1 (fun y1 => k (y1, ()) ())⟩
def res177 : List (ResultVar × TypeId × Bool) := [(.cell 2 214, 214, false)]
abbrev LT177_2 : Type 1 := (R : Type) → Int → (List Int) → (List Int) → ((List Int) → Option R) → Option R
def le177_2 (L : LT177_2) : LEnt := ⟨2, [.fix 1 (.ptr 0 [] (.arr 64 (.int .u8))), .fix 2 (.ptr 1 [] (.arr 64 (.int .u32))), .val 5 (.int .i64), .var 0 (.arr 64 (.int .u8)) false, .var 1 (.arr 64 (.int .u32)) false], 2, [(.exit 0, [.fix 2 (.ptr 1 [] (.arr 64 (.int .u32))), .var 1 (.arr 64 (.int .u32)) false])], fun R x ke => L R x.1 x.2.1 x.2.2.1 (fun y1 => ke.1 (y1, ()))⟩
noncomputable def e177 (F185 : FT185) (F186 : FT186) (F187 : FT187) (L2 : LT177_2) (R : Type) : Env R := ⟨TT, EQT, 0, 46, ownOf [], callOf [en185 F185, en186 F186, en187 F187] R, loopOf [le177_2 L2] R, [], inlOf []⟩
def p177_2 (F185 : FT185) (F186 : FT186) (F187 : FT187) : (R : Type) → Int → (List Int) → (List Int) → (Int → (List Int) → (List Int) → Option R) → ((List Int) → Option R) → Option R := fun R x1 x2 x3 kc k0 =>
let v4 := (decide (x1 < (64 : Int)));
(match v4 with
| true => let v5 := (IntKind.i64.wrap ((4 : Int) * x1));
let v6 := (decide (v5 < (64 : Int)));
(match v6 with
| true => let v7 := (IntKind.i64.wrap (v5 + (4 : Int)));
(match (decide (0 ≤ v5 ∧ v5 ≤ v7 ∧ v7 ≤ (64 : Int))) with
| true => (match (decide ((4 : Int) ≤ ((Int.toNat (v7 - v5)) : Nat))) with
| true => let v8 : (List Int) := (List.take 4 (List.drop (Int.toNat v5) x2));
F185 R v8 fun y9 =>
(match (bnd x1 (64 : Int)) with
| true => let v10 : (List Int) := (List.set x3 (Int.toNat x1) y9);
let v11 := (IntKind.i64.wrap (x1 + (1 : Int)));
kc v11 x2 v10
| false => none)
| false => none)
| false => none)
| false => let v12 := (IntKind.i64.wrap (x1 - (2 : Int)));
(match (bnd v12 (64 : Int)) with
| true => let v13 := (List.getD x3 (Int.toNat v12) (0 : Int));
F186 R v13 fun y14 =>
let v15 := (IntKind.i64.wrap (x1 - (7 : Int)));
(match (bnd v15 (64 : Int)) with
| true => let v16 := (List.getD x3 (Int.toNat v15) (0 : Int));
let v17 := (IntKind.u32.wrap (y14 + v16));
let v18 := (IntKind.i64.wrap (x1 - (15 : Int)));
(match (bnd v18 (64 : Int)) with
| true => let v19 := (List.getD x3 (Int.toNat v18) (0 : Int));
F187 R v19 fun y20 =>
let v21 := (IntKind.u32.wrap (v17 + y20));
let v22 := (IntKind.i64.wrap (x1 - (16 : Int)));
(match (bnd v22 (64 : Int)) with
| true => let v23 := (List.getD x3 (Int.toNat v22) (0 : Int));
let v24 := (IntKind.u32.wrap (v21 + v23));
(match (bnd x1 (64 : Int)) with
| true => let v25 : (List Int) := (List.set x3 (Int.toNat x1) v24);
let v26 := (IntKind.i64.wrap (x1 + (1 : Int)));
kc v26 x2 v25
| false => none)
| false => none)
| false => none)
| false => none)
| false => none))
| false => k0 x3)
theorem q177_2 (F185 : FT185) (F186 : FT186) (F187 : FT187) (L2 : LT177_2) (R : Type) (x : HT (le177_2 L2).H) (kc : HT (le177_2 L2).H → Option R) (ke : KT R (le177_2 L2).exs) :
  exec (e177 F185 F186 F187 L2 R) (lcode 2 (codeOf Tryz.f177)) (stOf (le177_2 L2).H x 2) (roundK (le177_2 L2).H (le177_2 L2).exs kc ke) =
    p177_2 F185 F186 F187 R x.1 x.2.1 x.2.2.1 (fun x1 x2 x3 => kc (x1, x2, x3, ())) (fun y1 => ke.1 (y1, ())) := by kernel_rfl
noncomputable def G177_2 : Nat → LT177_2
  | 0 => fun _ _ _ _ _ => none
  | n + 1 => fun R x1 x2 x3 k0 => p177_2 F185 F186 F187 R x1 x2 x3 (fun x1 x2 x3 => G177_2 n R x1 x2 x3 k0) k0
def p177 (L2 : LT177_2) : FT177 := fun R a0 k =>
L2 R (0 : Int) a0 (List.replicate 64 (0 : Int)) (fun x1 =>
k x1)
theorem q177 (F185 : FT185) (F186 : FT186) (F187 : FT187) (L2 : LT177_2) (F : FT177) (R : Type) (x : AT (en177 F).ins) (k : RT (en177 F).outs → PT (en177 F).ins → Option R) :
  xfun (e177 F185 F186 F187 L2 R) (codeOf Tryz.f177) res177 (avs (en177 F).ins x) (finK (en177 F).outs (en177 F).ins k) = p177 L2 R x.1 (fun y1 => k (y1, ()) ()) := by kernel_rfl
noncomputable def F177 : FT177 := p177 (G177_2 FUEL)
theorem env177 (R : Type) : EnvOK Tryz.prog (e177 F185 F186 F187 (G177_2 FUEL) R) := ⟨tabOK, eqOK, callOf_ok (allE_cons ok185 (allE_cons ok186 (allE_cons ok187 allE_nil))), noIns, inlOK_nil⟩
noncomputable def T177_2 : (R : Type) → HT (le177_2 (G177_2 FUEL)).H → (HT (le177_2 (G177_2 FUEL)).H → Option R) → KT R (le177_2 (G177_2 FUEL)).exs → Option R := fun R x kc ke => p177_2 F185 F186 F187 R x.1 x.2.1 x.2.2.1 (fun x1 x2 x3 => kc (x1, x2, x3, ())) (fun y1 => ke.1 (y1, ()))
theorem it177_2 : ∀ (n : Nat) (R : Type) (x : HT (le177_2 (G177_2 FUEL)).H) (ke : KT R (le177_2 (G177_2 FUEL)).exs), iter T177_2 n R x ke = G177_2 n R x.1 x.2.1 x.2.2.1 (fun y1 => ke.1 (y1, ())) := by
  intro n
  induction n with
  | zero => intro R x ke; rfl
  | succ n ih =>
    intro R x ke
    show T177_2 R x (fun x' => iter T177_2 n R x' ke) ke = _
    rw [show (fun x' => iter T177_2 n R x' ke) = fun x => G177_2 n R x.1 x.2.1 x.2.2.1 (fun y1 => ke.1 (y1, ())) from funext fun x' => ih R x' ke]
    rfl
theorem lok177_2 : (le177_2 (G177_2 FUEL)).OK Tryz.prog 0 46 (lcode 2 (codeOf Tryz.f177)) := fun R x ke r h =>
  iter_sound (fun R => e177 F185 F186 F187 (G177_2 FUEL) R) 0 46 (fun _ => rfl) (fun _ => rfl) (fun R => env177 R) mixed (by
    intro R
    rw [show loopsOf (lcode 2 (codeOf Tryz.f177)) = [] from by kernel_rfl]
    exact allM_nil) (T := T177_2) (fun R x kc ke => q177_2 F185 F186 F187 (G177_2 FUEL) R x kc ke) FUEL R x ke r ((it177_2 FUEL R x ke).trans h)
theorem ok177 : (en177 F177).OK Tryz.prog :=
  ent_ok (Ef := fun R => e177 F185 F186 F187 (G177_2 FUEL) R) (fun R => env177 R) mixed Tryz.func177 (body := codeOf Tryz.f177) (by kernel_rfl) (by kernel_rfl) (np := 0) (nt := 46) (fun _ => rfl) (fun _ => rfl) (by kernel_rfl) (res := res177) (by kernel_rfl) (fun _ => rfl) (fun _ => Nat.le_of_ble_eq_true rfl) (by
    intro R
    rw [show loopsOf (codeOf Tryz.f177) = [lcode 2 (codeOf Tryz.f177)] from by kernel_rfl]
    exact (allM_cons (loop_ok2 (e := le177_2 (G177_2 FUEL)) rfl rfl lok177_2) allM_nil)) (fun R x k => q177 F185 F186 F187 (G177_2 FUEL) F177 R x k)
abbrev FT192 : Type 1 := (R : Type) → Int → Int → Int → Int → (Int → Option R) → Option R
def en192 (F : FT192) : Ent := ⟨192, [(false, (.int .u32)), (false, (.int .i64)), (false, (.int .i64)), (false, (.int .i64))], [(false, (.int .u32))], fun R x k => F R x.1 x.2.1 x.2.2.1 x.2.2.2.1 (fun y1 => k (y1, ()) ())⟩
def res192 : List (ResultVar × TypeId × Bool) := [(.tmp 8, 84, false)]
noncomputable def e192 (F193 : FT193) (R : Type) : Env R := ⟨TT, EQT, 0, 20, ownOf [], callOf [en193 F193] R, loopOf [] R, [], inlOf []⟩
def p192 (F193 : FT193) : FT192 := fun R a0 a1 a2 a3 k =>
F193 R a0 a1 fun y1 =>
F193 R a0 a2 fun y2 =>
let v3 := (ixor .u32 y1 y2);
F193 R a0 a3 fun y4 =>
let v5 := (ixor .u32 v3 y4);
k v5
theorem q192 (F193 : FT193) (F : FT192) (R : Type) (x : AT (en192 F).ins) (k : RT (en192 F).outs → PT (en192 F).ins → Option R) :
  xfun (e192 F193 R) (codeOf Tryz.f192) res192 (avs (en192 F).ins x) (finK (en192 F).outs (en192 F).ins k) = p192 F193 R x.1 x.2.1 x.2.2.1 x.2.2.2.1 (fun y1 => k (y1, ()) ()) := by kernel_rfl
noncomputable def F192 : FT192 := p192 F193
theorem env192 (R : Type) : EnvOK Tryz.prog (e192 F193 R) := ⟨tabOK, eqOK, callOf_ok (allE_cons ok193 allE_nil), noIns, inlOK_nil⟩
theorem ok192 : (en192 F192).OK Tryz.prog :=
  ent_ok (Ef := fun R => e192 F193 R) (fun R => env192 R) mixed Tryz.func192 (body := codeOf Tryz.f192) (by kernel_rfl) (by kernel_rfl) (np := 0) (nt := 20) (fun _ => rfl) (fun _ => rfl) (by kernel_rfl) (res := res192) (by kernel_rfl) (fun _ => rfl) (fun _ => Nat.le_of_ble_eq_true rfl) (by
    intro R
    rw [show loopsOf (codeOf Tryz.f192) = [] from by kernel_rfl]
    exact allM_nil) (fun R x k => q192 F193 F192 R x k)
abbrev FT188 : Type 1 := (R : Type) → Int → Int → Int → (Int → Option R) → Option R
def en188 (F : FT188) : Ent := ⟨188, [(false, (.int .u32)), (false, (.int .u32)), (false, (.int .u32))], [(false, (.int .u32))], fun R x k => F R x.1 x.2.1 x.2.2.1 (fun y1 => k (y1, ()) ())⟩
def res188 : List (ResultVar × TypeId × Bool) := [(.tmp 6, 84, false)]
noncomputable def e188 (F192 : FT192) (R : Type) : Env R := ⟨TT, EQT, 0, 18, ownOf [], callOf [en192 F192] R, loopOf [] R, [], inlOf []⟩
def p188 (F192 : FT192) : FT188 := fun R a0 a1 a2 k =>
F192 R a0 (6 : Int) (11 : Int) (25 : Int) fun y1 =>
let v2 := (iand .u32 a0 a1);
let v3 := (ixor .u32 (4294967295 : Int) a0);
let v4 := (iand .u32 v3 a2);
let v5 := (ixor .u32 v2 v4);
let v6 := (IntKind.u32.wrap (y1 + v5));
k v6
theorem q188 (F192 : FT192) (F : FT188) (R : Type) (x : AT (en188 F).ins) (k : RT (en188 F).outs → PT (en188 F).ins → Option R) :
  xfun (e188 F192 R) (codeOf Tryz.f188) res188 (avs (en188 F).ins x) (finK (en188 F).outs (en188 F).ins k) = p188 F192 R x.1 x.2.1 x.2.2.1 (fun y1 => k (y1, ()) ()) := by kernel_rfl
noncomputable def F188 : FT188 := p188 F192
theorem env188 (R : Type) : EnvOK Tryz.prog (e188 F192 R) := ⟨tabOK, eqOK, callOf_ok (allE_cons ok192 allE_nil), noIns, inlOK_nil⟩
theorem ok188 : (en188 F188).OK Tryz.prog :=
  ent_ok (Ef := fun R => e188 F192 R) (fun R => env188 R) mixed Tryz.func188 (body := codeOf Tryz.f188) (by kernel_rfl) (by kernel_rfl) (np := 0) (nt := 18) (fun _ => rfl) (fun _ => rfl) (by kernel_rfl) (res := res188) (by kernel_rfl) (fun _ => rfl) (fun _ => Nat.le_of_ble_eq_true rfl) (by
    intro R
    rw [show loopsOf (codeOf Tryz.f188) = [] from by kernel_rfl]
    exact allM_nil) (fun R x k => q188 F192 F188 R x k)
abbrev FT189 : Type 1 := (R : Type) → Int → Int → Int → (Int → Option R) → Option R
def en189 (F : FT189) : Ent := ⟨189, [(false, (.int .u32)), (false, (.int .u32)), (false, (.int .u32))], [(false, (.int .u32))], fun R x k => F R x.1 x.2.1 x.2.2.1 (fun y1 => k (y1, ()) ())⟩
def res189 : List (ResultVar × TypeId × Bool) := [(.tmp 6, 84, false)]
noncomputable def e189 (F192 : FT192) (R : Type) : Env R := ⟨TT, EQT, 0, 21, ownOf [], callOf [en192 F192] R, loopOf [] R, [], inlOf []⟩
def p189 (F192 : FT192) : FT189 := fun R a0 a1 a2 k =>
F192 R a0 (2 : Int) (13 : Int) (22 : Int) fun y1 =>
let v2 := (iand .u32 a0 a1);
let v3 := (iand .u32 a0 a2);
let v4 := (ixor .u32 v2 v3);
let v5 := (iand .u32 a1 a2);
let v6 := (ixor .u32 v4 v5);
let v7 := (IntKind.u32.wrap (y1 + v6));
k v7
theorem q189 (F192 : FT192) (F : FT189) (R : Type) (x : AT (en189 F).ins) (k : RT (en189 F).outs → PT (en189 F).ins → Option R) :
  xfun (e189 F192 R) (codeOf Tryz.f189) res189 (avs (en189 F).ins x) (finK (en189 F).outs (en189 F).ins k) = p189 F192 R x.1 x.2.1 x.2.2.1 (fun y1 => k (y1, ()) ()) := by kernel_rfl
noncomputable def F189 : FT189 := p189 F192
theorem env189 (R : Type) : EnvOK Tryz.prog (e189 F192 R) := ⟨tabOK, eqOK, callOf_ok (allE_cons ok192 allE_nil), noIns, inlOK_nil⟩
theorem ok189 : (en189 F189).OK Tryz.prog :=
  ent_ok (Ef := fun R => e189 F192 R) (fun R => env189 R) mixed Tryz.func189 (body := codeOf Tryz.f189) (by kernel_rfl) (by kernel_rfl) (np := 0) (nt := 21) (fun _ => rfl) (fun _ => rfl) (by kernel_rfl) (res := res189) (by kernel_rfl) (fun _ => rfl) (fun _ => Nat.le_of_ble_eq_true rfl) (by
    intro R
    rw [show loopsOf (codeOf Tryz.f189) = [] from by kernel_rfl]
    exact allM_nil) (fun R x k => q189 F192 F189 R x k)
abbrev FT178 : Type 1 := (R : Type) → (List Int) → Int → Int → ((List Int) → Option R) → Option R
def en178 (F : FT178) : Ent := ⟨178, [(false, (.arr 8 (.int .u32))), (false, (.int .u32)), (false, (.int .u32))], [(false, (.arr 8 (.int .u32)))], fun R x k => F R x.1 x.2.1 x.2.2.1 (fun y1 => k (y1, ()) ())⟩
def res178 : List (ResultVar × TypeId × Bool) := [(.cell 6 186, 186, false)]
noncomputable def e178 (F188 : FT188) (F189 : FT189) (R : Type) : Env R := ⟨TT, EQT, 0, 41, ownOf [], callOf [en188 F188, en189 F189] R, loopOf [] R, [], inlOf []⟩
def p178 (F188 : FT188) (F189 : FT189) : FT178 := fun R a0 a1 a2 k =>
let v1 := (List.getD a0 7 (0 : Int));
let v2 := (List.getD a0 4 (0 : Int));
let v3 := (List.getD a0 5 (0 : Int));
let v4 := (List.getD a0 6 (0 : Int));
F188 R v2 v3 v4 fun y5 =>
let v6 := (IntKind.u32.wrap (v1 + y5));
let v7 := (IntKind.u32.wrap (v6 + a2));
let v8 := (IntKind.u32.wrap (v7 + a1));
let v9 : (List Int) := (lay (List.replicate 8 (0 : Int)) 1 (List.take 7 (List.take 7 (List.drop 0 a0))));
let v10 := (List.getD a0 0 (0 : Int));
let v11 := (List.getD a0 1 (0 : Int));
let v12 := (List.getD a0 2 (0 : Int));
F189 R v10 v11 v12 fun y13 =>
let v14 := (IntKind.u32.wrap (v8 + y13));
let v15 : (List Int) := (List.set v9 0 v14);
let v16 := (List.getD v15 4 (0 : Int));
let v17 := (IntKind.u32.wrap (v16 + v8));
let v18 : (List Int) := (List.set v15 4 v17);
k v18
theorem q178 (F188 : FT188) (F189 : FT189) (F : FT178) (R : Type) (x : AT (en178 F).ins) (k : RT (en178 F).outs → PT (en178 F).ins → Option R) :
  xfun (e178 F188 F189 R) (codeOf Tryz.f178) res178 (avs (en178 F).ins x) (finK (en178 F).outs (en178 F).ins k) = p178 F188 F189 R x.1 x.2.1 x.2.2.1 (fun y1 => k (y1, ()) ()) := by kernel_rfl
noncomputable def F178 : FT178 := p178 F188 F189
theorem env178 (R : Type) : EnvOK Tryz.prog (e178 F188 F189 R) := ⟨tabOK, eqOK, callOf_ok (allE_cons ok188 (allE_cons ok189 allE_nil)), noIns, inlOK_nil⟩
theorem ok178 : (en178 F178).OK Tryz.prog :=
  ent_ok (Ef := fun R => e178 F188 F189 R) (fun R => env178 R) mixed Tryz.func178 (body := codeOf Tryz.f178) (by kernel_rfl) (by kernel_rfl) (np := 0) (nt := 41) (fun _ => rfl) (fun _ => rfl) (by kernel_rfl) (res := res178) (by kernel_rfl) (fun _ => rfl) (fun _ => Nat.le_of_ble_eq_true rfl) (by
    intro R
    rw [show loopsOf (codeOf Tryz.f178) = [] from by kernel_rfl]
    exact allM_nil) (fun R x k => q178 F188 F189 F178 R x k)
abbrev FT171 : Type 1 := (R : Type) → (List Int) → (List Int) → ((List Int) → Option R) → Option R
def en171 (F : FT171) : Ent := ⟨171, [(false, (.arr 8 (.int .u32))), (false, (.arr 64 (.int .u8)))], [(false, (.arr 8 (.int .u32)))], fun R x k => F R x.1 x.2.1 (fun y1 => k (y1, ()) ())⟩
def res171 : List (ResultVar × TypeId × Bool) := [(.cell 4 186, 186, false)]
abbrev LT171_3 : Type 1 := (R : Type) → (List Int) → Int → (List Int) → (List Int) → (List Int) → (List Int) → ((List Int) → (List Int) → (List Int) → Option R) → Option R
def le171_3 (L : LT171_3) : LEnt := ⟨3, [.fix 2 (.ptr 0 [] (.arr 8 (.int .u32))), .fix 4 (.ptr 2 [] (.arr 8 (.int .u32))), .fix 5 (.ptr 3 [] (.arr 8 (.int .u32))), .fix 6 (.ptr 4 [] (.arr 64 (.int .u32))), .val 13 (.arr 64 (.int .u32)), .val 14 (.int .i64), .var 0 (.arr 8 (.int .u32)) false, .var 2 (.arr 8 (.int .u32)) false, .var 3 (.arr 8 (.int .u32)) false, .var 4 (.arr 64 (.int .u32)) false], 5, [(.exit 0, [.fix 2 (.ptr 0 [] (.arr 8 (.int .u32))), .fix 4 (.ptr 2 [] (.arr 8 (.int .u32))), .fix 5 (.ptr 3 [] (.arr 8 (.int .u32))), .var 0 (.arr 8 (.int .u32)) false, .var 2 (.arr 8 (.int .u32)) false, .var 3 (.arr 8 (.int .u32)) false])], fun R x ke => L R x.1 x.2.1 x.2.2.1 x.2.2.2.1 x.2.2.2.2.1 x.2.2.2.2.2.1 (fun y1 y2 y3 => ke.1 (y1, y2, y3, ()))⟩
abbrev LT171_8 : Type 1 := (R : Type) → Int → (List Int) → (List Int) → (List Int) → ((List Int) → (List Int) → Option R) → Option R
def le171_8 (L : LT171_8) : LEnt := ⟨8, [.fix 2 (.ptr 0 [] (.arr 8 (.int .u32))), .fix 4 (.ptr 2 [] (.arr 8 (.int .u32))), .fix 5 (.ptr 3 [] (.arr 8 (.int .u32))), .val 25 (.int .i64), .var 0 (.arr 8 (.int .u32)) false, .var 2 (.arr 8 (.int .u32)) false, .var 3 (.arr 8 (.int .u32)) false], 4, [(.exit 2, [.fix 4 (.ptr 2 [] (.arr 8 (.int .u32))), .fix 5 (.ptr 3 [] (.arr 8 (.int .u32))), .var 2 (.arr 8 (.int .u32)) false, .var 3 (.arr 8 (.int .u32)) false])], fun R x ke => L R x.1 x.2.1 x.2.2.1 x.2.2.2.1 (fun y1 y2 => ke.1 (y1, y2, ()))⟩
noncomputable def e171 (F176 : FT176) (F177 : FT177) (F178 : FT178) (L3 : LT171_3) (L8 : LT171_8) (R : Type) : Env R := ⟨TT, EQT, 0, 38, ownOf [], callOf [en176 F176, en177 F177, en178 F178] R, loopOf [le171_3 L3, le171_8 L8] R, [], inlOf []⟩
def p171_3 (F178 : FT178) : (R : Type) → (List Int) → Int → (List Int) → (List Int) → (List Int) → (List Int) → ((List Int) → Int → (List Int) → (List Int) → (List Int) → (List Int) → Option R) → ((List Int) → (List Int) → (List Int) → Option R) → Option R := fun R x1 x2 x3 x4 x5 x6 kc k0 =>
let v7 := (decide (x2 < (64 : Int)));
(match v7 with
| true => (match (bnd x2 (64 : Int)) with
| true => let v8 := (List.getD x1 (Int.toNat x2) (0 : Int));
(match (bnd x2 (64 : Int)) with
| true => let v9 := (List.getD x6 (Int.toNat x2) (0 : Int));
F178 R x5 v8 v9 fun y10 =>
let v11 := (IntKind.i64.wrap (x2 + (1 : Int)));
kc x1 v11 x3 x4 y10 x6
| false => none)
| false => none)
| false => k0 x3 x4 x5)
theorem q171_3 (F176 : FT176) (F177 : FT177) (F178 : FT178) (L3 : LT171_3) (L8 : LT171_8) (R : Type) (x : HT (le171_3 L3).H) (kc : HT (le171_3 L3).H → Option R) (ke : KT R (le171_3 L3).exs) :
  exec (e171 F176 F177 F178 L3 L8 R) (lcode 3 (codeOf Tryz.f171)) (stOf (le171_3 L3).H x 5) (roundK (le171_3 L3).H (le171_3 L3).exs kc ke) =
    p171_3 F178 R x.1 x.2.1 x.2.2.1 x.2.2.2.1 x.2.2.2.2.1 x.2.2.2.2.2.1 (fun x1 x2 x3 x4 x5 x6 => kc (x1, x2, x3, x4, x5, x6, ())) (fun y1 y2 y3 => ke.1 (y1, y2, y3, ())) := by kernel_rfl
noncomputable def G171_3 : Nat → LT171_3
  | 0 => fun _ _ _ _ _ _ _ _ => none
  | n + 1 => fun R x1 x2 x3 x4 x5 x6 k0 => p171_3 F178 R x1 x2 x3 x4 x5 x6 (fun x1 x2 x3 x4 x5 x6 => G171_3 n R x1 x2 x3 x4 x5 x6 k0) k0
def p171_8 : (R : Type) → Int → (List Int) → (List Int) → (List Int) → (Int → (List Int) → (List Int) → (List Int) → Option R) → ((List Int) → (List Int) → Option R) → Option R := fun R x1 x2 x3 x4 kc k0 =>
let v5 := (decide (x1 < (8 : Int)));
(match v5 with
| true => (match (bnd x1 (8 : Int)) with
| true => let v6 := (List.getD x4 (Int.toNat x1) (0 : Int));
(match (bnd x1 (8 : Int)) with
| true => let v7 := (List.getD x2 (Int.toNat x1) (0 : Int));
let v8 := (IntKind.u32.wrap (v6 + v7));
(match (bnd x1 (8 : Int)) with
| true => let v9 : (List Int) := (List.set x4 (Int.toNat x1) v8);
let v10 := (IntKind.i64.wrap (x1 + (1 : Int)));
kc v10 x2 x3 v9
| false => none)
| false => none)
| false => none)
| false => k0 x3 x4)
theorem q171_8 (F176 : FT176) (F177 : FT177) (F178 : FT178) (L3 : LT171_3) (L8 : LT171_8) (R : Type) (x : HT (le171_8 L8).H) (kc : HT (le171_8 L8).H → Option R) (ke : KT R (le171_8 L8).exs) :
  exec (e171 F176 F177 F178 L3 L8 R) (lcode 8 (codeOf Tryz.f171)) (stOf (le171_8 L8).H x 4) (roundK (le171_8 L8).H (le171_8 L8).exs kc ke) =
    p171_8 R x.1 x.2.1 x.2.2.1 x.2.2.2.1 (fun x1 x2 x3 x4 => kc (x1, x2, x3, x4, ())) (fun y1 y2 => ke.1 (y1, y2, ())) := by kernel_rfl
noncomputable def G171_8 : Nat → LT171_8
  | 0 => fun _ _ _ _ _ _ => none
  | n + 1 => fun R x1 x2 x3 x4 k0 => p171_8 R x1 x2 x3 x4 (fun x1 x2 x3 x4 => G171_8 n R x1 x2 x3 x4 k0) k0
def p171 (F176 : FT176) (F177 : FT177) (L3 : LT171_3) (L8 : LT171_8) : FT171 := fun R a0 a1 k =>
F176 R  fun y1 =>
F177 R a1 fun y2 =>
L3 R y2 (0 : Int) a0 (List.replicate 8 (0 : Int)) a0 y1 (fun x3 x4 x5 =>
L8 R (0 : Int) x3 x4 x5 (fun x6 x7 =>
k x7))
theorem q171 (F176 : FT176) (F177 : FT177) (F178 : FT178) (L3 : LT171_3) (L8 : LT171_8) (F : FT171) (R : Type) (x : AT (en171 F).ins) (k : RT (en171 F).outs → PT (en171 F).ins → Option R) :
  xfun (e171 F176 F177 F178 L3 L8 R) (codeOf Tryz.f171) res171 (avs (en171 F).ins x) (finK (en171 F).outs (en171 F).ins k) = p171 F176 F177 L3 L8 R x.1 x.2.1 (fun y1 => k (y1, ()) ()) := by kernel_rfl
noncomputable def F171 : FT171 := p171 F176 F177 (G171_3 FUEL) (G171_8 FUEL)
theorem env171 (R : Type) : EnvOK Tryz.prog (e171 F176 F177 F178 (G171_3 FUEL) (G171_8 FUEL) R) := ⟨tabOK, eqOK, callOf_ok (allE_cons ok176 (allE_cons ok177 (allE_cons ok178 allE_nil))), noIns, inlOK_nil⟩
noncomputable def T171_3 : (R : Type) → HT (le171_3 (G171_3 FUEL)).H → (HT (le171_3 (G171_3 FUEL)).H → Option R) → KT R (le171_3 (G171_3 FUEL)).exs → Option R := fun R x kc ke => p171_3 F178 R x.1 x.2.1 x.2.2.1 x.2.2.2.1 x.2.2.2.2.1 x.2.2.2.2.2.1 (fun x1 x2 x3 x4 x5 x6 => kc (x1, x2, x3, x4, x5, x6, ())) (fun y1 y2 y3 => ke.1 (y1, y2, y3, ()))
theorem it171_3 : ∀ (n : Nat) (R : Type) (x : HT (le171_3 (G171_3 FUEL)).H) (ke : KT R (le171_3 (G171_3 FUEL)).exs), iter T171_3 n R x ke = G171_3 n R x.1 x.2.1 x.2.2.1 x.2.2.2.1 x.2.2.2.2.1 x.2.2.2.2.2.1 (fun y1 y2 y3 => ke.1 (y1, y2, y3, ())) := by
  intro n
  induction n with
  | zero => intro R x ke; rfl
  | succ n ih =>
    intro R x ke
    show T171_3 R x (fun x' => iter T171_3 n R x' ke) ke = _
    rw [show (fun x' => iter T171_3 n R x' ke) = fun x => G171_3 n R x.1 x.2.1 x.2.2.1 x.2.2.2.1 x.2.2.2.2.1 x.2.2.2.2.2.1 (fun y1 y2 y3 => ke.1 (y1, y2, y3, ())) from funext fun x' => ih R x' ke]
    rfl
theorem lok171_3 : (le171_3 (G171_3 FUEL)).OK Tryz.prog 0 38 (lcode 3 (codeOf Tryz.f171)) := fun R x ke r h =>
  iter_sound (fun R => e171 F176 F177 F178 (G171_3 FUEL) (G171_8 FUEL) R) 0 38 (fun _ => rfl) (fun _ => rfl) (fun R => env171 R) mixed (by
    intro R
    rw [show loopsOf (lcode 3 (codeOf Tryz.f171)) = [] from by kernel_rfl]
    exact allM_nil) (T := T171_3) (fun R x kc ke => q171_3 F176 F177 F178 (G171_3 FUEL) (G171_8 FUEL) R x kc ke) FUEL R x ke r ((it171_3 FUEL R x ke).trans h)
noncomputable def T171_8 : (R : Type) → HT (le171_8 (G171_8 FUEL)).H → (HT (le171_8 (G171_8 FUEL)).H → Option R) → KT R (le171_8 (G171_8 FUEL)).exs → Option R := fun R x kc ke => p171_8 R x.1 x.2.1 x.2.2.1 x.2.2.2.1 (fun x1 x2 x3 x4 => kc (x1, x2, x3, x4, ())) (fun y1 y2 => ke.1 (y1, y2, ()))
theorem it171_8 : ∀ (n : Nat) (R : Type) (x : HT (le171_8 (G171_8 FUEL)).H) (ke : KT R (le171_8 (G171_8 FUEL)).exs), iter T171_8 n R x ke = G171_8 n R x.1 x.2.1 x.2.2.1 x.2.2.2.1 (fun y1 y2 => ke.1 (y1, y2, ())) := by
  intro n
  induction n with
  | zero => intro R x ke; rfl
  | succ n ih =>
    intro R x ke
    show T171_8 R x (fun x' => iter T171_8 n R x' ke) ke = _
    rw [show (fun x' => iter T171_8 n R x' ke) = fun x => G171_8 n R x.1 x.2.1 x.2.2.1 x.2.2.2.1 (fun y1 y2 => ke.1 (y1, y2, ())) from funext fun x' => ih R x' ke]
    rfl
theorem lok171_8 : (le171_8 (G171_8 FUEL)).OK Tryz.prog 0 38 (lcode 8 (codeOf Tryz.f171)) := fun R x ke r h =>
  iter_sound (fun R => e171 F176 F177 F178 (G171_3 FUEL) (G171_8 FUEL) R) 0 38 (fun _ => rfl) (fun _ => rfl) (fun R => env171 R) mixed (by
    intro R
    rw [show loopsOf (lcode 8 (codeOf Tryz.f171)) = [] from by kernel_rfl]
    exact allM_nil) (T := T171_8) (fun R x kc ke => q171_8 F176 F177 F178 (G171_3 FUEL) (G171_8 FUEL) R x kc ke) FUEL R x ke r ((it171_8 FUEL R x ke).trans h)
theorem ok171 : (en171 F171).OK Tryz.prog :=
  ent_ok (Ef := fun R => e171 F176 F177 F178 (G171_3 FUEL) (G171_8 FUEL) R) (fun R => env171 R) mixed Tryz.func171 (body := codeOf Tryz.f171) (by kernel_rfl) (by kernel_rfl) (np := 0) (nt := 38) (fun _ => rfl) (fun _ => rfl) (by kernel_rfl) (res := res171) (by kernel_rfl) (fun _ => rfl) (fun _ => Nat.le_of_ble_eq_true rfl) (by
    intro R
    rw [show loopsOf (codeOf Tryz.f171) = [lcode 3 (codeOf Tryz.f171), lcode 8 (codeOf Tryz.f171)] from by kernel_rfl]
    exact (allM_cons (loop_ok2 (e := le171_3 (G171_3 FUEL)) rfl rfl lok171_3) (allM_cons (loop_ok2 (e := le171_8 (G171_8 FUEL)) rfl rfl lok171_8) allM_nil))) (fun R x k => q171 F176 F177 F178 (G171_3 FUEL) (G171_8 FUEL) F171 R x k)
abbrev FT163 : Type 1 := (R : Type) → Tq10 → (List Int) → ((List Int) → Tq10 → Option R) → Option R
def en163 (F : FT163) : Ent := ⟨163, [(true, Kq10), (false, (.sl (.int .u8)))], [(false, (.sl (.int .u8)))], fun R x k => F R x.1 x.2.1 (fun y1 p1 => k (y1, ()) (p1, ()))⟩
def res163 : List (ResultVar × TypeId × Bool) := [(.tmp 4, 26, false)]
abbrev LT163_3 : Type 1 := (R : Type) → (List Int) → (List (List Int)) → Int → Int → Tq10 → ((List Int) → Tq10 → Option R) → Option R
def le163_3 (L : LT163_3) : LEnt := ⟨3, [.fix 0 (.ptr 0 [] Kq10), .val 6 (.sl (.int .u8)), .val 14 (.sl (.arr 64 (.int .u8))), .val 15 (.int .i64), .val 16 (.int .i64), .var 0 Kq10 false], 1, [(.exit 0, [.val 6 (.sl (.int .u8)), .var 0 Kq10 false])], fun R x ke => L R x.1 x.2.1 x.2.2.1 x.2.2.2.1 x.2.2.2.2.1 (fun y1 y2 => ke.1 (y1, y2, ()))⟩
noncomputable def e163 (F170 : FT170) (F171 : FT171) (L3 : LT163_3) (R : Type) : Env R := ⟨TT, EQT, 1, 33, ownOf [], callOf [en170 F170, en171 F171] R, loopOf [le163_3 L3] R, [], inlOf []⟩
def p163_3 (F171 : FT171) : (R : Type) → (List Int) → (List (List Int)) → Int → Int → Tq10 → ((List Int) → (List (List Int)) → Int → Int → Tq10 → Option R) → ((List Int) → Tq10 → Option R) → Option R := fun R x1 x2 x3 x4 x5 kc k0 =>
let v6 := (decide (x4 < x3));
(match v6 with
| true => (match (bnd x4 (List.length x2 : Int)) with
| true => let v7 : (List Int) := (List.getD x2 (Int.toNat x4) (List.replicate 64 (0 : Int)));
F171 R x5.1.1 v7 fun y8 =>
let v9 := (IntKind.i64.wrap (x4 + (1 : Int)));
kc x1 x2 x3 v9 ((y8, x5.1.2), x5.2)
| false => none)
| false => k0 x1 x5)
theorem q163_3 (F170 : FT170) (F171 : FT171) (L3 : LT163_3) (R : Type) (x : HT (le163_3 L3).H) (kc : HT (le163_3 L3).H → Option R) (ke : KT R (le163_3 L3).exs) :
  exec (e163 F170 F171 L3 R) (lcode 3 (codeOf Tryz.f163)) (stOf (le163_3 L3).H x 1) (roundK (le163_3 L3).H (le163_3 L3).exs kc ke) =
    p163_3 F171 R x.1 x.2.1 x.2.2.1 x.2.2.2.1 x.2.2.2.2.1 (fun x1 x2 x3 x4 x5 => kc (x1, x2, x3, x4, x5, ())) (fun y1 y2 => ke.1 (y1, y2, ())) := by kernel_rfl
noncomputable def G163_3 : Nat → LT163_3
  | 0 => fun _ _ _ _ _ _ _ => none
  | n + 1 => fun R x1 x2 x3 x4 x5 k0 => p163_3 F171 R x1 x2 x3 x4 x5 (fun x1 x2 x3 x4 x5 => G163_3 n R x1 x2 x3 x4 x5 k0) k0
def p163 (F170 : FT170) (L3 : LT163_3) : FT163 := fun R a0 a1 k =>
F170 R a1 fun y1 y2 =>
let v3 := (List.length y1 : Int);
L3 R y2 y1 v3 (0 : Int) a0 (fun x4 x5 =>
k x4 x5)
theorem q163 (F170 : FT170) (F171 : FT171) (L3 : LT163_3) (F : FT163) (R : Type) (x : AT (en163 F).ins) (k : RT (en163 F).outs → PT (en163 F).ins → Option R) :
  xfun (e163 F170 F171 L3 R) (codeOf Tryz.f163) res163 (avs (en163 F).ins x) (finK (en163 F).outs (en163 F).ins k) = p163 F170 L3 R x.1 x.2.1 (fun y1 p1 => k (y1, ()) (p1, ())) := by kernel_rfl
noncomputable def F163 : FT163 := p163 F170 (G163_3 FUEL)
theorem env163 (R : Type) : EnvOK Tryz.prog (e163 F170 F171 (G163_3 FUEL) R) := ⟨tabOK, eqOK, callOf_ok (allE_cons ok170 (allE_cons ok171 allE_nil)), noIns, inlOK_nil⟩
noncomputable def T163_3 : (R : Type) → HT (le163_3 (G163_3 FUEL)).H → (HT (le163_3 (G163_3 FUEL)).H → Option R) → KT R (le163_3 (G163_3 FUEL)).exs → Option R := fun R x kc ke => p163_3 F171 R x.1 x.2.1 x.2.2.1 x.2.2.2.1 x.2.2.2.2.1 (fun x1 x2 x3 x4 x5 => kc (x1, x2, x3, x4, x5, ())) (fun y1 y2 => ke.1 (y1, y2, ()))
theorem it163_3 : ∀ (n : Nat) (R : Type) (x : HT (le163_3 (G163_3 FUEL)).H) (ke : KT R (le163_3 (G163_3 FUEL)).exs), iter T163_3 n R x ke = G163_3 n R x.1 x.2.1 x.2.2.1 x.2.2.2.1 x.2.2.2.2.1 (fun y1 y2 => ke.1 (y1, y2, ())) := by
  intro n
  induction n with
  | zero => intro R x ke; rfl
  | succ n ih =>
    intro R x ke
    show T163_3 R x (fun x' => iter T163_3 n R x' ke) ke = _
    rw [show (fun x' => iter T163_3 n R x' ke) = fun x => G163_3 n R x.1 x.2.1 x.2.2.1 x.2.2.2.1 x.2.2.2.2.1 (fun y1 y2 => ke.1 (y1, y2, ())) from funext fun x' => ih R x' ke]
    rfl
theorem lok163_3 : (le163_3 (G163_3 FUEL)).OK Tryz.prog 1 33 (lcode 3 (codeOf Tryz.f163)) := fun R x ke r h =>
  iter_sound (fun R => e163 F170 F171 (G163_3 FUEL) R) 1 33 (fun _ => rfl) (fun _ => rfl) (fun R => env163 R) mixed (by
    intro R
    rw [show loopsOf (lcode 3 (codeOf Tryz.f163)) = [] from by kernel_rfl]
    exact allM_nil) (T := T163_3) (fun R x kc ke => q163_3 F170 F171 (G163_3 FUEL) R x kc ke) FUEL R x ke r ((it163_3 FUEL R x ke).trans h)
theorem ok163 : (en163 F163).OK Tryz.prog :=
  ent_ok (Ef := fun R => e163 F170 F171 (G163_3 FUEL) R) (fun R => env163 R) mixed Tryz.func163 (body := codeOf Tryz.f163) (by kernel_rfl) (by kernel_rfl) (np := 1) (nt := 33) (fun _ => rfl) (fun _ => rfl) (by kernel_rfl) (res := res163) (by kernel_rfl) (fun _ => rfl) (fun _ => Nat.le_of_ble_eq_true rfl) (by
    intro R
    rw [show loopsOf (codeOf Tryz.f163) = [lcode 3 (codeOf Tryz.f163)] from by kernel_rfl]
    exact (allM_cons (loop_ok2 (e := le163_3 (G163_3 FUEL)) rfl rfl lok163_3) allM_nil)) (fun R x k => q163 F170 F171 (G163_3 FUEL) F163 R x k)
abbrev FT160 : Type 1 := (R : Type) → Tq10 → (List Int) → (Tq10 → Option R) → Option R
def en160 (F : FT160) : Ent := ⟨160, [(true, Kq10), (false, (.sl (.int .u8)))], [], fun R x k => F R x.1 x.2.1 (fun p1 => k () (p1, ()))⟩
def res160 : List (ResultVar × TypeId × Bool) := []
noncomputable def e160 (F163 : FT163) (F168 : FT168) (R : Type) : Env R := ⟨TT, EQT, 1, 30, ownOf [], callOf [en163 F163, en168 F168] R, loopOf [] R, [], inlOf []⟩
def p160 (F163 : FT163) (F168 : FT168) : FT160 := fun R a0 a1 k =>
let v1 := (List.length a1 : Int);
let v2 := (IntKind.u64.wrap v1);
let v3 := (IntKind.u64.wrap (a0.1.2.2.1 + v2));
F168 R a0.1.2.1 fun y4 =>
(match (decide (List.length y4 + List.length a1 ≤ 140737488355328)) with
| true => let v5 : (List Int) := (y4 ++ a1);
F163 R ((a0.1.1, a0.1.2.1, v3, a0.1.2.2.2), a0.2) v5 fun y6 p7 =>
k ((p7.1.1, y6, p7.1.2.2), p7.2)
| false => none)
theorem q160 (F163 : FT163) (F168 : FT168) (F : FT160) (R : Type) (x : AT (en160 F).ins) (k : RT (en160 F).outs → PT (en160 F).ins → Option R) :
  xfun (e160 F163 F168 R) (codeOf Tryz.f160) res160 (avs (en160 F).ins x) (finK (en160 F).outs (en160 F).ins k) = p160 F163 F168 R x.1 x.2.1 (fun p1 => k () (p1, ())) := by kernel_rfl
noncomputable def F160 : FT160 := p160 F163 F168
theorem env160 (R : Type) : EnvOK Tryz.prog (e160 F163 F168 R) := ⟨tabOK, eqOK, callOf_ok (allE_cons ok163 (allE_cons ok168 allE_nil)), noIns, inlOK_nil⟩
theorem ok160 : (en160 F160).OK Tryz.prog :=
  ent_ok (Ef := fun R => e160 F163 F168 R) (fun R => env160 R) mixed Tryz.func160 (body := codeOf Tryz.f160) (by kernel_rfl) (by kernel_rfl) (np := 1) (nt := 30) (fun _ => rfl) (fun _ => rfl) (by kernel_rfl) (res := res160) (by kernel_rfl) (fun _ => rfl) (fun _ => Nat.le_of_ble_eq_true rfl) (by
    intro R
    rw [show loopsOf (codeOf Tryz.f160) = [] from by kernel_rfl]
    exact allM_nil) (fun R x k => q160 F163 F168 F160 R x k)
abbrev FT151 : Type 1 := (R : Type) → Tq9 → (List (List Int)) → (Tq9 → Int → Option R) → Option R
def en151 (F : FT151) : Ent := ⟨151, [(false, Kq9), (false, (.sl (.sl (.int .u8))))], [(false, Kq9), (false, (.int .i64))], fun R x k => F R x.1 x.2.1 (fun y1 y2 => k (y1, y2, ()) ())⟩
def res151 : List (ResultVar × TypeId × Bool) := [(.cell 4 188, 188, false), (.tmp 5, 32, false)]
abbrev LT151_5 : Type 1 := (R : Type) → (List (List Int)) → Int → Int → Tq9 → Tq10 → (Int → Tq9 → Option R) → (Tq9 → Tq10 → Option R) → Option R
def le151_5 (L : LT151_5) : LEnt := ⟨5, [.fix 4 (.ptr 1 [] Kq9), .fix 6 (.ptr 2 [] Kq10), .val 15 (.sl (.sl (.int .u8))), .val 16 (.int .i64), .val 17 (.int .i64), .var 1 Kq9 false, .var 2 Kq10 false], 3, [(.ret, [.fix 4 (.ptr 1 [] Kq9), .val 5 (.int .i64), .var 1 Kq9 false]), (.exit 0, [.fix 4 (.ptr 1 [] Kq9), .fix 6 (.ptr 2 [] Kq10), .var 1 Kq9 false, .var 2 Kq10 false])], fun R x ke => L R x.1 x.2.1 x.2.2.1 x.2.2.2.1 x.2.2.2.2.1 (fun y1 y2 => ke.1 (y1, y2, ())) (fun y1 y2 => ke.2.1 (y1, y2, ()))⟩
noncomputable def e151 (F159 : FT159) (F160 : FT160) (L5 : LT151_5) (R : Type) : Env R := ⟨TT, EQT, 0, 31, ownOf [], callOf [en159 F159, en160 F160] R, loopOf [le151_5 L5] R, [], inlOf []⟩
def p151_5 (F160 : FT160) : (R : Type) → (List (List Int)) → Int → Int → Tq9 → Tq10 → ((List (List Int)) → Int → Int → Tq9 → Tq10 → Option R) → (Int → Tq9 → Option R) → (Tq9 → Tq10 → Option R) → Option R := fun R x1 x2 x3 x4 x5 kc k0 k1 =>
let v6 := (decide (x3 < x2));
(match v6 with
| true => (match (bnd x3 (List.length x1 : Int)) with
| true => let v7 : (List Int) := (List.getD x1 (Int.toNat x3) ([] : (List Int)));
F160 R x5 v7 fun p8 =>
let v9 := (decide (p8.1.2.2.1 ≥ (2305843009213693952 : Int)));
(match v9 with
| true => k0 (11 : Int) ((List.replicate 8 (0 : Int)), ([] : (List Int)), (0 : Int), ())
| false => let v10 := (IntKind.i64.wrap (x3 + (1 : Int)));
kc x1 x2 v10 x4 p8)
| false => none)
| false => k1 x4 x5)
theorem q151_5 (F159 : FT159) (F160 : FT160) (L5 : LT151_5) (R : Type) (x : HT (le151_5 L5).H) (kc : HT (le151_5 L5).H → Option R) (ke : KT R (le151_5 L5).exs) :
  exec (e151 F159 F160 L5 R) (lcode 5 (codeOf Tryz.f151)) (stOf (le151_5 L5).H x 3) (roundK (le151_5 L5).H (le151_5 L5).exs kc ke) =
    p151_5 F160 R x.1 x.2.1 x.2.2.1 x.2.2.2.1 x.2.2.2.2.1 (fun x1 x2 x3 x4 x5 => kc (x1, x2, x3, x4, x5, ())) (fun y1 y2 => ke.1 (y1, y2, ())) (fun y1 y2 => ke.2.1 (y1, y2, ())) := by kernel_rfl
noncomputable def G151_5 : Nat → LT151_5
  | 0 => fun _ _ _ _ _ _ _ _ => none
  | n + 1 => fun R x1 x2 x3 x4 x5 k0 k1 => p151_5 F160 R x1 x2 x3 x4 x5 (fun x1 x2 x3 x4 x5 => G151_5 n R x1 x2 x3 x4 x5 k0 k1) k0 k1
def p151 (F159 : FT159) (L5 : LT151_5) : FT151 := fun R a0 a1 k =>
F159 R a0 fun y1 =>
(match (!y1) with
| true => k ((List.replicate 8 (0 : Int)), ([] : (List Int)), (0 : Int), ()) (1 : Int)
| false => let v2 := (List.length a1 : Int);
L5 R a1 v2 (0 : Int) ((List.replicate 8 (0 : Int)), ([] : (List Int)), (0 : Int), ()) (a0, ()) (fun x3 x4 =>
k x4 x3) (fun x5 x6 =>
k x6.1 (0 : Int)))
theorem q151 (F159 : FT159) (F160 : FT160) (L5 : LT151_5) (F : FT151) (R : Type) (x : AT (en151 F).ins) (k : RT (en151 F).outs → PT (en151 F).ins → Option R) :
  xfun (e151 F159 F160 L5 R) (codeOf Tryz.f151) res151 (avs (en151 F).ins x) (finK (en151 F).outs (en151 F).ins k) = p151 F159 L5 R x.1 x.2.1 (fun y1 y2 => k (y1, y2, ()) ()) := by kernel_rfl
noncomputable def F151 : FT151 := p151 F159 (G151_5 FUEL)
theorem env151 (R : Type) : EnvOK Tryz.prog (e151 F159 F160 (G151_5 FUEL) R) := ⟨tabOK, eqOK, callOf_ok (allE_cons ok159 (allE_cons ok160 allE_nil)), noIns, inlOK_nil⟩
noncomputable def T151_5 : (R : Type) → HT (le151_5 (G151_5 FUEL)).H → (HT (le151_5 (G151_5 FUEL)).H → Option R) → KT R (le151_5 (G151_5 FUEL)).exs → Option R := fun R x kc ke => p151_5 F160 R x.1 x.2.1 x.2.2.1 x.2.2.2.1 x.2.2.2.2.1 (fun x1 x2 x3 x4 x5 => kc (x1, x2, x3, x4, x5, ())) (fun y1 y2 => ke.1 (y1, y2, ())) (fun y1 y2 => ke.2.1 (y1, y2, ()))
theorem it151_5 : ∀ (n : Nat) (R : Type) (x : HT (le151_5 (G151_5 FUEL)).H) (ke : KT R (le151_5 (G151_5 FUEL)).exs), iter T151_5 n R x ke = G151_5 n R x.1 x.2.1 x.2.2.1 x.2.2.2.1 x.2.2.2.2.1 (fun y1 y2 => ke.1 (y1, y2, ())) (fun y1 y2 => ke.2.1 (y1, y2, ())) := by
  intro n
  induction n with
  | zero => intro R x ke; rfl
  | succ n ih =>
    intro R x ke
    show T151_5 R x (fun x' => iter T151_5 n R x' ke) ke = _
    rw [show (fun x' => iter T151_5 n R x' ke) = fun x => G151_5 n R x.1 x.2.1 x.2.2.1 x.2.2.2.1 x.2.2.2.2.1 (fun y1 y2 => ke.1 (y1, y2, ())) (fun y1 y2 => ke.2.1 (y1, y2, ())) from funext fun x' => ih R x' ke]
    rfl
theorem lok151_5 : (le151_5 (G151_5 FUEL)).OK Tryz.prog 0 31 (lcode 5 (codeOf Tryz.f151)) := fun R x ke r h =>
  iter_sound (fun R => e151 F159 F160 (G151_5 FUEL) R) 0 31 (fun _ => rfl) (fun _ => rfl) (fun R => env151 R) mixed (by
    intro R
    rw [show loopsOf (lcode 5 (codeOf Tryz.f151)) = [] from by kernel_rfl]
    exact allM_nil) (T := T151_5) (fun R x kc ke => q151_5 F159 F160 (G151_5 FUEL) R x kc ke) FUEL R x ke r ((it151_5 FUEL R x ke).trans h)
theorem ok151 : (en151 F151).OK Tryz.prog :=
  ent_ok (Ef := fun R => e151 F159 F160 (G151_5 FUEL) R) (fun R => env151 R) mixed Tryz.func151 (body := codeOf Tryz.f151) (by kernel_rfl) (by kernel_rfl) (np := 0) (nt := 31) (fun _ => rfl) (fun _ => rfl) (by kernel_rfl) (res := res151) (by kernel_rfl) (fun _ => rfl) (fun _ => Nat.le_of_ble_eq_true rfl) (by
    intro R
    rw [show loopsOf (codeOf Tryz.f151) = [lcode 5 (codeOf Tryz.f151)] from by kernel_rfl]
    exact (allM_cons (loop_ok2 (e := le151_5 (G151_5 FUEL)) rfl rfl lok151_5) allM_nil)) (fun R x k => q151 F159 F160 (G151_5 FUEL) F151 R x k)
abbrev FT169 : Type 1 := (R : Type) → Int → (Int → Option R) → Option R
def en169 (F : FT169) : Ent := ⟨169, [(false, (.int .u64))], [(false, (.int .u64))], fun R x k => F R x.1 (fun y1 => k (y1, ()) ())⟩
def res169 : List (ResultVar × TypeId × Bool) := [(.tmp 2, 22, false)]
noncomputable def e169 (R : Type) : Env R := ⟨TT, EQT, 0, 9, ownOf [], callOf [] R, loopOf [] R, [], inlOf []⟩
def p169 : FT169 := fun R a0 k =>
let v1 := (decide (a0 ≥ (2305843009213693952 : Int)));
(match v1 with
| true => k (0 : Int)
| false => let v2 := (IntKind.u64.wrap (a0 + (8 : Int)));
let v3 := (IntKind.u64.wrap (v2 + (64 : Int)));
let v4 := (IntKind.u64.wrap (Int.tdiv v3 (64 : Int)));
k v4)
theorem q169 (F : FT169) (R : Type) (x : AT (en169 F).ins) (k : RT (en169 F).outs → PT (en169 F).ins → Option R) :
  xfun (e169 R) (codeOf Tryz.f169) res169 (avs (en169 F).ins x) (finK (en169 F).outs (en169 F).ins k) = p169 R x.1 (fun y1 => k (y1, ()) ()) := by kernel_rfl
noncomputable def F169 : FT169 := p169
theorem env169 (R : Type) : EnvOK Tryz.prog (e169 R) := ⟨tabOK, eqOK, callOf_ok allE_nil, noIns, inlOK_nil⟩
theorem ok169 : (en169 F169).OK Tryz.prog :=
  ent_ok (Ef := fun R => e169 R) (fun R => env169 R) mixed Tryz.func169 (body := codeOf Tryz.f169) (by kernel_rfl) (by kernel_rfl) (np := 0) (nt := 9) (fun _ => rfl) (fun _ => rfl) (by kernel_rfl) (res := res169) (by kernel_rfl) (fun _ => rfl) (fun _ => Nat.le_of_ble_eq_true rfl) (by
    intro R
    rw [show loopsOf (codeOf Tryz.f169) = [] from by kernel_rfl]
    exact allM_nil) (fun R x k => q169 F169 R x k)
abbrev FT162 : Type 1 := (R : Type) → (List Int) → Int → ((List Int) → Bool → Option R) → Option R
def en162 (F : FT162) : Ent := ⟨162, [(false, (.sl (.int .u8))), (false, (.int .u64))], [(false, (.sl (.int .u8))), (false, .bool)], fun R x k => F R x.1 x.2.1 (fun y1 y2 => k (y1, y2, ()) ())⟩
def res162 : List (ResultVar × TypeId × Bool) := [(.tmp 4, 26, false), (.tmp 5, 4, false)]
noncomputable def e162 (F147 : FT147) (F169 : FT169) (R : Type) : Env R := ⟨TT, EQT, 0, 45, ownOf [], callOf [en147 F147, en169 F169] R, loopOf [] R, [], inlOf []⟩
def p162 (F147 : FT147) (F169 : FT169) : FT162 := fun R a0 a1 k =>
let v1 := (decide (a1 ≥ (2305843009213693952 : Int)));
(match v1 with
| true => k ([] : (List Int)) false
| false => let v2 := (List.length a0 : Int);
let v3 := (IntKind.u64.wrap v2);
let v4 := (Int.tmod a1 (64 : Int));
let v5 := (v3 != v4);
(match v5 with
| true => k ([] : (List Int)) false
| false => F169 R a1 fun y6 =>
let v7 := (IntKind.u64.wrap (Int.tdiv a1 (64 : Int)));
let v8 := (IntKind.u64.wrap (y6 - v7));
let v9 := (IntKind.i64.wrap v8);
let v10 := (IntKind.i64.wrap (v9 * (64 : Int)));
(match (decide (0 ≤ v10 ∧ v10 ≤ v10 ∧ v10 ≤ (140737488355328 : Int))) with
| true => let v11 : (List Int) := (List.replicate (Int.toNat v10) (0 : Int));
let v12 : (List Int) := (lay v11 0 (List.take (List.length v11) a0));
let v13 := (List.length a0 : Int);
(match (bnd v13 (List.length v12 : Int)) with
| true => let v14 : (List Int) := (List.set v12 (Int.toNat v13) (128 : Int));
let v15 := (ishl .u64 a1 (3 : Int));
F147 R v15 fun y16 =>
let v17 := (IntKind.i64.wrap (v10 - (8 : Int)));
(match (decide (0 ≤ v17 ∧ v17 ≤ (List.length v14 : Int) ∧ (List.length v14 : Int) ≤ (List.length v14 : Int) ∧ (List.length v14 : Int) ≤ (List.length v14 : Int))) with
| true => let v18 : (List Int) := (lay v14 (Int.toNat v17) (List.take (Int.toNat ((List.length v14 : Int) - v17)) (List.take 8 (List.drop 0 y16))));
k v18 true
| false => none)
| false => none)
| false => none)))
theorem q162 (F147 : FT147) (F169 : FT169) (F : FT162) (R : Type) (x : AT (en162 F).ins) (k : RT (en162 F).outs → PT (en162 F).ins → Option R) :
  xfun (e162 F147 F169 R) (codeOf Tryz.f162) res162 (avs (en162 F).ins x) (finK (en162 F).outs (en162 F).ins k) = p162 F147 F169 R x.1 x.2.1 (fun y1 y2 => k (y1, y2, ()) ()) := by kernel_rfl
noncomputable def F162 : FT162 := p162 F147 F169
theorem env162 (R : Type) : EnvOK Tryz.prog (e162 F147 F169 R) := ⟨tabOK, eqOK, callOf_ok (allE_cons ok147 (allE_cons ok169 allE_nil)), noIns, inlOK_nil⟩
theorem ok162 : (en162 F162).OK Tryz.prog :=
  ent_ok (Ef := fun R => e162 F147 F169 R) (fun R => env162 R) mixed Tryz.func162 (body := codeOf Tryz.f162) (by kernel_rfl) (by kernel_rfl) (np := 0) (nt := 45) (fun _ => rfl) (fun _ => rfl) (by kernel_rfl) (res := res162) (by kernel_rfl) (fun _ => rfl) (fun _ => Nat.le_of_ble_eq_true rfl) (by
    intro R
    rw [show loopsOf (codeOf Tryz.f162) = [] from by kernel_rfl]
    exact allM_nil) (fun R x k => q162 F147 F169 F162 R x k)
abbrev FT172 : Type 1 := (R : Type) → Int → ((List Int) → Option R) → Option R
def en172 (F : FT172) : Ent := ⟨172, [(false, (.int .u32))], [(false, (.arr 4 (.int .u8)))], fun R x k => F R x.1 (fun y1 => k (y1, ()) ())⟩
def res172 : List (ResultVar × TypeId × Bool) := [(.cell 2 209, 209, false)]
noncomputable def e172 (R : Type) : Env R := ⟨TT, EQT, 0, 15, ownOf [], callOf [] R, loopOf [] R, [], inlOf []⟩
def p172 : FT172 := fun R a0 k =>
let v1 := (ishr .u32 a0 (24 : Int));
let v2 := (IntKind.u8.wrap v1);
let v3 := (ishr .u32 a0 (16 : Int));
let v4 := (IntKind.u8.wrap v3);
let v5 := (ishr .u32 a0 (8 : Int));
let v6 := (IntKind.u8.wrap v5);
let v7 := (IntKind.u8.wrap a0);
let v8 : (List Int) := (List.set (List.set (List.set (List.set (List.replicate 4 (0 : Int)) 0 v2) 1 v4) 2 v6) 3 v7);
k v8
theorem q172 (F : FT172) (R : Type) (x : AT (en172 F).ins) (k : RT (en172 F).outs → PT (en172 F).ins → Option R) :
  xfun (e172 R) (codeOf Tryz.f172) res172 (avs (en172 F).ins x) (finK (en172 F).outs (en172 F).ins k) = p172 R x.1 (fun y1 => k (y1, ()) ()) := by kernel_rfl
noncomputable def F172 : FT172 := p172
theorem env172 (R : Type) : EnvOK Tryz.prog (e172 R) := ⟨tabOK, eqOK, callOf_ok allE_nil, noIns, inlOK_nil⟩
theorem ok172 : (en172 F172).OK Tryz.prog :=
  ent_ok (Ef := fun R => e172 R) (fun R => env172 R) mixed Tryz.func172 (body := codeOf Tryz.f172) (by kernel_rfl) (by kernel_rfl) (np := 0) (nt := 15) (fun _ => rfl) (fun _ => rfl) (by kernel_rfl) (res := res172) (by kernel_rfl) (fun _ => rfl) (fun _ => Nat.le_of_ble_eq_true rfl) (by
    intro R
    rw [show loopsOf (codeOf Tryz.f172) = [] from by kernel_rfl]
    exact allM_nil) (fun R x k => q172 F172 R x k)
abbrev FT164 : Type 1 := (R : Type) → Tq10 → ((List Int) → Tq10 → Option R) → Option R
def en164 (F : FT164) : Ent := ⟨164, [(true, Kq10)], [(false, (.arr 32 (.int .u8)))], fun R x k => F R x.1 (fun y1 p1 => k (y1, ()) (p1, ()))⟩
def res164 : List (ResultVar × TypeId × Bool) := [(.cell 2 28, 28, false)]
abbrev LT164_2 : Type 1 := (R : Type) → (List Int) → Int → Tq10 → (List Int) → (Tq10 → (List Int) → Option R) → Option R
def le164_2 (L : LT164_2) : LEnt := ⟨2, [.fix 2 (.ptr 1 [] (.arr 32 (.int .u8))), .val 10 (.arr 8 (.int .u32)), .val 11 (.int .i64), .var 0 Kq10 false, .var 1 (.arr 32 (.int .u8)) false], 2, [(.exit 0, [.fix 2 (.ptr 1 [] (.arr 32 (.int .u8))), .var 0 Kq10 false, .var 1 (.arr 32 (.int .u8)) false])], fun R x ke => L R x.1 x.2.1 x.2.2.1 x.2.2.2.1 (fun y1 y2 => ke.1 (y1, y2, ()))⟩
noncomputable def e164 (F172 : FT172) (L2 : LT164_2) (R : Type) : Env R := ⟨TT, EQT, 1, 24, ownOf [], callOf [en172 F172] R, loopOf [le164_2 L2] R, [], inlOf []⟩
def p164_2 (F172 : FT172) : (R : Type) → (List Int) → Int → Tq10 → (List Int) → ((List Int) → Int → Tq10 → (List Int) → Option R) → (Tq10 → (List Int) → Option R) → Option R := fun R x1 x2 x3 x4 kc k0 =>
let v5 := (decide (x2 < (8 : Int)));
(match v5 with
| true => (match (bnd x2 (8 : Int)) with
| true => let v6 := (List.getD x1 (Int.toNat x2) (0 : Int));
F172 R v6 fun y7 =>
let v8 := (IntKind.i64.wrap ((4 : Int) * x2));
(match (decide (0 ≤ v8 ∧ v8 ≤ (32 : Int) ∧ (32 : Int) ≤ (32 : Int))) with
| true => let v9 : (List Int) := (lay x4 (Int.toNat v8) (List.take (Int.toNat ((32 : Int) - v8)) (List.take 4 (List.drop 0 y7))));
let v10 := (IntKind.i64.wrap (x2 + (1 : Int)));
kc x1 v10 x3 v9
| false => none)
| false => none)
| false => k0 x3 x4)
theorem q164_2 (F172 : FT172) (L2 : LT164_2) (R : Type) (x : HT (le164_2 L2).H) (kc : HT (le164_2 L2).H → Option R) (ke : KT R (le164_2 L2).exs) :
  exec (e164 F172 L2 R) (lcode 2 (codeOf Tryz.f164)) (stOf (le164_2 L2).H x 2) (roundK (le164_2 L2).H (le164_2 L2).exs kc ke) =
    p164_2 F172 R x.1 x.2.1 x.2.2.1 x.2.2.2.1 (fun x1 x2 x3 x4 => kc (x1, x2, x3, x4, ())) (fun y1 y2 => ke.1 (y1, y2, ())) := by kernel_rfl
noncomputable def G164_2 : Nat → LT164_2
  | 0 => fun _ _ _ _ _ _ => none
  | n + 1 => fun R x1 x2 x3 x4 k0 => p164_2 F172 R x1 x2 x3 x4 (fun x1 x2 x3 x4 => G164_2 n R x1 x2 x3 x4 k0) k0
def p164 (L2 : LT164_2) : FT164 := fun R a0 k =>
L2 R a0.1.1 (0 : Int) a0 (List.replicate 32 (0 : Int)) (fun x1 x2 =>
k x2 x1)
theorem q164 (F172 : FT172) (L2 : LT164_2) (F : FT164) (R : Type) (x : AT (en164 F).ins) (k : RT (en164 F).outs → PT (en164 F).ins → Option R) :
  xfun (e164 F172 L2 R) (codeOf Tryz.f164) res164 (avs (en164 F).ins x) (finK (en164 F).outs (en164 F).ins k) = p164 L2 R x.1 (fun y1 p1 => k (y1, ()) (p1, ())) := by kernel_rfl
noncomputable def F164 : FT164 := p164 (G164_2 FUEL)
theorem env164 (R : Type) : EnvOK Tryz.prog (e164 F172 (G164_2 FUEL) R) := ⟨tabOK, eqOK, callOf_ok (allE_cons ok172 allE_nil), noIns, inlOK_nil⟩
noncomputable def T164_2 : (R : Type) → HT (le164_2 (G164_2 FUEL)).H → (HT (le164_2 (G164_2 FUEL)).H → Option R) → KT R (le164_2 (G164_2 FUEL)).exs → Option R := fun R x kc ke => p164_2 F172 R x.1 x.2.1 x.2.2.1 x.2.2.2.1 (fun x1 x2 x3 x4 => kc (x1, x2, x3, x4, ())) (fun y1 y2 => ke.1 (y1, y2, ()))
theorem it164_2 : ∀ (n : Nat) (R : Type) (x : HT (le164_2 (G164_2 FUEL)).H) (ke : KT R (le164_2 (G164_2 FUEL)).exs), iter T164_2 n R x ke = G164_2 n R x.1 x.2.1 x.2.2.1 x.2.2.2.1 (fun y1 y2 => ke.1 (y1, y2, ())) := by
  intro n
  induction n with
  | zero => intro R x ke; rfl
  | succ n ih =>
    intro R x ke
    show T164_2 R x (fun x' => iter T164_2 n R x' ke) ke = _
    rw [show (fun x' => iter T164_2 n R x' ke) = fun x => G164_2 n R x.1 x.2.1 x.2.2.1 x.2.2.2.1 (fun y1 y2 => ke.1 (y1, y2, ())) from funext fun x' => ih R x' ke]
    rfl
theorem lok164_2 : (le164_2 (G164_2 FUEL)).OK Tryz.prog 1 24 (lcode 2 (codeOf Tryz.f164)) := fun R x ke r h =>
  iter_sound (fun R => e164 F172 (G164_2 FUEL) R) 1 24 (fun _ => rfl) (fun _ => rfl) (fun R => env164 R) mixed (by
    intro R
    rw [show loopsOf (lcode 2 (codeOf Tryz.f164)) = [] from by kernel_rfl]
    exact allM_nil) (T := T164_2) (fun R x kc ke => q164_2 F172 (G164_2 FUEL) R x kc ke) FUEL R x ke r ((it164_2 FUEL R x ke).trans h)
theorem ok164 : (en164 F164).OK Tryz.prog :=
  ent_ok (Ef := fun R => e164 F172 (G164_2 FUEL) R) (fun R => env164 R) mixed Tryz.func164 (body := codeOf Tryz.f164) (by kernel_rfl) (by kernel_rfl) (np := 1) (nt := 24) (fun _ => rfl) (fun _ => rfl) (by kernel_rfl) (res := res164) (by kernel_rfl) (fun _ => rfl) (fun _ => Nat.le_of_ble_eq_true rfl) (by
    intro R
    rw [show loopsOf (codeOf Tryz.f164) = [lcode 2 (codeOf Tryz.f164)] from by kernel_rfl]
    exact (allM_cons (loop_ok2 (e := le164_2 (G164_2 FUEL)) rfl rfl lok164_2) allM_nil)) (fun R x k => q164 F172 (G164_2 FUEL) F164 R x k)
abbrev FT153 : Type 1 := (R : Type) → Tq9 → ((List Int) → Int → Option R) → Option R
def en153 (F : FT153) : Ent := ⟨153, [(false, Kq9)], [(false, (.arr 32 (.int .u8))), (false, (.int .i64))], fun R x k => F R x.1 (fun y1 y2 => k (y1, y2, ()) ())⟩
def res153 : List (ResultVar × TypeId × Bool) := [(.cell 2 28, 28, false), (.tmp 3, 32, false)]
noncomputable def e153 (F162 : FT162) (F163 : FT163) (F164 : FT164) (R : Type) : Env R := ⟨TT, EQT, 0, 23, ownOf [], callOf [en162 F162, en163 F163, en164 F164] R, loopOf [] R, [], inlOf []⟩
def p153 (F162 : FT162) (F163 : FT163) (F164 : FT164) : FT153 := fun R a0 k =>
F162 R a0.2.1 a0.2.2.1 fun y1 y2 =>
(match (!y2) with
| true => let v3 : (List Int) := (List.replicate 32 (0 : Int));
k v3 (1 : Int)
| false => F163 R (a0, ()) y1 fun y4 p5 =>
F164 R p5 fun y6 p7 =>
k y6 (0 : Int))
theorem q153 (F162 : FT162) (F163 : FT163) (F164 : FT164) (F : FT153) (R : Type) (x : AT (en153 F).ins) (k : RT (en153 F).outs → PT (en153 F).ins → Option R) :
  xfun (e153 F162 F163 F164 R) (codeOf Tryz.f153) res153 (avs (en153 F).ins x) (finK (en153 F).outs (en153 F).ins k) = p153 F162 F163 F164 R x.1 (fun y1 y2 => k (y1, y2, ()) ()) := by kernel_rfl
noncomputable def F153 : FT153 := p153 F162 F163 F164
theorem env153 (R : Type) : EnvOK Tryz.prog (e153 F162 F163 F164 R) := ⟨tabOK, eqOK, callOf_ok (allE_cons ok162 (allE_cons ok163 (allE_cons ok164 allE_nil))), noIns, inlOK_nil⟩
theorem ok153 : (en153 F153).OK Tryz.prog :=
  ent_ok (Ef := fun R => e153 F162 F163 F164 R) (fun R => env153 R) mixed Tryz.func153 (body := codeOf Tryz.f153) (by kernel_rfl) (by kernel_rfl) (np := 0) (nt := 23) (fun _ => rfl) (fun _ => rfl) (by kernel_rfl) (res := res153) (by kernel_rfl) (fun _ => rfl) (fun _ => Nat.le_of_ble_eq_true rfl) (by
    intro R
    rw [show loopsOf (codeOf Tryz.f153) = [] from by kernel_rfl]
    exact allM_nil) (fun R x k => q153 F162 F163 F164 F153 R x k)
abbrev FT148 : Type 1 := (R : Type) → (List (List Int)) → ((List Int) → Option R) → Option R
def en148 (F : FT148) : Ent := ⟨148, [(false, (.sl (.sl (.int .u8))))], [(false, (.arr 32 (.int .u8)))], fun R x k => F R x.1 (fun y1 => k (y1, ()) ())⟩
def res148 : List (ResultVar × TypeId × Bool) := [(.cell 2 28, 28, false)]
noncomputable def e148 (F151 : FT151) (F152 : FT152) (F153 : FT153) (R : Type) : Env R := ⟨TT, EQT, 0, 19, ownOf [], callOf [en151 F151, en152 F152, en153 F153] R, loopOf [] R, [], inlOf []⟩
def p148 (F151 : FT151) (F152 : FT152) (F153 : FT153) : FT148 := fun R a0 k =>
F152 R  fun y1 =>
F151 R y1 a0 fun y2 y3 =>
F153 R y2 fun y4 y5 =>
k y4
theorem q148 (F151 : FT151) (F152 : FT152) (F153 : FT153) (F : FT148) (R : Type) (x : AT (en148 F).ins) (k : RT (en148 F).outs → PT (en148 F).ins → Option R) :
  xfun (e148 F151 F152 F153 R) (codeOf Tryz.f148) res148 (avs (en148 F).ins x) (finK (en148 F).outs (en148 F).ins k) = p148 F151 F152 F153 R x.1 (fun y1 => k (y1, ()) ()) := by kernel_rfl
noncomputable def F148 : FT148 := p148 F151 F152 F153
theorem env148 (R : Type) : EnvOK Tryz.prog (e148 F151 F152 F153 R) := ⟨tabOK, eqOK, callOf_ok (allE_cons ok151 (allE_cons ok152 (allE_cons ok153 allE_nil))), noIns, inlOK_nil⟩
theorem ok148 : (en148 F148).OK Tryz.prog :=
  ent_ok (Ef := fun R => e148 F151 F152 F153 R) (fun R => env148 R) mixed Tryz.func148 (body := codeOf Tryz.f148) (by kernel_rfl) (by kernel_rfl) (np := 0) (nt := 19) (fun _ => rfl) (fun _ => rfl) (by kernel_rfl) (res := res148) (by kernel_rfl) (fun _ => rfl) (fun _ => Nat.le_of_ble_eq_true rfl) (by
    intro R
    rw [show loopsOf (codeOf Tryz.f148) = [] from by kernel_rfl]
    exact allM_nil) (fun R x k => q148 F151 F152 F153 F148 R x k)
abbrev FT143 : Type 1 := (R : Type) → (List Int) → Int → Int → ((List Int) → Option R) → Option R
def en143 (F : FT143) : Ent := ⟨143, [(false, (.arr 32 (.int .u8))), (false, (.int .u64)), (false, (.int .u64))], [(false, (.arr 32 (.int .u8)))], fun R x k => F R x.1 x.2.1 x.2.2.1 (fun y1 => k (y1, ()) ())⟩
def res143 : List (ResultVar × TypeId × Bool) := [(.cell 6 28, 28, false)]
noncomputable def e143 (F147 : FT147) (F148 : FT148) (R : Type) : Env R := ⟨TT, EQT, 0, 18, ownOf [], callOf [en147 F147, en148 F148] R, loopOf [] R, [], inlOf []⟩
def p143 (F147 : FT147) (F148 : FT148) : FT143 := fun R a0 a1 a2 k =>
F147 R a1 fun y1 =>
F147 R a2 fun y2 =>
let v3 : (List (List Int)) := ([(List.take 32 (List.drop 0 a0)), (List.take 8 (List.drop 0 y1)), (List.take 8 (List.drop 0 y2))] : (List (List Int)));
F148 R v3 fun y4 =>
k y4
theorem q143 (F147 : FT147) (F148 : FT148) (F : FT143) (R : Type) (x : AT (en143 F).ins) (k : RT (en143 F).outs → PT (en143 F).ins → Option R) :
  xfun (e143 F147 F148 R) (codeOf Tryz.f143) res143 (avs (en143 F).ins x) (finK (en143 F).outs (en143 F).ins k) = p143 F147 F148 R x.1 x.2.1 x.2.2.1 (fun y1 => k (y1, ()) ()) := by kernel_rfl
noncomputable def F143 : FT143 := p143 F147 F148
theorem env143 (R : Type) : EnvOK Tryz.prog (e143 F147 F148 R) := ⟨tabOK, eqOK, callOf_ok (allE_cons ok147 (allE_cons ok148 allE_nil)), noIns, inlOK_nil⟩
theorem ok143 : (en143 F143).OK Tryz.prog :=
  ent_ok (Ef := fun R => e143 F147 F148 R) (fun R => env143 R) mixed Tryz.func143 (body := codeOf Tryz.f143) (by kernel_rfl) (by kernel_rfl) (np := 0) (nt := 18) (fun _ => rfl) (fun _ => rfl) (by kernel_rfl) (res := res143) (by kernel_rfl) (fun _ => rfl) (fun _ => Nat.le_of_ble_eq_true rfl) (by
    intro R
    rw [show loopsOf (codeOf Tryz.f143) = [] from by kernel_rfl]
    exact allM_nil) (fun R x k => q143 F147 F148 F143 R x k)
abbrev FT137 : Type 1 := (R : Type) → Tq13 → Int → (Int → Tq13 → Option R) → Option R
def en137 (F : FT137) : Ent := ⟨137, [(true, Kq13), (false, (.int .u64))], [(false, (.int .u8))], fun R x k => F R x.1 x.2.1 (fun y1 p1 => k (y1, ()) (p1, ()))⟩
def res137 : List (ResultVar × TypeId × Bool) := [(.tmp 4, 5, false)]
noncomputable def e137 (F143 : FT143) (R : Type) : Env R := ⟨TT, EQT, 1, 67, ownOf [], callOf [en143 F143] R, loopOf [] R, [], inlOf []⟩
def p137 (F143 : FT143) : FT137 := fun R a0 a1 k =>
let v1 := (a0.1.1 == (1 : Int));
(match v1 with
| true => (match (bnd a1 (List.length a0.1.2.1 : Int)) with
| true => let v2 := (List.getD a0.1.2.1 (Int.toNat a1) (0 : Int));
k v2 a0
| false => none)
| false => let v3 := (IntKind.u64.wrap (Int.tdiv a1 (32 : Int)));
let v4 := (!a0.2.2.2.1);
(match v4 with
| true => F143 R a0.1.2.2.2.1 a0.1.2.2.2.2.1 v3 fun y5 =>
let v6 := (Int.tmod a1 (32 : Int));
(match (bnd v6 (32 : Int)) with
| true => let v7 := (List.getD y5 (Int.toNat v6) (0 : Int));
k v7 (a0.1, y5, v3, true, a0.2.2.2.2)
| false => none)
| false => let v8 := (v3 != a0.2.2.1);
(match v8 with
| true => F143 R a0.1.2.2.2.1 a0.1.2.2.2.2.1 v3 fun y9 =>
let v10 := (Int.tmod a1 (32 : Int));
(match (bnd v10 (32 : Int)) with
| true => let v11 := (List.getD y9 (Int.toNat v10) (0 : Int));
k v11 (a0.1, y9, v3, true, a0.2.2.2.2)
| false => none)
| false => let v12 := (Int.tmod a1 (32 : Int));
(match (bnd v12 (32 : Int)) with
| true => let v13 := (List.getD a0.2.1 (Int.toNat v12) (0 : Int));
k v13 a0
| false => none))))
theorem q137 (F143 : FT143) (F : FT137) (R : Type) (x : AT (en137 F).ins) (k : RT (en137 F).outs → PT (en137 F).ins → Option R) :
  xfun (e137 F143 R) (codeOf Tryz.f137) res137 (avs (en137 F).ins x) (finK (en137 F).outs (en137 F).ins k) = p137 F143 R x.1 x.2.1 (fun y1 p1 => k (y1, ()) (p1, ())) := by kernel_rfl
noncomputable def F137 : FT137 := p137 F143
theorem env137 (R : Type) : EnvOK Tryz.prog (e137 F143 R) := ⟨tabOK, eqOK, callOf_ok (allE_cons ok143 allE_nil), noIns, inlOK_nil⟩
theorem ok137 : (en137 F137).OK Tryz.prog :=
  ent_ok (Ef := fun R => e137 F143 R) (fun R => env137 R) mixed Tryz.func137 (body := codeOf Tryz.f137) (by kernel_rfl) (by kernel_rfl) (np := 1) (nt := 67) (fun _ => rfl) (fun _ => rfl) (by kernel_rfl) (res := res137) (by kernel_rfl) (fun _ => rfl) (fun _ => Nat.le_of_ble_eq_true rfl) (by
    intro R
    rw [show loopsOf (codeOf Tryz.f137) = [] from by kernel_rfl]
    exact allM_nil) (fun R x k => q137 F143 F137 R x k)
abbrev FT120 : Type 1 := (R : Type) → Tq13 → (Int → Tq13 → Option R) → Option R
abbrev KS120 : Kd := Kq7
abbrev KQ120 : Kd := Kq12
abbrev K120 : Kd := .pair KS120 KQ120
def en120 (F : FT120) : Ent := ⟨120, [(true, K120)], [(false, (.int .u64))], fun R x k => F R x.1 (fun y1 p1 => k (y1, ()) (p1, ()))⟩
def res120 : List (ResultVar × TypeId × Bool) := [(.tmp 2, 22, false)]
noncomputable def u120 : (R : Type) → K120.T → Int → KQ120.T → (Int → K120.T → Option R) → Option R := fun R a0 y2 q k =>
let v6 := (ishr .u8 y2 (IntKind.u64.wrap ((7 : Int) - (Int.tmod a0.1.2.2.2.2.2.1 (8 : Int)))));
let v7 := (IntKind.u64.wrap (a0.1.2.2.2.2.2.1 + (1 : Int)));
let v8 := (iand .u8 v6 (1 : Int));
let v9 := (IntKind.u64.wrap v8);
k v9 ((a0.1.1, a0.1.2.1, a0.1.2.2.1, a0.1.2.2.2.1, a0.1.2.2.2.2.1, v7, a0.1.2.2.2.2.2.2), q)
noncomputable def F120 : FT120 := fun R a0 k =>
F137 R a0 (IntKind.u64.wrap (Int.tdiv a0.1.2.2.2.2.2.1 (8 : Int))) fun y2 p3 =>
match decide (0 ≤ IntKind.u64.wrap ((7 : Int) - (Int.tmod a0.1.2.2.2.2.2.1 (8 : Int)))) with
| true => u120 R a0 y2 p3.2 k
| false => none
theorem F137_keep (R : Type) (a0 : K120.T) (a1 : Int) (k : Int → K120.T → Option R) : F137 R a0 a1 k = F137 R a0 a1 (fun y p => @ite (Option R) (p.1 = a0.1) (Classical.propDecidable _) (k y p) none) := by
  simp only [F137, p137, if_true]
noncomputable def same2 {α : Type} (x y : α) : Bool := @decide (x = y) (Classical.propDecidable _)
theorem same2_self {α : Type} (x : α) : same2 x x = true := @decide_eq_true _ (Classical.propDecidable _) rfl
theorem same2_eq {α : Type} {x y : α} (h : same2 x y = true) : x = y := @of_decide_eq_true _ (Classical.propDecidable _) h
noncomputable def en137c (a0 : K120.T) (a1 y : Int) (q : KQ120.T) : Ent := ⟨137, [(true, K120), (false, (.int .u64))], [(false, (.int .u8))], fun _ x k => match same2 x (a0, a1, ()) with | true => k (y, ()) ((a0.1, q), ()) | false => none⟩
theorem ok137c {a0 : K120.T} {a1 y : Int} {q : KQ120.T} (h : Holds Tryz.prog 137 (avs [(true, K120), (false, (.int .u64))] (a0, a1, ())) (rvs [(false, (.int .u8))] (y, ())) (tvs [(true, K120), (false, (.int .u64))] ((a0.1, q), ()))) : (en137c a0 a1 y q).OK Tryz.prog := by
  intro R x k r hr
  simp only [en137c] at hr
  split at hr
  · rename_i he
    have := same2_eq he
    subst this
    exact ⟨(y, ()), ((a0.1, q), ()), h, hr⟩
  · cases hr
noncomputable def c120 (a0 : K120.T) (a1 y : Int) (q : KQ120.T) : Env (St × List Acc) := ⟨TT, EQT, 1, 32, ownOf [], callOf [en137c a0 a1 y q] _, loopOf [] _, [], inlOf []⟩
def e120 (R : Type) : Env R := ⟨TT, EQT, 1, 32, ownOf [], callOf [] R, loopOf [] R, [], inlOf []⟩
def first120 : Code → Code
  | .seq a _ => a
  | c => c
def ops120 : Code → Array Oper
  | .seq _ (.seq (.region _ ops _) _) => ops
  | _ => #[]
def o12120 : Code → Oper
  | .seq _ (.seq (.region _ ops _) _) => (ops[12]?).getD ⟨none, .assign (.tmp 0), 0, "", #[], none⟩
  | _ => ⟨none, .assign (.tmp 0), 0, "", #[], none⟩
def rest120 : Code → Code
  | .seq _ (.seq _ c) => c
  | c => c
def z0120 (a0 : K120.T) : St := ⟨[(0, .ptr 0 [] K120)], [(0, .var K120 a0 false)], 1⟩
def z1120 (a0 : K120.T) : St := ⟨[(2, .val (.int .u64) (0 : Int)), (0, .ptr 0 [] K120)], [(0, .var K120 a0 false)], 1⟩
noncomputable def z2120 (a0 : K120.T) (y : Int) (q : KQ120.T) : St :=
  ⟨[(3, .val (.int .u8) (ishr .u8 y (IntKind.u64.wrap ((7 : Int) - (Int.tmod a0.1.2.2.2.2.2.1 (8 : Int)))))), (19, .val (.int .u8) (ishr .u8 y (IntKind.u64.wrap ((7 : Int) - (Int.tmod a0.1.2.2.2.2.2.1 (8 : Int)))))),
    (18, .val (.int .u64) (IntKind.u64.wrap ((7 : Int) - (Int.tmod a0.1.2.2.2.2.2.1 (8 : Int))))), (17, .val (.int .u64) (Int.tmod a0.1.2.2.2.2.2.1 (8 : Int))), (16, .val (.int .u64) a0.1.2.2.2.2.2.1),
    (15, .ptr 0 [.fld 0, .fld 5] (.int .u64)), (14, .ptr 0 [.fld 0] KS120), (13, .ptr 0 [] K120), (12, .ptr 0 [] K120), (11, .val (.int .u8) y), (10, .val (.int .u64) (IntKind.u64.wrap (Int.tdiv a0.1.2.2.2.2.2.1 (8 : Int)))), (9, .val (.int .u64) a0.1.2.2.2.2.2.1),
    (8, .ptr 0 [.fld 0, .fld 5] (.int .u64)), (7, .ptr 0 [.fld 0] KS120), (6, .ptr 0 [] K120), (5, .ptr 0 [] K120), (4, .ptr 0 [] K120), (2, .val (.int .u64) (0 : Int)), (0, .ptr 0 [] K120)],
   [(0, .var K120 (a0.1, q) false), (0, .var K120 a0 false)], 1⟩
def acc120 : List Acc := [([], [], false), ([], [], false), ([], [], false), ([], [], false), ([], [0], false), ([], [], false), ([], [], false), ([], [], false), ([], [], false), ([0], [0, 0], false), ([], [], false), ([], [0], false), ([], [], false), ([], [], false), ([], [], false), ([], [], false), ([], [], false)]
theorem x0120 (a0 : K120.T) : exec (e120 St) (first120 (codeOf Tryz.f120)) (z0120 a0) (fun e σ => match e with | .normal => some σ | _ => none) = some (z1120 a0) := by kernel_rfl
theorem x1120 (a0 : K120.T) (y : Int) (q : KQ120.T) : xops (c120 a0 (IntKind.u64.wrap (Int.tdiv a0.1.2.2.2.2.2.1 (8 : Int))) y q) 1 (ops120 (codeOf Tryz.f120)) (ops120 (codeOf Tryz.f120)).toList 0 (z1120 a0) [] (fun σ' accs => some (σ', accs)) =
    (match same2 (a0, IntKind.u64.wrap (Int.tdiv a0.1.2.2.2.2.2.1 (8 : Int)), ()) (a0, IntKind.u64.wrap (Int.tdiv a0.1.2.2.2.2.2.1 (8 : Int)), ()) with
     | true => (match decide (0 ≤ IntKind.u64.wrap ((7 : Int) - (Int.tmod a0.1.2.2.2.2.2.1 (8 : Int)))) with | true => some (z2120 a0 y q, acc120) | false => none)
     | false => none) := by kernel_rfl
theorem x2120 (R : Type) (a0 : K120.T) (y : Int) (q : KQ120.T) (k : RT [(false, Kd.int .u64)] → PT [(true, K120)] → Option R) :
    exec (e120 R) (rest120 (codeOf Tryz.f120)) (z2120 a0 y q) (funK (e120 R) res120 (finK [(false, .int .u64)] [(true, K120)] k)) = u120 R a0 y q (fun y1 p1 => k (y1, ()) (p1, ())) := by kernel_rfl
theorem ok120 : (en120 F120).OK Tryz.prog := by
  intro R x k r h
  obtain ⟨a0, u⟩ := x
  change F120 R a0 (fun y1 p1 => k (y1, ()) (p1, ())) = some r at h
  unfold F120 at h
  rw [F137_keep] at h
  obtain ⟨⟨y, uy⟩, ⟨⟨p1, q⟩, up⟩, hH, hk⟩ := ok137 R (a0, IntKind.u64.wrap (Int.tdiv a0.1.2.2.2.2.2.1 (8 : Int)), ()) (fun y p => (fun (y : Int) (p : K120.T) => @ite (Option R) (p.1 = a0.1) (Classical.propDecidable _) (match decide (0 ≤ IntKind.u64.wrap ((7 : Int) - (Int.tmod a0.1.2.2.2.2.2.1 (8 : Int)))) with
    | true => u120 R a0 y p.2 (fun y1 p1 => k (y1, ()) (p1, ()))
    | false => none) none) y.1 p.1) r h
  simp only at hk
  split at hk <;> try (cases hk; done)
  rename_i hp
  subst hp
  split at hk <;> try (cases hk; done)
  rename_i hv
  have hE0 : EnvOK Tryz.prog (e120 R) := ⟨tabOK, eqOK, callOf_ok allE_nil, noIns, inlOK_nil⟩
  have hE1 : EnvOK Tryz.prog (e120 St) := ⟨tabOK, eqOK, callOf_ok allE_nil, noIns, inlOK_nil⟩
  have hE2 : EnvOK Tryz.prog (c120 a0 (IntKind.u64.wrap (Int.tdiv a0.1.2.2.2.2.2.1 (8 : Int))) y q) := ⟨tabOK, eqOK, callOf_ok (allE_cons (ok137c hH) allE_nil), noIns, inlOK_nil⟩
  have hL0 : Leads 1 32 Tryz.prog (first120 (codeOf Tryz.f120)) (z0120 a0) .normal (z1120 a0) := by
    obtain ⟨e, σ, h1, _, h2⟩ := exec_sound hE1 mixed (first120 (codeOf Tryz.f120)) (by rw [show loopsOf (first120 (codeOf Tryz.f120)) = [] from by kernel_rfl]; exact allM_nil) _ _ _ (x0120 a0)
    cases e with
    | normal => simp only [Option.some.injEq] at h1; subst h1; exact h2
    | exit i => cases h1
    | ret => cases h1
  have hL1 : Leads 1 32 Tryz.prog (.region 1 (ops120 (codeOf Tryz.f120)) true) (z1120 a0) .normal (z2120 a0 y q) := by
    have hx := x1120 a0 y q
    rw [same2_self, hv] at hx
    obtain ⟨w1, w2⟩ := qWr_spec (i0 := 7) (b := 0) (l := acc120.reverse) (by kernel_rfl)
    exact leads_flex (j0 := 12) (i0 := 7) (b := 0) (d := 16) (t := 15) (nx := 1) (o := o12120 (codeOf Tryz.f120)) (b1 := .var K120 a0 false) (b2 := .var K120 (a0.1, q) false) hE2 mixed hx (by kernel_rfl) w1 w2 (by omega)
      (by kernel_rfl) (by kernel_rfl) (by kernel_rfl) (by kernel_rfl) rfl (Nat.lt_of_succ_le (Nat.le_of_ble_eq_true rfl)) (qDst_spec (by kernel_rfl)) (qTmp_spec (by kernel_rfl))
      (by rw [show (o12120 (codeOf Tryz.f120)).op.operands = #[.tmp 15] from by kernel_rfl]; intro x hx; simpa using hx) rfl rfl
      (fun B hB => by rcases hB with rfl | rfl <;> kernel_rfl)
  have hbody : codeOf Tryz.f120 = .seq (first120 (codeOf Tryz.f120)) (.seq (.region 1 (ops120 (codeOf Tryz.f120)) true) (rest120 (codeOf Tryz.f120))) := by kernel_rfl
  have hx2 := x2120 R a0 y q k
  rw [hk] at hx2
  obtain ⟨e, σ, h1, _, h2⟩ := exec_sound hE0 mixed (rest120 (codeOf Tryz.f120)) (by rw [show loopsOf (rest120 (codeOf Tryz.f120)) = [] from by kernel_rfl]; exact allM_nil) _ _ _ hx2
  have hL := Leads.seq hL0 (Leads.seq hL1 h2)
  rw [← hbody] at hL
  obtain ⟨rs, os, g1, g2⟩ := xfun_leads hE0 Tryz.func120 (body := codeOf Tryz.f120) (by kernel_rfl) (enters Tryz.func120 (by kernel_rfl) (by kernel_rfl)) (by kernel_rfl) (res := res120) (by kernel_rfl) («as» := [.ptr K120 a0]) rfl (Nat.le_of_ble_eq_true rfl) (tm0 := (z0120 a0).tm) (me0 := (z0120 a0).me) rfl hL h1
  unfold finK at g2
  split at g2 <;> try (cases g2; done)
  rename_i y' hy
  split at g2 <;> try (cases g2; done)
  rename_i p' hp
  rw [asR_spec hy, asP_spec hp] at g1
  exact ⟨y', p', g1, g2⟩
abbrev FT83 : Type 1 := (R : Type) → Tq7 → Int → (Int → Tq7 → Int → Option R) → Option R
def en83 (F : FT83) : Ent := ⟨83, [(false, Kq7), (false, (.int .i64))], [(false, (.int .u64)), (false, Kq7), (false, (.int .i64))], fun R x k => F R x.1 x.2.1 (fun y1 y2 y3 => k (y1, y2, y3, ()) ())⟩
def res83 : List (ResultVar × TypeId × Bool) := [(.tmp 4, 22, false), (.cell 5 30, 30, false), (.tmp 6, 32, false)]
abbrev LT83_7 : Type 1 := (R : Type) → Int → Int → Int → Tq7 → Tq13 → (Int → Tq7 → Tq13 → Option R) → Option R
def le83_7 (L : LT83_7) : LEnt := ⟨7, [.val 4 (.int .u64), .fix 5 (.ptr 1 [] Kq7), .fix 7 (.ptr 2 [] Kq13), .val 31 (.int .i64), .val 32 (.int .i64), .var 1 Kq7 false, .var 2 Kq13 false], 3, [(.exit 1, [.val 4 (.int .u64), .fix 5 (.ptr 1 [] Kq7), .fix 7 (.ptr 2 [] Kq13), .var 1 Kq7 false, .var 2 Kq13 false])], fun R x ke => L R x.1 x.2.1 x.2.2.1 x.2.2.2.1 x.2.2.2.2.1 (fun y1 y2 y3 => ke.1 (y1, y2, y3, ()))⟩
noncomputable def e83 (F95 : FT95) (F119 : FT119) (F120 : FT120) (L7 : LT83_7) (R : Type) : Env R := ⟨TT, EQT, 0, 45, ownOf [], callOf [en95 F95, en119 F119, en120 F120] R, loopOf [le83_7 L7] R, [], inlOf []⟩
def p83_7 (F120 : FT120) : (R : Type) → Int → Int → Int → Tq7 → Tq13 → (Int → Int → Int → Tq7 → Tq13 → Option R) → (Int → Tq7 → Tq13 → Option R) → Option R := fun R x1 x2 x3 x4 x5 kc k0 =>
let v6 := (decide (x3 < x2));
(match v6 with
| true => let v7 := (ishl .u64 x1 (1 : Int));
F120 R x5 fun y8 p9 =>
let v10 := (ior .u64 v7 y8);
let v11 := (IntKind.i64.wrap (x3 + (1 : Int)));
kc v10 x2 v11 x4 p9
| false => k0 x1 x4 x5)
theorem q83_7 (F95 : FT95) (F119 : FT119) (F120 : FT120) (L7 : LT83_7) (R : Type) (x : HT (le83_7 L7).H) (kc : HT (le83_7 L7).H → Option R) (ke : KT R (le83_7 L7).exs) :
  exec (e83 F95 F119 F120 L7 R) (lcode 7 (codeOf Tryz.f83)) (stOf (le83_7 L7).H x 3) (roundK (le83_7 L7).H (le83_7 L7).exs kc ke) =
    p83_7 F120 R x.1 x.2.1 x.2.2.1 x.2.2.2.1 x.2.2.2.2.1 (fun x1 x2 x3 x4 x5 => kc (x1, x2, x3, x4, x5, ())) (fun y1 y2 y3 => ke.1 (y1, y2, y3, ())) := by kernel_rfl
noncomputable def G83_7 : Nat → LT83_7
  | 0 => fun _ _ _ _ _ _ _ => none
  | n + 1 => fun R x1 x2 x3 x4 x5 k0 => p83_7 F120 R x1 x2 x3 x4 x5 (fun x1 x2 x3 x4 x5 => G83_7 n R x1 x2 x3 x4 x5 k0) k0
def p83 (F95 : FT95) (F119 : FT119) (L7 : LT83_7) : FT83 := fun R a0 a1 k =>
F95 R a0 fun y1 =>
(match (!y1) with
| true => k (0 : Int) a0 (1 : Int)
| false => let v2 := (decide (a1 < (0 : Int)));
(match v2 with
| true => k (0 : Int) a0 (1 : Int)
| false => let v3 := (decide (a1 > (64 : Int)));
(match v3 with
| true => k (0 : Int) a0 (1 : Int)
| false => let v4 := (IntKind.u64.wrap a1);
F119 R a0 fun y5 =>
let v6 := (decide (v4 > y5));
(match v6 with
| true => k (0 : Int) a0 (8 : Int)
| false => L7 R (0 : Int) a1 (0 : Int) ((0 : Int), ([] : (List Int)), (0 : Int), (List.replicate 32 (0 : Int)), (0 : Int), (0 : Int), ()) (a0, (List.replicate 32 (0 : Int)), (0 : Int), false, ()) (fun x7 x8 x9 =>
k x7 x9.1 (0 : Int))))))
theorem q83 (F95 : FT95) (F119 : FT119) (F120 : FT120) (L7 : LT83_7) (F : FT83) (R : Type) (x : AT (en83 F).ins) (k : RT (en83 F).outs → PT (en83 F).ins → Option R) :
  xfun (e83 F95 F119 F120 L7 R) (codeOf Tryz.f83) res83 (avs (en83 F).ins x) (finK (en83 F).outs (en83 F).ins k) = p83 F95 F119 L7 R x.1 x.2.1 (fun y1 y2 y3 => k (y1, y2, y3, ()) ()) := by kernel_rfl
noncomputable def F83 : FT83 := p83 F95 F119 (G83_7 FUEL)
theorem env83 (R : Type) : EnvOK Tryz.prog (e83 F95 F119 F120 (G83_7 FUEL) R) := ⟨tabOK, eqOK, callOf_ok (allE_cons ok95 (allE_cons ok119 (allE_cons ok120 allE_nil))), noIns, inlOK_nil⟩
noncomputable def T83_7 : (R : Type) → HT (le83_7 (G83_7 FUEL)).H → (HT (le83_7 (G83_7 FUEL)).H → Option R) → KT R (le83_7 (G83_7 FUEL)).exs → Option R := fun R x kc ke => p83_7 F120 R x.1 x.2.1 x.2.2.1 x.2.2.2.1 x.2.2.2.2.1 (fun x1 x2 x3 x4 x5 => kc (x1, x2, x3, x4, x5, ())) (fun y1 y2 y3 => ke.1 (y1, y2, y3, ()))
theorem it83_7 : ∀ (n : Nat) (R : Type) (x : HT (le83_7 (G83_7 FUEL)).H) (ke : KT R (le83_7 (G83_7 FUEL)).exs), iter T83_7 n R x ke = G83_7 n R x.1 x.2.1 x.2.2.1 x.2.2.2.1 x.2.2.2.2.1 (fun y1 y2 y3 => ke.1 (y1, y2, y3, ())) := by
  intro n
  induction n with
  | zero => intro R x ke; rfl
  | succ n ih =>
    intro R x ke
    show T83_7 R x (fun x' => iter T83_7 n R x' ke) ke = _
    rw [show (fun x' => iter T83_7 n R x' ke) = fun x => G83_7 n R x.1 x.2.1 x.2.2.1 x.2.2.2.1 x.2.2.2.2.1 (fun y1 y2 y3 => ke.1 (y1, y2, y3, ())) from funext fun x' => ih R x' ke]
    rfl
theorem lok83_7 : (le83_7 (G83_7 FUEL)).OK Tryz.prog 0 45 (lcode 7 (codeOf Tryz.f83)) := fun R x ke r h =>
  iter_sound (fun R => e83 F95 F119 F120 (G83_7 FUEL) R) 0 45 (fun _ => rfl) (fun _ => rfl) (fun R => env83 R) mixed (by
    intro R
    rw [show loopsOf (lcode 7 (codeOf Tryz.f83)) = [] from by kernel_rfl]
    exact allM_nil) (T := T83_7) (fun R x kc ke => q83_7 F95 F119 F120 (G83_7 FUEL) R x kc ke) FUEL R x ke r ((it83_7 FUEL R x ke).trans h)
theorem ok83 : (en83 F83).OK Tryz.prog :=
  ent_ok (Ef := fun R => e83 F95 F119 F120 (G83_7 FUEL) R) (fun R => env83 R) mixed Tryz.func83 (body := codeOf Tryz.f83) (by kernel_rfl) (by kernel_rfl) (np := 0) (nt := 45) (fun _ => rfl) (fun _ => rfl) (by kernel_rfl) (res := res83) (by kernel_rfl) (fun _ => rfl) (fun _ => Nat.le_of_ble_eq_true rfl) (by
    intro R
    rw [show loopsOf (codeOf Tryz.f83) = [lcode 7 (codeOf Tryz.f83)] from by kernel_rfl]
    exact (allM_cons (loop_ok2 (e := le83_7 (G83_7 FUEL)) rfl rfl lok83_7) allM_nil)) (fun R x k => q83 F95 F119 F120 (G83_7 FUEL) F83 R x k)
abbrev FT42 : Type 1 := (R : Type) → Tq7 → Int → Int → (Int → Tq7 → Int → Option R) → Option R
def en42 (F : FT42) : Ent := ⟨42, [(false, Kq7), (false, (.int .u64)), (false, (.int .i64))], [(false, (.int .u64)), (false, Kq7), (false, (.int .i64))], fun R x k => F R x.1 x.2.1 x.2.2.1 (fun y1 y2 y3 => k (y1, y2, y3, ()) ())⟩
def res42 : List (ResultVar × TypeId × Bool) := [(.tmp 6, 22, false), (.cell 7 30, 30, false), (.tmp 8, 32, false)]
abbrev LT42_4 : Type 1 := (R : Type) → Int → Int → Int → Tq7 → Tq7 → (Int → Int → Tq7 → Option R) → (Tq7 → Tq7 → Option R) → Option R
def le42_4 (L : LT42_4) : LEnt := ⟨4, [.val 1 (.int .u64), .fix 3 (.ptr 0 [] Kq7), .fix 7 (.ptr 1 [] Kq7), .val 18 (.int .i64), .val 19 (.int .i64), .var 0 Kq7 false, .var 1 Kq7 false], 2, [(.ret, [.val 6 (.int .u64), .fix 7 (.ptr 1 [] Kq7), .val 8 (.int .i64), .var 1 Kq7 false]), (.exit 0, [.fix 3 (.ptr 0 [] Kq7), .fix 7 (.ptr 1 [] Kq7), .var 0 Kq7 false, .var 1 Kq7 false])], fun R x ke => L R x.1 x.2.1 x.2.2.1 x.2.2.2.1 x.2.2.2.2.1 (fun y1 y2 y3 => ke.1 (y1, y2, y3, ())) (fun y1 y2 => ke.2.1 (y1, y2, ()))⟩
noncomputable def e42 (F82 : FT82) (F83 : FT83) (F84 : FT84) (L4 : LT42_4) (R : Type) : Env R := ⟨TT, EQT, 0, 43, ownOf [], callOf [en82 F82, en83 F83, en84 F84] R, loopOf [le42_4 L4] R, [], inlOf []⟩
def p42_4 (F83 : FT83) (F84 : FT84) : (R : Type) → Int → Int → Int → Tq7 → Tq7 → (Int → Int → Int → Tq7 → Tq7 → Option R) → (Int → Int → Tq7 → Option R) → (Tq7 → Tq7 → Option R) → Option R := fun R x1 x2 x3 x4 x5 kc k0 k1 =>
let v6 := (decide (x3 < x2));
(match v6 with
| true => F84 R x1 fun y7 =>
F83 R x4 y7 fun y8 y9 y10 =>
let v11 := (y10 != (0 : Int));
(match v11 with
| true => k0 (0 : Int) y10 x4
| false => let v12 := (decide (y8 < x1));
(match v12 with
| true => k0 y8 (0 : Int) y9
| false => let v13 := (IntKind.i64.wrap (x3 + (1 : Int)));
kc x1 x2 v13 y9 x5))
| false => k1 x4 x5)
theorem q42_4 (F82 : FT82) (F83 : FT83) (F84 : FT84) (L4 : LT42_4) (R : Type) (x : HT (le42_4 L4).H) (kc : HT (le42_4 L4).H → Option R) (ke : KT R (le42_4 L4).exs) :
  exec (e42 F82 F83 F84 L4 R) (lcode 4 (codeOf Tryz.f42)) (stOf (le42_4 L4).H x 2) (roundK (le42_4 L4).H (le42_4 L4).exs kc ke) =
    p42_4 F83 F84 R x.1 x.2.1 x.2.2.1 x.2.2.2.1 x.2.2.2.2.1 (fun x1 x2 x3 x4 x5 => kc (x1, x2, x3, x4, x5, ())) (fun y1 y2 y3 => ke.1 (y1, y2, y3, ())) (fun y1 y2 => ke.2.1 (y1, y2, ())) := by kernel_rfl
noncomputable def G42_4 : Nat → LT42_4
  | 0 => fun _ _ _ _ _ _ _ _ => none
  | n + 1 => fun R x1 x2 x3 x4 x5 k0 k1 => p42_4 F83 F84 R x1 x2 x3 x4 x5 (fun x1 x2 x3 x4 x5 => G42_4 n R x1 x2 x3 x4 x5 k0 k1) k0 k1
def p42 (F82 : FT82) (L4 : LT42_4) : FT42 := fun R a0 a1 a2 k =>
F82 R a0 a1 a2 fun y1 =>
(match (!y1) with
| true => k (0 : Int) a0 (1 : Int)
| false => L4 R a1 a2 (0 : Int) a0 ((0 : Int), ([] : (List Int)), (0 : Int), (List.replicate 32 (0 : Int)), (0 : Int), (0 : Int), ()) (fun x2 x3 x4 =>
k x2 x4 x3) (fun x5 x6 =>
k (0 : Int) x5 (9 : Int)))
theorem q42 (F82 : FT82) (F83 : FT83) (F84 : FT84) (L4 : LT42_4) (F : FT42) (R : Type) (x : AT (en42 F).ins) (k : RT (en42 F).outs → PT (en42 F).ins → Option R) :
  xfun (e42 F82 F83 F84 L4 R) (codeOf Tryz.f42) res42 (avs (en42 F).ins x) (finK (en42 F).outs (en42 F).ins k) = p42 F82 L4 R x.1 x.2.1 x.2.2.1 (fun y1 y2 y3 => k (y1, y2, y3, ()) ()) := by kernel_rfl
noncomputable def F42 : FT42 := p42 F82 (G42_4 FUEL)
theorem env42 (R : Type) : EnvOK Tryz.prog (e42 F82 F83 F84 (G42_4 FUEL) R) := ⟨tabOK, eqOK, callOf_ok (allE_cons ok82 (allE_cons ok83 (allE_cons ok84 allE_nil))), noIns, inlOK_nil⟩
noncomputable def T42_4 : (R : Type) → HT (le42_4 (G42_4 FUEL)).H → (HT (le42_4 (G42_4 FUEL)).H → Option R) → KT R (le42_4 (G42_4 FUEL)).exs → Option R := fun R x kc ke => p42_4 F83 F84 R x.1 x.2.1 x.2.2.1 x.2.2.2.1 x.2.2.2.2.1 (fun x1 x2 x3 x4 x5 => kc (x1, x2, x3, x4, x5, ())) (fun y1 y2 y3 => ke.1 (y1, y2, y3, ())) (fun y1 y2 => ke.2.1 (y1, y2, ()))
theorem it42_4 : ∀ (n : Nat) (R : Type) (x : HT (le42_4 (G42_4 FUEL)).H) (ke : KT R (le42_4 (G42_4 FUEL)).exs), iter T42_4 n R x ke = G42_4 n R x.1 x.2.1 x.2.2.1 x.2.2.2.1 x.2.2.2.2.1 (fun y1 y2 y3 => ke.1 (y1, y2, y3, ())) (fun y1 y2 => ke.2.1 (y1, y2, ())) := by
  intro n
  induction n with
  | zero => intro R x ke; rfl
  | succ n ih =>
    intro R x ke
    show T42_4 R x (fun x' => iter T42_4 n R x' ke) ke = _
    rw [show (fun x' => iter T42_4 n R x' ke) = fun x => G42_4 n R x.1 x.2.1 x.2.2.1 x.2.2.2.1 x.2.2.2.2.1 (fun y1 y2 y3 => ke.1 (y1, y2, y3, ())) (fun y1 y2 => ke.2.1 (y1, y2, ())) from funext fun x' => ih R x' ke]
    rfl
theorem lok42_4 : (le42_4 (G42_4 FUEL)).OK Tryz.prog 0 43 (lcode 4 (codeOf Tryz.f42)) := fun R x ke r h =>
  iter_sound (fun R => e42 F82 F83 F84 (G42_4 FUEL) R) 0 43 (fun _ => rfl) (fun _ => rfl) (fun R => env42 R) mixed (by
    intro R
    rw [show loopsOf (lcode 4 (codeOf Tryz.f42)) = [] from by kernel_rfl]
    exact allM_nil) (T := T42_4) (fun R x kc ke => q42_4 F82 F83 F84 (G42_4 FUEL) R x kc ke) FUEL R x ke r ((it42_4 FUEL R x ke).trans h)
theorem ok42 : (en42 F42).OK Tryz.prog :=
  ent_ok (Ef := fun R => e42 F82 F83 F84 (G42_4 FUEL) R) (fun R => env42 R) mixed Tryz.func42 (body := codeOf Tryz.f42) (by kernel_rfl) (by kernel_rfl) (np := 0) (nt := 43) (fun _ => rfl) (fun _ => rfl) (by kernel_rfl) (res := res42) (by kernel_rfl) (fun _ => rfl) (fun _ => Nat.le_of_ble_eq_true rfl) (by
    intro R
    rw [show loopsOf (codeOf Tryz.f42) = [lcode 4 (codeOf Tryz.f42)] from by kernel_rfl]
    exact (allM_cons (loop_ok2 (e := le42_4 (G42_4 FUEL)) rfl rfl lok42_4) allM_nil)) (fun R x k => q42 F82 F83 F84 (G42_4 FUEL) F42 R x k)
abbrev FT97 : Type 1 := (R : Type) → ((List Int) × Unit) → Int → (Int → Int → Option R) → Option R
def en97 (F : FT97) : Ent := ⟨97, [(false, (.pair (.sl (.int .u64)) .unit)), (false, (.int .u64))], [(false, (.int .i64)), (false, (.int .i64))], fun R x k => F R x.1 x.2.1 (fun y1 y2 => k (y1, y2, ()) ())⟩
def res97 : List (ResultVar × TypeId × Bool) := [(.tmp 4, 3, false), (.tmp 5, 32, false)]
abbrev LT97_4 : Type 1 := (R : Type) → Int → Int → Int → ((List Int) × Unit) → (Int → Int → Int → ((List Int) × Unit) → Option R) → Option R
def le97_4 (L : LT97_4) : LEnt := ⟨4, [.val 1 (.int .u64), .fix 2 (.ptr 0 [] (.pair (.sl (.int .u64)) .unit)), .val 6 (.int .i64), .val 7 (.int .i64), .var 0 (.pair (.sl (.int .u64)) .unit) false], 1, [(.exit 0, [.val 1 (.int .u64), .fix 2 (.ptr 0 [] (.pair (.sl (.int .u64)) .unit)), .val 6 (.int .i64), .val 7 (.int .i64), .var 0 (.pair (.sl (.int .u64)) .unit) false])], fun R x ke => L R x.1 x.2.1 x.2.2.1 x.2.2.2.1 (fun y1 y2 y3 y4 => ke.1 (y1, y2, y3, y4, ()))⟩
abbrev LT97_6 : Type 1 := (R : Type) → Int → Int → Int → ((List Int) × Unit) → (Int → Option R) → Option R
def le97_6 (L : LT97_6) : LEnt := ⟨6, [.val 1 (.int .u64), .fix 2 (.ptr 0 [] (.pair (.sl (.int .u64)) .unit)), .val 6 (.int .i64), .val 7 (.int .i64), .var 0 (.pair (.sl (.int .u64)) .unit) false], 1, [(.exit 2, [.val 6 (.int .i64)])], fun R x ke => L R x.1 x.2.1 x.2.2.1 x.2.2.2.1 (fun y1 => ke.1 (y1, ()))⟩
noncomputable def e97 (F96 : FT96) (F128 : FT128) (L4 : LT97_4) (L6 : LT97_6) (R : Type) : Env R := ⟨TT, EQT, 0, 51, ownOf [], callOf [en96 F96, en128 F128] R, loopOf [le97_4 L4, le97_6 L6] R, [], inlOf []⟩
def p97_4 (F128 : FT128) : (R : Type) → Int → Int → Int → ((List Int) × Unit) → (Int → Int → Int → ((List Int) × Unit) → Option R) → (Int → Int → Int → ((List Int) × Unit) → Option R) → Option R := fun R x1 x2 x3 x4 kc k0 =>
let v5 := (ishl .i64 x3 (1 : Int));
F128 R x4 fun y6 =>
let v7 := (decide (v5 ≤ y6));
(match v7 with
| true => let v8 := (ishl .i64 x3 (1 : Int));
kc x1 x2 v8 x4
| false => k0 x1 x2 x3 x4)
theorem q97_4 (F96 : FT96) (F128 : FT128) (L4 : LT97_4) (L6 : LT97_6) (R : Type) (x : HT (le97_4 L4).H) (kc : HT (le97_4 L4).H → Option R) (ke : KT R (le97_4 L4).exs) :
  exec (e97 F96 F128 L4 L6 R) (lcode 4 (codeOf Tryz.f97)) (stOf (le97_4 L4).H x 1) (roundK (le97_4 L4).H (le97_4 L4).exs kc ke) =
    p97_4 F128 R x.1 x.2.1 x.2.2.1 x.2.2.2.1 (fun x1 x2 x3 x4 => kc (x1, x2, x3, x4, ())) (fun y1 y2 y3 y4 => ke.1 (y1, y2, y3, y4, ())) := by kernel_rfl
noncomputable def G97_4 : Nat → LT97_4
  | 0 => fun _ _ _ _ _ _ => none
  | n + 1 => fun R x1 x2 x3 x4 k0 => p97_4 F128 R x1 x2 x3 x4 (fun x1 x2 x3 x4 => G97_4 n R x1 x2 x3 x4 k0) k0
def p97_6 (F128 : FT128) : (R : Type) → Int → Int → Int → ((List Int) × Unit) → (Int → Int → Int → ((List Int) × Unit) → Option R) → (Int → Option R) → Option R := fun R x1 x2 x3 x4 kc k0 =>
let v5 := (decide (x3 > (0 : Int)));
(match v5 with
| true => let v6 := (IntKind.i64.wrap (x2 + x3));
F128 R x4 fun y7 =>
let v8 := (decide (v6 ≤ y7));
(match v8 with
| true => let v9 := (IntKind.i64.wrap (v6 - (1 : Int)));
(match (bnd v9 (List.length x4.1 : Int)) with
| true => let v10 := (List.getD x4.1 (Int.toNat v9) (0 : Int));
let v11 := (decide (v10 ≤ x1));
(match v11 with
| true => let v12 := (IntKind.i64.wrap (v6 - (1 : Int)));
(match (bnd v12 (List.length x4.1 : Int)) with
| true => let v13 := (List.getD x4.1 (Int.toNat v12) (0 : Int));
let v14 := (IntKind.u64.wrap (x1 - v13));
let v15 := (ishr .i64 x3 (1 : Int));
kc v14 v6 v15 x4
| false => none)
| false => let v16 := (ishr .i64 x3 (1 : Int));
kc x1 x2 v16 x4)
| false => none)
| false => let v17 := (ishr .i64 x3 (1 : Int));
kc x1 x2 v17 x4)
| false => k0 x2)
theorem q97_6 (F96 : FT96) (F128 : FT128) (L4 : LT97_4) (L6 : LT97_6) (R : Type) (x : HT (le97_6 L6).H) (kc : HT (le97_6 L6).H → Option R) (ke : KT R (le97_6 L6).exs) :
  exec (e97 F96 F128 L4 L6 R) (lcode 6 (codeOf Tryz.f97)) (stOf (le97_6 L6).H x 1) (roundK (le97_6 L6).H (le97_6 L6).exs kc ke) =
    p97_6 F128 R x.1 x.2.1 x.2.2.1 x.2.2.2.1 (fun x1 x2 x3 x4 => kc (x1, x2, x3, x4, ())) (fun y1 => ke.1 (y1, ())) := by kernel_rfl
noncomputable def G97_6 : Nat → LT97_6
  | 0 => fun _ _ _ _ _ _ => none
  | n + 1 => fun R x1 x2 x3 x4 k0 => p97_6 F128 R x1 x2 x3 x4 (fun x1 x2 x3 x4 => G97_6 n R x1 x2 x3 x4 k0) k0
def p97 (F96 : FT96) (L4 : LT97_4) (L6 : LT97_6) : FT97 := fun R a0 a1 k =>
F96 R a0 fun y1 =>
let v2 := (decide (a1 ≥ y1));
(match v2 with
| true => k (0 : Int) (3 : Int)
| false => L4 R a1 (0 : Int) (1 : Int) a0 (fun x3 x4 x5 x6 =>
L6 R x3 x4 x5 x6 (fun x7 =>
k x7 (0 : Int))))
theorem q97 (F96 : FT96) (F128 : FT128) (L4 : LT97_4) (L6 : LT97_6) (F : FT97) (R : Type) (x : AT (en97 F).ins) (k : RT (en97 F).outs → PT (en97 F).ins → Option R) :
  xfun (e97 F96 F128 L4 L6 R) (codeOf Tryz.f97) res97 (avs (en97 F).ins x) (finK (en97 F).outs (en97 F).ins k) = p97 F96 L4 L6 R x.1 x.2.1 (fun y1 y2 => k (y1, y2, ()) ()) := by kernel_rfl
noncomputable def F97 : FT97 := p97 F96 (G97_4 FUEL) (G97_6 FUEL)
theorem env97 (R : Type) : EnvOK Tryz.prog (e97 F96 F128 (G97_4 FUEL) (G97_6 FUEL) R) := ⟨tabOK, eqOK, callOf_ok (allE_cons ok96 (allE_cons ok128 allE_nil)), noIns, inlOK_nil⟩
noncomputable def T97_4 : (R : Type) → HT (le97_4 (G97_4 FUEL)).H → (HT (le97_4 (G97_4 FUEL)).H → Option R) → KT R (le97_4 (G97_4 FUEL)).exs → Option R := fun R x kc ke => p97_4 F128 R x.1 x.2.1 x.2.2.1 x.2.2.2.1 (fun x1 x2 x3 x4 => kc (x1, x2, x3, x4, ())) (fun y1 y2 y3 y4 => ke.1 (y1, y2, y3, y4, ()))
theorem it97_4 : ∀ (n : Nat) (R : Type) (x : HT (le97_4 (G97_4 FUEL)).H) (ke : KT R (le97_4 (G97_4 FUEL)).exs), iter T97_4 n R x ke = G97_4 n R x.1 x.2.1 x.2.2.1 x.2.2.2.1 (fun y1 y2 y3 y4 => ke.1 (y1, y2, y3, y4, ())) := by
  intro n
  induction n with
  | zero => intro R x ke; rfl
  | succ n ih =>
    intro R x ke
    show T97_4 R x (fun x' => iter T97_4 n R x' ke) ke = _
    rw [show (fun x' => iter T97_4 n R x' ke) = fun x => G97_4 n R x.1 x.2.1 x.2.2.1 x.2.2.2.1 (fun y1 y2 y3 y4 => ke.1 (y1, y2, y3, y4, ())) from funext fun x' => ih R x' ke]
    rfl
theorem lok97_4 : (le97_4 (G97_4 FUEL)).OK Tryz.prog 0 51 (lcode 4 (codeOf Tryz.f97)) := fun R x ke r h =>
  iter_sound (fun R => e97 F96 F128 (G97_4 FUEL) (G97_6 FUEL) R) 0 51 (fun _ => rfl) (fun _ => rfl) (fun R => env97 R) mixed (by
    intro R
    rw [show loopsOf (lcode 4 (codeOf Tryz.f97)) = [] from by kernel_rfl]
    exact allM_nil) (T := T97_4) (fun R x kc ke => q97_4 F96 F128 (G97_4 FUEL) (G97_6 FUEL) R x kc ke) FUEL R x ke r ((it97_4 FUEL R x ke).trans h)
noncomputable def T97_6 : (R : Type) → HT (le97_6 (G97_6 FUEL)).H → (HT (le97_6 (G97_6 FUEL)).H → Option R) → KT R (le97_6 (G97_6 FUEL)).exs → Option R := fun R x kc ke => p97_6 F128 R x.1 x.2.1 x.2.2.1 x.2.2.2.1 (fun x1 x2 x3 x4 => kc (x1, x2, x3, x4, ())) (fun y1 => ke.1 (y1, ()))
theorem it97_6 : ∀ (n : Nat) (R : Type) (x : HT (le97_6 (G97_6 FUEL)).H) (ke : KT R (le97_6 (G97_6 FUEL)).exs), iter T97_6 n R x ke = G97_6 n R x.1 x.2.1 x.2.2.1 x.2.2.2.1 (fun y1 => ke.1 (y1, ())) := by
  intro n
  induction n with
  | zero => intro R x ke; rfl
  | succ n ih =>
    intro R x ke
    show T97_6 R x (fun x' => iter T97_6 n R x' ke) ke = _
    rw [show (fun x' => iter T97_6 n R x' ke) = fun x => G97_6 n R x.1 x.2.1 x.2.2.1 x.2.2.2.1 (fun y1 => ke.1 (y1, ())) from funext fun x' => ih R x' ke]
    rfl
theorem lok97_6 : (le97_6 (G97_6 FUEL)).OK Tryz.prog 0 51 (lcode 6 (codeOf Tryz.f97)) := fun R x ke r h =>
  iter_sound (fun R => e97 F96 F128 (G97_4 FUEL) (G97_6 FUEL) R) 0 51 (fun _ => rfl) (fun _ => rfl) (fun R => env97 R) mixed (by
    intro R
    rw [show loopsOf (lcode 6 (codeOf Tryz.f97)) = [] from by kernel_rfl]
    exact allM_nil) (T := T97_6) (fun R x kc ke => q97_6 F96 F128 (G97_4 FUEL) (G97_6 FUEL) R x kc ke) FUEL R x ke r ((it97_6 FUEL R x ke).trans h)
theorem ok97 : (en97 F97).OK Tryz.prog :=
  ent_ok (Ef := fun R => e97 F96 F128 (G97_4 FUEL) (G97_6 FUEL) R) (fun R => env97 R) mixed Tryz.func97 (body := codeOf Tryz.f97) (by kernel_rfl) (by kernel_rfl) (np := 0) (nt := 51) (fun _ => rfl) (fun _ => rfl) (by kernel_rfl) (res := res97) (by kernel_rfl) (fun _ => rfl) (fun _ => Nat.le_of_ble_eq_true rfl) (by
    intro R
    rw [show loopsOf (codeOf Tryz.f97) = [lcode 4 (codeOf Tryz.f97), lcode 6 (codeOf Tryz.f97)] from by kernel_rfl]
    exact (allM_cons (loop_ok2 (e := le97_4 (G97_4 FUEL)) rfl rfl lok97_4) (allM_cons (loop_ok2 (e := le97_6 (G97_6 FUEL)) rfl rfl lok97_6) allM_nil))) (fun R x k => q97 F96 F128 (G97_4 FUEL) (G97_6 FUEL) F97 R x k)
abbrev FT56 : Type 1 := (R : Type) → ((List Int) × Unit) → Tq7 → Int → (Int → Tq7 → Int → Option R) → Option R
def en56 (F : FT56) : Ent := ⟨56, [(false, (.pair (.sl (.int .u64)) .unit)), (false, Kq7), (false, (.int .i64))], [(false, (.int .i64)), (false, Kq7), (false, (.int .i64))], fun R x k => F R x.1 x.2.1 x.2.2.1 (fun y1 y2 y3 => k (y1, y2, y3, ()) ())⟩
def res56 : List (ResultVar × TypeId × Bool) := [(.tmp 6, 3, false), (.cell 7 30, 30, false), (.tmp 8, 32, false)]
noncomputable def e56 (F42 : FT42) (F96 : FT96) (F97 : FT97) (R : Type) : Env R := ⟨TT, EQT, 0, 40, ownOf [], callOf [en42 F42, en96 F96, en97 F97] R, loopOf [] R, [], inlOf []⟩
def p56 (F42 : FT42) (F96 : FT96) (F97 : FT97) : FT56 := fun R a0 a1 a2 k =>
F96 R a0 fun y1 =>
let v2 := (y1 == (0 : Int));
(match v2 with
| true => k (0 : Int) a1 (10 : Int)
| false => F42 R a1 y1 a2 fun y3 y4 y5 =>
let v6 := (y5 != (0 : Int));
(match v6 with
| true => k (0 : Int) y4 y5
| false => F97 R a0 y3 fun y7 y8 =>
k y7 y4 y8))
theorem q56 (F42 : FT42) (F96 : FT96) (F97 : FT97) (F : FT56) (R : Type) (x : AT (en56 F).ins) (k : RT (en56 F).outs → PT (en56 F).ins → Option R) :
  xfun (e56 F42 F96 F97 R) (codeOf Tryz.f56) res56 (avs (en56 F).ins x) (finK (en56 F).outs (en56 F).ins k) = p56 F42 F96 F97 R x.1 x.2.1 x.2.2.1 (fun y1 y2 y3 => k (y1, y2, y3, ()) ()) := by kernel_rfl
noncomputable def F56 : FT56 := p56 F42 F96 F97
theorem env56 (R : Type) : EnvOK Tryz.prog (e56 F42 F96 F97 R) := ⟨tabOK, eqOK, callOf_ok (allE_cons ok42 (allE_cons ok96 (allE_cons ok97 allE_nil))), noIns, inlOK_nil⟩
theorem ok56 : (en56 F56).OK Tryz.prog :=
  ent_ok (Ef := fun R => e56 F42 F96 F97 R) (fun R => env56 R) mixed Tryz.func56 (body := codeOf Tryz.f56) (by kernel_rfl) (by kernel_rfl) (np := 0) (nt := 40) (fun _ => rfl) (fun _ => rfl) (by kernel_rfl) (res := res56) (by kernel_rfl) (fun _ => rfl) (fun _ => Nat.le_of_ble_eq_true rfl) (by
    intro R
    rw [show loopsOf (codeOf Tryz.f56) = [] from by kernel_rfl]
    exact allM_nil) (fun R x k => q56 F42 F96 F97 F56 R x k)
abbrev FT98 : Type 1 := (R : Type) → ((List Int) × Unit) → Int → (Int → Int → Option R) → Option R
def en98 (F : FT98) : Ent := ⟨98, [(false, (.pair (.sl (.int .u64)) .unit)), (false, (.int .i64))], [(false, (.int .u64)), (false, (.int .i64))], fun R x k => F R x.1 x.2.1 (fun y1 y2 => k (y1, y2, ()) ())⟩
def res98 : List (ResultVar × TypeId × Bool) := [(.tmp 4, 22, false), (.tmp 5, 32, false)]
noncomputable def e98 (F127 : FT127) (F128 : FT128) (R : Type) : Env R := ⟨TT, EQT, 0, 22, ownOf [], callOf [en127 F127, en128 F128] R, loopOf [] R, [], inlOf []⟩
def p98 (F127 : FT127) (F128 : FT128) : FT98 := fun R a0 a1 k =>
let v1 := (decide (a1 < (0 : Int)));
(match v1 with
| true => k (0 : Int) (3 : Int)
| false => F128 R a0 fun y2 =>
let v3 := (decide (a1 ≥ y2));
(match v3 with
| true => k (0 : Int) (3 : Int)
| false => let v4 := (IntKind.i64.wrap (a1 + (1 : Int)));
F127 R a0 v4 fun y5 =>
F127 R a0 a1 fun y6 =>
let v7 := (IntKind.u64.wrap (y5 - y6));
k v7 (0 : Int)))
theorem q98 (F127 : FT127) (F128 : FT128) (F : FT98) (R : Type) (x : AT (en98 F).ins) (k : RT (en98 F).outs → PT (en98 F).ins → Option R) :
  xfun (e98 F127 F128 R) (codeOf Tryz.f98) res98 (avs (en98 F).ins x) (finK (en98 F).outs (en98 F).ins k) = p98 F127 F128 R x.1 x.2.1 (fun y1 y2 => k (y1, y2, ()) ()) := by kernel_rfl
noncomputable def F98 : FT98 := p98 F127 F128
theorem env98 (R : Type) : EnvOK Tryz.prog (e98 F127 F128 R) := ⟨tabOK, eqOK, callOf_ok (allE_cons ok127 (allE_cons ok128 allE_nil)), noIns, inlOK_nil⟩
theorem ok98 : (en98 F98).OK Tryz.prog :=
  ent_ok (Ef := fun R => e98 F127 F128 R) (fun R => env98 R) mixed Tryz.func98 (body := codeOf Tryz.f98) (by kernel_rfl) (by kernel_rfl) (np := 0) (nt := 22) (fun _ => rfl) (fun _ => rfl) (by kernel_rfl) (res := res98) (by kernel_rfl) (fun _ => rfl) (fun _ => Nat.le_of_ble_eq_true rfl) (by
    intro R
    rw [show loopsOf (codeOf Tryz.f98) = [] from by kernel_rfl]
    exact allM_nil) (fun R x k => q98 F127 F128 F98 R x k)
abbrev FT129 : Type 1 := (R : Type) → Int → Int → Int → (Int → Int → Option R) → Option R
def en129 (F : FT129) : Ent := ⟨129, [(false, (.int .u64)), (false, (.int .u64)), (false, (.int .u64))], [(false, (.int .u64)), (false, (.int .u64))], fun R x k => F R x.1 x.2.1 x.2.2.1 (fun y1 y2 => k (y1, y2, ()) ())⟩
def F129 : FT129 := fun R a0 a1 a2 k => match decide (0 ≤ a0 ∧ 0 ≤ a1 ∧ 0 ≤ a2 ∧ a2 ≤ 1) with | true => k ((a0 + a1 + a2) % 18446744073709551616) ((a0 + a1 + a2) / 18446744073709551616) | false => none
theorem ok129 : (en129 F129).OK Tryz.prog := add64_ok Tryz.func129 (by kernel_rfl) (by kernel_rfl) (by kernel_rfl) (by kernel_rfl)
abbrev FT136 : Type 1 := (R : Type) → Int → (Bool → Option R) → Option R
def en136 (F : FT136) : Ent := ⟨136, [(false, (.int .u64))], [(false, .bool)], fun R x k => F R x.1 (fun y1 => k (y1, ()) ())⟩
def res136 : List (ResultVar × TypeId × Bool) := [(.tmp 2, 4, false)]
noncomputable def e136 (R : Type) : Env R := ⟨TT, EQT, 0, 5, ownOf [], callOf [] R, loopOf [] R, [], inlOf []⟩
def p136 : FT136 := fun R a0 k =>
let v1 := (decide (a0 < (9223372036854775808 : Int)));
k v1
theorem q136 (F : FT136) (R : Type) (x : AT (en136 F).ins) (k : RT (en136 F).outs → PT (en136 F).ins → Option R) :
  xfun (e136 R) (codeOf Tryz.f136) res136 (avs (en136 F).ins x) (finK (en136 F).outs (en136 F).ins k) = p136 R x.1 (fun y1 => k (y1, ()) ()) := by kernel_rfl
noncomputable def F136 : FT136 := p136
theorem env136 (R : Type) : EnvOK Tryz.prog (e136 R) := ⟨tabOK, eqOK, callOf_ok allE_nil, noIns, inlOK_nil⟩
theorem ok136 : (en136 F136).OK Tryz.prog :=
  ent_ok (Ef := fun R => e136 R) (fun R => env136 R) mixed Tryz.func136 (body := codeOf Tryz.f136) (by kernel_rfl) (by kernel_rfl) (np := 0) (nt := 5) (fun _ => rfl) (fun _ => rfl) (by kernel_rfl) (res := res136) (by kernel_rfl) (fun _ => rfl) (fun _ => Nat.le_of_ble_eq_true rfl) (by
    intro R
    rw [show loopsOf (codeOf Tryz.f136) = [] from by kernel_rfl]
    exact allM_nil) (fun R x k => q136 F136 R x k)
abbrev FT117 : Type 1 := (R : Type) → Int → Int → (Int → Bool → Option R) → Option R
def en117 (F : FT117) : Ent := ⟨117, [(false, (.int .u64)), (false, (.int .u64))], [(false, (.int .u64)), (false, .bool)], fun R x k => F R x.1 x.2.1 (fun y1 y2 => k (y1, y2, ()) ())⟩
def res117 : List (ResultVar × TypeId × Bool) := [(.tmp 4, 22, false), (.tmp 5, 4, false)]
noncomputable def e117 (F136 : FT136) (R : Type) : Env R := ⟨TT, EQT, 0, 14, ownOf [], callOf [en136 F136] R, loopOf [] R, [], inlOf []⟩
def p117 (F136 : FT136) : FT117 := fun R a0 a1 k =>
let v1 := (a1 != (0 : Int));
(match v1 with
| true => k (0 : Int) false
| false => F136 R a0 fun y2 =>
(match (!y2) with
| true => k (0 : Int) false
| false => k a0 true))
theorem q117 (F136 : FT136) (F : FT117) (R : Type) (x : AT (en117 F).ins) (k : RT (en117 F).outs → PT (en117 F).ins → Option R) :
  xfun (e117 F136 R) (codeOf Tryz.f117) res117 (avs (en117 F).ins x) (finK (en117 F).outs (en117 F).ins k) = p117 F136 R x.1 x.2.1 (fun y1 y2 => k (y1, y2, ()) ()) := by kernel_rfl
noncomputable def F117 : FT117 := p117 F136
theorem env117 (R : Type) : EnvOK Tryz.prog (e117 F136 R) := ⟨tabOK, eqOK, callOf_ok (allE_cons ok136 allE_nil), noIns, inlOK_nil⟩
theorem ok117 : (en117 F117).OK Tryz.prog :=
  ent_ok (Ef := fun R => e117 F136 R) (fun R => env117 R) mixed Tryz.func117 (body := codeOf Tryz.f117) (by kernel_rfl) (by kernel_rfl) (np := 0) (nt := 14) (fun _ => rfl) (fun _ => rfl) (by kernel_rfl) (res := res117) (by kernel_rfl) (fun _ => rfl) (fun _ => Nat.le_of_ble_eq_true rfl) (by
    intro R
    rw [show loopsOf (codeOf Tryz.f117) = [] from by kernel_rfl]
    exact allM_nil) (fun R x k => q117 F136 F117 R x k)
abbrev FT99 : Type 1 := (R : Type) → Int → Int → (Int → Bool → Option R) → Option R
def en99 (F : FT99) : Ent := ⟨99, [(false, (.int .u64)), (false, (.int .u64))], [(false, (.int .u64)), (false, .bool)], fun R x k => F R x.1 x.2.1 (fun y1 y2 => k (y1, y2, ()) ())⟩
def res99 : List (ResultVar × TypeId × Bool) := [(.tmp 4, 22, false), (.tmp 5, 4, false)]
noncomputable def e99 (F117 : FT117) (F129 : FT129) (R : Type) : Env R := ⟨TT, EQT, 0, 14, ownOf [], callOf [en117 F117, en129 F129] R, loopOf [] R, [], inlOf []⟩
def p99 (F117 : FT117) (F129 : FT129) : FT99 := fun R a0 a1 k =>
F129 R a0 a1 (0 : Int) fun y1 y2 =>
F117 R y1 y2 fun y3 y4 =>
k y3 y4
theorem q99 (F117 : FT117) (F129 : FT129) (F : FT99) (R : Type) (x : AT (en99 F).ins) (k : RT (en99 F).outs → PT (en99 F).ins → Option R) :
  xfun (e99 F117 F129 R) (codeOf Tryz.f99) res99 (avs (en99 F).ins x) (finK (en99 F).outs (en99 F).ins k) = p99 F117 F129 R x.1 x.2.1 (fun y1 y2 => k (y1, y2, ()) ()) := by kernel_rfl
noncomputable def F99 : FT99 := p99 F117 F129
theorem env99 (R : Type) : EnvOK Tryz.prog (e99 F117 F129 R) := ⟨tabOK, eqOK, callOf_ok (allE_cons ok117 (allE_cons ok129 allE_nil)), noIns, inlOK_nil⟩
theorem ok99 : (en99 F99).OK Tryz.prog :=
  ent_ok (Ef := fun R => e99 F117 F129 R) (fun R => env99 R) mixed Tryz.func99 (body := codeOf Tryz.f99) (by kernel_rfl) (by kernel_rfl) (np := 0) (nt := 14) (fun _ => rfl) (fun _ => rfl) (by kernel_rfl) (res := res99) (by kernel_rfl) (fun _ => rfl) (fun _ => Nat.le_of_ble_eq_true rfl) (by
    intro R
    rw [show loopsOf (codeOf Tryz.f99) = [] from by kernel_rfl]
    exact allM_nil) (fun R x k => q99 F117 F129 F99 R x k)
abbrev FT57 : Type 1 := (R : Type) → ((List Int) × Unit) → Int → Int → (((List Int) × Unit) → Int → Option R) → Option R
def en57 (F : FT57) : Ent := ⟨57, [(false, (.pair (.sl (.int .u64)) .unit)), (false, (.int .i64)), (false, (.int .u64))], [(false, (.pair (.sl (.int .u64)) .unit)), (false, (.int .i64))], fun R x k => F R x.1 x.2.1 x.2.2.1 (fun y1 y2 => k (y1, y2, ()) ())⟩
def res57 : List (ResultVar × TypeId × Bool) := [(.cell 6 49, 49, false), (.tmp 7, 32, false)]
abbrev LT57_9 : Type 1 := (R : Type) → Int → Int → Int → ((List Int) × Unit) → (List Int) → (((List Int) × Unit) → (List Int) → Option R) → Option R
def le57_9 (L : LT57_9) : LEnt := ⟨9, [.val 2 (.int .u64), .fix 6 (.ptr 1 [] (.pair (.sl (.int .u64)) .unit)), .val 8 (.int .u64), .fix 12 (.own 2 0), .val 13 (.int .i64), .var 1 (.pair (.sl (.int .u64)) .unit) false, .row 2 (.int .u64) false], 3, [(.exit 0, [.fix 6 (.ptr 1 [] (.pair (.sl (.int .u64)) .unit)), .fix 12 (.own 2 0), .var 1 (.pair (.sl (.int .u64)) .unit) false, .row 2 (.int .u64) false])], fun R x ke => L R x.1 x.2.1 x.2.2.1 x.2.2.2.1 x.2.2.2.2.1 (fun y1 y2 => ke.1 (y1, y2, ()))⟩
noncomputable def e57 (F92 : FT92) (F93 : FT93) (F96 : FT96) (F98 : FT98) (F99 : FT99) (L9 : LT57_9) (R : Type) : Env R := ⟨TT, EQT, 0, 64, ownOf [], callOf [en92 F92, en93 F93, en96 F96, en98 F98, en99 F99] R, loopOf [le57_9 L9] R, [], inlOf []⟩
def p57_9 (F93 : FT93) : (R : Type) → Int → Int → Int → ((List Int) × Unit) → (List Int) → (Int → Int → Int → ((List Int) × Unit) → (List Int) → Option R) → (((List Int) × Unit) → (List Int) → Option R) → Option R := fun R x1 x2 x3 x4 x5 kc k0 =>
let v6 := (List.length x5 : Int);
let v7 := (decide (x3 ≤ v6));
(match v7 with
| true => let v8 := (IntKind.i64.wrap (x3 - (1 : Int)));
let v9 := (IntKind.i64.wrap (x3 - (1 : Int)));
(match (bnd v9 (List.length x5 : Int)) with
| true => let v10 := (List.getD x5 (Int.toNat v9) (0 : Int));
let v11 := (IntKind.u64.wrap (v10 - x2));
let v12 := (IntKind.u64.wrap (v11 + x1));
(match (bnd v8 (List.length x5 : Int)) with
| true => let v13 : (List Int) := (List.set x5 (Int.toNat v8) v12);
F93 R x3 fun y14 =>
let v15 := (IntKind.i64.wrap (x3 + y14));
kc x1 x2 v15 x4 v13
| false => none)
| false => none)
| false => k0 x4 x5)
theorem q57_9 (F92 : FT92) (F93 : FT93) (F96 : FT96) (F98 : FT98) (F99 : FT99) (L9 : LT57_9) (R : Type) (x : HT (le57_9 L9).H) (kc : HT (le57_9 L9).H → Option R) (ke : KT R (le57_9 L9).exs) :
  exec (e57 F92 F93 F96 F98 F99 L9 R) (lcode 9 (codeOf Tryz.f57)) (stOf (le57_9 L9).H x 3) (roundK (le57_9 L9).H (le57_9 L9).exs kc ke) =
    p57_9 F93 R x.1 x.2.1 x.2.2.1 x.2.2.2.1 x.2.2.2.2.1 (fun x1 x2 x3 x4 x5 => kc (x1, x2, x3, x4, x5, ())) (fun y1 y2 => ke.1 (y1, y2, ())) := by kernel_rfl
noncomputable def G57_9 : Nat → LT57_9
  | 0 => fun _ _ _ _ _ _ _ => none
  | n + 1 => fun R x1 x2 x3 x4 x5 k0 => p57_9 F93 R x1 x2 x3 x4 x5 (fun x1 x2 x3 x4 x5 => G57_9 n R x1 x2 x3 x4 x5 k0) k0
def p57 (F92 : FT92) (F96 : FT96) (F98 : FT98) (F99 : FT99) (L9 : LT57_9) : FT57 := fun R a0 a1 a2 k =>
F98 R a0 a1 fun y1 y2 =>
let v3 := (y2 != (0 : Int));
(match v3 with
| true => k (([] : (List Int)), ()) y2
| false => F96 R a0 fun y4 =>
let v5 := (IntKind.u64.wrap (y4 - y1));
F99 R v5 a2 fun y6 y7 =>
(match (!y7) with
| true => k (([] : (List Int)), ()) (11 : Int)
| false => F92 R a0.1 fun y8 =>
let v9 := (IntKind.i64.wrap (a1 + (1 : Int)));
L9 R a2 y1 v9 (([] : (List Int)), ()) y8 (fun x10 x11 =>
k (x11, ()) (0 : Int))))
theorem q57 (F92 : FT92) (F93 : FT93) (F96 : FT96) (F98 : FT98) (F99 : FT99) (L9 : LT57_9) (F : FT57) (R : Type) (x : AT (en57 F).ins) (k : RT (en57 F).outs → PT (en57 F).ins → Option R) :
  xfun (e57 F92 F93 F96 F98 F99 L9 R) (codeOf Tryz.f57) res57 (avs (en57 F).ins x) (finK (en57 F).outs (en57 F).ins k) = p57 F92 F96 F98 F99 L9 R x.1 x.2.1 x.2.2.1 (fun y1 y2 => k (y1, y2, ()) ()) := by kernel_rfl
noncomputable def F57 : FT57 := p57 F92 F96 F98 F99 (G57_9 FUEL)
theorem env57 (R : Type) : EnvOK Tryz.prog (e57 F92 F93 F96 F98 F99 (G57_9 FUEL) R) := ⟨tabOK, eqOK, callOf_ok (allE_cons ok92 (allE_cons ok93 (allE_cons ok96 (allE_cons ok98 (allE_cons ok99 allE_nil))))), noIns, inlOK_nil⟩
noncomputable def T57_9 : (R : Type) → HT (le57_9 (G57_9 FUEL)).H → (HT (le57_9 (G57_9 FUEL)).H → Option R) → KT R (le57_9 (G57_9 FUEL)).exs → Option R := fun R x kc ke => p57_9 F93 R x.1 x.2.1 x.2.2.1 x.2.2.2.1 x.2.2.2.2.1 (fun x1 x2 x3 x4 x5 => kc (x1, x2, x3, x4, x5, ())) (fun y1 y2 => ke.1 (y1, y2, ()))
theorem it57_9 : ∀ (n : Nat) (R : Type) (x : HT (le57_9 (G57_9 FUEL)).H) (ke : KT R (le57_9 (G57_9 FUEL)).exs), iter T57_9 n R x ke = G57_9 n R x.1 x.2.1 x.2.2.1 x.2.2.2.1 x.2.2.2.2.1 (fun y1 y2 => ke.1 (y1, y2, ())) := by
  intro n
  induction n with
  | zero => intro R x ke; rfl
  | succ n ih =>
    intro R x ke
    show T57_9 R x (fun x' => iter T57_9 n R x' ke) ke = _
    rw [show (fun x' => iter T57_9 n R x' ke) = fun x => G57_9 n R x.1 x.2.1 x.2.2.1 x.2.2.2.1 x.2.2.2.2.1 (fun y1 y2 => ke.1 (y1, y2, ())) from funext fun x' => ih R x' ke]
    rfl
theorem lok57_9 : (le57_9 (G57_9 FUEL)).OK Tryz.prog 0 64 (lcode 9 (codeOf Tryz.f57)) := fun R x ke r h =>
  iter_sound (fun R => e57 F92 F93 F96 F98 F99 (G57_9 FUEL) R) 0 64 (fun _ => rfl) (fun _ => rfl) (fun R => env57 R) mixed (by
    intro R
    rw [show loopsOf (lcode 9 (codeOf Tryz.f57)) = [] from by kernel_rfl]
    exact allM_nil) (T := T57_9) (fun R x kc ke => q57_9 F92 F93 F96 F98 F99 (G57_9 FUEL) R x kc ke) FUEL R x ke r ((it57_9 FUEL R x ke).trans h)
theorem ok57 : (en57 F57).OK Tryz.prog :=
  ent_ok (Ef := fun R => e57 F92 F93 F96 F98 F99 (G57_9 FUEL) R) (fun R => env57 R) mixed Tryz.func57 (body := codeOf Tryz.f57) (by kernel_rfl) (by kernel_rfl) (np := 0) (nt := 64) (fun _ => rfl) (fun _ => rfl) (by kernel_rfl) (res := res57) (by kernel_rfl) (fun _ => rfl) (fun _ => Nat.le_of_ble_eq_true rfl) (by
    intro R
    rw [show loopsOf (codeOf Tryz.f57) = [lcode 9 (codeOf Tryz.f57)] from by kernel_rfl]
    exact (allM_cons (loop_ok2 (e := le57_9 (G57_9 FUEL)) rfl rfl lok57_9) allM_nil)) (fun R x k => q57 F92 F93 F96 F98 F99 (G57_9 FUEL) F57 R x k)
abbrev FT23 : Type 1 := (R : Type) → ((List Int) × Unit) → Int → Tq7 → Int → ((List Int) → Tq7 → Int → Option R) → Option R
def en23 (F : FT23) : Ent := ⟨23, [(false, (.pair (.sl (.int .u64)) .unit)), (false, (.int .i64)), (false, Kq7), (false, (.int .i64))], [(false, (.sl (.int .i64))), (false, Kq7), (false, (.int .i64))], fun R x k => F R x.1 x.2.1 x.2.2.1 x.2.2.2.1 (fun y1 y2 y3 => k (y1, y2, y3, ()) ())⟩
def res23 : List (ResultVar × TypeId × Bool) := [(.tmp 8, 42, false), (.cell 9 30, 30, false), (.tmp 10, 32, false)]
abbrev LT23_5 : Type 1 := (R : Type) → Int → Int → ((List Int) × Unit) → Tq7 → (List Int) → Tq7 → (Int → Tq7 → Option R) → (Tq7 → (List Int) → Tq7 → Option R) → Option R
def le23_5 (L : LT23_5) : LEnt := ⟨5, [.val 1 (.int .i64), .val 3 (.int .i64), .fix 4 (.ptr 0 [] (.pair (.sl (.int .u64)) .unit)), .fix 6 (.ptr 1 [] Kq7), .fix 8 (.own 2 0), .fix 9 (.ptr 3 [] Kq7), .var 0 (.pair (.sl (.int .u64)) .unit) false, .var 1 Kq7 false, .row 2 (.int .i64) false, .var 3 Kq7 false], 4, [(.ret, [.fix 8 .nil, .fix 9 (.ptr 3 [] Kq7), .val 10 (.int .i64), .var 3 Kq7 false]), (.exit 1, [.fix 6 (.ptr 1 [] Kq7), .fix 8 (.own 2 0), .fix 9 (.ptr 3 [] Kq7), .var 1 Kq7 false, .row 2 (.int .i64) false, .var 3 Kq7 false])], fun R x ke => L R x.1 x.2.1 x.2.2.1 x.2.2.2.1 x.2.2.2.2.1 x.2.2.2.2.2.1 (fun y1 y2 => ke.1 (y1, y2, ())) (fun y1 y2 y3 => ke.2.1 (y1, y2, y3, ()))⟩
noncomputable def e23 (F53 : FT53) (F54 : FT54) (F55 : FT55) (F56 : FT56) (F57 : FT57) (L5 : LT23_5) (R : Type) : Env R := ⟨TT, EQT, 0, 61, ownOf [(0, 2)], callOf [en53 F53, en54 F54, en55 F55, en56 F56, en57 F57] R, loopOf [le23_5 L5] R, [], inlOf []⟩
def p23_5 (F56 : FT56) (F57 : FT57) : (R : Type) → Int → Int → ((List Int) × Unit) → Tq7 → (List Int) → Tq7 → (Int → Int → ((List Int) × Unit) → Tq7 → (List Int) → Tq7 → Option R) → (Int → Tq7 → Option R) → (Tq7 → (List Int) → Tq7 → Option R) → Option R := fun R x1 x2 x3 x4 x5 x6 kc k0 k1 =>
let v7 := (List.length x5 : Int);
let v8 := (decide (v7 < x1));
(match v8 with
| true => F56 R x3 x4 x2 fun y9 y10 y11 =>
let v12 := (y11 != (0 : Int));
(match v12 with
| true => k0 y11 y10
| false => let v13 : (List Int) := ([y9] : (List Int));
(match (decide (List.length x5 + List.length v13 ≤ 17592186044416)) with
| true => let v14 : (List Int) := (x5 ++ v13);
F57 R x3 y9 (0 : Int) fun y15 y16 =>
let v17 := (y16 != (0 : Int));
(match v17 with
| true => k0 y16 y10
| false => kc x1 x2 y15 y10 v14 x6)
| false => none))
| false => k1 x4 x5 x6)
theorem q23_5 (F53 : FT53) (F54 : FT54) (F55 : FT55) (F56 : FT56) (F57 : FT57) (L5 : LT23_5) (R : Type) (x : HT (le23_5 L5).H) (kc : HT (le23_5 L5).H → Option R) (ke : KT R (le23_5 L5).exs) :
  exec (e23 F53 F54 F55 F56 F57 L5 R) (lcode 5 (codeOf Tryz.f23)) (stOf (le23_5 L5).H x 4) (roundK (le23_5 L5).H (le23_5 L5).exs kc ke) =
    p23_5 F56 F57 R x.1 x.2.1 x.2.2.1 x.2.2.2.1 x.2.2.2.2.1 x.2.2.2.2.2.1 (fun x1 x2 x3 x4 x5 x6 => kc (x1, x2, x3, x4, x5, x6, ())) (fun y1 y2 => ke.1 (y1, y2, ())) (fun y1 y2 y3 => ke.2.1 (y1, y2, y3, ())) := by kernel_rfl
noncomputable def G23_5 : Nat → LT23_5
  | 0 => fun _ _ _ _ _ _ _ _ _ => none
  | n + 1 => fun R x1 x2 x3 x4 x5 x6 k0 k1 => p23_5 F56 F57 R x1 x2 x3 x4 x5 x6 (fun x1 x2 x3 x4 x5 x6 => G23_5 n R x1 x2 x3 x4 x5 x6 k0 k1) k0 k1
def p23 (F53 : FT53) (F54 : FT54) (F55 : FT55) (L5 : LT23_5) : FT23 := fun R a0 a1 a2 a3 k =>
F53 R a1 a2 a3 fun y1 =>
(match (!y1) with
| true => k ([] : (List Int)) a2 (1 : Int)
| false => F55 R a0 fun y2 =>
F54 R y2 fun y3 =>
let v4 := (decide (y3 < a1));
(match v4 with
| true => k ([] : (List Int)) a2 (12 : Int)
| false => L5 R a1 a3 a0 a2 ([] : (List Int)) ((0 : Int), ([] : (List Int)), (0 : Int), (List.replicate 32 (0 : Int)), (0 : Int), (0 : Int), ()) (fun x5 x6 =>
k ([] : (List Int)) x6 x5) (fun x7 x8 x9 =>
k x8 x7 (0 : Int))))
theorem q23 (F53 : FT53) (F54 : FT54) (F55 : FT55) (F56 : FT56) (F57 : FT57) (L5 : LT23_5) (F : FT23) (R : Type) (x : AT (en23 F).ins) (k : RT (en23 F).outs → PT (en23 F).ins → Option R) :
  xfun (e23 F53 F54 F55 F56 F57 L5 R) (codeOf Tryz.f23) res23 (avs (en23 F).ins x) (finK (en23 F).outs (en23 F).ins k) = p23 F53 F54 F55 L5 R x.1 x.2.1 x.2.2.1 x.2.2.2.1 (fun y1 y2 y3 => k (y1, y2, y3, ()) ()) := by kernel_rfl
noncomputable def F23 : FT23 := p23 F53 F54 F55 (G23_5 FUEL)
theorem env23 (R : Type) : EnvOK Tryz.prog (e23 F53 F54 F55 F56 F57 (G23_5 FUEL) R) := ⟨tabOK, eqOK, callOf_ok (allE_cons ok53 (allE_cons ok54 (allE_cons ok55 (allE_cons ok56 (allE_cons ok57 allE_nil))))), noIns, inlOK_nil⟩
noncomputable def T23_5 : (R : Type) → HT (le23_5 (G23_5 FUEL)).H → (HT (le23_5 (G23_5 FUEL)).H → Option R) → KT R (le23_5 (G23_5 FUEL)).exs → Option R := fun R x kc ke => p23_5 F56 F57 R x.1 x.2.1 x.2.2.1 x.2.2.2.1 x.2.2.2.2.1 x.2.2.2.2.2.1 (fun x1 x2 x3 x4 x5 x6 => kc (x1, x2, x3, x4, x5, x6, ())) (fun y1 y2 => ke.1 (y1, y2, ())) (fun y1 y2 y3 => ke.2.1 (y1, y2, y3, ()))
theorem it23_5 : ∀ (n : Nat) (R : Type) (x : HT (le23_5 (G23_5 FUEL)).H) (ke : KT R (le23_5 (G23_5 FUEL)).exs), iter T23_5 n R x ke = G23_5 n R x.1 x.2.1 x.2.2.1 x.2.2.2.1 x.2.2.2.2.1 x.2.2.2.2.2.1 (fun y1 y2 => ke.1 (y1, y2, ())) (fun y1 y2 y3 => ke.2.1 (y1, y2, y3, ())) := by
  intro n
  induction n with
  | zero => intro R x ke; rfl
  | succ n ih =>
    intro R x ke
    show T23_5 R x (fun x' => iter T23_5 n R x' ke) ke = _
    rw [show (fun x' => iter T23_5 n R x' ke) = fun x => G23_5 n R x.1 x.2.1 x.2.2.1 x.2.2.2.1 x.2.2.2.2.1 x.2.2.2.2.2.1 (fun y1 y2 => ke.1 (y1, y2, ())) (fun y1 y2 y3 => ke.2.1 (y1, y2, y3, ())) from funext fun x' => ih R x' ke]
    rfl
theorem lok23_5 : (le23_5 (G23_5 FUEL)).OK Tryz.prog 0 61 (lcode 5 (codeOf Tryz.f23)) := fun R x ke r h =>
  iter_sound (fun R => e23 F53 F54 F55 F56 F57 (G23_5 FUEL) R) 0 61 (fun _ => rfl) (fun _ => rfl) (fun R => env23 R) mixed (by
    intro R
    rw [show loopsOf (lcode 5 (codeOf Tryz.f23)) = [] from by kernel_rfl]
    exact allM_nil) (T := T23_5) (fun R x kc ke => q23_5 F53 F54 F55 F56 F57 (G23_5 FUEL) R x kc ke) FUEL R x ke r ((it23_5 FUEL R x ke).trans h)
theorem ok23 : (en23 F23).OK Tryz.prog :=
  ent_ok (Ef := fun R => e23 F53 F54 F55 F56 F57 (G23_5 FUEL) R) (fun R => env23 R) mixed Tryz.func23 (body := codeOf Tryz.f23) (by kernel_rfl) (by kernel_rfl) (np := 0) (nt := 61) (fun _ => rfl) (fun _ => rfl) (by kernel_rfl) (res := res23) (by kernel_rfl) (fun _ => rfl) (fun _ => Nat.le_of_ble_eq_true rfl) (by
    intro R
    rw [show loopsOf (codeOf Tryz.f23) = [lcode 5 (codeOf Tryz.f23)] from by kernel_rfl]
    exact (allM_cons (loop_ok2 (e := le23_5 (G23_5 FUEL)) rfl rfl lok23_5) allM_nil)) (fun R x k => q23 F53 F54 F55 F56 F57 (G23_5 FUEL) F23 R x k)
abbrev FT91 : Type 1 := (R : Type) → (List Int) → (Int → Bool → Option R) → Option R
def en91 (F : FT91) : Ent := ⟨91, [(false, (.sl (.int .u64)))], [(false, (.int .u64)), (false, .bool)], fun R x k => F R x.1 (fun y1 y2 => k (y1, y2, ()) ())⟩
def res91 : List (ResultVar × TypeId × Bool) := [(.tmp 2, 22, false), (.tmp 3, 4, false)]
abbrev LT91_2 : Type 1 := (R : Type) → Int → (List Int) → Int → Int → (Int → Bool → Option R) → (Int → Option R) → Option R
def le91_2 (L : LT91_2) : LEnt := ⟨2, [.val 2 (.int .u64), .val 6 (.sl (.int .u64)), .val 7 (.int .i64), .val 8 (.int .i64)], 0, [(.ret, [.val 2 (.int .u64), .val 3 .bool]), (.exit 0, [.val 2 (.int .u64)])], fun R x ke => L R x.1 x.2.1 x.2.2.1 x.2.2.2.1 (fun y1 y2 => ke.1 (y1, y2, ())) (fun y1 => ke.2.1 (y1, ()))⟩
noncomputable def e91 (F99 : FT99) (L2 : LT91_2) (R : Type) : Env R := ⟨TT, EQT, 0, 22, ownOf [], callOf [en99 F99] R, loopOf [le91_2 L2] R, [], inlOf []⟩
def p91_2 (F99 : FT99) : (R : Type) → Int → (List Int) → Int → Int → (Int → (List Int) → Int → Int → Option R) → (Int → Bool → Option R) → (Int → Option R) → Option R := fun R x1 x2 x3 x4 kc k0 k1 =>
let v5 := (decide (x4 < x3));
(match v5 with
| true => (match (bnd x4 (List.length x2 : Int)) with
| true => let v6 := (List.getD x2 (Int.toNat x4) (0 : Int));
F99 R x1 v6 fun y7 y8 =>
(match (!y8) with
| true => k0 (0 : Int) false
| false => let v9 := (IntKind.i64.wrap (x4 + (1 : Int)));
kc y7 x2 x3 v9)
| false => none)
| false => k1 x1)
theorem q91_2 (F99 : FT99) (L2 : LT91_2) (R : Type) (x : HT (le91_2 L2).H) (kc : HT (le91_2 L2).H → Option R) (ke : KT R (le91_2 L2).exs) :
  exec (e91 F99 L2 R) (lcode 2 (codeOf Tryz.f91)) (stOf (le91_2 L2).H x 0) (roundK (le91_2 L2).H (le91_2 L2).exs kc ke) =
    p91_2 F99 R x.1 x.2.1 x.2.2.1 x.2.2.2.1 (fun x1 x2 x3 x4 => kc (x1, x2, x3, x4, ())) (fun y1 y2 => ke.1 (y1, y2, ())) (fun y1 => ke.2.1 (y1, ())) := by kernel_rfl
noncomputable def G91_2 : Nat → LT91_2
  | 0 => fun _ _ _ _ _ _ _ => none
  | n + 1 => fun R x1 x2 x3 x4 k0 k1 => p91_2 F99 R x1 x2 x3 x4 (fun x1 x2 x3 x4 => G91_2 n R x1 x2 x3 x4 k0 k1) k0 k1
def p91 (L2 : LT91_2) : FT91 := fun R a0 k =>
let v1 := (List.length a0 : Int);
L2 R (0 : Int) a0 v1 (0 : Int) (fun x2 x3 =>
k x2 x3) (fun x4 =>
k x4 true)
theorem q91 (F99 : FT99) (L2 : LT91_2) (F : FT91) (R : Type) (x : AT (en91 F).ins) (k : RT (en91 F).outs → PT (en91 F).ins → Option R) :
  xfun (e91 F99 L2 R) (codeOf Tryz.f91) res91 (avs (en91 F).ins x) (finK (en91 F).outs (en91 F).ins k) = p91 L2 R x.1 (fun y1 y2 => k (y1, y2, ()) ()) := by kernel_rfl
noncomputable def F91 : FT91 := p91 (G91_2 FUEL)
theorem env91 (R : Type) : EnvOK Tryz.prog (e91 F99 (G91_2 FUEL) R) := ⟨tabOK, eqOK, callOf_ok (allE_cons ok99 allE_nil), noIns, inlOK_nil⟩
noncomputable def T91_2 : (R : Type) → HT (le91_2 (G91_2 FUEL)).H → (HT (le91_2 (G91_2 FUEL)).H → Option R) → KT R (le91_2 (G91_2 FUEL)).exs → Option R := fun R x kc ke => p91_2 F99 R x.1 x.2.1 x.2.2.1 x.2.2.2.1 (fun x1 x2 x3 x4 => kc (x1, x2, x3, x4, ())) (fun y1 y2 => ke.1 (y1, y2, ())) (fun y1 => ke.2.1 (y1, ()))
theorem it91_2 : ∀ (n : Nat) (R : Type) (x : HT (le91_2 (G91_2 FUEL)).H) (ke : KT R (le91_2 (G91_2 FUEL)).exs), iter T91_2 n R x ke = G91_2 n R x.1 x.2.1 x.2.2.1 x.2.2.2.1 (fun y1 y2 => ke.1 (y1, y2, ())) (fun y1 => ke.2.1 (y1, ())) := by
  intro n
  induction n with
  | zero => intro R x ke; rfl
  | succ n ih =>
    intro R x ke
    show T91_2 R x (fun x' => iter T91_2 n R x' ke) ke = _
    rw [show (fun x' => iter T91_2 n R x' ke) = fun x => G91_2 n R x.1 x.2.1 x.2.2.1 x.2.2.2.1 (fun y1 y2 => ke.1 (y1, y2, ())) (fun y1 => ke.2.1 (y1, ())) from funext fun x' => ih R x' ke]
    rfl
theorem lok91_2 : (le91_2 (G91_2 FUEL)).OK Tryz.prog 0 22 (lcode 2 (codeOf Tryz.f91)) := fun R x ke r h =>
  iter_sound (fun R => e91 F99 (G91_2 FUEL) R) 0 22 (fun _ => rfl) (fun _ => rfl) (fun R => env91 R) mixed (by
    intro R
    rw [show loopsOf (lcode 2 (codeOf Tryz.f91)) = [] from by kernel_rfl]
    exact allM_nil) (T := T91_2) (fun R x kc ke => q91_2 F99 (G91_2 FUEL) R x kc ke) FUEL R x ke r ((it91_2 FUEL R x ke).trans h)
theorem ok91 : (en91 F91).OK Tryz.prog :=
  ent_ok (Ef := fun R => e91 F99 (G91_2 FUEL) R) (fun R => env91 R) mixed Tryz.func91 (body := codeOf Tryz.f91) (by kernel_rfl) (by kernel_rfl) (np := 0) (nt := 22) (fun _ => rfl) (fun _ => rfl) (by kernel_rfl) (res := res91) (by kernel_rfl) (fun _ => rfl) (fun _ => Nat.le_of_ble_eq_true rfl) (by
    intro R
    rw [show loopsOf (codeOf Tryz.f91) = [lcode 2 (codeOf Tryz.f91)] from by kernel_rfl]
    exact (allM_cons (loop_ok2 (e := le91_2 (G91_2 FUEL)) rfl rfl lok91_2) allM_nil)) (fun R x k => q91 F99 (G91_2 FUEL) F91 R x k)
abbrev FT50 : Type 1 := (R : Type) → (List Int) → (((List Int) × Unit) → Int → Option R) → Option R
def en50 (F : FT50) : Ent := ⟨50, [(false, (.sl (.int .u64)))], [(false, (.pair (.sl (.int .u64)) .unit)), (false, (.int .i64))], fun R x k => F R x.1 (fun y1 y2 => k (y1, y2, ()) ())⟩
def res50 : List (ResultVar × TypeId × Bool) := [(.cell 2 49, 49, false), (.tmp 3, 32, false)]
abbrev LT50_8 : Type 1 := (R : Type) → Int → ((List Int) × Unit) → (List Int) → (((List Int) × Unit) → (List Int) → Option R) → Option R
def le50_8 (L : LT50_8) : LEnt := ⟨8, [.fix 2 (.ptr 0 [] (.pair (.sl (.int .u64)) .unit)), .fix 6 (.own 1 0), .val 7 (.int .i64), .var 0 (.pair (.sl (.int .u64)) .unit) false, .row 1 (.int .u64) false], 2, [(.exit 0, [.fix 2 (.ptr 0 [] (.pair (.sl (.int .u64)) .unit)), .fix 6 (.own 1 0), .var 0 (.pair (.sl (.int .u64)) .unit) false, .row 1 (.int .u64) false])], fun R x ke => L R x.1 x.2.1 x.2.2.1 (fun y1 y2 => ke.1 (y1, y2, ()))⟩
noncomputable def e50 (F91 : FT91) (F92 : FT92) (F93 : FT93) (L8 : LT50_8) (R : Type) : Env R := ⟨TT, EQT, 0, 51, ownOf [], callOf [en91 F91, en92 F92, en93 F93] R, loopOf [le50_8 L8] R, [], inlOf []⟩
def p50_8 (F93 : FT93) : (R : Type) → Int → ((List Int) × Unit) → (List Int) → (Int → ((List Int) × Unit) → (List Int) → Option R) → (((List Int) × Unit) → (List Int) → Option R) → Option R := fun R x1 x2 x3 kc k0 =>
let v4 := (List.length x3 : Int);
let v5 := (decide (x1 ≤ v4));
(match v5 with
| true => F93 R x1 fun y6 =>
let v7 := (IntKind.i64.wrap (x1 + y6));
let v8 := (List.length x3 : Int);
let v9 := (decide (v7 ≤ v8));
(match v9 with
| true => let v10 := (IntKind.i64.wrap (v7 - (1 : Int)));
(match (bnd v10 (List.length x3 : Int)) with
| true => let v11 := (List.getD x3 (Int.toNat v10) (0 : Int));
let v12 := (IntKind.i64.wrap (x1 - (1 : Int)));
(match (bnd v12 (List.length x3 : Int)) with
| true => let v13 := (List.getD x3 (Int.toNat v12) (0 : Int));
let v14 := (IntKind.u64.wrap (v11 + v13));
(match (bnd v10 (List.length x3 : Int)) with
| true => let v15 : (List Int) := (List.set x3 (Int.toNat v10) v14);
let v16 := (IntKind.i64.wrap (x1 + (1 : Int)));
kc v16 x2 v15
| false => none)
| false => none)
| false => none)
| false => let v17 := (IntKind.i64.wrap (x1 + (1 : Int)));
kc v17 x2 x3)
| false => k0 x2 x3)
theorem q50_8 (F91 : FT91) (F92 : FT92) (F93 : FT93) (L8 : LT50_8) (R : Type) (x : HT (le50_8 L8).H) (kc : HT (le50_8 L8).H → Option R) (ke : KT R (le50_8 L8).exs) :
  exec (e50 F91 F92 F93 L8 R) (lcode 8 (codeOf Tryz.f50)) (stOf (le50_8 L8).H x 2) (roundK (le50_8 L8).H (le50_8 L8).exs kc ke) =
    p50_8 F93 R x.1 x.2.1 x.2.2.1 (fun x1 x2 x3 => kc (x1, x2, x3, ())) (fun y1 y2 => ke.1 (y1, y2, ())) := by kernel_rfl
noncomputable def G50_8 : Nat → LT50_8
  | 0 => fun _ _ _ _ _ => none
  | n + 1 => fun R x1 x2 x3 k0 => p50_8 F93 R x1 x2 x3 (fun x1 x2 x3 => G50_8 n R x1 x2 x3 k0) k0
def p50 (F91 : FT91) (F92 : FT92) (L8 : LT50_8) : FT50 := fun R a0 k =>
let v1 := (List.length a0 : Int);
let v2 := (decide (v1 > (1048576 : Int)));
(match v2 with
| true => k (([] : (List Int)), ()) (14 : Int)
| false => F91 R a0 fun y3 y4 =>
(match (!y4) with
| true => k (([] : (List Int)), ()) (11 : Int)
| false => F92 R a0 fun y5 =>
L8 R (1 : Int) (([] : (List Int)), ()) y5 (fun x6 x7 =>
k (x7, ()) (0 : Int))))
theorem q50 (F91 : FT91) (F92 : FT92) (F93 : FT93) (L8 : LT50_8) (F : FT50) (R : Type) (x : AT (en50 F).ins) (k : RT (en50 F).outs → PT (en50 F).ins → Option R) :
  xfun (e50 F91 F92 F93 L8 R) (codeOf Tryz.f50) res50 (avs (en50 F).ins x) (finK (en50 F).outs (en50 F).ins k) = p50 F91 F92 L8 R x.1 (fun y1 y2 => k (y1, y2, ()) ()) := by kernel_rfl
noncomputable def F50 : FT50 := p50 F91 F92 (G50_8 FUEL)
theorem env50 (R : Type) : EnvOK Tryz.prog (e50 F91 F92 F93 (G50_8 FUEL) R) := ⟨tabOK, eqOK, callOf_ok (allE_cons ok91 (allE_cons ok92 (allE_cons ok93 allE_nil))), noIns, inlOK_nil⟩
noncomputable def T50_8 : (R : Type) → HT (le50_8 (G50_8 FUEL)).H → (HT (le50_8 (G50_8 FUEL)).H → Option R) → KT R (le50_8 (G50_8 FUEL)).exs → Option R := fun R x kc ke => p50_8 F93 R x.1 x.2.1 x.2.2.1 (fun x1 x2 x3 => kc (x1, x2, x3, ())) (fun y1 y2 => ke.1 (y1, y2, ()))
theorem it50_8 : ∀ (n : Nat) (R : Type) (x : HT (le50_8 (G50_8 FUEL)).H) (ke : KT R (le50_8 (G50_8 FUEL)).exs), iter T50_8 n R x ke = G50_8 n R x.1 x.2.1 x.2.2.1 (fun y1 y2 => ke.1 (y1, y2, ())) := by
  intro n
  induction n with
  | zero => intro R x ke; rfl
  | succ n ih =>
    intro R x ke
    show T50_8 R x (fun x' => iter T50_8 n R x' ke) ke = _
    rw [show (fun x' => iter T50_8 n R x' ke) = fun x => G50_8 n R x.1 x.2.1 x.2.2.1 (fun y1 y2 => ke.1 (y1, y2, ())) from funext fun x' => ih R x' ke]
    rfl
theorem lok50_8 : (le50_8 (G50_8 FUEL)).OK Tryz.prog 0 51 (lcode 8 (codeOf Tryz.f50)) := fun R x ke r h =>
  iter_sound (fun R => e50 F91 F92 F93 (G50_8 FUEL) R) 0 51 (fun _ => rfl) (fun _ => rfl) (fun R => env50 R) mixed (by
    intro R
    rw [show loopsOf (lcode 8 (codeOf Tryz.f50)) = [] from by kernel_rfl]
    exact allM_nil) (T := T50_8) (fun R x kc ke => q50_8 F91 F92 F93 (G50_8 FUEL) R x kc ke) FUEL R x ke r ((it50_8 FUEL R x ke).trans h)
theorem ok50 : (en50 F50).OK Tryz.prog :=
  ent_ok (Ef := fun R => e50 F91 F92 F93 (G50_8 FUEL) R) (fun R => env50 R) mixed Tryz.func50 (body := codeOf Tryz.f50) (by kernel_rfl) (by kernel_rfl) (np := 0) (nt := 51) (fun _ => rfl) (fun _ => rfl) (by kernel_rfl) (res := res50) (by kernel_rfl) (fun _ => rfl) (fun _ => Nat.le_of_ble_eq_true rfl) (by
    intro R
    rw [show loopsOf (codeOf Tryz.f50) = [lcode 8 (codeOf Tryz.f50)] from by kernel_rfl]
    exact (allM_cons (loop_ok2 (e := le50_8 (G50_8 FUEL)) rfl rfl lok50_8) allM_nil)) (fun R x k => q50 F91 F92 F93 (G50_8 FUEL) F50 R x k)
abbrev FT19 : Type 1 := (R : Type) → Int → Tq7 → Int → (List Int) → ((List Int) → Tq7 → Int → Option R) → Option R
def en19 (F : FT19) : Ent := ⟨19, [(false, (.int .i64)), (false, Kq7), (false, (.int .i64)), (false, (.sl (.int .u64)))], [(false, (.sl (.int .i64))), (false, Kq7), (false, (.int .i64))], fun R x k => F R x.1 x.2.1 x.2.2.1 x.2.2.2.1 (fun y1 y2 y3 => k (y1, y2, y3, ()) ())⟩
def res19 : List (ResultVar × TypeId × Bool) := [(.tmp 8, 42, false), (.cell 9 30, 30, false), (.tmp 10, 32, false)]
noncomputable def e19 (F23 : FT23) (F50 : FT50) (R : Type) : Env R := ⟨TT, EQT, 0, 30, ownOf [], callOf [en23 F23, en50 F50] R, loopOf [] R, [], inlOf []⟩
def p19 (F23 : FT23) (F50 : FT50) : FT19 := fun R a0 a1 a2 a3 k =>
F50 R a3 fun y1 y2 =>
let v3 := (y2 != (0 : Int));
(match v3 with
| true => k ([] : (List Int)) a1 y2
| false => F23 R y1 a0 a1 a2 fun y4 y5 y6 =>
k y4 y5 y6)
theorem q19 (F23 : FT23) (F50 : FT50) (F : FT19) (R : Type) (x : AT (en19 F).ins) (k : RT (en19 F).outs → PT (en19 F).ins → Option R) :
  xfun (e19 F23 F50 R) (codeOf Tryz.f19) res19 (avs (en19 F).ins x) (finK (en19 F).outs (en19 F).ins k) = p19 F23 F50 R x.1 x.2.1 x.2.2.1 x.2.2.2.1 (fun y1 y2 y3 => k (y1, y2, y3, ()) ()) := by kernel_rfl
noncomputable def F19 : FT19 := p19 F23 F50
theorem env19 (R : Type) : EnvOK Tryz.prog (e19 F23 F50 R) := ⟨tabOK, eqOK, callOf_ok (allE_cons ok23 (allE_cons ok50 allE_nil)), noIns, inlOK_nil⟩
theorem ok19 : (en19 F19).OK Tryz.prog :=
  ent_ok (Ef := fun R => e19 F23 F50 R) (fun R => env19 R) mixed Tryz.func19 (body := codeOf Tryz.f19) (by kernel_rfl) (by kernel_rfl) (np := 0) (nt := 30) (fun _ => rfl) (fun _ => rfl) (by kernel_rfl) (res := res19) (by kernel_rfl) (fun _ => rfl) (fun _ => Nat.le_of_ble_eq_true rfl) (by
    intro R
    rw [show loopsOf (codeOf Tryz.f19) = [] from by kernel_rfl]
    exact allM_nil) (fun R x k => q19 F23 F50 F19 R x k)
abbrev FT64 : Type 1 := (R : Type) → (List Int) → (Int → Int → Option R) → Option R
def en64 (F : FT64) : Ent := ⟨64, [(false, (.sl (.int .u64)))], [(false, (.int .u64)), (false, (.int .i64))], fun R x k => F R x.1 (fun y1 y2 => k (y1, y2, ()) ())⟩
def res64 : List (ResultVar × TypeId × Bool) := [(.tmp 2, 22, false), (.tmp 3, 32, false)]
noncomputable def e64 (F91 : FT91) (R : Type) : Env R := ⟨TT, EQT, 0, 14, ownOf [], callOf [en91 F91] R, loopOf [] R, [], inlOf []⟩
def p64 (F91 : FT91) : FT64 := fun R a0 k =>
F91 R a0 fun y1 y2 =>
(match (!y2) with
| true => k (0 : Int) (11 : Int)
| false => k y1 (0 : Int))
theorem q64 (F91 : FT91) (F : FT64) (R : Type) (x : AT (en64 F).ins) (k : RT (en64 F).outs → PT (en64 F).ins → Option R) :
  xfun (e64 F91 R) (codeOf Tryz.f64) res64 (avs (en64 F).ins x) (finK (en64 F).outs (en64 F).ins k) = p64 F91 R x.1 (fun y1 y2 => k (y1, y2, ()) ()) := by kernel_rfl
noncomputable def F64 : FT64 := p64 F91
theorem env64 (R : Type) : EnvOK Tryz.prog (e64 F91 R) := ⟨tabOK, eqOK, callOf_ok (allE_cons ok91 allE_nil), noIns, inlOK_nil⟩
theorem ok64 : (en64 F64).OK Tryz.prog :=
  ent_ok (Ef := fun R => e64 F91 R) (fun R => env64 R) mixed Tryz.func64 (body := codeOf Tryz.f64) (by kernel_rfl) (by kernel_rfl) (np := 0) (nt := 14) (fun _ => rfl) (fun _ => rfl) (by kernel_rfl) (res := res64) (by kernel_rfl) (fun _ => rfl) (fun _ => Nat.le_of_ble_eq_true rfl) (by
    intro R
    rw [show loopsOf (codeOf Tryz.f64) = [] from by kernel_rfl]
    exact allM_nil) (fun R x k => q64 F91 F64 R x k)
abbrev FT101 : Type 1 := (R : Type) → Int → (List Int) → ((List Int) → Int → Option R) → Option R
def en101 (F : FT101) : Ent := ⟨101, [(false, (.int .i64)), (false, (.sl (.int .u64)))], [(false, (.sl (.int .u64))), (false, (.int .i64))], fun R x k => F R x.1 x.2.1 (fun y1 y2 => k (y1, y2, ()) ())⟩
def res101 : List (ResultVar × TypeId × Bool) := [(.tmp 4, 37, false), (.tmp 5, 32, false)]
noncomputable def e101 (F92 : FT92) (R : Type) : Env R := ⟨TT, EQT, 0, 21, ownOf [], callOf [en92 F92] R, loopOf [] R, [], inlOf []⟩
def p101 (F92 : FT92) : FT101 := fun R a0 a1 k =>
let v1 := (decide (a0 < (0 : Int)));
(match v1 with
| true => k ([] : (List Int)) (3 : Int)
| false => let v2 := (List.length a1 : Int);
let v3 := (decide (a0 ≥ v2));
(match v3 with
| true => k ([] : (List Int)) (3 : Int)
| false => F92 R a1 fun y4 =>
(match (bnd a0 (List.length y4 : Int)) with
| true => let v5 : (List Int) := (List.set y4 (Int.toNat a0) (0 : Int));
k v5 (0 : Int)
| false => none)))
theorem q101 (F92 : FT92) (F : FT101) (R : Type) (x : AT (en101 F).ins) (k : RT (en101 F).outs → PT (en101 F).ins → Option R) :
  xfun (e101 F92 R) (codeOf Tryz.f101) res101 (avs (en101 F).ins x) (finK (en101 F).outs (en101 F).ins k) = p101 F92 R x.1 x.2.1 (fun y1 y2 => k (y1, y2, ()) ()) := by kernel_rfl
noncomputable def F101 : FT101 := p101 F92
theorem env101 (R : Type) : EnvOK Tryz.prog (e101 F92 R) := ⟨tabOK, eqOK, callOf_ok (allE_cons ok92 allE_nil), noIns, inlOK_nil⟩
theorem ok101 : (en101 F101).OK Tryz.prog :=
  ent_ok (Ef := fun R => e101 F92 R) (fun R => env101 R) mixed Tryz.func101 (body := codeOf Tryz.f101) (by kernel_rfl) (by kernel_rfl) (np := 0) (nt := 21) (fun _ => rfl) (fun _ => rfl) (by kernel_rfl) (res := res101) (by kernel_rfl) (fun _ => rfl) (fun _ => Nat.le_of_ble_eq_true rfl) (by
    intro R
    rw [show loopsOf (codeOf Tryz.f101) = [] from by kernel_rfl]
    exact allM_nil) (fun R x k => q101 F92 F101 R x k)
abbrev FT103 : Type 1 := (R : Type) → Int → ((List Int) → Int → Option R) → Option R
def en103 (F : FT103) : Ent := ⟨103, [(false, (.int .i64))], [(false, (.sl (.int .u32))), (false, (.int .i64))], fun R x k => F R x.1 (fun y1 y2 => k (y1, y2, ()) ())⟩
def res103 : List (ResultVar × TypeId × Bool) := [(.tmp 2, 57, false), (.tmp 3, 32, false)]
noncomputable def e103 (R : Type) : Env R := ⟨TT, EQT, 0, 23, ownOf [], callOf [] R, loopOf [] R, [], inlOf []⟩
def p103 : FT103 := fun R a0 k =>
let v1 := (decide (a0 < (0 : Int)));
(match v1 with
| true => k ([] : (List Int)) (1 : Int)
| false => let v2 := (decide (a0 ≥ (8192 : Int)));
(match v2 with
| true => k ([] : (List Int)) (1 : Int)
| false => let v3 := (IntKind.i64.wrap (Int.tdiv a0 (32 : Int)));
let v4 := (IntKind.i64.wrap (v3 + (1 : Int)));
(match (decide (0 ≤ v4 ∧ v4 ≤ v4 ∧ v4 ≤ (35184372088832 : Int))) with
| true => let v5 : (List Int) := (List.replicate (Int.toNat v4) (0 : Int));
let v6 := (IntKind.i64.wrap (Int.tdiv a0 (32 : Int)));
let v7 := (Int.tmod a0 (32 : Int));
(match (decide (0 ≤ v7)) with
| true => let v8 := (ishl .u32 (1 : Int) v7);
(match (bnd v6 (List.length v5 : Int)) with
| true => let v9 : (List Int) := (List.set v5 (Int.toNat v6) v8);
k v9 (0 : Int)
| false => none)
| false => none)
| false => none)))
theorem q103 (F : FT103) (R : Type) (x : AT (en103 F).ins) (k : RT (en103 F).outs → PT (en103 F).ins → Option R) :
  xfun (e103 R) (codeOf Tryz.f103) res103 (avs (en103 F).ins x) (finK (en103 F).outs (en103 F).ins k) = p103 R x.1 (fun y1 y2 => k (y1, y2, ()) ()) := by kernel_rfl
noncomputable def F103 : FT103 := p103
theorem env103 (R : Type) : EnvOK Tryz.prog (e103 R) := ⟨tabOK, eqOK, callOf_ok allE_nil, noIns, inlOK_nil⟩
theorem ok103 : (en103 F103).OK Tryz.prog :=
  ent_ok (Ef := fun R => e103 R) (fun R => env103 R) mixed Tryz.func103 (body := codeOf Tryz.f103) (by kernel_rfl) (by kernel_rfl) (np := 0) (nt := 23) (fun _ => rfl) (fun _ => rfl) (by kernel_rfl) (res := res103) (by kernel_rfl) (fun _ => rfl) (fun _ => Nat.le_of_ble_eq_true rfl) (by
    intro R
    rw [show loopsOf (codeOf Tryz.f103) = [] from by kernel_rfl]
    exact allM_nil) (fun R x k => q103 F103 R x k)
abbrev FT130 : Type 1 := (R : Type) → (List Int) → ((List Int) → Option R) → Option R
def en130 (F : FT130) : Ent := ⟨130, [(false, (.sl (.int .u32)))], [(false, (.sl (.int .u32)))], fun R x k => F R x.1 (fun y1 => k (y1, ()) ())⟩
def res130 : List (ResultVar × TypeId × Bool) := [(.tmp 2, 57, false)]
abbrev LT130_1 : Type 1 := (R : Type) → (List Int) → ((List Int) → Option R) → Option R
def le130_1 (L : LT130_1) : LEnt := ⟨1, [.val 0 (.sl (.int .u32))], 0, [(.exit 0, [.val 0 (.sl (.int .u32))])], fun R x ke => L R x.1 (fun y1 => ke.1 (y1, ()))⟩
noncomputable def e130 (L1 : LT130_1) (R : Type) : Env R := ⟨TT, EQT, 0, 21, ownOf [], callOf [] R, loopOf [le130_1 L1] R, [], inlOf []⟩
def p130_1 : (R : Type) → (List Int) → ((List Int) → Option R) → ((List Int) → Option R) → Option R := fun R x1 kc k0 =>
let v2 := (List.length x1 : Int);
let v3 := (decide (v2 > (0 : Int)));
(match v3 with
| true => let v4 := (List.length x1 : Int);
let v5 := (IntKind.i64.wrap (v4 - (1 : Int)));
(match (bnd v5 (List.length x1 : Int)) with
| true => let v6 := (List.getD x1 (Int.toNat v5) (0 : Int));
let v7 := (v6 == (0 : Int));
(match v7 with
| true => let v8 := (List.length x1 : Int);
let v9 := (IntKind.i64.wrap (v8 - (1 : Int)));
(match (decide (0 ≤ (0 : Int) ∧ (0 : Int) ≤ v9 ∧ v9 ≤ v9 ∧ v9 ≤ (List.length x1 : Int))) with
| true => let v10 : (List Int) := (List.take (Int.toNat (v9 - (0 : Int))) (List.drop 0 x1));
kc v10
| false => none)
| false => k0 x1)
| false => none)
| false => k0 x1)
theorem q130_1 (L1 : LT130_1) (R : Type) (x : HT (le130_1 L1).H) (kc : HT (le130_1 L1).H → Option R) (ke : KT R (le130_1 L1).exs) :
  exec (e130 L1 R) (lcode 1 (codeOf Tryz.f130)) (stOf (le130_1 L1).H x 0) (roundK (le130_1 L1).H (le130_1 L1).exs kc ke) =
    p130_1 R x.1 (fun x1 => kc (x1, ())) (fun y1 => ke.1 (y1, ())) := by kernel_rfl
noncomputable def G130_1 : Nat → LT130_1
  | 0 => fun _ _ _ => none
  | n + 1 => fun R x1 k0 => p130_1 R x1 (fun x1 => G130_1 n R x1 k0) k0
def p130 (L1 : LT130_1) : FT130 := fun R a0 k =>
L1 R a0 (fun x1 =>
k x1)
theorem q130 (L1 : LT130_1) (F : FT130) (R : Type) (x : AT (en130 F).ins) (k : RT (en130 F).outs → PT (en130 F).ins → Option R) :
  xfun (e130 L1 R) (codeOf Tryz.f130) res130 (avs (en130 F).ins x) (finK (en130 F).outs (en130 F).ins k) = p130 L1 R x.1 (fun y1 => k (y1, ()) ()) := by kernel_rfl
noncomputable def F130 : FT130 := p130 (G130_1 FUEL)
theorem env130 (R : Type) : EnvOK Tryz.prog (e130 (G130_1 FUEL) R) := ⟨tabOK, eqOK, callOf_ok allE_nil, noIns, inlOK_nil⟩
noncomputable def T130_1 : (R : Type) → HT (le130_1 (G130_1 FUEL)).H → (HT (le130_1 (G130_1 FUEL)).H → Option R) → KT R (le130_1 (G130_1 FUEL)).exs → Option R := fun R x kc ke => p130_1 R x.1 (fun x1 => kc (x1, ())) (fun y1 => ke.1 (y1, ()))
theorem it130_1 : ∀ (n : Nat) (R : Type) (x : HT (le130_1 (G130_1 FUEL)).H) (ke : KT R (le130_1 (G130_1 FUEL)).exs), iter T130_1 n R x ke = G130_1 n R x.1 (fun y1 => ke.1 (y1, ())) := by
  intro n
  induction n with
  | zero => intro R x ke; rfl
  | succ n ih =>
    intro R x ke
    show T130_1 R x (fun x' => iter T130_1 n R x' ke) ke = _
    rw [show (fun x' => iter T130_1 n R x' ke) = fun x => G130_1 n R x.1 (fun y1 => ke.1 (y1, ())) from funext fun x' => ih R x' ke]
    rfl
theorem lok130_1 : (le130_1 (G130_1 FUEL)).OK Tryz.prog 0 21 (lcode 1 (codeOf Tryz.f130)) := fun R x ke r h =>
  iter_sound (fun R => e130 (G130_1 FUEL) R) 0 21 (fun _ => rfl) (fun _ => rfl) (fun R => env130 R) mixed (by
    intro R
    rw [show loopsOf (lcode 1 (codeOf Tryz.f130)) = [] from by kernel_rfl]
    exact allM_nil) (T := T130_1) (fun R x kc ke => q130_1 (G130_1 FUEL) R x kc ke) FUEL R x ke r ((it130_1 FUEL R x ke).trans h)
theorem ok130 : (en130 F130).OK Tryz.prog :=
  ent_ok (Ef := fun R => e130 (G130_1 FUEL) R) (fun R => env130 R) mixed Tryz.func130 (body := codeOf Tryz.f130) (by kernel_rfl) (by kernel_rfl) (np := 0) (nt := 21) (fun _ => rfl) (fun _ => rfl) (by kernel_rfl) (res := res130) (by kernel_rfl) (fun _ => rfl) (fun _ => Nat.le_of_ble_eq_true rfl) (by
    intro R
    rw [show loopsOf (codeOf Tryz.f130) = [lcode 1 (codeOf Tryz.f130)] from by kernel_rfl]
    exact (allM_cons (loop_ok2 (e := le130_1 (G130_1 FUEL)) rfl rfl lok130_1) allM_nil)) (fun R x k => q130 (G130_1 FUEL) F130 R x k)
abbrev FT104 : Type 1 := (R : Type) → Int → ((List Int) → Option R) → Option R
def en104 (F : FT104) : Ent := ⟨104, [(false, (.int .u64))], [(false, (.sl (.int .u32)))], fun R x k => F R x.1 (fun y1 => k (y1, ()) ())⟩
def res104 : List (ResultVar × TypeId × Bool) := [(.tmp 2, 57, false)]
noncomputable def e104 (F130 : FT130) (R : Type) : Env R := ⟨TT, EQT, 0, 10, ownOf [], callOf [en130 F130] R, loopOf [] R, [], inlOf []⟩
def p104 (F130 : FT130) : FT104 := fun R a0 k =>
let v1 := (IntKind.u32.wrap a0);
let v2 := (ishr .u64 a0 (32 : Int));
let v3 := (IntKind.u32.wrap v2);
let v4 : (List Int) := ([v1, v3] : (List Int));
F130 R v4 fun y5 =>
k y5
theorem q104 (F130 : FT130) (F : FT104) (R : Type) (x : AT (en104 F).ins) (k : RT (en104 F).outs → PT (en104 F).ins → Option R) :
  xfun (e104 F130 R) (codeOf Tryz.f104) res104 (avs (en104 F).ins x) (finK (en104 F).outs (en104 F).ins k) = p104 F130 R x.1 (fun y1 => k (y1, ()) ()) := by kernel_rfl
noncomputable def F104 : FT104 := p104 F130
theorem env104 (R : Type) : EnvOK Tryz.prog (e104 F130 R) := ⟨tabOK, eqOK, callOf_ok (allE_cons ok130 allE_nil), noIns, inlOK_nil⟩
theorem ok104 : (en104 F104).OK Tryz.prog :=
  ent_ok (Ef := fun R => e104 F130 R) (fun R => env104 R) mixed Tryz.func104 (body := codeOf Tryz.f104) (by kernel_rfl) (by kernel_rfl) (np := 0) (nt := 10) (fun _ => rfl) (fun _ => rfl) (by kernel_rfl) (res := res104) (by kernel_rfl) (fun _ => rfl) (fun _ => Nat.le_of_ble_eq_true rfl) (by
    intro R
    rw [show loopsOf (codeOf Tryz.f104) = [] from by kernel_rfl]
    exact allM_nil) (fun R x k => q104 F130 F104 R x k)
abbrev FT142 : Type 1 := (R : Type) → (List Int) → (Bool → Option R) → Option R
def en142 (F : FT142) : Ent := ⟨142, [(false, (.sl (.int .u32)))], [(false, .bool)], fun R x k => F R x.1 (fun y1 => k (y1, ()) ())⟩
def res142 : List (ResultVar × TypeId × Bool) := [(.tmp 2, 4, false)]
noncomputable def e142 (F130 : FT130) (R : Type) : Env R := ⟨TT, EQT, 0, 14, ownOf [], callOf [en130 F130] R, loopOf [] R, [], inlOf []⟩
def p142 (F130 : FT130) : FT142 := fun R a0 k =>
let v1 := (List.length a0 : Int);
let v2 := (decide (v1 ≤ (256 : Int)));
(match v2 with
| true => F130 R a0 fun y3 =>
let v4 := (List.length y3 : Int);
let v5 := (List.length a0 : Int);
let v6 := (v4 == v5);
k v6
| false => k false)
theorem q142 (F130 : FT130) (F : FT142) (R : Type) (x : AT (en142 F).ins) (k : RT (en142 F).outs → PT (en142 F).ins → Option R) :
  xfun (e142 F130 R) (codeOf Tryz.f142) res142 (avs (en142 F).ins x) (finK (en142 F).outs (en142 F).ins k) = p142 F130 R x.1 (fun y1 => k (y1, ()) ()) := by kernel_rfl
noncomputable def F142 : FT142 := p142 F130
theorem env142 (R : Type) : EnvOK Tryz.prog (e142 F130 R) := ⟨tabOK, eqOK, callOf_ok (allE_cons ok130 allE_nil), noIns, inlOK_nil⟩
theorem ok142 : (en142 F142).OK Tryz.prog :=
  ent_ok (Ef := fun R => e142 F130 R) (fun R => env142 R) mixed Tryz.func142 (body := codeOf Tryz.f142) (by kernel_rfl) (by kernel_rfl) (np := 0) (nt := 14) (fun _ => rfl) (fun _ => rfl) (by kernel_rfl) (res := res142) (by kernel_rfl) (fun _ => rfl) (fun _ => Nat.le_of_ble_eq_true rfl) (by
    intro R
    rw [show loopsOf (codeOf Tryz.f142) = [] from by kernel_rfl]
    exact allM_nil) (fun R x k => q142 F130 F142 R x k)
abbrev FT141 : Type 1 := (R : Type) → (List Int) → (Bool → Option R) → Option R
def en141 (F : FT141) : Ent := ⟨141, [(false, (.sl (.int .u32)))], [(false, .bool)], fun R x k => F R x.1 (fun y1 => k (y1, ()) ())⟩
def res141 : List (ResultVar × TypeId × Bool) := [(.tmp 2, 4, false)]
noncomputable def e141 (F142 : FT142) (R : Type) : Env R := ⟨TT, EQT, 0, 6, ownOf [], callOf [en142 F142] R, loopOf [] R, [], inlOf []⟩
def p141 (F142 : FT142) : FT141 := fun R a0 k =>
F142 R a0 fun y1 =>
k (!y1)
theorem q141 (F142 : FT142) (F : FT141) (R : Type) (x : AT (en141 F).ins) (k : RT (en141 F).outs → PT (en141 F).ins → Option R) :
  xfun (e141 F142 R) (codeOf Tryz.f141) res141 (avs (en141 F).ins x) (finK (en141 F).outs (en141 F).ins k) = p141 F142 R x.1 (fun y1 => k (y1, ()) ()) := by kernel_rfl
noncomputable def F141 : FT141 := p141 F142
theorem env141 (R : Type) : EnvOK Tryz.prog (e141 F142 R) := ⟨tabOK, eqOK, callOf_ok (allE_cons ok142 allE_nil), noIns, inlOK_nil⟩
theorem ok141 : (en141 F141).OK Tryz.prog :=
  ent_ok (Ef := fun R => e141 F142 R) (fun R => env141 R) mixed Tryz.func141 (body := codeOf Tryz.f141) (by kernel_rfl) (by kernel_rfl) (np := 0) (nt := 6) (fun _ => rfl) (fun _ => rfl) (by kernel_rfl) (res := res141) (by kernel_rfl) (fun _ => rfl) (fun _ => Nat.le_of_ble_eq_true rfl) (by
    intro R
    rw [show loopsOf (codeOf Tryz.f141) = [] from by kernel_rfl]
    exact allM_nil) (fun R x k => q141 F142 F141 R x k)
abbrev FT147141 : Type 1 := (R : Type) → (List (List Int)) → (Int → Option R) → Option R
def en147141 (F : FT147141) : EntF := ⟨146, 141, [(false, (.sl (.sl (.int .u32))))], [(false, (.int .i64))], fun R x k => F R x.1 (fun y1 => k (y1, ()) ())⟩
def res147141 : List (ResultVar × TypeId × Bool) := [(.tmp 4, 3, false)]
abbrev LT147141_2 : Type 1 := (R : Type) → (List (List Int)) → Int → Int → (Int → Option R) → (Option R) → Option R
def le147141_2 (L : LT147141_2) : LEnt := ⟨2, [.val 0 (.sl (.sl (.int .u32))), .fix 1 (.fn 141), .val 7 (.int .i64), .val 8 (.int .i64)], 0, [(.ret, [.val 4 (.int .i64)]), (.exit 0, [])], fun R x ke => L R x.1 x.2.1 x.2.2.1 (fun y1 => ke.1 (y1, ())) (ke.2.1 ())⟩
noncomputable def e147141 (F141 : FT141) (L2 : LT147141_2) (R : Type) : Env R := ⟨TT, EQT, 0, 19, ownOf [], callOf [en141 F141] R, loopOf [le147141_2 L2] R, [], inlOf []⟩
def p147141_2 (F141 : FT141) : (R : Type) → (List (List Int)) → Int → Int → ((List (List Int)) → Int → Int → Option R) → (Int → Option R) → (Option R) → Option R := fun R x1 x2 x3 kc k0 k1 =>
let v4 := (decide (x3 < x2));
(match v4 with
| true => (match (bnd x3 (List.length x1 : Int)) with
| true => let v5 : (List Int) := (List.getD x1 (Int.toNat x3) ([] : (List Int)));
F141 R v5 fun y6 =>
(match y6 with
| true => k0 x3
| false => let v7 := (IntKind.i64.wrap (x3 + (1 : Int)));
kc x1 x2 v7)
| false => none)
| false => k1)
theorem q147141_2 (F141 : FT141) (L2 : LT147141_2) (R : Type) (x : HT (le147141_2 L2).H) (kc : HT (le147141_2 L2).H → Option R) (ke : KT R (le147141_2 L2).exs) :
  exec (e147141 F141 L2 R) (lcode 2 (codeOf Tryz.f146)) (stOf (le147141_2 L2).H x 0) (roundK (le147141_2 L2).H (le147141_2 L2).exs kc ke) =
    p147141_2 F141 R x.1 x.2.1 x.2.2.1 (fun x1 x2 x3 => kc (x1, x2, x3, ())) (fun y1 => ke.1 (y1, ())) (ke.2.1 ()) := by kernel_rfl
noncomputable def G147141_2 : Nat → LT147141_2
  | 0 => fun _ _ _ _ _ _ => none
  | n + 1 => fun R x1 x2 x3 k0 k1 => p147141_2 F141 R x1 x2 x3 (fun x1 x2 x3 => G147141_2 n R x1 x2 x3 k0 k1) k0 k1
def p147141 (L2 : LT147141_2) : FT147141 := fun R a0 k =>
let v1 := (List.length a0 : Int);
L2 R a0 v1 (0 : Int) (fun x2 =>
k x2) (k (-1 : Int))
theorem q147141 (F141 : FT141) (L2 : LT147141_2) (F : FT147141) (R : Type) (x : AT (en147141 F).ins) (k : RT (en147141 F).outs → PT (en147141 F).ins → Option R) :
  xfun (e147141 F141 L2 R) (codeOf Tryz.f146) res147141 (avs (en147141 F).ins x ++ [AV.fn 141]) (finK (en147141 F).outs (en147141 F).ins k) = p147141 L2 R x.1 (fun y1 => k (y1, ()) ()) := by kernel_rfl
noncomputable def F147141 : FT147141 := p147141 (G147141_2 FUEL)
theorem env147141 (R : Type) : EnvOK Tryz.prog (e147141 F141 (G147141_2 FUEL) R) := ⟨tabOK, eqOK, callOf_ok (allE_cons ok141 allE_nil), noIns, inlOK_nil⟩
noncomputable def T147141_2 : (R : Type) → HT (le147141_2 (G147141_2 FUEL)).H → (HT (le147141_2 (G147141_2 FUEL)).H → Option R) → KT R (le147141_2 (G147141_2 FUEL)).exs → Option R := fun R x kc ke => p147141_2 F141 R x.1 x.2.1 x.2.2.1 (fun x1 x2 x3 => kc (x1, x2, x3, ())) (fun y1 => ke.1 (y1, ())) (ke.2.1 ())
theorem it147141_2 : ∀ (n : Nat) (R : Type) (x : HT (le147141_2 (G147141_2 FUEL)).H) (ke : KT R (le147141_2 (G147141_2 FUEL)).exs), iter T147141_2 n R x ke = G147141_2 n R x.1 x.2.1 x.2.2.1 (fun y1 => ke.1 (y1, ())) (ke.2.1 ()) := by
  intro n
  induction n with
  | zero => intro R x ke; rfl
  | succ n ih =>
    intro R x ke
    show T147141_2 R x (fun x' => iter T147141_2 n R x' ke) ke = _
    rw [show (fun x' => iter T147141_2 n R x' ke) = fun x => G147141_2 n R x.1 x.2.1 x.2.2.1 (fun y1 => ke.1 (y1, ())) (ke.2.1 ()) from funext fun x' => ih R x' ke]
    rfl
theorem lok147141_2 : (le147141_2 (G147141_2 FUEL)).OK Tryz.prog 0 19 (lcode 2 (codeOf Tryz.f146)) := fun R x ke r h =>
  iter_sound (fun R => e147141 F141 (G147141_2 FUEL) R) 0 19 (fun _ => rfl) (fun _ => rfl) (fun R => env147141 R) mixed (by
    intro R
    rw [show loopsOf (lcode 2 (codeOf Tryz.f146)) = [] from by kernel_rfl]
    exact allM_nil) (T := T147141_2) (fun R x kc ke => q147141_2 F141 (G147141_2 FUEL) R x kc ke) FUEL R x ke r ((it147141_2 FUEL R x ke).trans h)
theorem ok147141 : (en147141 F147141).OK Tryz.prog :=
  ent_okF (Ef := fun R => e147141 F141 (G147141_2 FUEL) R) (fun R => env147141 R) mixed Tryz.func146 (body := codeOf Tryz.f146) (by kernel_rfl) (by kernel_rfl) (np := 0) (nt := 19) (fun _ => rfl) (fun _ => rfl) (by kernel_rfl) (res := res147141) (by kernel_rfl) (fun _ => rfl) (fun _ => Nat.le_of_ble_eq_true rfl) (by
    intro R
    rw [show loopsOf (codeOf Tryz.f146) = [lcode 2 (codeOf Tryz.f146)] from by kernel_rfl]
    exact (allM_cons (loop_ok2 (e := le147141_2 (G147141_2 FUEL)) rfl rfl lok147141_2) allM_nil)) (fun R x k => q147141 F141 (G147141_2 FUEL) F147141 R x k)
abbrev FT141141 : Type 1 := (R : Type) → (List (List Int)) → (Bool → Option R) → Option R
def en141141 (F : FT141141) : EntF := ⟨140, 141, [(false, (.sl (.sl (.int .u32))))], [(false, .bool)], fun R x k => F R x.1 (fun y1 => k (y1, ()) ())⟩
def res141141 : List (ResultVar × TypeId × Bool) := [(.tmp 4, 4, false)]
noncomputable def e141141 (F147141 : FT147141) (R : Type) : Env R := ⟨TT, EQT, 0, 9, ownOf [], callOfF [en147141 F147141] [] R, loopOf [] R, [], inlOf []⟩
def p141141 (F147141 : FT147141) : FT141141 := fun R a0 k =>
F147141 R a0 fun y1 =>
let v2 := (decide (y1 ≥ (0 : Int)));
k v2
theorem q141141 (F147141 : FT147141) (F : FT141141) (R : Type) (x : AT (en141141 F).ins) (k : RT (en141141 F).outs → PT (en141141 F).ins → Option R) :
  xfun (e141141 F147141 R) (codeOf Tryz.f140) res141141 (avs (en141141 F).ins x ++ [AV.fn 141]) (finK (en141141 F).outs (en141141 F).ins k) = p141141 F147141 R x.1 (fun y1 => k (y1, ()) ()) := by kernel_rfl
noncomputable def F141141 : FT141141 := p141141 F147141
theorem env141141 (R : Type) : EnvOK Tryz.prog (e141141 F147141 R) := ⟨tabOK, eqOK, callOfF_ok (allF_cons ok147141 allF_nil) allE_nil, noIns, inlOK_nil⟩
theorem ok141141 : (en141141 F141141).OK Tryz.prog :=
  ent_okF (Ef := fun R => e141141 F147141 R) (fun R => env141141 R) mixed Tryz.func140 (body := codeOf Tryz.f140) (by kernel_rfl) (by kernel_rfl) (np := 0) (nt := 9) (fun _ => rfl) (fun _ => rfl) (by kernel_rfl) (res := res141141) (by kernel_rfl) (fun _ => rfl) (fun _ => Nat.le_of_ble_eq_true rfl) (by
    intro R
    rw [show loopsOf (codeOf Tryz.f140) = [] from by kernel_rfl]
    exact allM_nil) (fun R x k => q141141 F147141 F141141 R x k)
abbrev FT131 : Type 1 := (R : Type) → (List (List Int)) → (Bool → Option R) → Option R
def en131 (F : FT131) : Ent := ⟨131, [(false, (.sl (.sl (.int .u32))))], [(false, .bool)], fun R x k => F R x.1 (fun y1 => k (y1, ()) ())⟩
def res131 : List (ResultVar × TypeId × Bool) := [(.tmp 2, 4, false)]
noncomputable def e131 (F141141 : FT141141) (R : Type) : Env R := ⟨TT, EQT, 0, 6, ownOf [], callOfF [en141141 F141141] [] R, loopOf [] R, [], inlOf []⟩
def p131 (F141141 : FT141141) : FT131 := fun R a0 k =>
F141141 R a0 fun y1 =>
k (!y1)
theorem q131 (F141141 : FT141141) (F : FT131) (R : Type) (x : AT (en131 F).ins) (k : RT (en131 F).outs → PT (en131 F).ins → Option R) :
  xfun (e131 F141141 R) (codeOf Tryz.f131) res131 (avs (en131 F).ins x) (finK (en131 F).outs (en131 F).ins k) = p131 F141141 R x.1 (fun y1 => k (y1, ()) ()) := by kernel_rfl
noncomputable def F131 : FT131 := p131 F141141
theorem env131 (R : Type) : EnvOK Tryz.prog (e131 F141141 R) := ⟨tabOK, eqOK, callOfF_ok (allF_cons ok141141 allF_nil) allE_nil, noIns, inlOK_nil⟩
theorem ok131 : (en131 F131).OK Tryz.prog :=
  ent_ok (Ef := fun R => e131 F141141 R) (fun R => env131 R) mixed Tryz.func131 (body := codeOf Tryz.f131) (by kernel_rfl) (by kernel_rfl) (np := 0) (nt := 6) (fun _ => rfl) (fun _ => rfl) (by kernel_rfl) (res := res131) (by kernel_rfl) (fun _ => rfl) (fun _ => Nat.le_of_ble_eq_true rfl) (by
    intro R
    rw [show loopsOf (codeOf Tryz.f131) = [] from by kernel_rfl]
    exact allM_nil) (fun R x k => q131 F141141 F131 R x k)
abbrev FT132 : Type 1 := (R : Type) → (List Int) → (List Int) → (Int → Option R) → Option R
def en132 (F : FT132) : Ent := ⟨132, [(false, (.sl (.int .u32))), (false, (.sl (.int .u32)))], [(false, (.int .i64))], fun R x k => F R x.1 x.2.1 (fun y1 => k (y1, ()) ())⟩
def res132 : List (ResultVar × TypeId × Bool) := [(.tmp 4, 3, false)]
abbrev LT132_6 : Type 1 := (R : Type) → (List Int) → (List Int) → Int → (Int → Option R) → (Option R) → Option R
def le132_6 (L : LT132_6) : LEnt := ⟨6, [.val 0 (.sl (.int .u32)), .val 1 (.sl (.int .u32)), .val 5 (.int .i64)], 0, [(.ret, [.val 4 (.int .i64)]), (.exit 0, [])], fun R x ke => L R x.1 x.2.1 x.2.2.1 (fun y1 => ke.1 (y1, ())) (ke.2.1 ())⟩
noncomputable def e132 (F131 : FT131) (L6 : LT132_6) (R : Type) : Env R := ⟨TT, EQT, 0, 50, ownOf [], callOf [en131 F131] R, loopOf [le132_6 L6] R, [], inlOf []⟩
def p132_6 : (R : Type) → (List Int) → (List Int) → Int → ((List Int) → (List Int) → Int → Option R) → (Int → Option R) → (Option R) → Option R := fun R x1 x2 x3 kc k0 k1 =>
let v4 := (decide (x3 ≥ (0 : Int)));
(match v4 with
| true => (match (bnd x3 (List.length x1 : Int)) with
| true => let v5 := (List.getD x1 (Int.toNat x3) (0 : Int));
(match (bnd x3 (List.length x2 : Int)) with
| true => let v6 := (List.getD x2 (Int.toNat x3) (0 : Int));
let v7 := (decide (v5 < v6));
(match v7 with
| true => k0 (-1 : Int)
| false => (match (bnd x3 (List.length x1 : Int)) with
| true => let v8 := (List.getD x1 (Int.toNat x3) (0 : Int));
(match (bnd x3 (List.length x2 : Int)) with
| true => let v9 := (List.getD x2 (Int.toNat x3) (0 : Int));
let v10 := (decide (v8 > v9));
(match v10 with
| true => k0 (1 : Int)
| false => let v11 := (IntKind.i64.wrap (x3 - (1 : Int)));
kc x1 x2 v11)
| false => none)
| false => none))
| false => none)
| false => none)
| false => k1)
theorem q132_6 (F131 : FT131) (L6 : LT132_6) (R : Type) (x : HT (le132_6 L6).H) (kc : HT (le132_6 L6).H → Option R) (ke : KT R (le132_6 L6).exs) :
  exec (e132 F131 L6 R) (lcode 6 (codeOf Tryz.f132)) (stOf (le132_6 L6).H x 0) (roundK (le132_6 L6).H (le132_6 L6).exs kc ke) =
    p132_6 R x.1 x.2.1 x.2.2.1 (fun x1 x2 x3 => kc (x1, x2, x3, ())) (fun y1 => ke.1 (y1, ())) (ke.2.1 ()) := by kernel_rfl
noncomputable def G132_6 : Nat → LT132_6
  | 0 => fun _ _ _ _ _ _ => none
  | n + 1 => fun R x1 x2 x3 k0 k1 => p132_6 R x1 x2 x3 (fun x1 x2 x3 => G132_6 n R x1 x2 x3 k0 k1) k0 k1
def p132 (F131 : FT131) (L6 : LT132_6) : FT132 := fun R a0 a1 k =>
let v1 : (List (List Int)) := ([a0, a1] : (List (List Int)));
F131 R v1 fun y2 =>
(match (!y2) with
| true => k (0 : Int)
| false => let v3 := (List.length a0 : Int);
let v4 := (List.length a1 : Int);
let v5 := (v3 != v4);
(match v5 with
| true => let v6 := (List.length a0 : Int);
let v7 := (List.length a1 : Int);
let v8 := (IntKind.i64.wrap (v6 - v7));
let v9 := (if (-1 : Int) > v8 then (-1 : Int) else v8);
let v10 := (if (1 : Int) < v9 then (1 : Int) else v9);
k v10
| false => let v11 := (List.length a0 : Int);
let v12 := (IntKind.i64.wrap (v11 - (1 : Int)));
L6 R a0 a1 v12 (fun x13 =>
k x13) (k (0 : Int))))
theorem q132 (F131 : FT131) (L6 : LT132_6) (F : FT132) (R : Type) (x : AT (en132 F).ins) (k : RT (en132 F).outs → PT (en132 F).ins → Option R) :
  xfun (e132 F131 L6 R) (codeOf Tryz.f132) res132 (avs (en132 F).ins x) (finK (en132 F).outs (en132 F).ins k) = p132 F131 L6 R x.1 x.2.1 (fun y1 => k (y1, ()) ()) := by kernel_rfl
noncomputable def F132 : FT132 := p132 F131 (G132_6 FUEL)
theorem env132 (R : Type) : EnvOK Tryz.prog (e132 F131 (G132_6 FUEL) R) := ⟨tabOK, eqOK, callOf_ok (allE_cons ok131 allE_nil), noIns, inlOK_nil⟩
noncomputable def T132_6 : (R : Type) → HT (le132_6 (G132_6 FUEL)).H → (HT (le132_6 (G132_6 FUEL)).H → Option R) → KT R (le132_6 (G132_6 FUEL)).exs → Option R := fun R x kc ke => p132_6 R x.1 x.2.1 x.2.2.1 (fun x1 x2 x3 => kc (x1, x2, x3, ())) (fun y1 => ke.1 (y1, ())) (ke.2.1 ())
theorem it132_6 : ∀ (n : Nat) (R : Type) (x : HT (le132_6 (G132_6 FUEL)).H) (ke : KT R (le132_6 (G132_6 FUEL)).exs), iter T132_6 n R x ke = G132_6 n R x.1 x.2.1 x.2.2.1 (fun y1 => ke.1 (y1, ())) (ke.2.1 ()) := by
  intro n
  induction n with
  | zero => intro R x ke; rfl
  | succ n ih =>
    intro R x ke
    show T132_6 R x (fun x' => iter T132_6 n R x' ke) ke = _
    rw [show (fun x' => iter T132_6 n R x' ke) = fun x => G132_6 n R x.1 x.2.1 x.2.2.1 (fun y1 => ke.1 (y1, ())) (ke.2.1 ()) from funext fun x' => ih R x' ke]
    rfl
theorem lok132_6 : (le132_6 (G132_6 FUEL)).OK Tryz.prog 0 50 (lcode 6 (codeOf Tryz.f132)) := fun R x ke r h =>
  iter_sound (fun R => e132 F131 (G132_6 FUEL) R) 0 50 (fun _ => rfl) (fun _ => rfl) (fun R => env132 R) mixed (by
    intro R
    rw [show loopsOf (lcode 6 (codeOf Tryz.f132)) = [] from by kernel_rfl]
    exact allM_nil) (T := T132_6) (fun R x kc ke => q132_6 F131 (G132_6 FUEL) R x kc ke) FUEL R x ke r ((it132_6 FUEL R x ke).trans h)
theorem ok132 : (en132 F132).OK Tryz.prog :=
  ent_ok (Ef := fun R => e132 F131 (G132_6 FUEL) R) (fun R => env132 R) mixed Tryz.func132 (body := codeOf Tryz.f132) (by kernel_rfl) (by kernel_rfl) (np := 0) (nt := 50) (fun _ => rfl) (fun _ => rfl) (by kernel_rfl) (res := res132) (by kernel_rfl) (fun _ => rfl) (fun _ => Nat.le_of_ble_eq_true rfl) (by
    intro R
    rw [show loopsOf (codeOf Tryz.f132) = [lcode 6 (codeOf Tryz.f132)] from by kernel_rfl]
    exact (allM_cons (loop_ok2 (e := le132_6 (G132_6 FUEL)) rfl rfl lok132_6) allM_nil)) (fun R x k => q132 F131 (G132_6 FUEL) F132 R x k)
end Go.PG
