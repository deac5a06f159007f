/- A part of the proof over this seat (own work; the framework that reads a Go function as a pure one, or a use of it). No condition of its own. -/
import Derived.Test.YtapdakmnlclboaaCC3
import Derived.Test.YtapdakmnlclboaaProg
import Derived.KernelRfl
set_option linter.unusedVariables false
set_option linter.unusedSimpArgs false
set_option linter.unusedSectionVars false
set_option maxRecDepth 100000
namespace Go.PG
open Go.Proofs
abbrev Kq1 : Kd := (.pair (.int .i64) (.pair (.int .i64) .unit))
abbrev Tq1 : Type := (Int × (Int × Unit))
abbrev Tq2 : Type := (Tq1 × (List Int))
abbrev Kq3 : Kd := (.pair (.int .u64) (.pair (.int .u64) .unit))
abbrev Tq3 : Type := (Int × (Int × Unit))
abbrev Kq4 : Kd := (.pair (.arr 32 (.int .u8)) Kq3)
abbrev Tq4 : Type := ((List Int) × Tq3)
abbrev Kq5 : Kd := (.pair (.int .u64) Kq4)
abbrev Tq5 : Type := (Int × Tq4)
abbrev Kq6 : Kd := (.pair (.sl (.int .u8)) Kq5)
abbrev Tq6 : Type := ((List Int) × Tq5)
abbrev Kq7 : Kd := (.pair (.int .i64) Kq6)
abbrev Tq7 : Type := (Int × Tq6)
abbrev Kq8 : Kd := (.pair (.sl (.int .u8)) (.pair (.int .u64) .unit))
abbrev Tq8 : Type := ((List Int) × (Int × Unit))
abbrev Kq9 : Kd := (.pair (.arr 8 (.int .u32)) Kq8)
abbrev Tq9 : Type := ((List Int) × Tq8)
abbrev Kq10 : Kd := (.pair Kq9 .unit)
abbrev Tq10 : Type := (Tq9 × Unit)
abbrev Kq11 : Kd := (.pair (.int .u64) (.pair .bool .unit))
abbrev Tq11 : Type := (Int × (Bool × Unit))
abbrev Kq12 : Kd := (.pair (.arr 32 (.int .u8)) Kq11)
abbrev Tq12 : Type := ((List Int) × Tq11)
abbrev Kq13 : Kd := (.pair Kq7 Kq12)
abbrev Tq13 : Type := (Tq7 × Tq12)
abbrev Kq14 : Kd := (.pair .mp (.pair (.int .i64) .unit))
abbrev Kq15 : Kd := (.pair (.sl (.sl (.int .u32))) Kq14)
abbrev Kq16 : Kd := (.pair (.sl (.int .i64)) Kq15)
abbrev Kq17 : Kd := (.pair (.sl (.sl (.int .u32))) Kq16)
abbrev Kq18 : Kd := (.pair (.int .i64) Kq17)
abbrev Tq19 : Type := ((List (List Int)) × (Int × Unit))
abbrev Tq20 : Type := ((List Int) × Tq19)
abbrev Tq21 : Type := ((List (List Int)) × Tq20)
abbrev Tq22 : Type := (Int × Tq21)
def TT : Tab := [
  (2, ⟨.int .i64, 1, 8, some (.int .i64)⟩),
  (3, ⟨.int .i64, 1, 8, some (.int .i64)⟩),
  (4, ⟨.bool, 1, 1, some .bool⟩),
  (5, ⟨.int .u8, 1, 1, some (.int .u8)⟩),
  (22, ⟨.slice 24, 1, 24, some (.sl (.int .u64))⟩),
  (24, ⟨.int .u64, 1, 8, some (.int .u64)⟩),
  (29, ⟨.int .i64, 1, 8, some (.int .i64)⟩),
  (33, ⟨.slice 5, 1, 24, some (.sl (.int .u8))⟩),
  (35, ⟨.array 32 5, 32, 32, some (.arr 32 (.int .u8))⟩),
  (37, ⟨.struct #[{ name := "Kind", type := 3, offset := 0, embedded := false, tag := "", pkgPath := "", byteOffset := 0 }, { name := "Tape", type := 33, offset := 1, embedded := false, tag := "", pkgPath := "", byteOffset := 8 }, { name := "Bits", type := 24, offset := 2, embedded := false, tag := "", pkgPath := "", byteOffset := 32 }, { name := "Seed", type := 35, offset := 3, embedded := false, tag := "", pkgPath := "", byteOffset := 40 }, { name := "Domain", type := 24, offset := 35, embedded := false, tag := "", pkgPath := "", byteOffset := 72 }, { name := "At", type := 24, offset := 36, embedded := false, tag := "", pkgPath := "", byteOffset := 80 }], 37, 88, some Kq7⟩),
  (47, ⟨.slice 3, 1, 24, some (.sl (.int .i64))⟩),
  (52, ⟨.array 2 5, 2, 2, some (.arr 2 (.int .u8))⟩),
  (53, ⟨.slice 74, 1, 24, some (.sl (.int .u32))⟩),
  (54, ⟨.slice 74, 1, 24, some (.sl (.int .u32))⟩),
  (58, ⟨.struct #[{ name := "Tree", type := 22, offset := 0, embedded := false, tag := "", pkgPath := "", byteOffset := 0 }], 1, 24, some (.pair (.sl (.int .u64)) .unit)⟩),
  (74, ⟨.int .u32, 1, 4, some (.int .u32)⟩),
  (87, ⟨.map 95 54, 1, 8, some .mp⟩),
  (88, ⟨.slice 54, 1, 24, some (.sl (.sl (.int .u32)))⟩),
  (90, ⟨.struct #[{ name := "attempts", type := 3, offset := 0, embedded := false, tag := "", pkgPath := "drawlot/comm", byteOffset := 0 }, { name := "stakes", type := 88, offset := 1, embedded := false, tag := "", pkgPath := "drawlot/comm", byteOffset := 8 }, { name := "needs", type := 47, offset := 2, embedded := false, tag := "", pkgPath := "drawlot/comm", byteOffset := 32 }, { name := "lost", type := 88, offset := 3, embedded := false, tag := "", pkgPath := "drawlot/comm", byteOffset := 56 }, { name := "known", type := 87, offset := 4, embedded := false, tag := "", pkgPath := "drawlot/comm", byteOffset := 80 }, { name := "broken", type := 29, offset := 5, embedded := false, tag := "", pkgPath := "drawlot/comm", byteOffset := 88 }], 6, 96, some Kq18⟩),
  (95, ⟨.struct #[{ name := "member", type := 3, offset := 0, embedded := false, tag := "", pkgPath := "drawlot/comm", byteOffset := 0 }, { name := "left", type := 3, offset := 1, embedded := false, tag := "", pkgPath := "drawlot/comm", byteOffset := 8 }], 2, 16, some Kq1⟩),
  (140, ⟨.struct #[{ name := "Source", type := 37, offset := 0, embedded := true, tag := "", pkgPath := "", byteOffset := 0 }, { name := "block", type := 35, offset := 37, embedded := false, tag := "", pkgPath := "drawlot/tape", byteOffset := 88 }, { name := "at", type := 24, offset := 69, embedded := false, tag := "", pkgPath := "drawlot/tape", byteOffset := 120 }, { name := "some", type := 4, offset := 70, embedded := false, tag := "", pkgPath := "drawlot/tape", byteOffset := 128 }], 71, 136, some Kq13⟩),
  (141, ⟨.int .u64, 1, 8, some (.int .u64)⟩),
  (162, ⟨.array 8 5, 8, 8, some (.arr 8 (.int .u8))⟩),
  (165, ⟨.slice 33, 1, 24, some (.sl (.sl (.int .u8)))⟩),
  (167, ⟨.array 8 74, 8, 32, some (.arr 8 (.int .u32))⟩),
  (169, ⟨.struct #[{ name := "State", type := 167, offset := 0, embedded := false, tag := "", pkgPath := "", byteOffset := 0 }, { name := "Rest", type := 33, offset := 8, embedded := false, tag := "", pkgPath := "", byteOffset := 32 }, { name := "Bytes", type := 24, offset := 9, embedded := false, tag := "", pkgPath := "", byteOffset := 56 }], 10, 64, some Kq9⟩),
  (177, ⟨.struct #[{ name := "Writer", type := 169, offset := 0, embedded := true, tag := "", pkgPath := "", byteOffset := 0 }], 10, 64, some Kq10⟩),
  (186, ⟨.slice 189, 1, 24, some (.sl (.arr 64 (.int .u8)))⟩),
  (189, ⟨.array 64 5, 64, 64, some (.arr 64 (.int .u8))⟩),
  (191, ⟨.array 4 5, 4, 4, some (.arr 4 (.int .u8))⟩),
  (193, ⟨.array 64 74, 64, 256, some (.arr 64 (.int .u32))⟩),
  (195, ⟨.array 64 74, 64, 256, some (.arr 64 (.int .u32))⟩)]
def EQT : List Nat := [95]
theorem ty2 : TyOK Try.prog TT 2 ⟨.int .i64, 1, 8, some (.int .i64)⟩ := tyOK_of Try.underlying2 (by kernel_rfl)
theorem ty3 : TyOK Try.prog TT 3 ⟨.int .i64, 1, 8, some (.int .i64)⟩ := tyOK_of Try.underlying3 (by kernel_rfl)
theorem ty4 : TyOK Try.prog TT 4 ⟨.bool, 1, 1, some .bool⟩ := tyOK_of Try.underlying4 (by kernel_rfl)
theorem ty5 : TyOK Try.prog TT 5 ⟨.int .u8, 1, 1, some (.int .u8)⟩ := tyOK_of Try.underlying5 (by kernel_rfl)
theorem ty22 : TyOK Try.prog TT 22 ⟨.slice 24, 1, 24, some (.sl (.int .u64))⟩ := tyOK_of Try.underlying22 (by kernel_rfl)
theorem ty24 : TyOK Try.prog TT 24 ⟨.int .u64, 1, 8, some (.int .u64)⟩ := tyOK_of Try.underlying24 (by kernel_rfl)
theorem ty29 : TyOK Try.prog TT 29 ⟨.int .i64, 1, 8, some (.int .i64)⟩ := tyOK_of Try.underlying29 (by kernel_rfl)
theorem ty33 : TyOK Try.prog TT 33 ⟨.slice 5, 1, 24, some (.sl (.int .u8))⟩ := tyOK_of Try.underlying33 (by kernel_rfl)
theorem ty35 : TyOK Try.prog TT 35 ⟨.array 32 5, 32, 32, some (.arr 32 (.int .u8))⟩ := tyOK_of Try.underlying35 (by kernel_rfl)
theorem ty37 : TyOK Try.prog TT 37 ⟨.struct #[{ name := "Kind", type := 3, offset := 0, embedded := false, tag := "", pkgPath := "", byteOffset := 0 }, { name := "Tape", type := 33, offset := 1, embedded := false, tag := "", pkgPath := "", byteOffset := 8 }, { name := "Bits", type := 24, offset := 2, embedded := false, tag := "", pkgPath := "", byteOffset := 32 }, { name := "Seed", type := 35, offset := 3, embedded := false, tag := "", pkgPath := "", byteOffset := 40 }, { name := "Domain", type := 24, offset := 35, embedded := false, tag := "", pkgPath := "", byteOffset := 72 }, { name := "At", type := 24, offset := 36, embedded := false, tag := "", pkgPath := "", byteOffset := 80 }], 37, 88, some Kq7⟩ := tyOK_of Try.underlying37 (by kernel_rfl)
theorem ty47 : TyOK Try.prog TT 47 ⟨.slice 3, 1, 24, some (.sl (.int .i64))⟩ := tyOK_of Try.underlying47 (by kernel_rfl)
theorem ty52 : TyOK Try.prog TT 52 ⟨.array 2 5, 2, 2, some (.arr 2 (.int .u8))⟩ := tyOK_of Try.underlying52 (by kernel_rfl)
theorem ty53 : TyOK Try.prog TT 53 ⟨.slice 74, 1, 24, some (.sl (.int .u32))⟩ := tyOK_of Try.underlying53 (by kernel_rfl)
theorem ty54 : TyOK Try.prog TT 54 ⟨.slice 74, 1, 24, some (.sl (.int .u32))⟩ := tyOK_of Try.underlying54 (by kernel_rfl)
theorem ty58 : TyOK Try.prog TT 58 ⟨.struct #[{ name := "Tree", type := 22, offset := 0, embedded := false, tag := "", pkgPath := "", byteOffset := 0 }], 1, 24, some (.pair (.sl (.int .u64)) .unit)⟩ := tyOK_of Try.underlying58 (by kernel_rfl)
theorem ty74 : TyOK Try.prog TT 74 ⟨.int .u32, 1, 4, some (.int .u32)⟩ := tyOK_of Try.underlying74 (by kernel_rfl)
theorem ty87 : TyOK Try.prog TT 87 ⟨.map 95 54, 1, 8, some .mp⟩ := tyOK_of Try.underlying87 (by kernel_rfl)
theorem ty88 : TyOK Try.prog TT 88 ⟨.slice 54, 1, 24, some (.sl (.sl (.int .u32)))⟩ := tyOK_of Try.underlying88 (by kernel_rfl)
theorem ty90 : TyOK Try.prog TT 90 ⟨.struct #[{ name := "attempts", type := 3, offset := 0, embedded := false, tag := "", pkgPath := "drawlot/comm", byteOffset := 0 }, { name := "stakes", type := 88, offset := 1, embedded := false, tag := "", pkgPath := "drawlot/comm", byteOffset := 8 }, { name := "needs", type := 47, offset := 2, embedded := false, tag := "", pkgPath := "drawlot/comm", byteOffset := 32 }, { name := "lost", type := 88, offset := 3, embedded := false, tag := "", pkgPath := "drawlot/comm", byteOffset := 56 }, { name := "known", type := 87, offset := 4, embedded := false, tag := "", pkgPath := "drawlot/comm", byteOffset := 80 }, { name := "broken", type := 29, offset := 5, embedded := false, tag := "", pkgPath := "drawlot/comm", byteOffset := 88 }], 6, 96, some Kq18⟩ := tyOK_of Try.underlying90 (by kernel_rfl)
theorem ty95 : TyOK Try.prog TT 95 ⟨.struct #[{ name := "member", type := 3, offset := 0, embedded := false, tag := "", pkgPath := "drawlot/comm", byteOffset := 0 }, { name := "left", type := 3, offset := 1, embedded := false, tag := "", pkgPath := "drawlot/comm", byteOffset := 8 }], 2, 16, some Kq1⟩ := tyOK_of Try.underlying95 (by kernel_rfl)
theorem ty140 : TyOK Try.prog TT 140 ⟨.struct #[{ name := "Source", type := 37, offset := 0, embedded := true, tag := "", pkgPath := "", byteOffset := 0 }, { name := "block", type := 35, offset := 37, embedded := false, tag := "", pkgPath := "drawlot/tape", byteOffset := 88 }, { name := "at", type := 24, offset := 69, embedded := false, tag := "", pkgPath := "drawlot/tape", byteOffset := 120 }, { name := "some", type := 4, offset := 70, embedded := false, tag := "", pkgPath := "drawlot/tape", byteOffset := 128 }], 71, 136, some Kq13⟩ := tyOK_of Try.underlying140 (by kernel_rfl)
theorem ty141 : TyOK Try.prog TT 141 ⟨.int .u64, 1, 8, some (.int .u64)⟩ := tyOK_of Try.underlying141 (by kernel_rfl)
theorem ty162 : TyOK Try.prog TT 162 ⟨.array 8 5, 8, 8, some (.arr 8 (.int .u8))⟩ := tyOK_of Try.underlying162 (by kernel_rfl)
theorem ty165 : TyOK Try.prog TT 165 ⟨.slice 33, 1, 24, some (.sl (.sl (.int .u8)))⟩ := tyOK_of Try.underlying165 (by kernel_rfl)
theorem ty167 : TyOK Try.prog TT 167 ⟨.array 8 74, 8, 32, some (.arr 8 (.int .u32))⟩ := tyOK_of Try.underlying167 (by kernel_rfl)
theorem ty169 : TyOK Try.prog TT 169 ⟨.struct #[{ name := "State", type := 167, offset := 0, embedded := false, tag := "", pkgPath := "", byteOffset := 0 }, { name := "Rest", type := 33, offset := 8, embedded := false, tag := "", pkgPath := "", byteOffset := 32 }, { name := "Bytes", type := 24, offset := 9, embedded := false, tag := "", pkgPath := "", byteOffset := 56 }], 10, 64, some Kq9⟩ := tyOK_of Try.underlying169 (by kernel_rfl)
theorem ty177 : TyOK Try.prog TT 177 ⟨.struct #[{ name := "Writer", type := 169, offset := 0, embedded := true, tag := "", pkgPath := "", byteOffset := 0 }], 10, 64, some Kq10⟩ := tyOK_of Try.underlying177 (by kernel_rfl)
theorem ty186 : TyOK Try.prog TT 186 ⟨.slice 189, 1, 24, some (.sl (.arr 64 (.int .u8)))⟩ := tyOK_of Try.underlying186 (by kernel_rfl)
theorem ty189 : TyOK Try.prog TT 189 ⟨.array 64 5, 64, 64, some (.arr 64 (.int .u8))⟩ := tyOK_of Try.underlying189 (by kernel_rfl)
theorem ty191 : TyOK Try.prog TT 191 ⟨.array 4 5, 4, 4, some (.arr 4 (.int .u8))⟩ := tyOK_of Try.underlying191 (by kernel_rfl)
theorem ty193 : TyOK Try.prog TT 193 ⟨.array 64 74, 64, 256, some (.arr 64 (.int .u32))⟩ := tyOK_of Try.underlying193 (by kernel_rfl)
theorem ty195 : TyOK Try.prog TT 195 ⟨.array 64 74, 64, 256, some (.arr 64 (.int .u32))⟩ := tyOK_of Try.underlying195 (by kernel_rfl)
theorem tabOK : TabOK Try.prog TT := tabOK_of (allM_cons ty2 (allM_cons ty3 (allM_cons ty4 (allM_cons ty5 (allM_cons ty22 (allM_cons ty24 (allM_cons ty29 (allM_cons ty33 (allM_cons ty35 (allM_cons ty37 (allM_cons ty47 (allM_cons ty52 (allM_cons ty53 (allM_cons ty54 (allM_cons ty58 (allM_cons ty74 (allM_cons ty87 (allM_cons ty88 (allM_cons ty90 (allM_cons ty95 (allM_cons ty140 (allM_cons ty141 (allM_cons ty162 (allM_cons ty165 (allM_cons ty167 (allM_cons ty169 (allM_cons ty177 (allM_cons ty186 (allM_cons ty189 (allM_cons ty191 (allM_cons ty193 (allM_cons ty195 allM_nil))))))))))))))))))))))))))))))))
theorem eqOK : ∀ t ∈ EQT, ∀ k, tkd TT t = some k → EqOK Try.prog t k := (allM_cons (fun k h => by
    have h' : some (Kq1 : Kd) = some k := h
    cases h'
    exact eqOK_of tabOK (k := Kq1) rfl (by kernel_rfl) (by kernel_rfl) (by decide)) allM_nil)
theorem mixed : Try.prog.follows .mixedOrders = true := by kernel_rfl
abbrev FT12 : Type 1 := (R : Type) → (List Int) → Int → (Tq7 → Int → Option R) → Option R
def en12 (F : FT12) : Ent := ⟨12, [(false, (.sl (.int .u8))), (false, (.int .u64))], [(false, Kq7), (false, (.int .i64))], fun R x k => F R x.1 x.2.1 (fun y1 y2 => k (y1, y2, ()) ())⟩
def res12 : List (ResultVar × TypeId × Bool) := [(.cell 4 37, 37, false), (.tmp 5, 29, false)]
noncomputable def e12 (R : Type) : Env R := ⟨TT, EQT, 0, 18, ownOf [(3, 0)], callOf [] R, loopOf [] R, [], inlOf []⟩
def p12 : FT12 := fun R a0 a1 k =>
let v1 := (List.length a0 : Int);
let v2 := (IntKind.u64.wrap v1);
let v3 := (IntKind.u64.wrap ((8 : Int) * v2));
let v4 := (decide (a1 > v3));
(match v4 with
| true => k ((0 : Int), ([] : (List Int)), (0 : Int), (List.replicate 32 (0 : Int)), (0 : Int), (0 : Int), ()) (1 : Int)
| false => let v5 : (List Int) := ([] : (List Int));
(match (decide (List.length v5 + List.length a0 ≤ 140737488355328)) with
| true => let v6 : (List Int) := (v5 ++ a0);
k ((1 : Int), v6, a1, (List.replicate 32 (0 : Int)), (0 : Int), (0 : Int), ()) (0 : Int)
| false => none))
theorem q12 (F : FT12) (R : Type) (x : AT (en12 F).ins) (k : RT (en12 F).outs → PT (en12 F).ins → Option R) :
  xfun (e12 R) (codeOf Try.f12) res12 (avs (en12 F).ins x) (finK (en12 F).outs (en12 F).ins k) = p12 R x.1 x.2.1 (fun y1 y2 => k (y1, y2, ()) ()) := by kernel_rfl
noncomputable def F12 : FT12 := p12
theorem env12 (R : Type) : EnvOK Try.prog (e12 R) := ⟨tabOK, eqOK, callOf_ok allE_nil, noIns, inlOK_nil⟩
theorem ok12 : (en12 F12).OK Try.prog :=
  ent_ok (Ef := fun R => e12 R) (fun R => env12 R) mixed Try.func12 (body := codeOf Try.f12) (by kernel_rfl) (by kernel_rfl) (np := 0) (nt := 18) (fun _ => rfl) (fun _ => rfl) (by kernel_rfl) (res := res12) (by kernel_rfl) (fun _ => rfl) (fun _ => Nat.le_of_ble_eq_true rfl) (by
    intro R
    rw [show loopsOf (codeOf Try.f12) = [] from by kernel_rfl]
    exact allM_nil) (fun R x k => q12 F12 R x k)
abbrev FT43 : Type 1 := (R : Type) → Int → (Int → Option R) → Option R
def en43 (F : FT43) : Ent := ⟨43, [(false, (.int .i64))], [(false, (.int .i64))], fun R x k => F R x.1 (fun y1 => k (y1, ()) ())⟩
def res43 : List (ResultVar × TypeId × Bool) := [(.tmp 2, 3, false)]
abbrev LT43_2 : Type 1 := (R : Type) → Int → Int → (Int → Option R) → Option R
def le43_2 (L : LT43_2) : LEnt := ⟨2, [.val 0 (.int .i64), .val 3 (.int .i64)], 0, [(.exit 0, [.val 3 (.int .i64)])], fun R x ke => L R x.1 x.2.1 (fun y1 => ke.1 (y1, ()))⟩
noncomputable def e43 (L2 : LT43_2) (R : Type) : Env R := ⟨TT, EQT, 0, 12, ownOf [], callOf [] R, loopOf [le43_2 L2] R, [], inlOf []⟩
def p43_2 : (R : Type) → Int → Int → (Int → Int → Option R) → (Int → Option R) → Option R := fun R x1 x2 kc k0 =>
let v3 := (Int.tmod x1 (2 : Int));
let v4 := (v3 == (0 : Int));
(match v4 with
| true => let v5 := (IntKind.i64.wrap (Int.tdiv x1 (2 : Int)));
let v6 := (IntKind.i64.wrap ((2 : Int) * x2));
kc v5 v6
| false => k0 x2)
theorem q43_2 (L2 : LT43_2) (R : Type) (x : HT (le43_2 L2).H) (kc : HT (le43_2 L2).H → Option R) (ke : KT R (le43_2 L2).exs) :
  exec (e43 L2 R) (lcode 2 (codeOf Try.f43)) (stOf (le43_2 L2).H x 0) (roundK (le43_2 L2).H (le43_2 L2).exs kc ke) =
    p43_2 R x.1 x.2.1 (fun x1 x2 => kc (x1, x2, ())) (fun y1 => ke.1 (y1, ())) := by kernel_rfl
noncomputable def G43_2 : Nat → LT43_2
  | 0 => fun _ _ _ _ => none
  | n + 1 => fun R x1 x2 k0 => p43_2 R x1 x2 (fun x1 x2 => G43_2 n R x1 x2 k0) k0
def p43 (L2 : LT43_2) : FT43 := fun R a0 k =>
L2 R a0 (1 : Int) (fun x1 =>
k x1)
theorem q43 (L2 : LT43_2) (F : FT43) (R : Type) (x : AT (en43 F).ins) (k : RT (en43 F).outs → PT (en43 F).ins → Option R) :
  xfun (e43 L2 R) (codeOf Try.f43) res43 (avs (en43 F).ins x) (finK (en43 F).outs (en43 F).ins k) = p43 L2 R x.1 (fun y1 => k (y1, ()) ()) := by kernel_rfl
noncomputable def F43 : FT43 := p43 (G43_2 FUEL)
theorem env43 (R : Type) : EnvOK Try.prog (e43 (G43_2 FUEL) R) := ⟨tabOK, eqOK, callOf_ok allE_nil, noIns, inlOK_nil⟩
noncomputable def T43_2 : (R : Type) → HT (le43_2 (G43_2 FUEL)).H → (HT (le43_2 (G43_2 FUEL)).H → Option R) → KT R (le43_2 (G43_2 FUEL)).exs → Option R := fun R x kc ke => p43_2 R x.1 x.2.1 (fun x1 x2 => kc (x1, x2, ())) (fun y1 => ke.1 (y1, ()))
theorem it43_2 : ∀ (n : Nat) (R : Type) (x : HT (le43_2 (G43_2 FUEL)).H) (ke : KT R (le43_2 (G43_2 FUEL)).exs), iter T43_2 n R x ke = G43_2 n R x.1 x.2.1 (fun y1 => ke.1 (y1, ())) := by
  intro n
  induction n with
  | zero => intro R x ke; rfl
  | succ n ih =>
    intro R x ke
    show T43_2 R x (fun x' => iter T43_2 n R x' ke) ke = _
    rw [show (fun x' => iter T43_2 n R x' ke) = fun x => G43_2 n R x.1 x.2.1 (fun y1 => ke.1 (y1, ())) from funext fun x' => ih R x' ke]
    rfl
theorem lok43_2 : (le43_2 (G43_2 FUEL)).OK Try.prog 0 12 (lcode 2 (codeOf Try.f43)) := fun R x ke r h =>
  iter_sound (fun R => e43 (G43_2 FUEL) R) 0 12 (fun _ => rfl) (fun _ => rfl) (fun R => env43 R) mixed (by
    intro R
    rw [show loopsOf (lcode 2 (codeOf Try.f43)) = [] from by kernel_rfl]
    exact allM_nil) (T := T43_2) (fun R x kc ke => q43_2 (G43_2 FUEL) R x kc ke) FUEL R x ke r ((it43_2 FUEL R x ke).trans h)
theorem ok43 : (en43 F43).OK Try.prog :=
  ent_ok (Ef := fun R => e43 (G43_2 FUEL) R) (fun R => env43 R) mixed Try.func43 (body := codeOf Try.f43) (by kernel_rfl) (by kernel_rfl) (np := 0) (nt := 12) (fun _ => rfl) (fun _ => rfl) (by kernel_rfl) (res := res43) (by kernel_rfl) (fun _ => rfl) (fun _ => Nat.le_of_ble_eq_true rfl) (by
    intro R
    rw [show loopsOf (codeOf Try.f43) = [lcode 2 (codeOf Try.f43)] from by kernel_rfl]
    exact (allM_cons (loop_ok2 (e := le43_2 (G43_2 FUEL)) rfl rfl lok43_2) allM_nil)) (fun R x k => q43 (G43_2 FUEL) F43 R x k)
abbrev FT42 : Type 1 := (R : Type) → (List Int) → Int → Int → (Int → Option R) → Option R
def en42 (F : FT42) : Ent := ⟨42, [(false, (.sl (.int .u64))), (false, (.int .i64)), (false, (.int .i64))], [(false, (.int .u64))], fun R x k => F R x.1 x.2.1 x.2.2.1 (fun y1 => k (y1, ()) ())⟩
def res42 : List (ResultVar × TypeId × Bool) := [(.tmp 6, 24, false)]
abbrev LT42_3 : Type 1 := (R : Type) → (List Int) → Int → Int → Int → (Int → Option R) → Option R
def le42_3 (L : LT42_3) : LEnt := ⟨3, [.val 0 (.sl (.int .u64)), .val 2 (.int .i64), .val 7 (.int .u64), .val 8 (.int .i64)], 0, [(.exit 0, [.val 7 (.int .u64)])], fun R x ke => L R x.1 x.2.1 x.2.2.1 x.2.2.2.1 (fun y1 => ke.1 (y1, ()))⟩
noncomputable def e42 (L3 : LT42_3) (R : Type) : Env R := ⟨TT, EQT, 0, 22, ownOf [], callOf [] R, loopOf [le42_3 L3] R, [], inlOf []⟩
def p42_3 : (R : Type) → (List Int) → Int → Int → Int → ((List Int) → Int → Int → Int → Option R) → (Int → Option R) → Option R := fun R x1 x2 x3 x4 kc k0 =>
let v5 := (decide (x4 < x2));
(match v5 with
| true => (match (bnd x4 (List.length x1 : Int)) with
| true => let v6 := (List.getD x1 (Int.toNat x4) (0 : Int));
let v7 := (IntKind.u64.wrap (x3 + v6));
let v8 := (IntKind.i64.wrap (x4 + (1 : Int)));
kc x1 x2 v7 v8
| false => none)
| false => k0 x3)
theorem q42_3 (L3 : LT42_3) (R : Type) (x : HT (le42_3 L3).H) (kc : HT (le42_3 L3).H → Option R) (ke : KT R (le42_3 L3).exs) :
  exec (e42 L3 R) (lcode 3 (codeOf Try.f42)) (stOf (le42_3 L3).H x 0) (roundK (le42_3 L3).H (le42_3 L3).exs kc ke) =
    p42_3 R x.1 x.2.1 x.2.2.1 x.2.2.2.1 (fun x1 x2 x3 x4 => kc (x1, x2, x3, x4, ())) (fun y1 => ke.1 (y1, ())) := by kernel_rfl
noncomputable def G42_3 : Nat → LT42_3
  | 0 => fun _ _ _ _ _ _ => none
  | n + 1 => fun R x1 x2 x3 x4 k0 => p42_3 R x1 x2 x3 x4 (fun x1 x2 x3 x4 => G42_3 n R x1 x2 x3 x4 k0) k0
def p42 (L3 : LT42_3) : FT42 := fun R a0 a1 a2 k =>
L3 R a0 a2 (0 : Int) a1 (fun x1 =>
k x1)
theorem q42 (L3 : LT42_3) (F : FT42) (R : Type) (x : AT (en42 F).ins) (k : RT (en42 F).outs → PT (en42 F).ins → Option R) :
  xfun (e42 L3 R) (codeOf Try.f42) res42 (avs (en42 F).ins x) (finK (en42 F).outs (en42 F).ins k) = p42 L3 R x.1 x.2.1 x.2.2.1 (fun y1 => k (y1, ()) ()) := by kernel_rfl
noncomputable def F42 : FT42 := p42 (G42_3 FUEL)
theorem env42 (R : Type) : EnvOK Try.prog (e42 (G42_3 FUEL) R) := ⟨tabOK, eqOK, callOf_ok allE_nil, noIns, inlOK_nil⟩
noncomputable def T42_3 : (R : Type) → HT (le42_3 (G42_3 FUEL)).H → (HT (le42_3 (G42_3 FUEL)).H → Option R) → KT R (le42_3 (G42_3 FUEL)).exs → Option R := fun R x kc ke => p42_3 R x.1 x.2.1 x.2.2.1 x.2.2.2.1 (fun x1 x2 x3 x4 => kc (x1, x2, x3, x4, ())) (fun y1 => ke.1 (y1, ()))
theorem it42_3 : ∀ (n : Nat) (R : Type) (x : HT (le42_3 (G42_3 FUEL)).H) (ke : KT R (le42_3 (G42_3 FUEL)).exs), iter T42_3 n R x ke = G42_3 n R x.1 x.2.1 x.2.2.1 x.2.2.2.1 (fun y1 => ke.1 (y1, ())) := by
  intro n
  induction n with
  | zero => intro R x ke; rfl
  | succ n ih =>
    intro R x ke
    show T42_3 R x (fun x' => iter T42_3 n R x' ke) ke = _
    rw [show (fun x' => iter T42_3 n R x' ke) = fun x => G42_3 n R x.1 x.2.1 x.2.2.1 x.2.2.2.1 (fun y1 => ke.1 (y1, ())) from funext fun x' => ih R x' ke]
    rfl
theorem lok42_3 : (le42_3 (G42_3 FUEL)).OK Try.prog 0 22 (lcode 3 (codeOf Try.f42)) := fun R x ke r h =>
  iter_sound (fun R => e42 (G42_3 FUEL) R) 0 22 (fun _ => rfl) (fun _ => rfl) (fun R => env42 R) mixed (by
    intro R
    rw [show loopsOf (lcode 3 (codeOf Try.f42)) = [] from by kernel_rfl]
    exact allM_nil) (T := T42_3) (fun R x kc ke => q42_3 (G42_3 FUEL) R x kc ke) FUEL R x ke r ((it42_3 FUEL R x ke).trans h)
theorem ok42 : (en42 F42).OK Try.prog :=
  ent_ok (Ef := fun R => e42 (G42_3 FUEL) R) (fun R => env42 R) mixed Try.func42 (body := codeOf Try.f42) (by kernel_rfl) (by kernel_rfl) (np := 0) (nt := 22) (fun _ => rfl) (fun _ => rfl) (by kernel_rfl) (res := res42) (by kernel_rfl) (fun _ => rfl) (fun _ => Nat.le_of_ble_eq_true rfl) (by
    intro R
    rw [show loopsOf (codeOf Try.f42) = [lcode 3 (codeOf Try.f42)] from by kernel_rfl]
    exact (allM_cons (loop_ok2 (e := le42_3 (G42_3 FUEL)) rfl rfl lok42_3) allM_nil)) (fun R x k => q42 (G42_3 FUEL) F42 R x k)
abbrev FT21 : Type 1 := (R : Type) → (List Int) → (((List Int) × Unit) → Option R) → Option R
def en21 (F : FT21) : Ent := ⟨21, [(false, (.sl (.int .u64)))], [(false, (.pair (.sl (.int .u64)) .unit))], fun R x k => F R x.1 (fun y1 => k (y1, ()) ())⟩
def res21 : List (ResultVar × TypeId × Bool) := [(.cell 2 58, 58, false)]
abbrev LT21_3 : Type 1 := (R : Type) → (List Int) → Int → ((List Int) × Unit) → (List Int) → Unit → (((List Int) × Unit) → (List Int) → Unit → Option R) → Option R
def le21_3 (L : LT21_3) : LEnt := ⟨3, [.val 0 (.sl (.int .u64)), .fix 2 (.ptr 0 [] (.pair (.sl (.int .u64)) .unit)), .fix 3 (.mptr 2 0 (.pair (.sl (.int .u64)) .unit)), .val 4 (.int .i64), .var 0 (.pair (.sl (.int .u64)) .unit) false, .row 1 (.int .u64) false, .mix 2 [((.sl (.int .u64)), some 1)]], 3, [(.exit 0, [.fix 2 (.ptr 0 [] (.pair (.sl (.int .u64)) .unit)), .fix 3 (.mptr 2 0 (.pair (.sl (.int .u64)) .unit)), .var 0 (.pair (.sl (.int .u64)) .unit) false, .row 1 (.int .u64) false, .mix 2 [((.sl (.int .u64)), some 1)]])], fun R x ke => L R x.1 x.2.1 x.2.2.1 x.2.2.2.1 x.2.2.2.2.1 (fun y1 y2 y3 => ke.1 (y1, y2, y3, ()))⟩
noncomputable def e21 (F42 : FT42) (F43 : FT43) (L3 : LT21_3) (R : Type) : Env R := ⟨TT, EQT, 0, 27, ownOf [(1, 0)], callOf [en42 F42, en43 F43] R, loopOf [le21_3 L3] R, [], inlOf []⟩
def p21_3 (F42 : FT42) (F43 : FT43) : (R : Type) → (List Int) → Int → ((List Int) × Unit) → (List Int) → Unit → ((List Int) → Int → ((List Int) × Unit) → (List Int) → Unit → Option R) → (((List Int) × Unit) → (List Int) → Unit → Option R) → Option R := fun R x1 x2 x3 x4 x5 kc k0 =>
let v6 := (List.length x1 : Int);
let v7 := (decide (x2 < v6));
(match v7 with
| true => let v8 := (IntKind.i64.wrap (x2 + (1 : Int)));
let v9 := (IntKind.i64.wrap (x2 + (1 : Int)));
F43 R v9 fun y10 =>
let v11 := (IntKind.i64.wrap (v8 - y10));
let v12 := (IntKind.i64.wrap (x2 + (1 : Int)));
F42 R x1 v11 v12 fun y13 =>
let v14 : (List Int) := ([y13] : (List Int));
(match (decide (List.length x4 + List.length v14 ≤ 17592186044416)) with
| true => let v15 : (List Int) := (x4 ++ v14);
let v16 := (IntKind.i64.wrap (x2 + (1 : Int)));
kc x1 v16 x3 v15 ()
| false => none)
| false => k0 x3 x4 ())
theorem q21_3 (F42 : FT42) (F43 : FT43) (L3 : LT21_3) (R : Type) (x : HT (le21_3 L3).H) (kc : HT (le21_3 L3).H → Option R) (ke : KT R (le21_3 L3).exs) :
  exec (e21 F42 F43 L3 R) (lcode 3 (codeOf Try.f21)) (stOf (le21_3 L3).H x 3) (roundK (le21_3 L3).H (le21_3 L3).exs kc ke) =
    p21_3 F42 F43 R x.1 x.2.1 x.2.2.1 x.2.2.2.1 x.2.2.2.2.1 (fun x1 x2 x3 x4 x5 => kc (x1, x2, x3, x4, x5, ())) (fun y1 y2 y3 => ke.1 (y1, y2, y3, ())) := by kernel_rfl
noncomputable def G21_3 : Nat → LT21_3
  | 0 => fun _ _ _ _ _ _ _ => none
  | n + 1 => fun R x1 x2 x3 x4 x5 k0 => p21_3 F42 F43 R x1 x2 x3 x4 x5 (fun x1 x2 x3 x4 x5 => G21_3 n R x1 x2 x3 x4 x5 k0) k0
def p21 (L3 : LT21_3) : FT21 := fun R a0 k =>
L3 R a0 (0 : Int) (([] : (List Int)), ()) ([] : (List Int)) () (fun x1 x2 x3 =>
k (x2, ()))
theorem q21 (F42 : FT42) (F43 : FT43) (L3 : LT21_3) (F : FT21) (R : Type) (x : AT (en21 F).ins) (k : RT (en21 F).outs → PT (en21 F).ins → Option R) :
  xfun (e21 F42 F43 L3 R) (codeOf Try.f21) res21 (avs (en21 F).ins x) (finK (en21 F).outs (en21 F).ins k) = p21 L3 R x.1 (fun y1 => k (y1, ()) ()) := by kernel_rfl
noncomputable def F21 : FT21 := p21 (G21_3 FUEL)
theorem env21 (R : Type) : EnvOK Try.prog (e21 F42 F43 (G21_3 FUEL) R) := ⟨tabOK, eqOK, callOf_ok (allE_cons ok42 (allE_cons ok43 allE_nil)), noIns, inlOK_nil⟩
noncomputable def T21_3 : (R : Type) → HT (le21_3 (G21_3 FUEL)).H → (HT (le21_3 (G21_3 FUEL)).H → Option R) → KT R (le21_3 (G21_3 FUEL)).exs → Option R := fun R x kc ke => p21_3 F42 F43 R x.1 x.2.1 x.2.2.1 x.2.2.2.1 x.2.2.2.2.1 (fun x1 x2 x3 x4 x5 => kc (x1, x2, x3, x4, x5, ())) (fun y1 y2 y3 => ke.1 (y1, y2, y3, ()))
theorem it21_3 : ∀ (n : Nat) (R : Type) (x : HT (le21_3 (G21_3 FUEL)).H) (ke : KT R (le21_3 (G21_3 FUEL)).exs), iter T21_3 n R x ke = G21_3 n R x.1 x.2.1 x.2.2.1 x.2.2.2.1 x.2.2.2.2.1 (fun y1 y2 y3 => ke.1 (y1, y2, y3, ())) := by
  intro n
  induction n with
  | zero => intro R x ke; rfl
  | succ n ih =>
    intro R x ke
    show T21_3 R x (fun x' => iter T21_3 n R x' ke) ke = _
    rw [show (fun x' => iter T21_3 n R x' ke) = fun x => G21_3 n R x.1 x.2.1 x.2.2.1 x.2.2.2.1 x.2.2.2.2.1 (fun y1 y2 y3 => ke.1 (y1, y2, y3, ())) from funext fun x' => ih R x' ke]
    rfl
theorem lok21_3 : (le21_3 (G21_3 FUEL)).OK Try.prog 0 27 (lcode 3 (codeOf Try.f21)) := fun R x ke r h =>
  iter_sound (fun R => e21 F42 F43 (G21_3 FUEL) R) 0 27 (fun _ => rfl) (fun _ => rfl) (fun R => env21 R) mixed (by
    intro R
    rw [show loopsOf (lcode 3 (codeOf Try.f21)) = [] from by kernel_rfl]
    exact allM_nil) (T := T21_3) (fun R x kc ke => q21_3 F42 F43 (G21_3 FUEL) R x kc ke) FUEL R x ke r ((it21_3 FUEL R x ke).trans h)
theorem ok21 : (en21 F21).OK Try.prog :=
  ent_ok (Ef := fun R => e21 F42 F43 (G21_3 FUEL) R) (fun R => env21 R) mixed Try.func21 (body := codeOf Try.f21) (by kernel_rfl) (by kernel_rfl) (np := 0) (nt := 27) (fun _ => rfl) (fun _ => rfl) (by kernel_rfl) (res := res21) (by kernel_rfl) (fun _ => rfl) (fun _ => Nat.le_of_ble_eq_true rfl) (by
    intro R
    rw [show loopsOf (codeOf Try.f21) = [lcode 3 (codeOf Try.f21)] from by kernel_rfl]
    exact (allM_cons (loop_ok2 (e := le21_3 (G21_3 FUEL)) rfl rfl lok21_3) allM_nil)) (fun R x k => q21 F42 F43 (G21_3 FUEL) F21 R x k)
abbrev FT95 : Type 1 := (R : Type) → Tq7 → (Int → Bool → Option R) → Option R
def en95 (F : FT95) : Ent := ⟨95, [(false, Kq7)], [(false, (.int .u64)), (false, .bool)], fun R x k => F R x.1 (fun y1 y2 => k (y1, y2, ()) ())⟩
def res95 : List (ResultVar × TypeId × Bool) := [(.tmp 2, 24, false), (.tmp 3, 4, false)]
noncomputable def e95 (R : Type) : Env R := ⟨TT, EQT, 0, 20, ownOf [], callOf [] R, loopOf [] R, [], inlOf []⟩
def p95 : FT95 := fun R a0 k =>
let v1 := (a0.1 == (1 : Int));
(match v1 with
| true => let v2 := (List.length a0.2.1 : Int);
let v3 := (IntKind.u64.wrap v2);
let v4 := (IntKind.u64.wrap (v3 * (8 : Int)));
let v5 := (decide (a0.2.2.1 ≤ v4));
k a0.2.2.1 v5
| false => let v6 := (a0.1 == (2 : Int));
(match v6 with
| true => k (4611686018427387904 : Int) true
| false => k (0 : Int) false))
theorem q95 (F : FT95) (R : Type) (x : AT (en95 F).ins) (k : RT (en95 F).outs → PT (en95 F).ins → Option R) :
  xfun (e95 R) (codeOf Try.f95) res95 (avs (en95 F).ins x) (finK (en95 F).outs (en95 F).ins k) = p95 R x.1 (fun y1 y2 => k (y1, y2, ()) ()) := by kernel_rfl
noncomputable def F95 : FT95 := p95
theorem env95 (R : Type) : EnvOK Try.prog (e95 R) := ⟨tabOK, eqOK, callOf_ok allE_nil, noIns, inlOK_nil⟩
theorem ok95 : (en95 F95).OK Try.prog :=
  ent_ok (Ef := fun R => e95 R) (fun R => env95 R) mixed Try.func95 (body := codeOf Try.f95) (by kernel_rfl) (by kernel_rfl) (np := 0) (nt := 20) (fun _ => rfl) (fun _ => rfl) (by kernel_rfl) (res := res95) (by kernel_rfl) (fun _ => rfl) (fun _ => Nat.le_of_ble_eq_true rfl) (by
    intro R
    rw [show loopsOf (codeOf Try.f95) = [] from by kernel_rfl]
    exact allM_nil) (fun R x k => q95 F95 R x k)
abbrev FT75 : Type 1 := (R : Type) → Tq7 → (Bool → Option R) → Option R
def en75 (F : FT75) : Ent := ⟨75, [(false, Kq7)], [(false, .bool)], fun R x k => F R x.1 (fun y1 => k (y1, ()) ())⟩
def res75 : List (ResultVar × TypeId × Bool) := [(.tmp 2, 4, false)]
noncomputable def e75 (F95 : FT95) (R : Type) : Env R := ⟨TT, EQT, 0, 17, ownOf [], callOf [en95 F95] R, loopOf [] R, [], inlOf []⟩
def p75 (F95 : FT95) : FT75 := fun R a0 k =>
F95 R a0 fun y1 y2 =>
(match y2 with
| true => let v3 := (decide (a0.2.2.2.2.2.1 ≤ y1));
k v3
| false => k false)
theorem q75 (F95 : FT95) (F : FT75) (R : Type) (x : AT (en75 F).ins) (k : RT (en75 F).outs → PT (en75 F).ins → Option R) :
  xfun (e75 F95 R) (codeOf Try.f75) res75 (avs (en75 F).ins x) (finK (en75 F).outs (en75 F).ins k) = p75 F95 R x.1 (fun y1 => k (y1, ()) ()) := by kernel_rfl
noncomputable def F75 : FT75 := p75 F95
theorem env75 (R : Type) : EnvOK Try.prog (e75 F95 R) := ⟨tabOK, eqOK, callOf_ok (allE_cons ok95 allE_nil), noIns, inlOK_nil⟩
theorem ok75 : (en75 F75).OK Try.prog :=
  ent_ok (Ef := fun R => e75 F95 R) (fun R => env75 R) mixed Try.func75 (body := codeOf Try.f75) (by kernel_rfl) (by kernel_rfl) (np := 0) (nt := 17) (fun _ => rfl) (fun _ => rfl) (by kernel_rfl) (res := res75) (by kernel_rfl) (fun _ => rfl) (fun _ => Nat.le_of_ble_eq_true rfl) (by
    intro R
    rw [show loopsOf (codeOf Try.f75) = [] from by kernel_rfl]
    exact allM_nil) (fun R x k => q75 F95 F75 R x k)
abbrev FT44 : Type 1 := (R : Type) → Int → Tq7 → Int → (Bool → Option R) → Option R
def en44 (F : FT44) : Ent := ⟨44, [(false, (.int .i64)), (false, Kq7), (false, (.int .i64))], [(false, .bool)], fun R x k => F R x.1 x.2.1 x.2.2.1 (fun y1 => k (y1, ()) ())⟩
def res44 : List (ResultVar × TypeId × Bool) := [(.tmp 6, 4, false)]
noncomputable def e44 (F75 : FT75) (R : Type) : Env R := ⟨TT, EQT, 0, 25, ownOf [], callOf [en75 F75] R, loopOf [] R, [], inlOf []⟩
def p44 (F75 : FT75) : FT44 := fun R a0 a1 a2 k =>
let v1 := (decide (a0 ≥ (0 : Int)));
(match v1 with
| true => let v2 := (decide (a0 ≤ (256 : Int)));
(match v2 with
| true => F75 R a1 fun y3 =>
(match y3 with
| true => let v4 := (decide (a2 > (0 : Int)));
(match v4 with
| true => let v5 := (decide (a2 ≤ (64 : Int)));
k v5
| false => k false)
| false => k false)
| false => k false)
| false => k false)
theorem q44 (F75 : FT75) (F : FT44) (R : Type) (x : AT (en44 F).ins) (k : RT (en44 F).outs → PT (en44 F).ins → Option R) :
  xfun (e44 F75 R) (codeOf Try.f44) res44 (avs (en44 F).ins x) (finK (en44 F).outs (en44 F).ins k) = p44 F75 R x.1 x.2.1 x.2.2.1 (fun y1 => k (y1, ()) ()) := by kernel_rfl
noncomputable def F44 : FT44 := p44 F75
theorem env44 (R : Type) : EnvOK Try.prog (e44 F75 R) := ⟨tabOK, eqOK, callOf_ok (allE_cons ok75 allE_nil), noIns, inlOK_nil⟩
theorem ok44 : (en44 F44).OK Try.prog :=
  ent_ok (Ef := fun R => e44 F75 R) (fun R => env44 R) mixed Try.func44 (body := codeOf Try.f44) (by kernel_rfl) (by kernel_rfl) (np := 0) (nt := 25) (fun _ => rfl) (fun _ => rfl) (by kernel_rfl) (res := res44) (by kernel_rfl) (fun _ => rfl) (fun _ => Nat.le_of_ble_eq_true rfl) (by
    intro R
    rw [show loopsOf (codeOf Try.f44) = [] from by kernel_rfl]
    exact allM_nil) (fun R x k => q44 F75 F44 R x k)
abbrev FT66 : Type 1 := (R : Type) → (List Int) → ((List Int) → Option R) → Option R
def en66 (F : FT66) : Ent := ⟨66, [(false, (.sl (.int .u64)))], [(true, (.int .u64))], fun R x k => F R x.1 (fun y1 => k (y1, ()) ())⟩
def e66 : Env (RT [(true, (.int .u64))]) := ⟨TT, EQT, 0, 8, ownOf [(2, 0), (3, 0)], fun _ _ _ => none, fun _ _ _ => none, [], inlOf []⟩
def F66 : FT66 := fun R a0 k => match decide (List.length ([] : (List Int)) + List.length a0 ≤ 17592186044416) with | true => k a0 | false => none
theorem ok66 : (en66 F66).OK Try.prog :=
  clone_ok (e := (.int .u64)) e66 ⟨tabOK, eqOK, (fun f b K r h => by cases h), noIns, inlOK_nil⟩ mixed Try.func66 (body := codeOf Try.f66) (by kernel_rfl) (by kernel_rfl) (by kernel_rfl) (res := [(.tmp 2, 22, true)]) (by kernel_rfl) rfl (by decide) (by kernel_rfl) (lim := 17592186044416) (by kernel_rfl) (fun l => by kernel_rfl)
abbrev FT67 : Type 1 := (R : Type) → Int → (Int → Option R) → Option R
def en67 (F : FT67) : Ent := ⟨67, [(false, (.int .i64))], [(false, (.int .i64))], fun R x k => F R x.1 (fun y1 => k (y1, ()) ())⟩
def res67 : List (ResultVar × TypeId × Bool) := [(.tmp 2, 3, false)]
noncomputable def e67 (R : Type) : Env R := ⟨TT, EQT, 0, 7, ownOf [], callOf [] R, loopOf [] R, [], inlOf []⟩
def p67 : FT67 := fun R a0 k =>
let v1 := (IntKind.i64.wrap (0 - a0));
let v2 := (iand .i64 a0 v1);
k v2
theorem q67 (F : FT67) (R : Type) (x : AT (en67 F).ins) (k : RT (en67 F).outs → PT (en67 F).ins → Option R) :
  xfun (e67 R) (codeOf Try.f67) res67 (avs (en67 F).ins x) (finK (en67 F).outs (en67 F).ins k) = p67 R x.1 (fun y1 => k (y1, ()) ()) := by kernel_rfl
noncomputable def F67 : FT67 := p67
theorem env67 (R : Type) : EnvOK Try.prog (e67 R) := ⟨tabOK, eqOK, callOf_ok allE_nil, noIns, inlOK_nil⟩
theorem ok67 : (en67 F67).OK Try.prog :=
  ent_ok (Ef := fun R => e67 R) (fun R => env67 R) mixed Try.func67 (body := codeOf Try.f67) (by kernel_rfl) (by kernel_rfl) (np := 0) (nt := 7) (fun _ => rfl) (fun _ => rfl) (by kernel_rfl) (res := res67) (by kernel_rfl) (fun _ => rfl) (fun _ => Nat.le_of_ble_eq_true rfl) (by
    intro R
    rw [show loopsOf (codeOf Try.f67) = [] from by kernel_rfl]
    exact allM_nil) (fun R x k => q67 F67 R x k)
abbrev FT46 : Type 1 := (R : Type) → ((List Int) × Unit) → ((List Int) → Option R) → Option R
def en46 (F : FT46) : Ent := ⟨46, [(false, (.pair (.sl (.int .u64)) .unit))], [(false, (.sl (.int .u64)))], fun R x k => F R x.1 (fun y1 => k (y1, ()) ())⟩
def res46 : List (ResultVar × TypeId × Bool) := [(.tmp 2, 22, false)]
abbrev LT46_3 : Type 1 := (R : Type) → Int → (List Int) → ((List Int) → Option R) → Option R
def le46_3 (L : LT46_3) : LEnt := ⟨3, [.fix 3 (.own 1 0), .val 4 (.int .i64), .row 1 (.int .u64) false], 2, [(.exit 0, [.fix 3 (.own 1 0), .row 1 (.int .u64) false])], fun R x ke => L R x.1 x.2.1 (fun y1 => ke.1 (y1, ()))⟩
noncomputable def e46 (F66 : FT66) (F67 : FT67) (L3 : LT46_3) (R : Type) : Env R := ⟨TT, EQT, 0, 36, ownOf [], callOf [en66 F66, en67 F67] R, loopOf [le46_3 L3] R, [], inlOf []⟩
def p46_3 (F67 : FT67) : (R : Type) → Int → (List Int) → (Int → (List Int) → Option R) → ((List Int) → Option R) → Option R := fun R x1 x2 kc k0 =>
let v3 := (decide (x1 > (0 : Int)));
(match v3 with
| true => F67 R x1 fun y4 =>
let v5 := (IntKind.i64.wrap (x1 + y4));
let v6 := (List.length x2 : Int);
let v7 := (decide (v5 ≤ v6));
(match v7 with
| true => let v8 := (IntKind.i64.wrap (v5 - (1 : Int)));
(match (bnd v8 (List.length x2 : Int)) with
| true => let v9 := (List.getD x2 (Int.toNat v8) (0 : Int));
let v10 := (IntKind.i64.wrap (x1 - (1 : Int)));
(match (bnd v10 (List.length x2 : Int)) with
| true => let v11 := (List.getD x2 (Int.toNat v10) (0 : Int));
let v12 := (IntKind.u64.wrap (v9 - v11));
(match (bnd v8 (List.length x2 : Int)) with
| true => let v13 : (List Int) := (List.set x2 (Int.toNat v8) v12);
let v14 := (IntKind.i64.wrap (x1 - (1 : Int)));
kc v14 v13
| false => none)
| false => none)
| false => none)
| false => let v15 := (IntKind.i64.wrap (x1 - (1 : Int)));
kc v15 x2)
| false => k0 x2)
theorem q46_3 (F66 : FT66) (F67 : FT67) (L3 : LT46_3) (R : Type) (x : HT (le46_3 L3).H) (kc : HT (le46_3 L3).H → Option R) (ke : KT R (le46_3 L3).exs) :
  exec (e46 F66 F67 L3 R) (lcode 3 (codeOf Try.f46)) (stOf (le46_3 L3).H x 2) (roundK (le46_3 L3).H (le46_3 L3).exs kc ke) =
    p46_3 F67 R x.1 x.2.1 (fun x1 x2 => kc (x1, x2, ())) (fun y1 => ke.1 (y1, ())) := by kernel_rfl
noncomputable def G46_3 : Nat → LT46_3
  | 0 => fun _ _ _ _ => none
  | n + 1 => fun R x1 x2 k0 => p46_3 F67 R x1 x2 (fun x1 x2 => G46_3 n R x1 x2 k0) k0
def p46 (F66 : FT66) (L3 : LT46_3) : FT46 := fun R a0 k =>
F66 R a0.1 fun y1 =>
let v2 := (List.length y1 : Int);
L3 R v2 y1 (fun x3 =>
k x3)
theorem q46 (F66 : FT66) (F67 : FT67) (L3 : LT46_3) (F : FT46) (R : Type) (x : AT (en46 F).ins) (k : RT (en46 F).outs → PT (en46 F).ins → Option R) :
  xfun (e46 F66 F67 L3 R) (codeOf Try.f46) res46 (avs (en46 F).ins x) (finK (en46 F).outs (en46 F).ins k) = p46 F66 L3 R x.1 (fun y1 => k (y1, ()) ()) := by kernel_rfl
noncomputable def F46 : FT46 := p46 F66 (G46_3 FUEL)
theorem env46 (R : Type) : EnvOK Try.prog (e46 F66 F67 (G46_3 FUEL) R) := ⟨tabOK, eqOK, callOf_ok (allE_cons ok66 (allE_cons ok67 allE_nil)), noIns, inlOK_nil⟩
noncomputable def T46_3 : (R : Type) → HT (le46_3 (G46_3 FUEL)).H → (HT (le46_3 (G46_3 FUEL)).H → Option R) → KT R (le46_3 (G46_3 FUEL)).exs → Option R := fun R x kc ke => p46_3 F67 R x.1 x.2.1 (fun x1 x2 => kc (x1, x2, ())) (fun y1 => ke.1 (y1, ()))
theorem it46_3 : ∀ (n : Nat) (R : Type) (x : HT (le46_3 (G46_3 FUEL)).H) (ke : KT R (le46_3 (G46_3 FUEL)).exs), iter T46_3 n R x ke = G46_3 n R x.1 x.2.1 (fun y1 => ke.1 (y1, ())) := by
  intro n
  induction n with
  | zero => intro R x ke; rfl
  | succ n ih =>
    intro R x ke
    show T46_3 R x (fun x' => iter T46_3 n R x' ke) ke = _
    rw [show (fun x' => iter T46_3 n R x' ke) = fun x => G46_3 n R x.1 x.2.1 (fun y1 => ke.1 (y1, ())) from funext fun x' => ih R x' ke]
    rfl
theorem lok46_3 : (le46_3 (G46_3 FUEL)).OK Try.prog 0 36 (lcode 3 (codeOf Try.f46)) := fun R x ke r h =>
  iter_sound (fun R => e46 F66 F67 (G46_3 FUEL) R) 0 36 (fun _ => rfl) (fun _ => rfl) (fun R => env46 R) mixed (by
    intro R
    rw [show loopsOf (lcode 3 (codeOf Try.f46)) = [] from by kernel_rfl]
    exact allM_nil) (T := T46_3) (fun R x kc ke => q46_3 F66 F67 (G46_3 FUEL) R x kc ke) FUEL R x ke r ((it46_3 FUEL R x ke).trans h)
theorem ok46 : (en46 F46).OK Try.prog :=
  ent_ok (Ef := fun R => e46 F66 F67 (G46_3 FUEL) R) (fun R => env46 R) mixed Try.func46 (body := codeOf Try.f46) (by kernel_rfl) (by kernel_rfl) (np := 0) (nt := 36) (fun _ => rfl) (fun _ => rfl) (by kernel_rfl) (res := res46) (by kernel_rfl) (fun _ => rfl) (fun _ => Nat.le_of_ble_eq_true rfl) (by
    intro R
    rw [show loopsOf (codeOf Try.f46) = [lcode 3 (codeOf Try.f46)] from by kernel_rfl]
    exact (allM_cons (loop_ok2 (e := le46_3 (G46_3 FUEL)) rfl rfl lok46_3) allM_nil)) (fun R x k => q46 F66 F67 (G46_3 FUEL) F46 R x k)
abbrev FT45 : Type 1 := (R : Type) → (List Int) → (Int → Option R) → Option R
def en45 (F : FT45) : Ent := ⟨45, [(false, (.sl (.int .u64)))], [(false, (.int .i64))], fun R x k => F R x.1 (fun y1 => k (y1, ()) ())⟩
def res45 : List (ResultVar × TypeId × Bool) := [(.tmp 2, 3, false)]
abbrev LT45_2 : Type 1 := (R : Type) → Int → (List Int) → Int → Int → (Int → Option R) → Option R
def le45_2 (L : LT45_2) : LEnt := ⟨2, [.val 2 (.int .i64), .val 5 (.sl (.int .u64)), .val 6 (.int .i64), .val 7 (.int .i64)], 0, [(.exit 0, [.val 2 (.int .i64)])], fun R x ke => L R x.1 x.2.1 x.2.2.1 x.2.2.2.1 (fun y1 => ke.1 (y1, ()))⟩
noncomputable def e45 (L2 : LT45_2) (R : Type) : Env R := ⟨TT, EQT, 0, 17, ownOf [], callOf [] R, loopOf [le45_2 L2] R, [], inlOf []⟩
def p45_2 : (R : Type) → Int → (List Int) → Int → Int → (Int → (List Int) → Int → Int → Option R) → (Int → Option R) → Option R := fun R x1 x2 x3 x4 kc k0 =>
let v5 := (decide (x4 < x3));
(match v5 with
| true => (match (bnd x4 (List.length x2 : Int)) with
| true => let v6 := (List.getD x2 (Int.toNat x4) (0 : Int));
let v7 := (decide (v6 > (0 : Int)));
(match v7 with
| true => let v8 := (IntKind.i64.wrap (x1 + (1 : Int)));
let v9 := (IntKind.i64.wrap (x4 + (1 : Int)));
kc v8 x2 x3 v9
| false => let v10 := (IntKind.i64.wrap (x4 + (1 : Int)));
kc x1 x2 x3 v10)
| false => none)
| false => k0 x1)
theorem q45_2 (L2 : LT45_2) (R : Type) (x : HT (le45_2 L2).H) (kc : HT (le45_2 L2).H → Option R) (ke : KT R (le45_2 L2).exs) :
  exec (e45 L2 R) (lcode 2 (codeOf Try.f45)) (stOf (le45_2 L2).H x 0) (roundK (le45_2 L2).H (le45_2 L2).exs kc ke) =
    p45_2 R x.1 x.2.1 x.2.2.1 x.2.2.2.1 (fun x1 x2 x3 x4 => kc (x1, x2, x3, x4, ())) (fun y1 => ke.1 (y1, ())) := by kernel_rfl
noncomputable def G45_2 : Nat → LT45_2
  | 0 => fun _ _ _ _ _ _ => none
  | n + 1 => fun R x1 x2 x3 x4 k0 => p45_2 R x1 x2 x3 x4 (fun x1 x2 x3 x4 => G45_2 n R x1 x2 x3 x4 k0) k0
def p45 (L2 : LT45_2) : FT45 := fun R a0 k =>
let v1 := (List.length a0 : Int);
L2 R (0 : Int) a0 v1 (0 : Int) (fun x2 =>
k x2)
theorem q45 (L2 : LT45_2) (F : FT45) (R : Type) (x : AT (en45 F).ins) (k : RT (en45 F).outs → PT (en45 F).ins → Option R) :
  xfun (e45 L2 R) (codeOf Try.f45) res45 (avs (en45 F).ins x) (finK (en45 F).outs (en45 F).ins k) = p45 L2 R x.1 (fun y1 => k (y1, ()) ()) := by kernel_rfl
noncomputable def F45 : FT45 := p45 (G45_2 FUEL)
theorem env45 (R : Type) : EnvOK Try.prog (e45 (G45_2 FUEL) R) := ⟨tabOK, eqOK, callOf_ok allE_nil, noIns, inlOK_nil⟩
noncomputable def T45_2 : (R : Type) → HT (le45_2 (G45_2 FUEL)).H → (HT (le45_2 (G45_2 FUEL)).H → Option R) → KT R (le45_2 (G45_2 FUEL)).exs → Option R := fun R x kc ke => p45_2 R x.1 x.2.1 x.2.2.1 x.2.2.2.1 (fun x1 x2 x3 x4 => kc (x1, x2, x3, x4, ())) (fun y1 => ke.1 (y1, ()))
theorem it45_2 : ∀ (n : Nat) (R : Type) (x : HT (le45_2 (G45_2 FUEL)).H) (ke : KT R (le45_2 (G45_2 FUEL)).exs), iter T45_2 n R x ke = G45_2 n R x.1 x.2.1 x.2.2.1 x.2.2.2.1 (fun y1 => ke.1 (y1, ())) := by
  intro n
  induction n with
  | zero => intro R x ke; rfl
  | succ n ih =>
    intro R x ke
    show T45_2 R x (fun x' => iter T45_2 n R x' ke) ke = _
    rw [show (fun x' => iter T45_2 n R x' ke) = fun x => G45_2 n R x.1 x.2.1 x.2.2.1 x.2.2.2.1 (fun y1 => ke.1 (y1, ())) from funext fun x' => ih R x' ke]
    rfl
theorem lok45_2 : (le45_2 (G45_2 FUEL)).OK Try.prog 0 17 (lcode 2 (codeOf Try.f45)) := fun R x ke r h =>
  iter_sound (fun R => e45 (G45_2 FUEL) R) 0 17 (fun _ => rfl) (fun _ => rfl) (fun R => env45 R) mixed (by
    intro R
    rw [show loopsOf (lcode 2 (codeOf Try.f45)) = [] from by kernel_rfl]
    exact allM_nil) (T := T45_2) (fun R x kc ke => q45_2 (G45_2 FUEL) R x kc ke) FUEL R x ke r ((it45_2 FUEL R x ke).trans h)
theorem ok45 : (en45 F45).OK Try.prog :=
  ent_ok (Ef := fun R => e45 (G45_2 FUEL) R) (fun R => env45 R) mixed Try.func45 (body := codeOf Try.f45) (by kernel_rfl) (by kernel_rfl) (np := 0) (nt := 17) (fun _ => rfl) (fun _ => rfl) (by kernel_rfl) (res := res45) (by kernel_rfl) (fun _ => rfl) (fun _ => Nat.le_of_ble_eq_true rfl) (by
    intro R
    rw [show loopsOf (codeOf Try.f45) = [lcode 2 (codeOf Try.f45)] from by kernel_rfl]
    exact (allM_cons (loop_ok2 (e := le45_2 (G45_2 FUEL)) rfl rfl lok45_2) allM_nil)) (fun R x k => q45 (G45_2 FUEL) F45 R x k)
abbrev FT97 : Type 1 := (R : Type) → ((List Int) × Unit) → (Int → Option R) → Option R
def en97 (F : FT97) : Ent := ⟨97, [(false, (.pair (.sl (.int .u64)) .unit))], [(false, (.int .i64))], fun R x k => F R x.1 (fun y1 => k (y1, ()) ())⟩
def res97 : List (ResultVar × TypeId × Bool) := [(.tmp 2, 3, false)]
noncomputable def e97 (R : Type) : Env R := ⟨TT, EQT, 0, 6, ownOf [], callOf [] R, loopOf [] R, [], inlOf []⟩
def p97 : FT97 := fun R a0 k =>
let v1 := (List.length a0.1 : Int);
k v1
theorem q97 (F : FT97) (R : Type) (x : AT (en97 F).ins) (k : RT (en97 F).outs → PT (en97 F).ins → Option R) :
  xfun (e97 R) (codeOf Try.f97) res97 (avs (en97 F).ins x) (finK (en97 F).outs (en97 F).ins k) = p97 R x.1 (fun y1 => k (y1, ()) ()) := by kernel_rfl
noncomputable def F97 : FT97 := p97
theorem env97 (R : Type) : EnvOK Try.prog (e97 R) := ⟨tabOK, eqOK, callOf_ok allE_nil, noIns, inlOK_nil⟩
theorem ok97 : (en97 F97).OK Try.prog :=
  ent_ok (Ef := fun R => e97 R) (fun R => env97 R) mixed Try.func97 (body := codeOf Try.f97) (by kernel_rfl) (by kernel_rfl) (np := 0) (nt := 6) (fun _ => rfl) (fun _ => rfl) (by kernel_rfl) (res := res97) (by kernel_rfl) (fun _ => rfl) (fun _ => Nat.le_of_ble_eq_true rfl) (by
    intro R
    rw [show loopsOf (codeOf Try.f97) = [] from by kernel_rfl]
    exact allM_nil) (fun R x k => q97 F97 R x k)
abbrev FT96 : Type 1 := (R : Type) → ((List Int) × Unit) → Int → (Int → Option R) → Option R
def en96 (F : FT96) : Ent := ⟨96, [(false, (.pair (.sl (.int .u64)) .unit)), (false, (.int .i64))], [(false, (.int .u64))], fun R x k => F R x.1 x.2.1 (fun y1 => k (y1, ()) ())⟩
def res96 : List (ResultVar × TypeId × Bool) := [(.tmp 4, 24, false)]
abbrev LT96_1 : Type 1 := (R : Type) → Int → Int → ((List Int) × Unit) → (Int → Option R) → Option R
def le96_1 (L : LT96_1) : LEnt := ⟨1, [.val 1 (.int .i64), .fix 2 (.ptr 0 [] (.pair (.sl (.int .u64)) .unit)), .val 4 (.int .u64), .var 0 (.pair (.sl (.int .u64)) .unit) false], 1, [(.exit 0, [.val 4 (.int .u64)])], fun R x ke => L R x.1 x.2.1 x.2.2.1 (fun y1 => ke.1 (y1, ()))⟩
noncomputable def e96 (F67 : FT67) (L1 : LT96_1) (R : Type) : Env R := ⟨TT, EQT, 0, 20, ownOf [], callOf [en67 F67] R, loopOf [le96_1 L1] R, [], inlOf []⟩
def p96_1 (F67 : FT67) : (R : Type) → Int → Int → ((List Int) × Unit) → (Int → Int → ((List Int) × Unit) → Option R) → (Int → Option R) → Option R := fun R x1 x2 x3 kc k0 =>
let v4 := (decide (x1 > (0 : Int)));
(match v4 with
| true => let v5 := (IntKind.i64.wrap (x1 - (1 : Int)));
(match (bnd v5 (List.length x3.1 : Int)) with
| true => let v6 := (List.getD x3.1 (Int.toNat v5) (0 : Int));
let v7 := (IntKind.u64.wrap (x2 + v6));
F67 R x1 fun y8 =>
let v9 := (IntKind.i64.wrap (x1 - y8));
kc v9 v7 x3
| false => none)
| false => k0 x2)
theorem q96_1 (F67 : FT67) (L1 : LT96_1) (R : Type) (x : HT (le96_1 L1).H) (kc : HT (le96_1 L1).H → Option R) (ke : KT R (le96_1 L1).exs) :
  exec (e96 F67 L1 R) (lcode 1 (codeOf Try.f96)) (stOf (le96_1 L1).H x 1) (roundK (le96_1 L1).H (le96_1 L1).exs kc ke) =
    p96_1 F67 R x.1 x.2.1 x.2.2.1 (fun x1 x2 x3 => kc (x1, x2, x3, ())) (fun y1 => ke.1 (y1, ())) := by kernel_rfl
noncomputable def G96_1 : Nat → LT96_1
  | 0 => fun _ _ _ _ _ => none
  | n + 1 => fun R x1 x2 x3 k0 => p96_1 F67 R x1 x2 x3 (fun x1 x2 x3 => G96_1 n R x1 x2 x3 k0) k0
def p96 (L1 : LT96_1) : FT96 := fun R a0 a1 k =>
L1 R a1 (0 : Int) a0 (fun x1 =>
k x1)
theorem q96 (F67 : FT67) (L1 : LT96_1) (F : FT96) (R : Type) (x : AT (en96 F).ins) (k : RT (en96 F).outs → PT (en96 F).ins → Option R) :
  xfun (e96 F67 L1 R) (codeOf Try.f96) res96 (avs (en96 F).ins x) (finK (en96 F).outs (en96 F).ins k) = p96 L1 R x.1 x.2.1 (fun y1 => k (y1, ()) ()) := by kernel_rfl
noncomputable def F96 : FT96 := p96 (G96_1 FUEL)
theorem env96 (R : Type) : EnvOK Try.prog (e96 F67 (G96_1 FUEL) R) := ⟨tabOK, eqOK, callOf_ok (allE_cons ok67 allE_nil), noIns, inlOK_nil⟩
noncomputable def T96_1 : (R : Type) → HT (le96_1 (G96_1 FUEL)).H → (HT (le96_1 (G96_1 FUEL)).H → Option R) → KT R (le96_1 (G96_1 FUEL)).exs → Option R := fun R x kc ke => p96_1 F67 R x.1 x.2.1 x.2.2.1 (fun x1 x2 x3 => kc (x1, x2, x3, ())) (fun y1 => ke.1 (y1, ()))
theorem it96_1 : ∀ (n : Nat) (R : Type) (x : HT (le96_1 (G96_1 FUEL)).H) (ke : KT R (le96_1 (G96_1 FUEL)).exs), iter T96_1 n R x ke = G96_1 n R x.1 x.2.1 x.2.2.1 (fun y1 => ke.1 (y1, ())) := by
  intro n
  induction n with
  | zero => intro R x ke; rfl
  | succ n ih =>
    intro R x ke
    show T96_1 R x (fun x' => iter T96_1 n R x' ke) ke = _
    rw [show (fun x' => iter T96_1 n R x' ke) = fun x => G96_1 n R x.1 x.2.1 x.2.2.1 (fun y1 => ke.1 (y1, ())) from funext fun x' => ih R x' ke]
    rfl
theorem lok96_1 : (le96_1 (G96_1 FUEL)).OK Try.prog 0 20 (lcode 1 (codeOf Try.f96)) := fun R x ke r h =>
  iter_sound (fun R => e96 F67 (G96_1 FUEL) R) 0 20 (fun _ => rfl) (fun _ => rfl) (fun R => env96 R) mixed (by
    intro R
    rw [show loopsOf (lcode 1 (codeOf Try.f96)) = [] from by kernel_rfl]
    exact allM_nil) (T := T96_1) (fun R x kc ke => q96_1 F67 (G96_1 FUEL) R x kc ke) FUEL R x ke r ((it96_1 FUEL R x ke).trans h)
theorem ok96 : (en96 F96).OK Try.prog :=
  ent_ok (Ef := fun R => e96 F67 (G96_1 FUEL) R) (fun R => env96 R) mixed Try.func96 (body := codeOf Try.f96) (by kernel_rfl) (by kernel_rfl) (np := 0) (nt := 20) (fun _ => rfl) (fun _ => rfl) (by kernel_rfl) (res := res96) (by kernel_rfl) (fun _ => rfl) (fun _ => Nat.le_of_ble_eq_true rfl) (by
    intro R
    rw [show loopsOf (codeOf Try.f96) = [lcode 1 (codeOf Try.f96)] from by kernel_rfl]
    exact (allM_cons (loop_ok2 (e := le96_1 (G96_1 FUEL)) rfl rfl lok96_1) allM_nil)) (fun R x k => q96 F67 (G96_1 FUEL) F96 R x k)
abbrev FT76 : Type 1 := (R : Type) → ((List Int) × Unit) → (Int → Option R) → Option R
def en76 (F : FT76) : Ent := ⟨76, [(false, (.pair (.sl (.int .u64)) .unit))], [(false, (.int .u64))], fun R x k => F R x.1 (fun y1 => k (y1, ()) ())⟩
def res76 : List (ResultVar × TypeId × Bool) := [(.tmp 2, 24, false)]
noncomputable def e76 (F96 : FT96) (F97 : FT97) (R : Type) : Env R := ⟨TT, EQT, 0, 7, ownOf [], callOf [en96 F96, en97 F97] R, loopOf [] R, [], inlOf []⟩
def p76 (F96 : FT96) (F97 : FT97) : FT76 := fun R a0 k =>
F97 R a0 fun y1 =>
F96 R a0 y1 fun y2 =>
k y2
theorem q76 (F96 : FT96) (F97 : FT97) (F : FT76) (R : Type) (x : AT (en76 F).ins) (k : RT (en76 F).outs → PT (en76 F).ins → Option R) :
  xfun (e76 F96 F97 R) (codeOf Try.f76) res76 (avs (en76 F).ins x) (finK (en76 F).outs (en76 F).ins k) = p76 F96 F97 R x.1 (fun y1 => k (y1, ()) ()) := by kernel_rfl
noncomputable def F76 : FT76 := p76 F96 F97
theorem env76 (R : Type) : EnvOK Try.prog (e76 F96 F97 R) := ⟨tabOK, eqOK, callOf_ok (allE_cons ok96 (allE_cons ok97 allE_nil)), noIns, inlOK_nil⟩
theorem ok76 : (en76 F76).OK Try.prog :=
  ent_ok (Ef := fun R => e76 F96 F97 R) (fun R => env76 R) mixed Try.func76 (body := codeOf Try.f76) (by kernel_rfl) (by kernel_rfl) (np := 0) (nt := 7) (fun _ => rfl) (fun _ => rfl) (by kernel_rfl) (res := res76) (by kernel_rfl) (fun _ => rfl) (fun _ => Nat.le_of_ble_eq_true rfl) (by
    intro R
    rw [show loopsOf (codeOf Try.f76) = [] from by kernel_rfl]
    exact allM_nil) (fun R x k => q76 F96 F97 F76 R x k)
abbrev FT58 : Type 1 := (R : Type) → Tq7 → Int → Int → (Bool → Option R) → Option R
def en58 (F : FT58) : Ent := ⟨58, [(false, Kq7), (false, (.int .u64)), (false, (.int .i64))], [(false, .bool)], fun R x k => F R x.1 x.2.1 x.2.2.1 (fun y1 => k (y1, ()) ())⟩
def res58 : List (ResultVar × TypeId × Bool) := [(.tmp 6, 4, false)]
noncomputable def e58 (F75 : FT75) (R : Type) : Env R := ⟨TT, EQT, 0, 25, ownOf [], callOf [en75 F75] R, loopOf [] R, [], inlOf []⟩
def p58 (F75 : FT75) : FT58 := fun R a0 a1 a2 k =>
F75 R a0 fun y1 =>
(match y1 with
| true => let v2 := (decide (a1 > (0 : Int)));
(match v2 with
| true => let v3 := (decide (a1 < (9223372036854775808 : Int)));
(match v3 with
| true => let v4 := (decide (a2 > (0 : Int)));
(match v4 with
| true => let v5 := (decide (a2 ≤ (64 : Int)));
k v5
| false => k false)
| false => k false)
| false => k false)
| false => k false)
theorem q58 (F75 : FT75) (F : FT58) (R : Type) (x : AT (en58 F).ins) (k : RT (en58 F).outs → PT (en58 F).ins → Option R) :
  xfun (e58 F75 R) (codeOf Try.f58) res58 (avs (en58 F).ins x) (finK (en58 F).outs (en58 F).ins k) = p58 F75 R x.1 x.2.1 x.2.2.1 (fun y1 => k (y1, ()) ()) := by kernel_rfl
noncomputable def F58 : FT58 := p58 F75
theorem env58 (R : Type) : EnvOK Try.prog (e58 F75 R) := ⟨tabOK, eqOK, callOf_ok (allE_cons ok75 allE_nil), noIns, inlOK_nil⟩
theorem ok58 : (en58 F58).OK Try.prog :=
  ent_ok (Ef := fun R => e58 F75 R) (fun R => env58 R) mixed Try.func58 (body := codeOf Try.f58) (by kernel_rfl) (by kernel_rfl) (np := 0) (nt := 25) (fun _ => rfl) (fun _ => rfl) (by kernel_rfl) (res := res58) (by kernel_rfl) (fun _ => rfl) (fun _ => Nat.le_of_ble_eq_true rfl) (by
    intro R
    rw [show loopsOf (codeOf Try.f58) = [] from by kernel_rfl]
    exact allM_nil) (fun R x k => q58 F75 F58 R x k)
abbrev FT86 : Type 1 := (R : Type) → Int → (Int → Option R) → Option R
def en86 (F : FT86) : Ent := ⟨86, [(false, (.int .u64))], [(false, (.int .i64))], fun R x k => F R x.1 (fun y1 => k (y1, ()) ())⟩
def res86 : List (ResultVar × TypeId × Bool) := [(.tmp 2, 3, false)]
abbrev LT86_1 : Type 1 := (R : Type) → Int → Int → (Int → Option R) → Option R
def le86_1 (L : LT86_1) : LEnt := ⟨1, [.val 0 (.int .u64), .val 2 (.int .i64)], 0, [(.exit 0, [.val 2 (.int .i64)])], fun R x ke => L R x.1 x.2.1 (fun y1 => ke.1 (y1, ()))⟩
noncomputable def e86 (L1 : LT86_1) (R : Type) : Env R := ⟨TT, EQT, 0, 10, ownOf [], callOf [] R, loopOf [le86_1 L1] R, [], inlOf []⟩
def p86_1 : (R : Type) → Int → Int → (Int → Int → Option R) → (Int → Option R) → Option R := fun R x1 x2 kc k0 =>
let v3 := (x1 != (0 : Int));
(match v3 with
| true => let v4 := (IntKind.i64.wrap (x2 + (1 : Int)));
let v5 := (ishr .u64 x1 (1 : Int));
kc v5 v4
| false => k0 x2)
theorem q86_1 (L1 : LT86_1) (R : Type) (x : HT (le86_1 L1).H) (kc : HT (le86_1 L1).H → Option R) (ke : KT R (le86_1 L1).exs) :
  exec (e86 L1 R) (lcode 1 (codeOf Try.f86)) (stOf (le86_1 L1).H x 0) (roundK (le86_1 L1).H (le86_1 L1).exs kc ke) =
    p86_1 R x.1 x.2.1 (fun x1 x2 => kc (x1, x2, ())) (fun y1 => ke.1 (y1, ())) := by kernel_rfl
noncomputable def G86_1 : Nat → LT86_1
  | 0 => fun _ _ _ _ => none
  | n + 1 => fun R x1 x2 k0 => p86_1 R x1 x2 (fun x1 x2 => G86_1 n R x1 x2 k0) k0
def p86 (L1 : LT86_1) : FT86 := fun R a0 k =>
L1 R a0 (0 : Int) (fun x1 =>
k x1)
theorem q86 (L1 : LT86_1) (F : FT86) (R : Type) (x : AT (en86 F).ins) (k : RT (en86 F).outs → PT (en86 F).ins → Option R) :
  xfun (e86 L1 R) (codeOf Try.f86) res86 (avs (en86 F).ins x) (finK (en86 F).outs (en86 F).ins k) = p86 L1 R x.1 (fun y1 => k (y1, ()) ()) := by kernel_rfl
noncomputable def F86 : FT86 := p86 (G86_1 FUEL)
theorem env86 (R : Type) : EnvOK Try.prog (e86 (G86_1 FUEL) R) := ⟨tabOK, eqOK, callOf_ok allE_nil, noIns, inlOK_nil⟩
noncomputable def T86_1 : (R : Type) → HT (le86_1 (G86_1 FUEL)).H → (HT (le86_1 (G86_1 FUEL)).H → Option R) → KT R (le86_1 (G86_1 FUEL)).exs → Option R := fun R x kc ke => p86_1 R x.1 x.2.1 (fun x1 x2 => kc (x1, x2, ())) (fun y1 => ke.1 (y1, ()))
theorem it86_1 : ∀ (n : Nat) (R : Type) (x : HT (le86_1 (G86_1 FUEL)).H) (ke : KT R (le86_1 (G86_1 FUEL)).exs), iter T86_1 n R x ke = G86_1 n R x.1 x.2.1 (fun y1 => ke.1 (y1, ())) := by
  intro n
  induction n with
  | zero => intro R x ke; rfl
  | succ n ih =>
    intro R x ke
    show T86_1 R x (fun x' => iter T86_1 n R x' ke) ke = _
    rw [show (fun x' => iter T86_1 n R x' ke) = fun x => G86_1 n R x.1 x.2.1 (fun y1 => ke.1 (y1, ())) from funext fun x' => ih R x' ke]
    rfl
theorem lok86_1 : (le86_1 (G86_1 FUEL)).OK Try.prog 0 10 (lcode 1 (codeOf Try.f86)) := fun R x ke r h =>
  iter_sound (fun R => e86 (G86_1 FUEL) R) 0 10 (fun _ => rfl) (fun _ => rfl) (fun R => env86 R) mixed (by
    intro R
    rw [show loopsOf (lcode 1 (codeOf Try.f86)) = [] from by kernel_rfl]
    exact allM_nil) (T := T86_1) (fun R x kc ke => q86_1 (G86_1 FUEL) R x kc ke) FUEL R x ke r ((it86_1 FUEL R x ke).trans h)
theorem ok86 : (en86 F86).OK Try.prog :=
  ent_ok (Ef := fun R => e86 (G86_1 FUEL) R) (fun R => env86 R) mixed Try.func86 (body := codeOf Try.f86) (by kernel_rfl) (by kernel_rfl) (np := 0) (nt := 10) (fun _ => rfl) (fun _ => rfl) (by kernel_rfl) (res := res86) (by kernel_rfl) (fun _ => rfl) (fun _ => Nat.le_of_ble_eq_true rfl) (by
    intro R
    rw [show loopsOf (codeOf Try.f86) = [lcode 1 (codeOf Try.f86)] from by kernel_rfl]
    exact (allM_cons (loop_ok2 (e := le86_1 (G86_1 FUEL)) rfl rfl lok86_1) allM_nil)) (fun R x k => q86 (G86_1 FUEL) F86 R x k)
abbrev FT60 : Type 1 := (R : Type) → Int → (Int → Option R) → Option R
def en60 (F : FT60) : Ent := ⟨60, [(false, (.int .u64))], [(false, (.int .i64))], fun R x k => F R x.1 (fun y1 => k (y1, ()) ())⟩
def res60 : List (ResultVar × TypeId × Bool) := [(.tmp 2, 3, false)]
noncomputable def e60 (F86 : FT86) (R : Type) : Env R := ⟨TT, EQT, 0, 7, ownOf [], callOf [en86 F86] R, loopOf [] R, [], inlOf []⟩
def p60 (F86 : FT86) : FT60 := fun R a0 k =>
let v1 := (if (1 : Int) > a0 then (1 : Int) else a0);
let v2 := (IntKind.u64.wrap (v1 - (1 : Int)));
F86 R v2 fun y3 =>
k y3
theorem q60 (F86 : FT86) (F : FT60) (R : Type) (x : AT (en60 F).ins) (k : RT (en60 F).outs → PT (en60 F).ins → Option R) :
  xfun (e60 F86 R) (codeOf Try.f60) res60 (avs (en60 F).ins x) (finK (en60 F).outs (en60 F).ins k) = p60 F86 R x.1 (fun y1 => k (y1, ()) ()) := by kernel_rfl
noncomputable def F60 : FT60 := p60 F86
theorem env60 (R : Type) : EnvOK Try.prog (e60 F86 R) := ⟨tabOK, eqOK, callOf_ok (allE_cons ok86 allE_nil), noIns, inlOK_nil⟩
theorem ok60 : (en60 F60).OK Try.prog :=
  ent_ok (Ef := fun R => e60 F86 R) (fun R => env60 R) mixed Try.func60 (body := codeOf Try.f60) (by kernel_rfl) (by kernel_rfl) (np := 0) (nt := 7) (fun _ => rfl) (fun _ => rfl) (by kernel_rfl) (res := res60) (by kernel_rfl) (fun _ => rfl) (fun _ => Nat.le_of_ble_eq_true rfl) (by
    intro R
    rw [show loopsOf (codeOf Try.f60) = [] from by kernel_rfl]
    exact allM_nil) (fun R x k => q60 F86 F60 R x k)
abbrev FT84 : Type 1 := (R : Type) → Tq7 → (Int → Option R) → Option R
def en84 (F : FT84) : Ent := ⟨84, [(false, Kq7)], [(false, (.int .u64))], fun R x k => F R x.1 (fun y1 => k (y1, ()) ())⟩
def res84 : List (ResultVar × TypeId × Bool) := [(.tmp 2, 24, false)]
noncomputable def e84 (F75 : FT75) (F95 : FT95) (R : Type) : Env R := ⟨TT, EQT, 0, 17, ownOf [], callOf [en75 F75, en95 F95] R, loopOf [] R, [], inlOf []⟩
def p84 (F75 : FT75) (F95 : FT95) : FT84 := fun R a0 k =>
F75 R a0 fun y1 =>
(match (!y1) with
| true => k (0 : Int)
| false => F95 R a0 fun y2 y3 =>
let v4 := (IntKind.u64.wrap (y2 - a0.2.2.2.2.2.1));
k v4)
theorem q84 (F75 : FT75) (F95 : FT95) (F : FT84) (R : Type) (x : AT (en84 F).ins) (k : RT (en84 F).outs → PT (en84 F).ins → Option R) :
  xfun (e84 F75 F95 R) (codeOf Try.f84) res84 (avs (en84 F).ins x) (finK (en84 F).outs (en84 F).ins k) = p84 F75 F95 R x.1 (fun y1 => k (y1, ()) ()) := by kernel_rfl
noncomputable def F84 : FT84 := p84 F75 F95
theorem env84 (R : Type) : EnvOK Try.prog (e84 F75 F95 R) := ⟨tabOK, eqOK, callOf_ok (allE_cons ok75 (allE_cons ok95 allE_nil)), noIns, inlOK_nil⟩
theorem ok84 : (en84 F84).OK Try.prog :=
  ent_ok (Ef := fun R => e84 F75 F95 R) (fun R => env84 R) mixed Try.func84 (body := codeOf Try.f84) (by kernel_rfl) (by kernel_rfl) (np := 0) (nt := 17) (fun _ => rfl) (fun _ => rfl) (by kernel_rfl) (res := res84) (by kernel_rfl) (fun _ => rfl) (fun _ => Nat.le_of_ble_eq_true rfl) (by
    intro R
    rw [show loopsOf (codeOf Try.f84) = [] from by kernel_rfl]
    exact allM_nil) (fun R x k => q84 F75 F95 F84 R x k)
abbrev FT108 : Type 1 := (R : Type) → Int → ((List Int) → Option R) → Option R
def en108 (F : FT108) : Ent := ⟨108, [(false, (.int .u64))], [(false, (.arr 8 (.int .u8)))], fun R x k => F R x.1 (fun y1 => k (y1, ()) ())⟩
def res108 : List (ResultVar × TypeId × Bool) := [(.cell 2 162, 162, false)]
abbrev LT108_2 : Type 1 := (R : Type) → Int → Int → (List Int) → ((List Int) → Option R) → Option R
def le108_2 (L : LT108_2) : LEnt := ⟨2, [.val 0 (.int .u64), .fix 2 (.ptr 0 [] (.arr 8 (.int .u8))), .val 4 (.int .i64), .var 0 (.arr 8 (.int .u8)) false], 1, [(.exit 0, [.fix 2 (.ptr 0 [] (.arr 8 (.int .u8))), .var 0 (.arr 8 (.int .u8)) false])], fun R x ke => L R x.1 x.2.1 x.2.2.1 (fun y1 => ke.1 (y1, ()))⟩
noncomputable def e108 (L2 : LT108_2) (R : Type) : Env R := ⟨TT, EQT, 0, 18, ownOf [], callOf [] R, loopOf [le108_2 L2] R, [], inlOf []⟩
def p108_2 : (R : Type) → Int → Int → (List Int) → (Int → Int → (List Int) → Option R) → ((List Int) → Option R) → Option R := fun R x1 x2 x3 kc k0 =>
let v4 := (decide (x2 < (8 : Int)));
(match v4 with
| true => let v5 := (IntKind.i64.wrap ((7 : Int) - x2));
let v6 := (IntKind.i64.wrap ((8 : Int) * v5));
let v7 := (IntKind.u64.wrap v6);
(match (decide (0 ≤ v7)) with
| true => let v8 := (ishr .u64 x1 v7);
let v9 := (IntKind.u8.wrap v8);
(match (bnd x2 (8 : Int)) with
| true => let v10 : (List Int) := (List.set x3 (Int.toNat x2) v9);
let v11 := (IntKind.i64.wrap (x2 + (1 : Int)));
kc x1 v11 v10
| false => none)
| false => none)
| false => k0 x3)
theorem q108_2 (L2 : LT108_2) (R : Type) (x : HT (le108_2 L2).H) (kc : HT (le108_2 L2).H → Option R) (ke : KT R (le108_2 L2).exs) :
  exec (e108 L2 R) (lcode 2 (codeOf Try.f108)) (stOf (le108_2 L2).H x 1) (roundK (le108_2 L2).H (le108_2 L2).exs kc ke) =
    p108_2 R x.1 x.2.1 x.2.2.1 (fun x1 x2 x3 => kc (x1, x2, x3, ())) (fun y1 => ke.1 (y1, ())) := by kernel_rfl
noncomputable def G108_2 : Nat → LT108_2
  | 0 => fun _ _ _ _ _ => none
  | n + 1 => fun R x1 x2 x3 k0 => p108_2 R x1 x2 x3 (fun x1 x2 x3 => G108_2 n R x1 x2 x3 k0) k0
def p108 (L2 : LT108_2) : FT108 := fun R a0 k =>
L2 R a0 (0 : Int) (List.replicate 8 (0 : Int)) (fun x1 =>
k x1)
theorem q108 (L2 : LT108_2) (F : FT108) (R : Type) (x : AT (en108 F).ins) (k : RT (en108 F).outs → PT (en108 F).ins → Option R) :
  xfun (e108 L2 R) (codeOf Try.f108) res108 (avs (en108 F).ins x) (finK (en108 F).outs (en108 F).ins k) = p108 L2 R x.1 (fun y1 => k (y1, ()) ()) := by kernel_rfl
noncomputable def F108 : FT108 := p108 (G108_2 FUEL)
theorem env108 (R : Type) : EnvOK Try.prog (e108 (G108_2 FUEL) R) := ⟨tabOK, eqOK, callOf_ok allE_nil, noIns, inlOK_nil⟩
noncomputable def T108_2 : (R : Type) → HT (le108_2 (G108_2 FUEL)).H → (HT (le108_2 (G108_2 FUEL)).H → Option R) → KT R (le108_2 (G108_2 FUEL)).exs → Option R := fun R x kc ke => p108_2 R x.1 x.2.1 x.2.2.1 (fun x1 x2 x3 => kc (x1, x2, x3, ())) (fun y1 => ke.1 (y1, ()))
theorem it108_2 : ∀ (n : Nat) (R : Type) (x : HT (le108_2 (G108_2 FUEL)).H) (ke : KT R (le108_2 (G108_2 FUEL)).exs), iter T108_2 n R x ke = G108_2 n R x.1 x.2.1 x.2.2.1 (fun y1 => ke.1 (y1, ())) := by
  intro n
  induction n with
  | zero => intro R x ke; rfl
  | succ n ih =>
    intro R x ke
    show T108_2 R x (fun x' => iter T108_2 n R x' ke) ke = _
    rw [show (fun x' => iter T108_2 n R x' ke) = fun x => G108_2 n R x.1 x.2.1 x.2.2.1 (fun y1 => ke.1 (y1, ())) from funext fun x' => ih R x' ke]
    rfl
theorem lok108_2 : (le108_2 (G108_2 FUEL)).OK Try.prog 0 18 (lcode 2 (codeOf Try.f108)) := fun R x ke r h =>
  iter_sound (fun R => e108 (G108_2 FUEL) R) 0 18 (fun _ => rfl) (fun _ => rfl) (fun R => env108 R) mixed (by
    intro R
    rw [show loopsOf (lcode 2 (codeOf Try.f108)) = [] from by kernel_rfl]
    exact allM_nil) (T := T108_2) (fun R x kc ke => q108_2 (G108_2 FUEL) R x kc ke) FUEL R x ke r ((it108_2 FUEL R x ke).trans h)
theorem ok108 : (en108 F108).OK Try.prog :=
  ent_ok (Ef := fun R => e108 (G108_2 FUEL) R) (fun R => env108 R) mixed Try.func108 (body := codeOf Try.f108) (by kernel_rfl) (by kernel_rfl) (np := 0) (nt := 18) (fun _ => rfl) (fun _ => rfl) (by kernel_rfl) (res := res108) (by kernel_rfl) (fun _ => rfl) (fun _ => Nat.le_of_ble_eq_true rfl) (by
    intro R
    rw [show loopsOf (codeOf Try.f108) = [lcode 2 (codeOf Try.f108)] from by kernel_rfl]
    exact (allM_cons (loop_ok2 (e := le108_2 (G108_2 FUEL)) rfl rfl lok108_2) allM_nil)) (fun R x k => q108 (G108_2 FUEL) F108 R x k)
abbrev FT115 : Type 1 := (R : Type) → ((List Int) → Option R) → Option R
def en115 (F : FT115) : Ent := ⟨115, [], [(false, (.arr 8 (.int .u32)))], fun R x k => F R  (fun y1 => k (y1, ()) ())⟩
def res115 : List (ResultVar × TypeId × Bool) := [(.cell 0 167, 167, false)]
noncomputable def e115 (R : Type) : Env R := ⟨TT, EQT, 0, 2, ownOf [], callOf [] R, loopOf [] R, [], inlOf []⟩
def p115 : FT115 := fun R k =>
let v1 : (List Int) := (List.set (List.set (List.set (List.set (List.set (List.set (List.set (List.set (List.replicate 8 (0 : Int)) 0 (1779033703 : Int)) 1 (3144134277 : Int)) 2 (1013904242 : Int)) 3 (2773480762 : Int)) 4 (1359893119 : Int)) 5 (2600822924 : Int)) 6 (528734635 : Int)) 7 (1541459225 : Int));
k v1
theorem q115 (F : FT115) (R : Type) (x : AT (en115 F).ins) (k : RT (en115 F).outs → PT (en115 F).ins → Option R) :
  xfun (e115 R) (codeOf Try.f115) res115 (avs (en115 F).ins x) (finK (en115 F).outs (en115 F).ins k) = p115 R  (fun y1 => k (y1, ()) ()) := by kernel_rfl
noncomputable def F115 : FT115 := p115
theorem env115 (R : Type) : EnvOK Try.prog (e115 R) := ⟨tabOK, eqOK, callOf_ok allE_nil, noIns, inlOK_nil⟩
theorem ok115 : (en115 F115).OK Try.prog :=
  ent_ok (Ef := fun R => e115 R) (fun R => env115 R) mixed Try.func115 (body := codeOf Try.f115) (by kernel_rfl) (by kernel_rfl) (np := 0) (nt := 2) (fun _ => rfl) (fun _ => rfl) (by kernel_rfl) (res := res115) (by kernel_rfl) (fun _ => rfl) (fun _ => Nat.le_of_ble_eq_true rfl) (by
    intro R
    rw [show loopsOf (codeOf Try.f115) = [] from by kernel_rfl]
    exact allM_nil) (fun R x k => q115 F115 R x k)
abbrev FT111 : Type 1 := (R : Type) → (Tq9 → Option R) → Option R
def en111 (F : FT111) : Ent := ⟨111, [], [(false, Kq9)], fun R x k => F R  (fun y1 => k (y1, ()) ())⟩
def res111 : List (ResultVar × TypeId × Bool) := [(.cell 0 169, 169, false)]
noncomputable def e111 (F115 : FT115) (R : Type) : Env R := ⟨TT, EQT, 0, 3, ownOf [], callOf [en115 F115] R, loopOf [] R, [], inlOf []⟩
def p111 (F115 : FT115) : FT111 := fun R k =>
F115 R  fun y1 =>
k (y1, ([] : (List Int)), (0 : Int), ())
theorem q111 (F115 : FT115) (F : FT111) (R : Type) (x : AT (en111 F).ins) (k : RT (en111 F).outs → PT (en111 F).ins → Option R) :
  xfun (e111 F115 R) (codeOf Try.f111) res111 (avs (en111 F).ins x) (finK (en111 F).outs (en111 F).ins k) = p111 F115 R  (fun y1 => k (y1, ()) ()) := by kernel_rfl
noncomputable def F111 : FT111 := p111 F115
theorem env111 (R : Type) : EnvOK Try.prog (e111 F115 R) := ⟨tabOK, eqOK, callOf_ok (allE_cons ok115 allE_nil), noIns, inlOK_nil⟩
theorem ok111 : (en111 F111).OK Try.prog :=
  ent_ok (Ef := fun R => e111 F115 R) (fun R => env111 R) mixed Try.func111 (body := codeOf Try.f111) (by kernel_rfl) (by kernel_rfl) (np := 0) (nt := 3) (fun _ => rfl) (fun _ => rfl) (by kernel_rfl) (res := res111) (by kernel_rfl) (fun _ => rfl) (fun _ => Nat.le_of_ble_eq_true rfl) (by
    intro R
    rw [show loopsOf (codeOf Try.f111) = [] from by kernel_rfl]
    exact allM_nil) (fun R x k => q111 F115 F111 R x k)
abbrev FT113 : Type 1 := (R : Type) → Tq9 → (Bool → Option R) → Option R
def en113 (F : FT113) : Ent := ⟨113, [(false, Kq9)], [(false, .bool)], fun R x k => F R x.1 (fun y1 => k (y1, ()) ())⟩
def res113 : List (ResultVar × TypeId × Bool) := [(.tmp 2, 4, false)]
noncomputable def e113 (R : Type) : Env R := ⟨TT, EQT, 0, 16, ownOf [], callOf [] R, loopOf [] R, [], inlOf []⟩
def p113 : FT113 := fun R a0 k =>
let v1 := (decide (a0.2.2.1 < (2305843009213693952 : Int)));
(match v1 with
| true => let v2 := (List.length a0.2.1 : Int);
let v3 := (IntKind.u64.wrap v2);
let v4 := (iand .u64 a0.2.2.1 (63 : Int));
let v5 := (v3 == v4);
k v5
| false => k false)
theorem q113 (F : FT113) (R : Type) (x : AT (en113 F).ins) (k : RT (en113 F).outs → PT (en113 F).ins → Option R) :
  xfun (e113 R) (codeOf Try.f113) res113 (avs (en113 F).ins x) (finK (en113 F).outs (en113 F).ins k) = p113 R x.1 (fun y1 => k (y1, ()) ()) := by kernel_rfl
noncomputable def F113 : FT113 := p113
theorem env113 (R : Type) : EnvOK Try.prog (e113 R) := ⟨tabOK, eqOK, callOf_ok allE_nil, noIns, inlOK_nil⟩
theorem ok113 : (en113 F113).OK Try.prog :=
  ent_ok (Ef := fun R => e113 R) (fun R => env113 R) mixed Try.func113 (body := codeOf Try.f113) (by kernel_rfl) (by kernel_rfl) (np := 0) (nt := 16) (fun _ => rfl) (fun _ => rfl) (by kernel_rfl) (res := res113) (by kernel_rfl) (fun _ => rfl) (fun _ => Nat.le_of_ble_eq_true rfl) (by
    intro R
    rw [show loopsOf (codeOf Try.f113) = [] from by kernel_rfl]
    exact allM_nil) (fun R x k => q113 F113 R x k)
abbrev FT119 : Type 1 := (R : Type) → (List Int) → ((List Int) → Option R) → Option R
def en119 (F : FT119) : Ent := ⟨119, [(false, (.sl (.int .u8)))], [(true, (.int .u8))], fun R x k => F R x.1 (fun y1 => k (y1, ()) ())⟩
def e119 : Env (RT [(true, (.int .u8))]) := ⟨TT, EQT, 0, 8, ownOf [(2, 0), (3, 0)], fun _ _ _ => none, fun _ _ _ => none, [], inlOf []⟩
def F119 : FT119 := fun R a0 k => match decide (List.length ([] : (List Int)) + List.length a0 ≤ 140737488355328) with | true => k a0 | false => none
theorem ok119 : (en119 F119).OK Try.prog :=
  clone_ok (e := (.int .u8)) e119 ⟨tabOK, eqOK, (fun f b K r h => by cases h), noIns, inlOK_nil⟩ mixed Try.func119 (body := codeOf Try.f119) (by kernel_rfl) (by kernel_rfl) (by kernel_rfl) (res := [(.tmp 2, 33, true)]) (by kernel_rfl) rfl (by decide) (by kernel_rfl) (lim := 140737488355328) (by kernel_rfl) (fun l => by kernel_rfl)
abbrev FT121 : Type 1 := (R : Type) → (List Int) → ((List (List Int)) → (List Int) → Option R) → Option R
def en121 (F : FT121) : Ent := ⟨121, [(false, (.sl (.int .u8)))], [(false, (.sl (.arr 64 (.int .u8)))), (false, (.sl (.int .u8)))], fun R x k => F R x.1 (fun y1 y2 => k (y1, y2, ()) ())⟩
def res121 : List (ResultVar × TypeId × Bool) := [(.tmp 2, 186, false), (.tmp 3, 33, false)]
abbrev LT121_1 : Type 1 := (R : Type) → (List Int) → (List (List Int)) → ((List Int) → (List (List Int)) → Option R) → Option R
def le121_1 (L : LT121_1) : LEnt := ⟨1, [.val 0 (.sl (.int .u8)), .fix 2 (.own 0 0), .row 0 (.arr 64 (.int .u8)) false], 1, [(.exit 0, [.val 0 (.sl (.int .u8)), .fix 2 (.own 0 0), .row 0 (.arr 64 (.int .u8)) false])], fun R x ke => L R x.1 x.2.1 (fun y1 y2 => ke.1 (y1, y2, ()))⟩
noncomputable def e121 (L1 : LT121_1) (R : Type) : Env R := ⟨TT, EQT, 0, 17, ownOf [(0, 0)], callOf [] R, loopOf [le121_1 L1] R, [], inlOf []⟩
def p121_1 : (R : Type) → (List Int) → (List (List Int)) → ((List Int) → (List (List Int)) → Option R) → ((List Int) → (List (List Int)) → Option R) → Option R := fun R x1 x2 kc k0 =>
let v3 := (List.length x1 : Int);
let v4 := (decide (v3 ≥ (64 : Int)));
(match v4 with
| true => (match (decide ((64 : Int) ≤ (List.length x1 : Int))) with
| true => let v5 : (List Int) := (List.take 64 x1);
let v6 : (List (List Int)) := ([v5] : (List (List Int)));
(match (decide (List.length x2 + List.length v6 ≤ 2199023255552)) with
| true => let v7 : (List (List Int)) := (x2 ++ v6);
(match (decide (0 ≤ (64 : Int) ∧ (64 : Int) ≤ (List.length x1 : Int) ∧ (List.length x1 : Int) ≤ (List.length x1 : Int) ∧ (List.length x1 : Int) ≤ (List.length x1 : Int))) with
| true => let v8 : (List Int) := (List.take (Int.toNat ((List.length x1 : Int) - (64 : Int))) (List.drop 64 x1));
kc v8 v7
| false => none)
| false => none)
| false => none)
| false => k0 x1 x2)
theorem q121_1 (L1 : LT121_1) (R : Type) (x : HT (le121_1 L1).H) (kc : HT (le121_1 L1).H → Option R) (ke : KT R (le121_1 L1).exs) :
  exec (e121 L1 R) (lcode 1 (codeOf Try.f121)) (stOf (le121_1 L1).H x 1) (roundK (le121_1 L1).H (le121_1 L1).exs kc ke) =
    p121_1 R x.1 x.2.1 (fun x1 x2 => kc (x1, x2, ())) (fun y1 y2 => ke.1 (y1, y2, ())) := by kernel_rfl
noncomputable def G121_1 : Nat → LT121_1
  | 0 => fun _ _ _ _ => none
  | n + 1 => fun R x1 x2 k0 => p121_1 R x1 x2 (fun x1 x2 => G121_1 n R x1 x2 k0) k0
def p121 (L1 : LT121_1) : FT121 := fun R a0 k =>
L1 R a0 ([] : (List (List Int))) (fun x1 x2 =>
k x2 x1)
theorem q121 (L1 : LT121_1) (F : FT121) (R : Type) (x : AT (en121 F).ins) (k : RT (en121 F).outs → PT (en121 F).ins → Option R) :
  xfun (e121 L1 R) (codeOf Try.f121) res121 (avs (en121 F).ins x) (finK (en121 F).outs (en121 F).ins k) = p121 L1 R x.1 (fun y1 y2 => k (y1, y2, ()) ()) := by kernel_rfl
noncomputable def F121 : FT121 := p121 (G121_1 FUEL)
theorem env121 (R : Type) : EnvOK Try.prog (e121 (G121_1 FUEL) R) := ⟨tabOK, eqOK, callOf_ok allE_nil, noIns, inlOK_nil⟩
noncomputable def T121_1 : (R : Type) → HT (le121_1 (G121_1 FUEL)).H → (HT (le121_1 (G121_1 FUEL)).H → Option R) → KT R (le121_1 (G121_1 FUEL)).exs → Option R := fun R x kc ke => p121_1 R x.1 x.2.1 (fun x1 x2 => kc (x1, x2, ())) (fun y1 y2 => ke.1 (y1, y2, ()))
theorem it121_1 : ∀ (n : Nat) (R : Type) (x : HT (le121_1 (G121_1 FUEL)).H) (ke : KT R (le121_1 (G121_1 FUEL)).exs), iter T121_1 n R x ke = G121_1 n R x.1 x.2.1 (fun y1 y2 => ke.1 (y1, y2, ())) := by
  intro n
  induction n with
  | zero => intro R x ke; rfl
  | succ n ih =>
    intro R x ke
    show T121_1 R x (fun x' => iter T121_1 n R x' ke) ke = _
    rw [show (fun x' => iter T121_1 n R x' ke) = fun x => G121_1 n R x.1 x.2.1 (fun y1 y2 => ke.1 (y1, y2, ())) from funext fun x' => ih R x' ke]
    rfl
theorem lok121_1 : (le121_1 (G121_1 FUEL)).OK Try.prog 0 17 (lcode 1 (codeOf Try.f121)) := fun R x ke r h =>
  iter_sound (fun R => e121 (G121_1 FUEL) R) 0 17 (fun _ => rfl) (fun _ => rfl) (fun R => env121 R) mixed (by
    intro R
    rw [show loopsOf (lcode 1 (codeOf Try.f121)) = [] from by kernel_rfl]
    exact allM_nil) (T := T121_1) (fun R x kc ke => q121_1 (G121_1 FUEL) R x kc ke) FUEL R x ke r ((it121_1 FUEL R x ke).trans h)
theorem ok121 : (en121 F121).OK Try.prog :=
  ent_ok (Ef := fun R => e121 (G121_1 FUEL) R) (fun R => env121 R) mixed Try.func121 (body := codeOf Try.f121) (by kernel_rfl) (by kernel_rfl) (np := 0) (nt := 17) (fun _ => rfl) (fun _ => rfl) (by kernel_rfl) (res := res121) (by kernel_rfl) (fun _ => rfl) (fun _ => Nat.le_of_ble_eq_true rfl) (by
    intro R
    rw [show loopsOf (codeOf Try.f121) = [lcode 1 (codeOf Try.f121)] from by kernel_rfl]
    exact (allM_cons (loop_ok2 (e := le121_1 (G121_1 FUEL)) rfl rfl lok121_1) allM_nil)) (fun R x k => q121 (G121_1 FUEL) F121 R x k)
abbrev FT124 : Type 1 := (R : Type) → ((List Int) → Option R) → Option R
def en124 (F : FT124) : Ent := ⟨124, [], [(false, (.arr 64 (.int .u32)))], fun R x k => F R  (fun y1 => k (y1, ()) ())⟩
def res124 : List (ResultVar × TypeId × Bool) := [(.cell 0 193, 193, false)]
noncomputable def e124 (R : Type) : Env R := ⟨TT, EQT, 0, 2, ownOf [], callOf [] R, loopOf [] R, [], inlOf []⟩
def p124 : FT124 := fun R k =>
let v1 : (List Int) := (List.set (List.set (List.set (List.set (List.set (List.set (List.set (List.set (List.set (List.set (List.set (List.set (List.set (List.set (List.set (List.set (List.set (List.set (List.set (List.set (List.set (List.set (List.set (List.set (List.set (List.set (List.set (List.set (List.set (List.set (List.set (List.set (List.set (List.set (List.set (List.set (List.set (List.set (List.set (List.set (List.set (List.set (List.set (List.set (List.set (List.set (List.set (List.set (List.set (List.set (List.set (List.set (List.set (List.set (List.set (List.set (List.set (List.set (List.set (List.set (List.set (List.set (List.set (List.set (List.replicate 64 (0 : Int)) 0 (1116352408 : Int)) 1 (1899447441 : Int)) 2 (3049323471 : Int)) 3 (3921009573 : Int)) 4 (961987163 : Int)) 5 (1508970993 : Int)) 6 (2453635748 : Int)) 7 (2870763221 : Int)) 8 (3624381080 : Int)) 9 (310598401 : Int)) 10 (607225278 : Int)) 11 (1426881987 : Int)) 12 (1925078388 : Int)) 13 (2162078206 : Int)) 14 (2614888103 : Int)) 15 (3248222580 : Int)) 16 (3835390401 : Int)) 17 (4022224774 : Int)) 18 (264347078 : Int)) 19 (604807628 : Int)) 20 (770255983 : Int)) 21 (1249150122 : Int)) 22 (1555081692 : Int)) 23 (1996064986 : Int)) 24 (2554220882 : Int)) 25 (2821834349 : Int)) 26 (2952996808 : Int)) 27 (3210313671 : Int)) 28 (3336571891 : Int)) 29 (3584528711 : Int)) 30 (113926993 : Int)) 31 (338241895 : Int)) 32 (666307205 : Int)) 33 (773529912 : Int)) 34 (1294757372 : Int)) 35 (1396182291 : Int)) 36 (1695183700 : Int)) 37 (1986661051 : Int)) 38 (2177026350 : Int)) 39 (2456956037 : Int)) 40 (2730485921 : Int)) 41 (2820302411 : Int)) 42 (3259730800 : Int)) 43 (3345764771 : Int)) 44 (3516065817 : Int)) 45 (3600352804 : Int)) 46 (4094571909 : Int)) 47 (275423344 : Int)) 48 (430227734 : Int)) 49 (506948616 : Int)) 50 (659060556 : Int)) 51 (883997877 : Int)) 52 (958139571 : Int)) 53 (1322822218 : Int)) 54 (1537002063 : Int)) 55 (1747873779 : Int)) 56 (1955562222 : Int)) 57 (2024104815 : Int)) 58 (2227730452 : Int)) 59 (2361852424 : Int)) 60 (2428436474 : Int)) 61 (2756734187 : Int)) 62 (3204031479 : Int)) 63 (3329325298 : Int));
k v1
theorem q124 (F : FT124) (R : Type) (x : AT (en124 F).ins) (k : RT (en124 F).outs → PT (en124 F).ins → Option R) :
  xfun (e124 R) (codeOf Try.f124) res124 (avs (en124 F).ins x) (finK (en124 F).outs (en124 F).ins k) = p124 R  (fun y1 => k (y1, ()) ()) := by kernel_rfl
noncomputable def F124 : FT124 := p124
theorem env124 (R : Type) : EnvOK Try.prog (e124 R) := ⟨tabOK, eqOK, callOf_ok allE_nil, noIns, inlOK_nil⟩
theorem ok124 : (en124 F124).OK Try.prog :=
  ent_ok (Ef := fun R => e124 R) (fun R => env124 R) mixed Try.func124 (body := codeOf Try.f124) (by kernel_rfl) (by kernel_rfl) (np := 0) (nt := 2) (fun _ => rfl) (fun _ => rfl) (by kernel_rfl) (res := res124) (by kernel_rfl) (fun _ => rfl) (fun _ => Nat.le_of_ble_eq_true rfl) (by
    intro R
    rw [show loopsOf (codeOf Try.f124) = [] from by kernel_rfl]
    exact allM_nil) (fun R x k => q124 F124 R x k)
abbrev FT127 : Type 1 := (R : Type) → (List Int) → (Int → Option R) → Option R
def en127 (F : FT127) : Ent := ⟨127, [(false, (.arr 4 (.int .u8)))], [(false, (.int .u32))], fun R x k => F R x.1 (fun y1 => k (y1, ()) ())⟩
def res127 : List (ResultVar × TypeId × Bool) := [(.tmp 2, 74, false)]
abbrev LT127_2 : Type 1 := (R : Type) → Int → (List Int) → Int → (Int → Option R) → Option R
def le127_2 (L : LT127_2) : LEnt := ⟨2, [.val 2 (.int .u32), .val 5 (.arr 4 (.int .u8)), .val 6 (.int .i64)], 0, [(.exit 0, [.val 2 (.int .u32)])], fun R x ke => L R x.1 x.2.1 x.2.2.1 (fun y1 => ke.1 (y1, ()))⟩
noncomputable def e127 (L2 : LT127_2) (R : Type) : Env R := ⟨TT, EQT, 0, 16, ownOf [], callOf [] R, loopOf [le127_2 L2] R, [], inlOf []⟩
def p127_2 : (R : Type) → Int → (List Int) → Int → (Int → (List Int) → Int → Option R) → (Int → Option R) → Option R := fun R x1 x2 x3 kc k0 =>
let v4 := (decide (x3 < (4 : Int)));
(match v4 with
| true => (match (bnd x3 (4 : Int)) with
| true => let v5 := (List.getD x2 (Int.toNat x3) (0 : Int));
let v6 := (ishl .u32 x1 (8 : Int));
let v7 := (IntKind.u32.wrap v5);
let v8 := (ior .u32 v6 v7);
let v9 := (IntKind.i64.wrap (x3 + (1 : Int)));
kc v8 x2 v9
| false => none)
| false => k0 x1)
theorem q127_2 (L2 : LT127_2) (R : Type) (x : HT (le127_2 L2).H) (kc : HT (le127_2 L2).H → Option R) (ke : KT R (le127_2 L2).exs) :
  exec (e127 L2 R) (lcode 2 (codeOf Try.f127)) (stOf (le127_2 L2).H x 0) (roundK (le127_2 L2).H (le127_2 L2).exs kc ke) =
    p127_2 R x.1 x.2.1 x.2.2.1 (fun x1 x2 x3 => kc (x1, x2, x3, ())) (fun y1 => ke.1 (y1, ())) := by kernel_rfl
noncomputable def G127_2 : Nat → LT127_2
  | 0 => fun _ _ _ _ _ => none
  | n + 1 => fun R x1 x2 x3 k0 => p127_2 R x1 x2 x3 (fun x1 x2 x3 => G127_2 n R x1 x2 x3 k0) k0
def p127 (L2 : LT127_2) : FT127 := fun R a0 k =>
L2 R (0 : Int) a0 (0 : Int) (fun x1 =>
k x1)
theorem q127 (L2 : LT127_2) (F : FT127) (R : Type) (x : AT (en127 F).ins) (k : RT (en127 F).outs → PT (en127 F).ins → Option R) :
  xfun (e127 L2 R) (codeOf Try.f127) res127 (avs (en127 F).ins x) (finK (en127 F).outs (en127 F).ins k) = p127 L2 R x.1 (fun y1 => k (y1, ()) ()) := by kernel_rfl
noncomputable def F127 : FT127 := p127 (G127_2 FUEL)
theorem env127 (R : Type) : EnvOK Try.prog (e127 (G127_2 FUEL) R) := ⟨tabOK, eqOK, callOf_ok allE_nil, noIns, inlOK_nil⟩
noncomputable def T127_2 : (R : Type) → HT (le127_2 (G127_2 FUEL)).H → (HT (le127_2 (G127_2 FUEL)).H → Option R) → KT R (le127_2 (G127_2 FUEL)).exs → Option R := fun R x kc ke => p127_2 R x.1 x.2.1 x.2.2.1 (fun x1 x2 x3 => kc (x1, x2, x3, ())) (fun y1 => ke.1 (y1, ()))
theorem it127_2 : ∀ (n : Nat) (R : Type) (x : HT (le127_2 (G127_2 FUEL)).H) (ke : KT R (le127_2 (G127_2 FUEL)).exs), iter T127_2 n R x ke = G127_2 n R x.1 x.2.1 x.2.2.1 (fun y1 => ke.1 (y1, ())) := by
  intro n
  induction n with
  | zero => intro R x ke; rfl
  | succ n ih =>
    intro R x ke
    show T127_2 R x (fun x' => iter T127_2 n R x' ke) ke = _
    rw [show (fun x' => iter T127_2 n R x' ke) = fun x => G127_2 n R x.1 x.2.1 x.2.2.1 (fun y1 => ke.1 (y1, ())) from funext fun x' => ih R x' ke]
    rfl
theorem lok127_2 : (le127_2 (G127_2 FUEL)).OK Try.prog 0 16 (lcode 2 (codeOf Try.f127)) := fun R x ke r h =>
  iter_sound (fun R => e127 (G127_2 FUEL) R) 0 16 (fun _ => rfl) (fun _ => rfl) (fun R => env127 R) mixed (by
    intro R
    rw [show loopsOf (lcode 2 (codeOf Try.f127)) = [] from by kernel_rfl]
    exact allM_nil) (T := T127_2) (fun R x kc ke => q127_2 (G127_2 FUEL) R x kc ke) FUEL R x ke r ((it127_2 FUEL R x ke).trans h)
theorem ok127 : (en127 F127).OK Try.prog :=
  ent_ok (Ef := fun R => e127 (G127_2 FUEL) R) (fun R => env127 R) mixed Try.func127 (body := codeOf Try.f127) (by kernel_rfl) (by kernel_rfl) (np := 0) (nt := 16) (fun _ => rfl) (fun _ => rfl) (by kernel_rfl) (res := res127) (by kernel_rfl) (fun _ => rfl) (fun _ => Nat.le_of_ble_eq_true rfl) (by
    intro R
    rw [show loopsOf (codeOf Try.f127) = [lcode 2 (codeOf Try.f127)] from by kernel_rfl]
    exact (allM_cons (loop_ok2 (e := le127_2 (G127_2 FUEL)) rfl rfl lok127_2) allM_nil)) (fun R x k => q127 (G127_2 FUEL) F127 R x k)
abbrev FT134 : Type 1 := (R : Type) → Int → Int → (Int → Option R) → Option R
def en134 (F : FT134) : Ent := ⟨134, [(false, (.int .u32)), (false, (.int .i64))], [(false, (.int .u32))], fun R x k => F R x.1 x.2.1 (fun y1 => k (y1, ()) ())⟩
def res134 : List (ResultVar × TypeId × Bool) := [(.tmp 4, 74, false)]
noncomputable def e134 (R : Type) : Env R := ⟨TT, EQT, 0, 17, ownOf [], callOf [] R, loopOf [] R, [], inlOf []⟩
def p134 : FT134 := fun R a0 a1 k =>
let v1 := (IntKind.u64.wrap a1);
let v2 := (Int.tmod v1 (32 : Int));
(match (decide (0 ≤ v2)) with
| true => let v3 := (ishr .u32 a0 v2);
let v4 := (IntKind.u64.wrap ((32 : Int) - v2));
(match (decide (0 ≤ v4)) with
| true => let v5 := (ishl .u32 a0 v4);
let v6 := (ior .u32 v3 v5);
k v6
| false => none)
| false => none)
theorem q134 (F : FT134) (R : Type) (x : AT (en134 F).ins) (k : RT (en134 F).outs → PT (en134 F).ins → Option R) :
  xfun (e134 R) (codeOf Try.f134) res134 (avs (en134 F).ins x) (finK (en134 F).outs (en134 F).ins k) = p134 R x.1 x.2.1 (fun y1 => k (y1, ()) ()) := by kernel_rfl
noncomputable def F134 : FT134 := p134
theorem env134 (R : Type) : EnvOK Try.prog (e134 R) := ⟨tabOK, eqOK, callOf_ok allE_nil, noIns, inlOK_nil⟩
theorem ok134 : (en134 F134).OK Try.prog :=
  ent_ok (Ef := fun R => e134 R) (fun R => env134 R) mixed Try.func134 (body := codeOf Try.f134) (by kernel_rfl) (by kernel_rfl) (np := 0) (nt := 17) (fun _ => rfl) (fun _ => rfl) (by kernel_rfl) (res := res134) (by kernel_rfl) (fun _ => rfl) (fun _ => Nat.le_of_ble_eq_true rfl) (by
    intro R
    rw [show loopsOf (codeOf Try.f134) = [] from by kernel_rfl]
    exact allM_nil) (fun R x k => q134 F134 R x k)
abbrev FT135 : Type 1 := (R : Type) → Int → Int → (Int → Option R) → Option R
def en135 (F : FT135) : Ent := ⟨135, [(false, (.int .u32)), (false, (.int .i64))], [(false, (.int .u32))], fun R x k => F R x.1 x.2.1 (fun y1 => k (y1, ()) ())⟩
def res135 : List (ResultVar × TypeId × Bool) := [(.tmp 4, 74, false)]
noncomputable def e135 (R : Type) : Env R := ⟨TT, EQT, 0, 10, ownOf [], callOf [] R, loopOf [] R, [], inlOf []⟩
def p135 : FT135 := fun R a0 a1 k =>
let v1 := (if (0 : Int) > a1 then (0 : Int) else a1);
let v2 := (IntKind.u64.wrap v1);
(match (decide (0 ≤ v2)) with
| true => let v3 := (ishr .u32 a0 v2);
k v3
| false => none)
theorem q135 (F : FT135) (R : Type) (x : AT (en135 F).ins) (k : RT (en135 F).outs → PT (en135 F).ins → Option R) :
  xfun (e135 R) (codeOf Try.f135) res135 (avs (en135 F).ins x) (finK (en135 F).outs (en135 F).ins k) = p135 R x.1 x.2.1 (fun y1 => k (y1, ()) ()) := by kernel_rfl
noncomputable def F135 : FT135 := p135
theorem env135 (R : Type) : EnvOK Try.prog (e135 R) := ⟨tabOK, eqOK, callOf_ok allE_nil, noIns, inlOK_nil⟩
theorem ok135 : (en135 F135).OK Try.prog :=
  ent_ok (Ef := fun R => e135 R) (fun R => env135 R) mixed Try.func135 (body := codeOf Try.f135) (by kernel_rfl) (by kernel_rfl) (np := 0) (nt := 10) (fun _ => rfl) (fun _ => rfl) (by kernel_rfl) (res := res135) (by kernel_rfl) (fun _ => rfl) (fun _ => Nat.le_of_ble_eq_true rfl) (by
    intro R
    rw [show loopsOf (codeOf Try.f135) = [] from by kernel_rfl]
    exact allM_nil) (fun R x k => q135 F135 R x k)
abbrev FT132 : Type 1 := (R : Type) → Int → Int → Int → Int → (Int → Option R) → Option R
def en132 (F : FT132) : Ent := ⟨132, [(false, (.int .u32)), (false, (.int .i64)), (false, (.int .i64)), (false, (.int .i64))], [(false, (.int .u32))], fun R x k => F R x.1 x.2.1 x.2.2.1 x.2.2.2.1 (fun y1 => k (y1, ()) ())⟩
def res132 : List (ResultVar × TypeId × Bool) := [(.tmp 8, 74, false)]
noncomputable def e132 (F134 : FT134) (F135 : FT135) (R : Type) : Env R := ⟨TT, EQT, 0, 20, ownOf [], callOf [en134 F134, en135 F135] R, loopOf [] R, [], inlOf []⟩
def p132 (F134 : FT134) (F135 : FT135) : FT132 := fun R a0 a1 a2 a3 k =>
F134 R a0 a1 fun y1 =>
F134 R a0 a2 fun y2 =>
let v3 := (ixor .u32 y1 y2);
F135 R a0 a3 fun y4 =>
let v5 := (ixor .u32 v3 y4);
k v5
theorem q132 (F134 : FT134) (F135 : FT135) (F : FT132) (R : Type) (x : AT (en132 F).ins) (k : RT (en132 F).outs → PT (en132 F).ins → Option R) :
  xfun (e132 F134 F135 R) (codeOf Try.f132) res132 (avs (en132 F).ins x) (finK (en132 F).outs (en132 F).ins k) = p132 F134 F135 R x.1 x.2.1 x.2.2.1 x.2.2.2.1 (fun y1 => k (y1, ()) ()) := by kernel_rfl
noncomputable def F132 : FT132 := p132 F134 F135
theorem env132 (R : Type) : EnvOK Try.prog (e132 F134 F135 R) := ⟨tabOK, eqOK, callOf_ok (allE_cons ok134 (allE_cons ok135 allE_nil)), noIns, inlOK_nil⟩
theorem ok132 : (en132 F132).OK Try.prog :=
  ent_ok (Ef := fun R => e132 F134 F135 R) (fun R => env132 R) mixed Try.func132 (body := codeOf Try.f132) (by kernel_rfl) (by kernel_rfl) (np := 0) (nt := 20) (fun _ => rfl) (fun _ => rfl) (by kernel_rfl) (res := res132) (by kernel_rfl) (fun _ => rfl) (fun _ => Nat.le_of_ble_eq_true rfl) (by
    intro R
    rw [show loopsOf (codeOf Try.f132) = [] from by kernel_rfl]
    exact allM_nil) (fun R x k => q132 F134 F135 F132 R x k)
abbrev FT128 : Type 1 := (R : Type) → Int → (Int → Option R) → Option R
def en128 (F : FT128) : Ent := ⟨128, [(false, (.int .u32))], [(false, (.int .u32))], fun R x k => F R x.1 (fun y1 => k (y1, ()) ())⟩
def res128 : List (ResultVar × TypeId × Bool) := [(.tmp 2, 74, false)]
noncomputable def e128 (F132 : FT132) (R : Type) : Env R := ⟨TT, EQT, 0, 5, ownOf [], callOf [en132 F132] R, loopOf [] R, [], inlOf []⟩
def p128 (F132 : FT132) : FT128 := fun R a0 k =>
F132 R a0 (17 : Int) (19 : Int) (10 : Int) fun y1 =>
k y1
theorem q128 (F132 : FT132) (F : FT128) (R : Type) (x : AT (en128 F).ins) (k : RT (en128 F).outs → PT (en128 F).ins → Option R) :
  xfun (e128 F132 R) (codeOf Try.f128) res128 (avs (en128 F).ins x) (finK (en128 F).outs (en128 F).ins k) = p128 F132 R x.1 (fun y1 => k (y1, ()) ()) := by kernel_rfl
noncomputable def F128 : FT128 := p128 F132
theorem env128 (R : Type) : EnvOK Try.prog (e128 F132 R) := ⟨tabOK, eqOK, callOf_ok (allE_cons ok132 allE_nil), noIns, inlOK_nil⟩
theorem ok128 : (en128 F128).OK Try.prog :=
  ent_ok (Ef := fun R => e128 F132 R) (fun R => env128 R) mixed Try.func128 (body := codeOf Try.f128) (by kernel_rfl) (by kernel_rfl) (np := 0) (nt := 5) (fun _ => rfl) (fun _ => rfl) (by kernel_rfl) (res := res128) (by kernel_rfl) (fun _ => rfl) (fun _ => Nat.le_of_ble_eq_true rfl) (by
    intro R
    rw [show loopsOf (codeOf Try.f128) = [] from by kernel_rfl]
    exact allM_nil) (fun R x k => q128 F132 F128 R x k)
abbrev FT129 : Type 1 := (R : Type) → Int → (Int → Option R) → Option R
def en129 (F : FT129) : Ent := ⟨129, [(false, (.int .u32))], [(false, (.int .u32))], fun R x k => F R x.1 (fun y1 => k (y1, ()) ())⟩
def res129 : List (ResultVar × TypeId × Bool) := [(.tmp 2, 74, false)]
noncomputable def e129 (F132 : FT132) (R : Type) : Env R := ⟨TT, EQT, 0, 5, ownOf [], callOf [en132 F132] R, loopOf [] R, [], inlOf []⟩
def p129 (F132 : FT132) : FT129 := fun R a0 k =>
F132 R a0 (7 : Int) (18 : Int) (3 : Int) fun y1 =>
k y1
theorem q129 (F132 : FT132) (F : FT129) (R : Type) (x : AT (en129 F).ins) (k : RT (en129 F).outs → PT (en129 F).ins → Option R) :
  xfun (e129 F132 R) (codeOf Try.f129) res129 (avs (en129 F).ins x) (finK (en129 F).outs (en129 F).ins k) = p129 F132 R x.1 (fun y1 => k (y1, ()) ()) := by kernel_rfl
noncomputable def F129 : FT129 := p129 F132
theorem env129 (R : Type) : EnvOK Try.prog (e129 F132 R) := ⟨tabOK, eqOK, callOf_ok (allE_cons ok132 allE_nil), noIns, inlOK_nil⟩
theorem ok129 : (en129 F129).OK Try.prog :=
  ent_ok (Ef := fun R => e129 F132 R) (fun R => env129 R) mixed Try.func129 (body := codeOf Try.f129) (by kernel_rfl) (by kernel_rfl) (np := 0) (nt := 5) (fun _ => rfl) (fun _ => rfl) (by kernel_rfl) (res := res129) (by kernel_rfl) (fun _ => rfl) (fun _ => Nat.le_of_ble_eq_true rfl) (by
    intro R
    rw [show loopsOf (codeOf Try.f129) = [] from by kernel_rfl]
    exact allM_nil) (fun R x k => q129 F132 F129 R x k)
abbrev FT125 : Type 1 := (R : Type) → (List Int) → ((List Int) → Option R) → Option R
def en125 (F : FT125) : Ent := ⟨125, [(false, (.arr 64 (.int .u8)))], [(false, (.arr 64 (.int .u32)))], fun R x k => F R x.1 (fun y1 => k (y1, ()) ())⟩
def res125 : List (ResultVar × TypeId × Bool) := [(.cell 2 195, 195, false)]
abbrev LT125_2 : Type 1 := (R : Type) → Int → (List Int) → (List Int) → ((List Int) → Option R) → Option R
def le125_2 (L : LT125_2) : LEnt := ⟨2, [.fix 1 (.ptr 0 [] (.arr 64 (.int .u8))), .fix 2 (.ptr 1 [] (.arr 64 (.int .u32))), .val 5 (.int .i64), .var 0 (.arr 64 (.int .u8)) false, .var 1 (.arr 64 (.int .u32)) false], 2, [(.exit 0, [.fix 2 (.ptr 1 [] (.arr 64 (.int .u32))), .var 1 (.arr 64 (.int .u32)) false])], fun R x ke => L R x.1 x.2.1 x.2.2.1 (fun y1 => ke.1 (y1, ()))⟩
noncomputable def e125 (F127 : FT127) (F128 : FT128) (F129 : FT129) (L2 : LT125_2) (R : Type) : Env R := ⟨TT, EQT, 0, 46, ownOf [], callOf [en127 F127, en128 F128, en129 F129] R, loopOf [le125_2 L2] R, [], inlOf []⟩
def p125_2 (F127 : FT127) (F128 : FT128) (F129 : FT129) : (R : Type) → Int → (List Int) → (List Int) → (Int → (List Int) → (List Int) → Option R) → ((List Int) → Option R) → Option R := fun R x1 x2 x3 kc k0 =>
let v4 := (decide (x1 < (64 : Int)));
(match v4 with
| true => let v5 := (IntKind.i64.wrap ((4 : Int) * x1));
let v6 := (decide (v5 < (64 : Int)));
(match v6 with
| true => let v7 := (IntKind.i64.wrap (v5 + (4 : Int)));
(match (decide (0 ≤ v5 ∧ v5 ≤ v7 ∧ v7 ≤ (64 : Int))) with
| true => (match (decide ((4 : Int) ≤ ((Int.toNat (v7 - v5)) : Nat))) with
| true => let v8 : (List Int) := (List.take 4 (List.drop (Int.toNat v5) x2));
F127 R v8 fun y9 =>
(match (bnd x1 (64 : Int)) with
| true => let v10 : (List Int) := (List.set x3 (Int.toNat x1) y9);
let v11 := (IntKind.i64.wrap (x1 + (1 : Int)));
kc v11 x2 v10
| false => none)
| false => none)
| false => none)
| false => let v12 := (IntKind.i64.wrap (x1 - (2 : Int)));
(match (bnd v12 (64 : Int)) with
| true => let v13 := (List.getD x3 (Int.toNat v12) (0 : Int));
F128 R v13 fun y14 =>
let v15 := (IntKind.i64.wrap (x1 - (7 : Int)));
(match (bnd v15 (64 : Int)) with
| true => let v16 := (List.getD x3 (Int.toNat v15) (0 : Int));
let v17 := (IntKind.u32.wrap (y14 + v16));
let v18 := (IntKind.i64.wrap (x1 - (15 : Int)));
(match (bnd v18 (64 : Int)) with
| true => let v19 := (List.getD x3 (Int.toNat v18) (0 : Int));
F129 R v19 fun y20 =>
let v21 := (IntKind.u32.wrap (v17 + y20));
let v22 := (IntKind.i64.wrap (x1 - (16 : Int)));
(match (bnd v22 (64 : Int)) with
| true => let v23 := (List.getD x3 (Int.toNat v22) (0 : Int));
let v24 := (IntKind.u32.wrap (v21 + v23));
(match (bnd x1 (64 : Int)) with
| true => let v25 : (List Int) := (List.set x3 (Int.toNat x1) v24);
let v26 := (IntKind.i64.wrap (x1 + (1 : Int)));
kc v26 x2 v25
| false => none)
| false => none)
| false => none)
| false => none)
| false => none))
| false => k0 x3)
theorem q125_2 (F127 : FT127) (F128 : FT128) (F129 : FT129) (L2 : LT125_2) (R : Type) (x : HT (le125_2 L2).H) (kc : HT (le125_2 L2).H → Option R) (ke : KT R (le125_2 L2).exs) :
  exec (e125 F127 F128 F129 L2 R) (lcode 2 (codeOf Try.f125)) (stOf (le125_2 L2).H x 2) (roundK (le125_2 L2).H (le125_2 L2).exs kc ke) =
    p125_2 F127 F128 F129 R x.1 x.2.1 x.2.2.1 (fun x1 x2 x3 => kc (x1, x2, x3, ())) (fun y1 => ke.1 (y1, ())) := by kernel_rfl
noncomputable def G125_2 : Nat → LT125_2
  | 0 => fun _ _ _ _ _ => none
  | n + 1 => fun R x1 x2 x3 k0 => p125_2 F127 F128 F129 R x1 x2 x3 (fun x1 x2 x3 => G125_2 n R x1 x2 x3 k0) k0
def p125 (L2 : LT125_2) : FT125 := fun R a0 k =>
L2 R (0 : Int) a0 (List.replicate 64 (0 : Int)) (fun x1 =>
k x1)
theorem q125 (F127 : FT127) (F128 : FT128) (F129 : FT129) (L2 : LT125_2) (F : FT125) (R : Type) (x : AT (en125 F).ins) (k : RT (en125 F).outs → PT (en125 F).ins → Option R) :
  xfun (e125 F127 F128 F129 L2 R) (codeOf Try.f125) res125 (avs (en125 F).ins x) (finK (en125 F).outs (en125 F).ins k) = p125 L2 R x.1 (fun y1 => k (y1, ()) ()) := by kernel_rfl
noncomputable def F125 : FT125 := p125 (G125_2 FUEL)
theorem env125 (R : Type) : EnvOK Try.prog (e125 F127 F128 F129 (G125_2 FUEL) R) := ⟨tabOK, eqOK, callOf_ok (allE_cons ok127 (allE_cons ok128 (allE_cons ok129 allE_nil))), noIns, inlOK_nil⟩
noncomputable def T125_2 : (R : Type) → HT (le125_2 (G125_2 FUEL)).H → (HT (le125_2 (G125_2 FUEL)).H → Option R) → KT R (le125_2 (G125_2 FUEL)).exs → Option R := fun R x kc ke => p125_2 F127 F128 F129 R x.1 x.2.1 x.2.2.1 (fun x1 x2 x3 => kc (x1, x2, x3, ())) (fun y1 => ke.1 (y1, ()))
theorem it125_2 : ∀ (n : Nat) (R : Type) (x : HT (le125_2 (G125_2 FUEL)).H) (ke : KT R (le125_2 (G125_2 FUEL)).exs), iter T125_2 n R x ke = G125_2 n R x.1 x.2.1 x.2.2.1 (fun y1 => ke.1 (y1, ())) := by
  intro n
  induction n with
  | zero => intro R x ke; rfl
  | succ n ih =>
    intro R x ke
    show T125_2 R x (fun x' => iter T125_2 n R x' ke) ke = _
    rw [show (fun x' => iter T125_2 n R x' ke) = fun x => G125_2 n R x.1 x.2.1 x.2.2.1 (fun y1 => ke.1 (y1, ())) from funext fun x' => ih R x' ke]
    rfl
theorem lok125_2 : (le125_2 (G125_2 FUEL)).OK Try.prog 0 46 (lcode 2 (codeOf Try.f125)) := fun R x ke r h =>
  iter_sound (fun R => e125 F127 F128 F129 (G125_2 FUEL) R) 0 46 (fun _ => rfl) (fun _ => rfl) (fun R => env125 R) mixed (by
    intro R
    rw [show loopsOf (lcode 2 (codeOf Try.f125)) = [] from by kernel_rfl]
    exact allM_nil) (T := T125_2) (fun R x kc ke => q125_2 F127 F128 F129 (G125_2 FUEL) R x kc ke) FUEL R x ke r ((it125_2 FUEL R x ke).trans h)
theorem ok125 : (en125 F125).OK Try.prog :=
  ent_ok (Ef := fun R => e125 F127 F128 F129 (G125_2 FUEL) R) (fun R => env125 R) mixed Try.func125 (body := codeOf Try.f125) (by kernel_rfl) (by kernel_rfl) (np := 0) (nt := 46) (fun _ => rfl) (fun _ => rfl) (by kernel_rfl) (res := res125) (by kernel_rfl) (fun _ => rfl) (fun _ => Nat.le_of_ble_eq_true rfl) (by
    intro R
    rw [show loopsOf (codeOf Try.f125) = [lcode 2 (codeOf Try.f125)] from by kernel_rfl]
    exact (allM_cons (loop_ok2 (e := le125_2 (G125_2 FUEL)) rfl rfl lok125_2) allM_nil)) (fun R x k => q125 F127 F128 F129 (G125_2 FUEL) F125 R x k)
abbrev FT133 : Type 1 := (R : Type) → Int → Int → Int → Int → (Int → Option R) → Option R
def en133 (F : FT133) : Ent := ⟨133, [(false, (.int .u32)), (false, (.int .i64)), (false, (.int .i64)), (false, (.int .i64))], [(false, (.int .u32))], fun R x k => F R x.1 x.2.1 x.2.2.1 x.2.2.2.1 (fun y1 => k (y1, ()) ())⟩
def res133 : List (ResultVar × TypeId × Bool) := [(.tmp 8, 74, false)]
noncomputable def e133 (F134 : FT134) (R : Type) : Env R := ⟨TT, EQT, 0, 20, ownOf [], callOf [en134 F134] R, loopOf [] R, [], inlOf []⟩
def p133 (F134 : FT134) : FT133 := fun R a0 a1 a2 a3 k =>
F134 R a0 a1 fun y1 =>
F134 R a0 a2 fun y2 =>
let v3 := (ixor .u32 y1 y2);
F134 R a0 a3 fun y4 =>
let v5 := (ixor .u32 v3 y4);
k v5
theorem q133 (F134 : FT134) (F : FT133) (R : Type) (x : AT (en133 F).ins) (k : RT (en133 F).outs → PT (en133 F).ins → Option R) :
  xfun (e133 F134 R) (codeOf Try.f133) res133 (avs (en133 F).ins x) (finK (en133 F).outs (en133 F).ins k) = p133 F134 R x.1 x.2.1 x.2.2.1 x.2.2.2.1 (fun y1 => k (y1, ()) ()) := by kernel_rfl
noncomputable def F133 : FT133 := p133 F134
theorem env133 (R : Type) : EnvOK Try.prog (e133 F134 R) := ⟨tabOK, eqOK, callOf_ok (allE_cons ok134 allE_nil), noIns, inlOK_nil⟩
theorem ok133 : (en133 F133).OK Try.prog :=
  ent_ok (Ef := fun R => e133 F134 R) (fun R => env133 R) mixed Try.func133 (body := codeOf Try.f133) (by kernel_rfl) (by kernel_rfl) (np := 0) (nt := 20) (fun _ => rfl) (fun _ => rfl) (by kernel_rfl) (res := res133) (by kernel_rfl) (fun _ => rfl) (fun _ => Nat.le_of_ble_eq_true rfl) (by
    intro R
    rw [show loopsOf (codeOf Try.f133) = [] from by kernel_rfl]
    exact allM_nil) (fun R x k => q133 F134 F133 R x k)
abbrev FT130 : Type 1 := (R : Type) → Int → Int → Int → (Int → Option R) → Option R
def en130 (F : FT130) : Ent := ⟨130, [(false, (.int .u32)), (false, (.int .u32)), (false, (.int .u32))], [(false, (.int .u32))], fun R x k => F R x.1 x.2.1 x.2.2.1 (fun y1 => k (y1, ()) ())⟩
def res130 : List (ResultVar × TypeId × Bool) := [(.tmp 6, 74, false)]
noncomputable def e130 (F133 : FT133) (R : Type) : Env R := ⟨TT, EQT, 0, 18, ownOf [], callOf [en133 F133] R, loopOf [] R, [], inlOf []⟩
def p130 (F133 : FT133) : FT130 := fun R a0 a1 a2 k =>
F133 R a0 (6 : Int) (11 : Int) (25 : Int) fun y1 =>
let v2 := (iand .u32 a0 a1);
let v3 := (ixor .u32 (4294967295 : Int) a0);
let v4 := (iand .u32 v3 a2);
let v5 := (ixor .u32 v2 v4);
let v6 := (IntKind.u32.wrap (y1 + v5));
k v6
theorem q130 (F133 : FT133) (F : FT130) (R : Type) (x : AT (en130 F).ins) (k : RT (en130 F).outs → PT (en130 F).ins → Option R) :
  xfun (e130 F133 R) (codeOf Try.f130) res130 (avs (en130 F).ins x) (finK (en130 F).outs (en130 F).ins k) = p130 F133 R x.1 x.2.1 x.2.2.1 (fun y1 => k (y1, ()) ()) := by kernel_rfl
noncomputable def F130 : FT130 := p130 F133
theorem env130 (R : Type) : EnvOK Try.prog (e130 F133 R) := ⟨tabOK, eqOK, callOf_ok (allE_cons ok133 allE_nil), noIns, inlOK_nil⟩
theorem ok130 : (en130 F130).OK Try.prog :=
  ent_ok (Ef := fun R => e130 F133 R) (fun R => env130 R) mixed Try.func130 (body := codeOf Try.f130) (by kernel_rfl) (by kernel_rfl) (np := 0) (nt := 18) (fun _ => rfl) (fun _ => rfl) (by kernel_rfl) (res := res130) (by kernel_rfl) (fun _ => rfl) (fun _ => Nat.le_of_ble_eq_true rfl) (by
    intro R
    rw [show loopsOf (codeOf Try.f130) = [] from by kernel_rfl]
    exact allM_nil) (fun R x k => q130 F133 F130 R x k)
abbrev FT131 : Type 1 := (R : Type) → Int → Int → Int → (Int → Option R) → Option R
def en131 (F : FT131) : Ent := ⟨131, [(false, (.int .u32)), (false, (.int .u32)), (false, (.int .u32))], [(false, (.int .u32))], fun R x k => F R x.1 x.2.1 x.2.2.1 (fun y1 => k (y1, ()) ())⟩
def res131 : List (ResultVar × TypeId × Bool) := [(.tmp 6, 74, false)]
noncomputable def e131 (F133 : FT133) (R : Type) : Env R := ⟨TT, EQT, 0, 21, ownOf [], callOf [en133 F133] R, loopOf [] R, [], inlOf []⟩
def p131 (F133 : FT133) : FT131 := fun R a0 a1 a2 k =>
F133 R a0 (2 : Int) (13 : Int) (22 : Int) fun y1 =>
let v2 := (iand .u32 a0 a1);
let v3 := (iand .u32 a0 a2);
let v4 := (ixor .u32 v2 v3);
let v5 := (iand .u32 a1 a2);
let v6 := (ixor .u32 v4 v5);
let v7 := (IntKind.u32.wrap (y1 + v6));
k v7
theorem q131 (F133 : FT133) (F : FT131) (R : Type) (x : AT (en131 F).ins) (k : RT (en131 F).outs → PT (en131 F).ins → Option R) :
  xfun (e131 F133 R) (codeOf Try.f131) res131 (avs (en131 F).ins x) (finK (en131 F).outs (en131 F).ins k) = p131 F133 R x.1 x.2.1 x.2.2.1 (fun y1 => k (y1, ()) ()) := by kernel_rfl
noncomputable def F131 : FT131 := p131 F133
theorem env131 (R : Type) : EnvOK Try.prog (e131 F133 R) := ⟨tabOK, eqOK, callOf_ok (allE_cons ok133 allE_nil), noIns, inlOK_nil⟩
theorem ok131 : (en131 F131).OK Try.prog :=
  ent_ok (Ef := fun R => e131 F133 R) (fun R => env131 R) mixed Try.func131 (body := codeOf Try.f131) (by kernel_rfl) (by kernel_rfl) (np := 0) (nt := 21) (fun _ => rfl) (fun _ => rfl) (by kernel_rfl) (res := res131) (by kernel_rfl) (fun _ => rfl) (fun _ => Nat.le_of_ble_eq_true rfl) (by
    intro R
    rw [show loopsOf (codeOf Try.f131) = [] from by kernel_rfl]
    exact allM_nil) (fun R x k => q131 F133 F131 R x k)
abbrev FT126 : Type 1 := (R : Type) → (List Int) → Int → Int → ((List Int) → Option R) → Option R
def en126 (F : FT126) : Ent := ⟨126, [(false, (.arr 8 (.int .u32))), (false, (.int .u32)), (false, (.int .u32))], [(false, (.arr 8 (.int .u32)))], fun R x k => F R x.1 x.2.1 x.2.2.1 (fun y1 => k (y1, ()) ())⟩
def res126 : List (ResultVar × TypeId × Bool) := [(.cell 6 167, 167, false)]
noncomputable def e126 (F130 : FT130) (F131 : FT131) (R : Type) : Env R := ⟨TT, EQT, 0, 41, ownOf [], callOf [en130 F130, en131 F131] R, loopOf [] R, [], inlOf []⟩
def p126 (F130 : FT130) (F131 : FT131) : FT126 := fun R a0 a1 a2 k =>
let v1 := (List.getD a0 7 (0 : Int));
let v2 := (List.getD a0 4 (0 : Int));
let v3 := (List.getD a0 5 (0 : Int));
let v4 := (List.getD a0 6 (0 : Int));
F130 R v2 v3 v4 fun y5 =>
let v6 := (IntKind.u32.wrap (v1 + y5));
let v7 := (IntKind.u32.wrap (v6 + a2));
let v8 := (IntKind.u32.wrap (v7 + a1));
let v9 : (List Int) := (lay (List.replicate 8 (0 : Int)) 1 (List.take 7 (List.take 7 (List.drop 0 a0))));
let v10 := (List.getD a0 0 (0 : Int));
let v11 := (List.getD a0 1 (0 : Int));
let v12 := (List.getD a0 2 (0 : Int));
F131 R v10 v11 v12 fun y13 =>
let v14 := (IntKind.u32.wrap (v8 + y13));
let v15 : (List Int) := (List.set v9 0 v14);
let v16 := (List.getD v15 4 (0 : Int));
let v17 := (IntKind.u32.wrap (v16 + v8));
let v18 : (List Int) := (List.set v15 4 v17);
k v18
theorem q126 (F130 : FT130) (F131 : FT131) (F : FT126) (R : Type) (x : AT (en126 F).ins) (k : RT (en126 F).outs → PT (en126 F).ins → Option R) :
  xfun (e126 F130 F131 R) (codeOf Try.f126) res126 (avs (en126 F).ins x) (finK (en126 F).outs (en126 F).ins k) = p126 F130 F131 R x.1 x.2.1 x.2.2.1 (fun y1 => k (y1, ()) ()) := by kernel_rfl
noncomputable def F126 : FT126 := p126 F130 F131
theorem env126 (R : Type) : EnvOK Try.prog (e126 F130 F131 R) := ⟨tabOK, eqOK, callOf_ok (allE_cons ok130 (allE_cons ok131 allE_nil)), noIns, inlOK_nil⟩
theorem ok126 : (en126 F126).OK Try.prog :=
  ent_ok (Ef := fun R => e126 F130 F131 R) (fun R => env126 R) mixed Try.func126 (body := codeOf Try.f126) (by kernel_rfl) (by kernel_rfl) (np := 0) (nt := 41) (fun _ => rfl) (fun _ => rfl) (by kernel_rfl) (res := res126) (by kernel_rfl) (fun _ => rfl) (fun _ => Nat.le_of_ble_eq_true rfl) (by
    intro R
    rw [show loopsOf (codeOf Try.f126) = [] from by kernel_rfl]
    exact allM_nil) (fun R x k => q126 F130 F131 F126 R x k)
abbrev FT122 : Type 1 := (R : Type) → (List Int) → (List Int) → ((List Int) → Option R) → Option R
def en122 (F : FT122) : Ent := ⟨122, [(false, (.arr 8 (.int .u32))), (false, (.arr 64 (.int .u8)))], [(false, (.arr 8 (.int .u32)))], fun R x k => F R x.1 x.2.1 (fun y1 => k (y1, ()) ())⟩
def res122 : List (ResultVar × TypeId × Bool) := [(.cell 4 167, 167, false)]
abbrev LT122_3 : Type 1 := (R : Type) → (List Int) → Int → (List Int) → (List Int) → (List Int) → (List Int) → ((List Int) → (List Int) → (List Int) → Option R) → Option R
def le122_3 (L : LT122_3) : LEnt := ⟨3, [.fix 2 (.ptr 0 [] (.arr 8 (.int .u32))), .fix 4 (.ptr 2 [] (.arr 8 (.int .u32))), .fix 5 (.ptr 3 [] (.arr 8 (.int .u32))), .fix 6 (.ptr 4 [] (.arr 64 (.int .u32))), .val 13 (.arr 64 (.int .u32)), .val 14 (.int .i64), .var 0 (.arr 8 (.int .u32)) false, .var 2 (.arr 8 (.int .u32)) false, .var 3 (.arr 8 (.int .u32)) false, .var 4 (.arr 64 (.int .u32)) false], 5, [(.exit 0, [.fix 2 (.ptr 0 [] (.arr 8 (.int .u32))), .fix 4 (.ptr 2 [] (.arr 8 (.int .u32))), .fix 5 (.ptr 3 [] (.arr 8 (.int .u32))), .var 0 (.arr 8 (.int .u32)) false, .var 2 (.arr 8 (.int .u32)) false, .var 3 (.arr 8 (.int .u32)) false])], fun R x ke => L R x.1 x.2.1 x.2.2.1 x.2.2.2.1 x.2.2.2.2.1 x.2.2.2.2.2.1 (fun y1 y2 y3 => ke.1 (y1, y2, y3, ()))⟩
abbrev LT122_8 : Type 1 := (R : Type) → Int → (List Int) → (List Int) → (List Int) → ((List Int) → (List Int) → Option R) → Option R
def le122_8 (L : LT122_8) : LEnt := ⟨8, [.fix 2 (.ptr 0 [] (.arr 8 (.int .u32))), .fix 4 (.ptr 2 [] (.arr 8 (.int .u32))), .fix 5 (.ptr 3 [] (.arr 8 (.int .u32))), .val 25 (.int .i64), .var 0 (.arr 8 (.int .u32)) false, .var 2 (.arr 8 (.int .u32)) false, .var 3 (.arr 8 (.int .u32)) false], 4, [(.exit 2, [.fix 4 (.ptr 2 [] (.arr 8 (.int .u32))), .fix 5 (.ptr 3 [] (.arr 8 (.int .u32))), .var 2 (.arr 8 (.int .u32)) false, .var 3 (.arr 8 (.int .u32)) false])], fun R x ke => L R x.1 x.2.1 x.2.2.1 x.2.2.2.1 (fun y1 y2 => ke.1 (y1, y2, ()))⟩
noncomputable def e122 (F124 : FT124) (F125 : FT125) (F126 : FT126) (L3 : LT122_3) (L8 : LT122_8) (R : Type) : Env R := ⟨TT, EQT, 0, 38, ownOf [], callOf [en124 F124, en125 F125, en126 F126] R, loopOf [le122_3 L3, le122_8 L8] R, [], inlOf []⟩
def p122_3 (F126 : FT126) : (R : Type) → (List Int) → Int → (List Int) → (List Int) → (List Int) → (List Int) → ((List Int) → Int → (List Int) → (List Int) → (List Int) → (List Int) → Option R) → ((List Int) → (List Int) → (List Int) → Option R) → Option R := fun R x1 x2 x3 x4 x5 x6 kc k0 =>
let v7 := (decide (x2 < (64 : Int)));
(match v7 with
| true => (match (bnd x2 (64 : Int)) with
| true => let v8 := (List.getD x1 (Int.toNat x2) (0 : Int));
(match (bnd x2 (64 : Int)) with
| true => let v9 := (List.getD x6 (Int.toNat x2) (0 : Int));
F126 R x5 v8 v9 fun y10 =>
let v11 := (IntKind.i64.wrap (x2 + (1 : Int)));
kc x1 v11 x3 x4 y10 x6
| false => none)
| false => none)
| false => k0 x3 x4 x5)
theorem q122_3 (F124 : FT124) (F125 : FT125) (F126 : FT126) (L3 : LT122_3) (L8 : LT122_8) (R : Type) (x : HT (le122_3 L3).H) (kc : HT (le122_3 L3).H → Option R) (ke : KT R (le122_3 L3).exs) :
  exec (e122 F124 F125 F126 L3 L8 R) (lcode 3 (codeOf Try.f122)) (stOf (le122_3 L3).H x 5) (roundK (le122_3 L3).H (le122_3 L3).exs kc ke) =
    p122_3 F126 R x.1 x.2.1 x.2.2.1 x.2.2.2.1 x.2.2.2.2.1 x.2.2.2.2.2.1 (fun x1 x2 x3 x4 x5 x6 => kc (x1, x2, x3, x4, x5, x6, ())) (fun y1 y2 y3 => ke.1 (y1, y2, y3, ())) := by kernel_rfl
noncomputable def G122_3 : Nat → LT122_3
  | 0 => fun _ _ _ _ _ _ _ _ => none
  | n + 1 => fun R x1 x2 x3 x4 x5 x6 k0 => p122_3 F126 R x1 x2 x3 x4 x5 x6 (fun x1 x2 x3 x4 x5 x6 => G122_3 n R x1 x2 x3 x4 x5 x6 k0) k0
def p122_8 : (R : Type) → Int → (List Int) → (List Int) → (List Int) → (Int → (List Int) → (List Int) → (List Int) → Option R) → ((List Int) → (List Int) → Option R) → Option R := fun R x1 x2 x3 x4 kc k0 =>
let v5 := (decide (x1 < (8 : Int)));
(match v5 with
| true => (match (bnd x1 (8 : Int)) with
| true => let v6 := (List.getD x4 (Int.toNat x1) (0 : Int));
(match (bnd x1 (8 : Int)) with
| true => let v7 := (List.getD x2 (Int.toNat x1) (0 : Int));
let v8 := (IntKind.u32.wrap (v6 + v7));
(match (bnd x1 (8 : Int)) with
| true => let v9 : (List Int) := (List.set x4 (Int.toNat x1) v8);
let v10 := (IntKind.i64.wrap (x1 + (1 : Int)));
kc v10 x2 x3 v9
| false => none)
| false => none)
| false => none)
| false => k0 x3 x4)
theorem q122_8 (F124 : FT124) (F125 : FT125) (F126 : FT126) (L3 : LT122_3) (L8 : LT122_8) (R : Type) (x : HT (le122_8 L8).H) (kc : HT (le122_8 L8).H → Option R) (ke : KT R (le122_8 L8).exs) :
  exec (e122 F124 F125 F126 L3 L8 R) (lcode 8 (codeOf Try.f122)) (stOf (le122_8 L8).H x 4) (roundK (le122_8 L8).H (le122_8 L8).exs kc ke) =
    p122_8 R x.1 x.2.1 x.2.2.1 x.2.2.2.1 (fun x1 x2 x3 x4 => kc (x1, x2, x3, x4, ())) (fun y1 y2 => ke.1 (y1, y2, ())) := by kernel_rfl
noncomputable def G122_8 : Nat → LT122_8
  | 0 => fun _ _ _ _ _ _ => none
  | n + 1 => fun R x1 x2 x3 x4 k0 => p122_8 R x1 x2 x3 x4 (fun x1 x2 x3 x4 => G122_8 n R x1 x2 x3 x4 k0) k0
def p122 (F124 : FT124) (F125 : FT125) (L3 : LT122_3) (L8 : LT122_8) : FT122 := fun R a0 a1 k =>
F124 R  fun y1 =>
F125 R a1 fun y2 =>
L3 R y2 (0 : Int) a0 (List.replicate 8 (0 : Int)) a0 y1 (fun x3 x4 x5 =>
L8 R (0 : Int) x3 x4 x5 (fun x6 x7 =>
k x7))
theorem q122 (F124 : FT124) (F125 : FT125) (F126 : FT126) (L3 : LT122_3) (L8 : LT122_8) (F : FT122) (R : Type) (x : AT (en122 F).ins) (k : RT (en122 F).outs → PT (en122 F).ins → Option R) :
  xfun (e122 F124 F125 F126 L3 L8 R) (codeOf Try.f122) res122 (avs (en122 F).ins x) (finK (en122 F).outs (en122 F).ins k) = p122 F124 F125 L3 L8 R x.1 x.2.1 (fun y1 => k (y1, ()) ()) := by kernel_rfl
noncomputable def F122 : FT122 := p122 F124 F125 (G122_3 FUEL) (G122_8 FUEL)
theorem env122 (R : Type) : EnvOK Try.prog (e122 F124 F125 F126 (G122_3 FUEL) (G122_8 FUEL) R) := ⟨tabOK, eqOK, callOf_ok (allE_cons ok124 (allE_cons ok125 (allE_cons ok126 allE_nil))), noIns, inlOK_nil⟩
noncomputable def T122_3 : (R : Type) → HT (le122_3 (G122_3 FUEL)).H → (HT (le122_3 (G122_3 FUEL)).H → Option R) → KT R (le122_3 (G122_3 FUEL)).exs → Option R := fun R x kc ke => p122_3 F126 R x.1 x.2.1 x.2.2.1 x.2.2.2.1 x.2.2.2.2.1 x.2.2.2.2.2.1 (fun x1 x2 x3 x4 x5 x6 => kc (x1, x2, x3, x4, x5, x6, ())) (fun y1 y2 y3 => ke.1 (y1, y2, y3, ()))
theorem it122_3 : ∀ (n : Nat) (R : Type) (x : HT (le122_3 (G122_3 FUEL)).H) (ke : KT R (le122_3 (G122_3 FUEL)).exs), iter T122_3 n R x ke = G122_3 n R x.1 x.2.1 x.2.2.1 x.2.2.2.1 x.2.2.2.2.1 x.2.2.2.2.2.1 (fun y1 y2 y3 => ke.1 (y1, y2, y3, ())) := by
  intro n
  induction n with
  | zero => intro R x ke; rfl
  | succ n ih =>
    intro R x ke
    show T122_3 R x (fun x' => iter T122_3 n R x' ke) ke = _
    rw [show (fun x' => iter T122_3 n R x' ke) = fun x => G122_3 n R x.1 x.2.1 x.2.2.1 x.2.2.2.1 x.2.2.2.2.1 x.2.2.2.2.2.1 (fun y1 y2 y3 => ke.1 (y1, y2, y3, ())) from funext fun x' => ih R x' ke]
    rfl
theorem lok122_3 : (le122_3 (G122_3 FUEL)).OK Try.prog 0 38 (lcode 3 (codeOf Try.f122)) := fun R x ke r h =>
  iter_sound (fun R => e122 F124 F125 F126 (G122_3 FUEL) (G122_8 FUEL) R) 0 38 (fun _ => rfl) (fun _ => rfl) (fun R => env122 R) mixed (by
    intro R
    rw [show loopsOf (lcode 3 (codeOf Try.f122)) = [] from by kernel_rfl]
    exact allM_nil) (T := T122_3) (fun R x kc ke => q122_3 F124 F125 F126 (G122_3 FUEL) (G122_8 FUEL) R x kc ke) FUEL R x ke r ((it122_3 FUEL R x ke).trans h)
noncomputable def T122_8 : (R : Type) → HT (le122_8 (G122_8 FUEL)).H → (HT (le122_8 (G122_8 FUEL)).H → Option R) → KT R (le122_8 (G122_8 FUEL)).exs → Option R := fun R x kc ke => p122_8 R x.1 x.2.1 x.2.2.1 x.2.2.2.1 (fun x1 x2 x3 x4 => kc (x1, x2, x3, x4, ())) (fun y1 y2 => ke.1 (y1, y2, ()))
theorem it122_8 : ∀ (n : Nat) (R : Type) (x : HT (le122_8 (G122_8 FUEL)).H) (ke : KT R (le122_8 (G122_8 FUEL)).exs), iter T122_8 n R x ke = G122_8 n R x.1 x.2.1 x.2.2.1 x.2.2.2.1 (fun y1 y2 => ke.1 (y1, y2, ())) := by
  intro n
  induction n with
  | zero => intro R x ke; rfl
  | succ n ih =>
    intro R x ke
    show T122_8 R x (fun x' => iter T122_8 n R x' ke) ke = _
    rw [show (fun x' => iter T122_8 n R x' ke) = fun x => G122_8 n R x.1 x.2.1 x.2.2.1 x.2.2.2.1 (fun y1 y2 => ke.1 (y1, y2, ())) from funext fun x' => ih R x' ke]
    rfl
theorem lok122_8 : (le122_8 (G122_8 FUEL)).OK Try.prog 0 38 (lcode 8 (codeOf Try.f122)) := fun R x ke r h =>
  iter_sound (fun R => e122 F124 F125 F126 (G122_3 FUEL) (G122_8 FUEL) R) 0 38 (fun _ => rfl) (fun _ => rfl) (fun R => env122 R) mixed (by
    intro R
    rw [show loopsOf (lcode 8 (codeOf Try.f122)) = [] from by kernel_rfl]
    exact allM_nil) (T := T122_8) (fun R x kc ke => q122_8 F124 F125 F126 (G122_3 FUEL) (G122_8 FUEL) R x kc ke) FUEL R x ke r ((it122_8 FUEL R x ke).trans h)
theorem ok122 : (en122 F122).OK Try.prog :=
  ent_ok (Ef := fun R => e122 F124 F125 F126 (G122_3 FUEL) (G122_8 FUEL) R) (fun R => env122 R) mixed Try.func122 (body := codeOf Try.f122) (by kernel_rfl) (by kernel_rfl) (np := 0) (nt := 38) (fun _ => rfl) (fun _ => rfl) (by kernel_rfl) (res := res122) (by kernel_rfl) (fun _ => rfl) (fun _ => Nat.le_of_ble_eq_true rfl) (by
    intro R
    rw [show loopsOf (codeOf Try.f122) = [lcode 3 (codeOf Try.f122), lcode 8 (codeOf Try.f122)] from by kernel_rfl]
    exact (allM_cons (loop_ok2 (e := le122_3 (G122_3 FUEL)) rfl rfl lok122_3) (allM_cons (loop_ok2 (e := le122_8 (G122_8 FUEL)) rfl rfl lok122_8) allM_nil))) (fun R x k => q122 F124 F125 F126 (G122_3 FUEL) (G122_8 FUEL) F122 R x k)
abbrev FT117 : Type 1 := (R : Type) → Tq10 → (List Int) → ((List Int) → Tq10 → Option R) → Option R
def en117 (F : FT117) : Ent := ⟨117, [(true, Kq10), (false, (.sl (.int .u8)))], [(false, (.sl (.int .u8)))], fun R x k => F R x.1 x.2.1 (fun y1 p1 => k (y1, ()) (p1, ()))⟩
def res117 : List (ResultVar × TypeId × Bool) := [(.tmp 4, 33, false)]
abbrev LT117_3 : Type 1 := (R : Type) → (List Int) → (List (List Int)) → Int → Int → Tq10 → ((List Int) → Tq10 → Option R) → Option R
def le117_3 (L : LT117_3) : LEnt := ⟨3, [.fix 0 (.ptr 0 [] Kq10), .val 6 (.sl (.int .u8)), .val 14 (.sl (.arr 64 (.int .u8))), .val 15 (.int .i64), .val 16 (.int .i64), .var 0 Kq10 false], 1, [(.exit 0, [.val 6 (.sl (.int .u8)), .var 0 Kq10 false])], fun R x ke => L R x.1 x.2.1 x.2.2.1 x.2.2.2.1 x.2.2.2.2.1 (fun y1 y2 => ke.1 (y1, y2, ()))⟩
noncomputable def e117 (F121 : FT121) (F122 : FT122) (L3 : LT117_3) (R : Type) : Env R := ⟨TT, EQT, 1, 33, ownOf [], callOf [en121 F121, en122 F122] R, loopOf [le117_3 L3] R, [], inlOf []⟩
def p117_3 (F122 : FT122) : (R : Type) → (List Int) → (List (List Int)) → Int → Int → Tq10 → ((List Int) → (List (List Int)) → Int → Int → Tq10 → Option R) → ((List Int) → Tq10 → Option R) → Option R := fun R x1 x2 x3 x4 x5 kc k0 =>
let v6 := (decide (x4 < x3));
(match v6 with
| true => (match (bnd x4 (List.length x2 : Int)) with
| true => let v7 : (List Int) := (List.getD x2 (Int.toNat x4) (List.replicate 64 (0 : Int)));
F122 R x5.1.1 v7 fun y8 =>
let v9 := (IntKind.i64.wrap (x4 + (1 : Int)));
kc x1 x2 x3 v9 ((y8, x5.1.2), x5.2)
| false => none)
| false => k0 x1 x5)
theorem q117_3 (F121 : FT121) (F122 : FT122) (L3 : LT117_3) (R : Type) (x : HT (le117_3 L3).H) (kc : HT (le117_3 L3).H → Option R) (ke : KT R (le117_3 L3).exs) :
  exec (e117 F121 F122 L3 R) (lcode 3 (codeOf Try.f117)) (stOf (le117_3 L3).H x 1) (roundK (le117_3 L3).H (le117_3 L3).exs kc ke) =
    p117_3 F122 R x.1 x.2.1 x.2.2.1 x.2.2.2.1 x.2.2.2.2.1 (fun x1 x2 x3 x4 x5 => kc (x1, x2, x3, x4, x5, ())) (fun y1 y2 => ke.1 (y1, y2, ())) := by kernel_rfl
noncomputable def G117_3 : Nat → LT117_3
  | 0 => fun _ _ _ _ _ _ _ => none
  | n + 1 => fun R x1 x2 x3 x4 x5 k0 => p117_3 F122 R x1 x2 x3 x4 x5 (fun x1 x2 x3 x4 x5 => G117_3 n R x1 x2 x3 x4 x5 k0) k0
def p117 (F121 : FT121) (L3 : LT117_3) : FT117 := fun R a0 a1 k =>
F121 R a1 fun y1 y2 =>
let v3 := (List.length y1 : Int);
L3 R y2 y1 v3 (0 : Int) a0 (fun x4 x5 =>
k x4 x5)
theorem q117 (F121 : FT121) (F122 : FT122) (L3 : LT117_3) (F : FT117) (R : Type) (x : AT (en117 F).ins) (k : RT (en117 F).outs → PT (en117 F).ins → Option R) :
  xfun (e117 F121 F122 L3 R) (codeOf Try.f117) res117 (avs (en117 F).ins x) (finK (en117 F).outs (en117 F).ins k) = p117 F121 L3 R x.1 x.2.1 (fun y1 p1 => k (y1, ()) (p1, ())) := by kernel_rfl
noncomputable def F117 : FT117 := p117 F121 (G117_3 FUEL)
theorem env117 (R : Type) : EnvOK Try.prog (e117 F121 F122 (G117_3 FUEL) R) := ⟨tabOK, eqOK, callOf_ok (allE_cons ok121 (allE_cons ok122 allE_nil)), noIns, inlOK_nil⟩
noncomputable def T117_3 : (R : Type) → HT (le117_3 (G117_3 FUEL)).H → (HT (le117_3 (G117_3 FUEL)).H → Option R) → KT R (le117_3 (G117_3 FUEL)).exs → Option R := fun R x kc ke => p117_3 F122 R x.1 x.2.1 x.2.2.1 x.2.2.2.1 x.2.2.2.2.1 (fun x1 x2 x3 x4 x5 => kc (x1, x2, x3, x4, x5, ())) (fun y1 y2 => ke.1 (y1, y2, ()))
theorem it117_3 : ∀ (n : Nat) (R : Type) (x : HT (le117_3 (G117_3 FUEL)).H) (ke : KT R (le117_3 (G117_3 FUEL)).exs), iter T117_3 n R x ke = G117_3 n R x.1 x.2.1 x.2.2.1 x.2.2.2.1 x.2.2.2.2.1 (fun y1 y2 => ke.1 (y1, y2, ())) := by
  intro n
  induction n with
  | zero => intro R x ke; rfl
  | succ n ih =>
    intro R x ke
    show T117_3 R x (fun x' => iter T117_3 n R x' ke) ke = _
    rw [show (fun x' => iter T117_3 n R x' ke) = fun x => G117_3 n R x.1 x.2.1 x.2.2.1 x.2.2.2.1 x.2.2.2.2.1 (fun y1 y2 => ke.1 (y1, y2, ())) from funext fun x' => ih R x' ke]
    rfl
theorem lok117_3 : (le117_3 (G117_3 FUEL)).OK Try.prog 1 33 (lcode 3 (codeOf Try.f117)) := fun R x ke r h =>
  iter_sound (fun R => e117 F121 F122 (G117_3 FUEL) R) 1 33 (fun _ => rfl) (fun _ => rfl) (fun R => env117 R) mixed (by
    intro R
    rw [show loopsOf (lcode 3 (codeOf Try.f117)) = [] from by kernel_rfl]
    exact allM_nil) (T := T117_3) (fun R x kc ke => q117_3 F121 F122 (G117_3 FUEL) R x kc ke) FUEL R x ke r ((it117_3 FUEL R x ke).trans h)
theorem ok117 : (en117 F117).OK Try.prog :=
  ent_ok (Ef := fun R => e117 F121 F122 (G117_3 FUEL) R) (fun R => env117 R) mixed Try.func117 (body := codeOf Try.f117) (by kernel_rfl) (by kernel_rfl) (np := 1) (nt := 33) (fun _ => rfl) (fun _ => rfl) (by kernel_rfl) (res := res117) (by kernel_rfl) (fun _ => rfl) (fun _ => Nat.le_of_ble_eq_true rfl) (by
    intro R
    rw [show loopsOf (codeOf Try.f117) = [lcode 3 (codeOf Try.f117)] from by kernel_rfl]
    exact (allM_cons (loop_ok2 (e := le117_3 (G117_3 FUEL)) rfl rfl lok117_3) allM_nil)) (fun R x k => q117 F121 F122 (G117_3 FUEL) F117 R x k)
abbrev FT114 : Type 1 := (R : Type) → Tq10 → (List Int) → (Tq10 → Option R) → Option R
def en114 (F : FT114) : Ent := ⟨114, [(true, Kq10), (false, (.sl (.int .u8)))], [], fun R x k => F R x.1 x.2.1 (fun p1 => k () (p1, ()))⟩
def res114 : List (ResultVar × TypeId × Bool) := []
noncomputable def e114 (F117 : FT117) (F119 : FT119) (R : Type) : Env R := ⟨TT, EQT, 1, 30, ownOf [], callOf [en117 F117, en119 F119] R, loopOf [] R, [], inlOf []⟩
def p114 (F117 : FT117) (F119 : FT119) : FT114 := fun R a0 a1 k =>
let v1 := (List.length a1 : Int);
let v2 := (IntKind.u64.wrap v1);
let v3 := (IntKind.u64.wrap (a0.1.2.2.1 + v2));
F119 R a0.1.2.1 fun y4 =>
(match (decide (List.length y4 + List.length a1 ≤ 140737488355328)) with
| true => let v5 : (List Int) := (y4 ++ a1);
F117 R ((a0.1.1, a0.1.2.1, v3, a0.1.2.2.2), a0.2) v5 fun y6 p7 =>
k ((p7.1.1, y6, p7.1.2.2), p7.2)
| false => none)
theorem q114 (F117 : FT117) (F119 : FT119) (F : FT114) (R : Type) (x : AT (en114 F).ins) (k : RT (en114 F).outs → PT (en114 F).ins → Option R) :
  xfun (e114 F117 F119 R) (codeOf Try.f114) res114 (avs (en114 F).ins x) (finK (en114 F).outs (en114 F).ins k) = p114 F117 F119 R x.1 x.2.1 (fun p1 => k () (p1, ())) := by kernel_rfl
noncomputable def F114 : FT114 := p114 F117 F119
theorem env114 (R : Type) : EnvOK Try.prog (e114 F117 F119 R) := ⟨tabOK, eqOK, callOf_ok (allE_cons ok117 (allE_cons ok119 allE_nil)), noIns, inlOK_nil⟩
theorem ok114 : (en114 F114).OK Try.prog :=
  ent_ok (Ef := fun R => e114 F117 F119 R) (fun R => env114 R) mixed Try.func114 (body := codeOf Try.f114) (by kernel_rfl) (by kernel_rfl) (np := 1) (nt := 30) (fun _ => rfl) (fun _ => rfl) (by kernel_rfl) (res := res114) (by kernel_rfl) (fun _ => rfl) (fun _ => Nat.le_of_ble_eq_true rfl) (by
    intro R
    rw [show loopsOf (codeOf Try.f114) = [] from by kernel_rfl]
    exact allM_nil) (fun R x k => q114 F117 F119 F114 R x k)
abbrev FT110 : Type 1 := (R : Type) → Tq9 → (List (List Int)) → (Tq9 → Int → Option R) → Option R
def en110 (F : FT110) : Ent := ⟨110, [(false, Kq9), (false, (.sl (.sl (.int .u8))))], [(false, Kq9), (false, (.int .i64))], fun R x k => F R x.1 x.2.1 (fun y1 y2 => k (y1, y2, ()) ())⟩
def res110 : List (ResultVar × TypeId × Bool) := [(.cell 4 169, 169, false), (.tmp 5, 29, false)]
abbrev LT110_5 : Type 1 := (R : Type) → (List (List Int)) → Int → Int → Tq9 → Tq10 → (Int → Tq9 → Option R) → (Tq9 → Tq10 → Option R) → Option R
def le110_5 (L : LT110_5) : LEnt := ⟨5, [.fix 4 (.ptr 1 [] Kq9), .fix 6 (.ptr 2 [] Kq10), .val 15 (.sl (.sl (.int .u8))), .val 16 (.int .i64), .val 17 (.int .i64), .var 1 Kq9 false, .var 2 Kq10 false], 3, [(.ret, [.fix 4 (.ptr 1 [] Kq9), .val 5 (.int .i64), .var 1 Kq9 false]), (.exit 0, [.fix 4 (.ptr 1 [] Kq9), .fix 6 (.ptr 2 [] Kq10), .var 1 Kq9 false, .var 2 Kq10 false])], fun R x ke => L R x.1 x.2.1 x.2.2.1 x.2.2.2.1 x.2.2.2.2.1 (fun y1 y2 => ke.1 (y1, y2, ())) (fun y1 y2 => ke.2.1 (y1, y2, ()))⟩
noncomputable def e110 (F113 : FT113) (F114 : FT114) (L5 : LT110_5) (R : Type) : Env R := ⟨TT, EQT, 0, 31, ownOf [], callOf [en113 F113, en114 F114] R, loopOf [le110_5 L5] R, [], inlOf []⟩
def p110_5 (F114 : FT114) : (R : Type) → (List (List Int)) → Int → Int → Tq9 → Tq10 → ((List (List Int)) → Int → Int → Tq9 → Tq10 → Option R) → (Int → Tq9 → Option R) → (Tq9 → Tq10 → Option R) → Option R := fun R x1 x2 x3 x4 x5 kc k0 k1 =>
let v6 := (decide (x3 < x2));
(match v6 with
| true => (match (bnd x3 (List.length x1 : Int)) with
| true => let v7 : (List Int) := (List.getD x1 (Int.toNat x3) ([] : (List Int)));
F114 R x5 v7 fun p8 =>
let v9 := (decide (p8.1.2.2.1 ≥ (2305843009213693952 : Int)));
(match v9 with
| true => k0 (11 : Int) ((List.replicate 8 (0 : Int)), ([] : (List Int)), (0 : Int), ())
| false => let v10 := (IntKind.i64.wrap (x3 + (1 : Int)));
kc x1 x2 v10 x4 p8)
| false => none)
| false => k1 x4 x5)
theorem q110_5 (F113 : FT113) (F114 : FT114) (L5 : LT110_5) (R : Type) (x : HT (le110_5 L5).H) (kc : HT (le110_5 L5).H → Option R) (ke : KT R (le110_5 L5).exs) :
  exec (e110 F113 F114 L5 R) (lcode 5 (codeOf Try.f110)) (stOf (le110_5 L5).H x 3) (roundK (le110_5 L5).H (le110_5 L5).exs kc ke) =
    p110_5 F114 R x.1 x.2.1 x.2.2.1 x.2.2.2.1 x.2.2.2.2.1 (fun x1 x2 x3 x4 x5 => kc (x1, x2, x3, x4, x5, ())) (fun y1 y2 => ke.1 (y1, y2, ())) (fun y1 y2 => ke.2.1 (y1, y2, ())) := by kernel_rfl
noncomputable def G110_5 : Nat → LT110_5
  | 0 => fun _ _ _ _ _ _ _ _ => none
  | n + 1 => fun R x1 x2 x3 x4 x5 k0 k1 => p110_5 F114 R x1 x2 x3 x4 x5 (fun x1 x2 x3 x4 x5 => G110_5 n R x1 x2 x3 x4 x5 k0 k1) k0 k1
def p110 (F113 : FT113) (L5 : LT110_5) : FT110 := fun R a0 a1 k =>
F113 R a0 fun y1 =>
(match (!y1) with
| true => k ((List.replicate 8 (0 : Int)), ([] : (List Int)), (0 : Int), ()) (1 : Int)
| false => let v2 := (List.length a1 : Int);
L5 R a1 v2 (0 : Int) ((List.replicate 8 (0 : Int)), ([] : (List Int)), (0 : Int), ()) (a0, ()) (fun x3 x4 =>
k x4 x3) (fun x5 x6 =>
k x6.1 (0 : Int)))
theorem q110 (F113 : FT113) (F114 : FT114) (L5 : LT110_5) (F : FT110) (R : Type) (x : AT (en110 F).ins) (k : RT (en110 F).outs → PT (en110 F).ins → Option R) :
  xfun (e110 F113 F114 L5 R) (codeOf Try.f110) res110 (avs (en110 F).ins x) (finK (en110 F).outs (en110 F).ins k) = p110 F113 L5 R x.1 x.2.1 (fun y1 y2 => k (y1, y2, ()) ()) := by kernel_rfl
noncomputable def F110 : FT110 := p110 F113 (G110_5 FUEL)
theorem env110 (R : Type) : EnvOK Try.prog (e110 F113 F114 (G110_5 FUEL) R) := ⟨tabOK, eqOK, callOf_ok (allE_cons ok113 (allE_cons ok114 allE_nil)), noIns, inlOK_nil⟩
noncomputable def T110_5 : (R : Type) → HT (le110_5 (G110_5 FUEL)).H → (HT (le110_5 (G110_5 FUEL)).H → Option R) → KT R (le110_5 (G110_5 FUEL)).exs → Option R := fun R x kc ke => p110_5 F114 R x.1 x.2.1 x.2.2.1 x.2.2.2.1 x.2.2.2.2.1 (fun x1 x2 x3 x4 x5 => kc (x1, x2, x3, x4, x5, ())) (fun y1 y2 => ke.1 (y1, y2, ())) (fun y1 y2 => ke.2.1 (y1, y2, ()))
theorem it110_5 : ∀ (n : Nat) (R : Type) (x : HT (le110_5 (G110_5 FUEL)).H) (ke : KT R (le110_5 (G110_5 FUEL)).exs), iter T110_5 n R x ke = G110_5 n R x.1 x.2.1 x.2.2.1 x.2.2.2.1 x.2.2.2.2.1 (fun y1 y2 => ke.1 (y1, y2, ())) (fun y1 y2 => ke.2.1 (y1, y2, ())) := by
  intro n
  induction n with
  | zero => intro R x ke; rfl
  | succ n ih =>
    intro R x ke
    show T110_5 R x (fun x' => iter T110_5 n R x' ke) ke = _
    rw [show (fun x' => iter T110_5 n R x' ke) = fun x => G110_5 n R x.1 x.2.1 x.2.2.1 x.2.2.2.1 x.2.2.2.2.1 (fun y1 y2 => ke.1 (y1, y2, ())) (fun y1 y2 => ke.2.1 (y1, y2, ())) from funext fun x' => ih R x' ke]
    rfl
theorem lok110_5 : (le110_5 (G110_5 FUEL)).OK Try.prog 0 31 (lcode 5 (codeOf Try.f110)) := fun R x ke r h =>
  iter_sound (fun R => e110 F113 F114 (G110_5 FUEL) R) 0 31 (fun _ => rfl) (fun _ => rfl) (fun R => env110 R) mixed (by
    intro R
    rw [show loopsOf (lcode 5 (codeOf Try.f110)) = [] from by kernel_rfl]
    exact allM_nil) (T := T110_5) (fun R x kc ke => q110_5 F113 F114 (G110_5 FUEL) R x kc ke) FUEL R x ke r ((it110_5 FUEL R x ke).trans h)
theorem ok110 : (en110 F110).OK Try.prog :=
  ent_ok (Ef := fun R => e110 F113 F114 (G110_5 FUEL) R) (fun R => env110 R) mixed Try.func110 (body := codeOf Try.f110) (by kernel_rfl) (by kernel_rfl) (np := 0) (nt := 31) (fun _ => rfl) (fun _ => rfl) (by kernel_rfl) (res := res110) (by kernel_rfl) (fun _ => rfl) (fun _ => Nat.le_of_ble_eq_true rfl) (by
    intro R
    rw [show loopsOf (codeOf Try.f110) = [lcode 5 (codeOf Try.f110)] from by kernel_rfl]
    exact (allM_cons (loop_ok2 (e := le110_5 (G110_5 FUEL)) rfl rfl lok110_5) allM_nil)) (fun R x k => q110 F113 F114 (G110_5 FUEL) F110 R x k)
abbrev FT120 : Type 1 := (R : Type) → Int → (Int → Option R) → Option R
def en120 (F : FT120) : Ent := ⟨120, [(false, (.int .u64))], [(false, (.int .u64))], fun R x k => F R x.1 (fun y1 => k (y1, ()) ())⟩
def res120 : List (ResultVar × TypeId × Bool) := [(.tmp 2, 24, false)]
noncomputable def e120 (R : Type) : Env R := ⟨TT, EQT, 0, 9, ownOf [], callOf [] R, loopOf [] R, [], inlOf []⟩
def p120 : FT120 := fun R a0 k =>
let v1 := (decide (a0 ≥ (2305843009213693952 : Int)));
(match v1 with
| true => k (0 : Int)
| false => let v2 := (IntKind.u64.wrap (a0 + (8 : Int)));
let v3 := (IntKind.u64.wrap (v2 + (64 : Int)));
let v4 := (IntKind.u64.wrap (Int.tdiv v3 (64 : Int)));
k v4)
theorem q120 (F : FT120) (R : Type) (x : AT (en120 F).ins) (k : RT (en120 F).outs → PT (en120 F).ins → Option R) :
  xfun (e120 R) (codeOf Try.f120) res120 (avs (en120 F).ins x) (finK (en120 F).outs (en120 F).ins k) = p120 R x.1 (fun y1 => k (y1, ()) ()) := by kernel_rfl
noncomputable def F120 : FT120 := p120
theorem env120 (R : Type) : EnvOK Try.prog (e120 R) := ⟨tabOK, eqOK, callOf_ok allE_nil, noIns, inlOK_nil⟩
theorem ok120 : (en120 F120).OK Try.prog :=
  ent_ok (Ef := fun R => e120 R) (fun R => env120 R) mixed Try.func120 (body := codeOf Try.f120) (by kernel_rfl) (by kernel_rfl) (np := 0) (nt := 9) (fun _ => rfl) (fun _ => rfl) (by kernel_rfl) (res := res120) (by kernel_rfl) (fun _ => rfl) (fun _ => Nat.le_of_ble_eq_true rfl) (by
    intro R
    rw [show loopsOf (codeOf Try.f120) = [] from by kernel_rfl]
    exact allM_nil) (fun R x k => q120 F120 R x k)
abbrev FT116 : Type 1 := (R : Type) → (List Int) → Int → ((List Int) → Bool → Option R) → Option R
def en116 (F : FT116) : Ent := ⟨116, [(false, (.sl (.int .u8))), (false, (.int .u64))], [(false, (.sl (.int .u8))), (false, .bool)], fun R x k => F R x.1 x.2.1 (fun y1 y2 => k (y1, y2, ()) ())⟩
def res116 : List (ResultVar × TypeId × Bool) := [(.tmp 4, 33, false), (.tmp 5, 4, false)]
noncomputable def e116 (F108 : FT108) (F120 : FT120) (R : Type) : Env R := ⟨TT, EQT, 0, 45, ownOf [], callOf [en108 F108, en120 F120] R, loopOf [] R, [], inlOf []⟩
def p116 (F108 : FT108) (F120 : FT120) : FT116 := fun R a0 a1 k =>
let v1 := (decide (a1 ≥ (2305843009213693952 : Int)));
(match v1 with
| true => k ([] : (List Int)) false
| false => let v2 := (List.length a0 : Int);
let v3 := (IntKind.u64.wrap v2);
let v4 := (Int.tmod a1 (64 : Int));
let v5 := (v3 != v4);
(match v5 with
| true => k ([] : (List Int)) false
| false => F120 R a1 fun y6 =>
let v7 := (IntKind.u64.wrap (Int.tdiv a1 (64 : Int)));
let v8 := (IntKind.u64.wrap (y6 - v7));
let v9 := (IntKind.i64.wrap v8);
let v10 := (IntKind.i64.wrap (v9 * (64 : Int)));
(match (decide (0 ≤ v10 ∧ v10 ≤ v10 ∧ v10 ≤ (140737488355328 : Int))) with
| true => let v11 : (List Int) := (List.replicate (Int.toNat v10) (0 : Int));
let v12 : (List Int) := (lay v11 0 (List.take (List.length v11) a0));
let v13 := (List.length a0 : Int);
(match (bnd v13 (List.length v12 : Int)) with
| true => let v14 : (List Int) := (List.set v12 (Int.toNat v13) (128 : Int));
let v15 := (ishl .u64 a1 (3 : Int));
F108 R v15 fun y16 =>
let v17 := (IntKind.i64.wrap (v10 - (8 : Int)));
(match (decide (0 ≤ v17 ∧ v17 ≤ (List.length v14 : Int) ∧ (List.length v14 : Int) ≤ (List.length v14 : Int) ∧ (List.length v14 : Int) ≤ (List.length v14 : Int))) with
| true => let v18 : (List Int) := (lay v14 (Int.toNat v17) (List.take (Int.toNat ((List.length v14 : Int) - v17)) (List.take 8 (List.drop 0 y16))));
k v18 true
| false => none)
| false => none)
| false => none)))
theorem q116 (F108 : FT108) (F120 : FT120) (F : FT116) (R : Type) (x : AT (en116 F).ins) (k : RT (en116 F).outs → PT (en116 F).ins → Option R) :
  xfun (e116 F108 F120 R) (codeOf Try.f116) res116 (avs (en116 F).ins x) (finK (en116 F).outs (en116 F).ins k) = p116 F108 F120 R x.1 x.2.1 (fun y1 y2 => k (y1, y2, ()) ()) := by kernel_rfl
noncomputable def F116 : FT116 := p116 F108 F120
theorem env116 (R : Type) : EnvOK Try.prog (e116 F108 F120 R) := ⟨tabOK, eqOK, callOf_ok (allE_cons ok108 (allE_cons ok120 allE_nil)), noIns, inlOK_nil⟩
theorem ok116 : (en116 F116).OK Try.prog :=
  ent_ok (Ef := fun R => e116 F108 F120 R) (fun R => env116 R) mixed Try.func116 (body := codeOf Try.f116) (by kernel_rfl) (by kernel_rfl) (np := 0) (nt := 45) (fun _ => rfl) (fun _ => rfl) (by kernel_rfl) (res := res116) (by kernel_rfl) (fun _ => rfl) (fun _ => Nat.le_of_ble_eq_true rfl) (by
    intro R
    rw [show loopsOf (codeOf Try.f116) = [] from by kernel_rfl]
    exact allM_nil) (fun R x k => q116 F108 F120 F116 R x k)
abbrev FT123 : Type 1 := (R : Type) → Int → ((List Int) → Option R) → Option R
def en123 (F : FT123) : Ent := ⟨123, [(false, (.int .u32))], [(false, (.arr 4 (.int .u8)))], fun R x k => F R x.1 (fun y1 => k (y1, ()) ())⟩
def res123 : List (ResultVar × TypeId × Bool) := [(.cell 2 191, 191, false)]
noncomputable def e123 (R : Type) : Env R := ⟨TT, EQT, 0, 15, ownOf [], callOf [] R, loopOf [] R, [], inlOf []⟩
def p123 : FT123 := fun R a0 k =>
let v1 := (ishr .u32 a0 (24 : Int));
let v2 := (IntKind.u8.wrap v1);
let v3 := (ishr .u32 a0 (16 : Int));
let v4 := (IntKind.u8.wrap v3);
let v5 := (ishr .u32 a0 (8 : Int));
let v6 := (IntKind.u8.wrap v5);
let v7 := (IntKind.u8.wrap a0);
let v8 : (List Int) := (List.set (List.set (List.set (List.set (List.replicate 4 (0 : Int)) 0 v2) 1 v4) 2 v6) 3 v7);
k v8
theorem q123 (F : FT123) (R : Type) (x : AT (en123 F).ins) (k : RT (en123 F).outs → PT (en123 F).ins → Option R) :
  xfun (e123 R) (codeOf Try.f123) res123 (avs (en123 F).ins x) (finK (en123 F).outs (en123 F).ins k) = p123 R x.1 (fun y1 => k (y1, ()) ()) := by kernel_rfl
noncomputable def F123 : FT123 := p123
theorem env123 (R : Type) : EnvOK Try.prog (e123 R) := ⟨tabOK, eqOK, callOf_ok allE_nil, noIns, inlOK_nil⟩
theorem ok123 : (en123 F123).OK Try.prog :=
  ent_ok (Ef := fun R => e123 R) (fun R => env123 R) mixed Try.func123 (body := codeOf Try.f123) (by kernel_rfl) (by kernel_rfl) (np := 0) (nt := 15) (fun _ => rfl) (fun _ => rfl) (by kernel_rfl) (res := res123) (by kernel_rfl) (fun _ => rfl) (fun _ => Nat.le_of_ble_eq_true rfl) (by
    intro R
    rw [show loopsOf (codeOf Try.f123) = [] from by kernel_rfl]
    exact allM_nil) (fun R x k => q123 F123 R x k)
abbrev FT118 : Type 1 := (R : Type) → Tq10 → ((List Int) → Tq10 → Option R) → Option R
def en118 (F : FT118) : Ent := ⟨118, [(true, Kq10)], [(false, (.arr 32 (.int .u8)))], fun R x k => F R x.1 (fun y1 p1 => k (y1, ()) (p1, ()))⟩
def res118 : List (ResultVar × TypeId × Bool) := [(.cell 2 35, 35, false)]
abbrev LT118_2 : Type 1 := (R : Type) → (List Int) → Int → Tq10 → (List Int) → (Tq10 → (List Int) → Option R) → Option R
def le118_2 (L : LT118_2) : LEnt := ⟨2, [.fix 2 (.ptr 1 [] (.arr 32 (.int .u8))), .val 10 (.arr 8 (.int .u32)), .val 11 (.int .i64), .var 0 Kq10 false, .var 1 (.arr 32 (.int .u8)) false], 2, [(.exit 0, [.fix 2 (.ptr 1 [] (.arr 32 (.int .u8))), .var 0 Kq10 false, .var 1 (.arr 32 (.int .u8)) false])], fun R x ke => L R x.1 x.2.1 x.2.2.1 x.2.2.2.1 (fun y1 y2 => ke.1 (y1, y2, ()))⟩
noncomputable def e118 (F123 : FT123) (L2 : LT118_2) (R : Type) : Env R := ⟨TT, EQT, 1, 24, ownOf [], callOf [en123 F123] R, loopOf [le118_2 L2] R, [], inlOf []⟩
def p118_2 (F123 : FT123) : (R : Type) → (List Int) → Int → Tq10 → (List Int) → ((List Int) → Int → Tq10 → (List Int) → Option R) → (Tq10 → (List Int) → Option R) → Option R := fun R x1 x2 x3 x4 kc k0 =>
let v5 := (decide (x2 < (8 : Int)));
(match v5 with
| true => (match (bnd x2 (8 : Int)) with
| true => let v6 := (List.getD x1 (Int.toNat x2) (0 : Int));
F123 R v6 fun y7 =>
let v8 := (IntKind.i64.wrap ((4 : Int) * x2));
(match (decide (0 ≤ v8 ∧ v8 ≤ (32 : Int) ∧ (32 : Int) ≤ (32 : Int))) with
| true => let v9 : (List Int) := (lay x4 (Int.toNat v8) (List.take (Int.toNat ((32 : Int) - v8)) (List.take 4 (List.drop 0 y7))));
let v10 := (IntKind.i64.wrap (x2 + (1 : Int)));
kc x1 v10 x3 v9
| false => none)
| false => none)
| false => k0 x3 x4)
theorem q118_2 (F123 : FT123) (L2 : LT118_2) (R : Type) (x : HT (le118_2 L2).H) (kc : HT (le118_2 L2).H → Option R) (ke : KT R (le118_2 L2).exs) :
  exec (e118 F123 L2 R) (lcode 2 (codeOf Try.f118)) (stOf (le118_2 L2).H x 2) (roundK (le118_2 L2).H (le118_2 L2).exs kc ke) =
    p118_2 F123 R x.1 x.2.1 x.2.2.1 x.2.2.2.1 (fun x1 x2 x3 x4 => kc (x1, x2, x3, x4, ())) (fun y1 y2 => ke.1 (y1, y2, ())) := by kernel_rfl
noncomputable def G118_2 : Nat → LT118_2
  | 0 => fun _ _ _ _ _ _ => none
  | n + 1 => fun R x1 x2 x3 x4 k0 => p118_2 F123 R x1 x2 x3 x4 (fun x1 x2 x3 x4 => G118_2 n R x1 x2 x3 x4 k0) k0
def p118 (L2 : LT118_2) : FT118 := fun R a0 k =>
L2 R a0.1.1 (0 : Int) a0 (List.replicate 32 (0 : Int)) (fun x1 x2 =>
k x2 x1)
theorem q118 (F123 : FT123) (L2 : LT118_2) (F : FT118) (R : Type) (x : AT (en118 F).ins) (k : RT (en118 F).outs → PT (en118 F).ins → Option R) :
  xfun (e118 F123 L2 R) (codeOf Try.f118) res118 (avs (en118 F).ins x) (finK (en118 F).outs (en118 F).ins k) = p118 L2 R x.1 (fun y1 p1 => k (y1, ()) (p1, ())) := by kernel_rfl
noncomputable def F118 : FT118 := p118 (G118_2 FUEL)
theorem env118 (R : Type) : EnvOK Try.prog (e118 F123 (G118_2 FUEL) R) := ⟨tabOK, eqOK, callOf_ok (allE_cons ok123 allE_nil), noIns, inlOK_nil⟩
noncomputable def T118_2 : (R : Type) → HT (le118_2 (G118_2 FUEL)).H → (HT (le118_2 (G118_2 FUEL)).H → Option R) → KT R (le118_2 (G118_2 FUEL)).exs → Option R := fun R x kc ke => p118_2 F123 R x.1 x.2.1 x.2.2.1 x.2.2.2.1 (fun x1 x2 x3 x4 => kc (x1, x2, x3, x4, ())) (fun y1 y2 => ke.1 (y1, y2, ()))
theorem it118_2 : ∀ (n : Nat) (R : Type) (x : HT (le118_2 (G118_2 FUEL)).H) (ke : KT R (le118_2 (G118_2 FUEL)).exs), iter T118_2 n R x ke = G118_2 n R x.1 x.2.1 x.2.2.1 x.2.2.2.1 (fun y1 y2 => ke.1 (y1, y2, ())) := by
  intro n
  induction n with
  | zero => intro R x ke; rfl
  | succ n ih =>
    intro R x ke
    show T118_2 R x (fun x' => iter T118_2 n R x' ke) ke = _
    rw [show (fun x' => iter T118_2 n R x' ke) = fun x => G118_2 n R x.1 x.2.1 x.2.2.1 x.2.2.2.1 (fun y1 y2 => ke.1 (y1, y2, ())) from funext fun x' => ih R x' ke]
    rfl
theorem lok118_2 : (le118_2 (G118_2 FUEL)).OK Try.prog 1 24 (lcode 2 (codeOf Try.f118)) := fun R x ke r h =>
  iter_sound (fun R => e118 F123 (G118_2 FUEL) R) 1 24 (fun _ => rfl) (fun _ => rfl) (fun R => env118 R) mixed (by
    intro R
    rw [show loopsOf (lcode 2 (codeOf Try.f118)) = [] from by kernel_rfl]
    exact allM_nil) (T := T118_2) (fun R x kc ke => q118_2 F123 (G118_2 FUEL) R x kc ke) FUEL R x ke r ((it118_2 FUEL R x ke).trans h)
theorem ok118 : (en118 F118).OK Try.prog :=
  ent_ok (Ef := fun R => e118 F123 (G118_2 FUEL) R) (fun R => env118 R) mixed Try.func118 (body := codeOf Try.f118) (by kernel_rfl) (by kernel_rfl) (np := 1) (nt := 24) (fun _ => rfl) (fun _ => rfl) (by kernel_rfl) (res := res118) (by kernel_rfl) (fun _ => rfl) (fun _ => Nat.le_of_ble_eq_true rfl) (by
    intro R
    rw [show loopsOf (codeOf Try.f118) = [lcode 2 (codeOf Try.f118)] from by kernel_rfl]
    exact (allM_cons (loop_ok2 (e := le118_2 (G118_2 FUEL)) rfl rfl lok118_2) allM_nil)) (fun R x k => q118 F123 (G118_2 FUEL) F118 R x k)
abbrev FT112 : Type 1 := (R : Type) → Tq9 → ((List Int) → Int → Option R) → Option R
def en112 (F : FT112) : Ent := ⟨112, [(false, Kq9)], [(false, (.arr 32 (.int .u8))), (false, (.int .i64))], fun R x k => F R x.1 (fun y1 y2 => k (y1, y2, ()) ())⟩
def res112 : List (ResultVar × TypeId × Bool) := [(.cell 2 35, 35, false), (.tmp 3, 29, false)]
noncomputable def e112 (F116 : FT116) (F117 : FT117) (F118 : FT118) (R : Type) : Env R := ⟨TT, EQT, 0, 23, ownOf [], callOf [en116 F116, en117 F117, en118 F118] R, loopOf [] R, [], inlOf []⟩
def p112 (F116 : FT116) (F117 : FT117) (F118 : FT118) : FT112 := fun R a0 k =>
F116 R a0.2.1 a0.2.2.1 fun y1 y2 =>
(match (!y2) with
| true => let v3 : (List Int) := (List.replicate 32 (0 : Int));
k v3 (1 : Int)
| false => F117 R (a0, ()) y1 fun y4 p5 =>
F118 R p5 fun y6 p7 =>
k y6 (0 : Int))
theorem q112 (F116 : FT116) (F117 : FT117) (F118 : FT118) (F : FT112) (R : Type) (x : AT (en112 F).ins) (k : RT (en112 F).outs → PT (en112 F).ins → Option R) :
  xfun (e112 F116 F117 F118 R) (codeOf Try.f112) res112 (avs (en112 F).ins x) (finK (en112 F).outs (en112 F).ins k) = p112 F116 F117 F118 R x.1 (fun y1 y2 => k (y1, y2, ()) ()) := by kernel_rfl
noncomputable def F112 : FT112 := p112 F116 F117 F118
theorem env112 (R : Type) : EnvOK Try.prog (e112 F116 F117 F118 R) := ⟨tabOK, eqOK, callOf_ok (allE_cons ok116 (allE_cons ok117 (allE_cons ok118 allE_nil))), noIns, inlOK_nil⟩
theorem ok112 : (en112 F112).OK Try.prog :=
  ent_ok (Ef := fun R => e112 F116 F117 F118 R) (fun R => env112 R) mixed Try.func112 (body := codeOf Try.f112) (by kernel_rfl) (by kernel_rfl) (np := 0) (nt := 23) (fun _ => rfl) (fun _ => rfl) (by kernel_rfl) (res := res112) (by kernel_rfl) (fun _ => rfl) (fun _ => Nat.le_of_ble_eq_true rfl) (by
    intro R
    rw [show loopsOf (codeOf Try.f112) = [] from by kernel_rfl]
    exact allM_nil) (fun R x k => q112 F116 F117 F118 F112 R x k)
abbrev FT109 : Type 1 := (R : Type) → (List (List Int)) → ((List Int) → Option R) → Option R
def en109 (F : FT109) : Ent := ⟨109, [(false, (.sl (.sl (.int .u8))))], [(false, (.arr 32 (.int .u8)))], fun R x k => F R x.1 (fun y1 => k (y1, ()) ())⟩
def res109 : List (ResultVar × TypeId × Bool) := [(.cell 2 35, 35, false)]
noncomputable def e109 (F110 : FT110) (F111 : FT111) (F112 : FT112) (R : Type) : Env R := ⟨TT, EQT, 0, 19, ownOf [], callOf [en110 F110, en111 F111, en112 F112] R, loopOf [] R, [], inlOf []⟩
def p109 (F110 : FT110) (F111 : FT111) (F112 : FT112) : FT109 := fun R a0 k =>
F111 R  fun y1 =>
F110 R y1 a0 fun y2 y3 =>
F112 R y2 fun y4 y5 =>
k y4
theorem q109 (F110 : FT110) (F111 : FT111) (F112 : FT112) (F : FT109) (R : Type) (x : AT (en109 F).ins) (k : RT (en109 F).outs → PT (en109 F).ins → Option R) :
  xfun (e109 F110 F111 F112 R) (codeOf Try.f109) res109 (avs (en109 F).ins x) (finK (en109 F).outs (en109 F).ins k) = p109 F110 F111 F112 R x.1 (fun y1 => k (y1, ()) ()) := by kernel_rfl
noncomputable def F109 : FT109 := p109 F110 F111 F112
theorem env109 (R : Type) : EnvOK Try.prog (e109 F110 F111 F112 R) := ⟨tabOK, eqOK, callOf_ok (allE_cons ok110 (allE_cons ok111 (allE_cons ok112 allE_nil))), noIns, inlOK_nil⟩
theorem ok109 : (en109 F109).OK Try.prog :=
  ent_ok (Ef := fun R => e109 F110 F111 F112 R) (fun R => env109 R) mixed Try.func109 (body := codeOf Try.f109) (by kernel_rfl) (by kernel_rfl) (np := 0) (nt := 19) (fun _ => rfl) (fun _ => rfl) (by kernel_rfl) (res := res109) (by kernel_rfl) (fun _ => rfl) (fun _ => Nat.le_of_ble_eq_true rfl) (by
    intro R
    rw [show loopsOf (codeOf Try.f109) = [] from by kernel_rfl]
    exact allM_nil) (fun R x k => q109 F110 F111 F112 F109 R x k)
abbrev FT106 : Type 1 := (R : Type) → (List Int) → Int → Int → ((List Int) → Option R) → Option R
def en106 (F : FT106) : Ent := ⟨106, [(false, (.arr 32 (.int .u8))), (false, (.int .u64)), (false, (.int .u64))], [(false, (.arr 32 (.int .u8)))], fun R x k => F R x.1 x.2.1 x.2.2.1 (fun y1 => k (y1, ()) ())⟩
def res106 : List (ResultVar × TypeId × Bool) := [(.cell 6 35, 35, false)]
noncomputable def e106 (F108 : FT108) (F109 : FT109) (R : Type) : Env R := ⟨TT, EQT, 0, 18, ownOf [], callOf [en108 F108, en109 F109] R, loopOf [] R, [], inlOf []⟩
def p106 (F108 : FT108) (F109 : FT109) : FT106 := fun R a0 a1 a2 k =>
F108 R a1 fun y1 =>
F108 R a2 fun y2 =>
let v3 : (List (List Int)) := ([(List.take 32 (List.drop 0 a0)), (List.take 8 (List.drop 0 y1)), (List.take 8 (List.drop 0 y2))] : (List (List Int)));
F109 R v3 fun y4 =>
k y4
theorem q106 (F108 : FT108) (F109 : FT109) (F : FT106) (R : Type) (x : AT (en106 F).ins) (k : RT (en106 F).outs → PT (en106 F).ins → Option R) :
  xfun (e106 F108 F109 R) (codeOf Try.f106) res106 (avs (en106 F).ins x) (finK (en106 F).outs (en106 F).ins k) = p106 F108 F109 R x.1 x.2.1 x.2.2.1 (fun y1 => k (y1, ()) ()) := by kernel_rfl
noncomputable def F106 : FT106 := p106 F108 F109
theorem env106 (R : Type) : EnvOK Try.prog (e106 F108 F109 R) := ⟨tabOK, eqOK, callOf_ok (allE_cons ok108 (allE_cons ok109 allE_nil)), noIns, inlOK_nil⟩
theorem ok106 : (en106 F106).OK Try.prog :=
  ent_ok (Ef := fun R => e106 F108 F109 R) (fun R => env106 R) mixed Try.func106 (body := codeOf Try.f106) (by kernel_rfl) (by kernel_rfl) (np := 0) (nt := 18) (fun _ => rfl) (fun _ => rfl) (by kernel_rfl) (res := res106) (by kernel_rfl) (fun _ => rfl) (fun _ => Nat.le_of_ble_eq_true rfl) (by
    intro R
    rw [show loopsOf (codeOf Try.f106) = [] from by kernel_rfl]
    exact allM_nil) (fun R x k => q106 F108 F109 F106 R x k)
abbrev FT102 : Type 1 := (R : Type) → Tq13 → Int → (Int → Tq13 → Option R) → Option R
def en102 (F : FT102) : Ent := ⟨102, [(true, Kq13), (false, (.int .u64))], [(false, (.int .u8))], fun R x k => F R x.1 x.2.1 (fun y1 p1 => k (y1, ()) (p1, ()))⟩
def res102 : List (ResultVar × TypeId × Bool) := [(.tmp 4, 5, false)]
noncomputable def e102 (F106 : FT106) (R : Type) : Env R := ⟨TT, EQT, 1, 67, ownOf [], callOf [en106 F106] R, loopOf [] R, [], inlOf []⟩
def p102 (F106 : FT106) : FT102 := fun R a0 a1 k =>
let v1 := (a0.1.1 == (1 : Int));
(match v1 with
| true => (match (bnd a1 (List.length a0.1.2.1 : Int)) with
| true => let v2 := (List.getD a0.1.2.1 (Int.toNat a1) (0 : Int));
k v2 a0
| false => none)
| false => let v3 := (IntKind.u64.wrap (Int.tdiv a1 (32 : Int)));
let v4 := (!a0.2.2.2.1);
(match v4 with
| true => F106 R a0.1.2.2.2.1 a0.1.2.2.2.2.1 v3 fun y5 =>
let v6 := (Int.tmod a1 (32 : Int));
(match (bnd v6 (32 : Int)) with
| true => let v7 := (List.getD y5 (Int.toNat v6) (0 : Int));
k v7 (a0.1, y5, v3, true, a0.2.2.2.2)
| false => none)
| false => let v8 := (v3 != a0.2.2.1);
(match v8 with
| true => F106 R a0.1.2.2.2.1 a0.1.2.2.2.2.1 v3 fun y9 =>
let v10 := (Int.tmod a1 (32 : Int));
(match (bnd v10 (32 : Int)) with
| true => let v11 := (List.getD y9 (Int.toNat v10) (0 : Int));
k v11 (a0.1, y9, v3, true, a0.2.2.2.2)
| false => none)
| false => let v12 := (Int.tmod a1 (32 : Int));
(match (bnd v12 (32 : Int)) with
| true => let v13 := (List.getD a0.2.1 (Int.toNat v12) (0 : Int));
k v13 a0
| false => none))))
theorem q102 (F106 : FT106) (F : FT102) (R : Type) (x : AT (en102 F).ins) (k : RT (en102 F).outs → PT (en102 F).ins → Option R) :
  xfun (e102 F106 R) (codeOf Try.f102) res102 (avs (en102 F).ins x) (finK (en102 F).outs (en102 F).ins k) = p102 F106 R x.1 x.2.1 (fun y1 p1 => k (y1, ()) (p1, ())) := by kernel_rfl
noncomputable def F102 : FT102 := p102 F106
theorem env102 (R : Type) : EnvOK Try.prog (e102 F106 R) := ⟨tabOK, eqOK, callOf_ok (allE_cons ok106 allE_nil), noIns, inlOK_nil⟩
theorem ok102 : (en102 F102).OK Try.prog :=
  ent_ok (Ef := fun R => e102 F106 R) (fun R => env102 R) mixed Try.func102 (body := codeOf Try.f102) (by kernel_rfl) (by kernel_rfl) (np := 1) (nt := 67) (fun _ => rfl) (fun _ => rfl) (by kernel_rfl) (res := res102) (by kernel_rfl) (fun _ => rfl) (fun _ => Nat.le_of_ble_eq_true rfl) (by
    intro R
    rw [show loopsOf (codeOf Try.f102) = [] from by kernel_rfl]
    exact allM_nil) (fun R x k => q102 F106 F102 R x k)
abbrev FT85 : Type 1 := (R : Type) → Tq13 → (Int → Tq13 → Option R) → Option R
abbrev KS85 : Kd := Kq7
abbrev KQ85 : Kd := Kq12
abbrev K85 : Kd := .pair KS85 KQ85
def en85 (F : FT85) : Ent := ⟨85, [(true, K85)], [(false, (.int .u64))], fun R x k => F R x.1 (fun y1 p1 => k (y1, ()) (p1, ()))⟩
def res85 : List (ResultVar × TypeId × Bool) := [(.tmp 2, 24, false)]
noncomputable def u85 : (R : Type) → K85.T → Int → KQ85.T → (Int → K85.T → Option R) → Option R := fun R a0 y2 q k =>
let v6 := (ishr .u8 y2 (IntKind.u64.wrap ((7 : Int) - (Int.tmod a0.1.2.2.2.2.2.1 (8 : Int)))));
let v7 := (IntKind.u64.wrap (a0.1.2.2.2.2.2.1 + (1 : Int)));
let v8 := (iand .u8 v6 (1 : Int));
let v9 := (IntKind.u64.wrap v8);
k v9 ((a0.1.1, a0.1.2.1, a0.1.2.2.1, a0.1.2.2.2.1, a0.1.2.2.2.2.1, v7, a0.1.2.2.2.2.2.2), q)
noncomputable def F85 : FT85 := fun R a0 k =>
F102 R a0 (IntKind.u64.wrap (Int.tdiv a0.1.2.2.2.2.2.1 (8 : Int))) fun y2 p3 =>
match decide (0 ≤ IntKind.u64.wrap ((7 : Int) - (Int.tmod a0.1.2.2.2.2.2.1 (8 : Int)))) with
| true => u85 R a0 y2 p3.2 k
| false => none
theorem F102_keep (R : Type) (a0 : K85.T) (a1 : Int) (k : Int → K85.T → Option R) : F102 R a0 a1 k = F102 R a0 a1 (fun y p => @ite (Option R) (p.1 = a0.1) (Classical.propDecidable _) (k y p) none) := by
  simp only [F102, p102, if_true]
noncomputable def same2 {α : Type} (x y : α) : Bool := @decide (x = y) (Classical.propDecidable _)
theorem same2_self {α : Type} (x : α) : same2 x x = true := @decide_eq_true _ (Classical.propDecidable _) rfl
theorem same2_eq {α : Type} {x y : α} (h : same2 x y = true) : x = y := @of_decide_eq_true _ (Classical.propDecidable _) h
noncomputable def en102c (a0 : K85.T) (a1 y : Int) (q : KQ85.T) : Ent := ⟨102, [(true, K85), (false, (.int .u64))], [(false, (.int .u8))], fun _ x k => match same2 x (a0, a1, ()) with | true => k (y, ()) ((a0.1, q), ()) | false => none⟩
theorem ok102c {a0 : K85.T} {a1 y : Int} {q : KQ85.T} (h : Holds Try.prog 102 (avs [(true, K85), (false, (.int .u64))] (a0, a1, ())) (rvs [(false, (.int .u8))] (y, ())) (tvs [(true, K85), (false, (.int .u64))] ((a0.1, q), ()))) : (en102c a0 a1 y q).OK Try.prog := by
  intro R x k r hr
  simp only [en102c] at hr
  split at hr
  · rename_i he
    have := same2_eq he
    subst this
    exact ⟨(y, ()), ((a0.1, q), ()), h, hr⟩
  · cases hr
noncomputable def c85 (a0 : K85.T) (a1 y : Int) (q : KQ85.T) : Env (St × List Acc) := ⟨TT, EQT, 1, 32, ownOf [], callOf [en102c a0 a1 y q] _, loopOf [] _, [], inlOf []⟩
def e85 (R : Type) : Env R := ⟨TT, EQT, 1, 32, ownOf [], callOf [] R, loopOf [] R, [], inlOf []⟩
def first85 : Code → Code
  | .seq a _ => a
  | c => c
def ops85 : Code → Array Oper
  | .seq _ (.seq (.region _ ops _) _) => ops
  | _ => #[]
def o1285 : Code → Oper
  | .seq _ (.seq (.region _ ops _) _) => (ops[12]?).getD ⟨none, .assign (.tmp 0), 0, "", #[], none⟩
  | _ => ⟨none, .assign (.tmp 0), 0, "", #[], none⟩
def rest85 : Code → Code
  | .seq _ (.seq _ c) => c
  | c => c
def z085 (a0 : K85.T) : St := ⟨[(0, .ptr 0 [] K85)], [(0, .var K85 a0 false)], 1⟩
def z185 (a0 : K85.T) : St := ⟨[(2, .val (.int .u64) (0 : Int)), (0, .ptr 0 [] K85)], [(0, .var K85 a0 false)], 1⟩
noncomputable def z285 (a0 : K85.T) (y : Int) (q : KQ85.T) : St :=
  ⟨[(3, .val (.int .u8) (ishr .u8 y (IntKind.u64.wrap ((7 : Int) - (Int.tmod a0.1.2.2.2.2.2.1 (8 : Int)))))), (19, .val (.int .u8) (ishr .u8 y (IntKind.u64.wrap ((7 : Int) - (Int.tmod a0.1.2.2.2.2.2.1 (8 : Int)))))),
    (18, .val (.int .u64) (IntKind.u64.wrap ((7 : Int) - (Int.tmod a0.1.2.2.2.2.2.1 (8 : Int))))), (17, .val (.int .u64) (Int.tmod a0.1.2.2.2.2.2.1 (8 : Int))), (16, .val (.int .u64) a0.1.2.2.2.2.2.1),
    (15, .ptr 0 [.fld 0, .fld 5] (.int .u64)), (14, .ptr 0 [.fld 0] KS85), (13, .ptr 0 [] K85), (12, .ptr 0 [] K85), (11, .val (.int .u8) y), (10, .val (.int .u64) (IntKind.u64.wrap (Int.tdiv a0.1.2.2.2.2.2.1 (8 : Int)))), (9, .val (.int .u64) a0.1.2.2.2.2.2.1),
    (8, .ptr 0 [.fld 0, .fld 5] (.int .u64)), (7, .ptr 0 [.fld 0] KS85), (6, .ptr 0 [] K85), (5, .ptr 0 [] K85), (4, .ptr 0 [] K85), (2, .val (.int .u64) (0 : Int)), (0, .ptr 0 [] K85)],
   [(0, .var K85 (a0.1, q) false), (0, .var K85 a0 false)], 1⟩
def acc85 : List Acc := [([], [], false), ([], [], false), ([], [], false), ([], [], false), ([], [0], false), ([], [], false), ([], [], false), ([], [], false), ([], [], false), ([0], [0, 0], false), ([], [], false), ([], [0], false), ([], [], false), ([], [], false), ([], [], false), ([], [], false), ([], [], false)]
theorem x085 (a0 : K85.T) : exec (e85 St) (first85 (codeOf Try.f85)) (z085 a0) (fun e σ => match e with | .normal => some σ | _ => none) = some (z185 a0) := by kernel_rfl
theorem x185 (a0 : K85.T) (y : Int) (q : KQ85.T) : xops (c85 a0 (IntKind.u64.wrap (Int.tdiv a0.1.2.2.2.2.2.1 (8 : Int))) y q) 1 (ops85 (codeOf Try.f85)) (ops85 (codeOf Try.f85)).toList 0 (z185 a0) [] (fun σ' accs => some (σ', accs)) =
    (match same2 (a0, IntKind.u64.wrap (Int.tdiv a0.1.2.2.2.2.2.1 (8 : Int)), ()) (a0, IntKind.u64.wrap (Int.tdiv a0.1.2.2.2.2.2.1 (8 : Int)), ()) with
     | true => (match decide (0 ≤ IntKind.u64.wrap ((7 : Int) - (Int.tmod a0.1.2.2.2.2.2.1 (8 : Int)))) with | true => some (z285 a0 y q, acc85) | false => none)
     | false => none) := by kernel_rfl
theorem x285 (R : Type) (a0 : K85.T) (y : Int) (q : KQ85.T) (k : RT [(false, Kd.int .u64)] → PT [(true, K85)] → Option R) :
    exec (e85 R) (rest85 (codeOf Try.f85)) (z285 a0 y q) (funK (e85 R) res85 (finK [(false, .int .u64)] [(true, K85)] k)) = u85 R a0 y q (fun y1 p1 => k (y1, ()) (p1, ())) := by kernel_rfl
theorem ok85 : (en85 F85).OK Try.prog := by
  intro R x k r h
  obtain ⟨a0, u⟩ := x
  change F85 R a0 (fun y1 p1 => k (y1, ()) (p1, ())) = some r at h
  unfold F85 at h
  rw [F102_keep] at h
  obtain ⟨⟨y, uy⟩, ⟨⟨p1, q⟩, up⟩, hH, hk⟩ := ok102 R (a0, IntKind.u64.wrap (Int.tdiv a0.1.2.2.2.2.2.1 (8 : Int)), ()) (fun y p => (fun (y : Int) (p : K85.T) => @ite (Option R) (p.1 = a0.1) (Classical.propDecidable _) (match decide (0 ≤ IntKind.u64.wrap ((7 : Int) - (Int.tmod a0.1.2.2.2.2.2.1 (8 : Int)))) with
    | true => u85 R a0 y p.2 (fun y1 p1 => k (y1, ()) (p1, ()))
    | false => none) none) y.1 p.1) r h
  simp only at hk
  split at hk <;> try (cases hk; done)
  rename_i hp
  subst hp
  split at hk <;> try (cases hk; done)
  rename_i hv
  have hE0 : EnvOK Try.prog (e85 R) := ⟨tabOK, eqOK, callOf_ok allE_nil, noIns, inlOK_nil⟩
  have hE1 : EnvOK Try.prog (e85 St) := ⟨tabOK, eqOK, callOf_ok allE_nil, noIns, inlOK_nil⟩
  have hE2 : EnvOK Try.prog (c85 a0 (IntKind.u64.wrap (Int.tdiv a0.1.2.2.2.2.2.1 (8 : Int))) y q) := ⟨tabOK, eqOK, callOf_ok (allE_cons (ok102c hH) allE_nil), noIns, inlOK_nil⟩
  have hL0 : Leads 1 32 Try.prog (first85 (codeOf Try.f85)) (z085 a0) .normal (z185 a0) := by
    obtain ⟨e, σ, h1, _, h2⟩ := exec_sound hE1 mixed (first85 (codeOf Try.f85)) (by rw [show loopsOf (first85 (codeOf Try.f85)) = [] from by kernel_rfl]; exact allM_nil) _ _ _ (x085 a0)
    cases e with
    | normal => simp only [Option.some.injEq] at h1; subst h1; exact h2
    | exit i => cases h1
    | ret => cases h1
  have hL1 : Leads 1 32 Try.prog (.region 1 (ops85 (codeOf Try.f85)) true) (z185 a0) .normal (z285 a0 y q) := by
    have hx := x185 a0 y q
    rw [same2_self, hv] at hx
    obtain ⟨w1, w2⟩ := qWr_spec (i0 := 7) (b := 0) (l := acc85.reverse) (by kernel_rfl)
    exact leads_flex (j0 := 12) (i0 := 7) (b := 0) (d := 16) (t := 15) (nx := 1) (o := o1285 (codeOf Try.f85)) (b1 := .var K85 a0 false) (b2 := .var K85 (a0.1, q) false) hE2 mixed hx (by kernel_rfl) w1 w2 (by omega)
      (by kernel_rfl) (by kernel_rfl) (by kernel_rfl) (by kernel_rfl) rfl (Nat.lt_of_succ_le (Nat.le_of_ble_eq_true rfl)) (qDst_spec (by kernel_rfl)) (qTmp_spec (by kernel_rfl))
      (by rw [show (o1285 (codeOf Try.f85)).op.operands = #[.tmp 15] from by kernel_rfl]; intro x hx; simpa using hx) rfl rfl
      (fun B hB => by rcases hB with rfl | rfl <;> kernel_rfl)
  have hbody : codeOf Try.f85 = .seq (first85 (codeOf Try.f85)) (.seq (.region 1 (ops85 (codeOf Try.f85)) true) (rest85 (codeOf Try.f85))) := by kernel_rfl
  have hx2 := x285 R a0 y q k
  rw [hk] at hx2
  obtain ⟨e, σ, h1, _, h2⟩ := exec_sound hE0 mixed (rest85 (codeOf Try.f85)) (by rw [show loopsOf (rest85 (codeOf Try.f85)) = [] from by kernel_rfl]; exact allM_nil) _ _ _ hx2
  have hL := Leads.seq hL0 (Leads.seq hL1 h2)
  rw [← hbody] at hL
  obtain ⟨rs, os, g1, g2⟩ := xfun_leads hE0 Try.func85 (body := codeOf Try.f85) (by kernel_rfl) (enters Try.func85 (by kernel_rfl) (by kernel_rfl)) (by kernel_rfl) (res := res85) (by kernel_rfl) («as» := [.ptr K85 a0]) rfl (Nat.le_of_ble_eq_true rfl) (tm0 := (z085 a0).tm) (me0 := (z085 a0).me) rfl hL h1
  unfold finK at g2
  split at g2 <;> try (cases g2; done)
  rename_i y' hy
  split at g2 <;> try (cases g2; done)
  rename_i p' hp
  rw [asR_spec hy, asP_spec hp] at g1
  exact ⟨y', p', g1, g2⟩
abbrev FT59 : Type 1 := (R : Type) → Tq7 → Int → (Int → Tq7 → Int → Option R) → Option R
def en59 (F : FT59) : Ent := ⟨59, [(false, Kq7), (false, (.int .i64))], [(false, (.int .u64)), (false, Kq7), (false, (.int .i64))], fun R x k => F R x.1 x.2.1 (fun y1 y2 y3 => k (y1, y2, y3, ()) ())⟩
def res59 : List (ResultVar × TypeId × Bool) := [(.tmp 4, 24, false), (.cell 5 37, 37, false), (.tmp 6, 29, false)]
abbrev LT59_7 : Type 1 := (R : Type) → Int → Int → Int → Tq7 → Tq13 → (Int → Tq7 → Tq13 → Option R) → Option R
def le59_7 (L : LT59_7) : LEnt := ⟨7, [.val 4 (.int .u64), .fix 5 (.ptr 1 [] Kq7), .fix 7 (.ptr 2 [] Kq13), .val 31 (.int .i64), .val 32 (.int .i64), .var 1 Kq7 false, .var 2 Kq13 false], 3, [(.exit 1, [.val 4 (.int .u64), .fix 5 (.ptr 1 [] Kq7), .fix 7 (.ptr 2 [] Kq13), .var 1 Kq7 false, .var 2 Kq13 false])], fun R x ke => L R x.1 x.2.1 x.2.2.1 x.2.2.2.1 x.2.2.2.2.1 (fun y1 y2 y3 => ke.1 (y1, y2, y3, ()))⟩
noncomputable def e59 (F75 : FT75) (F84 : FT84) (F85 : FT85) (L7 : LT59_7) (R : Type) : Env R := ⟨TT, EQT, 0, 45, ownOf [], callOf [en75 F75, en84 F84, en85 F85] R, loopOf [le59_7 L7] R, [], inlOf []⟩
def p59_7 (F85 : FT85) : (R : Type) → Int → Int → Int → Tq7 → Tq13 → (Int → Int → Int → Tq7 → Tq13 → Option R) → (Int → Tq7 → Tq13 → Option R) → Option R := fun R x1 x2 x3 x4 x5 kc k0 =>
let v6 := (decide (x3 < x2));
(match v6 with
| true => let v7 := (ishl .u64 x1 (1 : Int));
F85 R x5 fun y8 p9 =>
let v10 := (ior .u64 v7 y8);
let v11 := (IntKind.i64.wrap (x3 + (1 : Int)));
kc v10 x2 v11 x4 p9
| false => k0 x1 x4 x5)
theorem q59_7 (F75 : FT75) (F84 : FT84) (F85 : FT85) (L7 : LT59_7) (R : Type) (x : HT (le59_7 L7).H) (kc : HT (le59_7 L7).H → Option R) (ke : KT R (le59_7 L7).exs) :
  exec (e59 F75 F84 F85 L7 R) (lcode 7 (codeOf Try.f59)) (stOf (le59_7 L7).H x 3) (roundK (le59_7 L7).H (le59_7 L7).exs kc ke) =
    p59_7 F85 R x.1 x.2.1 x.2.2.1 x.2.2.2.1 x.2.2.2.2.1 (fun x1 x2 x3 x4 x5 => kc (x1, x2, x3, x4, x5, ())) (fun y1 y2 y3 => ke.1 (y1, y2, y3, ())) := by kernel_rfl
noncomputable def G59_7 : Nat → LT59_7
  | 0 => fun _ _ _ _ _ _ _ => none
  | n + 1 => fun R x1 x2 x3 x4 x5 k0 => p59_7 F85 R x1 x2 x3 x4 x5 (fun x1 x2 x3 x4 x5 => G59_7 n R x1 x2 x3 x4 x5 k0) k0
def p59 (F75 : FT75) (F84 : FT84) (L7 : LT59_7) : FT59 := fun R a0 a1 k =>
F75 R a0 fun y1 =>
(match (!y1) with
| true => k (0 : Int) a0 (1 : Int)
| false => let v2 := (decide (a1 < (0 : Int)));
(match v2 with
| true => k (0 : Int) a0 (1 : Int)
| false => let v3 := (decide (a1 > (64 : Int)));
(match v3 with
| true => k (0 : Int) a0 (1 : Int)
| false => let v4 := (IntKind.u64.wrap a1);
F84 R a0 fun y5 =>
let v6 := (decide (v4 > y5));
(match v6 with
| true => k (0 : Int) a0 (8 : Int)
| false => L7 R (0 : Int) a1 (0 : Int) ((0 : Int), ([] : (List Int)), (0 : Int), (List.replicate 32 (0 : Int)), (0 : Int), (0 : Int), ()) (a0, (List.replicate 32 (0 : Int)), (0 : Int), false, ()) (fun x7 x8 x9 =>
k x7 x9.1 (0 : Int))))))
theorem q59 (F75 : FT75) (F84 : FT84) (F85 : FT85) (L7 : LT59_7) (F : FT59) (R : Type) (x : AT (en59 F).ins) (k : RT (en59 F).outs → PT (en59 F).ins → Option R) :
  xfun (e59 F75 F84 F85 L7 R) (codeOf Try.f59) res59 (avs (en59 F).ins x) (finK (en59 F).outs (en59 F).ins k) = p59 F75 F84 L7 R x.1 x.2.1 (fun y1 y2 y3 => k (y1, y2, y3, ()) ()) := by kernel_rfl
noncomputable def F59 : FT59 := p59 F75 F84 (G59_7 FUEL)
theorem env59 (R : Type) : EnvOK Try.prog (e59 F75 F84 F85 (G59_7 FUEL) R) := ⟨tabOK, eqOK, callOf_ok (allE_cons ok75 (allE_cons ok84 (allE_cons ok85 allE_nil))), noIns, inlOK_nil⟩
noncomputable def T59_7 : (R : Type) → HT (le59_7 (G59_7 FUEL)).H → (HT (le59_7 (G59_7 FUEL)).H → Option R) → KT R (le59_7 (G59_7 FUEL)).exs → Option R := fun R x kc ke => p59_7 F85 R x.1 x.2.1 x.2.2.1 x.2.2.2.1 x.2.2.2.2.1 (fun x1 x2 x3 x4 x5 => kc (x1, x2, x3, x4, x5, ())) (fun y1 y2 y3 => ke.1 (y1, y2, y3, ()))
theorem it59_7 : ∀ (n : Nat) (R : Type) (x : HT (le59_7 (G59_7 FUEL)).H) (ke : KT R (le59_7 (G59_7 FUEL)).exs), iter T59_7 n R x ke = G59_7 n R x.1 x.2.1 x.2.2.1 x.2.2.2.1 x.2.2.2.2.1 (fun y1 y2 y3 => ke.1 (y1, y2, y3, ())) := by
  intro n
  induction n with
  | zero => intro R x ke; rfl
  | succ n ih =>
    intro R x ke
    show T59_7 R x (fun x' => iter T59_7 n R x' ke) ke = _
    rw [show (fun x' => iter T59_7 n R x' ke) = fun x => G59_7 n R x.1 x.2.1 x.2.2.1 x.2.2.2.1 x.2.2.2.2.1 (fun y1 y2 y3 => ke.1 (y1, y2, y3, ())) from funext fun x' => ih R x' ke]
    rfl
theorem lok59_7 : (le59_7 (G59_7 FUEL)).OK Try.prog 0 45 (lcode 7 (codeOf Try.f59)) := fun R x ke r h =>
  iter_sound (fun R => e59 F75 F84 F85 (G59_7 FUEL) R) 0 45 (fun _ => rfl) (fun _ => rfl) (fun R => env59 R) mixed (by
    intro R
    rw [show loopsOf (lcode 7 (codeOf Try.f59)) = [] from by kernel_rfl]
    exact allM_nil) (T := T59_7) (fun R x kc ke => q59_7 F75 F84 F85 (G59_7 FUEL) R x kc ke) FUEL R x ke r ((it59_7 FUEL R x ke).trans h)
theorem ok59 : (en59 F59).OK Try.prog :=
  ent_ok (Ef := fun R => e59 F75 F84 F85 (G59_7 FUEL) R) (fun R => env59 R) mixed Try.func59 (body := codeOf Try.f59) (by kernel_rfl) (by kernel_rfl) (np := 0) (nt := 45) (fun _ => rfl) (fun _ => rfl) (by kernel_rfl) (res := res59) (by kernel_rfl) (fun _ => rfl) (fun _ => Nat.le_of_ble_eq_true rfl) (by
    intro R
    rw [show loopsOf (codeOf Try.f59) = [lcode 7 (codeOf Try.f59)] from by kernel_rfl]
    exact (allM_cons (loop_ok2 (e := le59_7 (G59_7 FUEL)) rfl rfl lok59_7) allM_nil)) (fun R x k => q59 F75 F84 F85 (G59_7 FUEL) F59 R x k)
abbrev FT34 : Type 1 := (R : Type) → Tq7 → Int → Int → (Int → Tq7 → Int → Option R) → Option R
def en34 (F : FT34) : Ent := ⟨34, [(false, Kq7), (false, (.int .u64)), (false, (.int .i64))], [(false, (.int .u64)), (false, Kq7), (false, (.int .i64))], fun R x k => F R x.1 x.2.1 x.2.2.1 (fun y1 y2 y3 => k (y1, y2, y3, ()) ())⟩
def res34 : List (ResultVar × TypeId × Bool) := [(.tmp 6, 24, false), (.cell 7 37, 37, false), (.tmp 8, 29, false)]
abbrev LT34_4 : Type 1 := (R : Type) → Int → Int → Int → Tq7 → Tq7 → (Int → Int → Tq7 → Option R) → (Tq7 → Tq7 → Option R) → Option R
def le34_4 (L : LT34_4) : LEnt := ⟨4, [.val 1 (.int .u64), .fix 3 (.ptr 0 [] Kq7), .fix 7 (.ptr 1 [] Kq7), .val 18 (.int .i64), .val 19 (.int .i64), .var 0 Kq7 false, .var 1 Kq7 false], 2, [(.ret, [.val 6 (.int .u64), .fix 7 (.ptr 1 [] Kq7), .val 8 (.int .i64), .var 1 Kq7 false]), (.exit 0, [.fix 3 (.ptr 0 [] Kq7), .fix 7 (.ptr 1 [] Kq7), .var 0 Kq7 false, .var 1 Kq7 false])], fun R x ke => L R x.1 x.2.1 x.2.2.1 x.2.2.2.1 x.2.2.2.2.1 (fun y1 y2 y3 => ke.1 (y1, y2, y3, ())) (fun y1 y2 => ke.2.1 (y1, y2, ()))⟩
noncomputable def e34 (F58 : FT58) (F59 : FT59) (F60 : FT60) (L4 : LT34_4) (R : Type) : Env R := ⟨TT, EQT, 0, 43, ownOf [], callOf [en58 F58, en59 F59, en60 F60] R, loopOf [le34_4 L4] R, [], inlOf []⟩
def p34_4 (F59 : FT59) (F60 : FT60) : (R : Type) → Int → Int → Int → Tq7 → Tq7 → (Int → Int → Int → Tq7 → Tq7 → Option R) → (Int → Int → Tq7 → Option R) → (Tq7 → Tq7 → Option R) → Option R := fun R x1 x2 x3 x4 x5 kc k0 k1 =>
let v6 := (decide (x3 < x2));
(match v6 with
| true => F60 R x1 fun y7 =>
F59 R x4 y7 fun y8 y9 y10 =>
let v11 := (y10 != (0 : Int));
(match v11 with
| true => k0 (0 : Int) y10 x4
| false => let v12 := (decide (y8 < x1));
(match v12 with
| true => k0 y8 (0 : Int) y9
| false => let v13 := (IntKind.i64.wrap (x3 + (1 : Int)));
kc x1 x2 v13 y9 x5))
| false => k1 x4 x5)
theorem q34_4 (F58 : FT58) (F59 : FT59) (F60 : FT60) (L4 : LT34_4) (R : Type) (x : HT (le34_4 L4).H) (kc : HT (le34_4 L4).H → Option R) (ke : KT R (le34_4 L4).exs) :
  exec (e34 F58 F59 F60 L4 R) (lcode 4 (codeOf Try.f34)) (stOf (le34_4 L4).H x 2) (roundK (le34_4 L4).H (le34_4 L4).exs kc ke) =
    p34_4 F59 F60 R x.1 x.2.1 x.2.2.1 x.2.2.2.1 x.2.2.2.2.1 (fun x1 x2 x3 x4 x5 => kc (x1, x2, x3, x4, x5, ())) (fun y1 y2 y3 => ke.1 (y1, y2, y3, ())) (fun y1 y2 => ke.2.1 (y1, y2, ())) := by kernel_rfl
noncomputable def G34_4 : Nat → LT34_4
  | 0 => fun _ _ _ _ _ _ _ _ => none
  | n + 1 => fun R x1 x2 x3 x4 x5 k0 k1 => p34_4 F59 F60 R x1 x2 x3 x4 x5 (fun x1 x2 x3 x4 x5 => G34_4 n R x1 x2 x3 x4 x5 k0 k1) k0 k1
def p34 (F58 : FT58) (L4 : LT34_4) : FT34 := fun R a0 a1 a2 k =>
F58 R a0 a1 a2 fun y1 =>
(match (!y1) with
| true => k (0 : Int) a0 (1 : Int)
| false => L4 R a1 a2 (0 : Int) a0 ((0 : Int), ([] : (List Int)), (0 : Int), (List.replicate 32 (0 : Int)), (0 : Int), (0 : Int), ()) (fun x2 x3 x4 =>
k x2 x4 x3) (fun x5 x6 =>
k (0 : Int) x5 (9 : Int)))
theorem q34 (F58 : FT58) (F59 : FT59) (F60 : FT60) (L4 : LT34_4) (F : FT34) (R : Type) (x : AT (en34 F).ins) (k : RT (en34 F).outs → PT (en34 F).ins → Option R) :
  xfun (e34 F58 F59 F60 L4 R) (codeOf Try.f34) res34 (avs (en34 F).ins x) (finK (en34 F).outs (en34 F).ins k) = p34 F58 L4 R x.1 x.2.1 x.2.2.1 (fun y1 y2 y3 => k (y1, y2, y3, ()) ()) := by kernel_rfl
noncomputable def F34 : FT34 := p34 F58 (G34_4 FUEL)
theorem env34 (R : Type) : EnvOK Try.prog (e34 F58 F59 F60 (G34_4 FUEL) R) := ⟨tabOK, eqOK, callOf_ok (allE_cons ok58 (allE_cons ok59 (allE_cons ok60 allE_nil))), noIns, inlOK_nil⟩
noncomputable def T34_4 : (R : Type) → HT (le34_4 (G34_4 FUEL)).H → (HT (le34_4 (G34_4 FUEL)).H → Option R) → KT R (le34_4 (G34_4 FUEL)).exs → Option R := fun R x kc ke => p34_4 F59 F60 R x.1 x.2.1 x.2.2.1 x.2.2.2.1 x.2.2.2.2.1 (fun x1 x2 x3 x4 x5 => kc (x1, x2, x3, x4, x5, ())) (fun y1 y2 y3 => ke.1 (y1, y2, y3, ())) (fun y1 y2 => ke.2.1 (y1, y2, ()))
theorem it34_4 : ∀ (n : Nat) (R : Type) (x : HT (le34_4 (G34_4 FUEL)).H) (ke : KT R (le34_4 (G34_4 FUEL)).exs), iter T34_4 n R x ke = G34_4 n R x.1 x.2.1 x.2.2.1 x.2.2.2.1 x.2.2.2.2.1 (fun y1 y2 y3 => ke.1 (y1, y2, y3, ())) (fun y1 y2 => ke.2.1 (y1, y2, ())) := by
  intro n
  induction n with
  | zero => intro R x ke; rfl
  | succ n ih =>
    intro R x ke
    show T34_4 R x (fun x' => iter T34_4 n R x' ke) ke = _
    rw [show (fun x' => iter T34_4 n R x' ke) = fun x => G34_4 n R x.1 x.2.1 x.2.2.1 x.2.2.2.1 x.2.2.2.2.1 (fun y1 y2 y3 => ke.1 (y1, y2, y3, ())) (fun y1 y2 => ke.2.1 (y1, y2, ())) from funext fun x' => ih R x' ke]
    rfl
theorem lok34_4 : (le34_4 (G34_4 FUEL)).OK Try.prog 0 43 (lcode 4 (codeOf Try.f34)) := fun R x ke r h =>
  iter_sound (fun R => e34 F58 F59 F60 (G34_4 FUEL) R) 0 43 (fun _ => rfl) (fun _ => rfl) (fun R => env34 R) mixed (by
    intro R
    rw [show loopsOf (lcode 4 (codeOf Try.f34)) = [] from by kernel_rfl]
    exact allM_nil) (T := T34_4) (fun R x kc ke => q34_4 F58 F59 F60 (G34_4 FUEL) R x kc ke) FUEL R x ke r ((it34_4 FUEL R x ke).trans h)
theorem ok34 : (en34 F34).OK Try.prog :=
  ent_ok (Ef := fun R => e34 F58 F59 F60 (G34_4 FUEL) R) (fun R => env34 R) mixed Try.func34 (body := codeOf Try.f34) (by kernel_rfl) (by kernel_rfl) (np := 0) (nt := 43) (fun _ => rfl) (fun _ => rfl) (by kernel_rfl) (res := res34) (by kernel_rfl) (fun _ => rfl) (fun _ => Nat.le_of_ble_eq_true rfl) (by
    intro R
    rw [show loopsOf (codeOf Try.f34) = [lcode 4 (codeOf Try.f34)] from by kernel_rfl]
    exact (allM_cons (loop_ok2 (e := le34_4 (G34_4 FUEL)) rfl rfl lok34_4) allM_nil)) (fun R x k => q34 F58 F59 F60 (G34_4 FUEL) F34 R x k)
abbrev FT77 : Type 1 := (R : Type) → ((List Int) × Unit) → Int → (Int → Int → Option R) → Option R
def en77 (F : FT77) : Ent := ⟨77, [(false, (.pair (.sl (.int .u64)) .unit)), (false, (.int .u64))], [(false, (.int .i64)), (false, (.int .i64))], fun R x k => F R x.1 x.2.1 (fun y1 y2 => k (y1, y2, ()) ())⟩
def res77 : List (ResultVar × TypeId × Bool) := [(.tmp 4, 3, false), (.tmp 5, 29, false)]
abbrev LT77_4 : Type 1 := (R : Type) → Int → Int → Int → ((List Int) × Unit) → (Int → Int → Int → ((List Int) × Unit) → Option R) → Option R
def le77_4 (L : LT77_4) : LEnt := ⟨4, [.val 1 (.int .u64), .fix 2 (.ptr 0 [] (.pair (.sl (.int .u64)) .unit)), .val 6 (.int .i64), .val 7 (.int .i64), .var 0 (.pair (.sl (.int .u64)) .unit) false], 1, [(.exit 0, [.val 1 (.int .u64), .fix 2 (.ptr 0 [] (.pair (.sl (.int .u64)) .unit)), .val 6 (.int .i64), .val 7 (.int .i64), .var 0 (.pair (.sl (.int .u64)) .unit) false])], fun R x ke => L R x.1 x.2.1 x.2.2.1 x.2.2.2.1 (fun y1 y2 y3 y4 => ke.1 (y1, y2, y3, y4, ()))⟩
abbrev LT77_6 : Type 1 := (R : Type) → Int → Int → Int → ((List Int) × Unit) → (Int → Option R) → Option R
def le77_6 (L : LT77_6) : LEnt := ⟨6, [.val 1 (.int .u64), .fix 2 (.ptr 0 [] (.pair (.sl (.int .u64)) .unit)), .val 6 (.int .i64), .val 7 (.int .i64), .var 0 (.pair (.sl (.int .u64)) .unit) false], 1, [(.exit 2, [.val 6 (.int .i64)])], fun R x ke => L R x.1 x.2.1 x.2.2.1 x.2.2.2.1 (fun y1 => ke.1 (y1, ()))⟩
noncomputable def e77 (F76 : FT76) (F97 : FT97) (L4 : LT77_4) (L6 : LT77_6) (R : Type) : Env R := ⟨TT, EQT, 0, 51, ownOf [], callOf [en76 F76, en97 F97] R, loopOf [le77_4 L4, le77_6 L6] R, [], inlOf []⟩
def p77_4 (F97 : FT97) : (R : Type) → Int → Int → Int → ((List Int) × Unit) → (Int → Int → Int → ((List Int) × Unit) → Option R) → (Int → Int → Int → ((List Int) × Unit) → Option R) → Option R := fun R x1 x2 x3 x4 kc k0 =>
let v5 := (ishl .i64 x3 (1 : Int));
F97 R x4 fun y6 =>
let v7 := (decide (v5 ≤ y6));
(match v7 with
| true => let v8 := (ishl .i64 x3 (1 : Int));
kc x1 x2 v8 x4
| false => k0 x1 x2 x3 x4)
theorem q77_4 (F76 : FT76) (F97 : FT97) (L4 : LT77_4) (L6 : LT77_6) (R : Type) (x : HT (le77_4 L4).H) (kc : HT (le77_4 L4).H → Option R) (ke : KT R (le77_4 L4).exs) :
  exec (e77 F76 F97 L4 L6 R) (lcode 4 (codeOf Try.f77)) (stOf (le77_4 L4).H x 1) (roundK (le77_4 L4).H (le77_4 L4).exs kc ke) =
    p77_4 F97 R x.1 x.2.1 x.2.2.1 x.2.2.2.1 (fun x1 x2 x3 x4 => kc (x1, x2, x3, x4, ())) (fun y1 y2 y3 y4 => ke.1 (y1, y2, y3, y4, ())) := by kernel_rfl
noncomputable def G77_4 : Nat → LT77_4
  | 0 => fun _ _ _ _ _ _ => none
  | n + 1 => fun R x1 x2 x3 x4 k0 => p77_4 F97 R x1 x2 x3 x4 (fun x1 x2 x3 x4 => G77_4 n R x1 x2 x3 x4 k0) k0
def p77_6 (F97 : FT97) : (R : Type) → Int → Int → Int → ((List Int) × Unit) → (Int → Int → Int → ((List Int) × Unit) → Option R) → (Int → Option R) → Option R := fun R x1 x2 x3 x4 kc k0 =>
let v5 := (decide (x3 > (0 : Int)));
(match v5 with
| true => let v6 := (IntKind.i64.wrap (x2 + x3));
F97 R x4 fun y7 =>
let v8 := (decide (v6 ≤ y7));
(match v8 with
| true => let v9 := (IntKind.i64.wrap (v6 - (1 : Int)));
(match (bnd v9 (List.length x4.1 : Int)) with
| true => let v10 := (List.getD x4.1 (Int.toNat v9) (0 : Int));
let v11 := (decide (v10 ≤ x1));
(match v11 with
| true => let v12 := (IntKind.i64.wrap (v6 - (1 : Int)));
(match (bnd v12 (List.length x4.1 : Int)) with
| true => let v13 := (List.getD x4.1 (Int.toNat v12) (0 : Int));
let v14 := (IntKind.u64.wrap (x1 - v13));
let v15 := (ishr .i64 x3 (1 : Int));
kc v14 v6 v15 x4
| false => none)
| false => let v16 := (ishr .i64 x3 (1 : Int));
kc x1 x2 v16 x4)
| false => none)
| false => let v17 := (ishr .i64 x3 (1 : Int));
kc x1 x2 v17 x4)
| false => k0 x2)
theorem q77_6 (F76 : FT76) (F97 : FT97) (L4 : LT77_4) (L6 : LT77_6) (R : Type) (x : HT (le77_6 L6).H) (kc : HT (le77_6 L6).H → Option R) (ke : KT R (le77_6 L6).exs) :
  exec (e77 F76 F97 L4 L6 R) (lcode 6 (codeOf Try.f77)) (stOf (le77_6 L6).H x 1) (roundK (le77_6 L6).H (le77_6 L6).exs kc ke) =
    p77_6 F97 R x.1 x.2.1 x.2.2.1 x.2.2.2.1 (fun x1 x2 x3 x4 => kc (x1, x2, x3, x4, ())) (fun y1 => ke.1 (y1, ())) := by kernel_rfl
noncomputable def G77_6 : Nat → LT77_6
  | 0 => fun _ _ _ _ _ _ => none
  | n + 1 => fun R x1 x2 x3 x4 k0 => p77_6 F97 R x1 x2 x3 x4 (fun x1 x2 x3 x4 => G77_6 n R x1 x2 x3 x4 k0) k0
def p77 (F76 : FT76) (L4 : LT77_4) (L6 : LT77_6) : FT77 := fun R a0 a1 k =>
F76 R a0 fun y1 =>
let v2 := (decide (a1 ≥ y1));
(match v2 with
| true => k (0 : Int) (3 : Int)
| false => L4 R a1 (0 : Int) (1 : Int) a0 (fun x3 x4 x5 x6 =>
L6 R x3 x4 x5 x6 (fun x7 =>
k x7 (0 : Int))))
theorem q77 (F76 : FT76) (F97 : FT97) (L4 : LT77_4) (L6 : LT77_6) (F : FT77) (R : Type) (x : AT (en77 F).ins) (k : RT (en77 F).outs → PT (en77 F).ins → Option R) :
  xfun (e77 F76 F97 L4 L6 R) (codeOf Try.f77) res77 (avs (en77 F).ins x) (finK (en77 F).outs (en77 F).ins k) = p77 F76 L4 L6 R x.1 x.2.1 (fun y1 y2 => k (y1, y2, ()) ()) := by kernel_rfl
noncomputable def F77 : FT77 := p77 F76 (G77_4 FUEL) (G77_6 FUEL)
theorem env77 (R : Type) : EnvOK Try.prog (e77 F76 F97 (G77_4 FUEL) (G77_6 FUEL) R) := ⟨tabOK, eqOK, callOf_ok (allE_cons ok76 (allE_cons ok97 allE_nil)), noIns, inlOK_nil⟩
noncomputable def T77_4 : (R : Type) → HT (le77_4 (G77_4 FUEL)).H → (HT (le77_4 (G77_4 FUEL)).H → Option R) → KT R (le77_4 (G77_4 FUEL)).exs → Option R := fun R x kc ke => p77_4 F97 R x.1 x.2.1 x.2.2.1 x.2.2.2.1 (fun x1 x2 x3 x4 => kc (x1, x2, x3, x4, ())) (fun y1 y2 y3 y4 => ke.1 (y1, y2, y3, y4, ()))
theorem it77_4 : ∀ (n : Nat) (R : Type) (x : HT (le77_4 (G77_4 FUEL)).H) (ke : KT R (le77_4 (G77_4 FUEL)).exs), iter T77_4 n R x ke = G77_4 n R x.1 x.2.1 x.2.2.1 x.2.2.2.1 (fun y1 y2 y3 y4 => ke.1 (y1, y2, y3, y4, ())) := by
  intro n
  induction n with
  | zero => intro R x ke; rfl
  | succ n ih =>
    intro R x ke
    show T77_4 R x (fun x' => iter T77_4 n R x' ke) ke = _
    rw [show (fun x' => iter T77_4 n R x' ke) = fun x => G77_4 n R x.1 x.2.1 x.2.2.1 x.2.2.2.1 (fun y1 y2 y3 y4 => ke.1 (y1, y2, y3, y4, ())) from funext fun x' => ih R x' ke]
    rfl
theorem lok77_4 : (le77_4 (G77_4 FUEL)).OK Try.prog 0 51 (lcode 4 (codeOf Try.f77)) := fun R x ke r h =>
  iter_sound (fun R => e77 F76 F97 (G77_4 FUEL) (G77_6 FUEL) R) 0 51 (fun _ => rfl) (fun _ => rfl) (fun R => env77 R) mixed (by
    intro R
    rw [show loopsOf (lcode 4 (codeOf Try.f77)) = [] from by kernel_rfl]
    exact allM_nil) (T := T77_4) (fun R x kc ke => q77_4 F76 F97 (G77_4 FUEL) (G77_6 FUEL) R x kc ke) FUEL R x ke r ((it77_4 FUEL R x ke).trans h)
noncomputable def T77_6 : (R : Type) → HT (le77_6 (G77_6 FUEL)).H → (HT (le77_6 (G77_6 FUEL)).H → Option R) → KT R (le77_6 (G77_6 FUEL)).exs → Option R := fun R x kc ke => p77_6 F97 R x.1 x.2.1 x.2.2.1 x.2.2.2.1 (fun x1 x2 x3 x4 => kc (x1, x2, x3, x4, ())) (fun y1 => ke.1 (y1, ()))
theorem it77_6 : ∀ (n : Nat) (R : Type) (x : HT (le77_6 (G77_6 FUEL)).H) (ke : KT R (le77_6 (G77_6 FUEL)).exs), iter T77_6 n R x ke = G77_6 n R x.1 x.2.1 x.2.2.1 x.2.2.2.1 (fun y1 => ke.1 (y1, ())) := by
  intro n
  induction n with
  | zero => intro R x ke; rfl
  | succ n ih =>
    intro R x ke
    show T77_6 R x (fun x' => iter T77_6 n R x' ke) ke = _
    rw [show (fun x' => iter T77_6 n R x' ke) = fun x => G77_6 n R x.1 x.2.1 x.2.2.1 x.2.2.2.1 (fun y1 => ke.1 (y1, ())) from funext fun x' => ih R x' ke]
    rfl
theorem lok77_6 : (le77_6 (G77_6 FUEL)).OK Try.prog 0 51 (lcode 6 (codeOf Try.f77)) := fun R x ke r h =>
  iter_sound (fun R => e77 F76 F97 (G77_4 FUEL) (G77_6 FUEL) R) 0 51 (fun _ => rfl) (fun _ => rfl) (fun R => env77 R) mixed (by
    intro R
    rw [show loopsOf (lcode 6 (codeOf Try.f77)) = [] from by kernel_rfl]
    exact allM_nil) (T := T77_6) (fun R x kc ke => q77_6 F76 F97 (G77_4 FUEL) (G77_6 FUEL) R x kc ke) FUEL R x ke r ((it77_6 FUEL R x ke).trans h)
theorem ok77 : (en77 F77).OK Try.prog :=
  ent_ok (Ef := fun R => e77 F76 F97 (G77_4 FUEL) (G77_6 FUEL) R) (fun R => env77 R) mixed Try.func77 (body := codeOf Try.f77) (by kernel_rfl) (by kernel_rfl) (np := 0) (nt := 51) (fun _ => rfl) (fun _ => rfl) (by kernel_rfl) (res := res77) (by kernel_rfl) (fun _ => rfl) (fun _ => Nat.le_of_ble_eq_true rfl) (by
    intro R
    rw [show loopsOf (codeOf Try.f77) = [lcode 4 (codeOf Try.f77), lcode 6 (codeOf Try.f77)] from by kernel_rfl]
    exact (allM_cons (loop_ok2 (e := le77_4 (G77_4 FUEL)) rfl rfl lok77_4) (allM_cons (loop_ok2 (e := le77_6 (G77_6 FUEL)) rfl rfl lok77_6) allM_nil))) (fun R x k => q77 F76 F97 (G77_4 FUEL) (G77_6 FUEL) F77 R x k)
abbrev FT47 : Type 1 := (R : Type) → ((List Int) × Unit) → Tq7 → Int → (Int → Tq7 → Int → Option R) → Option R
def en47 (F : FT47) : Ent := ⟨47, [(false, (.pair (.sl (.int .u64)) .unit)), (false, Kq7), (false, (.int .i64))], [(false, (.int .i64)), (false, Kq7), (false, (.int .i64))], fun R x k => F R x.1 x.2.1 x.2.2.1 (fun y1 y2 y3 => k (y1, y2, y3, ()) ())⟩
def res47 : List (ResultVar × TypeId × Bool) := [(.tmp 6, 3, false), (.cell 7 37, 37, false), (.tmp 8, 29, false)]
noncomputable def e47 (F34 : FT34) (F76 : FT76) (F77 : FT77) (R : Type) : Env R := ⟨TT, EQT, 0, 40, ownOf [], callOf [en34 F34, en76 F76, en77 F77] R, loopOf [] R, [], inlOf []⟩
def p47 (F34 : FT34) (F76 : FT76) (F77 : FT77) : FT47 := fun R a0 a1 a2 k =>
F76 R a0 fun y1 =>
let v2 := (y1 == (0 : Int));
(match v2 with
| true => k (0 : Int) a1 (10 : Int)
| false => F34 R a1 y1 a2 fun y3 y4 y5 =>
let v6 := (y5 != (0 : Int));
(match v6 with
| true => k (0 : Int) y4 y5
| false => F77 R a0 y3 fun y7 y8 =>
k y7 y4 y8))
theorem q47 (F34 : FT34) (F76 : FT76) (F77 : FT77) (F : FT47) (R : Type) (x : AT (en47 F).ins) (k : RT (en47 F).outs → PT (en47 F).ins → Option R) :
  xfun (e47 F34 F76 F77 R) (codeOf Try.f47) res47 (avs (en47 F).ins x) (finK (en47 F).outs (en47 F).ins k) = p47 F34 F76 F77 R x.1 x.2.1 x.2.2.1 (fun y1 y2 y3 => k (y1, y2, y3, ()) ()) := by kernel_rfl
noncomputable def F47 : FT47 := p47 F34 F76 F77
theorem env47 (R : Type) : EnvOK Try.prog (e47 F34 F76 F77 R) := ⟨tabOK, eqOK, callOf_ok (allE_cons ok34 (allE_cons ok76 (allE_cons ok77 allE_nil))), noIns, inlOK_nil⟩
theorem ok47 : (en47 F47).OK Try.prog :=
  ent_ok (Ef := fun R => e47 F34 F76 F77 R) (fun R => env47 R) mixed Try.func47 (body := codeOf Try.f47) (by kernel_rfl) (by kernel_rfl) (np := 0) (nt := 40) (fun _ => rfl) (fun _ => rfl) (by kernel_rfl) (res := res47) (by kernel_rfl) (fun _ => rfl) (fun _ => Nat.le_of_ble_eq_true rfl) (by
    intro R
    rw [show loopsOf (codeOf Try.f47) = [] from by kernel_rfl]
    exact allM_nil) (fun R x k => q47 F34 F76 F77 F47 R x k)
abbrev FT78 : Type 1 := (R : Type) → ((List Int) × Unit) → Int → (Int → Int → Option R) → Option R
def en78 (F : FT78) : Ent := ⟨78, [(false, (.pair (.sl (.int .u64)) .unit)), (false, (.int .i64))], [(false, (.int .u64)), (false, (.int .i64))], fun R x k => F R x.1 x.2.1 (fun y1 y2 => k (y1, y2, ()) ())⟩
def res78 : List (ResultVar × TypeId × Bool) := [(.tmp 4, 24, false), (.tmp 5, 29, false)]
noncomputable def e78 (F96 : FT96) (F97 : FT97) (R : Type) : Env R := ⟨TT, EQT, 0, 22, ownOf [], callOf [en96 F96, en97 F97] R, loopOf [] R, [], inlOf []⟩
def p78 (F96 : FT96) (F97 : FT97) : FT78 := fun R a0 a1 k =>
let v1 := (decide (a1 < (0 : Int)));
(match v1 with
| true => k (0 : Int) (3 : Int)
| false => F97 R a0 fun y2 =>
let v3 := (decide (a1 ≥ y2));
(match v3 with
| true => k (0 : Int) (3 : Int)
| false => let v4 := (IntKind.i64.wrap (a1 + (1 : Int)));
F96 R a0 v4 fun y5 =>
F96 R a0 a1 fun y6 =>
let v7 := (IntKind.u64.wrap (y5 - y6));
k v7 (0 : Int)))
theorem q78 (F96 : FT96) (F97 : FT97) (F : FT78) (R : Type) (x : AT (en78 F).ins) (k : RT (en78 F).outs → PT (en78 F).ins → Option R) :
  xfun (e78 F96 F97 R) (codeOf Try.f78) res78 (avs (en78 F).ins x) (finK (en78 F).outs (en78 F).ins k) = p78 F96 F97 R x.1 x.2.1 (fun y1 y2 => k (y1, y2, ()) ()) := by kernel_rfl
noncomputable def F78 : FT78 := p78 F96 F97
theorem env78 (R : Type) : EnvOK Try.prog (e78 F96 F97 R) := ⟨tabOK, eqOK, callOf_ok (allE_cons ok96 (allE_cons ok97 allE_nil)), noIns, inlOK_nil⟩
theorem ok78 : (en78 F78).OK Try.prog :=
  ent_ok (Ef := fun R => e78 F96 F97 R) (fun R => env78 R) mixed Try.func78 (body := codeOf Try.f78) (by kernel_rfl) (by kernel_rfl) (np := 0) (nt := 22) (fun _ => rfl) (fun _ => rfl) (by kernel_rfl) (res := res78) (by kernel_rfl) (fun _ => rfl) (fun _ => Nat.le_of_ble_eq_true rfl) (by
    intro R
    rw [show loopsOf (codeOf Try.f78) = [] from by kernel_rfl]
    exact allM_nil) (fun R x k => q78 F96 F97 F78 R x k)
abbrev FT98 : Type 1 := (R : Type) → Int → Int → Int → (Int → Int → Option R) → Option R
def en98 (F : FT98) : Ent := ⟨98, [(false, (.int .u64)), (false, (.int .u64)), (false, (.int .u64))], [(false, (.int .u64)), (false, (.int .u64))], fun R x k => F R x.1 x.2.1 x.2.2.1 (fun y1 y2 => k (y1, y2, ()) ())⟩
def F98 : FT98 := fun R a0 a1 a2 k => match decide (0 ≤ a0 ∧ 0 ≤ a1 ∧ 0 ≤ a2 ∧ a2 ≤ 1) with | true => k ((a0 + a1 + a2) % 18446744073709551616) ((a0 + a1 + a2) / 18446744073709551616) | false => none
theorem ok98 : (en98 F98).OK Try.prog := add64_ok Try.func98 (by kernel_rfl) (by kernel_rfl) (by kernel_rfl) (by kernel_rfl)
abbrev FT101 : Type 1 := (R : Type) → Int → (Bool → Option R) → Option R
def en101 (F : FT101) : Ent := ⟨101, [(false, (.int .u64))], [(false, .bool)], fun R x k => F R x.1 (fun y1 => k (y1, ()) ())⟩
def res101 : List (ResultVar × TypeId × Bool) := [(.tmp 2, 4, false)]
noncomputable def e101 (R : Type) : Env R := ⟨TT, EQT, 0, 5, ownOf [], callOf [] R, loopOf [] R, [], inlOf []⟩
def p101 : FT101 := fun R a0 k =>
let v1 := (decide (a0 < (9223372036854775808 : Int)));
k v1
theorem q101 (F : FT101) (R : Type) (x : AT (en101 F).ins) (k : RT (en101 F).outs → PT (en101 F).ins → Option R) :
  xfun (e101 R) (codeOf Try.f101) res101 (avs (en101 F).ins x) (finK (en101 F).outs (en101 F).ins k) = p101 R x.1 (fun y1 => k (y1, ()) ()) := by kernel_rfl
noncomputable def F101 : FT101 := p101
theorem env101 (R : Type) : EnvOK Try.prog (e101 R) := ⟨tabOK, eqOK, callOf_ok allE_nil, noIns, inlOK_nil⟩
theorem ok101 : (en101 F101).OK Try.prog :=
  ent_ok (Ef := fun R => e101 R) (fun R => env101 R) mixed Try.func101 (body := codeOf Try.f101) (by kernel_rfl) (by kernel_rfl) (np := 0) (nt := 5) (fun _ => rfl) (fun _ => rfl) (by kernel_rfl) (res := res101) (by kernel_rfl) (fun _ => rfl) (fun _ => Nat.le_of_ble_eq_true rfl) (by
    intro R
    rw [show loopsOf (codeOf Try.f101) = [] from by kernel_rfl]
    exact allM_nil) (fun R x k => q101 F101 R x k)
abbrev FT82 : Type 1 := (R : Type) → Int → Int → (Int → Bool → Option R) → Option R
def en82 (F : FT82) : Ent := ⟨82, [(false, (.int .u64)), (false, (.int .u64))], [(false, (.int .u64)), (false, .bool)], fun R x k => F R x.1 x.2.1 (fun y1 y2 => k (y1, y2, ()) ())⟩
def res82 : List (ResultVar × TypeId × Bool) := [(.tmp 4, 24, false), (.tmp 5, 4, false)]
noncomputable def e82 (F101 : FT101) (R : Type) : Env R := ⟨TT, EQT, 0, 14, ownOf [], callOf [en101 F101] R, loopOf [] R, [], inlOf []⟩
def p82 (F101 : FT101) : FT82 := fun R a0 a1 k =>
let v1 := (a1 != (0 : Int));
(match v1 with
| true => k (0 : Int) false
| false => F101 R a0 fun y2 =>
(match (!y2) with
| true => k (0 : Int) false
| false => k a0 true))
theorem q82 (F101 : FT101) (F : FT82) (R : Type) (x : AT (en82 F).ins) (k : RT (en82 F).outs → PT (en82 F).ins → Option R) :
  xfun (e82 F101 R) (codeOf Try.f82) res82 (avs (en82 F).ins x) (finK (en82 F).outs (en82 F).ins k) = p82 F101 R x.1 x.2.1 (fun y1 y2 => k (y1, y2, ()) ()) := by kernel_rfl
noncomputable def F82 : FT82 := p82 F101
theorem env82 (R : Type) : EnvOK Try.prog (e82 F101 R) := ⟨tabOK, eqOK, callOf_ok (allE_cons ok101 allE_nil), noIns, inlOK_nil⟩
theorem ok82 : (en82 F82).OK Try.prog :=
  ent_ok (Ef := fun R => e82 F101 R) (fun R => env82 R) mixed Try.func82 (body := codeOf Try.f82) (by kernel_rfl) (by kernel_rfl) (np := 0) (nt := 14) (fun _ => rfl) (fun _ => rfl) (by kernel_rfl) (res := res82) (by kernel_rfl) (fun _ => rfl) (fun _ => Nat.le_of_ble_eq_true rfl) (by
    intro R
    rw [show loopsOf (codeOf Try.f82) = [] from by kernel_rfl]
    exact allM_nil) (fun R x k => q82 F101 F82 R x k)
abbrev FT79 : Type 1 := (R : Type) → Int → Int → (Int → Bool → Option R) → Option R
def en79 (F : FT79) : Ent := ⟨79, [(false, (.int .u64)), (false, (.int .u64))], [(false, (.int .u64)), (false, .bool)], fun R x k => F R x.1 x.2.1 (fun y1 y2 => k (y1, y2, ()) ())⟩
def res79 : List (ResultVar × TypeId × Bool) := [(.tmp 4, 24, false), (.tmp 5, 4, false)]
noncomputable def e79 (F82 : FT82) (F98 : FT98) (R : Type) : Env R := ⟨TT, EQT, 0, 14, ownOf [], callOf [en82 F82, en98 F98] R, loopOf [] R, [], inlOf []⟩
def p79 (F82 : FT82) (F98 : FT98) : FT79 := fun R a0 a1 k =>
F98 R a0 a1 (0 : Int) fun y1 y2 =>
F82 R y1 y2 fun y3 y4 =>
k y3 y4
theorem q79 (F82 : FT82) (F98 : FT98) (F : FT79) (R : Type) (x : AT (en79 F).ins) (k : RT (en79 F).outs → PT (en79 F).ins → Option R) :
  xfun (e79 F82 F98 R) (codeOf Try.f79) res79 (avs (en79 F).ins x) (finK (en79 F).outs (en79 F).ins k) = p79 F82 F98 R x.1 x.2.1 (fun y1 y2 => k (y1, y2, ()) ()) := by kernel_rfl
noncomputable def F79 : FT79 := p79 F82 F98
theorem env79 (R : Type) : EnvOK Try.prog (e79 F82 F98 R) := ⟨tabOK, eqOK, callOf_ok (allE_cons ok82 (allE_cons ok98 allE_nil)), noIns, inlOK_nil⟩
theorem ok79 : (en79 F79).OK Try.prog :=
  ent_ok (Ef := fun R => e79 F82 F98 R) (fun R => env79 R) mixed Try.func79 (body := codeOf Try.f79) (by kernel_rfl) (by kernel_rfl) (np := 0) (nt := 14) (fun _ => rfl) (fun _ => rfl) (by kernel_rfl) (res := res79) (by kernel_rfl) (fun _ => rfl) (fun _ => Nat.le_of_ble_eq_true rfl) (by
    intro R
    rw [show loopsOf (codeOf Try.f79) = [] from by kernel_rfl]
    exact allM_nil) (fun R x k => q79 F82 F98 F79 R x k)
abbrev FT48 : Type 1 := (R : Type) → ((List Int) × Unit) → Int → Int → (((List Int) × Unit) → Int → Option R) → Option R
def en48 (F : FT48) : Ent := ⟨48, [(false, (.pair (.sl (.int .u64)) .unit)), (false, (.int .i64)), (false, (.int .u64))], [(false, (.pair (.sl (.int .u64)) .unit)), (false, (.int .i64))], fun R x k => F R x.1 x.2.1 x.2.2.1 (fun y1 y2 => k (y1, y2, ()) ())⟩
def res48 : List (ResultVar × TypeId × Bool) := [(.cell 6 58, 58, false), (.tmp 7, 29, false)]
abbrev LT48_9 : Type 1 := (R : Type) → Int → Int → Int → ((List Int) × Unit) → (List Int) → (((List Int) × Unit) → (List Int) → Option R) → Option R
def le48_9 (L : LT48_9) : LEnt := ⟨9, [.val 2 (.int .u64), .fix 6 (.ptr 1 [] (.pair (.sl (.int .u64)) .unit)), .val 8 (.int .u64), .fix 12 (.own 2 0), .val 13 (.int .i64), .var 1 (.pair (.sl (.int .u64)) .unit) false, .row 2 (.int .u64) false], 3, [(.exit 0, [.fix 6 (.ptr 1 [] (.pair (.sl (.int .u64)) .unit)), .fix 12 (.own 2 0), .var 1 (.pair (.sl (.int .u64)) .unit) false, .row 2 (.int .u64) false])], fun R x ke => L R x.1 x.2.1 x.2.2.1 x.2.2.2.1 x.2.2.2.2.1 (fun y1 y2 => ke.1 (y1, y2, ()))⟩
noncomputable def e48 (F66 : FT66) (F67 : FT67) (F76 : FT76) (F78 : FT78) (F79 : FT79) (L9 : LT48_9) (R : Type) : Env R := ⟨TT, EQT, 0, 64, ownOf [], callOf [en66 F66, en67 F67, en76 F76, en78 F78, en79 F79] R, loopOf [le48_9 L9] R, [], inlOf []⟩
def p48_9 (F67 : FT67) : (R : Type) → Int → Int → Int → ((List Int) × Unit) → (List Int) → (Int → Int → Int → ((List Int) × Unit) → (List Int) → Option R) → (((List Int) × Unit) → (List Int) → Option R) → Option R := fun R x1 x2 x3 x4 x5 kc k0 =>
let v6 := (List.length x5 : Int);
let v7 := (decide (x3 ≤ v6));
(match v7 with
| true => let v8 := (IntKind.i64.wrap (x3 - (1 : Int)));
let v9 := (IntKind.i64.wrap (x3 - (1 : Int)));
(match (bnd v9 (List.length x5 : Int)) with
| true => let v10 := (List.getD x5 (Int.toNat v9) (0 : Int));
let v11 := (IntKind.u64.wrap (v10 - x2));
let v12 := (IntKind.u64.wrap (v11 + x1));
(match (bnd v8 (List.length x5 : Int)) with
| true => let v13 : (List Int) := (List.set x5 (Int.toNat v8) v12);
F67 R x3 fun y14 =>
let v15 := (IntKind.i64.wrap (x3 + y14));
kc x1 x2 v15 x4 v13
| false => none)
| false => none)
| false => k0 x4 x5)
theorem q48_9 (F66 : FT66) (F67 : FT67) (F76 : FT76) (F78 : FT78) (F79 : FT79) (L9 : LT48_9) (R : Type) (x : HT (le48_9 L9).H) (kc : HT (le48_9 L9).H → Option R) (ke : KT R (le48_9 L9).exs) :
  exec (e48 F66 F67 F76 F78 F79 L9 R) (lcode 9 (codeOf Try.f48)) (stOf (le48_9 L9).H x 3) (roundK (le48_9 L9).H (le48_9 L9).exs kc ke) =
    p48_9 F67 R x.1 x.2.1 x.2.2.1 x.2.2.2.1 x.2.2.2.2.1 (fun x1 x2 x3 x4 x5 => kc (x1, x2, x3, x4, x5, ())) (fun y1 y2 => ke.1 (y1, y2, ())) := by kernel_rfl
noncomputable def G48_9 : Nat → LT48_9
  | 0 => fun _ _ _ _ _ _ _ => none
  | n + 1 => fun R x1 x2 x3 x4 x5 k0 => p48_9 F67 R x1 x2 x3 x4 x5 (fun x1 x2 x3 x4 x5 => G48_9 n R x1 x2 x3 x4 x5 k0) k0
def p48 (F66 : FT66) (F76 : FT76) (F78 : FT78) (F79 : FT79) (L9 : LT48_9) : FT48 := fun R a0 a1 a2 k =>
F78 R a0 a1 fun y1 y2 =>
let v3 := (y2 != (0 : Int));
(match v3 with
| true => k (([] : (List Int)), ()) y2
| false => F76 R a0 fun y4 =>
let v5 := (IntKind.u64.wrap (y4 - y1));
F79 R v5 a2 fun y6 y7 =>
(match (!y7) with
| true => k (([] : (List Int)), ()) (11 : Int)
| false => F66 R a0.1 fun y8 =>
let v9 := (IntKind.i64.wrap (a1 + (1 : Int)));
L9 R a2 y1 v9 (([] : (List Int)), ()) y8 (fun x10 x11 =>
k (x11, ()) (0 : Int))))
theorem q48 (F66 : FT66) (F67 : FT67) (F76 : FT76) (F78 : FT78) (F79 : FT79) (L9 : LT48_9) (F : FT48) (R : Type) (x : AT (en48 F).ins) (k : RT (en48 F).outs → PT (en48 F).ins → Option R) :
  xfun (e48 F66 F67 F76 F78 F79 L9 R) (codeOf Try.f48) res48 (avs (en48 F).ins x) (finK (en48 F).outs (en48 F).ins k) = p48 F66 F76 F78 F79 L9 R x.1 x.2.1 x.2.2.1 (fun y1 y2 => k (y1, y2, ()) ()) := by kernel_rfl
noncomputable def F48 : FT48 := p48 F66 F76 F78 F79 (G48_9 FUEL)
theorem env48 (R : Type) : EnvOK Try.prog (e48 F66 F67 F76 F78 F79 (G48_9 FUEL) R) := ⟨tabOK, eqOK, callOf_ok (allE_cons ok66 (allE_cons ok67 (allE_cons ok76 (allE_cons ok78 (allE_cons ok79 allE_nil))))), noIns, inlOK_nil⟩
noncomputable def T48_9 : (R : Type) → HT (le48_9 (G48_9 FUEL)).H → (HT (le48_9 (G48_9 FUEL)).H → Option R) → KT R (le48_9 (G48_9 FUEL)).exs → Option R := fun R x kc ke => p48_9 F67 R x.1 x.2.1 x.2.2.1 x.2.2.2.1 x.2.2.2.2.1 (fun x1 x2 x3 x4 x5 => kc (x1, x2, x3, x4, x5, ())) (fun y1 y2 => ke.1 (y1, y2, ()))
theorem it48_9 : ∀ (n : Nat) (R : Type) (x : HT (le48_9 (G48_9 FUEL)).H) (ke : KT R (le48_9 (G48_9 FUEL)).exs), iter T48_9 n R x ke = G48_9 n R x.1 x.2.1 x.2.2.1 x.2.2.2.1 x.2.2.2.2.1 (fun y1 y2 => ke.1 (y1, y2, ())) := by
  intro n
  induction n with
  | zero => intro R x ke; rfl
  | succ n ih =>
    intro R x ke
    show T48_9 R x (fun x' => iter T48_9 n R x' ke) ke = _
    rw [show (fun x' => iter T48_9 n R x' ke) = fun x => G48_9 n R x.1 x.2.1 x.2.2.1 x.2.2.2.1 x.2.2.2.2.1 (fun y1 y2 => ke.1 (y1, y2, ())) from funext fun x' => ih R x' ke]
    rfl
theorem lok48_9 : (le48_9 (G48_9 FUEL)).OK Try.prog 0 64 (lcode 9 (codeOf Try.f48)) := fun R x ke r h =>
  iter_sound (fun R => e48 F66 F67 F76 F78 F79 (G48_9 FUEL) R) 0 64 (fun _ => rfl) (fun _ => rfl) (fun R => env48 R) mixed (by
    intro R
    rw [show loopsOf (lcode 9 (codeOf Try.f48)) = [] from by kernel_rfl]
    exact allM_nil) (T := T48_9) (fun R x kc ke => q48_9 F66 F67 F76 F78 F79 (G48_9 FUEL) R x kc ke) FUEL R x ke r ((it48_9 FUEL R x ke).trans h)
theorem ok48 : (en48 F48).OK Try.prog :=
  ent_ok (Ef := fun R => e48 F66 F67 F76 F78 F79 (G48_9 FUEL) R) (fun R => env48 R) mixed Try.func48 (body := codeOf Try.f48) (by kernel_rfl) (by kernel_rfl) (np := 0) (nt := 64) (fun _ => rfl) (fun _ => rfl) (by kernel_rfl) (res := res48) (by kernel_rfl) (fun _ => rfl) (fun _ => Nat.le_of_ble_eq_true rfl) (by
    intro R
    rw [show loopsOf (codeOf Try.f48) = [lcode 9 (codeOf Try.f48)] from by kernel_rfl]
    exact (allM_cons (loop_ok2 (e := le48_9 (G48_9 FUEL)) rfl rfl lok48_9) allM_nil)) (fun R x k => q48 F66 F67 F76 F78 F79 (G48_9 FUEL) F48 R x k)
abbrev FT22 : Type 1 := (R : Type) → ((List Int) × Unit) → Int → Tq7 → Int → ((List Int) → Tq7 → Int → Option R) → Option R
def en22 (F : FT22) : Ent := ⟨22, [(false, (.pair (.sl (.int .u64)) .unit)), (false, (.int .i64)), (false, Kq7), (false, (.int .i64))], [(false, (.sl (.int .i64))), (false, Kq7), (false, (.int .i64))], fun R x k => F R x.1 x.2.1 x.2.2.1 x.2.2.2.1 (fun y1 y2 y3 => k (y1, y2, y3, ()) ())⟩
def res22 : List (ResultVar × TypeId × Bool) := [(.tmp 8, 47, false), (.cell 9 37, 37, false), (.tmp 10, 29, false)]
abbrev LT22_5 : Type 1 := (R : Type) → Int → Int → ((List Int) × Unit) → Tq7 → (List Int) → Tq7 → (Int → Tq7 → Option R) → (Tq7 → (List Int) → Tq7 → Option R) → Option R
def le22_5 (L : LT22_5) : LEnt := ⟨5, [.val 1 (.int .i64), .val 3 (.int .i64), .fix 4 (.ptr 0 [] (.pair (.sl (.int .u64)) .unit)), .fix 6 (.ptr 1 [] Kq7), .fix 8 (.own 2 0), .fix 9 (.ptr 3 [] Kq7), .var 0 (.pair (.sl (.int .u64)) .unit) false, .var 1 Kq7 false, .row 2 (.int .i64) false, .var 3 Kq7 false], 4, [(.ret, [.fix 8 .nil, .fix 9 (.ptr 3 [] Kq7), .val 10 (.int .i64), .var 3 Kq7 false]), (.exit 1, [.fix 6 (.ptr 1 [] Kq7), .fix 8 (.own 2 0), .fix 9 (.ptr 3 [] Kq7), .var 1 Kq7 false, .row 2 (.int .i64) false, .var 3 Kq7 false])], fun R x ke => L R x.1 x.2.1 x.2.2.1 x.2.2.2.1 x.2.2.2.2.1 x.2.2.2.2.2.1 (fun y1 y2 => ke.1 (y1, y2, ())) (fun y1 y2 y3 => ke.2.1 (y1, y2, y3, ()))⟩
noncomputable def e22 (F44 : FT44) (F45 : FT45) (F46 : FT46) (F47 : FT47) (F48 : FT48) (L5 : LT22_5) (R : Type) : Env R := ⟨TT, EQT, 0, 61, ownOf [(0, 2)], callOf [en44 F44, en45 F45, en46 F46, en47 F47, en48 F48] R, loopOf [le22_5 L5] R, [], inlOf []⟩
def p22_5 (F47 : FT47) (F48 : FT48) : (R : Type) → Int → Int → ((List Int) × Unit) → Tq7 → (List Int) → Tq7 → (Int → Int → ((List Int) × Unit) → Tq7 → (List Int) → Tq7 → Option R) → (Int → Tq7 → Option R) → (Tq7 → (List Int) → Tq7 → Option R) → Option R := fun R x1 x2 x3 x4 x5 x6 kc k0 k1 =>
let v7 := (List.length x5 : Int);
let v8 := (decide (v7 < x1));
(match v8 with
| true => F47 R x3 x4 x2 fun y9 y10 y11 =>
let v12 := (y11 != (0 : Int));
(match v12 with
| true => k0 y11 y10
| false => let v13 : (List Int) := ([y9] : (List Int));
(match (decide (List.length x5 + List.length v13 ≤ 17592186044416)) with
| true => let v14 : (List Int) := (x5 ++ v13);
F48 R x3 y9 (0 : Int) fun y15 y16 =>
let v17 := (y16 != (0 : Int));
(match v17 with
| true => k0 y16 y10
| false => kc x1 x2 y15 y10 v14 x6)
| false => none))
| false => k1 x4 x5 x6)
theorem q22_5 (F44 : FT44) (F45 : FT45) (F46 : FT46) (F47 : FT47) (F48 : FT48) (L5 : LT22_5) (R : Type) (x : HT (le22_5 L5).H) (kc : HT (le22_5 L5).H → Option R) (ke : KT R (le22_5 L5).exs) :
  exec (e22 F44 F45 F46 F47 F48 L5 R) (lcode 5 (codeOf Try.f22)) (stOf (le22_5 L5).H x 4) (roundK (le22_5 L5).H (le22_5 L5).exs kc ke) =
    p22_5 F47 F48 R x.1 x.2.1 x.2.2.1 x.2.2.2.1 x.2.2.2.2.1 x.2.2.2.2.2.1 (fun x1 x2 x3 x4 x5 x6 => kc (x1, x2, x3, x4, x5, x6, ())) (fun y1 y2 => ke.1 (y1, y2, ())) (fun y1 y2 y3 => ke.2.1 (y1, y2, y3, ())) := by kernel_rfl
noncomputable def G22_5 : Nat → LT22_5
  | 0 => fun _ _ _ _ _ _ _ _ _ => none
  | n + 1 => fun R x1 x2 x3 x4 x5 x6 k0 k1 => p22_5 F47 F48 R x1 x2 x3 x4 x5 x6 (fun x1 x2 x3 x4 x5 x6 => G22_5 n R x1 x2 x3 x4 x5 x6 k0 k1) k0 k1
def p22 (F44 : FT44) (F45 : FT45) (F46 : FT46) (L5 : LT22_5) : FT22 := fun R a0 a1 a2 a3 k =>
F44 R a1 a2 a3 fun y1 =>
(match (!y1) with
| true => k ([] : (List Int)) a2 (1 : Int)
| false => F46 R a0 fun y2 =>
F45 R y2 fun y3 =>
let v4 := (decide (y3 < a1));
(match v4 with
| true => k ([] : (List Int)) a2 (12 : Int)
| false => L5 R a1 a3 a0 a2 ([] : (List Int)) ((0 : Int), ([] : (List Int)), (0 : Int), (List.replicate 32 (0 : Int)), (0 : Int), (0 : Int), ()) (fun x5 x6 =>
k ([] : (List Int)) x6 x5) (fun x7 x8 x9 =>
k x8 x7 (0 : Int))))
theorem q22 (F44 : FT44) (F45 : FT45) (F46 : FT46) (F47 : FT47) (F48 : FT48) (L5 : LT22_5) (F : FT22) (R : Type) (x : AT (en22 F).ins) (k : RT (en22 F).outs → PT (en22 F).ins → Option R) :
  xfun (e22 F44 F45 F46 F47 F48 L5 R) (codeOf Try.f22) res22 (avs (en22 F).ins x) (finK (en22 F).outs (en22 F).ins k) = p22 F44 F45 F46 L5 R x.1 x.2.1 x.2.2.1 x.2.2.2.1 (fun y1 y2 y3 => k (y1, y2, y3, ()) ()) := by kernel_rfl
noncomputable def F22 : FT22 := p22 F44 F45 F46 (G22_5 FUEL)
theorem env22 (R : Type) : EnvOK Try.prog (e22 F44 F45 F46 F47 F48 (G22_5 FUEL) R) := ⟨tabOK, eqOK, callOf_ok (allE_cons ok44 (allE_cons ok45 (allE_cons ok46 (allE_cons ok47 (allE_cons ok48 allE_nil))))), noIns, inlOK_nil⟩
noncomputable def T22_5 : (R : Type) → HT (le22_5 (G22_5 FUEL)).H → (HT (le22_5 (G22_5 FUEL)).H → Option R) → KT R (le22_5 (G22_5 FUEL)).exs → Option R := fun R x kc ke => p22_5 F47 F48 R x.1 x.2.1 x.2.2.1 x.2.2.2.1 x.2.2.2.2.1 x.2.2.2.2.2.1 (fun x1 x2 x3 x4 x5 x6 => kc (x1, x2, x3, x4, x5, x6, ())) (fun y1 y2 => ke.1 (y1, y2, ())) (fun y1 y2 y3 => ke.2.1 (y1, y2, y3, ()))
theorem it22_5 : ∀ (n : Nat) (R : Type) (x : HT (le22_5 (G22_5 FUEL)).H) (ke : KT R (le22_5 (G22_5 FUEL)).exs), iter T22_5 n R x ke = G22_5 n R x.1 x.2.1 x.2.2.1 x.2.2.2.1 x.2.2.2.2.1 x.2.2.2.2.2.1 (fun y1 y2 => ke.1 (y1, y2, ())) (fun y1 y2 y3 => ke.2.1 (y1, y2, y3, ())) := by
  intro n
  induction n with
  | zero => intro R x ke; rfl
  | succ n ih =>
    intro R x ke
    show T22_5 R x (fun x' => iter T22_5 n R x' ke) ke = _
    rw [show (fun x' => iter T22_5 n R x' ke) = fun x => G22_5 n R x.1 x.2.1 x.2.2.1 x.2.2.2.1 x.2.2.2.2.1 x.2.2.2.2.2.1 (fun y1 y2 => ke.1 (y1, y2, ())) (fun y1 y2 y3 => ke.2.1 (y1, y2, y3, ())) from funext fun x' => ih R x' ke]
    rfl
theorem lok22_5 : (le22_5 (G22_5 FUEL)).OK Try.prog 0 61 (lcode 5 (codeOf Try.f22)) := fun R x ke r h =>
  iter_sound (fun R => e22 F44 F45 F46 F47 F48 (G22_5 FUEL) R) 0 61 (fun _ => rfl) (fun _ => rfl) (fun R => env22 R) mixed (by
    intro R
    rw [show loopsOf (lcode 5 (codeOf Try.f22)) = [] from by kernel_rfl]
    exact allM_nil) (T := T22_5) (fun R x kc ke => q22_5 F44 F45 F46 F47 F48 (G22_5 FUEL) R x kc ke) FUEL R x ke r ((it22_5 FUEL R x ke).trans h)
theorem ok22 : (en22 F22).OK Try.prog :=
  ent_ok (Ef := fun R => e22 F44 F45 F46 F47 F48 (G22_5 FUEL) R) (fun R => env22 R) mixed Try.func22 (body := codeOf Try.f22) (by kernel_rfl) (by kernel_rfl) (np := 0) (nt := 61) (fun _ => rfl) (fun _ => rfl) (by kernel_rfl) (res := res22) (by kernel_rfl) (fun _ => rfl) (fun _ => Nat.le_of_ble_eq_true rfl) (by
    intro R
    rw [show loopsOf (codeOf Try.f22) = [lcode 5 (codeOf Try.f22)] from by kernel_rfl]
    exact (allM_cons (loop_ok2 (e := le22_5 (G22_5 FUEL)) rfl rfl lok22_5) allM_nil)) (fun R x k => q22 F44 F45 F46 F47 F48 (G22_5 FUEL) F22 R x k)
abbrev FT65 : Type 1 := (R : Type) → (List Int) → (Int → Bool → Option R) → Option R
def en65 (F : FT65) : Ent := ⟨65, [(false, (.sl (.int .u64)))], [(false, (.int .u64)), (false, .bool)], fun R x k => F R x.1 (fun y1 y2 => k (y1, y2, ()) ())⟩
def res65 : List (ResultVar × TypeId × Bool) := [(.tmp 2, 24, false), (.tmp 3, 4, false)]
abbrev LT65_2 : Type 1 := (R : Type) → Int → (List Int) → Int → Int → (Int → Bool → Option R) → (Int → Option R) → Option R
def le65_2 (L : LT65_2) : LEnt := ⟨2, [.val 2 (.int .u64), .val 6 (.sl (.int .u64)), .val 7 (.int .i64), .val 8 (.int .i64)], 0, [(.ret, [.val 2 (.int .u64), .val 3 .bool]), (.exit 0, [.val 2 (.int .u64)])], fun R x ke => L R x.1 x.2.1 x.2.2.1 x.2.2.2.1 (fun y1 y2 => ke.1 (y1, y2, ())) (fun y1 => ke.2.1 (y1, ()))⟩
noncomputable def e65 (F79 : FT79) (L2 : LT65_2) (R : Type) : Env R := ⟨TT, EQT, 0, 22, ownOf [], callOf [en79 F79] R, loopOf [le65_2 L2] R, [], inlOf []⟩
def p65_2 (F79 : FT79) : (R : Type) → Int → (List Int) → Int → Int → (Int → (List Int) → Int → Int → Option R) → (Int → Bool → Option R) → (Int → Option R) → Option R := fun R x1 x2 x3 x4 kc k0 k1 =>
let v5 := (decide (x4 < x3));
(match v5 with
| true => (match (bnd x4 (List.length x2 : Int)) with
| true => let v6 := (List.getD x2 (Int.toNat x4) (0 : Int));
F79 R x1 v6 fun y7 y8 =>
(match (!y8) with
| true => k0 (0 : Int) false
| false => let v9 := (IntKind.i64.wrap (x4 + (1 : Int)));
kc y7 x2 x3 v9)
| false => none)
| false => k1 x1)
theorem q65_2 (F79 : FT79) (L2 : LT65_2) (R : Type) (x : HT (le65_2 L2).H) (kc : HT (le65_2 L2).H → Option R) (ke : KT R (le65_2 L2).exs) :
  exec (e65 F79 L2 R) (lcode 2 (codeOf Try.f65)) (stOf (le65_2 L2).H x 0) (roundK (le65_2 L2).H (le65_2 L2).exs kc ke) =
    p65_2 F79 R x.1 x.2.1 x.2.2.1 x.2.2.2.1 (fun x1 x2 x3 x4 => kc (x1, x2, x3, x4, ())) (fun y1 y2 => ke.1 (y1, y2, ())) (fun y1 => ke.2.1 (y1, ())) := by kernel_rfl
noncomputable def G65_2 : Nat → LT65_2
  | 0 => fun _ _ _ _ _ _ _ => none
  | n + 1 => fun R x1 x2 x3 x4 k0 k1 => p65_2 F79 R x1 x2 x3 x4 (fun x1 x2 x3 x4 => G65_2 n R x1 x2 x3 x4 k0 k1) k0 k1
def p65 (L2 : LT65_2) : FT65 := fun R a0 k =>
let v1 := (List.length a0 : Int);
L2 R (0 : Int) a0 v1 (0 : Int) (fun x2 x3 =>
k x2 x3) (fun x4 =>
k x4 true)
theorem q65 (F79 : FT79) (L2 : LT65_2) (F : FT65) (R : Type) (x : AT (en65 F).ins) (k : RT (en65 F).outs → PT (en65 F).ins → Option R) :
  xfun (e65 F79 L2 R) (codeOf Try.f65) res65 (avs (en65 F).ins x) (finK (en65 F).outs (en65 F).ins k) = p65 L2 R x.1 (fun y1 y2 => k (y1, y2, ()) ()) := by kernel_rfl
noncomputable def F65 : FT65 := p65 (G65_2 FUEL)
theorem env65 (R : Type) : EnvOK Try.prog (e65 F79 (G65_2 FUEL) R) := ⟨tabOK, eqOK, callOf_ok (allE_cons ok79 allE_nil), noIns, inlOK_nil⟩
noncomputable def T65_2 : (R : Type) → HT (le65_2 (G65_2 FUEL)).H → (HT (le65_2 (G65_2 FUEL)).H → Option R) → KT R (le65_2 (G65_2 FUEL)).exs → Option R := fun R x kc ke => p65_2 F79 R x.1 x.2.1 x.2.2.1 x.2.2.2.1 (fun x1 x2 x3 x4 => kc (x1, x2, x3, x4, ())) (fun y1 y2 => ke.1 (y1, y2, ())) (fun y1 => ke.2.1 (y1, ()))
theorem it65_2 : ∀ (n : Nat) (R : Type) (x : HT (le65_2 (G65_2 FUEL)).H) (ke : KT R (le65_2 (G65_2 FUEL)).exs), iter T65_2 n R x ke = G65_2 n R x.1 x.2.1 x.2.2.1 x.2.2.2.1 (fun y1 y2 => ke.1 (y1, y2, ())) (fun y1 => ke.2.1 (y1, ())) := by
  intro n
  induction n with
  | zero => intro R x ke; rfl
  | succ n ih =>
    intro R x ke
    show T65_2 R x (fun x' => iter T65_2 n R x' ke) ke = _
    rw [show (fun x' => iter T65_2 n R x' ke) = fun x => G65_2 n R x.1 x.2.1 x.2.2.1 x.2.2.2.1 (fun y1 y2 => ke.1 (y1, y2, ())) (fun y1 => ke.2.1 (y1, ())) from funext fun x' => ih R x' ke]
    rfl
theorem lok65_2 : (le65_2 (G65_2 FUEL)).OK Try.prog 0 22 (lcode 2 (codeOf Try.f65)) := fun R x ke r h =>
  iter_sound (fun R => e65 F79 (G65_2 FUEL) R) 0 22 (fun _ => rfl) (fun _ => rfl) (fun R => env65 R) mixed (by
    intro R
    rw [show loopsOf (lcode 2 (codeOf Try.f65)) = [] from by kernel_rfl]
    exact allM_nil) (T := T65_2) (fun R x kc ke => q65_2 F79 (G65_2 FUEL) R x kc ke) FUEL R x ke r ((it65_2 FUEL R x ke).trans h)
theorem ok65 : (en65 F65).OK Try.prog :=
  ent_ok (Ef := fun R => e65 F79 (G65_2 FUEL) R) (fun R => env65 R) mixed Try.func65 (body := codeOf Try.f65) (by kernel_rfl) (by kernel_rfl) (np := 0) (nt := 22) (fun _ => rfl) (fun _ => rfl) (by kernel_rfl) (res := res65) (by kernel_rfl) (fun _ => rfl) (fun _ => Nat.le_of_ble_eq_true rfl) (by
    intro R
    rw [show loopsOf (codeOf Try.f65) = [lcode 2 (codeOf Try.f65)] from by kernel_rfl]
    exact (allM_cons (loop_ok2 (e := le65_2 (G65_2 FUEL)) rfl rfl lok65_2) allM_nil)) (fun R x k => q65 F79 (G65_2 FUEL) F65 R x k)
abbrev FT38 : Type 1 := (R : Type) → (List Int) → (((List Int) × Unit) → Int → Option R) → Option R
def en38 (F : FT38) : Ent := ⟨38, [(false, (.sl (.int .u64)))], [(false, (.pair (.sl (.int .u64)) .unit)), (false, (.int .i64))], fun R x k => F R x.1 (fun y1 y2 => k (y1, y2, ()) ())⟩
def res38 : List (ResultVar × TypeId × Bool) := [(.cell 2 58, 58, false), (.tmp 3, 29, false)]
abbrev LT38_8 : Type 1 := (R : Type) → Int → ((List Int) × Unit) → (List Int) → (((List Int) × Unit) → (List Int) → Option R) → Option R
def le38_8 (L : LT38_8) : LEnt := ⟨8, [.fix 2 (.ptr 0 [] (.pair (.sl (.int .u64)) .unit)), .fix 6 (.own 1 0), .val 7 (.int .i64), .var 0 (.pair (.sl (.int .u64)) .unit) false, .row 1 (.int .u64) false], 2, [(.exit 0, [.fix 2 (.ptr 0 [] (.pair (.sl (.int .u64)) .unit)), .fix 6 (.own 1 0), .var 0 (.pair (.sl (.int .u64)) .unit) false, .row 1 (.int .u64) false])], fun R x ke => L R x.1 x.2.1 x.2.2.1 (fun y1 y2 => ke.1 (y1, y2, ()))⟩
noncomputable def e38 (F65 : FT65) (F66 : FT66) (F67 : FT67) (L8 : LT38_8) (R : Type) : Env R := ⟨TT, EQT, 0, 51, ownOf [], callOf [en65 F65, en66 F66, en67 F67] R, loopOf [le38_8 L8] R, [], inlOf []⟩
def p38_8 (F67 : FT67) : (R : Type) → Int → ((List Int) × Unit) → (List Int) → (Int → ((List Int) × Unit) → (List Int) → Option R) → (((List Int) × Unit) → (List Int) → Option R) → Option R := fun R x1 x2 x3 kc k0 =>
let v4 := (List.length x3 : Int);
let v5 := (decide (x1 ≤ v4));
(match v5 with
| true => F67 R x1 fun y6 =>
let v7 := (IntKind.i64.wrap (x1 + y6));
let v8 := (List.length x3 : Int);
let v9 := (decide (v7 ≤ v8));
(match v9 with
| true => let v10 := (IntKind.i64.wrap (v7 - (1 : Int)));
(match (bnd v10 (List.length x3 : Int)) with
| true => let v11 := (List.getD x3 (Int.toNat v10) (0 : Int));
let v12 := (IntKind.i64.wrap (x1 - (1 : Int)));
(match (bnd v12 (List.length x3 : Int)) with
| true => let v13 := (List.getD x3 (Int.toNat v12) (0 : Int));
let v14 := (IntKind.u64.wrap (v11 + v13));
(match (bnd v10 (List.length x3 : Int)) with
| true => let v15 : (List Int) := (List.set x3 (Int.toNat v10) v14);
let v16 := (IntKind.i64.wrap (x1 + (1 : Int)));
kc v16 x2 v15
| false => none)
| false => none)
| false => none)
| false => let v17 := (IntKind.i64.wrap (x1 + (1 : Int)));
kc v17 x2 x3)
| false => k0 x2 x3)
theorem q38_8 (F65 : FT65) (F66 : FT66) (F67 : FT67) (L8 : LT38_8) (R : Type) (x : HT (le38_8 L8).H) (kc : HT (le38_8 L8).H → Option R) (ke : KT R (le38_8 L8).exs) :
  exec (e38 F65 F66 F67 L8 R) (lcode 8 (codeOf Try.f38)) (stOf (le38_8 L8).H x 2) (roundK (le38_8 L8).H (le38_8 L8).exs kc ke) =
    p38_8 F67 R x.1 x.2.1 x.2.2.1 (fun x1 x2 x3 => kc (x1, x2, x3, ())) (fun y1 y2 => ke.1 (y1, y2, ())) := by kernel_rfl
noncomputable def G38_8 : Nat → LT38_8
  | 0 => fun _ _ _ _ _ => none
  | n + 1 => fun R x1 x2 x3 k0 => p38_8 F67 R x1 x2 x3 (fun x1 x2 x3 => G38_8 n R x1 x2 x3 k0) k0
def p38 (F65 : FT65) (F66 : FT66) (L8 : LT38_8) : FT38 := fun R a0 k =>
let v1 := (List.length a0 : Int);
let v2 := (decide (v1 > (1048576 : Int)));
(match v2 with
| true => k (([] : (List Int)), ()) (14 : Int)
| false => F65 R a0 fun y3 y4 =>
(match (!y4) with
| true => k (([] : (List Int)), ()) (11 : Int)
| false => F66 R a0 fun y5 =>
L8 R (1 : Int) (([] : (List Int)), ()) y5 (fun x6 x7 =>
k (x7, ()) (0 : Int))))
theorem q38 (F65 : FT65) (F66 : FT66) (F67 : FT67) (L8 : LT38_8) (F : FT38) (R : Type) (x : AT (en38 F).ins) (k : RT (en38 F).outs → PT (en38 F).ins → Option R) :
  xfun (e38 F65 F66 F67 L8 R) (codeOf Try.f38) res38 (avs (en38 F).ins x) (finK (en38 F).outs (en38 F).ins k) = p38 F65 F66 L8 R x.1 (fun y1 y2 => k (y1, y2, ()) ()) := by kernel_rfl
noncomputable def F38 : FT38 := p38 F65 F66 (G38_8 FUEL)
theorem env38 (R : Type) : EnvOK Try.prog (e38 F65 F66 F67 (G38_8 FUEL) R) := ⟨tabOK, eqOK, callOf_ok (allE_cons ok65 (allE_cons ok66 (allE_cons ok67 allE_nil))), noIns, inlOK_nil⟩
noncomputable def T38_8 : (R : Type) → HT (le38_8 (G38_8 FUEL)).H → (HT (le38_8 (G38_8 FUEL)).H → Option R) → KT R (le38_8 (G38_8 FUEL)).exs → Option R := fun R x kc ke => p38_8 F67 R x.1 x.2.1 x.2.2.1 (fun x1 x2 x3 => kc (x1, x2, x3, ())) (fun y1 y2 => ke.1 (y1, y2, ()))
theorem it38_8 : ∀ (n : Nat) (R : Type) (x : HT (le38_8 (G38_8 FUEL)).H) (ke : KT R (le38_8 (G38_8 FUEL)).exs), iter T38_8 n R x ke = G38_8 n R x.1 x.2.1 x.2.2.1 (fun y1 y2 => ke.1 (y1, y2, ())) := by
  intro n
  induction n with
  | zero => intro R x ke; rfl
  | succ n ih =>
    intro R x ke
    show T38_8 R x (fun x' => iter T38_8 n R x' ke) ke = _
    rw [show (fun x' => iter T38_8 n R x' ke) = fun x => G38_8 n R x.1 x.2.1 x.2.2.1 (fun y1 y2 => ke.1 (y1, y2, ())) from funext fun x' => ih R x' ke]
    rfl
theorem lok38_8 : (le38_8 (G38_8 FUEL)).OK Try.prog 0 51 (lcode 8 (codeOf Try.f38)) := fun R x ke r h =>
  iter_sound (fun R => e38 F65 F66 F67 (G38_8 FUEL) R) 0 51 (fun _ => rfl) (fun _ => rfl) (fun R => env38 R) mixed (by
    intro R
    rw [show loopsOf (lcode 8 (codeOf Try.f38)) = [] from by kernel_rfl]
    exact allM_nil) (T := T38_8) (fun R x kc ke => q38_8 F65 F66 F67 (G38_8 FUEL) R x kc ke) FUEL R x ke r ((it38_8 FUEL R x ke).trans h)
theorem ok38 : (en38 F38).OK Try.prog :=
  ent_ok (Ef := fun R => e38 F65 F66 F67 (G38_8 FUEL) R) (fun R => env38 R) mixed Try.func38 (body := codeOf Try.f38) (by kernel_rfl) (by kernel_rfl) (np := 0) (nt := 51) (fun _ => rfl) (fun _ => rfl) (by kernel_rfl) (res := res38) (by kernel_rfl) (fun _ => rfl) (fun _ => Nat.le_of_ble_eq_true rfl) (by
    intro R
    rw [show loopsOf (codeOf Try.f38) = [lcode 8 (codeOf Try.f38)] from by kernel_rfl]
    exact (allM_cons (loop_ok2 (e := le38_8 (G38_8 FUEL)) rfl rfl lok38_8) allM_nil)) (fun R x k => q38 F65 F66 F67 (G38_8 FUEL) F38 R x k)
abbrev FT18 : Type 1 := (R : Type) → Int → Tq7 → Int → (List Int) → ((List Int) → Tq7 → Int → Option R) → Option R
def en18 (F : FT18) : Ent := ⟨18, [(false, (.int .i64)), (false, Kq7), (false, (.int .i64)), (false, (.sl (.int .u64)))], [(false, (.sl (.int .i64))), (false, Kq7), (false, (.int .i64))], fun R x k => F R x.1 x.2.1 x.2.2.1 x.2.2.2.1 (fun y1 y2 y3 => k (y1, y2, y3, ()) ())⟩
def res18 : List (ResultVar × TypeId × Bool) := [(.tmp 8, 47, false), (.cell 9 37, 37, false), (.tmp 10, 29, false)]
noncomputable def e18 (F22 : FT22) (F38 : FT38) (R : Type) : Env R := ⟨TT, EQT, 0, 30, ownOf [], callOf [en22 F22, en38 F38] R, loopOf [] R, [], inlOf []⟩
def p18 (F22 : FT22) (F38 : FT38) : FT18 := fun R a0 a1 a2 a3 k =>
F38 R a3 fun y1 y2 =>
let v3 := (y2 != (0 : Int));
(match v3 with
| true => k ([] : (List Int)) a1 y2
| false => F22 R y1 a0 a1 a2 fun y4 y5 y6 =>
k y4 y5 y6)
theorem q18 (F22 : FT22) (F38 : FT38) (F : FT18) (R : Type) (x : AT (en18 F).ins) (k : RT (en18 F).outs → PT (en18 F).ins → Option R) :
  xfun (e18 F22 F38 R) (codeOf Try.f18) res18 (avs (en18 F).ins x) (finK (en18 F).outs (en18 F).ins k) = p18 F22 F38 R x.1 x.2.1 x.2.2.1 x.2.2.2.1 (fun y1 y2 y3 => k (y1, y2, y3, ()) ()) := by kernel_rfl
noncomputable def F18 : FT18 := p18 F22 F38
theorem env18 (R : Type) : EnvOK Try.prog (e18 F22 F38 R) := ⟨tabOK, eqOK, callOf_ok (allE_cons ok22 (allE_cons ok38 allE_nil)), noIns, inlOK_nil⟩
theorem ok18 : (en18 F18).OK Try.prog :=
  ent_ok (Ef := fun R => e18 F22 F38 R) (fun R => env18 R) mixed Try.func18 (body := codeOf Try.f18) (by kernel_rfl) (by kernel_rfl) (np := 0) (nt := 30) (fun _ => rfl) (fun _ => rfl) (by kernel_rfl) (res := res18) (by kernel_rfl) (fun _ => rfl) (fun _ => Nat.le_of_ble_eq_true rfl) (by
    intro R
    rw [show loopsOf (codeOf Try.f18) = [] from by kernel_rfl]
    exact allM_nil) (fun R x k => q18 F22 F38 F18 R x k)
abbrev FT39 : Type 1 := (R : Type) → (List Int) → (Int → Int → Option R) → Option R
def en39 (F : FT39) : Ent := ⟨39, [(false, (.sl (.int .u64)))], [(false, (.int .u64)), (false, (.int .i64))], fun R x k => F R x.1 (fun y1 y2 => k (y1, y2, ()) ())⟩
def res39 : List (ResultVar × TypeId × Bool) := [(.tmp 2, 24, false), (.tmp 3, 29, false)]
noncomputable def e39 (F65 : FT65) (R : Type) : Env R := ⟨TT, EQT, 0, 14, ownOf [], callOf [en65 F65] R, loopOf [] R, [], inlOf []⟩
def p39 (F65 : FT65) : FT39 := fun R a0 k =>
F65 R a0 fun y1 y2 =>
(match (!y2) with
| true => k (0 : Int) (11 : Int)
| false => k y1 (0 : Int))
theorem q39 (F65 : FT65) (F : FT39) (R : Type) (x : AT (en39 F).ins) (k : RT (en39 F).outs → PT (en39 F).ins → Option R) :
  xfun (e39 F65 R) (codeOf Try.f39) res39 (avs (en39 F).ins x) (finK (en39 F).outs (en39 F).ins k) = p39 F65 R x.1 (fun y1 y2 => k (y1, y2, ()) ()) := by kernel_rfl
noncomputable def F39 : FT39 := p39 F65
theorem env39 (R : Type) : EnvOK Try.prog (e39 F65 R) := ⟨tabOK, eqOK, callOf_ok (allE_cons ok65 allE_nil), noIns, inlOK_nil⟩
theorem ok39 : (en39 F39).OK Try.prog :=
  ent_ok (Ef := fun R => e39 F65 R) (fun R => env39 R) mixed Try.func39 (body := codeOf Try.f39) (by kernel_rfl) (by kernel_rfl) (np := 0) (nt := 14) (fun _ => rfl) (fun _ => rfl) (by kernel_rfl) (res := res39) (by kernel_rfl) (fun _ => rfl) (fun _ => Nat.le_of_ble_eq_true rfl) (by
    intro R
    rw [show loopsOf (codeOf Try.f39) = [] from by kernel_rfl]
    exact allM_nil) (fun R x k => q39 F65 F39 R x k)
abbrev FT68 : Type 1 := (R : Type) → Int → (List Int) → ((List Int) → Int → Option R) → Option R
def en68 (F : FT68) : Ent := ⟨68, [(false, (.int .i64)), (false, (.sl (.int .u64)))], [(false, (.sl (.int .u64))), (false, (.int .i64))], fun R x k => F R x.1 x.2.1 (fun y1 y2 => k (y1, y2, ()) ())⟩
def res68 : List (ResultVar × TypeId × Bool) := [(.tmp 4, 22, false), (.tmp 5, 29, false)]
noncomputable def e68 (F66 : FT66) (R : Type) : Env R := ⟨TT, EQT, 0, 21, ownOf [], callOf [en66 F66] R, loopOf [] R, [], inlOf []⟩
def p68 (F66 : FT66) : FT68 := fun R a0 a1 k =>
let v1 := (decide (a0 < (0 : Int)));
(match v1 with
| true => k ([] : (List Int)) (3 : Int)
| false => let v2 := (List.length a1 : Int);
let v3 := (decide (a0 ≥ v2));
(match v3 with
| true => k ([] : (List Int)) (3 : Int)
| false => F66 R a1 fun y4 =>
(match (bnd a0 (List.length y4 : Int)) with
| true => let v5 : (List Int) := (List.set y4 (Int.toNat a0) (0 : Int));
k v5 (0 : Int)
| false => none)))
theorem q68 (F66 : FT66) (F : FT68) (R : Type) (x : AT (en68 F).ins) (k : RT (en68 F).outs → PT (en68 F).ins → Option R) :
  xfun (e68 F66 R) (codeOf Try.f68) res68 (avs (en68 F).ins x) (finK (en68 F).outs (en68 F).ins k) = p68 F66 R x.1 x.2.1 (fun y1 y2 => k (y1, y2, ()) ()) := by kernel_rfl
noncomputable def F68 : FT68 := p68 F66
theorem env68 (R : Type) : EnvOK Try.prog (e68 F66 R) := ⟨tabOK, eqOK, callOf_ok (allE_cons ok66 allE_nil), noIns, inlOK_nil⟩
theorem ok68 : (en68 F68).OK Try.prog :=
  ent_ok (Ef := fun R => e68 F66 R) (fun R => env68 R) mixed Try.func68 (body := codeOf Try.f68) (by kernel_rfl) (by kernel_rfl) (np := 0) (nt := 21) (fun _ => rfl) (fun _ => rfl) (by kernel_rfl) (res := res68) (by kernel_rfl) (fun _ => rfl) (fun _ => Nat.le_of_ble_eq_true rfl) (by
    intro R
    rw [show loopsOf (codeOf Try.f68) = [] from by kernel_rfl]
    exact allM_nil) (fun R x k => q68 F66 F68 R x k)
abbrev FT70 : Type 1 := (R : Type) → Int → ((List Int) → Int → Option R) → Option R
def en70 (F : FT70) : Ent := ⟨70, [(false, (.int .i64))], [(false, (.sl (.int .u32))), (false, (.int .i64))], fun R x k => F R x.1 (fun y1 y2 => k (y1, y2, ()) ())⟩
def res70 : List (ResultVar × TypeId × Bool) := [(.tmp 2, 54, false), (.tmp 3, 29, false)]
noncomputable def e70 (R : Type) : Env R := ⟨TT, EQT, 0, 23, ownOf [], callOf [] R, loopOf [] R, [], inlOf []⟩
def p70 : FT70 := fun R a0 k =>
let v1 := (decide (a0 < (0 : Int)));
(match v1 with
| true => k ([] : (List Int)) (1 : Int)
| false => let v2 := (decide (a0 ≥ (8192 : Int)));
(match v2 with
| true => k ([] : (List Int)) (1 : Int)
| false => let v3 := (IntKind.i64.wrap (Int.tdiv a0 (32 : Int)));
let v4 := (IntKind.i64.wrap (v3 + (1 : Int)));
(match (decide (0 ≤ v4 ∧ v4 ≤ v4 ∧ v4 ≤ (35184372088832 : Int))) with
| true => let v5 : (List Int) := (List.replicate (Int.toNat v4) (0 : Int));
let v6 := (IntKind.i64.wrap (Int.tdiv a0 (32 : Int)));
let v7 := (Int.tmod a0 (32 : Int));
(match (decide (0 ≤ v7)) with
| true => let v8 := (ishl .u32 (1 : Int) v7);
(match (bnd v6 (List.length v5 : Int)) with
| true => let v9 : (List Int) := (List.set v5 (Int.toNat v6) v8);
k v9 (0 : Int)
| false => none)
| false => none)
| false => none)))
theorem q70 (F : FT70) (R : Type) (x : AT (en70 F).ins) (k : RT (en70 F).outs → PT (en70 F).ins → Option R) :
  xfun (e70 R) (codeOf Try.f70) res70 (avs (en70 F).ins x) (finK (en70 F).outs (en70 F).ins k) = p70 R x.1 (fun y1 y2 => k (y1, y2, ()) ()) := by kernel_rfl
noncomputable def F70 : FT70 := p70
theorem env70 (R : Type) : EnvOK Try.prog (e70 R) := ⟨tabOK, eqOK, callOf_ok allE_nil, noIns, inlOK_nil⟩
theorem ok70 : (en70 F70).OK Try.prog :=
  ent_ok (Ef := fun R => e70 R) (fun R => env70 R) mixed Try.func70 (body := codeOf Try.f70) (by kernel_rfl) (by kernel_rfl) (np := 0) (nt := 23) (fun _ => rfl) (fun _ => rfl) (by kernel_rfl) (res := res70) (by kernel_rfl) (fun _ => rfl) (fun _ => Nat.le_of_ble_eq_true rfl) (by
    intro R
    rw [show loopsOf (codeOf Try.f70) = [] from by kernel_rfl]
    exact allM_nil) (fun R x k => q70 F70 R x k)
abbrev FT89 : Type 1 := (R : Type) → (List Int) → ((List Int) → Option R) → Option R
def en89 (F : FT89) : Ent := ⟨89, [(false, (.sl (.int .u32)))], [(false, (.sl (.int .u32)))], fun R x k => F R x.1 (fun y1 => k (y1, ()) ())⟩
def res89 : List (ResultVar × TypeId × Bool) := [(.tmp 2, 54, false)]
abbrev LT89_1 : Type 1 := (R : Type) → (List Int) → ((List Int) → Option R) → Option R
def le89_1 (L : LT89_1) : LEnt := ⟨1, [.val 0 (.sl (.int .u32))], 0, [(.exit 0, [.val 0 (.sl (.int .u32))])], fun R x ke => L R x.1 (fun y1 => ke.1 (y1, ()))⟩
noncomputable def e89 (L1 : LT89_1) (R : Type) : Env R := ⟨TT, EQT, 0, 21, ownOf [], callOf [] R, loopOf [le89_1 L1] R, [], inlOf []⟩
def p89_1 : (R : Type) → (List Int) → ((List Int) → Option R) → ((List Int) → Option R) → Option R := fun R x1 kc k0 =>
let v2 := (List.length x1 : Int);
let v3 := (decide (v2 > (0 : Int)));
(match v3 with
| true => let v4 := (List.length x1 : Int);
let v5 := (IntKind.i64.wrap (v4 - (1 : Int)));
(match (bnd v5 (List.length x1 : Int)) with
| true => let v6 := (List.getD x1 (Int.toNat v5) (0 : Int));
let v7 := (v6 == (0 : Int));
(match v7 with
| true => let v8 := (List.length x1 : Int);
let v9 := (IntKind.i64.wrap (v8 - (1 : Int)));
(match (decide (0 ≤ (0 : Int) ∧ (0 : Int) ≤ v9 ∧ v9 ≤ v9 ∧ v9 ≤ (List.length x1 : Int))) with
| true => let v10 : (List Int) := (List.take (Int.toNat (v9 - (0 : Int))) (List.drop 0 x1));
kc v10
| false => none)
| false => k0 x1)
| false => none)
| false => k0 x1)
theorem q89_1 (L1 : LT89_1) (R : Type) (x : HT (le89_1 L1).H) (kc : HT (le89_1 L1).H → Option R) (ke : KT R (le89_1 L1).exs) :
  exec (e89 L1 R) (lcode 1 (codeOf Try.f89)) (stOf (le89_1 L1).H x 0) (roundK (le89_1 L1).H (le89_1 L1).exs kc ke) =
    p89_1 R x.1 (fun x1 => kc (x1, ())) (fun y1 => ke.1 (y1, ())) := by kernel_rfl
noncomputable def G89_1 : Nat → LT89_1
  | 0 => fun _ _ _ => none
  | n + 1 => fun R x1 k0 => p89_1 R x1 (fun x1 => G89_1 n R x1 k0) k0
def p89 (L1 : LT89_1) : FT89 := fun R a0 k =>
L1 R a0 (fun x1 =>
k x1)
theorem q89 (L1 : LT89_1) (F : FT89) (R : Type) (x : AT (en89 F).ins) (k : RT (en89 F).outs → PT (en89 F).ins → Option R) :
  xfun (e89 L1 R) (codeOf Try.f89) res89 (avs (en89 F).ins x) (finK (en89 F).outs (en89 F).ins k) = p89 L1 R x.1 (fun y1 => k (y1, ()) ()) := by kernel_rfl
noncomputable def F89 : FT89 := p89 (G89_1 FUEL)
theorem env89 (R : Type) : EnvOK Try.prog (e89 (G89_1 FUEL) R) := ⟨tabOK, eqOK, callOf_ok allE_nil, noIns, inlOK_nil⟩
noncomputable def T89_1 : (R : Type) → HT (le89_1 (G89_1 FUEL)).H → (HT (le89_1 (G89_1 FUEL)).H → Option R) → KT R (le89_1 (G89_1 FUEL)).exs → Option R := fun R x kc ke => p89_1 R x.1 (fun x1 => kc (x1, ())) (fun y1 => ke.1 (y1, ()))
theorem it89_1 : ∀ (n : Nat) (R : Type) (x : HT (le89_1 (G89_1 FUEL)).H) (ke : KT R (le89_1 (G89_1 FUEL)).exs), iter T89_1 n R x ke = G89_1 n R x.1 (fun y1 => ke.1 (y1, ())) := by
  intro n
  induction n with
  | zero => intro R x ke; rfl
  | succ n ih =>
    intro R x ke
    show T89_1 R x (fun x' => iter T89_1 n R x' ke) ke = _
    rw [show (fun x' => iter T89_1 n R x' ke) = fun x => G89_1 n R x.1 (fun y1 => ke.1 (y1, ())) from funext fun x' => ih R x' ke]
    rfl
theorem lok89_1 : (le89_1 (G89_1 FUEL)).OK Try.prog 0 21 (lcode 1 (codeOf Try.f89)) := fun R x ke r h =>
  iter_sound (fun R => e89 (G89_1 FUEL) R) 0 21 (fun _ => rfl) (fun _ => rfl) (fun R => env89 R) mixed (by
    intro R
    rw [show loopsOf (lcode 1 (codeOf Try.f89)) = [] from by kernel_rfl]
    exact allM_nil) (T := T89_1) (fun R x kc ke => q89_1 (G89_1 FUEL) R x kc ke) FUEL R x ke r ((it89_1 FUEL R x ke).trans h)
theorem ok89 : (en89 F89).OK Try.prog :=
  ent_ok (Ef := fun R => e89 (G89_1 FUEL) R) (fun R => env89 R) mixed Try.func89 (body := codeOf Try.f89) (by kernel_rfl) (by kernel_rfl) (np := 0) (nt := 21) (fun _ => rfl) (fun _ => rfl) (by kernel_rfl) (res := res89) (by kernel_rfl) (fun _ => rfl) (fun _ => Nat.le_of_ble_eq_true rfl) (by
    intro R
    rw [show loopsOf (codeOf Try.f89) = [lcode 1 (codeOf Try.f89)] from by kernel_rfl]
    exact (allM_cons (loop_ok2 (e := le89_1 (G89_1 FUEL)) rfl rfl lok89_1) allM_nil)) (fun R x k => q89 (G89_1 FUEL) F89 R x k)
abbrev FT71 : Type 1 := (R : Type) → Int → ((List Int) → Option R) → Option R
def en71 (F : FT71) : Ent := ⟨71, [(false, (.int .u64))], [(false, (.sl (.int .u32)))], fun R x k => F R x.1 (fun y1 => k (y1, ()) ())⟩
def res71 : List (ResultVar × TypeId × Bool) := [(.tmp 2, 54, false)]
noncomputable def e71 (F89 : FT89) (R : Type) : Env R := ⟨TT, EQT, 0, 10, ownOf [], callOf [en89 F89] R, loopOf [] R, [], inlOf []⟩
def p71 (F89 : FT89) : FT71 := fun R a0 k =>
let v1 := (IntKind.u32.wrap a0);
let v2 := (ishr .u64 a0 (32 : Int));
let v3 := (IntKind.u32.wrap v2);
let v4 : (List Int) := ([v1, v3] : (List Int));
F89 R v4 fun y5 =>
k y5
theorem q71 (F89 : FT89) (F : FT71) (R : Type) (x : AT (en71 F).ins) (k : RT (en71 F).outs → PT (en71 F).ins → Option R) :
  xfun (e71 F89 R) (codeOf Try.f71) res71 (avs (en71 F).ins x) (finK (en71 F).outs (en71 F).ins k) = p71 F89 R x.1 (fun y1 => k (y1, ()) ()) := by kernel_rfl
noncomputable def F71 : FT71 := p71 F89
theorem env71 (R : Type) : EnvOK Try.prog (e71 F89 R) := ⟨tabOK, eqOK, callOf_ok (allE_cons ok89 allE_nil), noIns, inlOK_nil⟩
theorem ok71 : (en71 F71).OK Try.prog :=
  ent_ok (Ef := fun R => e71 F89 R) (fun R => env71 R) mixed Try.func71 (body := codeOf Try.f71) (by kernel_rfl) (by kernel_rfl) (np := 0) (nt := 10) (fun _ => rfl) (fun _ => rfl) (by kernel_rfl) (res := res71) (by kernel_rfl) (fun _ => rfl) (fun _ => Nat.le_of_ble_eq_true rfl) (by
    intro R
    rw [show loopsOf (codeOf Try.f71) = [] from by kernel_rfl]
    exact allM_nil) (fun R x k => q71 F89 F71 R x k)
abbrev FT105 : Type 1 := (R : Type) → (List Int) → (Bool → Option R) → Option R
def en105 (F : FT105) : Ent := ⟨105, [(false, (.sl (.int .u32)))], [(false, .bool)], fun R x k => F R x.1 (fun y1 => k (y1, ()) ())⟩
def res105 : List (ResultVar × TypeId × Bool) := [(.tmp 2, 4, false)]
noncomputable def e105 (F89 : FT89) (R : Type) : Env R := ⟨TT, EQT, 0, 14, ownOf [], callOf [en89 F89] R, loopOf [] R, [], inlOf []⟩
def p105 (F89 : FT89) : FT105 := fun R a0 k =>
let v1 := (List.length a0 : Int);
let v2 := (decide (v1 ≤ (256 : Int)));
(match v2 with
| true => F89 R a0 fun y3 =>
let v4 := (List.length y3 : Int);
let v5 := (List.length a0 : Int);
let v6 := (v4 == v5);
k v6
| false => k false)
theorem q105 (F89 : FT89) (F : FT105) (R : Type) (x : AT (en105 F).ins) (k : RT (en105 F).outs → PT (en105 F).ins → Option R) :
  xfun (e105 F89 R) (codeOf Try.f105) res105 (avs (en105 F).ins x) (finK (en105 F).outs (en105 F).ins k) = p105 F89 R x.1 (fun y1 => k (y1, ()) ()) := by kernel_rfl
noncomputable def F105 : FT105 := p105 F89
theorem env105 (R : Type) : EnvOK Try.prog (e105 F89 R) := ⟨tabOK, eqOK, callOf_ok (allE_cons ok89 allE_nil), noIns, inlOK_nil⟩
theorem ok105 : (en105 F105).OK Try.prog :=
  ent_ok (Ef := fun R => e105 F89 R) (fun R => env105 R) mixed Try.func105 (body := codeOf Try.f105) (by kernel_rfl) (by kernel_rfl) (np := 0) (nt := 14) (fun _ => rfl) (fun _ => rfl) (by kernel_rfl) (res := res105) (by kernel_rfl) (fun _ => rfl) (fun _ => Nat.le_of_ble_eq_true rfl) (by
    intro R
    rw [show loopsOf (codeOf Try.f105) = [] from by kernel_rfl]
    exact allM_nil) (fun R x k => q105 F89 F105 R x k)
abbrev FT104 : Type 1 := (R : Type) → (List Int) → (Bool → Option R) → Option R
def en104 (F : FT104) : Ent := ⟨104, [(false, (.sl (.int .u32)))], [(false, .bool)], fun R x k => F R x.1 (fun y1 => k (y1, ()) ())⟩
def res104 : List (ResultVar × TypeId × Bool) := [(.tmp 2, 4, false)]
noncomputable def e104 (F105 : FT105) (R : Type) : Env R := ⟨TT, EQT, 0, 6, ownOf [], callOf [en105 F105] R, loopOf [] R, [], inlOf []⟩
def p104 (F105 : FT105) : FT104 := fun R a0 k =>
F105 R a0 fun y1 =>
k (!y1)
theorem q104 (F105 : FT105) (F : FT104) (R : Type) (x : AT (en104 F).ins) (k : RT (en104 F).outs → PT (en104 F).ins → Option R) :
  xfun (e104 F105 R) (codeOf Try.f104) res104 (avs (en104 F).ins x) (finK (en104 F).outs (en104 F).ins k) = p104 F105 R x.1 (fun y1 => k (y1, ()) ()) := by kernel_rfl
noncomputable def F104 : FT104 := p104 F105
theorem env104 (R : Type) : EnvOK Try.prog (e104 F105 R) := ⟨tabOK, eqOK, callOf_ok (allE_cons ok105 allE_nil), noIns, inlOK_nil⟩
theorem ok104 : (en104 F104).OK Try.prog :=
  ent_ok (Ef := fun R => e104 F105 R) (fun R => env104 R) mixed Try.func104 (body := codeOf Try.f104) (by kernel_rfl) (by kernel_rfl) (np := 0) (nt := 6) (fun _ => rfl) (fun _ => rfl) (by kernel_rfl) (res := res104) (by kernel_rfl) (fun _ => rfl) (fun _ => Nat.le_of_ble_eq_true rfl) (by
    intro R
    rw [show loopsOf (codeOf Try.f104) = [] from by kernel_rfl]
    exact allM_nil) (fun R x k => q104 F105 F104 R x k)
abbrev FT108104 : Type 1 := (R : Type) → (List (List Int)) → (Int → Option R) → Option R
def en108104 (F : FT108104) : EntF := ⟨107, 104, [(false, (.sl (.sl (.int .u32))))], [(false, (.int .i64))], fun R x k => F R x.1 (fun y1 => k (y1, ()) ())⟩
def res108104 : List (ResultVar × TypeId × Bool) := [(.tmp 4, 3, false)]
abbrev LT108104_2 : Type 1 := (R : Type) → (List (List Int)) → Int → Int → (Int → Option R) → (Option R) → Option R
def le108104_2 (L : LT108104_2) : LEnt := ⟨2, [.val 0 (.sl (.sl (.int .u32))), .fix 1 (.fn 104), .val 7 (.int .i64), .val 8 (.int .i64)], 0, [(.ret, [.val 4 (.int .i64)]), (.exit 0, [])], fun R x ke => L R x.1 x.2.1 x.2.2.1 (fun y1 => ke.1 (y1, ())) (ke.2.1 ())⟩
noncomputable def e108104 (F104 : FT104) (L2 : LT108104_2) (R : Type) : Env R := ⟨TT, EQT, 0, 19, ownOf [], callOf [en104 F104] R, loopOf [le108104_2 L2] R, [], inlOf []⟩
def p108104_2 (F104 : FT104) : (R : Type) → (List (List Int)) → Int → Int → ((List (List Int)) → Int → Int → Option R) → (Int → Option R) → (Option R) → Option R := fun R x1 x2 x3 kc k0 k1 =>
let v4 := (decide (x3 < x2));
(match v4 with
| true => (match (bnd x3 (List.length x1 : Int)) with
| true => let v5 : (List Int) := (List.getD x1 (Int.toNat x3) ([] : (List Int)));
F104 R v5 fun y6 =>
(match y6 with
| true => k0 x3
| false => let v7 := (IntKind.i64.wrap (x3 + (1 : Int)));
kc x1 x2 v7)
| false => none)
| false => k1)
theorem q108104_2 (F104 : FT104) (L2 : LT108104_2) (R : Type) (x : HT (le108104_2 L2).H) (kc : HT (le108104_2 L2).H → Option R) (ke : KT R (le108104_2 L2).exs) :
  exec (e108104 F104 L2 R) (lcode 2 (codeOf Try.f107)) (stOf (le108104_2 L2).H x 0) (roundK (le108104_2 L2).H (le108104_2 L2).exs kc ke) =
    p108104_2 F104 R x.1 x.2.1 x.2.2.1 (fun x1 x2 x3 => kc (x1, x2, x3, ())) (fun y1 => ke.1 (y1, ())) (ke.2.1 ()) := by kernel_rfl
noncomputable def G108104_2 : Nat → LT108104_2
  | 0 => fun _ _ _ _ _ _ => none
  | n + 1 => fun R x1 x2 x3 k0 k1 => p108104_2 F104 R x1 x2 x3 (fun x1 x2 x3 => G108104_2 n R x1 x2 x3 k0 k1) k0 k1
def p108104 (L2 : LT108104_2) : FT108104 := fun R a0 k =>
let v1 := (List.length a0 : Int);
L2 R a0 v1 (0 : Int) (fun x2 =>
k x2) (k (-1 : Int))
theorem q108104 (F104 : FT104) (L2 : LT108104_2) (F : FT108104) (R : Type) (x : AT (en108104 F).ins) (k : RT (en108104 F).outs → PT (en108104 F).ins → Option R) :
  xfun (e108104 F104 L2 R) (codeOf Try.f107) res108104 (avs (en108104 F).ins x ++ [AV.fn 104]) (finK (en108104 F).outs (en108104 F).ins k) = p108104 L2 R x.1 (fun y1 => k (y1, ()) ()) := by kernel_rfl
noncomputable def F108104 : FT108104 := p108104 (G108104_2 FUEL)
theorem env108104 (R : Type) : EnvOK Try.prog (e108104 F104 (G108104_2 FUEL) R) := ⟨tabOK, eqOK, callOf_ok (allE_cons ok104 allE_nil), noIns, inlOK_nil⟩
noncomputable def T108104_2 : (R : Type) → HT (le108104_2 (G108104_2 FUEL)).H → (HT (le108104_2 (G108104_2 FUEL)).H → Option R) → KT R (le108104_2 (G108104_2 FUEL)).exs → Option R := fun R x kc ke => p108104_2 F104 R x.1 x.2.1 x.2.2.1 (fun x1 x2 x3 => kc (x1, x2, x3, ())) (fun y1 => ke.1 (y1, ())) (ke.2.1 ())
theorem it108104_2 : ∀ (n : Nat) (R : Type) (x : HT (le108104_2 (G108104_2 FUEL)).H) (ke : KT R (le108104_2 (G108104_2 FUEL)).exs), iter T108104_2 n R x ke = G108104_2 n R x.1 x.2.1 x.2.2.1 (fun y1 => ke.1 (y1, ())) (ke.2.1 ()) := by
  intro n
  induction n with
  | zero => intro R x ke; rfl
  | succ n ih =>
    intro R x ke
    show T108104_2 R x (fun x' => iter T108104_2 n R x' ke) ke = _
    rw [show (fun x' => iter T108104_2 n R x' ke) = fun x => G108104_2 n R x.1 x.2.1 x.2.2.1 (fun y1 => ke.1 (y1, ())) (ke.2.1 ()) from funext fun x' => ih R x' ke]
    rfl
theorem lok108104_2 : (le108104_2 (G108104_2 FUEL)).OK Try.prog 0 19 (lcode 2 (codeOf Try.f107)) := fun R x ke r h =>
  iter_sound (fun R => e108104 F104 (G108104_2 FUEL) R) 0 19 (fun _ => rfl) (fun _ => rfl) (fun R => env108104 R) mixed (by
    intro R
    rw [show loopsOf (lcode 2 (codeOf Try.f107)) = [] from by kernel_rfl]
    exact allM_nil) (T := T108104_2) (fun R x kc ke => q108104_2 F104 (G108104_2 FUEL) R x kc ke) FUEL R x ke r ((it108104_2 FUEL R x ke).trans h)
theorem ok108104 : (en108104 F108104).OK Try.prog :=
  ent_okF (Ef := fun R => e108104 F104 (G108104_2 FUEL) R) (fun R => env108104 R) mixed Try.func107 (body := codeOf Try.f107) (by kernel_rfl) (by kernel_rfl) (np := 0) (nt := 19) (fun _ => rfl) (fun _ => rfl) (by kernel_rfl) (res := res108104) (by kernel_rfl) (fun _ => rfl) (fun _ => Nat.le_of_ble_eq_true rfl) (by
    intro R
    rw [show loopsOf (codeOf Try.f107) = [lcode 2 (codeOf Try.f107)] from by kernel_rfl]
    exact (allM_cons (loop_ok2 (e := le108104_2 (G108104_2 FUEL)) rfl rfl lok108104_2) allM_nil)) (fun R x k => q108104 F104 (G108104_2 FUEL) F108104 R x k)
abbrev FT104104 : Type 1 := (R : Type) → (List (List Int)) → (Bool → Option R) → Option R
def en104104 (F : FT104104) : EntF := ⟨103, 104, [(false, (.sl (.sl (.int .u32))))], [(false, .bool)], fun R x k => F R x.1 (fun y1 => k (y1, ()) ())⟩
def res104104 : List (ResultVar × TypeId × Bool) := [(.tmp 4, 4, false)]
noncomputable def e104104 (F108104 : FT108104) (R : Type) : Env R := ⟨TT, EQT, 0, 9, ownOf [], callOfF [en108104 F108104] [] R, loopOf [] R, [], inlOf []⟩
def p104104 (F108104 : FT108104) : FT104104 := fun R a0 k =>
F108104 R a0 fun y1 =>
let v2 := (decide (y1 ≥ (0 : Int)));
k v2
theorem q104104 (F108104 : FT108104) (F : FT104104) (R : Type) (x : AT (en104104 F).ins) (k : RT (en104104 F).outs → PT (en104104 F).ins → Option R) :
  xfun (e104104 F108104 R) (codeOf Try.f103) res104104 (avs (en104104 F).ins x ++ [AV.fn 104]) (finK (en104104 F).outs (en104104 F).ins k) = p104104 F108104 R x.1 (fun y1 => k (y1, ()) ()) := by kernel_rfl
noncomputable def F104104 : FT104104 := p104104 F108104
theorem env104104 (R : Type) : EnvOK Try.prog (e104104 F108104 R) := ⟨tabOK, eqOK, callOfF_ok (allF_cons ok108104 allF_nil) allE_nil, noIns, inlOK_nil⟩
theorem ok104104 : (en104104 F104104).OK Try.prog :=
  ent_okF (Ef := fun R => e104104 F108104 R) (fun R => env104104 R) mixed Try.func103 (body := codeOf Try.f103) (by kernel_rfl) (by kernel_rfl) (np := 0) (nt := 9) (fun _ => rfl) (fun _ => rfl) (by kernel_rfl) (res := res104104) (by kernel_rfl) (fun _ => rfl) (fun _ => Nat.le_of_ble_eq_true rfl) (by
    intro R
    rw [show loopsOf (codeOf Try.f103) = [] from by kernel_rfl]
    exact allM_nil) (fun R x k => q104104 F108104 F104104 R x k)
abbrev FT90 : Type 1 := (R : Type) → (List (List Int)) → (Bool → Option R) → Option R
def en90 (F : FT90) : Ent := ⟨90, [(false, (.sl (.sl (.int .u32))))], [(false, .bool)], fun R x k => F R x.1 (fun y1 => k (y1, ()) ())⟩
def res90 : List (ResultVar × TypeId × Bool) := [(.tmp 2, 4, false)]
noncomputable def e90 (F104104 : FT104104) (R : Type) : Env R := ⟨TT, EQT, 0, 6, ownOf [], callOfF [en104104 F104104] [] R, loopOf [] R, [], inlOf []⟩
def p90 (F104104 : FT104104) : FT90 := fun R a0 k =>
F104104 R a0 fun y1 =>
k (!y1)
theorem q90 (F104104 : FT104104) (F : FT90) (R : Type) (x : AT (en90 F).ins) (k : RT (en90 F).outs → PT (en90 F).ins → Option R) :
  xfun (e90 F104104 R) (codeOf Try.f90) res90 (avs (en90 F).ins x) (finK (en90 F).outs (en90 F).ins k) = p90 F104104 R x.1 (fun y1 => k (y1, ()) ()) := by kernel_rfl
noncomputable def F90 : FT90 := p90 F104104
theorem env90 (R : Type) : EnvOK Try.prog (e90 F104104 R) := ⟨tabOK, eqOK, callOfF_ok (allF_cons ok104104 allF_nil) allE_nil, noIns, inlOK_nil⟩
theorem ok90 : (en90 F90).OK Try.prog :=
  ent_ok (Ef := fun R => e90 F104104 R) (fun R => env90 R) mixed Try.func90 (body := codeOf Try.f90) (by kernel_rfl) (by kernel_rfl) (np := 0) (nt := 6) (fun _ => rfl) (fun _ => rfl) (by kernel_rfl) (res := res90) (by kernel_rfl) (fun _ => rfl) (fun _ => Nat.le_of_ble_eq_true rfl) (by
    intro R
    rw [show loopsOf (codeOf Try.f90) = [] from by kernel_rfl]
    exact allM_nil) (fun R x k => q90 F104104 F90 R x k)
abbrev FT91 : Type 1 := (R : Type) → (List Int) → (List Int) → (Int → Option R) → Option R
def en91 (F : FT91) : Ent := ⟨91, [(false, (.sl (.int .u32))), (false, (.sl (.int .u32)))], [(false, (.int .i64))], fun R x k => F R x.1 x.2.1 (fun y1 => k (y1, ()) ())⟩
def res91 : List (ResultVar × TypeId × Bool) := [(.tmp 4, 3, false)]
abbrev LT91_6 : Type 1 := (R : Type) → (List Int) → (List Int) → Int → (Int → Option R) → (Option R) → Option R
def le91_6 (L : LT91_6) : LEnt := ⟨6, [.val 0 (.sl (.int .u32)), .val 1 (.sl (.int .u32)), .val 5 (.int .i64)], 0, [(.ret, [.val 4 (.int .i64)]), (.exit 0, [])], fun R x ke => L R x.1 x.2.1 x.2.2.1 (fun y1 => ke.1 (y1, ())) (ke.2.1 ())⟩
noncomputable def e91 (F90 : FT90) (L6 : LT91_6) (R : Type) : Env R := ⟨TT, EQT, 0, 50, ownOf [], callOf [en90 F90] R, loopOf [le91_6 L6] R, [], inlOf []⟩
def p91_6 : (R : Type) → (List Int) → (List Int) → Int → ((List Int) → (List Int) → Int → Option R) → (Int → Option R) → (Option R) → Option R := fun R x1 x2 x3 kc k0 k1 =>
let v4 := (decide (x3 ≥ (0 : Int)));
(match v4 with
| true => (match (bnd x3 (List.length x1 : Int)) with
| true => let v5 := (List.getD x1 (Int.toNat x3) (0 : Int));
(match (bnd x3 (List.length x2 : Int)) with
| true => let v6 := (List.getD x2 (Int.toNat x3) (0 : Int));
let v7 := (decide (v5 < v6));
(match v7 with
| true => k0 (-1 : Int)
| false => (match (bnd x3 (List.length x1 : Int)) with
| true => let v8 := (List.getD x1 (Int.toNat x3) (0 : Int));
(match (bnd x3 (List.length x2 : Int)) with
| true => let v9 := (List.getD x2 (Int.toNat x3) (0 : Int));
let v10 := (decide (v8 > v9));
(match v10 with
| true => k0 (1 : Int)
| false => let v11 := (IntKind.i64.wrap (x3 - (1 : Int)));
kc x1 x2 v11)
| false => none)
| false => none))
| false => none)
| false => none)
| false => k1)
theorem q91_6 (F90 : FT90) (L6 : LT91_6) (R : Type) (x : HT (le91_6 L6).H) (kc : HT (le91_6 L6).H → Option R) (ke : KT R (le91_6 L6).exs) :
  exec (e91 F90 L6 R) (lcode 6 (codeOf Try.f91)) (stOf (le91_6 L6).H x 0) (roundK (le91_6 L6).H (le91_6 L6).exs kc ke) =
    p91_6 R x.1 x.2.1 x.2.2.1 (fun x1 x2 x3 => kc (x1, x2, x3, ())) (fun y1 => ke.1 (y1, ())) (ke.2.1 ()) := by kernel_rfl
noncomputable def G91_6 : Nat → LT91_6
  | 0 => fun _ _ _ _ _ _ => none
  | n + 1 => fun R x1 x2 x3 k0 k1 => p91_6 R x1 x2 x3 (fun x1 x2 x3 => G91_6 n R x1 x2 x3 k0 k1) k0 k1
def p91 (F90 : FT90) (L6 : LT91_6) : FT91 := fun R a0 a1 k =>
let v1 : (List (List Int)) := ([a0, a1] : (List (List Int)));
F90 R v1 fun y2 =>
(match (!y2) with
| true => k (0 : Int)
| false => let v3 := (List.length a0 : Int);
let v4 := (List.length a1 : Int);
let v5 := (v3 != v4);
(match v5 with
| true => let v6 := (List.length a0 : Int);
let v7 := (List.length a1 : Int);
let v8 := (IntKind.i64.wrap (v6 - v7));
let v9 := (if (-1 : Int) > v8 then (-1 : Int) else v8);
let v10 := (if (1 : Int) < v9 then (1 : Int) else v9);
k v10
| false => let v11 := (List.length a0 : Int);
let v12 := (IntKind.i64.wrap (v11 - (1 : Int)));
L6 R a0 a1 v12 (fun x13 =>
k x13) (k (0 : Int))))
theorem q91 (F90 : FT90) (L6 : LT91_6) (F : FT91) (R : Type) (x : AT (en91 F).ins) (k : RT (en91 F).outs → PT (en91 F).ins → Option R) :
  xfun (e91 F90 L6 R) (codeOf Try.f91) res91 (avs (en91 F).ins x) (finK (en91 F).outs (en91 F).ins k) = p91 F90 L6 R x.1 x.2.1 (fun y1 => k (y1, ()) ()) := by kernel_rfl
noncomputable def F91 : FT91 := p91 F90 (G91_6 FUEL)
theorem env91 (R : Type) : EnvOK Try.prog (e91 F90 (G91_6 FUEL) R) := ⟨tabOK, eqOK, callOf_ok (allE_cons ok90 allE_nil), noIns, inlOK_nil⟩
noncomputable def T91_6 : (R : Type) → HT (le91_6 (G91_6 FUEL)).H → (HT (le91_6 (G91_6 FUEL)).H → Option R) → KT R (le91_6 (G91_6 FUEL)).exs → Option R := fun R x kc ke => p91_6 R x.1 x.2.1 x.2.2.1 (fun x1 x2 x3 => kc (x1, x2, x3, ())) (fun y1 => ke.1 (y1, ())) (ke.2.1 ())
theorem it91_6 : ∀ (n : Nat) (R : Type) (x : HT (le91_6 (G91_6 FUEL)).H) (ke : KT R (le91_6 (G91_6 FUEL)).exs), iter T91_6 n R x ke = G91_6 n R x.1 x.2.1 x.2.2.1 (fun y1 => ke.1 (y1, ())) (ke.2.1 ()) := by
  intro n
  induction n with
  | zero => intro R x ke; rfl
  | succ n ih =>
    intro R x ke
    show T91_6 R x (fun x' => iter T91_6 n R x' ke) ke = _
    rw [show (fun x' => iter T91_6 n R x' ke) = fun x => G91_6 n R x.1 x.2.1 x.2.2.1 (fun y1 => ke.1 (y1, ())) (ke.2.1 ()) from funext fun x' => ih R x' ke]
    rfl
theorem lok91_6 : (le91_6 (G91_6 FUEL)).OK Try.prog 0 50 (lcode 6 (codeOf Try.f91)) := fun R x ke r h =>
  iter_sound (fun R => e91 F90 (G91_6 FUEL) R) 0 50 (fun _ => rfl) (fun _ => rfl) (fun R => env91 R) mixed (by
    intro R
    rw [show loopsOf (lcode 6 (codeOf Try.f91)) = [] from by kernel_rfl]
    exact allM_nil) (T := T91_6) (fun R x kc ke => q91_6 F90 (G91_6 FUEL) R x kc ke) FUEL R x ke r ((it91_6 FUEL R x ke).trans h)
theorem ok91 : (en91 F91).OK Try.prog :=
  ent_ok (Ef := fun R => e91 F90 (G91_6 FUEL) R) (fun R => env91 R) mixed Try.func91 (body := codeOf Try.f91) (by kernel_rfl) (by kernel_rfl) (np := 0) (nt := 50) (fun _ => rfl) (fun _ => rfl) (by kernel_rfl) (res := res91) (by kernel_rfl) (fun _ => rfl) (fun _ => Nat.le_of_ble_eq_true rfl) (by
    intro R
    rw [show loopsOf (codeOf Try.f91) = [lcode 6 (codeOf Try.f91)] from by kernel_rfl]
    exact (allM_cons (loop_ok2 (e := le91_6 (G91_6 FUEL)) rfl rfl lok91_6) allM_nil)) (fun R x k => q91 F90 (G91_6 FUEL) F91 R x k)
end Go.PG
