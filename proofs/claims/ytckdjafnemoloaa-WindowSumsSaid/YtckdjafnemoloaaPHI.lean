/- A part of the proofs over this seat (own work; the framework that reads a Go function as a pure one, or a use of it). No condition of its own. -/
import Derived.Test.YtckdjafnemoloaaPHH
set_option linter.unusedVariables false
set_option linter.unusedSimpArgs false
namespace Go.PG
/-! Numbers. -/
theorem wrap_u64_mod (n : Int) : IntKind.u64.wrap n = n % 18446744073709551616 := by
  unfold IntKind.wrap; simp [IntKind.signed, IntKind.bits]
theorem wrap_u32_mod (n : Int) : IntKind.u32.wrap n = n % 4294967296 := by
  unfold IntKind.wrap; simp [IntKind.signed, IntKind.bits]
theorem wrap_u16_mod (n : Int) : IntKind.u16.wrap n = n % 65536 := by
  unfold IntKind.wrap; simp [IntKind.signed, IntKind.bits]
theorem wrap_u8_mod (n : Int) : IntKind.u8.wrap n = n % 256 := by
  unfold IntKind.wrap; simp [IntKind.signed, IntKind.bits]
theorem wrap_i64_def (n : Int) : IntKind.i64.wrap n = if n % 18446744073709551616 ≥ 9223372036854775808 then n % 18446744073709551616 - 18446744073709551616 else n % 18446744073709551616 := by
  unfold IntKind.wrap; simp [IntKind.signed, IntKind.bits]
theorem wrap_i64 {n : Int} (h1 : -9223372036854775808 ≤ n) (h2 : n ≤ 9223372036854775807) : IntKind.i64.wrap n = n := by
  rw [wrap_i64_def]; split <;> omega
theorem wrap_u64 {n : Int} (h1 : 0 ≤ n) (h2 : n ≤ 18446744073709551615) : IntKind.u64.wrap n = n := by
  rw [wrap_u64_mod]; omega
theorem wrap_u32 {n : Int} (h1 : 0 ≤ n) (h2 : n ≤ 4294967295) : IntKind.u32.wrap n = n := by
  rw [wrap_u32_mod]; omega
theorem wrap_u8 {n : Int} (h1 : 0 ≤ n) (h2 : n ≤ 255) : IntKind.u8.wrap n = n := by
  rw [wrap_u8_mod]; omega
theorem fit_i64 {x : Int} (h : Fit (.int .i64) x) : -9223372036854775808 ≤ x ∧ x ≤ 9223372036854775807 := h
theorem fit_u64 {x : Int} (h : Fit (.int .u64) x) : 0 ≤ x ∧ x ≤ 18446744073709551615 := h
theorem fit_u32 {x : Int} (h : Fit (.int .u32) x) : 0 ≤ x ∧ x ≤ 4294967295 := h
theorem fit_u16 {x : Int} (h : Fit (.int .u16) x) : 0 ≤ x ∧ x ≤ 65535 := h
theorem fit_u8 {x : Int} (h : Fit (.int .u8) x) : 0 ≤ x ∧ x ≤ 255 := h
theorem FUEL_eq : FUEL = 18446744073709551616 := by decide
end Go.PG
