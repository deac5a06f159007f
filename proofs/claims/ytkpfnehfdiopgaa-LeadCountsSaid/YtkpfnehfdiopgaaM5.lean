/- A part of the proofs over this seat (own work; the framework that reads a Go function as a pure one, or a use of it). No condition of its own. -/
import Derived.Test.YtkpfnehfdiopgaaM2
import Derived.Test.YtkpfnehfdiopgaaM4
import Derived.KernelRfl
set_option linter.unusedVariables false
set_option linter.unusedSimpArgs false
namespace Go.PG
/-! 32-bit words: the operators as numbers. -/
def U32 (x : Int) : Prop := 0 ≤ x ∧ x < 4294967296
def U8 (x : Int) : Prop := 0 ≤ x ∧ x < 256

theorem ofInt_toNat32 {x : Int} (h : U32 x) : (BitVec.ofInt 32 x).toNat = x.toNat := by
  rw [BitVec.toNat_ofInt]
  unfold U32 at h
  have : x % ((2 ^ 32 : Nat) : Int) = x := by omega
  rw [this]
theorem wrap_bv32 (b : BitVec 32) : IntKind.u32.wrap ((b.toNat : Nat) : Int) = (b.toNat : Int) := by
  have := b.isLt
  exact wrap_u32 (by omega) (by omega)
theorem iand_u32 (a b : Int) : iand .u32 a b = ((BitVec.ofInt 32 a &&& BitVec.ofInt 32 b).toNat : Int) := wrap_bv32 _
theorem ior_u32 (a b : Int) : ior .u32 a b = ((BitVec.ofInt 32 a ||| BitVec.ofInt 32 b).toNat : Int) := wrap_bv32 _
theorem ixor_u32 (a b : Int) : ixor .u32 a b = ((BitVec.ofInt 32 a ^^^ BitVec.ofInt 32 b).toNat : Int) := wrap_bv32 _
theorem bv32_lt (b : BitVec 32) : U32 (b.toNat : Int) := by have := b.isLt; unfold U32; omega
theorem iand_lt (a b : Int) : U32 (iand .u32 a b) := by rw [iand_u32]; exact bv32_lt _
theorem ior_lt (a b : Int) : U32 (ior .u32 a b) := by rw [ior_u32]; exact bv32_lt _
theorem ixor_lt (a b : Int) : U32 (ixor .u32 a b) := by rw [ixor_u32]; exact bv32_lt _
theorem wrap_lt32 (a : Int) : U32 (IntKind.u32.wrap a) := by rw [wrap_u32_mod]; unfold U32; omega
theorem ofInt_natCast32 (b : BitVec 32) : BitVec.ofInt 32 ((b.toNat : Nat) : Int) = b := by
  rw [BitVec.ofInt_natCast, BitVec.ofNat_toNat, BitVec.setWidth_eq]

/-- The choice: by xor as by or. -/
theorem choice_eq {a : Int} (b c : Int) (ha : U32 a) : ixor .u32 (iand .u32 a b) (iand .u32 (ixor .u32 4294967295 a) c) = ior .u32 (iand .u32 a b) (iand .u32 (IntKind.u32.wrap (4294967295 - a)) c) := by
  have h1 : IntKind.u32.wrap (4294967295 - a) = ixor .u32 4294967295 a := by
    rw [ixor_u32, wrap_u32 (by unfold U32 at ha; omega) (by unfold U32 at ha; omega)]
    have e : BitVec.ofInt 32 4294967295 = BitVec.allOnes 32 := by decide
    rw [e, BitVec.allOnes_xor, BitVec.toNat_not, ofInt_toNat32 ha]
    unfold U32 at ha
    omega
  rw [h1]
  simp only [iand_u32, ior_u32, ixor_u32, ofInt_natCast32]
  congr 2
  have e : BitVec.ofInt 32 4294967295 = BitVec.allOnes 32 := by decide
  rw [e]
  ext i hi
  simp only [BitVec.getElem_xor, BitVec.getElem_and, BitVec.getElem_or, BitVec.getElem_allOnes]
  cases (BitVec.ofInt 32 a)[i] <;> simp

theorem majority_eq (a b c : Int) : ixor .u32 (ixor .u32 (iand .u32 a b) (iand .u32 a c)) (iand .u32 b c) = ior .u32 (ior .u32 (iand .u32 a b) (iand .u32 a c)) (iand .u32 b c) := by
  simp only [iand_u32, ior_u32, ixor_u32, ofInt_natCast32]
  congr 2
  ext i hi
  simp
  cases (BitVec.ofInt 32 a)[i] <;> cases (BitVec.ofInt 32 b)[i] <;> cases (BitVec.ofInt 32 c)[i] <;> rfl

/-- Turned to the right by r places. -/
def rotS (x : Int) (r : Nat) : Int := x / 2 ^ r + (x % 2 ^ r) * 2 ^ (32 - r)

theorem rotS_step {x : Int} {r : Nat} (hx : U32 x) (hr : r < 32) : rotS x (r + 1) = rotS x r / 2 + (rotS x r % 2) * 2147483648 := by
  unfold rotS U32 at *
  have e1 : (2 : Int) ^ (32 - r) = 2 * 2 ^ (31 - r) := by
    rw [show 32 - r = (31 - r) + 1 by omega, Int.pow_succ]; omega
  have e2 : (2 : Int) ^ (32 - (r + 1)) = 2 ^ (31 - r) := by rw [show 32 - (r + 1) = 31 - r by omega]
  have e3 : (2 : Int) ^ (r + 1) = 2 ^ r * 2 := Int.pow_succ _ _
  have e4 : (2 : Int) ^ r * 2 ^ (31 - r) = 2147483648 := by
    rw [← Int.pow_add, show r + (31 - r) = 31 by omega]; decide
  rw [e1, e2, e3]
  have hp : (0 : Int) < 2 ^ r := Int.pow_pos (by decide)
  generalize (2 : Int) ^ r = p at *
  generalize (2 : Int) ^ (31 - r) = s at *
  have d1 : x / (p * 2) = x / p / 2 := (Int.ediv_ediv_of_nonneg (by omega)).symm
  have d2 : x % (p * 2) = x % p + p * (x / p % 2) := by
    have a1 := Int.emod_add_mul_ediv x p
    have a2 := Int.emod_add_mul_ediv x (p * 2)
    have a3 := Int.emod_add_mul_ediv (x / p) 2
    rw [d1] at a2
    generalize x / p = q at *
    generalize x % p = m at *
    generalize q / 2 = h at *
    generalize q % 2 = t at *
    have : p * (t + 2 * h) = p * q := by rw [a3]
    rw [Int.mul_add, ← Int.mul_assoc] at this
    omega
  rw [d1, d2, Int.add_mul]
  have e5 : p * (x / p % 2) * s = (x / p % 2) * 2147483648 := by
    rw [Int.mul_comm p, Int.mul_assoc, e4]
  rw [e5]
  have e6 : x % p * (2 * s) = 2 * (x % p * s) := by rw [Int.mul_left_comm]
  rw [e6]
  generalize x % p * s = u
  omega

theorem rotS_zero (x : Int) : rotS x 0 = x := by simp [rotS]
theorem rotS_lt {x : Int} (hx : U32 x) : ∀ {r : Nat}, r ≤ 32 → U32 (rotS x r)
  | 0, _ => by rw [rotS_zero]; exact hx
  | r + 1, h => by
    have ih := rotS_lt hx (r := r) (by omega)
    rw [rotS_step hx (by omega)]
    unfold U32 at *
    omega

theorem two_pow_pos (r : Nat) : (0 : Int) < 2 ^ r := Int.pow_pos (by decide)

/-- Shifts, joined. -/
theorem rot_or {x : Int} (hx : U32 x) {r : Nat} (h0 : 0 < r) (hr : r < 32) : ior .u32 (ishr .u32 x r) (ishl .u32 x ((32 : Int) - r)) = rotS x r := by
  unfold U32 at hx
  obtain ⟨n, rfl⟩ : ∃ n : Nat, x = n := ⟨x.toNat, by omega⟩
  have hn : n < 2 ^ 32 := by omega
  have e1 : ishr .u32 (n : Int) r = ((n / 2 ^ r : Nat) : Int) := by
    unfold ishr
    rw [show IntKind.u32.bits = 32 from rfl, show ((r : Int).toNat) = r by simp, Nat.min_eq_left (by omega), Int.fdiv_eq_ediv_of_nonneg _ (by have := two_pow_pos r; omega)]
    simp
  have e2 : ishl .u32 (n : Int) ((32 : Int) - r) = ((n * 2 ^ (32 - r) % 2 ^ 32 : Nat) : Int) := by
    unfold ishl
    rw [show IntKind.u32.bits = 32 from rfl, show ((32 : Int) - r).toNat = 32 - r by omega, Nat.min_eq_left (by omega), wrap_u32_mod]
    simp
  rw [e1, e2, ior_u32, BitVec.ofInt_natCast, BitVec.ofInt_natCast, BitVec.toNat_or, BitVec.toNat_ofNat, BitVec.toNat_ofNat]
  have hd : n / 2 ^ r < 2 ^ (32 - r) := by
    rw [Nat.div_lt_iff_lt_mul (Nat.two_pow_pos r), ← Nat.pow_add, show 32 - r + r = 32 by omega]; exact hn
  have h3 : n * 2 ^ (32 - r) % 2 ^ 32 = (n % 2 ^ r) * 2 ^ (32 - r) := by
    have : 2 ^ 32 = 2 ^ r * 2 ^ (32 - r) := by rw [← Nat.pow_add, show r + (32 - r) = 32 by omega]
    rw [this, Nat.mul_mod_mul_right]
  have h4 : n / 2 ^ r < 2 ^ 32 := Nat.lt_of_le_of_lt (Nat.div_le_self _ _) hn
  rw [h3, Nat.mod_eq_of_lt h4, Nat.mod_eq_of_lt (by
    have : n % 2 ^ r < 2 ^ r := Nat.mod_lt _ (Nat.two_pow_pos r)
    have h5 : 2 ^ 32 = 2 ^ r * 2 ^ (32 - r) := by rw [← Nat.pow_add, show r + (32 - r) = 32 by omega]
    rw [h5]; exact Nat.mul_lt_mul_of_pos_right this (Nat.two_pow_pos _)), Nat.or_comm]
  have h6 := Nat.shiftLeft_add_eq_or_of_lt hd (n % 2 ^ r)
  rw [Nat.shiftLeft_eq] at h6
  rw [← h6]
  unfold rotS
  simp
  omega
end Go.PG
namespace Go.PG
/-! Words: the program's and the document's. -/
theorem F187_eq (R : Type) {x : Int} (hx : U32 x) {r : Nat} (h0 : 0 < r) (hr : r < 32) (k : Int → Option R) : F187 R x (r : Int) k = k (rotS x r) := by
  simp only [F187, p187]
  rw [wrap_u64 (n := (r : Int)) (by omega) (by omega), Int.tmod_eq_of_lt (by omega) (by omega), wrap_u64 (by omega) (by omega)]
  rw [show decide (0 ≤ (r : Int)) = true by simp, show decide (0 ≤ (32 : Int) - r) = true by simp; omega]
  simp only
  rw [rot_or hx h0 hr]

theorem G179_eq (R : Type) {x : Int} (hx : U32 x) {r : Nat} (hr : r ≤ 32) (k : Int → Option R) : ∀ (m i : Nat), i ≤ r → r - i < m → G179_5 m R (rotS x i) (r : Int) (i : Int) k = k (rotS x r)
  | 0, i, _, h => by omega
  | m + 1, i, h1, h2 => by
    simp only [G179_5, p179_5]
    by_cases hi : i < r
    · have hd : decide ((i : Int) < (r : Int)) = true := by simpa using hi
      have hu := rotS_lt hx (r := i) (by omega)
      have hs := rotS_step hx (r := i) (by omega)
      simp only [hd]
      have ih := G179_eq R hx hr k m (i + 1) (by omega) (by omega)
      rw [hs] at ih
      rw [← ih]
      unfold U32 at hu
      rw [Int.tdiv_eq_ediv_of_nonneg hu.1, Int.tmod_eq_emod_of_nonneg hu.1]
      rw [wrap_u32 (n := rotS x i / 2) (by omega) (by omega), wrap_u32 (n := rotS x i % 2 * 2147483648) (by omega) (by omega), wrap_u32 (by omega) (by omega), wrap_i64 (by omega) (by omega)]
      rfl
    · have hd : decide ((i : Int) < (r : Int)) = false := by simpa using hi
      have : i = r := by omega
      subst this
      simp only [hd]

theorem F179_eq (R : Type) {x : Int} (hx : U32 x) {r : Nat} (hr : r < 32) (k : Int → Option R) : F179 R x (r : Int) k = k (rotS x r) := by
  simp only [F179, p179]
  rw [Int.tmod_eq_of_lt (by omega) (by omega)]
  have hd : decide ((r : Int) < 0) = false := by simp
  simp only [hd]
  have := G179_eq R hx (r := r) (by omega) k FUEL 0 (by omega) (by rw [FUEL_eq]; omega)
  rw [rotS_zero] at this
  exact this

def shrS (x : Int) (r : Nat) : Int := x / 2 ^ r
theorem shr_eq {x : Int} (hx : U32 x) {r : Nat} (hr : r ≤ 32) : ishr .u32 x r = shrS x r := by
  unfold ishr shrS
  rw [show IntKind.u32.bits = 32 from rfl, show ((r : Int).toNat) = r by simp, Nat.min_eq_left hr, Int.fdiv_eq_ediv_of_nonneg _ (by have := two_pow_pos r; omega)]
theorem F188_eq (R : Type) {x : Int} (hx : U32 x) {r : Nat} (hr : r ≤ 32) (k : Int → Option R) : F188 R x (r : Int) k = k (shrS x r) := by
  simp only [F188, p188]
  have e : (if (0 : Int) > (r : Int) then (0 : Int) else (r : Int)) = r := by split <;> omega
  rw [e, wrap_u64 (by omega) (by omega), shr_eq hx hr]
  have hd : decide ((0 : Int) ≤ (r : Int)) = true := by simp
  simp only [hd]

theorem shrS_lt {x : Int} (hx : U32 x) (r : Nat) : U32 (shrS x r) := by
  unfold shrS U32 at *
  have hp := two_pow_pos r
  exact ⟨Int.ediv_nonneg hx.1 (by omega), Int.lt_of_le_of_lt (Int.ediv_le_self _ hx.1) hx.2⟩
theorem shrS_step (x : Int) (r : Nat) : shrS x (r + 1) = shrS x r / 2 := by
  unfold shrS
  rw [Int.pow_succ, Int.ediv_ediv_of_nonneg (by have := two_pow_pos r; omega)]

theorem G76_eq (R : Type) {x : Int} (hx : U32 x) {r : Nat} (hr : r ≤ 32) (k : Int → Option R) : ∀ (m i : Nat), i ≤ r → r - i < m → G76_4 m R (shrS x i) (r : Int) (i : Int) k = k (shrS x r)
  | 0, i, _, h => by omega
  | m + 1, i, h1, h2 => by
    simp only [G76_4, p76_4]
    by_cases hi : i < r
    · have hd : decide ((i : Int) < (r : Int)) = true := by simpa using hi
      have hu := shrS_lt hx i
      simp only [hd]
      have ih := G76_eq R hx hr k m (i + 1) (by omega) (by omega)
      rw [shrS_step] at ih
      rw [← ih]
      unfold U32 at hu
      rw [Int.tdiv_eq_ediv_of_nonneg hu.1, wrap_u32 (by omega) (by omega), wrap_i64 (by omega) (by omega)]
      rfl
    · have hd : decide ((i : Int) < (r : Int)) = false := by simpa using hi
      have : i = r := by omega
      subst this
      simp only [hd]
theorem F76_eq (R : Type) {x : Int} (hx : U32 x) {r : Nat} (hr : r < 32) (k : Int → Option R) : F76 R x (r : Int) k = k (shrS x r) := by
  simp only [F76, p76]
  have hd : decide ((r : Int) > 31) = false := by simp; omega
  simp only [hd]
  have := G76_eq R hx (r := r) (by omega) k FUEL 0 (by omega) (by rw [FUEL_eq]; omega)
  rw [show shrS x 0 = x by simp [shrS]] at this
  exact this

theorem F187_lit (R : Type) {x : Int} (hx : U32 x) {n : Int} (r : Nat) (e : n = (r : Int)) (h0 : 0 < r) (hr : r < 32) (k : Int → Option R) : F187 R x n k = k (rotS x r) := by rw [e]; exact F187_eq R hx h0 hr k
theorem F179_lit (R : Type) {x : Int} (hx : U32 x) {n : Int} (r : Nat) (e : n = (r : Int)) (hr : r < 32) (k : Int → Option R) : F179 R x n k = k (rotS x r) := by rw [e]; exact F179_eq R hx hr k
theorem F188_lit (R : Type) {x : Int} (hx : U32 x) {n : Int} (r : Nat) (e : n = (r : Int)) (hr : r ≤ 32) (k : Int → Option R) : F188 R x n k = k (shrS x r) := by rw [e]; exact F188_eq R hx hr k
theorem F76_lit (R : Type) {x : Int} (hx : U32 x) {n : Int} (r : Nat) (e : n = (r : Int)) (hr : r < 32) (k : Int → Option R) : F76 R x n k = k (shrS x r) := by rw [e]; exact F76_eq R hx hr k
def sig3 (x : Int) (a b c : Nat) : Int := ixor .u32 (ixor .u32 (rotS x a) (rotS x b)) (rotS x c)
def sig2 (x : Int) (a b c : Nat) : Int := ixor .u32 (ixor .u32 (rotS x a) (rotS x b)) (shrS x c)
theorem sig3_lt (x : Int) (a b c : Nat) : U32 (sig3 x a b c) := ixor_lt _ _
theorem sig2_lt (x : Int) (a b c : Nat) : U32 (sig2 x a b c) := ixor_lt _ _
theorem F181_eq (R : Type) {x : Int} (hx : U32 x) (k : Int → Option R) : F181 R x k = k (sig2 x 17 19 10) := by
  simp only [F181, p181, F185, p185]
  rw [F187_lit R hx (n := 17) 17 rfl (by omega) (by omega), F187_lit R hx (n := 19) 19 rfl (by omega) (by omega), F188_lit R hx (n := 10) 10 rfl (by omega)]
  simp only [sig2]
theorem F182_eq (R : Type) {x : Int} (hx : U32 x) (k : Int → Option R) : F182 R x k = k (sig2 x 7 18 3) := by
  simp only [F182, p182, F185, p185]
  rw [F187_lit R hx (n := 7) 7 rfl (by omega) (by omega), F187_lit R hx (n := 18) 18 rfl (by omega) (by omega), F188_lit R hx (n := 3) 3 rfl (by omega)]
  simp only [sig2]
theorem F171_eq (R : Type) {x : Int} (hx : U32 x) (k : Int → Option R) : F171 R x k = k (sig2 x 17 19 10) := by
  have h1 := F179_lit R hx (n := 17) 17 rfl (by omega)
  have h2 := F179_lit R hx (n := 19) 19 rfl (by omega)
  have h3 := F76_lit R hx (n := 10) 10 rfl (by omega)
  show p171 F76 F179 R x k = _
  generalize F179 = f at *
  generalize F76 = g at *
  simp only [p171, h1, h2, h3, sig2]
theorem F172_eq (R : Type) {x : Int} (hx : U32 x) (k : Int → Option R) : F172 R x k = k (sig2 x 7 18 3) := by
  have h1 := F179_lit R hx (n := 7) 7 rfl (by omega)
  have h2 := F179_lit R hx (n := 18) 18 rfl (by omega)
  have h3 := F76_lit R hx (n := 3) 3 rfl (by omega)
  show p172 F76 F179 R x k = _
  generalize F179 = f at *
  generalize F76 = g at *
  simp only [p172, h1, h2, h3, sig2]

def chS (a b c : Int) : Int := ior .u32 (iand .u32 a b) (iand .u32 (IntKind.u32.wrap (4294967295 - a)) c)
def majS (a b c : Int) : Int := ior .u32 (ior .u32 (iand .u32 a b) (iand .u32 a c)) (iand .u32 b c)
theorem F183_eq (R : Type) {a : Int} (ha : U32 a) (b c : Int) (k : Int → Option R) : F183 R a b c k = k (IntKind.u32.wrap (sig3 a 6 11 25 + chS a b c)) := by
  simp only [F183, p183, F186, p186]
  rw [F187_lit R ha (n := 6) 6 rfl (by omega) (by omega), F187_lit R ha (n := 11) 11 rfl (by omega) (by omega), F187_lit R ha (n := 25) 25 rfl (by omega) (by omega)]
  simp only [sig3, chS, choice_eq b c ha]
theorem F184_eq (R : Type) {a : Int} (ha : U32 a) (b c : Int) (k : Int → Option R) : F184 R a b c k = k (IntKind.u32.wrap (sig3 a 2 13 22 + majS a b c)) := by
  simp only [F184, p184, F186, p186]
  rw [F187_lit R ha (n := 2) 2 rfl (by omega) (by omega), F187_lit R ha (n := 13) 13 rfl (by omega) (by omega), F187_lit R ha (n := 22) 22 rfl (by omega) (by omega)]
  simp only [sig3, majS, majority_eq]
theorem F173_eq (R : Type) {x : Int} (hx : U32 x) {a b c : Int} (p q r : Nat) (ea : a = (p : Int)) (eb : b = (q : Int)) (ec : c = (r : Int)) (hp : p < 32) (hq : q < 32) (hr : r < 32) (k : Int → Option R) : F173 R x a b c k = k (sig3 x p q r) := by
  simp only [F173, p173]
  rw [F179_lit R hx p ea hp, F179_lit R hx q eb hq, F179_lit R hx r ec hr]
  simp only [sig3]

/-- A round. -/
def roundS (s : List Int) (w c : Int) : List Int :=
  let t := IntKind.u32.wrap (s.getD 7 0 + sig3 (s.getD 4 0) 6 11 25 + chS (s.getD 4 0) (s.getD 5 0) (s.getD 6 0) + c + w)
  [IntKind.u32.wrap (t + (sig3 (s.getD 0 0) 2 13 22 + majS (s.getD 0 0) (s.getD 1 0) (s.getD 2 0))), s.getD 0 0, s.getD 1 0, s.getD 2 0, IntKind.u32.wrap (s.getD 3 0 + t), s.getD 4 0, s.getD 5 0, s.getD 6 0]

theorem F160_eq (R : Type) {s : List Int} (h0 : U32 (s.getD 0 0)) (h4 : U32 (s.getD 4 0)) (w c : Int) (k : List Int → Option R) : F160 R s w c k = k (roundS s w c) := by
  have e1 := F173_eq R h4 (a := 6) (b := 11) (c := 25) 6 11 25 rfl rfl rfl (by omega) (by omega) (by omega)
  have e2 := F173_eq R h0 (a := 2) (b := 13) (c := 22) 2 13 22 rfl rfl rfl (by omega) (by omega) (by omega)
  show p160 F173 F174 F175 R s w c k = _
  generalize F173 = f at *
  simp only [p160, e1, e2, F174, p174, F175, p175]
  congr 1
  simp only [roundS, chS, majS, List.replicate, List.set]
  simp only [wrap_u32_mod]
  congr 1
  · omega
  · congr 4
    omega
theorem F178_eq (R : Type) {a0 a1 a2 a3 a4 a5 a6 a7 : Int} (h0 : U32 a0) (h4 : U32 a4) (w c : Int) (k : List Int → Option R) : F178 R [a0, a1, a2, a3, a4, a5, a6, a7] w c k = k (roundS [a0, a1, a2, a3, a4, a5, a6, a7] w c) := by
  simp only [F178, p178, List.getD_cons_zero, List.getD_cons_succ]
  rw [F183_eq R h4, F184_eq R h0]
  congr 1
  simp [roundS, lay, List.replicate]
  simp only [wrap_u32_mod]
  refine ⟨?_, ?_⟩ <;> omega
end Go.PG
namespace Go.PG
/-! Four bytes, the plan, the constants. -/
theorem list4 {l : List Int} (h : l.length = 4) : ∃ a b c d, l = [a, b, c, d] := by
  match l, h with
  | [a, b, c, d], _ => exact ⟨a, b, c, d, rfl⟩
theorem list8 {l : List Int} (h : l.length = 8) : ∃ a b c d e f g i, l = [a, b, c, d, e, f, g, i] := by
  match l, h with
  | [a, b, c, d, e, f, g, i], _ => exact ⟨a, b, c, d, e, f, g, i, rfl⟩

def AllU8 (l : List Int) : Prop := ∀ x ∈ l, U8 x
def AllU32 (l : List Int) : Prop := ∀ x ∈ l, U32 x
def get32S (a b c d : Int) : Int := ((a * 256 + b) * 256 + c) * 256 + d

theorem FUEL_succ (n : Nat) (h : n ≤ 1000) : ∃ m, FUEL = m + n := ⟨FUEL - n, by rw [FUEL_eq]; omega⟩

theorem F170_eq (R : Type) {a b c d : Int} (ha : U8 a) (hb : U8 b) (hc : U8 c) (hd : U8 d) (k : Int → Option R) : F170 R [a, b, c, d] k = k (get32S a b c d) := by
  obtain ⟨m, hm⟩ := FUEL_succ 5 (by omega)
  unfold U8 at *
  simp only [F170, p170, hm, G170_3, p170_3]
  simp [bnd, wrap_i64_def, wrap_u32_mod, get32S]
  congr 1
  omega

theorem ior_shl8 {x b : Int} (hx : 0 ≤ x ∧ x < 16777216) (hb : U8 b) : ior .u32 (ishl .u32 x 8) b = x * 256 + b := by
  unfold U8 at hb
  obtain ⟨n, rfl⟩ : ∃ n : Nat, x = n := ⟨x.toNat, by omega⟩
  obtain ⟨c, rfl⟩ : ∃ c : Nat, b = c := ⟨b.toNat, by omega⟩
  have e2 : ishl .u32 (n : Int) 8 = ((n * 256 : Nat) : Int) := by
    unfold ishl
    rw [show (2 : Int) ^ (min (8 : Int).toNat IntKind.u32.bits) = 256 by decide, wrap_u32 (by omega) (by omega)]
    simp
  rw [e2, ior_u32, BitVec.ofInt_natCast, BitVec.ofInt_natCast, BitVec.toNat_or, BitVec.toNat_ofNat, BitVec.toNat_ofNat, Nat.mod_eq_of_lt (by omega), Nat.mod_eq_of_lt (by omega)]
  have h6 := Nat.shiftLeft_add_eq_or_of_lt (i := 8) (b := c) (by omega) n
  rw [Nat.shiftLeft_eq] at h6
  rw [show n * 256 = n * 2 ^ 8 by rfl, ← h6]
  simp

theorem F180_eq (R : Type) {a b c d : Int} (ha : U8 a) (hb : U8 b) (hc : U8 c) (hd : U8 d) (k : Int → Option R) : F180 R [a, b, c, d] k = k (get32S a b c d) := by
  obtain ⟨m, hm⟩ := FUEL_succ 5 (by omega)
  simp only [F180, p180, hm, G180_2, p180_2]
  have w : ∀ x, U8 x → IntKind.u32.wrap x = x := fun x h => wrap_u32 h.1 (by unfold U8 at h; omega)
  simp [bnd, wrap_i64_def, w a ha, w b hb, w c hc, w d hd]
  have u := ha; have v := hb; have y := hc; have z := hd
  unfold U8 at u v y z
  rw [ior_shl8 (x := 0) (by omega) ha, ior_shl8 (by omega) hb, ior_shl8 (by omega) hc, ior_shl8 (by omega) hd]
  simp [get32S]
theorem get32S_lt {a b c d : Int} (ha : U8 a) (hb : U8 b) (hc : U8 c) (hd : U8 d) : U32 (get32S a b c d) := by
  unfold U8 U32 get32S at *; omega

def word4 (blk : List Int) (i : Nat) : Int := get32S (blk.getD (4 * i) 0) (blk.getD (4 * i + 1) 0) (blk.getD (4 * i + 2) 0) (blk.getD (4 * i + 3) 0)
def planW (l : List Int) (i : Nat) : Int := IntKind.u32.wrap (IntKind.u32.wrap (IntKind.u32.wrap (sig2 (l.getD (i - 2) 0) 17 19 10 + l.getD (i - 7) 0) + sig2 (l.getD (i - 15) 0) 7 18 3) + l.getD (i - 16) 0)
def planStep (blk l : List Int) (i : Nat) : List Int := l.set i (if i < 16 then word4 blk i else planW l i)
def planS (blk : List Int) : List Int := (List.range' 0 64).foldl (planStep blk) (List.replicate 64 0)

theorem getD_all {p : Int → Prop} {l : List Int} (h : ∀ x ∈ l, p x) (h0 : p 0) (i : Nat) : p (l.getD i 0) := by
  rw [List.getD_eq_getElem?_getD]
  cases hi : l[i]? with
  | none => exact h0
  | some x => exact h x (List.mem_of_getElem? hi)
theorem u8_0 : U8 0 := by unfold U8; omega
theorem u32_0 : U32 0 := by unfold U32; omega
theorem AllU32.set {l : List Int} (h : AllU32 l) {i : Nat} {x : Int} (hx : U32 x) : AllU32 (l.set i x) := fun y hy => by
  rcases List.mem_or_eq_of_mem_set hy with h1 | h1
  · exact h y h1
  · rw [h1]; exact hx
theorem AllU32.rep (n : Nat) : AllU32 (List.replicate n 0) := fun y hy => by rw [List.eq_of_mem_replicate hy]; exact u32_0
theorem word4_lt {blk : List Int} (h : AllU8 blk) (i : Nat) : U32 (word4 blk i) := get32S_lt (getD_all h u8_0 _) (getD_all h u8_0 _) (getD_all h u8_0 _) (getD_all h u8_0 _)
theorem planStep_ok {blk l : List Int} (hb : AllU8 blk) (hl : l.length = 64) (h : AllU32 l) (i : Nat) : (planStep blk l i).length = 64 ∧ AllU32 (planStep blk l i) := by
  unfold planStep
  refine ⟨by simpa using hl, h.set ?_⟩
  split
  · exact word4_lt hb i
  · exact wrap_lt32 _

theorem take4 {l : List Int} {i : Nat} (h : i + 4 ≤ l.length) : List.take 4 (List.drop i l) = [l.getD i 0, l.getD (i + 1) 0, l.getD (i + 2) 0, l.getD (i + 3) 0] := by
  have e0 : List.drop i l = l[i] :: List.drop (i + 1) l := List.drop_eq_getElem_cons (by omega)
  have e1 : List.drop (i + 1) l = l[i + 1] :: List.drop (i + 1 + 1) l := List.drop_eq_getElem_cons (by omega)
  have e2 : List.drop (i + 1 + 1) l = l[i + 1 + 1] :: List.drop (i + 1 + 1 + 1) l := List.drop_eq_getElem_cons (by omega)
  have e3 : List.drop (i + 1 + 1 + 1) l = l[i + 1 + 1 + 1] :: List.drop (i + 1 + 1 + 1 + 1) l := List.drop_eq_getElem_cons (by omega)
  rw [e0, e1, e2, e3]
  show [l[i], l[i + 1], l[i + 1 + 1], l[i + 1 + 1 + 1]] = _
  simp [show i < l.length by omega, show i + 1 < l.length by omega, show i + 2 < l.length by omega, show i + 3 < l.length by omega]

theorem range'_step {i n : Nat} (h : i < n) : List.range' i (n - i) = i :: List.range' (i + 1) (n - (i + 1)) := by
  rw [show n - i = (n - (i + 1)) + 1 by omega, List.range'_succ]

theorem G177_eq (R : Type) {blk : List Int} (hb : blk.length = 64) (h8 : AllU8 blk) (k0 : List Int → Option R) : ∀ (m i : Nat) (l : List Int), i ≤ 64 → 64 - i < m → l.length = 64 → AllU32 l →
    G177_2 m R (i : Int) blk l k0 = k0 ((List.range' i (64 - i)).foldl (planStep blk) l)
  | 0, i, l, _, h, _, _ => by omega
  | m + 1, i, l, h1, h2, hl, hu => by
    simp only [G177_2, p177_2]
    by_cases hi : i < 64
    · have ok := planStep_ok h8 hl hu i
      have ih := G177_eq R hb h8 k0 m (i + 1) (planStep blk l i) (by omega) (by omega) ok.1 ok.2
      rw [range'_step hi, List.foldl_cons, ← ih]
      rw [wrap_i64 (n := 4 * (i : Int)) (by omega) (by omega), wrap_i64 (n := (i : Int) + 1) (by omega) (by omega), wrap_i64 (n := 4 * (i : Int) + 4) (by omega) (by omega)]
      have hd : decide ((i : Int) < 64) = true := by simp; omega
      have hbn : bnd (i : Int) 64 = true := by unfold bnd; simp; omega
      by_cases h16 : i < 16
      · have c1 : decide (4 * (i : Int) < 64) = true := by simp; omega
        have c2 : decide (0 ≤ 4 * (i : Int) ∧ 4 * (i : Int) ≤ 4 * (i : Int) + 4 ∧ 4 * (i : Int) + 4 ≤ 64) = true := by simp; omega
        have c3 : decide ((4 : Int) ≤ ((Int.toNat (4 * (i : Int) + 4 - 4 * (i : Int)) : Nat) : Int)) = true := by simp; omega
        have e1 : (4 * (i : Int)).toNat = 4 * i := by omega
        simp only [hd, c1, c2, c3, e1, hbn]
        rw [take4 (by omega), F180_eq R (getD_all h8 u8_0 _) (getD_all h8 u8_0 _) (getD_all h8 u8_0 _) (getD_all h8 u8_0 _)]
        simp only [planStep, if_pos h16, word4, Int.toNat_natCast]
        rfl
      · have c1 : decide (4 * (i : Int) < 64) = false := by simp; omega
        rw [wrap_i64 (n := (i : Int) - 2) (by omega) (by omega), wrap_i64 (n := (i : Int) - 7) (by omega) (by omega), wrap_i64 (n := (i : Int) - 15) (by omega) (by omega), wrap_i64 (n := (i : Int) - 16) (by omega) (by omega)]
        have b2 : bnd ((i : Int) - 2) 64 = true := by unfold bnd; simp; omega
        have b7 : bnd ((i : Int) - 7) 64 = true := by unfold bnd; simp; omega
        have b15 : bnd ((i : Int) - 15) 64 = true := by unfold bnd; simp; omega
        have b16 : bnd ((i : Int) - 16) 64 = true := by unfold bnd; simp; omega
        have n2 : ((i : Int) - 2).toNat = i - 2 := by omega
        have n7 : ((i : Int) - 7).toNat = i - 7 := by omega
        have n15 : ((i : Int) - 15).toNat = i - 15 := by omega
        have n16 : ((i : Int) - 16).toNat = i - 16 := by omega
        simp only [hd, c1, hbn, b2, b7, b15, b16, n2, n7, n15, n16]
        rw [F181_eq R (getD_all hu u32_0 _), F182_eq R (getD_all hu u32_0 _)]
        simp only [planStep, if_neg h16, planW, Int.toNat_natCast]
        rfl
    · have : i = 64 := by omega
      subst this
      rfl

theorem F177_eq (R : Type) {blk : List Int} (hb : blk.length = 64) (h8 : AllU8 blk) (k : List Int → Option R) : F177 R blk k = k (planS blk) := by
  simp only [F177, p177]
  exact G177_eq R hb h8 _ FUEL 0 (List.replicate 64 0) (by omega) (by rw [FUEL_eq]; omega) (by simp) (AllU32.rep 64)

theorem G159_3_eq (R : Type) {blk : List Int} (hb : blk.length = 64) (h8 : AllU8 blk) (x3 : List Int) (k0 : List Int → List Int → Option R) : ∀ (m i : Nat) (l : List Int), i ≤ 16 → 16 - i < m → l.length = 64 → AllU32 l →
    G159_3 m R (i : Int) blk x3 l k0 = k0 x3 ((List.range' i (16 - i)).foldl (planStep blk) l)
  | 0, i, l, _, h, _, _ => by omega
  | m + 1, i, l, h1, h2, hl, hu => by
    simp only [G159_3, p159_3]
    by_cases hi : i < 16
    · have ok := planStep_ok h8 hl hu i
      have ih := G159_3_eq R hb h8 x3 k0 m (i + 1) (planStep blk l i) (by omega) (by omega) ok.1 ok.2
      rw [range'_step hi, List.foldl_cons, ← ih]
      rw [wrap_i64 (n := 4 * (i : Int)) (by omega) (by omega), wrap_i64 (n := (i : Int) + 1) (by omega) (by omega), wrap_i64 (n := 4 * (i : Int) + 1) (by omega) (by omega), wrap_i64 (n := 4 * (i : Int) + 2) (by omega) (by omega), wrap_i64 (n := 4 * (i : Int) + 3) (by omega) (by omega)]
      have hd : decide ((i : Int) < 16) = true := by simp; omega
      have hbn : bnd (i : Int) 64 = true := by unfold bnd; simp; omega
      have b0 : bnd (4 * (i : Int)) 64 = true := by unfold bnd; simp; omega
      have b1 : bnd (4 * (i : Int) + 1) 64 = true := by unfold bnd; simp; omega
      have b2 : bnd (4 * (i : Int) + 2) 64 = true := by unfold bnd; simp; omega
      have b3 : bnd (4 * (i : Int) + 3) 64 = true := by unfold bnd; simp; omega
      have n0 : (4 * (i : Int)).toNat = 4 * i := by omega
      have n1 : (4 * (i : Int) + 1).toNat = 4 * i + 1 := by omega
      have n2 : (4 * (i : Int) + 2).toNat = 4 * i + 2 := by omega
      have n3 : (4 * (i : Int) + 3).toNat = 4 * i + 3 := by omega
      simp only [hd, hbn, b0, b1, b2, b3, n0, n1, n2, n3, List.replicate, List.set]
      rw [F170_eq R (getD_all h8 u8_0 _) (getD_all h8 u8_0 _) (getD_all h8 u8_0 _) (getD_all h8 u8_0 _)]
      simp only [planStep, if_pos hi, word4, Int.toNat_natCast]
      rfl
    · have : i = 16 := by omega
      subst this
      rfl

theorem G159_7_eq (R : Type) {blk : List Int} (h8 : AllU8 blk) (x2 : List Int) (k0 : List Int → List Int → Option R) : ∀ (m i : Nat) (l : List Int), 16 ≤ i → i ≤ 64 → 64 - i < m → l.length = 64 → AllU32 l →
    G159_7 m R (i : Int) x2 l k0 = k0 x2 ((List.range' i (64 - i)).foldl (planStep blk) l)
  | 0, i, l, _, _, h, _, _ => by omega
  | m + 1, i, l, h16, h1, h2, hl, hu => by
    simp only [G159_7, p159_7]
    by_cases hi : i < 64
    · have ok := planStep_ok h8 hl hu i
      have ih := G159_7_eq R h8 x2 k0 m (i + 1) (planStep blk l i) (by omega) (by omega) (by omega) ok.1 ok.2
      rw [range'_step hi, List.foldl_cons, ← ih]
      rw [wrap_i64 (n := (i : Int) + 1) (by omega) (by omega), wrap_i64 (n := (i : Int) - 2) (by omega) (by omega), wrap_i64 (n := (i : Int) - 7) (by omega) (by omega), wrap_i64 (n := (i : Int) - 15) (by omega) (by omega), wrap_i64 (n := (i : Int) - 16) (by omega) (by omega)]
      have hd : decide ((i : Int) < 64) = true := by simp; omega
      have hbn : bnd (i : Int) 64 = true := by unfold bnd; simp; omega
      have b2 : bnd ((i : Int) - 2) 64 = true := by unfold bnd; simp; omega
      have b7 : bnd ((i : Int) - 7) 64 = true := by unfold bnd; simp; omega
      have b15 : bnd ((i : Int) - 15) 64 = true := by unfold bnd; simp; omega
      have b16 : bnd ((i : Int) - 16) 64 = true := by unfold bnd; simp; omega
      have n2 : ((i : Int) - 2).toNat = i - 2 := by omega
      have n7 : ((i : Int) - 7).toNat = i - 7 := by omega
      have n15 : ((i : Int) - 15).toNat = i - 15 := by omega
      have n16 : ((i : Int) - 16).toNat = i - 16 := by omega
      simp only [hd, hbn, b2, b7, b15, b16, n2, n7, n15, n16]
      rw [F171_eq R (getD_all hu u32_0 _), F172_eq R (getD_all hu u32_0 _)]
      simp only [planStep, if_neg (show ¬ i < 16 by omega), planW, Int.toNat_natCast]
      rfl
    · have : i = 64 := by omega
      subst this
      rfl

theorem planFold_ok {blk : List Int} (h8 : AllU8 blk) : ∀ (is : List Nat) (l : List Int), l.length = 64 → AllU32 l → (is.foldl (planStep blk) l).length = 64 ∧ AllU32 (is.foldl (planStep blk) l)
  | [], l, h1, h2 => ⟨h1, h2⟩
  | i :: is, l, h1, h2 => by
    have ok := planStep_ok h8 h1 h2 i
    exact planFold_ok h8 is _ ok.1 ok.2
theorem planS_ok {blk : List Int} (h8 : AllU8 blk) : (planS blk).length = 64 ∧ AllU32 (planS blk) := planFold_ok h8 _ _ (by simp) (AllU32.rep 64)

theorem F159_eq (R : Type) {blk : List Int} (hb : blk.length = 64) (h8 : AllU8 blk) (k : List Int → Option R) : F159 R blk k = k (planS blk) := by
  simp only [F159, p159]
  have g1 := G159_3_eq R hb h8 (List.replicate 64 0) (fun x1 x2 => G159_7 FUEL R 16 x1 x2 fun x3 x4 => k x4) FUEL 0 (List.replicate 64 0) (by omega) (by rw [FUEL_eq]; omega) (by simp) (AllU32.rep 64)
  refine g1.trans ?_
  have ok := planFold_ok h8 (List.range' 0 (16 - 0)) (List.replicate 64 0) (by simp) (AllU32.rep 64)
  have g2 := G159_7_eq R h8 (List.replicate 64 0) (fun _ x4 => k x4) FUEL 16 _ (by omega) (by omega) (by rw [FUEL_eq]; omega) ok.1 ok.2
  refine g2.trans ?_
  rw [← List.foldl_append]
  rfl
end Go.PG
namespace Go.PG
/-! The constants, and a block taken. -/
def KS : List Int := [1116352408, 1899447441, 3049323471, 3921009573, 961987163, 1508970993, 2453635748, 2870763221, 3624381080, 310598401, 607225278, 1426881987, 1925078388, 2162078206, 2614888103, 3248222580, 3835390401, 4022224774, 264347078, 604807628, 770255983, 1249150122, 1555081692, 1996064986, 2554220882, 2821834349, 2952996808, 3210313671, 3336571891, 3584528711, 113926993, 338241895, 666307205, 773529912, 1294757372, 1396182291, 1695183700, 1986661051, 2177026350, 2456956037, 2730485921, 2820302411, 3259730800, 3345764771, 3516065817, 3600352804, 4094571909, 275423344, 430227734, 506948616, 659060556, 883997877, 958139571, 1322822218, 1537002063, 1747873779, 1955562222, 2024104815, 2227730452, 2361852424, 2428436474, 2756734187, 3204031479, 3329325298]
theorem F176_eq (R : Type) (k : List Int → Option R) : F176 R k = k KS := by kernel_rfl
theorem F161_form (R : Type) (a : Int) (k : Int → Option R) : F161 R a k = (match decide (a < 0) with | true => k 0 | false => match decide (a > 63) with | true => k 0 | false => match bnd a 64 with | true => k (List.getD KS a.toNat 0) | false => none) := by kernel_rfl
theorem F161_eq (R : Type) {i : Nat} (h : i < 64) (k : Int → Option R) : F161 R (i : Int) k = k (KS.getD i 0) := by
  rw [F161_form]
  have h1 : decide ((i : Int) < 0) = false := by simp
  have h2 : decide ((i : Int) > 63) = false := by simp; omega
  have h3 : bnd (i : Int) 64 = true := by unfold bnd; simp; omega
  simp only [h1, h2, h3, Int.toNat_natCast]

def roundsStep (plan s : List Int) (i : Nat) : List Int := roundS s (plan.getD i 0) (KS.getD i 0)
theorem roundS_ok {s : List Int} (h : AllU32 s) (w c : Int) : (roundS s w c).length = 8 ∧ AllU32 (roundS s w c) := by
  refine ⟨rfl, fun x hx => ?_⟩
  have g := fun i => getD_all h u32_0 i
  simp only [roundS, List.mem_cons, List.not_mem_nil, or_false] at hx
  rcases hx with rfl | rfl | rfl | rfl | rfl | rfl | rfl | rfl
  · exact wrap_lt32 _
  · exact g 0
  · exact g 1
  · exact g 2
  · exact wrap_lt32 _
  · exact g 4
  · exact g 5
  · exact g 6
theorem F178_eq' (R : Type) {s : List Int} (hl : s.length = 8) (h : AllU32 s) (w c : Int) (k : List Int → Option R) : F178 R s w c k = k (roundS s w c) := by
  obtain ⟨a0, a1, a2, a3, a4, a5, a6, a7, rfl⟩ := list8 hl
  exact F178_eq R (h a0 (by simp)) (h a4 (by simp)) w c k

theorem G168_3_eq (R : Type) (plan : List Int) (x3 x4 : List Int) (k0 : List Int → List Int → List Int → Option R) : ∀ (m i : Nat) (s : List Int), i ≤ 64 → 64 - i < m → s.length = 8 → AllU32 s →
    G168_3 m R plan (i : Int) x3 x4 s KS k0 = k0 x3 x4 ((List.range' i (64 - i)).foldl (roundsStep plan) s)
  | 0, i, s, _, h, _, _ => by omega
  | m + 1, i, s, h1, h2, hl, hu => by
    simp only [G168_3, p168_3]
    by_cases hi : i < 64
    · have ok := roundS_ok hu (plan.getD i 0) (KS.getD i 0)
      have ih := G168_3_eq R plan x3 x4 k0 m (i + 1) (roundsStep plan s i) (by omega) (by omega) ok.1 ok.2
      rw [range'_step hi, List.foldl_cons, ← ih, wrap_i64 (n := (i : Int) + 1) (by omega) (by omega)]
      have hd : decide ((i : Int) < 64) = true := by simp; omega
      have hbn : bnd (i : Int) 64 = true := by unfold bnd; simp; omega
      simp only [hd, hbn, Int.toNat_natCast]
      rw [F178_eq' R hl hu]
      rfl
    · have : i = 64 := by omega
      subst this
      rfl

theorem G146_4_eq (R : Type) (plan : List Int) (x2 x3 : List Int) (k0 : List Int → List Int → List Int → Option R) : ∀ (m i : Nat) (s : List Int), i ≤ 64 → 64 - i < m → s.length = 8 → AllU32 s →
    G146_4 m R (i : Int) x2 x3 plan s k0 = k0 x2 x3 ((List.range' i (64 - i)).foldl (roundsStep plan) s)
  | 0, i, s, _, h, _, _ => by omega
  | m + 1, i, s, h1, h2, hl, hu => by
    simp only [G146_4, p146_4]
    by_cases hi : i < 64
    · have ok := roundS_ok hu (plan.getD i 0) (KS.getD i 0)
      have ih := G146_4_eq R plan x2 x3 k0 m (i + 1) (roundsStep plan s i) (by omega) (by omega) ok.1 ok.2
      rw [range'_step hi, List.foldl_cons, ← ih, wrap_i64 (n := (i : Int) + 1) (by omega) (by omega)]
      have hd : decide ((i : Int) < 64) = true := by simp; omega
      have hbn : bnd (i : Int) 64 = true := by unfold bnd; simp; omega
      simp only [hd, hbn, Int.toNat_natCast]
      rw [F161_eq R hi, F160_eq R (getD_all hu u32_0 _) (getD_all hu u32_0 _)]
      rfl
    · have : i = 64 := by omega
      subst this
      rfl

def addStep (a l : List Int) (i : Nat) : List Int := l.set i (IntKind.u32.wrap (l.getD i 0 + a.getD i 0))
theorem addStep_ok {a l : List Int} (hl : l.length = 8) (h : AllU32 l) (i : Nat) : (addStep a l i).length = 8 ∧ AllU32 (addStep a l i) := ⟨by simpa [addStep] using hl, h.set (wrap_lt32 _)⟩
theorem G168_8_eq (R : Type) (a x3 : List Int) (k0 : List Int → List Int → Option R) : ∀ (m i : Nat) (l : List Int), i ≤ 8 → 8 - i < m → G168_8 m R (i : Int) a x3 l k0 = k0 x3 ((List.range' i (8 - i)).foldl (addStep a) l)
  | 0, i, l, _, h => by omega
  | m + 1, i, l, h1, h2 => by
    simp only [G168_8, p168_8]
    by_cases hi : i < 8
    · have ih := G168_8_eq R a x3 k0 m (i + 1) (addStep a l i) (by omega) (by omega)
      rw [range'_step hi, List.foldl_cons, ← ih, wrap_i64 (n := (i : Int) + 1) (by omega) (by omega)]
      have hd : decide ((i : Int) < 8) = true := by simp; omega
      have hbn : bnd (i : Int) 8 = true := by unfold bnd; simp; omega
      simp only [hd, hbn, Int.toNat_natCast]
      rfl
    · have : i = 8 := by omega
      subst this
      rfl
theorem G146_8_eq (R : Type) (a x3 : List Int) (k0 : List Int → List Int → Option R) : ∀ (m i : Nat) (l : List Int), i ≤ 8 → 8 - i < m → G146_8 m R (i : Int) a x3 l k0 = k0 x3 ((List.range' i (8 - i)).foldl (addStep a) l)
  | 0, i, l, _, h => by omega
  | m + 1, i, l, h1, h2 => by
    simp only [G146_8, p146_8]
    by_cases hi : i < 8
    · have ih := G146_8_eq R a x3 k0 m (i + 1) (addStep a l i) (by omega) (by omega)
      rw [range'_step hi, List.foldl_cons, ← ih, wrap_i64 (n := (i : Int) + 1) (by omega) (by omega)]
      have hd : decide ((i : Int) < 8) = true := by simp; omega
      have hbn : bnd (i : Int) 8 = true := by unfold bnd; simp; omega
      simp only [hd, hbn, Int.toNat_natCast]
      rfl
    · have : i = 8 := by omega
      subst this
      rfl

/-- A block taken. -/
def takeS (st blk : List Int) : List Int := (List.range' 0 8).foldl (addStep st) ((List.range' 0 64).foldl (roundsStep (planS blk)) st)
theorem F168_eq (R : Type) {st blk : List Int} (hl : st.length = 8) (hu : AllU32 st) (hb : blk.length = 64) (h8 : AllU8 blk) (k : List Int → Option R) : F168 R st blk k = k (takeS st blk) := by
  simp only [F168, p168]
  rw [F176_eq, F177_eq R hb h8]
  refine (G168_3_eq R (planS blk) st (List.replicate 8 0) (fun x3 x4 x5 => G168_8 FUEL R 0 x3 x4 x5 fun x6 x7 => k x7) FUEL 0 st (by omega) (by rw [FUEL_eq]; omega) hl hu).trans ?_
  exact G168_8_eq R st (List.replicate 8 0) (fun _ x7 => k x7) FUEL 0 _ (by omega) (by rw [FUEL_eq]; omega)
theorem F146_eq (R : Type) {st blk : List Int} (hl : st.length = 8) (hu : AllU32 st) (hb : blk.length = 64) (h8 : AllU8 blk) (k : List Int → Option R) : F146 R st blk k = k (takeS st blk) := by
  simp only [F146, p146]
  rw [F159_eq R hb h8]
  refine (G146_4_eq R (planS blk) st (List.replicate 8 0) (fun x3 x4 x5 => G146_8 FUEL R 0 x3 x4 x5 fun x6 x7 => k x7) FUEL 0 st (by omega) (by rw [FUEL_eq]; omega) hl hu).trans ?_
  exact G146_8_eq R st (List.replicate 8 0) (fun _ x7 => k x7) FUEL 0 _ (by omega) (by rw [FUEL_eq]; omega)
theorem roundsFold_ok (plan : List Int) : ∀ (is : List Nat) (s : List Int), s.length = 8 → AllU32 s → (is.foldl (roundsStep plan) s).length = 8 ∧ AllU32 (is.foldl (roundsStep plan) s)
  | [], s, h1, h2 => ⟨h1, h2⟩
  | i :: is, s, h1, h2 => by
    have ok := roundS_ok h2 (plan.getD i 0) (KS.getD i 0)
    exact roundsFold_ok plan is _ ok.1 ok.2
theorem addFold_ok (a : List Int) : ∀ (is : List Nat) (s : List Int), s.length = 8 → AllU32 s → (is.foldl (addStep a) s).length = 8 ∧ AllU32 (is.foldl (addStep a) s)
  | [], s, h1, h2 => ⟨h1, h2⟩
  | i :: is, s, h1, h2 => by
    have ok := addStep_ok (a := a) h1 h2 i
    exact addFold_ok a is _ ok.1 ok.2
theorem takeS_ok {st : List Int} (blk : List Int) (hl : st.length = 8) (hu : AllU32 st) : (takeS st blk).length = 8 ∧ AllU32 (takeS st blk) := by
  have h := roundsFold_ok (planS blk) (List.range' 0 64) st hl hu
  exact addFold_ok st _ _ h.1 h.2
end Go.PG
namespace Go.PG
/-! Blocks and what is left. -/
def blkF : Nat → List Int → List (List Int)
  | 0, _ => []
  | n + 1, b => if 64 ≤ b.length then b.take 64 :: blkF n (b.drop 64) else []
def tailF : Nat → List Int → List Int
  | 0, b => b
  | n + 1, b => if 64 ≤ b.length then tailF n (b.drop 64) else b
def blkS (b : List Int) : List (List Int) := blkF (b.length / 64 + 1) b
def tailS (b : List Int) : List Int := tailF (b.length / 64 + 1) b

theorem blkF_big : ∀ (n m : Nat) (b : List Int), b.length / 64 < n → b.length / 64 < m → blkF n b = blkF m b
  | 0, _, _, h, _ => by omega
  | _, 0, _, _, h => by omega
  | n + 1, m + 1, b, h1, h2 => by
    simp only [blkF]
    by_cases h : 64 ≤ b.length
    · rw [if_pos h, if_pos h, blkF_big n m (b.drop 64) (by rw [List.length_drop]; omega) (by rw [List.length_drop]; omega)]
    · rw [if_neg h, if_neg h]
theorem tailF_big : ∀ (n m : Nat) (b : List Int), b.length / 64 < n → b.length / 64 < m → tailF n b = tailF m b
  | 0, _, _, h, _ => by omega
  | _, 0, _, _, h => by omega
  | n + 1, m + 1, b, h1, h2 => by
    simp only [tailF]
    by_cases h : 64 ≤ b.length
    · rw [if_pos h, if_pos h, tailF_big n m (b.drop 64) (by rw [List.length_drop]; omega) (by rw [List.length_drop]; omega)]
    · rw [if_neg h, if_neg h]
theorem blkS_step {b : List Int} (h : 64 ≤ b.length) : blkS b = b.take 64 :: blkS (b.drop 64) := by
  unfold blkS
  rw [show blkF (b.length / 64 + 1) b = b.take 64 :: blkF (b.length / 64) (b.drop 64) by simp only [blkF, if_pos h]]
  rw [blkF_big (b.length / 64) ((b.drop 64).length / 64 + 1) (b.drop 64) (by rw [List.length_drop]; omega) (by omega)]
theorem blkS_end {b : List Int} (h : b.length < 64) : blkS b = [] := by
  unfold blkS; simp only [blkF, if_neg (show ¬ 64 ≤ b.length by omega)]
theorem tailS_step {b : List Int} (h : 64 ≤ b.length) : tailS b = tailS (b.drop 64) := by
  unfold tailS
  rw [show tailF (b.length / 64 + 1) b = tailF (b.length / 64) (b.drop 64) by simp only [tailF, if_pos h]]
  rw [tailF_big (b.length / 64) ((b.drop 64).length / 64 + 1) (b.drop 64) (by rw [List.length_drop]; omega) (by omega)]
theorem tailS_end {b : List Int} (h : b.length < 64) : tailS b = b := by
  unfold tailS; simp only [tailF, if_neg (show ¬ 64 ≤ b.length by omega)]

theorem tailS_len : ∀ (n : Nat) (b : List Int), b.length ≤ n → (tailS b).length = b.length % 64 ∧ (blkS b).length = b.length / 64
  | 0, b, h => by
    rw [tailS_end (by omega), blkS_end (by omega)]
    simp; omega
  | n + 1, b, h => by
    by_cases h6 : 64 ≤ b.length
    · have ih := tailS_len n (b.drop 64) (by rw [List.length_drop]; omega)
      rw [tailS_step h6, blkS_step h6, ih.1, List.length_cons, ih.2, List.length_drop]
      omega
    · rw [tailS_end (by omega), blkS_end (by omega)]
      simp; omega

/-- In pieces. -/
theorem blk_append : ∀ (n : Nat) (a b : List Int), a.length ≤ n → blkS (a ++ b) = blkS a ++ blkS (tailS a ++ b) ∧ tailS (a ++ b) = tailS (tailS a ++ b)
  | 0, a, b, h => by
    rw [blkS_end (show a.length < 64 by omega), tailS_end (show a.length < 64 by omega)]
    exact ⟨rfl, rfl⟩
  | n + 1, a, b, h => by
    by_cases h6 : 64 ≤ a.length
    · have ih := blk_append n (a.drop 64) b (by rw [List.length_drop]; omega)
      have hl : 64 ≤ (a ++ b).length := by rw [List.length_append]; omega
      rw [blkS_step hl, blkS_step h6, tailS_step hl, tailS_step h6, List.take_append_of_le_length h6, List.drop_append_of_le_length h6, ih.1, ih.2]
      exact ⟨rfl, rfl⟩
    · rw [blkS_end (show a.length < 64 by omega), tailS_end (show a.length < 64 by omega)]
      exact ⟨rfl, rfl⟩

theorem G167_eq (R : Type) (k0 : List Int → List (List Int) → Option R) : ∀ (m : Nat) (b : List Int) (acc : List (List Int)), b.length / 64 < m → acc.length + b.length / 64 ≤ 1000000000 → b.length ≤ 100000000000 →
    G167_1 m R b acc k0 = k0 (tailS b) (acc ++ blkS b)
  | 0, b, acc, h, _, _ => by omega
  | m + 1, b, acc, h1, h2, h3 => by
    simp only [G167_1, p167_1]
    by_cases h6 : 64 ≤ b.length
    · have ih := G167_eq R k0 m (b.drop 64) (acc ++ [b.take 64]) (by rw [List.length_drop]; omega) (by rw [List.length_drop, List.length_append]; simp; omega) (by rw [List.length_drop]; omega)
      have c1 : decide ((b.length : Int) ≥ 64) = true := by simp; omega
      have c2 : decide ((64 : Int) ≤ (b.length : Int)) = true := by simp; omega
      have c3 : decide (acc.length + [b.take 64].length ≤ 2199023255552) = true := by simp; omega
      have c4 : decide (0 ≤ (64 : Int) ∧ (64 : Int) ≤ (b.length : Int) ∧ (b.length : Int) ≤ (b.length : Int) ∧ (b.length : Int) ≤ (b.length : Int)) = true := by simp; omega
      have e1 : List.take (Int.toNat ((b.length : Int) - 64)) (List.drop 64 b) = List.drop 64 b := List.take_of_length_le (by rw [List.length_drop]; omega)
      simp only [c1, c2, c3, c4, e1]
      rw [ih, blkS_step h6, tailS_step h6, List.append_assoc]
      rfl
    · have c1 : decide ((b.length : Int) ≥ 64) = false := by simp; omega
      simp only [c1]
      rw [blkS_end (by omega), tailS_end (by omega), List.append_nil]

theorem F167_eq (R : Type) {b : List Int} (h : b.length ≤ 1000000000) (k : List (List Int) → List Int → Option R) : F167 R b k = k (blkS b) (tailS b) := by
  simp only [F167, p167]
  refine (G167_eq R (fun x1 x2 => k x2 x1) FUEL b [] (by rw [FUEL_eq]; omega) (by simp; omega) (by omega)).trans ?_
  rw [List.nil_append]
end Go.PG
namespace Go.PG
/-! The writer. -/
abbrev Wr := List Int × List Int × Int × Unit
def foldB (st : List Int) (bs : List (List Int)) : List Int := bs.foldl takeS st

theorem blkS_ok : ∀ (n : Nat) (b : List Int), b.length ≤ n → AllU8 b → (∀ x ∈ blkS b, x.length = 64 ∧ AllU8 x) ∧ AllU8 (tailS b)
  | 0, b, h, h8 => by
    rw [blkS_end (by omega), tailS_end (by omega)]
    exact ⟨fun x hx => (by cases hx), h8⟩
  | n + 1, b, h, h8 => by
    by_cases h6 : 64 ≤ b.length
    · have ih := blkS_ok n (b.drop 64) (by rw [List.length_drop]; omega) (fun x hx => h8 x (List.mem_of_mem_drop hx))
      rw [blkS_step h6, tailS_step h6]
      refine ⟨fun x hx => ?_, ih.2⟩
      rcases List.mem_cons.1 hx with rfl | hx
      · exact ⟨by rw [List.length_take]; omega, fun y hy => h8 y (List.mem_of_mem_take hy)⟩
      · exact ih.1 x hx
    · rw [blkS_end (by omega), tailS_end (by omega)]
      exact ⟨fun x hx => (by cases hx), h8⟩

theorem foldB_ok : ∀ (bs : List (List Int)) {st : List Int}, st.length = 8 → AllU32 st → (foldB st bs).length = 8 ∧ AllU32 (foldB st bs)
  | [], st, h1, h2 => ⟨h1, h2⟩
  | b :: bs, st, h1, h2 => by
    have ok := takeS_ok b h1 h2
    exact foldB_ok bs ok.1 ok.2

theorem G157_eq (R : Type) (rest : List Int) (bs : List (List Int)) (hb : ∀ x ∈ bs, x.length = 64 ∧ AllU8 x) (hn : bs.length ≤ 1000000000) (u : List Int × Int × Unit) (k0 : List Int → (Wr × Unit) → Option R) :
    ∀ (m i : Nat) (st : List Int), i ≤ bs.length → bs.length - i < m → st.length = 8 → AllU32 st → G157_3 m R rest bs (bs.length : Int) (i : Int) ((st, u), ()) k0 = k0 rest ((foldB st (bs.drop i), u), ())
  | 0, i, st, _, h, _, _ => by omega
  | m + 1, i, st, h1, h2, hl, hu => by
    simp only [G157_3, p157_3]
    by_cases hi : i < bs.length
    · have hd : decide ((i : Int) < (bs.length : Int)) = true := by simpa using hi
      have hbn : bnd (i : Int) (bs.length : Int) = true := by unfold bnd; simp; omega
      have hx := hb bs[i] (List.getElem_mem hi)
      have hg : List.getD bs i (List.replicate 64 0) = bs[i] := by simp [hi]
      simp only [hd, hbn, Int.toNat_natCast, hg]
      rw [F168_eq R hl hu hx.1 hx.2, wrap_i64 (by omega) (by omega)]
      have ok := takeS_ok bs[i] hl hu
      have ih := G157_eq R rest bs hb hn u k0 m (i + 1) (takeS st bs[i]) (by omega) (by omega) ok.1 ok.2
      rw [List.drop_eq_getElem_cons hi]
      exact ih
    · have : i = bs.length := by omega
      subst this
      have hd : decide ((bs.length : Int) < (bs.length : Int)) = false := by simp
      simp only [hd]
      rw [List.drop_of_length_le (Nat.le_refl _)]
      rfl

theorem F157_eq (R : Type) {st : List Int} (u : List Int × Int × Unit) {b : List Int} (hl : st.length = 8) (hu : AllU32 st) (h8 : AllU8 b) (hn : b.length ≤ 1000000000) (k : List Int → (Wr × Unit) → Option R) :
    F157 R ((st, u), ()) b k = k (tailS b) ((foldB st (blkS b), u), ()) := by
  simp only [F157, p157]
  rw [F167_eq R hn]
  have ok := blkS_ok b.length b (Nat.le_refl _) h8
  have hlen := (tailS_len b.length b (Nat.le_refl _)).2
  exact G157_eq R (tailS b) (blkS b) ok.1 (by omega) u (fun x4 x5 => k x4 x5) FUEL 0 st (by omega) (by rw [FUEL_eq]; omega) hl hu

theorem F154_eq (R : Type) {st rest part : List Int} {n : Nat} (hl : st.length = 8) (hu : AllU32 st) (hr : AllU8 rest) (hp : AllU8 part) (hlen : rest.length + part.length ≤ 1000000000) (hn : n + part.length ≤ 1000000000) (k : (Wr × Unit) → Option R) :
    F154 R ((st, rest, (n : Int), ()), ()) part k = k ((foldB st (blkS (rest ++ part)), tailS (rest ++ part), ((n + part.length : Nat) : Int), ()), ()) := by
  simp only [F154, p154, F165]
  rw [wrap_u64 (n := (part.length : Int)) (by omega) (by omega), wrap_u64 (by omega) (by omega)]
  have c1 : decide (([] : List Int).length + rest.length ≤ 140737488355328) = true := by simp; omega
  have c2 : decide (rest.length + part.length ≤ 140737488355328) = true := by simp; omega
  simp only [c1, c2]
  have h8 : AllU8 (rest ++ part) := fun x hx => by
    rcases List.mem_append.1 hx with h | h
    · exact hr x h
    · exact hp x h
  rw [F157_eq R _ hl hu h8 (by rw [List.length_append]; omega)]
  congr 1

def wrS (st m : List Int) : Wr := (foldB st (blkS m), tailS m, (m.length : Int), ())
theorem AllU8.append {a b : List Int} (ha : AllU8 a) (hb : AllU8 b) : AllU8 (a ++ b) := fun x hx => by
  rcases List.mem_append.1 hx with h | h
  · exact ha x h
  · exact hb x h
theorem wrS_append (st m p : List Int) : foldB (foldB st (blkS m)) (blkS (tailS m ++ p)) = foldB st (blkS (m ++ p)) ∧ tailS (tailS m ++ p) = tailS (m ++ p) := by
  obtain ⟨h1, h2⟩ := blk_append m.length m p (Nat.le_refl _)
  rw [h1, h2]
  refine ⟨?_, rfl⟩
  unfold foldB
  rw [List.foldl_append]

theorem G141_eq (R : Type) {st : List Int} (hl : st.length = 8) (hu : AllU32 st) (x4 : Wr) (k0 : Int → Wr → Option R) (k1 : Wr → (Wr × Unit) → Option R) : ∀ (n : Nat) (ps done : List (List Int)) (m : List Int), m = done.flatten → AllU8 m → (∀ p ∈ ps, AllU8 p) →
    m.length + ps.flatten.length ≤ 500000000 → (done ++ ps).length ≤ 1000000000 → ps.length < n → G141_5 n R (done ++ ps) ((done ++ ps).length : Int) (done.length : Int) x4 (wrS st m, ()) k0 k1 = k1 x4 (wrS st (m ++ ps.flatten), ())
  | 0, ps, done, m, _, _, _, _, _, h => by omega
  | n + 1, [], done, m, hm, h8, hps, hlen, hnum, h => by
    simp only [G141_5, p141_5]
    have hd : decide ((done.length : Int) < ((done ++ []).length : Int)) = false := by simp
    simp only [hd]
    simp
  | n + 1, p :: ps, done, m, hm, h8, hps, hlen, hnum, h => by
    simp only [G141_5, p141_5]
    have hlt : done.length < (done ++ p :: ps).length := by simp
    have hd : decide ((done.length : Int) < ((done ++ p :: ps).length : Int)) = true := by simp; omega
    have hbn : bnd (done.length : Int) ((done ++ p :: ps).length : Int) = true := by unfold bnd; simp; omega
    have hg : List.getD (done ++ p :: ps) done.length [] = p := by simp
    have hp8 := hps p (by simp)
    have hfl : (p :: ps).flatten = p ++ ps.flatten := by simp
    rw [hfl, List.length_append] at hlen
    have ok := foldB_ok (blkS m) hl hu
    have ok2 := blkS_ok m.length m (Nat.le_refl _) h8
    have tl := (tailS_len m.length m (Nat.le_refl _)).1
    simp only [hd, hbn, Int.toNat_natCast, hg]
    unfold wrS
    rw [F154_eq R ok.1 ok.2 ok2.2 hp8 (by omega) (by omega)]
    obtain ⟨a1, a2⟩ := wrS_append st m p
    rw [a1, a2, ← List.length_append]
    have hb : decide (((m ++ p).length : Int) ≥ 2305843009213693952) = false := by simp; omega
    simp only [hb]
    rw [wrap_i64 (by omega) (by simp at hnum; omega)]
    have ih := G141_eq R hl hu x4 k0 k1 n ps (done ++ [p]) (m ++ p) (by rw [hm]; simp) (h8.append hp8) (fun q hq => hps q (by simp [hq])) (by rw [List.length_append]; omega) (by simpa using hnum) (by simp at h; omega)
    unfold wrS at ih
    rw [hfl, ← List.append_assoc]
    have e1 : done ++ [p] ++ ps = done ++ p :: ps := by simp
    have e2 : (((done ++ [p]).length : Nat) : Int) = (done.length : Int) + 1 := by simp
    rw [e1, e2] at ih
    exact ih

theorem F141_eq (R : Type) {st : List Int} (hl : st.length = 8) (hu : AllU32 st) {ps : List (List Int)} (h8 : ∀ p ∈ ps, AllU8 p) (hlen : ps.flatten.length ≤ 500000000) (hnum : ps.length ≤ 1000000000) (k : Wr → Int → Option R) :
    F141 R (st, [], (0 : Int), ()) ps k = k (wrS st ps.flatten) 0 := by
  have hr : F153 R (st, [], (0 : Int), ()) = fun k => k true := by
    funext k
    simp only [F153, p153]
    rfl
  simp only [F141, p141]
  rw [hr]
  have := G141_eq R hl hu (List.replicate 8 0, [], 0, ()) (fun x3 x4 => k x4 x3) (fun _ x6 => k x6.1 0) FUEL ps [] [] rfl (fun x hx => by cases hx) h8 (by simpa using hlen) (by simpa using hnum) (by rw [FUEL_eq]; omega)
  rw [List.nil_append] at this
  refine Eq.trans ?_ this
  unfold wrS
  rw [blkS_end (by simp), tailS_end (by simp)]
  rfl
end Go.PG
namespace Go.PG
/-! Eight bytes of a number. -/
def putS (x : Int) : List Int := [x / 72057594037927936 % 256, x / 281474976710656 % 256, x / 1099511627776 % 256, x / 4294967296 % 256, x / 16777216 % 256, x / 65536 % 256, x / 256 % 256, x % 256]
theorem shr64 {x : Int} (r : Nat) (hr : r ≤ 64) : ishr .u64 x (r : Int) = x / 2 ^ r := by
  unfold ishr
  rw [show IntKind.u64.bits = 64 from rfl, show ((r : Int).toNat) = r by simp, Nat.min_eq_left hr, Int.fdiv_eq_ediv_of_nonneg _ (by have := two_pow_pos r; omega)]
theorem G126_eq (R : Type) (x : Int) (k0 : List Int → Option R) : ∀ (m i : Nat) (l : List Int), i ≤ 8 → 8 - i < m → G126_2 m R x (i : Int) l k0 = k0 ((List.range' i (8 - i)).foldl (fun l i => l.set i (x / 2 ^ (8 * (7 - i)) % 256)) l)
  | 0, i, l, _, h => by omega
  | m + 1, i, l, h1, h2 => by
    simp only [G126_2, p126_2]
    by_cases hi : i < 8
    · have ih := G126_eq R x k0 m (i + 1) (l.set i (x / 2 ^ (8 * (7 - i)) % 256)) (by omega) (by omega)
      rw [range'_step hi, List.foldl_cons, ← ih]
      have hd : decide ((i : Int) < 8) = true := by simp; omega
      have hbn : bnd (i : Int) 8 = true := by unfold bnd; simp; omega
      rw [wrap_i64 (n := 7 - (i : Int)) (by omega) (by omega), wrap_i64 (n := 8 * (7 - (i : Int))) (by omega) (by omega), wrap_u64 (n := 8 * (7 - (i : Int))) (by omega) (by omega), wrap_i64 (n := (i : Int) + 1) (by omega) (by omega)]
      have e1 : 8 * (7 - (i : Int)) = ((8 * (7 - i) : Nat) : Int) := by omega
      have hp : decide ((0 : Int) ≤ ((8 * (7 - i) : Nat) : Int)) = true := decide_eq_true (by omega)
      rw [e1, shr64 _ (by omega), wrap_u8_mod]
      simp only [hd, hbn, hp, Int.toNat_natCast]
      rfl
    · have : i = 8 := by omega
      subst this
      rfl
theorem F126_eq (R : Type) (x : Int) (k : List Int → Option R) : F126 R x k = k (putS x) := by
  simp only [F126, p126]
  refine (G126_eq R x (fun x1 => k x1) FUEL 0 (List.replicate 8 0) (by omega) (by rw [FUEL_eq]; omega)).trans ?_
  congr 1
  simp [List.range'_succ, putS, List.replicate]

theorem G96_eq (R : Type) {x : Int} (hx : 0 ≤ x ∧ x < 18446744073709551616) (x3 : List Int) (k0 : List Int → List Int → Option R) : ∀ (i m : Nat) (l : List Int), i ≤ 8 → i < m → G96_3 m R (x / 2 ^ (8 * (8 - i))) ((i : Int) - 1) x3 l k0 = k0 x3 ((List.range i).reverse.foldl (fun l j => l.set j (x / 2 ^ (8 * (7 - j)) % 256)) l)
  | i, 0, l, _, h => by omega
  | 0, m + 1, l, h1, h2 => by
    simp only [G96_3, p96_3]
    have hd : decide (((0 : Nat) : Int) - 1 ≥ 0) = false := by simp
    simp only [hd]
    rfl
  | i + 1, m + 1, l, h1, h2 => by
    simp only [G96_3, p96_3]
    have ih := G96_eq R hx x3 k0 i m (l.set i (x / 2 ^ (8 * (7 - i)) % 256)) (by omega) (by omega)
    rw [List.range_succ, List.reverse_append, List.reverse_singleton, List.singleton_append, List.foldl_cons, ← ih]
    have e0 : (((i + 1 : Nat) : Int) - 1) = (i : Int) := by omega
    rw [e0]
    have hd : decide ((i : Int) ≥ 0) = true := by simp
    have hbn : bnd (i : Int) 8 = true := by unfold bnd; simp; omega
    have e1 : 8 - (i + 1) = 7 - i := by omega
    rw [e1]
    have hp := two_pow_pos (8 * (7 - i))
    have hge : 0 ≤ x / 2 ^ (8 * (7 - i)) := Int.ediv_nonneg hx.1 (by omega)
    have hle : x / 2 ^ (8 * (7 - i)) ≤ x := Int.ediv_le_self _ hx.1
    have hstep : x / 2 ^ (8 * (8 - i)) = x / 2 ^ (8 * (7 - i)) / 256 := by
      rw [show 8 * (8 - i) = 8 * (7 - i) + 8 by omega, Int.pow_add, ← Int.ediv_ediv_of_nonneg (by omega)]
      rfl
    rw [hstep]
    generalize x / 2 ^ (8 * (7 - i)) = q at *
    rw [Int.tmod_eq_emod_of_nonneg hge, Int.tdiv_eq_ediv_of_nonneg hge, wrap_u8 (by omega) (by omega), wrap_u64 (by omega) (by omega), wrap_i64 (by omega) (by omega)]
    simp only [hd, hbn, Int.toNat_natCast]
theorem F96_eq (R : Type) {x : Int} (hx : 0 ≤ x ∧ x < 18446744073709551616) (k : List Int → Option R) : F96 R x k = k (putS x) := by
  simp only [F96, p96]
  have := G96_eq R hx (List.replicate 8 0) (fun _ x2 => k x2) 8 FUEL (List.replicate 8 0) (by omega) (by rw [FUEL_eq]; omega)
  rw [show x / 2 ^ (8 * (8 - 8)) = x by simp] at this
  refine Eq.trans this ?_
  congr 1
  simp [List.range_succ, putS, List.replicate]
end Go.PG
namespace Go.PG
/-! The padding. -/
/-- What is laid behind n bytes of which the last r ones are at hand. -/
def zerosN (n : Nat) : Nat := (119 - n % 64) % 64
def padT (rest : List Int) (n : Nat) : List Int := rest ++ 128 :: (List.replicate (zerosN n) 0 ++ putS (8 * (n : Int)))

theorem G144_4_eq (R : Type) (x : Int) (k0 : Int → List Int → Option R) : ∀ (z m : Nat) (l : List Int), z < 64 → (l.length + z) % 64 = 56 → (∀ y, y < z → (l.length + y) % 64 ≠ 56) → z < m → l.length + z ≤ 100000 → G144_4 m R x l k0 = k0 x (l ++ List.replicate z 0)
  | z, 0, l, _, _, _, h, _ => by omega
  | 0, m + 1, l, h1, h2, _, h3, h4 => by
    simp only [G144_4, p144_4]
    have hm : Int.tmod (l.length : Int) 64 = 56 := by rw [Int.tmod_eq_emod_of_nonneg (by omega)]; omega
    rw [hm]
    have : ((56 : Int) != 56) = false := by simp
    simp only [this]
    simp
  | z + 1, m + 1, l, h1, h2, h5, h3, h4 => by
    simp only [G144_4, p144_4]
    have hne : (Int.tmod (l.length : Int) 64 != 56) = true := by
      rw [Int.tmod_eq_emod_of_nonneg (by omega)]
      have := h5 0 (by omega)
      simp; omega
    have hc : decide (l.length + [(0 : Int)].length ≤ 140737488355328) = true := by simp; omega
    have ih := G144_4_eq R x k0 z m (l ++ [0]) (by omega) (by rw [List.length_append]; simp; omega) (fun y hy => by rw [List.length_append]; have := h5 (y + 1) (by omega); simp; omega) (by omega) (by rw [List.length_append]; simp; omega)
    simp only [hne, hc]
    rw [ih, List.append_assoc]
    rfl

theorem G144_8_eq (R : Type) (ds : List Int) (k0 : List Int → Option R) : ∀ (m i : Nat) (l : List Int), i ≤ 8 → 8 - i < m → ds.length = 8 → l.length ≤ 100000 + i → G144_8 m R (i : Int) l ds k0 = k0 (l ++ ds.drop i)
  | 0, i, l, _, h, _, _ => by omega
  | m + 1, i, l, h1, h2, hd8, hl => by
    simp only [G144_8, p144_8]
    by_cases hi : i < 8
    · have hd : decide ((i : Int) < 8) = true := by simp; omega
      have hbn : bnd (i : Int) 8 = true := by unfold bnd; simp; omega
      have hg : List.getD ds i 0 = ds[i] := by simp [show i < ds.length by omega]
      have hc : decide (l.length + [ds[i]].length ≤ 140737488355328) = true := by simp; omega
      have ih := G144_8_eq R ds k0 m (i + 1) (l ++ [ds[i]]) (by omega) (by omega) hd8 (by rw [List.length_append]; simp; omega)
      simp only [hd, hbn, Int.toNat_natCast, hg, hc]
      rw [wrap_i64 (by omega) (by omega), List.drop_eq_getElem_cons (show i < ds.length by omega)]
      rw [List.append_assoc] at ih
      exact ih
    · have : i = 8 := by omega
      subst this
      have hd : decide (((8 : Nat) : Int) < 8) = false := by simp
      simp only [hd]
      rw [List.drop_of_length_le (by omega), List.append_nil]

theorem F144_eq (R : Type) {rest : List Int} {n : Nat} (hr : rest.length = n % 64) (hn : n ≤ 1000000000) (k : List Int → Bool → Option R) : F144 R rest (n : Int) k = k (padT rest n) true := by
  simp only [F144, p144]
  have c0 : decide ((n : Int) ≥ 2305843009213693952) = false := by simp; omega
  have c1 : (IntKind.u64.wrap (rest.length : Int) != Int.tmod (n : Int) 64) = false := by
    rw [wrap_u64 (by omega) (by omega), Int.tmod_eq_emod_of_nonneg (by omega)]
    simp; omega
  have c2 : decide (([] : List Int).length + rest.length ≤ 140737488355328) = true := by simp; omega
  have c3 : decide (([] ++ rest).length + [(128 : Int)].length ≤ 140737488355328) = true := by simp; omega
  simp only [c0, c1, c2, c3]
  have g := G144_4_eq R (n : Int) (fun x10 x11 => F96 R (IntKind.u64.wrap (8 * x10)) fun y13 => G144_8 FUEL R 0 x11 y13 fun x14 => k x14 true) (zerosN n) FUEL ([] ++ rest ++ [128]) (by unfold zerosN; omega) (by simp; unfold zerosN; omega) (fun y hy => by simp; unfold zerosN at hy; omega) (by rw [FUEL_eq]; unfold zerosN; omega) (by simp; unfold zerosN; omega)
  refine g.trans ?_
  rw [wrap_u64 (by omega) (by omega), F96_eq R (by omega)]
  refine (G144_8_eq R (putS (8 * (n : Int))) (fun x14 => k x14 true) FUEL 0 _ (by omega) (by rw [FUEL_eq]; omega) rfl (by simp; unfold zerosN; omega)).trans ?_
  congr 1
  simp [padT]

theorem F166_eq (R : Type) {n : Nat} (hn : n ≤ 1000000000) (k : Int → Option R) : F166 R (n : Int) k = k (((n + 72) / 64 : Nat) : Int) := by
  simp only [F166, p166]
  have c0 : decide ((n : Int) ≥ 2305843009213693952) = false := by simp; omega
  simp only [c0]
  rw [wrap_u64 (n := (n : Int) + 8) (by omega) (by omega), wrap_u64 (n := (n : Int) + 8 + 64) (by omega) (by omega), Int.tdiv_eq_ediv_of_nonneg (by omega), wrap_u64 (by omega) (by omega)]
  congr 1

theorem lay_mid {a b c xs : List Int} (h : xs.length = b.length) : lay (a ++ b ++ c) a.length xs = a ++ xs ++ c := by
  unfold lay
  have e1 : List.take a.length (a ++ b ++ c) = a := by rw [List.append_assoc, List.take_left]
  have e2 : List.drop (a.length + xs.length) (a ++ b ++ c) = c := by
    rw [h, show a.length + b.length = (a ++ b).length by simp, List.drop_left]
  rw [e1, e2]

theorem F156_eq (R : Type) {rest : List Int} {n : Nat} (hr : rest.length = n % 64) (hn : n ≤ 1000000000) (k : List Int → Bool → Option R) : F156 R rest (n : Int) k = k (padT rest n) true := by
  simp only [F156, p156]
  have c0 : decide ((n : Int) ≥ 2305843009213693952) = false := by simp; omega
  have c1 : (IntKind.u64.wrap (rest.length : Int) != Int.tmod (n : Int) 64) = false := by
    rw [wrap_u64 (by omega) (by omega), Int.tmod_eq_emod_of_nonneg (by omega)]
    simp; omega
  simp only [c0, c1]
  rw [F166_eq R hn, Int.tdiv_eq_ediv_of_nonneg (by omega), wrap_u64 (n := (n : Int) / 64) (by omega) (by omega), wrap_u64 (by omega) (by omega), wrap_i64 (n := (((n + 72) / 64 : Nat) : Int) - (n : Int) / 64) (by omega) (by omega), wrap_i64 (n := _ * 64) (by omega) (by omega)]
  obtain ⟨sz, hsz⟩ : ∃ sz : Nat, ((((n + 72) / 64 : Nat) : Int) - (n : Int) / 64) * 64 = sz := ⟨((n + 72) / 64 - n / 64) * 64, by omega⟩
  have hz : sz = rest.length + 1 + zerosN n + 8 := by unfold zerosN; omega
  rw [hsz]
  have l1 : lay (List.replicate sz (0 : Int)) 0 (List.take (List.replicate sz (0 : Int)).length rest) = rest ++ List.replicate (1 + zerosN n + 8) 0 := by
    unfold lay
    rw [List.take_of_length_le (l := rest) (by simp; omega)]
    simp
    omega
  have l2 : List.set (rest ++ List.replicate (1 + zerosN n + 8) 0) rest.length 128 = (rest ++ 128 :: List.replicate (zerosN n) 0) ++ List.replicate 8 0 ++ [] := by
    rw [List.set_append_right _ _ (Nat.le_refl _), Nat.sub_self, show 1 + zerosN n + 8 = (zerosN n + 8) + 1 by omega, List.replicate_succ, List.set_cons_zero, ← List.replicate_append_replicate]
    simp
  have sh : ishl .u64 (n : Int) 3 = 8 * (n : Int) := by
    unfold ishl
    rw [show (2 : Int) ^ (min (3 : Int).toNat IntKind.u64.bits) = 8 by decide, wrap_u64 (by omega) (by omega)]
    omega
  have hl3 : ((rest ++ 128 :: List.replicate (zerosN n) 0) ++ List.replicate 8 (0 : Int) ++ []).length = sz := by simp; omega
  have d1 : decide (0 ≤ (sz : Int) ∧ (sz : Int) ≤ (sz : Int) ∧ (sz : Int) ≤ 140737488355328) = true := decide_eq_true (by omega)
  have d2 : bnd (rest.length : Int) ((rest ++ List.replicate (1 + zerosN n + 8) (0 : Int)).length : Int) = true := by unfold bnd; simp; omega
  have d3 : decide (0 ≤ (sz : Int) - 8 ∧ (sz : Int) - 8 ≤ (sz : Int) ∧ (sz : Int) ≤ (sz : Int) ∧ (sz : Int) ≤ (sz : Int)) = true := decide_eq_true (by omega)
  have e8 : ((sz : Int) - 8).toNat = (rest ++ 128 :: List.replicate (zerosN n) 0).length := by simp; omega
  have e9 : List.take ((sz : Int) - ((sz : Int) - 8)).toNat (List.take 8 (List.drop 0 (putS (8 * (n : Int))))) = putS (8 * (n : Int)) := by
    rw [show ((sz : Int) - ((sz : Int) - 8)).toNat = 8 by omega]; rfl
  simp only [d1, Int.toNat_natCast, l1, d2, l2, sh]
  rw [F126_eq, wrap_i64 (by omega) (by omega)]
  simp only [hl3, d3, e9, e8]
  rw [lay_mid (by rfl)]
  congr 1
  simp [padT]
end Go.PG
namespace Go.PG
/-! Four bytes of a word; the hash's bytes. -/
def put32S (a : Int) : List Int := [a / 16777216 % 256, a / 65536 % 256, a / 256 % 256, a % 256]
theorem F169_eq (R : Type) {a : Int} (ha : U32 a) (k : List Int → Option R) : F169 R a k = k (put32S a) := by
  have e24 : ishr .u32 a 24 = a / 16777216 := shr_eq ha (r := 24) (by omega)
  have e16 : ishr .u32 a 16 = a / 65536 := shr_eq ha (r := 16) (by omega)
  have e8 : ishr .u32 a 8 = a / 256 := shr_eq ha (r := 8) (by omega)
  simp only [F169, p169, e24, e16, e8, wrap_u8_mod]
  rfl
theorem F145_eq (R : Type) {a : Int} (ha : U32 a) (k : List Int → Option R) : F145 R a k = k (put32S a) := by
  have h := ha
  unfold U32 at h
  simp only [F145, p145]
  rw [Int.tdiv_eq_ediv_of_nonneg h.1, Int.tdiv_eq_ediv_of_nonneg h.1, Int.tdiv_eq_ediv_of_nonneg h.1, wrap_u32 (n := a / 16777216) (by omega) (by omega), wrap_u32 (n := a / 65536) (by omega) (by omega), wrap_u32 (n := a / 256) (by omega) (by omega)]
  rw [Int.tmod_eq_emod_of_nonneg (a := a / 65536) (by omega), Int.tmod_eq_emod_of_nonneg (a := a / 256) (by omega), Int.tmod_eq_emod_of_nonneg h.1]
  simp only [wrap_u8_mod, Int.emod_emod]
  rfl

theorem G124_eq (R : Type) (bs : List (List Int)) (hb : ∀ x ∈ bs, x.length = 64 ∧ AllU8 x) (hn : bs.length ≤ 1000000000) (x4 : List Int) (k0 : List Int → List Int → Option R) :
    ∀ (m i : Nat) (st : List Int), i ≤ bs.length → bs.length - i < m → st.length = 8 → AllU32 st → G124_2 m R bs (i : Int) st x4 k0 = k0 (foldB st (bs.drop i)) x4
  | 0, i, st, _, h, _, _ => by omega
  | m + 1, i, st, h1, h2, hl, hu => by
    simp only [G124_2, p124_2]
    by_cases hi : i < bs.length
    · have hd : decide ((i : Int) < (bs.length : Int)) = true := by simpa using hi
      have hbn : bnd (i : Int) (bs.length : Int) = true := by unfold bnd; simp; omega
      have hx := hb bs[i] (List.getElem_mem hi)
      have hg : List.getD bs i (List.replicate 64 0) = bs[i] := by simp [hi]
      simp only [hd, hbn, Int.toNat_natCast, hg]
      rw [F146_eq R hl hu hx.1 hx.2, wrap_i64 (by omega) (by omega)]
      have ok := takeS_ok bs[i] hl hu
      have ih := G124_eq R bs hb hn x4 k0 m (i + 1) (takeS st bs[i]) (by omega) (by omega) ok.1 ok.2
      rw [List.drop_eq_getElem_cons hi]
      exact ih
    · have : i = bs.length := by omega
      subst this
      have hd : decide ((bs.length : Int) < (bs.length : Int)) = false := by simp
      simp only [hd]
      rw [List.drop_of_length_le (Nat.le_refl _)]
      rfl
theorem F124_eq (R : Type) {st : List Int} {bs : List (List Int)} (hl : st.length = 8) (hu : AllU32 st) (hb : ∀ x ∈ bs, x.length = 64 ∧ AllU8 x) (hn : bs.length ≤ 1000000000) (k : List Int → Option R) : F124 R st bs k = k (foldB st bs) := by
  simp only [F124, p124]
  exact G124_eq R bs hb hn (List.replicate 8 0) (fun x1 _ => k x1) FUEL 0 st (by omega) (by rw [FUEL_eq]; omega) hl hu

def H0 : List Int := [1779033703, 3144134277, 1013904242, 2773480762, 1359893119, 2600822924, 528734635, 1541459225]
theorem F155_eq (R : Type) (k : List Int → Option R) : F155 R k = k H0 := by kernel_rfl
theorem F125_eq (R : Type) (k : List Int → Option R) : F125 R k = k H0 := by kernel_rfl
theorem F142_eq (R : Type) (k : Wr → Option R) : F142 R k = k (H0, [], 0, ()) := by kernel_rfl
theorem H0_ok : H0.length = 8 ∧ AllU32 H0 := ⟨rfl, fun x hx => by
  simp only [H0, List.mem_cons, List.not_mem_nil, or_false] at hx
  unfold U32
  omega⟩

def layStep (st l : List Int) (i : Nat) : List Int := lay l (4 * i) (put32S (st.getD i 0))
theorem lay_len {l xs : List Int} {lo : Nat} (h : lo + xs.length ≤ l.length) : (lay l lo xs).length = l.length := by
  unfold lay; simp; omega
theorem G158_eq (R : Type) {st : List Int} (hu : AllU32 st) (w : Wr × Unit) (k0 : (Wr × Unit) → List Int → Option R) : ∀ (m i : Nat) (l : List Int), i ≤ 8 → 8 - i < m → G158_2 m R st (i : Int) w l k0 = k0 w ((List.range' i (8 - i)).foldl (layStep st) l)
  | 0, i, l, _, h => by omega
  | m + 1, i, l, h1, h2 => by
    simp only [G158_2, p158_2]
    by_cases hi : i < 8
    · have ih := G158_eq R hu w k0 m (i + 1) (layStep st l i) (by omega) (by omega)
      rw [range'_step hi, List.foldl_cons, ← ih]
      have hd : decide ((i : Int) < 8) = true := by simp; omega
      have hbn : bnd (i : Int) 8 = true := by unfold bnd; simp; omega
      rw [wrap_i64 (n := 4 * (i : Int)) (by omega) (by omega), wrap_i64 (n := (i : Int) + 1) (by omega) (by omega)]
      have c : decide (0 ≤ 4 * (i : Int) ∧ 4 * (i : Int) ≤ 32 ∧ (32 : Int) ≤ 32) = true := decide_eq_true (by omega)
      have e1 : (4 * (i : Int)).toNat = 4 * i := by omega
      have e2 : ∀ a, List.take (Int.toNat (32 - 4 * (i : Int))) (List.take 4 (List.drop 0 (put32S a))) = put32S a := fun a => by
        rw [List.take_of_length_le (l := List.take 4 (List.drop 0 (put32S a))) (by simp [put32S]; omega)]
        rfl
      simp only [hd, hbn, c, Int.toNat_natCast]
      rw [F169_eq R (getD_all hu u32_0 _)]
      simp only [c, e1, e2]
      rfl
    · have : i = 8 := by omega
      subst this
      rfl
end Go.PG
namespace Go.PG
/-! The document's cutting. -/
theorem G121_6_eq (R : Type) {b : List Int} {o : Nat} (ho : o + 64 ≤ b.length) (hb : b.length ≤ 1000000000) (acc : List (List Int)) (k0 : List Int → Int → List (List Int) → List Int → Option R) : ∀ (m i : Nat), i ≤ 64 → 64 - i < m →
    G121_6 m R b (o : Int) (i : Int) acc ((b.drop o).take i ++ List.replicate (64 - i) 0) k0 = k0 b (o : Int) acc ((b.drop o).take 64)
  | 0, i, _, h => by omega
  | m + 1, i, h1, h2 => by
    simp only [G121_6, p121_6]
    by_cases hi : i < 64
    · have ih := G121_6_eq R ho hb acc k0 m (i + 1) (by omega) (by omega)
      have hd : decide ((i : Int) < 64) = true := by simp; omega
      have hbn : bnd (i : Int) 64 = true := by unfold bnd; simp; omega
      have hb2 : bnd ((o : Int) + (i : Int)) (b.length : Int) = true := by unfold bnd; simp; omega
      have e1 : ((o : Int) + (i : Int)).toNat = o + i := by omega
      have hl : ((b.drop o).take i).length = i := by rw [List.length_take, List.length_drop]; omega
      have hs : List.set ((b.drop o).take i ++ List.replicate (64 - i) 0) i (List.getD b (o + i) 0) = (b.drop o).take (i + 1) ++ List.replicate (64 - (i + 1)) 0 := by
        rw [List.set_append_right _ _ (by omega), hl, Nat.sub_self, show 64 - i = (64 - (i + 1)) + 1 by omega, List.replicate_succ, List.set_cons_zero]
        rw [List.take_succ_eq_append_getElem (by rw [List.length_drop]; omega), List.append_assoc]
        simp [show o + i < b.length by omega]
      rw [wrap_i64 (n := (o : Int) + (i : Int)) (by omega) (by omega), wrap_i64 (n := (i : Int) + 1) (by omega) (by omega)]
      simp only [hd, hbn, hb2, e1, Int.toNat_natCast, hs]
      exact ih
    · have : i = 64 := by omega
      subst this
      have hd : decide (((64 : Nat) : Int) < 64) = false := by simp
      simp only [hd]
      simp

theorem G121_3_eq (R : Type) {b : List Int} (hb : b.length ≤ 1000000000) (k0 : List Int → Int → List (List Int) → Option R) : ∀ (m o : Nat) (acc : List (List Int)), o ≤ b.length → (b.length - o) / 64 < m → acc.length + (b.length - o) / 64 ≤ 1000000000 →
    ∃ o' : Nat, o' ≤ b.length ∧ b.drop o' = tailS (b.drop o) ∧ G121_3 m R b (o : Int) acc k0 = k0 b (o' : Int) (acc ++ blkS (b.drop o))
  | 0, o, acc, _, h, _ => by omega
  | m + 1, o, acc, h0, h1, h2 => by
    simp only [G121_3, p121_3]
    rw [wrap_i64 (n := (o : Int) + 64) (by omega) (by omega)]
    by_cases hi : o + 64 ≤ b.length
    · have hd : decide ((o : Int) + 64 ≤ (b.length : Int)) = true := by simp; omega
      obtain ⟨o', g1, g2, g3⟩ := G121_3_eq R hb k0 m (o + 64) (acc ++ [(b.drop o).take 64]) (by omega) (by omega) (by rw [List.length_append]; simp; omega)
      have hl : 64 ≤ (b.drop o).length := by rw [List.length_drop]; omega
      refine ⟨o', g1, ?_, ?_⟩
      · rw [g2, tailS_step hl, List.drop_drop]
      · have g := G121_6_eq R hi hb acc (fun x7 x8 x9 x10 => match decide (x9.length + [x10].length ≤ 2199023255552) with | true => G121_3 m R x7 (IntKind.i64.wrap (x8 + 64)) (x9 ++ [x10]) k0 | false => none) FUEL 0 (by omega) (by rw [FUEL_eq]; omega)
        have hc : decide (acc.length + [(b.drop o).take 64].length ≤ 2199023255552) = true := by simp; omega
        simp only [hd]
        refine Eq.trans ?_ (g.trans ?_)
        · rfl
        · simp only [hc]
          rw [wrap_i64 (by omega) (by omega), blkS_step hl, List.drop_drop]
          rw [List.append_assoc] at g3
          exact g3
    · have hd : decide ((o : Int) + 64 ≤ (b.length : Int)) = false := by simp; omega
      simp only [hd]
      have hl : (b.drop o).length < 64 := by rw [List.length_drop]; omega
      exact ⟨o, h0, by rw [tailS_end hl], by rw [blkS_end hl, List.append_nil]⟩

theorem F121_eq (R : Type) {b : List Int} (hb : b.length ≤ 1000000000) (k : List (List Int) → List Int → Option R) : F121 R b k = k (blkS b) (tailS b) := by
  simp only [F121, p121]
  obtain ⟨o', g1, g2, g3⟩ := G121_3_eq R hb (fun x1 x2 x3 => match decide (0 ≤ x2 ∧ x2 ≤ (x1.length : Int) ∧ (x1.length : Int) ≤ (x1.length : Int) ∧ (x1.length : Int) ≤ (x1.length : Int)) with | true => k x3 (List.take (Int.toNat ((x1.length : Int) - x2)) (List.drop (Int.toNat x2) x1)) | false => none) FUEL 0 [] (by omega) (by rw [FUEL_eq]; omega) (by simp; omega)
  refine g3.trans ?_
  have c : decide (0 ≤ (o' : Int) ∧ (o' : Int) ≤ (b.length : Int) ∧ (b.length : Int) ≤ (b.length : Int) ∧ (b.length : Int) ≤ (b.length : Int)) = true := decide_eq_true (by omega)
  simp only [c, Int.toNat_natCast]
  rw [List.take_of_length_le (by rw [List.length_drop]; omega), g2]
  rfl

def padM (m : List Int) : List Int := m ++ 128 :: (List.replicate (zerosN m.length) 0 ++ putS (8 * (m.length : Int)))
theorem F122_eq (R : Type) {m : List Int} (hm : m.length ≤ 500000000) (k : List Int → Option R) : F122 R m k = k (padM m) := by
  simp only [F122, p122]
  rw [Int.tmod_eq_emod_of_nonneg (by omega), wrap_i64 (by omega) (by omega), wrap_u64 (n := (m.length : Int)) (by omega) (by omega)]
  obtain ⟨q, hq⟩ : ∃ q : Nat, (m.length : Int) - (m.length : Int) % 64 = q := ⟨m.length - m.length % 64, by omega⟩
  have hq' : q = m.length - m.length % 64 := by omega
  rw [hq]
  have c1 : decide (0 ≤ (q : Int) ∧ (q : Int) ≤ (m.length : Int) ∧ (m.length : Int) ≤ (m.length : Int) ∧ (m.length : Int) ≤ (m.length : Int)) = true := decide_eq_true (by omega)
  have c2 : decide (0 ≤ (0 : Int) ∧ (0 : Int) ≤ (q : Int) ∧ (q : Int) ≤ (q : Int) ∧ (q : Int) ≤ (m.length : Int)) = true := decide_eq_true (by omega)
  have e1 : List.take (Int.toNat ((m.length : Int) - (q : Int))) (List.drop q m) = List.drop q m := List.take_of_length_le (by rw [List.length_drop]; omega)
  have e2 : List.take (Int.toNat ((q : Int) - 0)) (List.drop 0 m) = List.take q m := by simp
  simp only [c1, Int.toNat_natCast, e1]
  rw [F144_eq R (by rw [List.length_drop]; omega) (by omega)]
  have c3 : decide (([] : List Int).length + (List.take q m).length ≤ 140737488355328) = true := decide_eq_true (by simp; omega)
  have c4 : decide (([] ++ List.take q m).length + (padT (List.drop q m) m.length).length ≤ 140737488355328) = true := decide_eq_true (by simp [padT, putS]; unfold zerosN; omega)
  simp only [c2, e2, c3, c4]
  congr 1
  simp only [padT, padM, List.nil_append]
  rw [← List.append_assoc, List.take_append_drop]
end Go.PG
namespace Go.PG
/-! The hash of a message. -/
def hashS (st : List Int) : List Int := (List.range' 0 8).foldl (layStep st) (List.replicate 32 0)
theorem F158_eq (R : Type) {st : List Int} (u : List Int × Int × Unit) (hu : AllU32 st) (k : List Int → (Wr × Unit) → Option R) : F158 R ((st, u), ()) k = k (hashS st) ((st, u), ()) := by
  simp only [F158, p158]
  exact G158_eq R hu ((st, u), ()) (fun x1 x2 => k x2 x1) FUEL 0 (List.replicate 32 0) (by omega) (by rw [FUEL_eq]; omega)

def SHA (m : List Int) : List Int := hashS (foldB H0 (blkS (padM m)))

theorem putS_u8 (x : Int) : AllU8 (putS x) := fun y hy => by
  simp only [putS, List.mem_cons, List.not_mem_nil, or_false] at hy
  unfold U8
  omega
theorem padT_u8 {rest : List Int} (h : AllU8 rest) (n : Nat) : AllU8 (padT rest n) := fun y hy => by
  unfold padT at hy
  rcases List.mem_append.1 hy with h1 | h1
  · exact h y h1
  · rcases List.mem_cons.1 h1 with rfl | h1
    · unfold U8; omega
    · rcases List.mem_append.1 h1 with h1 | h1
      · rw [List.eq_of_mem_replicate h1]; exact u8_0
      · exact putS_u8 _ y h1
theorem padM_blk (m : List Int) : blkS (padM m) = blkS m ++ blkS (padT (tailS m) m.length) := (blk_append m.length m _ (Nat.le_refl _)).1

theorem F143_eq (R : Type) {m : List Int} (h8 : AllU8 m) (hm : m.length ≤ 500000000) (k : List Int → Int → Option R) : F143 R (wrS H0 m) k = k (SHA m) 0 := by
  have tl := (tailS_len m.length m (Nat.le_refl _)).1
  have ok := blkS_ok m.length m (Nat.le_refl _) h8
  have hf := foldB_ok (blkS m) H0_ok.1 H0_ok.2
  have hp := padT_u8 ok.2 m.length
  simp only [F143, p143, wrS]
  rw [F156_eq R tl (by omega)]
  simp only [Bool.not_true]
  rw [F157_eq R (tailS m, (m.length : Int), ()) hf.1 hf.2 hp (by simp [padT, putS]; unfold zerosN; omega)]
  have hf2 := foldB_ok (blkS (padT (tailS m) m.length)) hf.1 hf.2
  rw [F158_eq R _ hf2.2]
  unfold SHA
  rw [padM_blk]
  unfold foldB
  rw [List.foldl_append]
theorem F120_eq (R : Type) {ps : List (List Int)} (h8 : ∀ p ∈ ps, AllU8 p) (hlen : ps.flatten.length ≤ 500000000) (hnum : ps.length ≤ 1000000000) (k : List Int → Option R) : F120 R ps k = k (SHA ps.flatten) := by
  simp only [F120, p120]
  rw [F142_eq, F141_eq R H0_ok.1 H0_ok.2 h8 hlen hnum]
  refine F143_eq R (fun x hx => ?_) hlen _
  obtain ⟨p, h1, h2⟩ := List.mem_flatten.1 hx
  exact h8 p h1 x h2
end Go.PG
namespace Go.PG
/-! The document's hash. -/
theorem G123_7_eq (R : Type) (x1 : Nat) (h : x1 < 8) (x3 x4 ys : List Int) (hy : ys.length = 4) (k0 : Int → List Int → List Int → List Int → Option R) : ∀ (m j : Nat) (l : List Int), j ≤ 4 → 4 - j < m → G123_7 m R (x1 : Int) (j : Int) x3 x4 l ys k0 = k0 (x1 : Int) x3 x4 ((List.range' j (4 - j)).foldl (fun l j => l.set (4 * x1 + j) (ys.getD j 0)) l)
  | 0, j, l, _, h => by omega
  | m + 1, j, l, h1, h2 => by
    simp only [G123_7, p123_7]
    by_cases hi : j < 4
    · have ih := G123_7_eq R x1 h x3 x4 ys hy k0 m (j + 1) (l.set (4 * x1 + j) (ys.getD j 0)) (by omega) (by omega)
      rw [range'_step hi, List.foldl_cons, ← ih]
      have hd : decide ((j : Int) < 4) = true := by simp; omega
      have hbn : bnd (j : Int) 4 = true := by unfold bnd; simp; omega
      rw [wrap_i64 (n := 4 * (x1 : Int)) (by omega) (by omega), wrap_i64 (n := 4 * (x1 : Int) + (j : Int)) (by omega) (by omega), wrap_i64 (n := (j : Int) + 1) (by omega) (by omega)]
      have hb2 : bnd (4 * (x1 : Int) + (j : Int)) 32 = true := by unfold bnd; simp; omega
      have e1 : (4 * (x1 : Int) + (j : Int)).toNat = 4 * x1 + j := by omega
      simp only [hd, hbn, hb2, e1, Int.toNat_natCast]
      rfl
    · have : j = 4 := by omega
      subst this
      rfl
end Go.PG
namespace Go.PG
theorem set4_lay (l : List Int) (p : Nat) (h : p + 4 ≤ l.length) (a b c d : Int) :
    (List.range' 0 4).foldl (fun l j => l.set (p + j) (List.getD [a, b, c, d] j 0)) l = lay l p [a, b, c, d] := by
  have e : (List.range' 0 4).foldl (fun l j => l.set (p + j) (List.getD [a, b, c, d] j 0)) l = (((l.set p a).set (p + 1) b).set (p + 2) c).set (p + 3) d := rfl
  rw [e]
  apply List.ext_getElem?
  intro i
  unfold lay
  simp only [List.getElem?_set, List.getElem?_append, List.length_take, List.length_set, List.getElem?_drop, List.length_append, List.length_cons, List.length_nil, List.getElem?_take]
  have hm : min p l.length = p := by omega
  have hx : [a, b, c, d].length = 4 := rfl
  by_cases h1 : i < p
  · have n1 : ¬ p + 3 = i := by omega
    have n2 : ¬ p + 2 = i := by omega
    have n3 : ¬ p + 1 = i := by omega
    have n4 : ¬ p = i := by omega
    simp only [n1, n2, n3, n4, if_false, hm]
    rw [if_pos (by omega), if_pos (by omega), if_pos h1]
  · by_cases h2 : i < p + 4
    · obtain ⟨q, rfl⟩ : ∃ q, i = p + q := ⟨i - p, by omega⟩
      have hq : q = 0 ∨ q = 1 ∨ q = 2 ∨ q = 3 := by omega
      rcases hq with rfl | rfl | rfl | rfl
      · simp [hm, show ¬ p + 3 = p from by omega, show p < l.length from by omega]
      · simp [hm, show p + 1 < l.length from by omega, show ¬ p + 1 < p from by omega]
      · simp [hm, show p + 2 < l.length from by omega, show ¬ p + 2 < p from by omega]
      · simp [hm, show p + 3 < l.length from by omega, show ¬ p + 3 < p from by omega]
    · have n1 : ¬ p + 3 = i := by omega
      have n2 : ¬ p + 2 = i := by omega
      have n3 : ¬ p + 1 = i := by omega
      have n4 : ¬ p = i := by omega
      simp only [n1, n2, n3, n4, if_false, hm]
      rw [if_neg (by omega)]
      congr 1
      omega
theorem G123_3_eq (R : Type) {st : List Int} (hu : AllU32 st) (x3 : List Int) (k0 : List Int → List Int → Option R) : ∀ (m i : Nat) (l : List Int), i ≤ 8 → 8 - i < m → l.length = 32 → G123_3 m R (i : Int) st x3 l k0 = k0 x3 ((List.range' i (8 - i)).foldl (layStep st) l)
  | 0, i, l, _, h, _ => by omega
  | m + 1, i, l, h1, h2, hl => by
    simp only [G123_3, p123_3]
    by_cases hi : i < 8
    · have hs : lay l (4 * i) (put32S (st.getD i 0)) = layStep st l i := rfl
      have ih := G123_3_eq R hu x3 k0 m (i + 1) (layStep st l i) (by omega) (by omega) (by rw [← hs, lay_len (by simp [put32S]; omega)]; exact hl)
      rw [range'_step hi, List.foldl_cons, ← ih]
      have hd : decide ((i : Int) < 8) = true := by simp; omega
      have hbn : bnd (i : Int) 8 = true := by unfold bnd; simp; omega
      simp only [hd, hbn, Int.toNat_natCast]
      rw [F145_eq R (getD_all hu u32_0 _)]
      refine (G123_7_eq R i hi st x3 _ rfl _ FUEL 0 l (by omega) (by rw [FUEL_eq]; omega)).trans ?_
      have e4 := set4_lay l (4 * i) (by omega) (st.getD i 0 / 16777216 % 256) (st.getD i 0 / 65536 % 256) (st.getD i 0 / 256 % 256) (st.getD i 0 % 256)
      rw [wrap_i64 (n := (i : Int) + 1) (by omega) (by omega)]
      show G123_3 m R ((i : Int) + 1) st x3 _ k0 = G123_3 m R ((i + 1 : Nat) : Int) st x3 _ k0
      rw [← hs]
      show G123_3 m R ((i : Int) + 1) st x3 _ k0 = G123_3 m R ((i : Int) + 1) st x3 _ k0
      congr 1
    · have : i = 8 := by omega
      subst this
      rfl
theorem F123_eq (R : Type) {st : List Int} (hu : AllU32 st) (k : List Int → Option R) : F123 R st k = k (hashS st) := by
  simp only [F123, p123]
  exact G123_3_eq R hu _ (fun x1 x2 => k x2) FUEL 0 (List.replicate 32 0) (by omega) (by rw [FUEL_eq]; omega) rfl
theorem padM_u8 {m : List Int} (h : AllU8 m) : AllU8 (padM m) := fun x hx => by
  unfold padM at hx
  rcases List.mem_append.1 hx with h1 | h1
  · exact h x h1
  · exact padT_u8 (rest := []) (fun y hy => absurd hy (by simp)) m.length x h1
theorem padM_len (m : List Int) : (padM m).length ≤ m.length + 72 := by
  simp [padM, putS, zerosN]; omega
theorem blkF_len : ∀ (n : Nat) (b : List Int), (blkF n b).length ≤ n
  | 0, b => by simp [blkF]
  | n + 1, b => by
    simp only [blkF]
    split
    · simp only [List.length_cons]
      have := blkF_len n (b.drop 64)
      omega
    · simp
theorem F91_eq (R : Type) {m : List Int} (h8 : AllU8 m) (hm : m.length ≤ 500000000) (k : List Int → Option R) : F91 R m k = k (SHA m) := by
  simp only [F91, p91]
  have hp := padM_len m
  rw [F122_eq R hm, F121_eq R (by omega), F125_eq]
  have ok := blkS_ok (padM m).length (padM m) (Nat.le_refl _) (padM_u8 h8)
  rw [F124_eq R H0_ok.1 H0_ok.2 ok.1 (by have := blkF_len ((padM m).length / 64 + 1) (padM m); unfold blkS; omega), F123_eq R (foldB_ok (blkS (padM m)) H0_ok.1 H0_ok.2).2]
  rfl
end Go.PG
namespace Go.PG
/-! The mix of values. -/
theorem eqvL_self {α : Type} {f : α → α → Bool} (h : ∀ x, f x x = true) : ∀ l : List α, eqvL f l l = true
  | [] => rfl
  | x :: xs => by simp only [eqvL, h x, eqvL_self h xs, Bool.and_self]
theorem eqv32 (l : List Int) : Kd.eqv (.arr 32 (.int .u8)) l l = true := eqvL_self (fun x => by simp [Kd.eqv]) l

theorem wrap_bv8 (b : BitVec 8) : IntKind.u8.wrap ((b.toNat : Nat) : Int) = (b.toNat : Int) := by
  have := b.isLt
  exact wrap_u8 (by omega) (by omega)
theorem ixor_u8 (a b : Int) : ixor .u8 a b = ((BitVec.ofInt 8 a ^^^ BitVec.ofInt 8 b).toNat : Int) := wrap_bv8 _
theorem ofInt_natCast8 (b : BitVec 8) : BitVec.ofInt 8 ((b.toNat : Nat) : Int) = b := by
  rw [BitVec.ofInt_natCast, BitVec.ofNat_toNat, BitVec.setWidth_eq]
theorem ofInt_toNat8 {x : Int} (h : U8 x) : ((BitVec.ofInt 8 x).toNat : Int) = x := by
  rw [BitVec.toNat_ofInt]
  unfold U8 at h
  have : x % ((2 ^ 8 : Nat) : Int) = x := by omega
  rw [this]
  omega
theorem ixor8_lt (a b : Int) : U8 (ixor .u8 a b) := by
  rw [ixor_u8]
  have := (BitVec.ofInt 8 a ^^^ BitVec.ofInt 8 b).isLt
  unfold U8
  omega
theorem ixor8_rc (a b c : Int) : ixor .u8 (ixor .u8 a b) c = ixor .u8 (ixor .u8 a c) b := by
  simp only [ixor_u8, ofInt_natCast8]
  rw [BitVec.xor_assoc, BitVec.xor_comm (BitVec.ofInt 8 b), BitVec.xor_assoc]
theorem ixor8_assoc (a b c : Int) : ixor .u8 (ixor .u8 a b) c = ixor .u8 a (ixor .u8 b c) := by
  simp only [ixor_u8, ofInt_natCast8]
  rw [BitVec.xor_assoc]
theorem ixor8_0 {a : Int} (h : U8 a) : ixor .u8 0 a = a := by
  rw [ixor_u8, show BitVec.ofInt 8 0 = 0#8 from rfl, BitVec.zero_xor, ofInt_toNat8 h]
theorem ixor8_self (a : Int) : ixor .u8 a a = 0 := by
  rw [ixor_u8, BitVec.xor_self]; rfl

def xorS (h x : List Int) : List Int := List.zipWith (ixor .u8) h x
def zero32 : List Int := List.replicate 32 0
def xorAll (l : List (List Int)) : List Int := l.foldl xorS zero32
def H32 (l : List Int) : Prop := l.length = 32 ∧ AllU8 l

theorem zip_rc : ∀ h a b : List Int, xorS (xorS h a) b = xorS (xorS h b) a
  | [], a, b => by simp [xorS]
  | h :: hs, [], b => by cases b <;> simp [xorS]
  | h :: hs, a :: ts, [] => by simp [xorS]
  | h :: hs, a :: ts, b :: bs => by
    have := zip_rc hs ts bs
    simp only [xorS, List.zipWith_cons_cons] at *
    rw [this, ixor8_rc]
theorem zip_assoc : ∀ h a b : List Int, xorS (xorS h a) b = xorS h (xorS a b)
  | [], a, b => by simp [xorS]
  | h :: hs, [], b => by simp [xorS]
  | h :: hs, a :: ts, [] => by simp [xorS]
  | h :: hs, a :: ts, b :: bs => by
    have := zip_assoc hs ts bs
    simp only [xorS, List.zipWith_cons_cons] at *
    rw [this, ixor8_assoc]
theorem zip_zero : ∀ {n : Nat} {a : List Int}, a.length = n → AllU8 a → xorS (List.replicate n 0) a = a
  | 0, [], _, _ => rfl
  | n + 1, a :: ts, hl, h => by
    have ih := zip_zero (n := n) (a := ts) (by simpa using hl) (fun x hx => h x (List.mem_cons_of_mem _ hx))
    simp only [xorS, List.replicate_succ, List.zipWith_cons_cons] at *
    rw [ih, ixor8_0 (h a List.mem_cons_self)]
theorem zip_self : ∀ a : List Int, xorS a a = List.replicate a.length 0
  | [] => rfl
  | a :: ts => by
    have ih := zip_self ts
    simp only [xorS, List.replicate_succ, List.zipWith_cons_cons, List.length_cons] at *
    rw [ih, ixor8_self]
theorem xorS_u8 : ∀ h x : List Int, AllU8 (xorS h x)
  | [], x => fun y hy => by simp [xorS] at hy
  | h :: hs, [] => fun y hy => by simp [xorS] at hy
  | h :: hs, x :: xs => fun y hy => by
    simp only [xorS, List.zipWith_cons_cons, List.mem_cons] at hy
    rcases hy with rfl | hy
    · exact ixor8_lt _ _
    · exact xorS_u8 hs xs y hy
theorem xorS_ok {h x : List Int} (hh : H32 h) (hx : H32 x) : H32 (xorS h x) := ⟨by simp [xorS, hh.1, hx.1], xorS_u8 h x⟩
theorem zero32_ok : H32 zero32 := ⟨by simp [zero32], fun x hx => by rw [List.eq_of_mem_replicate hx]; exact u8_0⟩
theorem xorF_ok : ∀ (l : List (List Int)) {h : List Int}, H32 h → (∀ x ∈ l, H32 x) → H32 (l.foldl xorS h)
  | [], h, hh, _ => hh
  | x :: xs, h, hh, hl => xorF_ok xs (xorS_ok hh (hl x List.mem_cons_self)) (fun y hy => hl y (List.mem_cons_of_mem _ hy))
theorem xorAll_ok {l : List (List Int)} (hl : ∀ x ∈ l, H32 x) : H32 (xorAll l) := xorF_ok l zero32_ok hl
theorem xor0 {x : List Int} (h : H32 x) : xorS zero32 x = x := zip_zero h.1 h.2
theorem xorF_eq : ∀ (l : List (List Int)) {h : List Int}, H32 h → (∀ x ∈ l, H32 x) → l.foldl xorS h = xorS h (xorAll l)
  | [], h, hh, _ => by
    show h = xorS h zero32
    have := zip_zero hh.1 hh.2
    have e : xorS h zero32 = xorS zero32 h := by
      have e1 := xor0 hh
      have : xorS (xorS zero32 h) zero32 = xorS (xorS zero32 zero32) h := zip_rc _ _ _
      rw [e1] at this
      rw [this, xor0 zero32_ok]
    rw [e, xor0 hh]
  | x :: xs, h, hh, hl => by
    have hx := hl x List.mem_cons_self
    have hxs := fun y hy => hl y (List.mem_cons_of_mem x hy)
    unfold xorAll
    rw [List.foldl_cons, List.foldl_cons, xorF_eq xs (xorS_ok hh hx) hxs, xor0 hx, xorF_eq xs hx hxs, zip_assoc]
theorem xorAll_append {a b : List (List Int)} (ha : ∀ x ∈ a, H32 x) (hb : ∀ x ∈ b, H32 x) : xorAll (a ++ b) = xorS (xorAll a) (xorAll b) := by
  unfold xorAll
  rw [List.foldl_append]
  exact xorF_eq b (xorAll_ok ha) hb
theorem xorAll_perm {a b : List (List Int)} (h : a.Perm b) : xorAll a = xorAll b := by
  unfold xorAll
  generalize zero32 = z
  induction h generalizing z with
  | nil => rfl
  | cons x _ ih => exact ih _
  | swap x y l => simp only [List.foldl_cons, zip_rc]
  | trans _ _ i1 i2 => rw [i1 z, i2 z]

/-! The loops. -/
theorem set_mid (A : List Int) (h : Int) (hs : List Int) (v : Int) : (A ++ h :: hs).set A.length v = (A ++ [v]) ++ hs := by
  rw [List.set_append_right _ _ (Nat.le_refl _)]
  simp
theorem getD_mid (A : List Int) (h : Int) (hs : List Int) : (A ++ h :: hs).getD A.length 0 = h := by
  simp
end Go.PG
namespace Go.PG
/-! Seeds and commitments; the law of the mix. -/
theorem putS_len (x : Int) : (putS x).length = 8 := rfl
theorem take32 {l : List Int} (h : H32 l) : List.take 32 (List.drop 0 l) = l := by
  rw [List.drop_zero, List.take_of_length_le (by rw [h.1]; omega)]
theorem take8 (x : Int) : List.take 8 (List.drop 0 (putS x)) = putS x := rfl
def seedS (a : List Int) (e : Int) (b : List Int) : List Int := SHA (a ++ (putS e ++ b))
theorem drop_step {l : List Int} {i : Nat} (h : i < l.length) : l.drop i = l.getD i 0 :: l.drop (i + 1) := by
  rw [List.drop_eq_getElem_cons h]
  simp [h]
theorem AllU8.app {a b : List Int} (ha : AllU8 a) (hb : AllU8 b) : AllU8 (a ++ b) := fun x hx => (List.mem_append.1 hx).elim (ha x) (hb x)
theorem fit_h32 {x : List Int} (h : Fit (.arr 32 (.int .u8)) x) : H32 x := ⟨h.1, fun y hy => by have := fit_u8 (h.2 y hy); unfold U8; omega⟩

end Go.PG
namespace Go.PG
end Go.PG
namespace Go.PG
/-! Streams of bits. -/
theorem layStep_ok {st l : List Int} (hl : H32 l) {i : Nat} (hi : i < 8) : H32 (layStep st l i) := by
  refine ⟨by unfold layStep; rw [lay_len (by simp [put32S, hl.1]; omega)]; exact hl.1, ?_⟩
  unfold layStep lay
  refine AllU8.app (AllU8.app (fun x hx => hl.2 x (List.mem_of_mem_take hx)) ?_) (fun x hx => hl.2 x (List.mem_of_mem_drop hx))
  intro y hy
  simp only [put32S, List.mem_cons, List.not_mem_nil, or_false] at hy
  unfold U8
  omega
theorem layFold_ok (st : List Int) : ∀ (is : List Nat) {l : List Int}, (∀ i ∈ is, i < 8) → H32 l → H32 (is.foldl (layStep st) l)
  | [], _, _, hl => hl
  | i :: is, _, h, hl => layFold_ok st is (fun j hj => h j (List.mem_cons_of_mem _ hj)) (layStep_ok hl (h i List.mem_cons_self))
theorem SHA_ok (m : List Int) : H32 (SHA m) := by
  unfold SHA hashS
  refine layFold_ok _ _ (fun i hi => ?_) zero32_ok
  rw [List.mem_range'] at hi
  obtain ⟨j, hj, rfl⟩ := hi
  omega
def blockS (a : List Int) (d i : Int) : List Int := SHA (a ++ (putS d ++ putS i))
theorem blockS_ok (a : List Int) (d i : Int) : H32 (blockS a d i) := SHA_ok _
theorem F164_eq (R : Type) {a : List Int} (ha : H32 a) (d i : Int) (k : List Int → Option R) : F164 R a d i k = k (blockS a d i) := by
  simp only [F164, p164]
  rw [F126_eq, F126_eq]
  simp only [take32 ha, take8]
  rw [F120_eq R (fun p hp => by
    simp only [List.mem_cons, List.not_mem_nil, or_false] at hp
    rcases hp with rfl | rfl | rfl
    · exact ha.2
    · exact putS_u8 d
    · exact putS_u8 i) (by simp [ha.1, putS_len]) (by simp)]
  simp [blockS]
theorem G162_3_eq (R : Type) {a : List Int} (ha : a.length = 32) (x1 x2 : Int) (x5 : List Int) (k0 : Int → Int → List Int → List Int → Option R) : ∀ (m i : Nat) (o : List Int), i ≤ 32 → 32 - i < m → o.length ≤ 1000000 + i → G162_3 m R x1 x2 (i : Int) a x5 o k0 = k0 x1 x2 x5 (o ++ a.drop i)
  | 0, i, _, _, h, _ => by omega
  | m + 1, i, o, h1, h2, h3 => by
    simp only [G162_3, p162_3]
    by_cases hi : i < 32
    · have ih := G162_3_eq R ha x1 x2 x5 k0 m (i + 1) (o ++ [a.getD i 0]) (by omega) (by omega) (by simp; omega)
      have hd : decide ((i : Int) < 32) = true := by simp; omega
      have hbn : bnd (i : Int) 32 = true := by unfold bnd; simp; omega
      have hc : ∀ y : Int, decide (List.length o + List.length [y] ≤ 140737488355328) = true := fun y => by simp; omega
      simp only [hd, hbn, Int.toNat_natCast, hc]
      rw [wrap_i64 (n := (i : Int) + 1) (by omega) (by omega), drop_step (by omega)]
      simp only [List.append_assoc, List.cons_append, List.nil_append] at ih
      exact ih
    · have : i = 32 := by omega
      subst this
      rw [List.drop_of_length_le (by omega), List.append_nil]
      rfl
theorem G162_8_eq (R : Type) {a : List Int} (ha : a.length = 8) (x2 x5 : List Int) (k0 : List Int → List Int → List Int → Option R) : ∀ (m i : Nat) (o : List Int), i ≤ 8 → 8 - i < m → o.length ≤ 1000000 + i → G162_8 m R (i : Int) x2 o a x5 k0 = k0 x2 (o ++ a.drop i) x5
  | 0, i, _, _, h, _ => by omega
  | m + 1, i, o, h1, h2, h3 => by
    simp only [G162_8, p162_8]
    by_cases hi : i < 8
    · have ih := G162_8_eq R ha x2 x5 k0 m (i + 1) (o ++ [a.getD i 0]) (by omega) (by omega) (by simp; omega)
      have hd : decide ((i : Int) < 8) = true := by simp; omega
      have hbn : bnd (i : Int) 8 = true := by unfold bnd; simp; omega
      have hc : ∀ y : Int, decide (List.length o + List.length [y] ≤ 140737488355328) = true := fun y => by simp; omega
      simp only [hd, hbn, Int.toNat_natCast, hc]
      rw [wrap_i64 (n := (i : Int) + 1) (by omega) (by omega), drop_step (by omega)]
      simp only [List.append_assoc, List.cons_append, List.nil_append] at ih
      exact ih
    · have : i = 8 := by omega
      subst this
      rw [List.drop_of_length_le (by omega), List.append_nil]
      rfl
theorem G162_12_eq (R : Type) {a : List Int} (ha : a.length = 8) (x2 : List Int) (k0 : List Int → List Int → Option R) : ∀ (m i : Nat) (o : List Int), i ≤ 8 → 8 - i < m → o.length ≤ 1000000 + i → G162_12 m R (i : Int) x2 o a k0 = k0 x2 (o ++ a.drop i)
  | 0, i, _, _, h, _ => by omega
  | m + 1, i, o, h1, h2, h3 => by
    simp only [G162_12, p162_12]
    by_cases hi : i < 8
    · have ih := G162_12_eq R ha x2 k0 m (i + 1) (o ++ [a.getD i 0]) (by omega) (by omega) (by simp; omega)
      have hd : decide ((i : Int) < 8) = true := by simp; omega
      have hbn : bnd (i : Int) 8 = true := by unfold bnd; simp; omega
      have hc : ∀ y : Int, decide (List.length o + List.length [y] ≤ 140737488355328) = true := fun y => by simp; omega
      simp only [hd, hbn, Int.toNat_natCast, hc]
      rw [wrap_i64 (n := (i : Int) + 1) (by omega) (by omega), drop_step (by omega)]
      simp only [List.append_assoc, List.cons_append, List.nil_append] at ih
      exact ih
    · have : i = 8 := by omega
      subst this
      rw [List.drop_of_length_le (by omega), List.append_nil]
      rfl
def U64 (x : Int) : Prop := 0 ≤ x ∧ x < 18446744073709551616
theorem F162_eq (R : Type) {a : List Int} (ha : H32 a) {d i : Int} (hd : U64 d) (hi : U64 i) (k : List Int → Option R) : F162 R a d i k = k (blockS a d i) := by
  simp only [F162, p162]
  refine (G162_3_eq R ha.1 d i _ _ FUEL 0 [] (by omega) (by rw [FUEL_eq]; omega) (by simp)).trans ?_
  simp only [List.drop_zero, List.nil_append]
  rw [F96_eq R hd, F96_eq R hi]
  refine (G162_8_eq R (putS_len d) _ _ _ FUEL 0 a (by omega) (by rw [FUEL_eq]; omega) (by rw [ha.1]; omega)).trans ?_
  simp only [List.drop_zero]
  refine (G162_12_eq R (putS_len i) _ _ FUEL 0 (a ++ putS d) (by omega) (by rw [FUEL_eq]; omega) (by simp [ha.1, putS_len])).trans ?_
  simp only [List.drop_zero]
  rw [F91_eq R ((ha.2.app (putS_u8 d)).app (putS_u8 i)) (by simp [ha.1, putS_len]), List.append_assoc]
  rfl

/-! Bits. -/
theorem wrap_bv64 (b : BitVec 64) : IntKind.u64.wrap ((b.toNat : Nat) : Int) = (b.toNat : Int) := by
  have := b.isLt
  exact wrap_u64 (by omega) (by omega)
theorem iand_u64 (a b : Int) : iand .u64 a b = ((BitVec.ofInt 64 a &&& BitVec.ofInt 64 b).toNat : Int) := wrap_bv64 _
theorem ior_u64 (a b : Int) : ior .u64 a b = ((BitVec.ofInt 64 a ||| BitVec.ofInt 64 b).toNat : Int) := wrap_bv64 _
theorem iand_mask {x : Int} (hx : U64 x) (n : Nat) (hn : n < 64) : iand .u64 x ((2 ^ n - 1 : Nat) : Int) = x % 2 ^ n := by
  unfold U64 at hx
  obtain ⟨y, rfl⟩ : ∃ y : Nat, x = y := ⟨x.toNat, by omega⟩
  have h1 : (2 : Nat) ^ n < 2 ^ 64 := Nat.pow_lt_pow_right (by omega) hn
  have h0 : 0 < (2 : Nat) ^ n := Nat.pow_pos (by omega)
  rw [iand_u64, BitVec.ofInt_natCast, BitVec.ofInt_natCast, BitVec.toNat_and, BitVec.toNat_ofNat, BitVec.toNat_ofNat, Nat.mod_eq_of_lt (by omega), Nat.mod_eq_of_lt (by omega), Nat.and_two_pow_sub_one_eq_mod]
  simp
def bitS (a : List Int) (d n : Int) : Int := (blockS a d (n / 256)).getD (n % 256 / 8).toNat 0 / 2 ^ (7 - n % 8).toNat % 2
theorem G163_eq (R : Type) {n : Nat} (hn : n ≤ 7) (k0 : Int → Option R) : ∀ (m i : Nat), i ≤ n → n - i < m → G163_3 m R (n : Int) (2 ^ i) (i : Int) k0 = k0 (2 ^ n)
  | 0, i, _, h => by omega
  | m + 1, i, h1, h2 => by
    simp only [G163_3, p163_3]
    by_cases hi : i < n
    · have hd : decide ((i : Int) < (n : Int)) = true := by simpa using hi
      have ih := G163_eq R hn k0 m (i + 1) (by omega) (by omega)
      have hp : (2 : Int) ^ i ≤ 128 := by
        have : (2 : Nat) ^ i ≤ 2 ^ 7 := Nat.pow_le_pow_right (by omega) (by omega)
        have e : ((2 ^ i : Nat) : Int) = (2 : Int) ^ i := by simp
        omega
      have hq : (0 : Int) < 2 ^ i := Int.pow_pos (by decide)
      simp only [hd]
      rw [wrap_u64 (n := 2 * 2 ^ i) (by omega) (by omega), wrap_u64 (n := (i : Int) + 1) (by omega) (by omega), show (2 : Int) * 2 ^ i = 2 ^ (i + 1) by rw [Int.pow_succ, Int.mul_comm]]
      exact ih
    · have : i = n := by omega
      subst this
      have hd : decide ((i : Int) < (i : Int)) = false := by simp
      simp only [hd]
theorem F163_eq (R : Type) {n : Nat} (hn : n ≤ 7) (k : Int → Option R) : F163 R (n : Int) k = k (2 ^ n) := by
  simp only [F163, p163]
  exact G163_eq R hn (fun x => k x) FUEL 0 (by omega) (by rw [FUEL_eq]; omega)
theorem F148_eq (R : Type) {a : List Int} (ha : H32 a) {d n : Int} (hd : U64 d) (hn : U64 n) (k : Int → Option R) : F148 R a d n k = k (bitS a d n) := by
  have hn' := hn
  unfold U64 at hn
  simp only [F148, p148]
  rw [Int.tdiv_eq_ediv_of_nonneg hn.1, Int.tmod_eq_emod_of_nonneg hn.1, Int.tmod_eq_emod_of_nonneg hn.1, wrap_u64 (n := n / 256) (by omega) (by omega), F162_eq R ha hd (by unfold U64; omega), Int.tdiv_eq_ediv_of_nonneg (a := n % 256) (by omega), wrap_u64 (n := n % 256 / 8) (by omega) (by omega), wrap_u64 (n := 7 - n % 8) (by omega) (by omega)]
  have hbn : bnd (n % 256 / 8) 32 = true := by unfold bnd; simp; omega
  simp only [hbn]
  have hb : U8 ((blockS a d (n / 256)).getD (n % 256 / 8).toNat 0) := getD_all (blockS_ok a d _).2 u8_0 _
  obtain ⟨r, hr⟩ : ∃ r : Nat, 7 - n % 8 = r := ⟨(7 - n % 8).toNat, by omega⟩
  unfold bitS
  rw [hr, F163_eq R (by omega)]
  generalize (blockS a d (n / 256)).getD (n % 256 / 8).toNat 0 = b at *
  unfold U8 at hb
  have hp : (0 : Int) < 2 ^ r := Int.pow_pos (by decide)
  have hq : 0 ≤ b / 2 ^ r ∧ b / 2 ^ r ≤ b := ⟨Int.ediv_nonneg hb.1 (by omega), Int.ediv_le_self _ hb.1⟩
  have hz : ((2 : Int) ^ r == 0) = false := by simp; omega
  simp only [hz, Bool.not_false]
  rw [wrap_u64 (n := b) (by omega) (by omega), Int.tdiv_eq_ediv_of_nonneg (by omega), wrap_u64 (n := b / 2 ^ r) (by omega) (by omega), Int.tmod_eq_emod_of_nonneg hq.1, Int.toNat_natCast]
end Go.PG
namespace Go.PG
/-! The bytes of a stream; the law of streams. -/
def byteS (a : List Int) (d : Int) (p : Nat) : Int := (blockS a d ((p / 32 : Nat) : Int)).getD (p % 32) 0
def bytesS (a : List Int) (d : Int) (n : Nat) : List Int := (List.range n).map (byteS a d)
theorem bytesS_len (a : List Int) (d : Int) (n : Nat) : (bytesS a d n).length = n := by simp [bytesS]
theorem bytesS_take (a : List Int) (d : Int) {n m : Nat} (h : n ≤ m) : (bytesS a d m).take n = bytesS a d n := by
  unfold bytesS
  rw [← List.map_take, List.take_range, Nat.min_eq_left h]
theorem bytesS_get (a : List Int) (d : Int) {n i : Nat} (h : i < n) : (bytesS a d n).getD i 0 = byteS a d i := by
  simp [bytesS, h]
theorem bytesS_succ (a : List Int) (d : Int) (n : Nat) : bytesS a d (n + 1) = bytesS a d n ++ [byteS a d n] := by
  simp [bytesS, List.range_succ]
theorem bytesS_block (a : List Int) (d : Int) (j : Nat) : ∀ c : Nat, c ≤ 32 → bytesS a d (32 * j) ++ (blockS a d (j : Int)).take c = bytesS a d (32 * j + c)
  | 0, _ => by simp
  | c + 1, h => by
    have ih := bytesS_block a d j c (by omega)
    have hl := (blockS_ok a d (j : Int)).1
    have e : (blockS a d (j : Int)).take (c + 1) = (blockS a d (j : Int)).take c ++ [byteS a d (32 * j + c)] := by
      rw [List.take_succ_eq_append_getElem (by omega)]
      unfold byteS
      rw [show (32 * j + c) / 32 = j by omega, show (32 * j + c) % 32 = c by omega]
      simp [show c < (blockS a d (j : Int)).length by omega]
    rw [e, ← List.append_assoc, ih, ← Nat.add_assoc, bytesS_succ]
theorem bytesS_u8 (a : List Int) (d : Int) (n : Nat) : AllU8 (bytesS a d n) := fun x hx => by
  unfold bytesS at hx
  obtain ⟨p, _, rfl⟩ := List.mem_map.1 hx
  exact getD_all (blockS_ok a d _).2 u8_0 _
def bytesR (a : List Int) (d n : Int) : List Int := if 0 ≤ n ∧ n ≤ 4096 then bytesS a d n.toNat else []
/-! Domains. -/
theorem ior_shl32 {x b : Int} (hx : U32 x) (hb : U32 b) : ior .u64 (ishl .u64 x 32) b = x * 4294967296 + b := by
  unfold U32 at hx hb
  obtain ⟨n, rfl⟩ : ∃ n : Nat, x = n := ⟨x.toNat, by omega⟩
  obtain ⟨c, rfl⟩ : ∃ c : Nat, b = c := ⟨b.toNat, by omega⟩
  have e2 : ishl .u64 (n : Int) 32 = ((n * 4294967296 : Nat) : Int) := by
    unfold ishl
    rw [show (2 : Int) ^ (min (32 : Int).toNat IntKind.u64.bits) = 4294967296 by decide, wrap_u64 (by omega) (by omega)]
    simp
  rw [e2, ior_u64, BitVec.ofInt_natCast, BitVec.ofInt_natCast, BitVec.toNat_or, BitVec.toNat_ofNat, BitVec.toNat_ofNat, Nat.mod_eq_of_lt (by omega), Nat.mod_eq_of_lt (by omega)]
  have h6 := Nat.shiftLeft_add_eq_or_of_lt (i := 32) (b := c) (by omega) n
  rw [Nat.shiftLeft_eq] at h6
  rw [show n * 4294967296 = n * 2 ^ 32 by rfl, ← h6]
  simp
theorem fit_p2 {x : List Int} (h : Fit (.arr 2 (.int .u32)) x) : ∃ a b, x = [a, b] ∧ U32 a ∧ U32 b := by
  obtain ⟨h1, h2⟩ := h
  match x, h1, h2 with
  | [a, b], _, h2 =>
    refine ⟨a, b, rfl, ?_, ?_⟩
    · have := fit_u32 (h2 a (by simp)); unfold U32; omega
    · have := fit_u32 (h2 b (by simp)); unfold U32; omega
end Go.PG
namespace Go.PG
/-! Sources of bits. -/
abbrev Src := Int × (List Int × (Int × (List Int × (Int × (Int × Unit)))))
abbrev Rdr := Src × (List Int × (Int × (Bool × Unit)))
def atS (s : Src) : Int := s.2.2.2.2.2.1
def setAt (s : Src) (n : Int) : Src := (s.1, s.2.1, s.2.2.1, s.2.2.2.1, s.2.2.2.2.1, n, ())
structure SOK (s : Src) : Prop where
  tape : AllU8 s.2.1
  len : s.2.1.length ≤ 1000000
  bits : U64 s.2.2.1
  seed : H32 s.2.2.2.1
  dom : U64 s.2.2.2.2.1
  at_ : U64 s.2.2.2.2.2.1
theorem SOK.set {s : Src} (h : SOK s) {n : Int} (hn : U64 n) : SOK (setAt s n) := ⟨h.tape, h.len, h.bits, h.seed, h.dom, hn⟩
def rightS' (s : Src) : Bool := if s.1 = 1 then decide (s.2.2.1 ≤ 8 * (s.2.1.length : Int) ∧ s.2.2.2.2.2.1 ≤ s.2.2.1) else decide (s.1 = 2 ∧ s.2.2.2.2.2.1 ≤ 4611686018427387904)
def endS (s : Src) : Int := if s.1 = 1 then s.2.2.1 else 4611686018427387904
def leftS (s : Src) : Int := if rightS' s = true then endS s - s.2.2.2.2.2.1 else 0
def bitAt (s : Src) (n : Int) : Int := if s.1 = 1 then s.2.1.getD (n / 8).toNat 0 / 2 ^ (7 - n % 8).toNat % 2 else bitS s.2.2.2.1 s.2.2.2.2.1 n

theorem F149_eq (R : Type) {s : Src} (h : SOK s) (k : Int → Bool → Option R) : F149 R s k = (if s.1 = 1 then k s.2.2.1 (decide (s.2.2.1 ≤ 8 * (s.2.1.length : Int))) else if s.1 = 2 then k 4611686018427387904 true else k 0 false) := by
  have hl := h.len
  simp only [F149, p149]
  rw [wrap_u64 (n := (s.2.1.length : Int)) (by omega) (by omega), wrap_u64 (n := (s.2.1.length : Int) * 8) (by omega) (by omega), Int.mul_comm]
  by_cases h1 : s.1 = 1
  · simp [h1]
  · by_cases h2 : s.1 = 2
    · simp [h2]
    · simp only [beq_eq_false_iff_ne.2 h1, beq_eq_false_iff_ne.2 h2, if_neg h1, if_neg h2]
theorem F130_eq (R : Type) {s : Src} (h : SOK s) (k : Bool → Option R) : F130 R s k = k (rightS' s) := by
  simp only [F130, p130]
  rw [F149_eq R h]
  unfold rightS'
  by_cases h1 : s.1 = 1
  · simp only [h1, if_true]
    by_cases h2 : s.2.2.1 ≤ 8 * (s.2.1.length : Int)
    · simp [h2]
    · simp [h2]
  · simp only [h1, if_false]
    by_cases h2 : s.1 = 2
    · simp [h2]
    · simp [h2]
theorem F101_eq (R : Type) {s : Src} (h : SOK s) (k : Bool → Option R) : F101 R s k = k (rightS' s) := by
  have hl := h.len
  simp only [F101, p101]
  rw [wrap_u64 (n := (s.2.1.length : Int)) (by omega) (by omega), wrap_u64 (n := 8 * (s.2.1.length : Int)) (by omega) (by omega)]
  unfold rightS'
  by_cases h1 : s.1 = 1
  · simp only [h1, if_true]
    by_cases h2 : s.2.2.1 ≤ 8 * (s.2.1.length : Int)
    · simp [h2]
    · simp [h2]
  · simp only [h1, if_false]
    by_cases h2 : s.1 = 2
    · simp [h2]
    · simp only [beq_eq_false_iff_ne.2 h1, beq_eq_false_iff_ne.2 h2]
      simp [h2]
theorem right_spec {s : Src} (h : rightS' s = true) : (s.1 = 1 ∧ s.2.2.1 ≤ 8 * (s.2.1.length : Int) ∧ s.2.2.2.2.2.1 ≤ s.2.2.1 ∧ endS s = s.2.2.1) ∨ (s.1 = 2 ∧ s.2.2.2.2.2.1 ≤ 4611686018427387904 ∧ endS s = 4611686018427387904) := by
  unfold rightS' at h
  unfold endS
  by_cases h1 : s.1 = 1
  · rw [if_pos h1] at h ⊢
    have := of_decide_eq_true h
    exact .inl ⟨h1, this.1, this.2, rfl⟩
  · rw [if_neg h1] at h ⊢
    have := of_decide_eq_true h
    exact .inr ⟨this.1, this.2, rfl⟩
theorem left_ok {s : Src} (hs : SOK s) : 0 ≤ leftS s ∧ leftS s ≤ 4611686018427387904 ∧ (rightS' s = true → s.2.2.2.2.2.1 + leftS s = endS s) := by
  have h1 := hs.at_; have h2 := hs.bits; have h3 := hs.len
  unfold U64 at h1 h2
  unfold leftS
  by_cases h : rightS' s = true
  · rw [if_pos h]
    rcases right_spec h with ⟨_, a2, a3, a4⟩ | ⟨_, a2, a3⟩
    · rw [a4]; omega
    · rw [a3]; omega
  · rw [if_neg h]
    exact ⟨by omega, by omega, fun e => absurd e h⟩
theorem F131_eq (R : Type) {s : Src} (h : SOK s) (k : Int → Option R) : F131 R s k = k (leftS s) := by
  have hl := left_ok h
  simp only [F131, p131]
  rw [F130_eq R h, F149_eq R h]
  unfold leftS at *
  by_cases hr : rightS' s = true
  · have hr' := hr
    simp only [hr, Bool.not_true, if_true] at hl ⊢
    rcases right_spec hr' with ⟨a1, a2, a3, a4⟩ | ⟨a1, a2, a3⟩
    · rw [if_pos a1, a4, wrap_u64 (by rw [a4] at hl; omega) (by rw [a4] at hl; omega)]
    · rw [if_neg (by omega), if_pos a1, a3, wrap_u64 (by rw [a3] at hl; omega) (by rw [a3] at hl; omega)]
  · simp only [Bool.not_eq_true] at hr
    simp [hr]
theorem F128_eq (R : Type) {s : Src} (h : SOK s) (k : Int → Option R) : F128 R s k = k (leftS s) := by
  have hl := left_ok h
  simp only [F128, p128]
  rw [F101_eq R h]
  unfold leftS at *
  by_cases hr : rightS' s = true
  · have hr' := hr
    simp only [hr, Bool.not_true, if_true] at hl ⊢
    rcases right_spec hr' with ⟨a1, a2, a3, a4⟩ | ⟨a1, a2, a3⟩
    · have e1 : (s.1 == 1) = true := by simp [a1]
      rw [e1, a4, wrap_u64 (by rw [a4] at hl; omega) (by rw [a4] at hl; omega)]
    · have e1 : (s.1 == 1) = false := by simp [a1]
      rw [e1, a3]
      simp only []
      rw [wrap_u64 (n := 4611686018427387904 - s.2.2.2.2.2.1) (by rw [a3] at hl; omega) (by rw [a3] at hl; omega)]
  · simp only [Bool.not_eq_true] at hr
    simp [hr]

/-! One bit. -/
theorem bit_range (s : Src) (n : Int) : 0 ≤ bitAt s n ∧ bitAt s n ≤ 1 := by
  unfold bitAt bitS
  split <;> omega
theorem F129_eq (R : Type) {s : Src} (h : SOK s) {n : Int} (hn : U64 n) (hk : (s.1 = 1 ∧ n < 8 * (s.2.1.length : Int)) ∨ s.1 = 2) (k : Int → Option R) : F129 R s n k = k (bitAt s n) := by
  have hl := h.len
  have hn' := hn
  unfold U64 at hn
  simp only [F129, p129]
  unfold bitAt
  rcases hk with ⟨a1, a2⟩ | a1
  · have e1 : (s.1 == 2) = false := by simp [a1]
    rw [e1, if_pos a1, Int.tdiv_eq_ediv_of_nonneg hn.1, wrap_u64 (n := n / 8) (by omega) (by omega)]
    have hb : bnd (n / 8) (s.2.1.length : Int) = true := by unfold bnd; simp; omega
    simp only [hb]
    have hu : U8 (s.2.1.getD (n / 8).toNat 0) := getD_all h.tape u8_0 _
    generalize s.2.1.getD (n / 8).toNat 0 = x at *
    unfold U8 at hu
    rw [wrap_u32 (n := x) (by omega) (by omega), Int.tmod_eq_emod_of_nonneg hn.1, wrap_i64 (n := n % 8) (by omega) (by omega), wrap_i64 (n := 7 - n % 8) (by omega) (by omega),
      F76_lit R (x := x) (by unfold U32; omega) (7 - n % 8).toNat (by omega) (by omega)]
    unfold shrS
    have hq : 0 ≤ x / 2 ^ (7 - n % 8).toNat := Int.ediv_nonneg hu.1 (Int.le_of_lt (Int.pow_pos (by decide)))
    rw [Int.tmod_eq_emod_of_nonneg hq, wrap_u64 (by omega) (by omega)]
  · have e1 : (s.1 == 2) = true := by simp [a1]
    rw [e1, if_neg (by omega)]
    simp only []
    rw [F148_eq R h.seed h.dom hn']

def RI (r : Rdr) : Prop := r.2.2.2.1 = true → r.2.1 = blockS r.1.2.2.2.1 r.1.2.2.2.2.1 r.2.2.1
theorem iand_u8_1 {x : Int} (hx : U8 x) : iand .u8 x 1 = x % 2 := by
  unfold U8 at hx
  obtain ⟨y, rfl⟩ : ∃ y : Nat, x = y := ⟨x.toNat, by omega⟩
  have e : iand .u8 (y : Int) 1 = ((BitVec.ofInt 8 (y : Int) &&& BitVec.ofInt 8 ((1 : Nat) : Int)).toNat : Int) := wrap_bv8 _
  rw [e, BitVec.ofInt_natCast, BitVec.ofInt_natCast, BitVec.toNat_and, BitVec.toNat_ofNat, BitVec.toNat_ofNat, Nat.mod_eq_of_lt (by omega), Nat.mod_eq_of_lt (by omega), show (1 : Nat) = 2 ^ 1 - 1 by rfl, Nat.and_two_pow_sub_one_eq_mod]
  simp
theorem u132_eq (R : Type) (r : Rdr) {y : Int} (hy : U8 y) (hat : 0 ≤ atS r.1 ∧ atS r.1 < 9000000000000000000) (q : List Int × (Int × (Bool × Unit))) (k : Int → Rdr → Option R) :
    u132 R r y q k = k (y / 2 ^ (7 - atS r.1 % 8).toNat % 2) (setAt r.1 (atS r.1 + 1), q) := by
  unfold atS at *
  simp only [u132]
  unfold setAt
  generalize r.1.2.2.2.2.2.1 = n at *
  rw [Int.tmod_eq_emod_of_nonneg hat.1, wrap_u64 (n := 7 - n % 8) (by omega) (by omega), wrap_u64 (n := n + 1) (by omega) (by omega)]
  obtain ⟨m, hm⟩ : ∃ m : Nat, 7 - n % 8 = m := ⟨(7 - n % 8).toNat, by omega⟩
  rw [hm, Int.toNat_natCast]
  have e8 : ishr .u8 y (m : Int) = y / 2 ^ m := by
    unfold ishr
    rw [show IntKind.u8.bits = 8 from rfl, Int.toNat_natCast, Nat.min_eq_left (by omega), Int.fdiv_eq_ediv_of_nonneg _ (by have := two_pow_pos m; omega)]
  unfold U8 at hy
  have hp : (0 : Int) < 2 ^ m := Int.pow_pos (by decide)
  have hq : 0 ≤ y / 2 ^ m ∧ y / 2 ^ m ≤ y := ⟨Int.ediv_nonneg hy.1 (by omega), Int.ediv_le_self _ hy.1⟩
  rw [e8, iand_u8_1 (by unfold U8; omega), wrap_u64 (by omega) (by omega)]
theorem F132_eq (R : Type) {r : Rdr} (h : SOK r.1) (hi : RI r) (hk : (r.1.1 = 1 ∧ atS r.1 < 8 * (r.1.2.1.length : Int)) ∨ r.1.1 = 2) (hat : atS r.1 < 9000000000000000000) (k : Int → Rdr → Option R) :
    ∃ q, RI (setAt r.1 (atS r.1 + 1), q) ∧ F132 R r k = k (bitAt r.1 (atS r.1)) (setAt r.1 (atS r.1 + 1), q) := by
  have hl := h.len
  have ha := h.at_
  have hat' : 0 ≤ atS r.1 ∧ atS r.1 < 9000000000000000000 := ⟨ha.1, hat⟩
  simp only [F132]
  show ∃ q, RI (setAt r.1 (atS r.1 + 1), q) ∧ (F150 R r (IntKind.u64.wrap (Int.tdiv (atS r.1) 8)) fun y2 p3 => match decide (0 ≤ IntKind.u64.wrap (7 - Int.tmod (atS r.1) 8)) with | true => u132 R r y2 p3.2 k | false => none) = _
  have hdc : decide (0 ≤ IntKind.u64.wrap (7 - Int.tmod (atS r.1) 8)) = true := by
    rw [wrap_u64_mod]; exact decide_eq_true (by omega)
  simp only [hdc]
  rw [Int.tdiv_eq_ediv_of_nonneg hat'.1, wrap_u64 (n := atS r.1 / 8) (by omega) (by omega)]
  simp only [F150, p150]
  generalize hn : atS r.1 = n at *
  unfold bitAt
  rcases hk with ⟨a1, a2⟩ | a1
  · have e1 : (r.1.1 == 1) = true := by simp [a1]
    have hb : bnd (n / 8) (r.1.2.1.length : Int) = true := by unfold bnd; simp; omega
    simp only [e1, hb]
    refine ⟨r.2, hi, ?_⟩
    rw [if_pos a1, u132_eq R r (getD_all h.tape u8_0 _) (by rw [hn]; exact hat'), hn]
  · have e1 : (r.1.1 == 1) = false := by simp [a1]
    simp only [e1]
    rw [if_neg (by omega), Int.tdiv_eq_ediv_of_nonneg (by omega), wrap_u64 (n := n / 8 / 32) (by omega) (by omega), Int.tmod_eq_emod_of_nonneg (by omega)]
    have hb : bnd (n / 8 % 32) 32 = true := by unfold bnd; simp; omega
    have hbit : (blockS r.1.2.2.2.1 r.1.2.2.2.2.1 (n / 8 / 32)).getD (n / 8 % 32).toNat 0 / 2 ^ (7 - n % 8).toNat % 2 = bitS r.1.2.2.2.1 r.1.2.2.2.2.1 n := by
      unfold bitS
      rw [show n / 8 / 32 = n / 256 by omega, show n / 8 % 32 = n % 256 / 8 by omega]
    have hu := fun i => getD_all (blockS_ok r.1.2.2.2.1 r.1.2.2.2.2.1 (n / 8 / 32)).2 u8_0 i
    have go : ∀ q, u132 R r ((blockS r.1.2.2.2.1 r.1.2.2.2.2.1 (n / 8 / 32)).getD (n / 8 % 32).toNat 0) q k = k (bitS r.1.2.2.2.1 r.1.2.2.2.2.1 n) (setAt r.1 (n + 1), q) := fun q => by
      rw [u132_eq R r (hu _) (by rw [hn]; exact hat'), hn, hbit]
    have fresh : (F164 R r.1.2.2.2.1 r.1.2.2.2.2.1 (n / 8 / 32) fun y5 => match bnd (n / 8 % 32) 32 with
        | true => u132 R r (y5.getD (n / 8 % 32).toNat 0) (r.1, y5, n / 8 / 32, true, r.2.2.2.2).2 k
        | false => none) = k (bitS r.1.2.2.2.1 r.1.2.2.2.2.1 n) (setAt r.1 (n + 1), (blockS r.1.2.2.2.1 r.1.2.2.2.2.1 (n / 8 / 32), n / 8 / 32, true, ())) := by
      rw [F164_eq R h.seed]
      simp only [hb]
      exact go _
    cases hs : r.2.2.2.1 with
    | false =>
      simp only [Bool.not_false]
      exact ⟨_, fun _ => rfl, fresh⟩
    | true =>
      simp only [Bool.not_true]
      by_cases hne : n / 8 / 32 = r.2.2.1
      · have e2 : (n / 8 / 32 != r.2.2.1) = false := by simp [hne]
        simp only [e2, hb]
        refine ⟨r.2, fun e => hi e, ?_⟩
        have := hi hs
        rw [← hne] at this
        rw [this]
        exact go _
      · have e2 : (n / 8 / 32 != r.2.2.1) = true := by simp [hne]
        simp only [e2]
        exact ⟨_, fun _ => rfl, fresh⟩
end Go.PG
namespace Go.PG
/-! What is taken of a source. -/
def takeV (s : Src) (a : Int) : Nat → Int
  | 0 => 0
  | n + 1 => 2 * takeV s a n + bitAt s (a + n)
theorem takeV_range (s : Src) (a : Int) : ∀ n : Nat, 0 ≤ takeV s a n ∧ takeV s a n < 2 ^ n
  | 0 => by simp [takeV]
  | n + 1 => by
    have ih := takeV_range s a n
    have hb := bit_range s (a + n)
    simp only [takeV]
    rw [Int.pow_succ]
    omega
theorem takeV_set (s : Src) (x a : Int) : ∀ n : Nat, takeV (setAt s x) a n = takeV s a n
  | 0 => rfl
  | n + 1 => by simp only [takeV, takeV_set s x a n]; rfl
theorem takeV_add (s : Src) (a : Int) (m : Nat) : ∀ n : Nat, takeV s a (m + n) = takeV s a m * 2 ^ n + takeV s (a + m) n
  | 0 => by simp [takeV]
  | n + 1 => by
    have ih := takeV_add s a m n
    show 2 * takeV s a (m + n) + bitAt s (a + ((m + n : Nat) : Int)) = takeV s a m * 2 ^ (n + 1) + (2 * takeV s (a + m) n + bitAt s (a + m + n))
    rw [ih, Int.pow_succ, show a + ((m + n : Nat) : Int) = a + m + n by omega]
    generalize bitAt s (a + m + n) = b
    generalize takeV s (a + m) n = c
    generalize takeV s a m = d
    generalize (2 : Int) ^ n = p
    rw [Int.mul_add, ← Int.mul_assoc d p 2, Int.mul_comm (d * p) 2]
    omega
theorem pow_le_64 {n : Nat} (h : n ≤ 64) : (2 : Int) ^ n ≤ 18446744073709551616 := by
  have : (2 : Nat) ^ n ≤ 2 ^ 64 := Nat.pow_le_pow_right (by omega) h
  have e : ((2 ^ n : Nat) : Int) = (2 : Int) ^ n := by simp
  omega
theorem ior_shl1 {x b : Int} (hx : 0 ≤ x ∧ x < 9223372036854775808) (hb : 0 ≤ b ∧ b ≤ 1) : ior .u64 (ishl .u64 x 1) b = 2 * x + b := by
  obtain ⟨n, rfl⟩ : ∃ n : Nat, x = n := ⟨x.toNat, by omega⟩
  obtain ⟨c, rfl⟩ : ∃ c : Nat, b = c := ⟨b.toNat, by omega⟩
  have e2 : ishl .u64 (n : Int) 1 = ((n * 2 : Nat) : Int) := by
    unfold ishl
    rw [show (2 : Int) ^ (min (1 : Int).toNat IntKind.u64.bits) = 2 by decide, wrap_u64 (by omega) (by omega)]
    simp
  rw [e2, ior_u64, BitVec.ofInt_natCast, BitVec.ofInt_natCast, BitVec.toNat_or, BitVec.toNat_ofNat, BitVec.toNat_ofNat, Nat.mod_eq_of_lt (by omega), Nat.mod_eq_of_lt (by omega)]
  have h6 := Nat.shiftLeft_add_eq_or_of_lt (i := 1) (b := c) (by omega) n
  rw [Nat.shiftLeft_eq] at h6
  rw [show n * 2 = n * 2 ^ 1 by rfl, ← h6]
  simp; omega
theorem setAt_self (s : Src) : setAt s (atS s) = s := rfl
theorem setAt_set (s : Src) (x y : Int) : setAt (setAt s x) y = setAt s y := rfl
theorem atS_set (s : Src) (x : Int) : atS (setAt s x) = x := rfl
theorem bitAt_set (s : Src) (x n : Int) : bitAt (setAt s x) n = bitAt s n := rfl
theorem G106_eq (R : Type) {s : Src} (h : SOK s) {K : Nat} (hK : K ≤ 64) (hk : (s.1 = 1 ∧ atS s + K ≤ 8 * (s.2.1.length : Int)) ∨ s.1 = 2) (hat : atS s + K < 9000000000000000000) (x4 : Src) (k0 : Int → Src → Rdr → Option R) :
    ∀ (m i : Nat) (r : Rdr), i ≤ K → K - i < m → r.1 = setAt s (atS s + i) → RI r → ∃ q, G106_7 m R (takeV s (atS s) i) (K : Int) (i : Int) x4 r k0 = k0 (takeV s (atS s) K) x4 (setAt s (atS s + K), q)
  | 0, i, _, _, h, _, _ => by omega
  | m + 1, i, r, h1, h2, hr, hi => by
    simp only [G106_7, p106_7]
    have h0 := h.at_
    unfold U64 at h0
    have h0' : 0 ≤ atS s := h0.1
    by_cases hlt : i < K
    · have hd : decide ((i : Int) < (K : Int)) = true := by simpa using hlt
      simp only [hd]
      have hra : atS r.1 = atS s + i := by rw [hr]; rfl
      have hlen : r.1.2.1 = s.2.1 := by rw [hr]; rfl
      have hknd : r.1.1 = s.1 := by rw [hr]; rfl
      obtain ⟨q, g1, g2⟩ := F132_eq R (r := r) (by rw [hr]; exact h.set (by unfold U64; omega)) hi (by
        rw [hra, hlen, hknd]
        rcases hk with ⟨b1, b2⟩ | b1
        · exact .inl ⟨b1, by omega⟩
        · exact .inr b1) (by rw [hra]; omega) (fun y8 p9 => G106_7 m R (ior .u64 (ishl .u64 (takeV s (atS s) i) 1) y8) (K : Int) (IntKind.i64.wrap ((i : Int) + 1)) x4 p9 k0)
      have hv := takeV_range s (atS s) i
      have hp : (2 : Int) ^ i ≤ 9223372036854775808 := by
        have : (2 : Nat) ^ i ≤ 2 ^ 63 := Nat.pow_le_pow_right (by omega) (by omega)
        have e : ((2 ^ i : Nat) : Int) = (2 : Int) ^ i := by simp
        omega
      have hbt : bitAt r.1 (atS r.1) = bitAt s (atS s + i) := by rw [hra, hr]; rfl
      obtain ⟨q2, g3⟩ := G106_eq R h hK hk hat x4 k0 m (i + 1) (setAt r.1 (atS r.1 + 1), q) (by omega) (by omega) (by
        show setAt r.1 (atS r.1 + 1) = _
        rw [hra, hr, setAt_set]
        congr 1
        omega) g1
      refine ⟨q2, ?_⟩
      rw [g2, ior_shl1 ⟨hv.1, by omega⟩ (bit_range _ _), hbt, wrap_i64 (n := (i : Int) + 1) (by omega) (by omega)]
      exact g3
    · have : i = K := by omega
      subst this
      have hd : decide ((i : Int) < (i : Int)) = false := by simp
      simp only [hd]
      refine ⟨r.2, ?_⟩
      rw [← hr]
def takeR (s : Src) (k : Int) : Int × Src × Int :=
  if rightS' s = true ∧ 0 ≤ k ∧ k ≤ 64 then (if k ≤ leftS s then (takeV s (atS s) k.toNat, setAt s (atS s + k), 0) else (0, s, 8)) else (0, s, 1)
theorem right_room {s : Src} (hs : SOK s) (hr : rightS' s = true) {k : Nat} (hk : (k : Int) ≤ leftS s) : ((s.1 = 1 ∧ atS s + k ≤ 8 * (s.2.1.length : Int)) ∨ s.1 = 2) ∧ atS s + k < 9000000000000000000 := by
  have hl := left_ok hs
  have := hl.2.2 hr
  have hln := hs.len
  unfold atS
  rcases right_spec hr with ⟨a1, a2, a3, a4⟩ | ⟨a1, a2, a3⟩
  · rw [a4] at this
    exact ⟨.inl ⟨a1, by omega⟩, by omega⟩
  · exact ⟨.inr a1, by omega⟩
theorem F106_eq (R : Type) {s : Src} (hs : SOK s) {n : Int} (k : Int → Src → Int → Option R) : F106 R s n k = k (takeR s n).1 (takeR s n).2.1 (takeR s n).2.2 := by
  simp only [F106, p106]
  rw [F130_eq R hs]
  unfold takeR
  by_cases hr : rightS' s = true
  · simp only [hr, Bool.not_true, true_and]
    by_cases h1 : n < 0
    · rw [if_neg (by omega)]
      simp only [decide_eq_true h1]
    · simp only [decide_eq_false h1]
      by_cases h2 : n > 64
      · rw [if_neg (by omega)]
        simp only [decide_eq_true h2]
      · rw [if_pos (by omega)]
        simp only [decide_eq_false h2]
        rw [wrap_u64 (n := n) (by omega) (by omega), F131_eq R hs]
        by_cases h3 : n > leftS s
        · rw [if_neg (by omega)]
          simp only [decide_eq_true h3]
        · rw [if_pos (by omega)]
          simp only [decide_eq_false h3]
          obtain ⟨m, rfl⟩ : ∃ m : Nat, n = m := ⟨n.toNat, by omega⟩
          have hroom := right_room hs hr (k := m) (by omega)
          obtain ⟨q, g⟩ := G106_eq R hs (K := m) (by omega) hroom.1 hroom.2 (0, [], 0, List.replicate 32 0, 0, 0, ()) (fun x7 x8 x9 => k x7 x9.1 0) FUEL 0 (s, List.replicate 32 0, 0, false, ()) (by omega) (by rw [FUEL_eq]; omega) (by simp only [Int.natCast_zero, Int.add_zero]; rfl) (fun e => by cases e)
          refine g.trans ?_
          rw [Int.toNat_natCast]
  · simp only [Bool.not_eq_true] at hr
    simp [hr]
theorem G102_eq (R : Type) {s : Src} (h : SOK s) {K : Nat} (hK : K ≤ 64) (hk : (s.1 = 1 ∧ atS s + K ≤ 8 * (s.2.1.length : Int)) ∨ s.1 = 2) (hat : atS s + K < 9000000000000000000) (x5 : Src) (k0 : Int → Src → Src → Option R) :
    ∀ (m i : Nat), i ≤ K → K - i < m → G102_7 m R (K : Int) (takeV s (atS s) i) (i : Int) (setAt s (atS s + i)) x5 k0 = k0 (takeV s (atS s) K) (setAt s (atS s + K)) x5
  | 0, i, _, h => by omega
  | m + 1, i, h1, h2 => by
    simp only [G102_7, p102_7]
    have h0 := h.at_
    unfold U64 at h0
    have h0' : 0 ≤ atS s := h0.1
    by_cases hlt : i < K
    · have hd : decide ((i : Int) < (K : Int)) = true := by simpa using hlt
      have ih := G102_eq R h hK hk hat x5 k0 m (i + 1) (by omega) (by omega)
      simp only [hd]
      have hsi : SOK (setAt s (atS s + i)) := h.set (by unfold U64; omega)
      show (F129 R (setAt s (atS s + i)) (atS s + i) fun y8 => G102_7 m R (K : Int) (IntKind.u64.wrap (IntKind.u64.wrap (2 * takeV s (atS s) i) + y8)) (IntKind.i64.wrap ((i : Int) + 1)) (setAt (setAt s (atS s + i)) (IntKind.u64.wrap (atS s + i + 1))) x5 k0) = _
      rw [F129_eq R hsi (by unfold U64; omega) (by
        rcases hk with ⟨b1, b2⟩ | b1
        · exact .inl ⟨b1, by
            show atS s + i < 8 * (s.2.1.length : Int)
            omega⟩
        · exact .inr b1), bitAt_set, setAt_set]
      have hv := takeV_range s (atS s) i
      have hp : (2 : Int) ^ i ≤ 9223372036854775808 := by
        have : (2 : Nat) ^ i ≤ 2 ^ 63 := Nat.pow_le_pow_right (by omega) (by omega)
        have e : ((2 ^ i : Nat) : Int) = (2 : Int) ^ i := by simp
        omega
      have hb := bit_range s (atS s + i)
      rw [wrap_u64 (n := 2 * takeV s (atS s) i) (by omega) (by omega), wrap_u64 (n := 2 * takeV s (atS s) i + bitAt s (atS s + i)) (by omega) (by omega), wrap_i64 (n := (i : Int) + 1) (by omega) (by omega), wrap_u64 (n := atS s + i + 1) (by omega) (by omega), show atS s + (i : Int) + 1 = atS s + ((i + 1 : Nat) : Int) by omega]
      exact ih
    · have : i = K := by omega
      subst this
      have hd : decide ((i : Int) < (i : Int)) = false := by simp
      simp only [hd]
theorem F102_eq (R : Type) {s : Src} (hs : SOK s) {n : Int} (k : Int → Src → Int → Option R) : F102 R s n k = k (takeR s n).1 (takeR s n).2.1 (takeR s n).2.2 := by
  simp only [F102, p102]
  rw [F101_eq R hs]
  unfold takeR
  by_cases hr : rightS' s = true
  · simp only [hr, Bool.not_true, true_and]
    by_cases h1 : n < 0
    · rw [if_neg (by omega)]
      simp only [decide_eq_true h1]
    · simp only [decide_eq_false h1]
      by_cases h2 : n > 64
      · rw [if_neg (by omega)]
        simp only [decide_eq_true h2]
      · rw [if_pos (by omega)]
        simp only [decide_eq_false h2]
        rw [wrap_u64 (n := n) (by omega) (by omega), F128_eq R hs]
        by_cases h3 : n > leftS s
        · rw [if_neg (by omega)]
          simp only [decide_eq_true h3]
        · rw [if_pos (by omega)]
          simp only [decide_eq_false h3]
          obtain ⟨m, rfl⟩ : ∃ m : Nat, n = m := ⟨n.toNat, by omega⟩
          have hroom := right_room hs hr (k := m) (by omega)
          have g := G102_eq R hs (K := m) (by omega) hroom.1 hroom.2 (0, [], 0, List.replicate 32 0, 0, 0, ()) (fun x7 x8 x9 => k x7 x8 0) FUEL 0 (by omega) (by rw [FUEL_eq]; omega)
          have e0 : setAt s (atS s + ((0 : Nat) : Int)) = s := by rw [Int.natCast_zero, Int.add_zero]; rfl
          rw [e0] at g
          refine Eq.trans ?_ (g.trans ?_)
          · rfl
          · rw [Int.toNat_natCast]
  · simp only [Bool.not_eq_true] at hr
    simp [hr]
end Go.PG
namespace Go.PG
/-! The laws of tapes. -/
def sameS (a b : Src) : Bool := a.1 == b.1 && ((strOf a.2.1).toList == (strOf b.2.1).toList && (a.2.2.1 == b.2.2.1 && (Kd.eqv (.arr 32 (.int .u8)) a.2.2.2.1 b.2.2.2.1 && (a.2.2.2.2.1 == b.2.2.2.2.1 && a.2.2.2.2.2.1 == b.2.2.2.2.2.1))))
theorem sameS_self (a : Src) : sameS a a = true := by simp [sameS, eqv32]
theorem F21_eq (R : Type) (a b : Src) (k : Bool → Option R) : F21 R a b k = k (sameS a b) := by
  simp only [F21, p21, sameS]
  generalize (a.1 == b.1) = b1
  generalize ((strOf a.2.1).toList == (strOf b.2.1).toList) = b2
  generalize (a.2.2.1 == b.2.2.1) = b3
  generalize Kd.eqv (.arr 32 (.int .u8)) a.2.2.2.1 b.2.2.2.1 = b4
  generalize (a.2.2.2.2.1 == b.2.2.2.2.1) = b5
  cases b1 <;> cases b2 <;> cases b3 <;> cases b4 <;> cases b5 <;> rfl
structure SFit (s : Src) : Prop where
  tape : AllU8 s.2.1
  bits : U64 s.2.2.1
  seed : H32 s.2.2.2.1
  dom : U64 s.2.2.2.2.1
  at_ : U64 s.2.2.2.2.2.1
theorem SFit.ok {s : Src} (h : SFit s) (hl : s.2.1.length ≤ 1000000) : SOK s := ⟨h.tape, hl, h.bits, h.seed, h.dom, h.at_⟩
theorem fit_src {s : Src} (h : Fit (.pair (.int .i64) (.pair (.sl (.int .u8)) (.pair (.int .u64) (.pair (.arr 32 (.int .u8)) (.pair (.int .u64) (.pair (.int .u64) .unit)))))) s) : SFit s := by
  obtain ⟨_, ⟨_, h2⟩, h3, h4, h5, h6, _⟩ := h
  refine ⟨fun y hy => ?_, ?_, fit_h32 h4, ?_, ?_⟩
  · have := fit_u8 (h2 y hy); unfold U8; omega
  · have := fit_u64 h3; unfold U64; omega
  · have := fit_u64 h5; unfold U64; omega
  · have := fit_u64 h6; unfold U64; omega
def zeroSrc : Src := (0, [], 0, List.replicate 32 0, 0, 0, ())
def tapeSrc (b : List Int) (n : Int) : Src := (1, b, n, List.replicate 32 0, 0, 0, ())
theorem tapeSrc_ok {b : List Int} (hb : AllU8 b) (hl : b.length ≤ 1000000) {n : Int} (hn : U64 n) : SOK (tapeSrc b n) := ⟨hb, hl, hn, zero32_ok, by unfold U64 tapeSrc; simp, by unfold U64 tapeSrc; simp⟩
def tapeR (b : List Int) (n : Int) : Src × Int := if n ≤ 8 * (b.length : Int) then (tapeSrc b n, 0) else (zeroSrc, 1)
theorem F28_eq (R : Type) {b : List Int} (hl : b.length ≤ 1000000) (n : Int) (k : Src → Int → Option R) : F28 R b n k = k (tapeR b n).1 (tapeR b n).2 := by
  simp only [F28, p28]
  have hc : decide (List.length ([] : List Int) + b.length ≤ 140737488355328) = true := by simp; omega
  simp only [hc, List.nil_append]
  rw [wrap_u64 (n := (b.length : Int)) (by omega) (by omega), wrap_u64 (n := 8 * (b.length : Int)) (by omega) (by omega)]
  unfold tapeR
  by_cases h : n ≤ 8 * (b.length : Int)
  · have h' : ¬ n > 8 * (b.length : Int) := by omega
    rw [if_pos h]
    simp only [decide_eq_false h']
    rfl
  · have h' : n > 8 * (b.length : Int) := by omega
    rw [if_neg h]
    simp only [decide_eq_true h']
    rfl
def streamSrc (a : List Int) (d : Int) : Src := (2, [], 0, a, d, 0, ())
theorem streamSrc_ok {a : List Int} (ha : H32 a) {d : Int} (hd : U64 d) : SOK (streamSrc a d) := ⟨fun y hy => by simp [streamSrc] at hy, by simp [streamSrc], by unfold U64 streamSrc; simp, ha, hd, by unfold U64 streamSrc; simp⟩
theorem takeR_ok {s : Src} {n : Nat} (hr : rightS' s = true) (h1 : n ≤ 64) (h2 : (n : Int) ≤ leftS s) : takeR s n = (takeV s (atS s) n, setAt s (atS s + n), 0) := by
  unfold takeR
  rw [if_pos ⟨hr, by omega, by omega⟩, if_pos h2, Int.toNat_natCast]
theorem right_set {s : Src} (hs : SOK s) (hr : rightS' s = true) {k : Nat} (hk : (k : Int) ≤ leftS s) : rightS' (setAt s (atS s + k)) = true ∧ leftS (setAt s (atS s + k)) = leftS s - k := by
  have hl := (left_ok hs).2.2 hr
  have h0 : 0 ≤ s.2.2.2.2.2.1 := hs.at_.1
  have hR : rightS' (setAt s (atS s + k)) = true := by
    unfold rightS' atS
    rcases right_spec hr with ⟨a1, a2, a3, a4⟩ | ⟨a1, a2, a3⟩
    · rw [if_pos (show (setAt s (s.2.2.2.2.2.1 + k)).1 = 1 from a1)]
      rw [a4] at hl
      exact decide_eq_true ⟨a2, by show s.2.2.2.2.2.1 + k ≤ s.2.2.1; omega⟩
    · rw [if_neg (show ¬ (setAt s (s.2.2.2.2.2.1 + k)).1 = 1 by show ¬ s.1 = 1; omega)]
      rw [a3] at hl
      exact decide_eq_true ⟨a1, by show s.2.2.2.2.2.1 + k ≤ _; omega⟩
  refine ⟨hR, ?_⟩
  have e : leftS (setAt s (atS s + k)) = endS s - (s.2.2.2.2.2.1 + k) := by
    unfold leftS
    rw [if_pos hR]
    rfl
  rw [e]
  omega
end Go.PG
namespace Go.PG
/-! Numbers below a bound. -/
def blenF : Nat → Nat → Nat
  | 0, _ => 0
  | f + 1, x => if x = 0 then 0 else blenF f (x / 2) + 1
theorem blenF_spec : ∀ (f x : Nat), x < 2 ^ f → x < 2 ^ blenF f x ∧ (x ≠ 0 → 2 ^ (blenF f x - 1) ≤ x) ∧ blenF f x ≤ f
  | 0, x, h => by simp at h; subst h; simp [blenF]
  | f + 1, x, h => by
    rw [Nat.pow_succ] at h
    simp only [blenF]
    by_cases h0 : x = 0
    · subst h0; simp
    · rw [if_neg h0]
      obtain ⟨h1, h2, h3⟩ := blenF_spec f (x / 2) (by omega)
      refine ⟨?_, fun _ => ?_, by omega⟩
      · rw [Nat.pow_succ]; omega
      · rw [Nat.add_sub_cancel]
        by_cases hx : x / 2 = 0
        · have e : blenF f (x / 2) = 0 := by
            rw [hx]
            cases f with
            | zero => rfl
            | succ f => simp [blenF]
          rw [e, Nat.pow_zero]; omega
        · have := h2 hx
          have hb : blenF f (x / 2) ≠ 0 := fun e => by rw [e, Nat.pow_zero] at h1; omega
          obtain ⟨b, hb⟩ : ∃ b, blenF f (x / 2) = b + 1 := ⟨blenF f (x / 2) - 1, by omega⟩
          rw [hb, Nat.add_sub_cancel] at this
          rw [hb, Nat.pow_succ]
          omega
theorem G133_eq (R : Type) (k0 : Int → Option R) : ∀ (f m x c : Nat), x < 2 ^ f → f ≤ 64 → f < m → c + f ≤ 1000 → G133_1 m R (x : Int) (c : Int) k0 = k0 ((c + blenF f x : Nat) : Int)
  | _, 0, _, _, _, _, h, _ => by omega
  | 0, m + 1, x, c, h, _, _, _ => by
    simp at h; subst h
    simp only [G133_1, p133_1, blenF]
    rfl
  | f + 1, m + 1, x, c, h, hf, hm, hc => by
    simp only [G133_1, p133_1, blenF]
    rw [Nat.pow_succ] at h
    by_cases h0 : x = 0
    · subst h0
      simp
    · have e : ((x : Int) != 0) = true := by simp [h0]
      have e2 : ishr .u64 (x : Int) 1 = ((x / 2 : Nat) : Int) := by
        have := shr64 (x := (x : Int)) 1 (by omega)
        refine this.trans ?_
        omega
      simp only [e, if_neg h0]
      have ih := G133_eq R k0 f m (x / 2) (c + 1) (by omega) (by omega) (by omega) (by omega)
      rw [wrap_i64 (n := (c : Int) + 1) (by omega) (by omega), e2, show c + (blenF f (x / 2) + 1) = c + 1 + blenF f (x / 2) by omega]
      exact ih
theorem G75_eq (R : Type) (k0 : Int → Option R) : ∀ (f m x c : Nat), x < 2 ^ f → f ≤ 64 → f < m → c + f ≤ 1000 → G75_2 m R (x : Int) (c : Int) k0 = k0 ((c + blenF f x : Nat) : Int)
  | _, 0, _, _, _, _, h, _ => by omega
  | 0, m + 1, x, c, h, _, _, _ => by
    simp at h; subst h
    simp only [G75_2, p75_2, blenF]
    rfl
  | f + 1, m + 1, x, c, h, hf, hm, hc => by
    simp only [G75_2, p75_2, blenF]
    have hx64 : x < 2 ^ 64 := Nat.lt_of_lt_of_le h (Nat.pow_le_pow_right (by omega) hf)
    rw [Nat.pow_succ] at h
    by_cases h0 : x = 0
    · subst h0
      simp
    · have e : decide ((x : Int) > 0) = true := decide_eq_true (by omega)
      have e2 : IntKind.u64.wrap (Int.tdiv (x : Int) 2) = ((x / 2 : Nat) : Int) := by
        rw [Int.tdiv_eq_ediv_of_nonneg (by omega), wrap_u64 (by omega) (by omega)]
        omega
      simp only [e, if_neg h0, e2]
      have ih := G75_eq R k0 f m (x / 2) (c + 1) (by omega) (by omega) (by omega) (by omega)
      rw [wrap_i64 (n := (c : Int) + 1) (by omega) (by omega), show c + (blenF f (x / 2) + 1) = c + 1 + blenF f (x / 2) by omega]
      exact ih
def needS (n : Int) : Nat := blenF 64 (n - 1).toNat
theorem need_spec {n : Int} (hn : U64 n) : needS n ≤ 64 ∧ n ≤ 2 ^ needS n ∧ (2 ≤ n → 1 ≤ needS n ∧ (2 : Int) ^ (needS n - 1) < n) := by
  unfold U64 at hn
  obtain ⟨h1, h2, h3⟩ := blenF_spec 64 (n - 1).toNat (by omega)
  unfold needS
  generalize blenF 64 (n - 1).toNat = b at *
  have e : ∀ j : Nat, ((2 ^ j : Nat) : Int) = (2 : Int) ^ j := fun j => by simp
  refine ⟨h3, ?_, fun h => ⟨?_, ?_⟩⟩
  · rw [← e]; omega
  · cases b with
    | zero => rw [Nat.pow_zero] at h1; omega
    | succ b => omega
  · have := h2 (by omega)
    rw [← e]; omega
theorem F107_eq (R : Type) {n : Int} (hn : U64 n) (k : Int → Option R) : F107 R n k = k (needS n : Int) := by
  have hn' := hn
  unfold U64 at hn
  simp only [F107, p107, F133, p133]
  have e : IntKind.u64.wrap ((if (1 : Int) > n then (1 : Int) else n) - 1) = ((n - 1).toNat : Int) := by
    split
    · rw [wrap_u64 (by omega) (by omega)]; omega
    · rw [wrap_u64 (by omega) (by omega)]; omega
  rw [e]
  have := G133_eq R (fun x1 => k x1) 64 FUEL (n - 1).toNat 0 (by omega) (by omega) (by rw [FUEL_eq]; omega) (by omega)
  rw [Nat.zero_add] at this
  exact this
theorem F26_eq (R : Type) {n : Int} (hn : U64 n) (k : Int → Option R) : F26 R n k = k (needS n : Int) := by
  have hn' := hn
  unfold U64 at hn
  simp only [F26, p26, F75, p75]
  by_cases h0 : n = 0
  · subst h0; rfl
  · have e0 : (n == 0) = false := by simp [h0]
    simp only [e0]
    have e : IntKind.u64.wrap (n - 1) = ((n - 1).toNat : Int) := by
      rw [wrap_u64 (by omega) (by omega)]; omega
    rw [e]
    have := G75_eq R (fun x1 => k x1) 64 FUEL (n - 1).toNat 0 (by omega) (by omega) (by rw [FUEL_eq]; omega) (by omega)
    rw [Nat.zero_add] at this
    exact this
/-! Draws. -/
def drawF (n : Int) : Nat → Src → Int × Src × Int
  | 0, s => (0, s, 9)
  | m + 1, s => if (takeR s (needS n)).2.2 = 0 then (if (takeR s (needS n)).1 < n then ((takeR s (needS n)).1, (takeR s (needS n)).2.1, 0) else drawF n m (takeR s (needS n)).2.1) else (0, s, (takeR s (needS n)).2.2)
theorem takeR_ok1 {s : Src} (hs : SOK s) (k : Int) : SOK (takeR s k).2.1 := by
  unfold takeR
  split
  · rename_i h
    split
    · rename_i h2
      have hl := left_ok hs
      have h0 : 0 ≤ atS s := hs.at_.1
      have := right_room hs h.1 (k := k.toNat) (by omega)
      refine hs.set ?_
      unfold U64
      omega
    · exact hs
  · exact hs
theorem takeR_zero {s : Src} {k : Nat} (h : (takeR s k).2.2 = 0) : rightS' s = true ∧ k ≤ 64 ∧ (k : Int) ≤ leftS s ∧ takeR s k = (takeV s (atS s) k, setAt s (atS s + k), 0) := by
  unfold takeR at h
  split at h
  · rename_i h1
    split at h
    · rename_i h2
      exact ⟨h1.1, by omega, h2, takeR_ok h1.1 (by omega) h2⟩
    · simp at h
  · simp at h
theorem G70_eq (R : Type) {n : Int} (hn : U64 n) (a : Nat) (ha : a ≤ 64) (x5 : Src) (k0 : Int → Int → Src → Option R) (k1 : Src → Src → Option R) :
    ∀ (m i : Nat) (s : Src), i ≤ a → a - i < m → SOK s → (∀ y : Src, k1 y x5 = k0 0 9 y) → G70_4 m R n (a : Int) (i : Int) s x5 k0 k1 = k0 (drawF n (a - i) s).1 (drawF n (a - i) s).2.2 (drawF n (a - i) s).2.1
  | 0, i, _, _, h, _, _ => by omega
  | m + 1, i, s, h1, h2, hs, hk => by
    simp only [G70_4, p70_4]
    by_cases hi : i < a
    · have hd : decide ((i : Int) < (a : Int)) = true := by simpa using hi
      simp only [hd]
      rw [F107_eq R hn, F106_eq R hs, show a - i = (a - (i + 1)) + 1 by omega]
      simp only [drawF]
      have ih := G70_eq R hn a ha x5 k0 k1 m (i + 1) (takeR s (needS n)).2.1 (by omega) (by omega) (takeR_ok1 hs _) hk
      generalize takeR s (needS n) = t at *
      by_cases he : t.2.2 = 0
      · have e1 : (t.2.2 != 0) = false := by simp [he]
        simp only [e1, if_pos he]
        by_cases hx : t.1 < n
        · simp only [decide_eq_true hx, if_pos hx]
        · simp only [decide_eq_false hx, if_neg hx]
          rw [wrap_i64 (n := (i : Int) + 1) (by omega) (by omega)]
          exact ih
      · have e1 : (t.2.2 != 0) = true := by simp [he]
        simp only [e1, if_neg he]
    · have : i = a := by omega
      subst this
      have hd : decide ((i : Int) < (i : Int)) = false := by simp
      simp only [hd, Nat.sub_self, drawF]
      exact hk s
theorem G67_eq (R : Type) {n : Int} (hn : U64 n) (a : Nat) (ha : a ≤ 64) (x5 : Src) (k0 : Int → Int → Src → Option R) (k1 : Src → Src → Option R) :
    ∀ (m i : Nat) (s : Src), i ≤ a → a - i < m → SOK s → (∀ y : Src, k1 y x5 = k0 0 9 y) → G67_4 m R n (a : Int) (i : Int) s x5 k0 k1 = k0 (drawF n (a - i) s).1 (drawF n (a - i) s).2.2 (drawF n (a - i) s).2.1
  | 0, i, _, _, h, _, _ => by omega
  | m + 1, i, s, h1, h2, hs, hk => by
    simp only [G67_4, p67_4]
    by_cases hi : i < a
    · have hd : decide ((i : Int) < (a : Int)) = true := by simpa using hi
      simp only [hd]
      rw [F26_eq R hn, F102_eq R hs, show a - i = (a - (i + 1)) + 1 by omega]
      simp only [drawF]
      have ih := G67_eq R hn a ha x5 k0 k1 m (i + 1) (takeR s (needS n)).2.1 (by omega) (by omega) (takeR_ok1 hs _) hk
      generalize takeR s (needS n) = t at *
      by_cases he : t.2.2 = 0
      · have e1 : (t.2.2 != 0) = false := by simp [he]
        simp only [e1, if_pos he]
        by_cases hx : t.1 < n
        · simp only [decide_eq_true hx, if_pos hx]
        · simp only [decide_eq_false hx, if_neg hx]
          rw [wrap_i64 (n := (i : Int) + 1) (by omega) (by omega)]
          exact ih
      · have e1 : (t.2.2 != 0) = true := by simp [he]
        simp only [e1, if_neg he]
    · have : i = a := by omega
      subst this
      have hd : decide ((i : Int) < (i : Int)) = false := by simp
      simp only [hd, Nat.sub_self, drawF]
      exact hk s
def drawR (s : Src) (n m : Int) : Int × Src × Int := if rightS' s = true ∧ 0 < n ∧ n < 9223372036854775808 ∧ 0 < m ∧ m ≤ 64 then drawF n m.toNat s else (0, s, 1)
theorem F70_eq (R : Type) {s : Src} (hs : SOK s) {n : Int} (hn : U64 n) (m : Int) (k : Int → Src → Int → Option R) : F70 R s n m k = k (drawR s n m).1 (drawR s n m).2.1 (drawR s n m).2.2 := by
  simp only [F70, p70, F105, p105]
  rw [F130_eq R hs]
  unfold drawR
  by_cases hr : rightS' s = true
  · simp only [hr, true_and]
    by_cases h1 : n > 0
    · simp only [decide_eq_true h1]
      by_cases h2 : n < 9223372036854775808
      · simp only [decide_eq_true h2]
        by_cases h3 : m > 0
        · simp only [decide_eq_true h3]
          by_cases h4 : m ≤ 64
          · simp only [decide_eq_true h4, Bool.not_true]
            rw [if_pos ⟨h1, h2, h3, h4⟩]
            obtain ⟨a, rfl⟩ : ∃ a : Nat, m = a := ⟨m.toNat, by omega⟩
            rw [Int.toNat_natCast]
            exact G70_eq R hn a (by omega) (0, [], 0, List.replicate 32 0, 0, 0, ()) (fun x2 x3 x4 => k x2 x4 x3) (fun x5 x6 => k 0 x5 9) FUEL 0 s (by omega) (by rw [FUEL_eq]; omega) hs (fun y => rfl)
          · rw [if_neg (fun h => h4 h.2.2.2)]
            simp only [decide_eq_false h4, Bool.not_false]
        · rw [if_neg (fun h => h3 h.2.2.1)]
          simp only [decide_eq_false h3, Bool.not_false]
      · rw [if_neg (fun h => h2 h.2.1)]
        simp only [decide_eq_false h2, Bool.not_false]
    · rw [if_neg (fun h => h1 h.1)]
      simp only [decide_eq_false h1, Bool.not_false]
  · simp only [Bool.not_eq_true] at hr
    simp [hr]
theorem F67_eq (R : Type) {s : Src} (hs : SOK s) {n : Int} (hn : U64 n) (m : Int) (k : Int → Src → Int → Option R) : F67 R s n m k = k (drawR s n m).1 (drawR s n m).2.1 (drawR s n m).2.2 := by
  simp only [F67, p67]
  rw [F101_eq R hs]
  unfold drawR
  by_cases hr : rightS' s = true
  · simp only [hr, true_and, Bool.not_true]
    by_cases h1 : n < 1
    · rw [if_neg (by omega)]
      simp only [decide_eq_true h1]
    · simp only [decide_eq_false h1]
      by_cases h2 : n ≥ 9223372036854775808
      · rw [if_neg (by omega)]
        simp only [decide_eq_true h2]
      · simp only [decide_eq_false h2]
        by_cases h3 : m < 1
        · rw [if_neg (by omega)]
          simp only [decide_eq_true h3]
        · simp only [decide_eq_false h3]
          by_cases h4 : m > 64
          · rw [if_neg (by omega)]
            simp only [decide_eq_true h4]
          · rw [if_pos (by omega)]
            simp only [decide_eq_false h4]
            obtain ⟨a, rfl⟩ : ∃ a : Nat, m = a := ⟨m.toNat, by omega⟩
            rw [Int.toNat_natCast]
            exact G67_eq R hn a (by omega) (0, [], 0, List.replicate 32 0, 0, 0, ()) (fun x2 x3 x4 => k x2 x4 x3) (fun x5 x6 => k 0 x5 9) FUEL 0 s (by omega) (by rw [FUEL_eq]; omega) hs (fun y => rfl)
  · simp only [Bool.not_eq_true] at hr
    simp [hr]
end Go.PG
namespace Go.PG
/-! The laws of uniform numbers. -/
theorem G27_eq (R : Type) {x : Int} {n : Nat} (hn : n ≤ 1000) (hx : ∀ i ≤ n, 0 ≤ x ^ i ∧ x ^ i < 18446744073709551616) (k0 : Int → Option R) : ∀ (m i : Nat), i ≤ n → n - i < m → G27_3 m R x (n : Int) (x ^ i) (i : Int) k0 = k0 (x ^ n)
  | 0, i, _, h => by omega
  | m + 1, i, h1, h2 => by
    simp only [G27_3, p27_3]
    by_cases hi : i < n
    · have hd : decide ((i : Int) < (n : Int)) = true := by simpa using hi
      simp only [hd]
      have h3 := hx (i + 1) (by omega)
      have e : x ^ i * x = x ^ (i + 1) := (Int.pow_succ _ _).symm
      rw [e, wrap_u64 (n := x ^ (i + 1)) (by omega) (by omega), wrap_i64 (n := (i : Int) + 1) (by omega) (by omega)]
      exact G27_eq R hn hx k0 m (i + 1) (by omega) (by omega)
    · have : i = n := by omega
      subst this
      have hd : decide ((i : Int) < (i : Int)) = false := by simp
      simp only [hd]
theorem F27_eq (R : Type) {x : Int} {n : Nat} (hn : n ≤ 1000) (hx : ∀ i ≤ n, 0 ≤ x ^ i ∧ x ^ i < 18446744073709551616) (k : Int → Option R) : F27 R x (n : Int) k = k (x ^ n) := by
  simp only [F27, p27]
  have := G27_eq R hn hx (fun x1 => k x1) FUEL 0 (by omega) (by rw [FUEL_eq]; omega)
  rw [Int.pow_zero] at this
  exact this
theorem two_pow_ok {n : Nat} (hn : n ≤ 63) : ∀ i ≤ n, 0 ≤ (2 : Int) ^ i ∧ (2 : Int) ^ i < 18446744073709551616 := fun i hi => by
  have : (2 : Nat) ^ i ≤ 2 ^ 63 := Nat.pow_le_pow_right (by omega) (by omega)
  have e : ((2 ^ i : Nat) : Int) = (2 : Int) ^ i := by simp
  exact ⟨Int.le_of_lt (Int.pow_pos (by decide)), by omega⟩
theorem drawF_err {n : Int} : ∀ (m : Nat) (s : Src), (drawF n m s).2.2 ≠ 0 → (drawF n m s).1 = 0
  | 0, s, _ => rfl
  | m + 1, s, h => by
    simp only [drawF] at h ⊢
    split at h
    · rename_i h1
      rw [if_pos h1]
      split at h
      · exact absurd rfl h
      · rename_i h2
        rw [if_neg h2]
        exact drawF_err m _ h
    · rename_i h1
      rw [if_neg h1]
theorem drawF_ok {n : Int} : ∀ (m : Nat) (s : Src), (drawF n m s).2.2 = 0 → ∃ j, 1 ≤ j ∧ j ≤ m ∧ (drawF n m s).1 < n ∧ (drawF n m s).2.1 = setAt s (atS s + needS n * j) ∧ (needS n * j : Int) ≤ leftS s ∧ ∀ i < j, drawF n i s = (0, setAt s (atS s + needS n * i), 9)
  | 0, s, h => by simp [drawF] at h
  | m + 1, s, h => by
    simp only [drawF] at h ⊢
    split at h
    · rename_i h1
      obtain ⟨g1, g2, g3, g4⟩ := takeR_zero h1
      rw [if_pos h1]
      split at h
      · rename_i h2
        rw [if_pos h2]
        refine ⟨1, by omega, by omega, h2, ?_, by omega, fun i hi => ?_⟩
        · rw [g4]
          show setAt s (atS s + needS n) = setAt s (atS s + needS n * ((1 : Nat) : Int))
          rw [Int.natCast_one, Int.mul_one]
        · have : i = 0 := by omega
          subst this
          simp only [drawF, Int.natCast_zero, Int.mul_zero, Int.add_zero]
          rfl
      · rename_i h2
        rw [if_neg h2]
        have hmul : ∀ i : Nat, ((needS n : Nat) : Int) * ((i + 1 : Nat) : Int) = needS n + needS n * i := fun i => by
          rw [show ((i + 1 : Nat) : Int) = (i : Int) + 1 by omega, Int.mul_add, Int.mul_one, Int.add_comm]
        obtain ⟨j, j1, j2, j3, j4, j5, j6⟩ := drawF_ok m _ h
        refine ⟨j + 1, by omega, by omega, j3, ?_, ?_, fun i hi => ?_⟩
        · rw [j4, g4]
          show setAt (setAt s (atS s + needS n)) (atS s + needS n + needS n * j) = _
          rw [setAt_set, hmul, Int.add_assoc]
        · rw [g4] at j5
          have hle : leftS (setAt s (atS s + needS n)) ≤ leftS s - needS n := by
            unfold leftS at g3 ⊢
            rw [if_pos g1] at g3 ⊢
            split
            · show endS s - (atS s + needS n) ≤ endS s - atS s - needS n
              omega
            · show 0 ≤ endS s - atS s - needS n
              have : endS s - s.2.2.2.2.2.1 = endS s - atS s := rfl
              omega
          rw [hmul]
          have j5' : (needS n : Int) * j ≤ leftS (setAt s (atS s + needS n)) := j5
          omega
        · cases i with
          | zero =>
            simp only [drawF, Int.natCast_zero, Int.mul_zero, Int.add_zero]
            rfl
          | succ i =>
            have := j6 i (by omega)
            simp only [drawF]
            rw [if_pos h1, if_neg h2, this, g4]
            show (0, setAt (setAt s (atS s + needS n)) (atS s + needS n + needS n * i), 9) = _
            rw [setAt_set, hmul, Int.add_assoc]
    · rename_i h1
      exact absurd h h1
end Go.PG
namespace Go.PG
/-! All tapes: how many draw what. -/
def outO (b B : Nat) : Nat → Nat → Option Nat
  | 0, _ => none
  | t + 1, y => if y / B ^ t < b then some (y / B ^ t) else outO b B t (y % B ^ t)
def cnt (p : Nat → Bool) (n : Nat) : Nat := (List.range n).countP p
theorem cnt_add (p : Nat → Bool) (a m : Nat) : cnt p (a + m) = cnt p a + cnt (fun r => p (a + r)) m := by
  unfold cnt
  rw [List.range_add, List.countP_append, List.countP_map]
  rfl
theorem cnt_congr {p q : Nat → Bool} {n : Nat} (h : ∀ r, r < n → p r = q r) : cnt p n = cnt q n := by
  unfold cnt
  refine List.countP_congr (fun x hx => ?_)
  rw [h x (by simpa using hx)]
theorem cnt_const (c : Bool) (n : Nat) : cnt (fun _ => c) n = if c then n else 0 := by
  unfold cnt
  cases c
  · simp
  · simp
theorem cnt_succ (p : Nat → Bool) (n : Nat) : cnt p (n + 1) = cnt p n + (if p n then 1 else 0) := by
  unfold cnt
  rw [List.range_succ, List.countP_append]
  simp [List.countP_cons]
theorem out_block {b B t A r : Nat} (hB : 0 < B) (hr : r < B ^ t) : outO b B (t + 1) (A * B ^ t + r) = if A < b then some A else outO b B t r := by
  simp only [outO]
  have hp : 0 < B ^ t := Nat.pow_pos hB
  have e1 : (A * B ^ t + r) / B ^ t = A := by
    rw [Nat.mul_comm, Nat.mul_add_div hp, Nat.div_eq_of_lt hr, Nat.add_zero]
  have e2 : (A * B ^ t + r) % B ^ t = r := by
    rw [Nat.mul_comm, Nat.mul_add_mod, Nat.mod_eq_of_lt hr]
  rw [e1, e2]
theorem cnt_some {b B t v : Nat} (hB : 0 < B) (hv : v < b) : ∀ A : Nat, cnt (fun y => outO b B (t + 1) y == some v) (A * B ^ t) = (if v < A then B ^ t else 0) + (A - b) * cnt (fun y => outO b B t y == some v) (B ^ t)
  | 0 => by simp [cnt]
  | A + 1 => by
    rw [Nat.add_mul, Nat.one_mul, cnt_add, cnt_some hB hv A]
    by_cases hA : A < b
    · have e : cnt (fun r => outO b B (t + 1) (A * B ^ t + r) == some v) (B ^ t) = if A = v then B ^ t else 0 := by
        rw [cnt_congr (q := fun _ => decide (A = v)) (fun r hr => by rw [out_block hB hr, if_pos hA]; by_cases h : A = v <;> simp [h])]
        rw [cnt_const]
        simp
      rw [e, show A - b = 0 by omega, show A + 1 - b = 0 by omega, Nat.zero_mul, Nat.add_zero, Nat.add_zero]
      by_cases h : v < A
      · rw [if_pos h, if_neg (by omega), if_pos (by omega), Nat.add_zero]
      · rw [if_neg h, Nat.zero_add]
        by_cases h2 : A = v
        · rw [if_pos h2, if_pos (by omega)]
        · rw [if_neg h2, if_neg (by omega)]
    · have e : cnt (fun r => outO b B (t + 1) (A * B ^ t + r) == some v) (B ^ t) = cnt (fun y => outO b B t y == some v) (B ^ t) :=
        cnt_congr (fun r hr => by rw [out_block hB hr, if_neg hA])
      rw [e, if_pos (show v < A by omega), if_pos (show v < A + 1 by omega), show A + 1 - b = (A - b) + 1 by omega, Nat.add_mul, Nat.one_mul, Nat.add_assoc]
theorem cnt_none {b B t : Nat} (hB : 0 < B) : ∀ A : Nat, cnt (fun y => outO b B (t + 1) y == none) (A * B ^ t) = (A - b) * cnt (fun y => outO b B t y == none) (B ^ t)
  | 0 => by simp [cnt]
  | A + 1 => by
    rw [Nat.add_mul, Nat.one_mul, cnt_add, cnt_none hB A]
    by_cases hA : A < b
    · have e : cnt (fun r => outO b B (t + 1) (A * B ^ t + r) == none) (B ^ t) = 0 := by
        rw [cnt_congr (q := fun _ => false) (fun r hr => by rw [out_block hB hr, if_pos hA]; rfl)]
        rw [cnt_const]
        simp
      rw [e, show A - b = 0 by omega, show A + 1 - b = 0 by omega]
      simp
    · have e : cnt (fun r => outO b B (t + 1) (A * B ^ t + r) == none) (B ^ t) = cnt (fun y => outO b B t y == none) (B ^ t) :=
        cnt_congr (fun r hr => by rw [out_block hB hr, if_neg hA])
      rw [e, show A + 1 - b = (A - b) + 1 by omega, Nat.add_mul, Nat.one_mul]
theorem count_none {b B : Nat} (hB : 0 < B) : ∀ t : Nat, cnt (fun y => outO b B t y == none) (B ^ t) = (B - b) ^ t
  | 0 => by simp [cnt, outO]
  | t + 1 => by
    rw [Nat.pow_succ, Nat.mul_comm, cnt_none hB B, count_none hB t, Nat.pow_succ, Nat.mul_comm]
theorem count_some {b B v : Nat} (hB : 0 < B) (hb : b ≤ B) (hv : v < b) : ∀ t : Nat, cnt (fun y => outO b B t y == some v) (B ^ t) * b + (B - b) ^ t = B ^ t
  | 0 => by simp [cnt, outO]
  | t + 1 => by
    have ih := count_some hB hb hv t
    have e := cnt_some (t := t) hB hv B
    rw [if_pos (by omega)] at e
    have e2 : cnt (fun y => outO b B (t + 1) y == some v) (B ^ (t + 1)) = B ^ t + (B - b) * cnt (fun y => outO b B t y == some v) (B ^ t) := by
      rw [Nat.pow_succ, Nat.mul_comm (B ^ t) B]; exact e
    rw [e2]
    have h1 : (B - b) * (cnt (fun y => outO b B t y == some v) (B ^ t) * b + (B - b) ^ t) = (B - b) * B ^ t := by rw [ih]
    generalize cnt (fun y => outO b B t y == some v) (B ^ t) = c at *
    rw [Nat.mul_add, ← Nat.mul_assoc] at h1
    rw [Nat.add_mul, Nat.pow_succ (n := B - b), Nat.mul_comm ((B - b) ^ t) (B - b), Nat.add_assoc, h1, Nat.pow_succ, Nat.mul_comm (B ^ t) b, ← Nat.add_mul, Nat.mul_comm (B ^ t) B]
    congr 1
    omega

/-! The bytes of a number, as a tape. -/
def byteX (x T i q : Nat) : Nat := x / 2 ^ (T - 8 * q - min 8 (i - 8 * q)) % 2 ^ (min 8 (i - 8 * q)) * 2 ^ (8 - min 8 (i - 8 * q))
def bytesX (x T i : Nat) : List Int := (List.range ((i + 7) / 8)).map fun q => (byteX x T i q : Int)
theorem byteX_full {x T i q : Nat} (h : 8 * q + 8 ≤ i) : byteX x T (i + 1) q = byteX x T i q := by
  unfold byteX
  rw [show min 8 (i + 1 - 8 * q) = 8 by omega, show min 8 (i - 8 * q) = 8 by omega]
theorem byteX_step {x T i : Nat} (h : i < T) : byteX x T (i + 1) (i / 8) = byteX x T i (i / 8) + (x / 2 ^ (T - 1 - i) % 2) * 2 ^ (7 - i % 8) := by
  unfold byteX
  rw [show min 8 (i + 1 - 8 * (i / 8)) = i % 8 + 1 by omega, show min 8 (i - 8 * (i / 8)) = i % 8 by omega,
    show T - 8 * (i / 8) - (i % 8 + 1) = T - 1 - i by omega, show T - 8 * (i / 8) - i % 8 = (T - 1 - i) + 1 by omega, show 2 ^ (T - 1 - i + 1) = 2 ^ (T - 1 - i) * 2 by rw [Nat.pow_succ], ← Nat.div_div_eq_div_mul]
  generalize x / 2 ^ (T - 1 - i) = z
  have hc : i % 8 < 8 := Nat.mod_lt _ (by omega)
  generalize i % 8 = c at *
  have : c = 0 ∨ c = 1 ∨ c = 2 ∨ c = 3 ∨ c = 4 ∨ c = 5 ∨ c = 6 ∨ c = 7 := by omega
  rcases this with rfl | rfl | rfl | rfl | rfl | rfl | rfl | rfl <;> simp only [Nat.reduceAdd, Nat.reduceSub, Nat.reducePow] <;> omega
theorem byteX_zero {x T i : Nat} (h : i % 8 = 0) : byteX x T i (i / 8) = 0 := by
  unfold byteX
  rw [show min 8 (i - 8 * (i / 8)) = 0 by omega, Nat.pow_zero, Nat.mod_one, Nat.zero_mul]
theorem byteX_lt (x T i q : Nat) : byteX x T i q < 256 := by
  unfold byteX
  have hc : min 8 (i - 8 * q) ≤ 8 := by omega
  generalize min 8 (i - 8 * q) = c at *
  have h1 : x / 2 ^ (T - 8 * q - c) % 2 ^ c < 2 ^ c := Nat.mod_lt _ (Nat.pow_pos (by omega))
  generalize x / 2 ^ (T - 8 * q - c) % 2 ^ c = z at *
  have : z * 2 ^ (8 - c) < 2 ^ c * 2 ^ (8 - c) := Nat.mul_lt_mul_of_pos_right h1 (Nat.pow_pos (by omega))
  rw [← Nat.pow_add, show c + (8 - c) = 8 by omega] at this
  exact this
def rowX (x T i : Nat) : List Int := (List.range (i / 8 + 1)).map fun q => (byteX x T i q : Int)
theorem rowX_eq (x T i : Nat) : rowX x T i = if i % 8 = 0 then bytesX x T i ++ [0] else bytesX x T i := by
  unfold rowX bytesX
  by_cases h : i % 8 = 0
  · rw [if_pos h, show (i + 7) / 8 = i / 8 by omega, List.range_succ, List.map_append]
    simp [byteX_zero h]
  · rw [if_neg h, show (i + 7) / 8 = i / 8 + 1 by omega]
theorem bytesX_succ {x T i : Nat} (h : i < T) : bytesX x T (i + 1) = (rowX x T i).set (i / 8) (((byteX x T i (i / 8) + (x / 2 ^ (T - 1 - i) % 2) * 2 ^ (7 - i % 8) : Nat)) : Int) := by
  unfold bytesX rowX
  rw [show (i + 1 + 7) / 8 = i / 8 + 1 by omega]
  apply List.ext_getElem?
  intro q
  rw [List.getElem?_set, List.getElem?_map, List.getElem?_map]
  simp only [List.length_map, List.length_range]
  by_cases hq : q < i / 8 + 1
  · rw [List.getElem?_range hq]
    by_cases e : i / 8 = q
    · subst e
      rw [if_pos rfl, if_pos hq, ← byteX_step h]
      rfl
    · rw [if_neg e]
      simp only [Option.map_some]
      rw [byteX_full (by omega)]
  · rw [List.getElem?_eq_none (by simp; omega), if_neg (by omega)]
    rfl
theorem F77_eq (R : Type) {n : Nat} (hn : n ≤ 7) (k : Int → Option R) : F77 R 1 (n : Int) k = k ((2 ^ n : Nat) : Int) := by
  have go : ∀ (m i : Nat), i ≤ n → n - i < m → G77_4 m R ((2 ^ i : Nat) : Int) (n : Int) (i : Int) k = k ((2 ^ n : Nat) : Int) := by
    intro m
    induction m with
    | zero => intro i _ h; omega
    | succ m ih =>
      intro i h1 h2
      simp only [G77_4, p77_4]
      by_cases hi : i < n
      · have hd : decide ((i : Int) < (n : Int)) = true := by simpa using hi
        have hp : 2 ^ i ≤ 2 ^ 7 := Nat.pow_le_pow_right (by omega) (by omega)
        have hp0 : 0 < 2 ^ i := Nat.pow_pos (by omega)
        simp only [hd]
        have := ih (i + 1) (by omega) (by omega)
        rw [wrap_u32 (n := 2 * ((2 ^ i : Nat) : Int)) (by omega) (by omega), wrap_i64 (n := (i : Int) + 1) (by omega) (by omega), show (2 : Int) * ((2 ^ i : Nat) : Int) = ((2 ^ (i + 1) : Nat) : Int) by rw [Nat.pow_succ]; omega]
        exact this
      · have : i = n := by omega
        subst this
        have hd : decide ((i : Int) < (i : Int)) = false := by simp
        simp only [hd]
  simp only [F77, p77]
  have hd : decide ((n : Int) > 31) = false := decide_eq_false (by omega)
  simp only [hd]
  exact go FUEL 0 (by omega) (by rw [FUEL_eq]; omega)
end Go.PG
namespace Go.PG
theorem G29_eq (R : Type) {x T : Nat} (hT : T ≤ 12) (hx : x < 2 ^ T) (k0 : List Int → Option R) : ∀ (m i : Nat), i ≤ T → T - i < m → G29_3 m R (x : Int) (T : Int) (i : Int) (bytesX x T i) k0 = k0 (bytesX x T T)
  | 0, i, _, h => by omega
  | m + 1, i, h1, h2 => by
    simp only [G29_3, p29_3]
    by_cases hi : i < T
    · have hd : decide ((i : Int) < (T : Int)) = true := by simpa using hi
      simp only [hd]
      have h12 : 2 ^ T ≤ 2 ^ 12 := Nat.pow_le_pow_right (by omega) hT
      have ih := G29_eq R hT hx k0 m (i + 1) (by omega) (by omega)
      have em : Int.tmod (i : Int) 8 = ((i % 8 : Nat) : Int) := by rw [Int.tmod_eq_emod_of_nonneg (by omega)]; omega
      have ex : IntKind.u32.wrap (Int.tmod (x : Int) 4294967296) = (x : Int) := by rw [Int.tmod_eq_emod_of_nonneg (by omega), wrap_u32 (by omega) (by omega)]; omega
      have et : IntKind.i64.wrap (IntKind.i64.wrap ((T : Int) - 1) - i) = ((T - 1 - i : Nat) : Int) := by rw [wrap_i64 (n := (T : Int) - 1) (by omega) (by omega), wrap_i64 (by omega) (by omega)]; omega
      have eq : IntKind.i64.wrap (Int.tdiv (i : Int) 8) = ((i / 8 : Nat) : Int) := by rw [Int.tdiv_eq_ediv_of_nonneg (by omega), wrap_i64 (by omega) (by omega)]; omega
      have e7 : IntKind.i64.wrap (7 - ((i % 8 : Nat) : Int)) = ((7 - i % 8 : Nat) : Int) := by rw [wrap_i64 (by omega) (by omega)]; omega
      have ei : IntKind.i64.wrap ((i : Int) + 1) = ((i + 1 : Nat) : Int) := by rw [wrap_i64 (by omega) (by omega)]; omega
      have es : shrS (x : Int) (T - 1 - i) = ((x / 2 ^ (T - 1 - i) : Nat) : Int) := by
        unfold shrS
        rw [Int.natCast_ediv]
        simp
      have e2 : Int.tmod ((x / 2 ^ (T - 1 - i) : Nat) : Int) 2 = ((x / 2 ^ (T - 1 - i) % 2 : Nat) : Int) := by
        have : ∀ z : Nat, Int.tmod (z : Int) 2 = ((z % 2 : Nat) : Int) := fun z => by rw [Int.tmod_eq_emod_of_nonneg (by omega)]; omega
        exact this _
      simp only [em, ex, et, eq, e7, ei]
      have hrl : (rowX x T i).length = i / 8 + 1 := by simp [rowX]
      have hrg : (rowX x T i).getD (i / 8) 0 = (byteX x T i (i / 8) : Int) := by simp [rowX]
      have tail : (F76 R (x : Int) ((T - 1 - i : Nat) : Int) fun y14 =>
          match Int.tmod y14 2 == 1 with
          | true => match bnd ((i / 8 : Nat) : Int) ((rowX x T i).length : Int) with
            | true => F77 R 1 ((7 - i % 8 : Nat) : Int) fun y22 => match bnd ((i / 8 : Nat) : Int) ((rowX x T i).length : Int) with
              | true => G29_3 m R (x : Int) (T : Int) ((i + 1 : Nat) : Int) (List.set (rowX x T i) (Int.toNat ((i / 8 : Nat) : Int)) (IntKind.u8.wrap (List.getD (rowX x T i) (Int.toNat ((i / 8 : Nat) : Int)) 0 + IntKind.u8.wrap y22))) k0
              | false => none
            | false => none
          | false => G29_3 m R (x : Int) (T : Int) ((i + 1 : Nat) : Int) (rowX x T i) k0) = k0 (bytesX x T T) := by
        rw [F76_eq R (x := (x : Int)) (by unfold U32; omega) (by omega), es, e2]
        have hset := bytesX_succ (x := x) hi
        have hstep := byteX_step (x := x) hi
        have hlt := byteX_lt x T (i + 1) (i / 8)
        rw [hset] at ih
        have hb : x / 2 ^ (T - 1 - i) % 2 = 0 ∨ x / 2 ^ (T - 1 - i) % 2 = 1 := by omega
        rcases hb with hb | hb
        · rw [hb] at ih ⊢
          have e0 : (((0 : Nat) : Int) == 1) = false := rfl
          simp only [e0]
          have : (rowX x T i).set (i / 8) ((byteX x T i (i / 8) + 0 * 2 ^ (7 - i % 8) : Nat) : Int) = rowX x T i := by
            rw [Nat.zero_mul, Nat.add_zero, ← hrg]
            apply List.ext_getElem?
            intro q
            rw [List.getElem?_set]
            by_cases e : i / 8 = q
            · subst e
              rw [if_pos rfl, if_pos (by omega)]
              simp [hrl]
            · rw [if_neg e]
          rw [this] at ih
          exact ih
        · rw [hb] at ih hstep ⊢
          have e0 : (((1 : Nat) : Int) == 1) = true := rfl
          have hbn : bnd ((i / 8 : Nat) : Int) ((rowX x T i).length : Int) = true := by rw [hrl]; unfold bnd; simp; omega
          simp only [e0, hbn, Int.toNat_natCast, hrg]
          rw [F77_eq R (by omega)]
          rw [Nat.one_mul] at hstep ih
          have hpp : 0 < 2 ^ (7 - i % 8) := Nat.pow_pos (by omega)
          rw [wrap_u8 (n := ((2 ^ (7 - i % 8) : Nat) : Int)) (by omega) (by omega), wrap_u8 (by omega) (by omega), ← Int.natCast_add]
          exact ih
      by_cases h0 : i % 8 = 0
      · have e0 : (((i % 8 : Nat) : Int) == 0) = true := by rw [h0]; rfl
        have hc : decide (List.length (bytesX x T i) + List.length [(0 : Int)] ≤ 140737488355328) = true := by simp [bytesX]; omega
        have hr : bytesX x T i ++ [0] = rowX x T i := by rw [rowX_eq, if_pos h0]
        simp only [e0, hc, hr]
        exact tail
      · have e0 : (((i % 8 : Nat) : Int) == 0) = false := beq_eq_false_iff_ne.2 (by omega)
        have hr : bytesX x T i = rowX x T i := by rw [rowX_eq, if_neg h0]
        simp only [e0, hr]
        exact tail
    · have : i = T := by omega
      subst this
      have hd : decide ((i : Int) < (i : Int)) = false := by simp
      simp only [hd]
theorem F29_eq (R : Type) {x T : Nat} (hT : T ≤ 12) (hx : x < 2 ^ T) (k : List Int → Option R) : F29 R (x : Int) (T : Int) k = k (bytesX x T T) := by
  simp only [F29, p29]
  exact G29_eq R hT hx (fun x1 => k x1) FUEL 0 (by omega) (by rw [FUEL_eq]; omega)
theorem bytesX_u8 (x T i : Nat) : AllU8 (bytesX x T i) := fun y hy => by
  unfold bytesX at hy
  obtain ⟨q, _, rfl⟩ := List.mem_map.1 hy
  have := byteX_lt x T i q
  unfold U8
  omega
def tapeX (x T : Nat) : Src := tapeSrc (bytesX x T T) (T : Int)
theorem bit_tape {x T n : Nat} (hn : n < T) : bitAt (tapeX x T) (n : Int) = ((x / 2 ^ (T - 1 - n) % 2 : Nat) : Int) := by
  unfold bitAt
  rw [if_pos (show (tapeX x T).1 = 1 from rfl)]
  have e1 : ((n : Int) / 8).toNat = n / 8 := by omega
  have e2 : (7 - (n : Int) % 8).toNat = 7 - n % 8 := by omega
  have e3 : (tapeX x T).2.1.getD (n / 8) 0 = (byteX x T T (n / 8) : Int) := by
    show (bytesX x T T).getD (n / 8) 0 = _
    unfold bytesX
    simp [show n / 8 < (T + 7) / 8 by omega]
  rw [e1, e2, e3]
  have key : byteX x T T (n / 8) / 2 ^ (7 - n % 8) % 2 = x / 2 ^ (T - 1 - n) % 2 := by
    unfold byteX
    have hc : n % 8 < min 8 (T - 8 * (n / 8)) := by omega
    have hc8 : min 8 (T - 8 * (n / 8)) ≤ 8 := by omega
    have he : T - 1 - n = (T - 8 * (n / 8) - min 8 (T - 8 * (n / 8))) + (min 8 (T - 8 * (n / 8)) - 1 - n % 8) := by omega
    rw [he, Nat.pow_add, ← Nat.div_div_eq_div_mul]
    generalize min 8 (T - 8 * (n / 8)) = c at *
    generalize x / 2 ^ (T - 8 * (n / 8) - c) = z
    generalize n % 8 = r at *
    have : c = 1 ∨ c = 2 ∨ c = 3 ∨ c = 4 ∨ c = 5 ∨ c = 6 ∨ c = 7 ∨ c = 8 := by omega
    have : r = 0 ∨ r = 1 ∨ r = 2 ∨ r = 3 ∨ r = 4 ∨ r = 5 ∨ r = 6 ∨ r = 7 := by omega
    rcases ‹c = 1 ∨ _› with rfl | rfl | rfl | rfl | rfl | rfl | rfl | rfl <;> rcases ‹r = 0 ∨ _› with rfl | rfl | rfl | rfl | rfl | rfl | rfl | rfl <;> simp only [Nat.reduceAdd, Nat.reduceSub, Nat.reducePow] <;> omega
  rw [← key, Int.natCast_emod, Int.natCast_ediv]
  simp
theorem take_tape {x T : Nat} : ∀ (n a : Nat), a + n ≤ T → takeV (tapeX x T) (a : Int) n = ((x / 2 ^ (T - a - n) % 2 ^ n : Nat) : Int)
  | 0, a, _ => by simp [takeV, Nat.mod_one]
  | n + 1, a, h => by
    simp only [takeV]
    rw [take_tape n a (by omega), ← Int.natCast_add, bit_tape (n := a + n) (by omega)]
    rw [show T - a - n = (T - 1 - (a + n)) + 1 by omega, show T - a - (n + 1) = T - 1 - (a + n) by omega]
    rw [show 2 ^ (T - 1 - (a + n) + 1) = 2 ^ (T - 1 - (a + n)) * 2 by rw [Nat.pow_succ], ← Nat.div_div_eq_div_mul]
    generalize x / 2 ^ (T - 1 - (a + n)) = z
    have : z % 2 ^ (n + 1) = 2 * (z / 2 % 2 ^ n) + z % 2 := by
      rw [show 2 ^ (n + 1) = 2 * 2 ^ n by rw [Nat.pow_succ, Nat.mul_comm], Nat.mod_mul]
      omega
    rw [this]
    omega
end Go.PG
namespace Go.PG
theorem tapeX_len (x T : Nat) : (bytesX x T T).length = (T + 7) / 8 := by simp [bytesX]
theorem tapeX_ok (x : Nat) {T : Nat} (hT : T ≤ 12) : SOK (tapeX x T) := tapeSrc_ok (bytesX_u8 _ _ _) (by rw [tapeX_len]; omega) (by unfold U64; omega)
theorem tapeX_right (x : Nat) {T a : Nat} (ha : a ≤ T) : rightS' (setAt (tapeX x T) (a : Int)) = true ∧ leftS (setAt (tapeX x T) (a : Int)) = ((T - a : Nat) : Int) := by
  have hr : rightS' (setAt (tapeX x T) (a : Int)) = true := by
    unfold rightS'
    rw [if_pos (show (setAt (tapeX x T) (a : Int)).1 = 1 from rfl)]
    refine decide_eq_true ⟨?_, ?_⟩
    · show (T : Int) ≤ 8 * ((bytesX x T T).length : Int)
      rw [tapeX_len]; omega
    · show (a : Int) ≤ (T : Int)
      omega
  refine ⟨hr, ?_⟩
  unfold leftS
  rw [if_pos hr]
  show (T : Int) - (a : Int) = _
  omega
theorem draw_tape {b k x T : Nat} (hk : needS (b : Int) = k) (hk4 : k ≤ 64) (hT : T ≤ 12) : ∀ (t : Nat), k * t ≤ T →
    (∀ v, outO b (2 ^ k) t (x % (2 ^ k) ^ t) = some v → v < b ∧ ∃ a : Nat, a ≤ T ∧ drawF (b : Int) t (setAt (tapeX x T) ((T - k * t : Nat) : Int)) = ((v : Int), setAt (tapeX x T) (a : Int), 0)) ∧
    (outO b (2 ^ k) t (x % (2 ^ k) ^ t) = none → drawF (b : Int) t (setAt (tapeX x T) ((T - k * t : Nat) : Int)) = (0, setAt (tapeX x T) (T : Int), 9))
  | 0, _ => ⟨fun v h => by simp [outO] at h, fun _ => rfl⟩
  | t + 1, ht => by
    rw [Nat.mul_add, Nat.mul_one] at ht
    obtain ⟨i1, i2⟩ := draw_tape (x := x) hk hk4 hT t (by omega)
    have hr := tapeX_right x (T := T) (a := T - k * (t + 1)) (by omega)
    have hTa : T - (T - k * (t + 1)) = k * t + k := by rw [Nat.mul_add, Nat.mul_one]; omega
    have htk : takeR (setAt (tapeX x T) ((T - k * (t + 1) : Nat) : Int)) (needS (b : Int)) = (((x / (2 ^ k) ^ t % 2 ^ k : Nat) : Int), setAt (tapeX x T) ((T - k * t : Nat) : Int), 0) := by
      rw [hk, takeR_ok hr.1 hk4 (by rw [hr.2, hTa]; omega), atS_set, takeV_set, take_tape k (T - k * (t + 1)) (by rw [Nat.mul_add, Nat.mul_one]; omega), setAt_set, hTa, Nat.add_sub_cancel, ← Nat.pow_mul]
      congr 3
      rw [Nat.mul_add, Nat.mul_one]
      omega
    have hp : 0 < (2 ^ k) ^ t := Nat.pow_pos (Nat.pow_pos (by omega))
    have e1 : x % (2 ^ k) ^ (t + 1) / (2 ^ k) ^ t = x / (2 ^ k) ^ t % 2 ^ k := by
      rw [Nat.pow_succ, Nat.mod_mul_right_div_self]
    have e2 : x % (2 ^ k) ^ (t + 1) % (2 ^ k) ^ t = x % (2 ^ k) ^ t := by
      rw [Nat.pow_succ, Nat.mod_mul_right_mod]
    simp only [outO, e1, e2, drawF, htk]
    generalize x / (2 ^ k) ^ t % 2 ^ k = d at *
    by_cases hd : d < b
    · have hd' : (d : Int) < (b : Int) := by omega
      rw [if_pos hd]
      simp only [hd', if_true]
      refine ⟨fun v h => ?_, fun h => by cases h⟩
      cases h
      exact ⟨hd, T - k * t, by omega, rfl⟩
    · have hd' : ¬ (d : Int) < (b : Int) := by omega
      rw [if_neg hd]
      simp only [hd', if_true, if_false]
      exact ⟨i1, i2⟩
def gotS (b B t x : Nat) : List Int := (List.range 16).map fun v => ((cnt (fun y => outO b B t y == some v) x : Nat) : Int)
theorem cntX_le (p : Nat → Bool) (n : Nat) : cnt p n ≤ n := by
  unfold cnt
  have := List.countP_le_length (p := p) (l := List.range n)
  simpa using this
theorem gotS_get {b B t x v : Nat} (hv : v < 16) : (gotS b B t x).getD v 0 = ((cnt (fun y => outO b B t y == some v) x : Nat) : Int) := by
  unfold gotS
  simp [hv]
theorem gotS_some {b B t x v : Nat} (h : outO b B t x = some v) (hv : v < 16) : gotS b B t (x + 1) = (gotS b B t x).set v (((cnt (fun y => outO b B t y == some v) x : Nat) : Int) + 1) := by
  unfold gotS
  apply List.ext_getElem?
  intro q
  rw [List.getElem?_set, List.getElem?_map, List.getElem?_map]
  simp only [List.length_map, List.length_range]
  by_cases hq : q < 16
  · rw [List.getElem?_range hq]
    by_cases e : v = q
    · subst e
      rw [if_pos rfl, if_pos hq]
      simp only [Option.map_some]
      rw [cnt_succ]
      simp [h]
    · rw [if_neg e]
      simp only [Option.map_some]
      rw [cnt_succ]
      have : (outO b B t x == some q) = false := by rw [h]; simp [e]
      rw [this]
      simp
  · rw [List.getElem?_eq_none (by simp; omega), if_neg (by omega)]
    rfl
theorem gotS_none {b B t x : Nat} (h : outO b B t x = none) : gotS b B t (x + 1) = gotS b B t x := by
  unfold gotS
  refine List.map_congr_left (fun v _ => ?_)
  rw [cnt_succ]
  have : (outO b B t x == some v) = false := by rw [h]; rfl
  rw [this]
  simp
theorem gotS_zero (b B t : Nat) : gotS b B t 0 = List.replicate 16 0 := by
  unfold gotS cnt
  simp
  rfl
end Go.PG
namespace Go.PG
/-! Sums of stakes; the tree of stakes. -/
def sumS (l : List Int) (n : Nat) : Int := (l.take n).sum
theorem sumS_zero (l : List Int) : sumS l 0 = 0 := rfl
theorem sumS_succ {l : List Int} {i : Nat} (h : i < l.length) : sumS l (i + 1) = sumS l i + l.getD i 0 := by
  unfold sumS
  have et : l.take (i + 1) = l.take i ++ [l[i]] := by rw [List.take_succ_eq_append_getElem h]
  rw [et, List.sum_append]
  simp [h]
def AllU64 (l : List Int) : Prop := ∀ x ∈ l, U64 x
theorem u64_0 : U64 0 := by unfold U64; omega
theorem sumS_mono {l : List Int} (h : AllU64 l) {a : Nat} : ∀ d : Nat, sumS l a ≤ sumS l (a + d)
  | 0 => Int.le_refl _
  | d + 1 => by
    have ih := sumS_mono h (a := a) d
    by_cases hd : a + d < l.length
    · have := (getD_all h u64_0 (a + d)).1
      rw [← Nat.add_assoc, sumS_succ hd]
      omega
    · have e : sumS l (a + (d + 1)) = sumS l (a + d) := by
        unfold sumS
        rw [List.take_of_length_le (by omega), List.take_of_length_le (by omega)]
      rw [e]; exact ih
theorem sumS_le {l : List Int} (h : AllU64 l) {a b : Nat} (hab : a ≤ b) : sumS l a ≤ sumS l b := by
  have := sumS_mono h (a := a) (b - a)
  rwa [show a + (b - a) = b by omega] at this
theorem sumS_nonneg {l : List Int} (h : AllU64 l) (n : Nat) : 0 ≤ sumS l n := by
  have := sumS_le h (Nat.zero_le n)
  rwa [sumS_zero] at this
def totS (l : List Int) : Int := sumS l l.length
theorem sumS_tot {l : List Int} (h : AllU64 l) (n : Nat) : sumS l n ≤ totS l := by
  by_cases hn : n ≤ l.length
  · exact sumS_le h hn
  · unfold totS sumS
    rw [List.take_of_length_le (by omega), List.take_length]
    exact Int.le_refl _

/-! The lowest bit. -/
def lowF : Nat → Nat → Nat
  | 0, _ => 1
  | f + 1, n => if n % 2 = 0 then 2 * lowF f (n / 2) else 1
def lowN (n : Nat) : Nat := lowF 20 n
def ALLN : List Nat := List.range' 1 1000
theorem low_check : (ALLN.all fun n => decide (iand .i64 (n : Int) (IntKind.i64.wrap (0 - (n : Int))) = (lowN n : Int)) && decide (1 ≤ lowN n ∧ lowN n ≤ n)) = true := by kernel_rfl
theorem low_ok {n : Nat} (h1 : 1 ≤ n) (h2 : n ≤ 1000) : iand .i64 (n : Int) (IntKind.i64.wrap (0 - (n : Int))) = (lowN n : Int) ∧ 1 ≤ lowN n ∧ lowN n ≤ n := by
  have := List.all_eq_true.1 low_check n (by unfold ALLN; rw [List.mem_range']; exact ⟨n - 1, by omega, by omega⟩)
  simp only [Bool.and_eq_true, decide_eq_true_eq] at this
  exact ⟨this.1, this.2⟩
theorem F99_eq (R : Type) {n : Nat} (h1 : 1 ≤ n) (h2 : n ≤ 1000) (k : Int → Option R) : F99 R (n : Int) k = k (lowN n : Int) := by
  simp only [F99, p99]
  rw [(low_ok h1 h2).1]
theorem G74_eq' (R : Type) (k0 : Int → Option R) : ∀ (f m n b : Nat), 1 ≤ n → n < 2 ^ f → f < m → n * b ≤ 1000000 → 1 ≤ b → G74_2 m R (n : Int) (b : Int) k0 = k0 ((b * lowF f n : Nat) : Int)
  | _, 0, _, _, _, _, h, _, _ => by omega
  | 0, m + 1, n, b, h1, h2, _, _, _ => by simp at h2; omega
  | f + 1, m + 1, n, b, h1, h2, h3, h4, h5 => by
    simp only [G74_2, p74_2, lowF]
    rw [Nat.pow_succ] at h2
    rw [Int.tmod_eq_emod_of_nonneg (by omega)]
    have hbn : b ≤ n * b := Nat.le_mul_of_pos_left b (by omega)
    have hnn : n ≤ n * b := Nat.le_mul_of_pos_right n (by omega)
    by_cases h0 : n % 2 = 0
    · have e : ((n : Int) % 2 == 0) = true := by
        have : (n : Int) % 2 = 0 := by omega
        simp [this]
      have hle : n / 2 * (2 * b) ≤ 1000000 := by
        have : n / 2 * (2 * b) = n / 2 * 2 * b := by rw [Nat.mul_assoc]
        rw [this, show n / 2 * 2 = n by omega]; exact h4
      have ih := G74_eq' R k0 f m (n / 2) (2 * b) (by omega) (by omega) (by omega) hle (by omega)
      simp only [e, if_pos h0]
      rw [Int.tdiv_eq_ediv_of_nonneg (by omega), wrap_i64 (n := (n : Int) / 2) (by omega) (by omega), wrap_i64 (n := 2 * (b : Int)) (by omega) (by omega), show (n : Int) / 2 = ((n / 2 : Nat) : Int) by omega, show 2 * (b : Int) = ((2 * b : Nat) : Int) by omega, ih]
      congr 2
      rw [← Nat.mul_assoc, Nat.mul_comm b 2]
    · have e : ((n : Int) % 2 == 0) = false := beq_eq_false_iff_ne.2 (by omega)
      simp only [e, if_neg h0, Nat.mul_one]
theorem F74_eq' (R : Type) {n : Nat} (h1 : 1 ≤ n) (h2 : n ≤ 1000) (k : Int → Option R) : F74 R (n : Int) k = k (lowN n : Int) := by
  simp only [F74, p74]
  have := G74_eq' R (fun x1 => k x1) 20 FUEL n 1 h1 (by omega) (by rw [FUEL_eq]; omega) (by omega) (Nat.le_refl _)
  rw [Nat.one_mul] at this
  exact this
theorem low_even (m : Nat) (h1 : 1 ≤ m) (h2 : m ≤ 500) : lowN (2 * m) = 2 * lowN m := by
  have : (List.range' 1 500).all (fun m => decide (lowN (2 * m) = 2 * lowN m)) = true := by kernel_rfl
  have := List.all_eq_true.1 this m (by rw [List.mem_range']; exact ⟨m - 1, by omega, by omega⟩)
  exact of_decide_eq_true this
theorem low_odd (m : Nat) : lowN (2 * m + 1) = 1 := by
  unfold lowN lowF
  rw [if_neg (by omega)]
theorem low_pow : ∀ (k q : Nat), (2 * q + 1) * 2 ^ k ≤ 1000 → lowN ((2 * q + 1) * 2 ^ k) = 2 ^ k
  | 0, q, _ => by rw [Nat.pow_zero, Nat.mul_one, low_odd]
  | k + 1, q, h => by
    rw [Nat.pow_succ, ← Nat.mul_assoc] at h
    have hp : 0 < (2 * q + 1) * 2 ^ k := Nat.mul_pos (by omega) (Nat.pow_pos (by omega))
    rw [Nat.pow_succ, ← Nat.mul_assoc, Nat.mul_comm _ 2, low_even _ hp (by omega), low_pow k q (by omega), Nat.mul_comm]

/-! The tree. -/
def nodeS (l : List Int) (q : Nat) : Int := sumS l (q + 1) - sumS l (q + 1 - lowN (q + 1))
def treeS (l : List Int) : List Int := (List.range l.length).map (nodeS l)
theorem treeS_len (l : List Int) : (treeS l).length = l.length := by simp [treeS]
theorem treeS_get {l : List Int} {q : Nat} (h : q < l.length) : (treeS l).getD q 0 = nodeS l q := by
  simp [treeS, h]
theorem node_range {l : List Int} (h : AllU64 l) (ht : totS l < 9223372036854775808) (q : Nat) : 0 ≤ nodeS l q ∧ nodeS l q < 9223372036854775808 := by
  have h1 := sumS_le h (a := q + 1 - lowN (q + 1)) (b := q + 1) (by omega)
  have h2 := sumS_nonneg h (q + 1 - lowN (q + 1))
  have h3 := sumS_tot h (q + 1)
  unfold nodeS
  omega
theorem G73_eq' (R : Type) {l : List Int} (h : AllU64 l) (ht : totS l < 9223372036854775808) (hlen : l.length ≤ 1000) (b a : Nat) (hb : b ≤ l.length) (k0 : Int → Option R) : ∀ (m i : Nat), a ≤ i → i ≤ b → b - i < m → G73_3 m R l (b : Int) (sumS l i - sumS l a) (i : Int) k0 = k0 (sumS l b - sumS l a)
  | 0, i, _, _, h => by omega
  | m + 1, i, h0, h1, h2 => by
    simp only [G73_3, p73_3]
    by_cases hi : i < b
    · have hd : decide ((i : Int) < (b : Int)) = true := by simpa using hi
      have hbn : bnd (i : Int) (l.length : Int) = true := by unfold bnd; simp; omega
      have q1 := sumS_le h h0
      have q2 := sumS_tot h (i + 1)
      have q3 := sumS_succ (l := l) (i := i) (by omega)
      have q4 := sumS_nonneg h a
      have q5 := (getD_all h u64_0 i).1
      simp only [hd, hbn, Int.toNat_natCast]
      rw [wrap_u64 (n := sumS l i - sumS l a + l.getD i 0) (by omega) (by omega), wrap_i64 (n := (i : Int) + 1) (by omega) (by omega), show sumS l i - sumS l a + l.getD i 0 = sumS l (i + 1) - sumS l a by omega]
      exact G73_eq' R h ht hlen b a hb k0 m (i + 1) (by omega) (by omega) (by omega)
    · have : i = b := by omega
      subst this
      have hd : decide ((i : Int) < (i : Int)) = false := by simp
      simp only [hd]
theorem F73_eq' (R : Type) {l : List Int} (h : AllU64 l) (ht : totS l < 9223372036854775808) (hlen : l.length ≤ 1000) {a b : Nat} (hab : a ≤ b) (hb : b ≤ l.length) (k : Int → Option R) : F73 R l (a : Int) (b : Int) k = k (sumS l b - sumS l a) := by
  simp only [F73, p73]
  have := G73_eq' R h ht hlen b a hb (fun x1 => k x1) FUEL a (Nat.le_refl _) hab (by rw [FUEL_eq]; omega)
  rw [Int.sub_self] at this
  exact this
theorem G25_eq (R : Type) {l : List Int} (h : AllU64 l) (ht : totS l < 9223372036854775808) (hlen : l.length ≤ 500) (x3 : List Int × Unit) (k0 : (List Int × Unit) → List Int → Unit → Option R) : ∀ (m i : Nat), i ≤ l.length → l.length - i < m →
    G25_3 m R l (i : Int) x3 ((List.range i).map (nodeS l)) () k0 = k0 x3 (treeS l) ()
  | 0, i, _, h => by omega
  | m + 1, i, h1, h2 => by
    simp only [G25_3, p25_3]
    by_cases hi : i < l.length
    · have hd : decide ((i : Int) < (l.length : Int)) = true := by simpa using hi
      simp only [hd]
      have hl := low_ok (n := i + 1) (by omega) (by omega)
      rw [wrap_i64 (n := (i : Int) + 1) (by omega) (by omega), show (i : Int) + 1 = ((i + 1 : Nat) : Int) by omega, F74_eq' R (by omega) (by omega), wrap_i64 (n := ((i + 1 : Nat) : Int) - (lowN (i + 1) : Int)) (by omega) (by omega), show ((i + 1 : Nat) : Int) - (lowN (i + 1) : Int) = ((i + 1 - lowN (i + 1) : Nat) : Int) by omega, F73_eq' R h ht (by omega) (by omega) (by omega)]
      have hc : ∀ y : Int, decide (List.length ((List.range i).map (nodeS l)) + List.length [y] ≤ 17592186044416) = true := fun y => by simp; omega
      simp only [hc]
      have e : (List.range i).map (nodeS l) ++ [sumS l (i + 1) - sumS l (i + 1 - lowN (i + 1))] = (List.range (i + 1)).map (nodeS l) := by
        rw [List.range_succ, List.map_append]; rfl
      rw [e]
      exact G25_eq R h ht hlen x3 k0 m (i + 1) (by omega) (by omega)
    · have : i = l.length := by omega
      subst this
      have hd : decide ((l.length : Int) < (l.length : Int)) = false := by simp
      simp only [hd]
      rfl
theorem F25_eq (R : Type) {l : List Int} (h : AllU64 l) (ht : totS l < 9223372036854775808) (hlen : l.length ≤ 500) (k : (List Int × Unit) → Option R) : F25 R l k = k (treeS l, ()) := by
  simp only [F25, p25]
  exact G25_eq R h ht hlen ([], ()) (fun x1 x2 x3 => k (x2, ())) FUEL 0 (by omega) (by rw [FUEL_eq]; omega)

/-! Prefixes. -/
theorem G103_eq (R : Type) {l : List Int} (h : AllU64 l) (ht : totS l < 9223372036854775808) (hlen : l.length ≤ 500) (k0 : Int → Option R) (n0 : Nat) (hn0 : n0 ≤ l.length) : ∀ (m n : Nat), n ≤ n0 → n < m → G103_1 m R (n : Int) (sumS l n0 - sumS l n) (treeS l, ()) k0 = k0 (sumS l n0)
  | 0, n, _, h => by omega
  | m + 1, n, h1, h2 => by
    simp only [G103_1, p103_1]
    by_cases hn : n = 0
    · subst hn
      have hd : decide (((0 : Nat) : Int) > 0) = false := by simp
      simp only [hd, sumS_zero, Int.sub_zero]
    · have hd : decide ((n : Int) > 0) = true := decide_eq_true (by omega)
      have hl := low_ok (n := n) (by omega) (by omega)
      rw [wrap_i64 (n := (n : Int) - 1) (by omega) (by omega), show (n : Int) - 1 = ((n - 1 : Nat) : Int) by omega]
      have hbn : bnd ((n - 1 : Nat) : Int) ((treeS l).length : Int) = true := by rw [treeS_len]; unfold bnd; simp; omega
      simp only [hd, hbn, Int.toNat_natCast]
      rw [treeS_get (by omega), F99_eq R (by omega) (by omega)]
      have e : nodeS l (n - 1) = sumS l n - sumS l (n - lowN n) := by
        unfold nodeS
        rw [show n - 1 + 1 = n by omega]
      have q1 := sumS_le h (a := n - lowN n) (b := n) (by omega)
      have q2 := sumS_nonneg h (n - lowN n)
      have q3 := sumS_tot h n0
      have q4 := sumS_le h h1
      rw [e, wrap_u64 (n := sumS l n0 - sumS l n + (sumS l n - sumS l (n - lowN n))) (by omega) (by omega), wrap_i64 (n := (n : Int) - (lowN n : Int)) (by omega) (by omega), show (n : Int) - (lowN n : Int) = ((n - lowN n : Nat) : Int) by omega, show sumS l n0 - sumS l n + (sumS l n - sumS l (n - lowN n)) = sumS l n0 - sumS l (n - lowN n) by omega]
      exact G103_eq R h ht hlen k0 n0 hn0 m (n - lowN n) (by omega) (by omega)
theorem F69_eq (R : Type) {l : List Int} (h : AllU64 l) (ht : totS l < 9223372036854775808) (hlen : l.length ≤ 500) (k : Int → Option R) : F69 R (treeS l, ()) k = k (totS l) := by
  simp only [F69, p69, F104, p104, F103, p103, treeS_len]
  have := G103_eq R h ht hlen (fun x1 => k x1) l.length (Nat.le_refl _) FUEL l.length (Nat.le_refl _) (by rw [FUEL_eq]; omega)
  rw [Int.sub_self] at this
  exact this

/-! Who owns a ticket. -/
def Owns (l : List Int) (x : Int) (i : Nat) : Prop := i < l.length ∧ sumS l i ≤ x ∧ x < sumS l (i + 1)
theorem Owns.uniq {l : List Int} (h : AllU64 l) {x : Int} {i j : Nat} (hi : Owns l x i) (hj : Owns l x j) : i = j := by
  obtain ⟨a1, a2, a3⟩ := hi
  obtain ⟨b1, b2, b3⟩ := hj
  rcases Nat.lt_trichotomy i j with h1 | h1 | h1
  · have := sumS_le h (a := i + 1) (b := j) (by omega); omega
  · exact h1
  · have := sumS_le h (a := j + 1) (b := i) (by omega); omega
theorem G71_4_eq (R : Type) {n : Nat} (hn : n ≤ 500) (t : List Int × Unit) (htl : t.1.length = n) (x : Int) (k0 : Int → Int → Int → (List Int × Unit) → Option R) : ∀ (m k : Nat), 2 ^ k ≤ n ∨ k = 0 → n + 2 < m + 2 ^ k → ∃ j, n < 2 ^ (j + 1) ∧ (2 ^ j ≤ n ∨ j = 0) ∧ G71_4 m R x 0 ((2 ^ k : Nat) : Int) t k0 = k0 x 0 ((2 ^ j : Nat) : Int) t
  | 0, k, h1, h2 => by
    rcases h1 with h1 | rfl
    · omega
    · rw [Nat.pow_zero] at h2; omega
  | m + 1, k, h1, h2 => by
    simp only [G71_4, p71_4, F104, p104, htl]
    have hpp : 0 < 2 ^ k := Nat.pow_pos (by omega)
    have hp : 2 ^ k ≤ 500 := by
      rcases h1 with h1 | rfl
      · omega
      · rw [Nat.pow_zero]; omega
    have e : ishl .i64 ((2 ^ k : Nat) : Int) 1 = ((2 ^ (k + 1) : Nat) : Int) := by
      unfold ishl
      rw [show (2 : Int) ^ (min (1 : Int).toNat IntKind.i64.bits) = 2 by decide, Nat.pow_succ]
      generalize 2 ^ k = p at *
      rw [wrap_i64 (by omega) (by omega)]; omega
    rw [e]
    by_cases hk : 2 ^ (k + 1) ≤ n
    · have hd : decide (((2 ^ (k + 1) : Nat) : Int) ≤ (n : Int)) = true := decide_eq_true (by omega)
      simp only [hd]
      exact G71_4_eq R hn t htl x k0 m (k + 1) (.inl hk) (by rw [Nat.pow_succ]; omega)
    · have hd : decide (((2 ^ (k + 1) : Nat) : Int) ≤ (n : Int)) = false := decide_eq_false (by omega)
      simp only [hd]
      exact ⟨k, by omega, h1, rfl⟩
theorem G71_6_eq (R : Type) {l : List Int} (h : AllU64 l) (ht : totS l < 9223372036854775808) (hlen : l.length ≤ 400) {x : Int} (hx : 0 ≤ x ∧ x < totS l) (k0 : Int → Option R) : ∀ (m k q : Nat), 2 ^ (k + 1) * q ≤ l.length → 2 ^ k ≤ 500 → sumS l (2 ^ (k + 1) * q) ≤ x → (l.length < 2 ^ (k + 1) * q + 2 ^ (k + 1) ∨ x < sumS l (2 ^ (k + 1) * q + 2 ^ (k + 1))) → k + 1 < m →
    ∃ i, Owns l x i ∧ G71_6 m R (x - sumS l (2 ^ (k + 1) * q)) ((2 ^ (k + 1) * q : Nat) : Int) ((2 ^ k : Nat) : Int) (treeS l, ()) k0 = k0 (i : Int)
  | 0, _, _, _, _, _, _, h => by omega
  | m + 1, k, q, h1, h2, h3, h4, h5 => by
    have hpp : 0 < 2 ^ k := Nat.pow_pos (by omega)
    have e1 : 2 ^ (k + 1) * q = 2 ^ k * (2 * q) := by rw [Nat.pow_succ, Nat.mul_assoc]
    have hlow : 2 ^ (k + 1) * q + 2 ^ k ≤ 1000 → lowN (2 ^ (k + 1) * q + 2 ^ k) = 2 ^ k := fun hh => by
      have e2 : 2 ^ (k + 1) * q + 2 ^ k = (2 * q + 1) * 2 ^ k := by rw [e1, Nat.add_mul, Nat.one_mul, Nat.mul_comm (2 * q)]
      rw [e2] at hh ⊢
      exact low_pow k q hh
    simp only [G71_6, p71_6, F104, p104, treeS_len]
    have hd : decide (((2 ^ k : Nat) : Int) > 0) = true := decide_eq_true (by omega)
    have eshr : ishr .i64 ((2 ^ k : Nat) : Int) 1 = ((2 ^ k / 2 : Nat) : Int) := by
      unfold ishr
      rw [show (2 : Int) ^ (min (1 : Int).toNat IntKind.i64.bits) = 2 by decide, Int.fdiv_eq_ediv_of_nonneg _ (by omega)]
      omega
    simp only [hd, eshr]
    rw [wrap_i64 (n := ((2 ^ (k + 1) * q : Nat) : Int) + ((2 ^ k : Nat) : Int)) (by omega) (by omega), show ((2 ^ (k + 1) * q : Nat) : Int) + ((2 ^ k : Nat) : Int) = ((2 ^ (k + 1) * q + 2 ^ k : Nat) : Int) by omega]
    -- what comes behind, for the next step
    have next : ∀ (q' : Nat) (_ : 2 ^ k * q' ≤ l.length) (_ : sumS l (2 ^ k * q') ≤ x) (_ : l.length < 2 ^ k * q' + 2 ^ k ∨ x < sumS l (2 ^ k * q' + 2 ^ k)),
        ∃ i, Owns l x i ∧ G71_6 m R (x - sumS l (2 ^ k * q')) ((2 ^ k * q' : Nat) : Int) ((2 ^ k / 2 : Nat) : Int) (treeS l, ()) k0 = k0 (i : Int) := by
      intro q' g1 g2 g3
      cases k with
      | zero =>
        rw [Nat.pow_zero, Nat.one_mul] at g1 g2 g3 ⊢
        have hlt : q' < l.length := by
          refine Classical.byContradiction fun hh => ?_
          have : sumS l q' = totS l := by
            unfold totS sumS
            rw [List.take_of_length_le (by omega), List.take_length]
          omega
        refine ⟨q', ⟨hlt, g2, ?_⟩, ?_⟩
        · rcases g3 with g3 | g3
          · have : q' + 1 = l.length := by omega
            rw [this]; exact hx.2
          · exact g3
        · cases m with
          | zero => omega
          | succ m =>
            simp only [G71_6, p71_6]
            rfl
      | succ k =>
        have e3 : 2 ^ (k + 1) / 2 = 2 ^ k := by rw [Nat.pow_succ]; omega
        rw [e3]
        exact G71_6_eq R h ht hlen hx k0 m k q' g1 (by rw [Nat.pow_succ] at h2; omega) g2 g3 (by omega)
    by_cases hn : 2 ^ (k + 1) * q + 2 ^ k ≤ l.length
    · have hd2 : decide (((2 ^ (k + 1) * q + 2 ^ k : Nat) : Int) ≤ (l.length : Int)) = true := decide_eq_true (by omega)
      have hbn : bnd ((2 ^ (k + 1) * q + 2 ^ k - 1 : Nat) : Int) (l.length : Int) = true := by unfold bnd; simp; omega
      rw [wrap_i64 (n := ((2 ^ (k + 1) * q + 2 ^ k : Nat) : Int) - 1) (by omega) (by omega), show ((2 ^ (k + 1) * q + 2 ^ k : Nat) : Int) - 1 = ((2 ^ (k + 1) * q + 2 ^ k - 1 : Nat) : Int) by omega]
      simp only [hd2, hbn, Int.toNat_natCast]
      have en : nodeS l (2 ^ (k + 1) * q + 2 ^ k - 1) = sumS l (2 ^ (k + 1) * q + 2 ^ k) - sumS l (2 ^ (k + 1) * q) := by
        unfold nodeS
        rw [show 2 ^ (k + 1) * q + 2 ^ k - 1 + 1 = 2 ^ (k + 1) * q + 2 ^ k by omega, hlow (by omega), Nat.add_sub_cancel]
      have eg : (treeS l).getD (2 ^ (k + 1) * q + 2 ^ k - 1) 0 = sumS l (2 ^ (k + 1) * q + 2 ^ k) - sumS l (2 ^ (k + 1) * q) := by rw [treeS_get (by omega), en]
      simp only [eg]
      have q1 := sumS_le h (a := 2 ^ (k + 1) * q) (b := 2 ^ (k + 1) * q + 2 ^ k) (by omega)
      have q2 := sumS_nonneg h (2 ^ (k + 1) * q)
      by_cases hle : sumS l (2 ^ (k + 1) * q + 2 ^ k) ≤ x
      · have hd3 : decide (sumS l (2 ^ (k + 1) * q + 2 ^ k) - sumS l (2 ^ (k + 1) * q) ≤ x - sumS l (2 ^ (k + 1) * q)) = true := decide_eq_true (by omega)
        simp only [hd3]
        rw [wrap_u64 (n := x - sumS l (2 ^ (k + 1) * q) - (sumS l (2 ^ (k + 1) * q + 2 ^ k) - sumS l (2 ^ (k + 1) * q))) (by omega) (by omega), show x - sumS l (2 ^ (k + 1) * q) - (sumS l (2 ^ (k + 1) * q + 2 ^ k) - sumS l (2 ^ (k + 1) * q)) = x - sumS l (2 ^ (k + 1) * q + 2 ^ k) by omega]
        have e4 : 2 ^ (k + 1) * q + 2 ^ k = 2 ^ k * (2 * q + 1) := by rw [e1, Nat.mul_add, Nat.mul_one]
        have e5 : 2 ^ (k + 1) * q + 2 ^ (k + 1) = 2 ^ k * (2 * q + 1) + 2 ^ k := by
          rw [← e4, Nat.pow_succ]; omega
        rw [e4]
        rw [e4] at hle hn
        rw [e5] at h4
        exact next (2 * q + 1) hn hle h4
      · have hd3 : decide (sumS l (2 ^ (k + 1) * q + 2 ^ k) - sumS l (2 ^ (k + 1) * q) ≤ x - sumS l (2 ^ (k + 1) * q)) = false := decide_eq_false (by omega)
        simp only [hd3]
        rw [e1] at h1 h3 hle ⊢
        exact next (2 * q) h1 h3 (.inr (by omega))
    · have hd2 : decide (((2 ^ (k + 1) * q + 2 ^ k : Nat) : Int) ≤ (l.length : Int)) = false := decide_eq_false (by omega)
      simp only [hd2]
      rw [e1] at h1 h3 hn ⊢
      exact next (2 * q) h1 h3 (.inl (by omega))
theorem F71_own (R : Type) {l : List Int} (h : AllU64 l) (ht : totS l < 9223372036854775808) (hlen : l.length ≤ 400) {x : Int} (hx : 0 ≤ x ∧ x < totS l) (k : Int → Int → Option R) : ∃ i, Owns l x i ∧ F71 R (treeS l, ()) x k = k (i : Int) 0 := by
  simp only [F71, p71]
  rw [F69_eq R h ht (by omega)]
  have hd : decide (x ≥ totS l) = false := decide_eq_false (by omega)
  simp only [hd]
  obtain ⟨j, j1, j2, j3⟩ := G71_4_eq R (n := l.length) (by omega) (treeS l, ()) (treeS_len l) x (fun x3 x4 x5 x6 => G71_6 FUEL R x3 x4 x5 x6 (fun x7 => k x7 0)) FUEL 0 (.inr rfl) (by rw [FUEL_eq]; omega)
  have hj : 2 ^ j ≤ 500 := by
    rcases j2 with j2 | rfl
    · omega
    · rw [Nat.pow_zero]; omega
  have hjm : j ≤ 500 := by have := Nat.lt_two_pow_self (n := j); omega
  obtain ⟨i, hi, g⟩ := G71_6_eq R h ht hlen hx (fun x7 => k x7 0) FUEL j 0 (by simp) hj (by rw [Nat.mul_zero, sumS_zero]; exact hx.1) (.inl (by omega)) (by rw [FUEL_eq]; omega)
  refine ⟨i, hi, ?_⟩
  rw [Nat.mul_zero, sumS_zero, Int.sub_zero] at g
  exact j3.trans g
end Go.PG
namespace Go.PG
/-! The tree built in place. -/
def lastE (j : Nat) : Nat → Nat
  | 0 => j - lowN j
  | m + 1 => if (m + 1) + lowN (m + 1) = j then m + 1 else lastE j m
theorem last_checkA : ((List.range' 1 400).all fun c => decide (lastE (c + lowN c) (c - 1) = c - lowN c)) = true := by kernel_rfl
theorem last_checkB : ((List.range' 1 400).all fun j => decide (lastE j (j - 1) = j - 1)) = true := by kernel_rfl
theorem lastA {c : Nat} (h1 : 1 ≤ c) (h2 : c ≤ 400) : lastE (c + lowN c) (c - 1) = c - lowN c :=
  of_decide_eq_true (List.all_eq_true.1 last_checkA c (by rw [List.mem_range']; exact ⟨c - 1, by omega, by omega⟩))
theorem lastB {j : Nat} (h1 : 1 ≤ j) (h2 : j ≤ 400) : lastE j (j - 1) = j - 1 :=
  of_decide_eq_true (List.all_eq_true.1 last_checkB j (by rw [List.mem_range']; exact ⟨j - 1, by omega, by omega⟩))
theorem last_keep {j : Nat} (h1 : 1 ≤ j) : ∀ (d : Nat), j + d ≤ 1000 → lastE j (j - 1 + d) = lastE j (j - 1)
  | 0, _ => rfl
  | d + 1, h => by
    have ih := last_keep h1 d (by omega)
    rw [show j - 1 + (d + 1) = (j - 1 + d) + 1 by omega]
    simp only [lastE]
    have := low_ok (n := j - 1 + d + 1) (by omega) (by omega)
    rw [if_neg (by omega), ih]
def partN (l : List Int) (m q : Nat) : Int := sumS l (lastE (q + 1) m) - sumS l (q + 1 - lowN (q + 1)) + l.getD q 0
def partT (l : List Int) (m : Nat) : List Int := (List.range l.length).map (partN l m)
theorem partT_zero (l : List Int) : partT l 0 = l := by
  unfold partT partN
  apply List.ext_getElem?
  intro i
  rw [List.getElem?_map]
  by_cases h : i < l.length
  · rw [List.getElem?_range h]
    simp [lastE, h]
  · rw [List.getElem?_eq_none (by simp; omega), List.getElem?_eq_none (by omega)]
    rfl
theorem partN_done {l : List Int} {q m : Nat} (hq : q < l.length) (hl : l.length ≤ 400) (hm : q ≤ m) (hm2 : m ≤ 500) : partN l m q = nodeS l q := by
  unfold partN nodeS
  have h1 := lastB (j := q + 1) (by omega) (by omega)
  have h2 := last_keep (j := q + 1) (by omega) (m - q) (by omega)
  rw [show q + 1 - 1 + (m - q) = m by omega] at h2
  rw [h2, h1, sumS_succ hq]
  show sumS l (q + 1 - 1) - _ + _ = _
  rw [Nat.add_sub_cancel]
  omega
theorem partT_done {l : List Int} (hl : l.length ≤ 400) : partT l l.length = treeS l := by
  unfold partT treeS
  refine List.map_congr_left (fun q hq => ?_)
  have hq' : q < l.length := by simpa using hq
  exact partN_done hq' hl (by omega) (by omega)
theorem partT_len (l : List Int) (m : Nat) : (partT l m).length = l.length := by simp [partT]
theorem partT_get {l : List Int} {m q : Nat} (h : q < l.length) : (partT l m).getD q 0 = partN l m q := by simp [partT, h]
theorem lastE_le : ∀ (j m : Nat), lastE j m ≤ max m (j - lowN j)
  | j, 0 => by simp [lastE]
  | j, m + 1 => by
    have := lastE_le j m
    simp only [lastE]
    split <;> omega
theorem lastE_ge {j : Nat} (hj : 1 ≤ j) : ∀ m : Nat, m < j → j ≤ 1000 → lastE j m ≤ j - 1 
  | m, h, h2 => by
    have h1 := lastE_le j m
    have h3 := low_ok hj h2
    omega
theorem G65_eq (R : Type) {l : List Int} (h : AllU64 l) (ht : totS l < 9223372036854775808) (hlen : l.length ≤ 200) (x2 : List Int × Unit) (k0 : (List Int × Unit) → List Int → Option R) : ∀ (m i : Nat), i ≤ l.length → l.length - i < m →
    G65_8 m R ((i + 1 : Nat) : Int) x2 (partT l i) k0 = k0 x2 (treeS l)
  | 0, i, _, h => by omega
  | m + 1, i, h1, h2 => by
    simp only [G65_8, p65_8, partT_len]
    by_cases hi : i < l.length
    · have hd : decide (((i + 1 : Nat) : Int) ≤ (l.length : Int)) = true := decide_eq_true (by omega)
      have hlo := low_ok (n := i + 1) (by omega) (by omega)
      simp only [hd]
      rw [F99_eq R (by omega) (by omega), wrap_i64 (n := ((i + 1 : Nat) : Int) + (lowN (i + 1) : Int)) (by omega) (by omega), wrap_i64 (n := ((i + 1 : Nat) : Int) + 1) (by omega) (by omega), show ((i + 1 : Nat) : Int) + 1 = ((i + 1 + 1 : Nat) : Int) by omega]
      have keep : ∀ q, q + 1 ≠ i + 1 + lowN (i + 1) → partN l (i + 1) q = partN l i q := fun q hq => by
        unfold partN
        simp only [lastE]
        rw [if_neg (by omega)]
      by_cases hup : i + 1 + lowN (i + 1) ≤ l.length
      · have hd2 : decide (((i + 1 : Nat) : Int) + (lowN (i + 1) : Int) ≤ (l.length : Int)) = true := decide_eq_true (by omega)
        rw [wrap_i64 (n := ((i + 1 : Nat) : Int) + (lowN (i + 1) : Int) - 1) (by omega) (by omega), wrap_i64 (n := ((i + 1 : Nat) : Int) - 1) (by omega) (by omega), show ((i + 1 : Nat) : Int) + (lowN (i + 1) : Int) - 1 = ((i + lowN (i + 1) : Nat) : Int) by omega, show ((i + 1 : Nat) : Int) - 1 = (i : Int) by omega]
        have hb1 : bnd ((i + lowN (i + 1) : Nat) : Int) (l.length : Int) = true := by unfold bnd; simp; omega
        have hb2 : bnd (i : Int) (l.length : Int) = true := by unfold bnd; simp; omega
        simp only [hd2, hb1, hb2, Int.toNat_natCast]
        rw [partT_get (by omega), partT_get (by omega)]
        have q1 : partN l i i = nodeS l i := partN_done hi (by omega) (Nat.le_refl _) (by omega)
        have qA := lastA (c := i + 1) (by omega) (by omega)
        rw [Nat.add_sub_cancel] at qA
        have q2 : partN l i (i + lowN (i + 1)) + nodeS l i = partN l (i + 1) (i + lowN (i + 1)) := by
          unfold partN nodeS
          rw [show i + lowN (i + 1) + 1 = i + 1 + lowN (i + 1) by omega, qA]
          simp only [lastE, if_true]
          omega
        have q3 : 0 ≤ partN l (i + 1) (i + lowN (i + 1)) ∧ partN l (i + 1) (i + lowN (i + 1)) < 18446744073709551616 := by
          unfold partN
          rw [show i + lowN (i + 1) + 1 = i + 1 + lowN (i + 1) by omega]
          simp only [lastE, if_true]
          have hlo2 := low_ok (n := i + 1 + lowN (i + 1)) (by omega) (by omega)
          have a1 := sumS_tot h (i + 1)
          have a2 := sumS_nonneg h (i + 1 + lowN (i + 1) - lowN (i + 1 + lowN (i + 1)))
          have a3 := getD_all h u64_0 (i + lowN (i + 1))
          have a4 : sumS l (i + 1 + lowN (i + 1) - lowN (i + 1 + lowN (i + 1))) ≤ sumS l (i + 1) := by
            have := lastE_le (i + 1 + lowN (i + 1)) i
            refine sumS_le h ?_
            have hge : ∀ m, i + 1 + lowN (i + 1) - lowN (i + 1 + lowN (i + 1)) ≤ lastE (i + 1 + lowN (i + 1)) m ∨ True := fun _ => .inr trivial
            have hchk : ((List.range' 1 400).all fun c => decide (c + lowN c - lowN (c + lowN c) ≤ c)) = true := by kernel_rfl
            exact of_decide_eq_true (List.all_eq_true.1 hchk (i + 1) (by rw [List.mem_range']; exact ⟨i, by omega, by omega⟩))
          have a5 := sumS_succ (l := l) (i := i + lowN (i + 1)) (by omega)
          have a6 := sumS_tot h (i + lowN (i + 1) + 1)
          have a7 := sumS_le h (a := i + 1) (b := i + lowN (i + 1)) (by omega)
          unfold U64 at a3
          omega
        rw [q1, q2, wrap_u64 (by omega) (by omega)]
        have e : (partT l i).set (i + lowN (i + 1)) (partN l (i + 1) (i + lowN (i + 1))) = partT l (i + 1) := by
          apply List.ext_getElem?
          intro q
          unfold partT
          rw [List.getElem?_set, List.getElem?_map, List.getElem?_map]
          simp only [List.length_map, List.length_range]
          by_cases hq : q < l.length
          · rw [List.getElem?_range hq]
            by_cases eq : i + lowN (i + 1) = q
            · subst eq
              rw [if_pos rfl, if_pos hq]; rfl
            · rw [if_neg eq]
              simp only [Option.map_some]
              rw [keep q (by omega)]
          · rw [List.getElem?_eq_none (by simp; omega), if_neg (by omega)]
            rfl
        rw [e]
        exact G65_eq R h ht hlen x2 k0 m (i + 1) (by omega) (by omega)
      · have hd2 : decide (((i + 1 : Nat) : Int) + (lowN (i + 1) : Int) ≤ (l.length : Int)) = false := decide_eq_false (by omega)
        simp only [hd2]
        have e : partT l i = partT l (i + 1) := by
          unfold partT
          refine List.map_congr_left (fun q hq => ?_)
          have hq' : q < l.length := by simpa using hq
          rw [keep q (by omega)]
        rw [e]
        exact G65_eq R h ht hlen x2 k0 m (i + 1) (by omega) (by omega)
    · have : i = l.length := by omega
      subst this
      have hd : decide (((l.length + 1 : Nat) : Int) ≤ (l.length : Int)) = false := decide_eq_false (by omega)
      simp only [hd]
      rw [partT_done (by omega)]

/-! Sums that may be too great. -/
theorem F127_eq (R : Type) {a b : Int} (ha : 0 ≤ a ∧ a < 9223372036854775808) (hb : U64 b) (k : Int → Bool → Option R) : F127 R a b k = (if a + b < 9223372036854775808 then k (a + b) true else k 0 false) := by
  unfold U64 at hb
  simp only [F127, p127, F147, F135, p135, F151, p151]
  have hd : decide (0 ≤ a ∧ 0 ≤ b ∧ (0 : Int) ≤ 0 ∧ (0 : Int) ≤ 1) = true := decide_eq_true (by omega)
  simp only [hd, Int.add_zero]
  by_cases h1 : a + b < 9223372036854775808
  · have e1 : (a + b) / 18446744073709551616 = 0 := by omega
    have e2 : (a + b) % 18446744073709551616 = a + b := by omega
    rw [if_pos h1, e1, e2]
    have n0 : ((0 : Int) != 0) = false := rfl
    simp only [n0, decide_eq_true h1, Bool.not_true]
  · rw [if_neg h1]
    by_cases h2 : a + b < 18446744073709551616
    · have e1 : (a + b) / 18446744073709551616 = 0 := by omega
      have e2 : (a + b) % 18446744073709551616 = a + b := by omega
      rw [e1, e2]
      have n0 : ((0 : Int) != 0) = false := rfl
      simp only [n0, decide_eq_false h1, Bool.not_false]
    · have e1 : ((a + b) / 18446744073709551616 != 0) = true := by
        have : ¬ (a + b) / 18446744073709551616 = 0 := by omega
        simp [this]
      simp only [e1]
theorem F100_eq (R : Type) {a b : Int} (ha : 0 ≤ a ∧ a < 9223372036854775808) (hb : U64 b) (k : Int → Bool → Option R) : F100 R a b k = (if a + b < 9223372036854775808 then k (a + b) true else k 0 false) := by
  unfold U64 at hb
  simp only [F100, p100]
  have hd : decide (a ≥ 9223372036854775808) = false := decide_eq_false (by omega)
  simp only [hd]
  rw [wrap_u64 (n := 9223372036854775808 - a) (by omega) (by omega)]
  by_cases h1 : a + b < 9223372036854775808
  · have hd2 : decide (b ≥ 9223372036854775808 - a) = false := decide_eq_false (by omega)
    rw [if_pos h1]
    simp only [hd2]
    rw [wrap_u64 (n := a + b) (by omega) (by omega)]
  · have hd2 : decide (b ≥ 9223372036854775808 - a) = true := decide_eq_true (by omega)
    rw [if_neg h1]
    simp only [hd2]
theorem G97_eq (R : Type) {l : List Int} (h : AllU64 l) (hlen : l.length ≤ 1000000) (k0 : Int → Bool → Option R) (k1 : Int → Option R) : ∀ (m i : Nat), i ≤ l.length → l.length - i < m → sumS l i < 9223372036854775808 →
    G97_2 m R (sumS l i) l (l.length : Int) (i : Int) k0 k1 = (if totS l < 9223372036854775808 then k1 (totS l) else k0 0 false)
  | 0, i, _, h, _ => by omega
  | m + 1, i, h1, h2, h3 => by
    simp only [G97_2, p97_2]
    by_cases hi : i < l.length
    · have hd : decide ((i : Int) < (l.length : Int)) = true := by simpa using hi
      have hbn : bnd (i : Int) (l.length : Int) = true := by unfold bnd; simp; omega
      simp only [hd, hbn, Int.toNat_natCast]
      rw [F127_eq R ⟨sumS_nonneg h i, h3⟩ (getD_all h u64_0 i), ← sumS_succ hi]
      by_cases h4 : sumS l (i + 1) < 9223372036854775808
      · rw [if_pos h4]
        simp only [Bool.not_true]
        rw [wrap_i64 (n := (i : Int) + 1) (by omega) (by omega)]
        exact G97_eq R h hlen k0 k1 m (i + 1) (by omega) (by omega) h4
      · rw [if_neg h4, if_neg (by have := sumS_tot h (i + 1); omega)]
        simp only [Bool.not_false]
    · have : i = l.length := by omega
      subst this
      have hd : decide ((l.length : Int) < (l.length : Int)) = false := by simp
      simp only [hd]
      rw [if_pos (show totS l < _ from h3)]
      rfl
theorem F97_eq (R : Type) {l : List Int} (h : AllU64 l) (hlen : l.length ≤ 1000000) (k : Int → Bool → Option R) : F97 R l k = (if totS l < 9223372036854775808 then k (totS l) true else k 0 false) := by
  simp only [F97, p97]
  exact G97_eq R h hlen (fun x2 x3 => k x2 x3) (fun x4 => k x4 true) FUEL 0 (by omega) (by rw [FUEL_eq]; omega) (by rw [sumS_zero]; decide)
theorem G66_eq' (R : Type) {l : List Int} (h : AllU64 l) (hlen : l.length ≤ 1000000) (k0 : Int → Bool → Option R) (k1 : Int → Option R) : ∀ (m i : Nat), i ≤ l.length → l.length - i < m → sumS l i < 9223372036854775808 →
    G66_3 m R l (sumS l i) (i : Int) k0 k1 = (if totS l < 9223372036854775808 then k1 (totS l) else k0 0 false)
  | 0, i, _, h, _ => by omega
  | m + 1, i, h1, h2, h3 => by
    simp only [G66_3, p66_3]
    by_cases hi : i < l.length
    · have hd : decide ((i : Int) < (l.length : Int)) = true := by simpa using hi
      have hbn : bnd (i : Int) (l.length : Int) = true := by unfold bnd; simp; omega
      simp only [hd, hbn, Int.toNat_natCast]
      rw [F100_eq R ⟨sumS_nonneg h i, h3⟩ (getD_all h u64_0 i), ← sumS_succ hi]
      by_cases h4 : sumS l (i + 1) < 9223372036854775808
      · rw [if_pos h4]
        simp only [Bool.not_true]
        rw [wrap_i64 (n := (i : Int) + 1) (by omega) (by omega)]
        exact G66_eq' R h hlen k0 k1 m (i + 1) (by omega) (by omega) h4
      · rw [if_neg h4, if_neg (by have := sumS_tot h (i + 1); omega)]
        simp only [Bool.not_false]
    · have : i = l.length := by omega
      subst this
      have hd : decide ((l.length : Int) < (l.length : Int)) = false := by simp
      simp only [hd]
      rw [if_pos (show totS l < _ from h3)]
      rfl
theorem F66_eq' (R : Type) {l : List Int} (h : AllU64 l) (hlen : l.length ≤ 1000000) (k : Int → Bool → Option R) : F66 R l k = (if totS l < 9223372036854775808 then k (totS l) true else k 0 false) := by
  simp only [F66, p66]
  exact G66_eq' R h hlen (fun x2 x3 => k x2 x3) (fun x4 => k x4 true) FUEL 0 (by omega) (by rw [FUEL_eq]; omega) (by rw [sumS_zero]; decide)
end Go.PG
namespace Go.PG
theorem F65_eq' (R : Type) {l : List Int} (h : AllU64 l) (hlen : l.length ≤ 200) (k : (List Int × Unit) → Int → Option R) : F65 R l k = (if totS l < 9223372036854775808 then k (treeS l, ()) 0 else k ([], ()) 11) := by
  simp only [F65, p65]
  have hd : decide ((l.length : Int) > 1048576) = false := decide_eq_false (by omega)
  simp only [hd]
  rw [F97_eq R h (by omega)]
  by_cases ht : totS l < 9223372036854775808
  · rw [if_pos ht, if_pos ht]
    simp only [Bool.not_true, F98]
    have hc : decide (List.length ([] : List Int) + l.length ≤ 17592186044416) = true := by simp; omega
    simp only [hc]
    have := G65_eq R h ht hlen ([], ()) (fun x6 x7 => k (x7, ()) 0) FUEL 0 (by omega) (by rw [FUEL_eq]; omega)
    rw [partT_zero] at this
    exact this
  · rw [if_neg ht, if_neg ht]
    simp only [Bool.not_false]
theorem F22_eq (R : Type) {l : List Int} (h : AllU64 l) (hlen : l.length ≤ 200) (k : (List Int × Unit) → Int → Option R) : F22 R l k = (if totS l < 9223372036854775808 then k (treeS l, ()) 0 else k ([], ()) 11) := by
  simp only [F22, p22]
  have hd : decide ((l.length : Int) > 1048576) = false := decide_eq_false (by omega)
  simp only [hd]
  rw [F66_eq' R h (by omega)]
  by_cases ht : totS l < 9223372036854775808
  · rw [if_pos ht, if_pos ht]
    simp only [Bool.not_true]
    rw [F25_eq R h ht (by omega)]
  · rw [if_neg ht, if_neg ht]
    simp only [Bool.not_false]
theorem G68_eq' (R : Type) {l : List Int} (h : AllU64 l) (hlen : l.length ≤ 1000000) {x : Int} (hx : x < totS l) (htt : totS l < 9223372036854775808) (k0 : Int → Int → Option R) (k1 : Option R) : ∀ (m i : Nat), i ≤ l.length → l.length - i < m → sumS l i ≤ x → ∃ j, Owns l x j ∧ G68_2 m R l (x - sumS l i) (i : Int) k0 k1 = k0 (j : Int) 0
  | 0, i, _, h, _ => by omega
  | m + 1, i, h1, h2, h3 => by
    simp only [G68_2, p68_2]
    by_cases hi : i < l.length
    · have hd : decide ((i : Int) < (l.length : Int)) = true := by simpa using hi
      have hbn : bnd (i : Int) (l.length : Int) = true := by unfold bnd; simp; omega
      have hs := sumS_succ hi
      have hn := sumS_nonneg h i
      simp only [hd, hbn, Int.toNat_natCast]
      by_cases hlt : x - sumS l i < l.getD i 0
      · simp only [decide_eq_true hlt]
        exact ⟨i, ⟨hi, h3, by omega⟩, rfl⟩
      · simp only [decide_eq_false hlt]
        have q := (getD_all h u64_0 i).1
        rw [wrap_u64 (n := x - sumS l i - l.getD i 0) (by omega) (by omega), wrap_i64 (n := (i : Int) + 1) (by omega) (by omega), show x - sumS l i - l.getD i 0 = x - sumS l (i + 1) by omega]
        exact G68_eq' R h hlen hx htt k0 k1 m (i + 1) (by omega) (by omega) (by omega)
    · have : i = l.length := by omega
      subst this
      have : sumS l l.length = totS l := rfl
      omega
theorem F68_own (R : Type) {l : List Int} (h : AllU64 l) (hlen : l.length ≤ 1000000) {x : Int} (hx : 0 ≤ x ∧ x < totS l) (htt : totS l < 9223372036854775808) (k : Int → Int → Option R) : ∃ i, Owns l x i ∧ F68 R l x k = k (i : Int) 0 := by
  simp only [F68, p68]
  have := G68_eq' R h hlen hx.2 htt (fun x1 x2 => k x1 x2) (k 0 3) FUEL 0 (by omega) (by rw [FUEL_eq]; omega) (by rw [sumS_zero]; exact hx.1)
  rw [sumS_zero, Int.sub_zero] at this
  exact this
def ownN (l : List Int) (x : Int) : Nat := ((List.range l.length).find? (fun i => decide (sumS l i ≤ x ∧ x < sumS l (i + 1)))).getD 0
theorem ownN_eq {l : List Int} (h : AllU64 l) {x : Int} {i : Nat} (hi : Owns l x i) : ownN l x = i := by
  unfold ownN
  cases hf : (List.range l.length).find? (fun i => decide (sumS l i ≤ x ∧ x < sumS l (i + 1))) with
  | none =>
    have := List.find?_eq_none.1 hf i (by simpa using hi.1)
    simp only [decide_eq_true_eq] at this
    exact absurd hi.2 this
  | some j =>
    have h1 := List.find?_some hf
    have h2 := List.mem_of_find?_eq_some hf
    simp only [decide_eq_true_eq] at h1
    have hj : Owns l x j := ⟨by simpa using h2, h1⟩
    exact hj.uniq h hi
def leadR (l : List Int) (s : Src) (m : Int) : Int × Src × Int :=
  if totS l < 9223372036854775808 then (if totS l = 0 then (0, s, 10) else if (drawR s (totS l) m).2.2 = 0 then ((ownN l (drawR s (totS l) m).1 : Int), (drawR s (totS l) m).2.1, 0) else (0, (drawR s (totS l) m).2.1, (drawR s (totS l) m).2.2)) else (0, s, 11)
theorem drawF_nonneg {n : Int} : ∀ (m : Nat) (s : Src), 0 ≤ (drawF n m s).1
  | 0, s => Int.le_refl _
  | m + 1, s => by
    simp only [drawF]
    split
    · split
      · rename_i h _
        obtain ⟨_, _, _, g⟩ := takeR_zero h
        rw [g]
        exact (takeV_range s (atS s) _).1
      · exact drawF_nonneg m _
    · exact Int.le_refl _
theorem draw_below {s : Src} {n m : Int} (h : (drawR s n m).2.2 = 0) : 0 ≤ (drawR s n m).1 ∧ (drawR s n m).1 < n := by
  unfold drawR at h ⊢
  split at h
  · rename_i hc
    rw [if_pos hc]
    obtain ⟨j, _, _, h3, _⟩ := drawF_ok _ _ h
    exact ⟨drawF_nonneg _ _, h3⟩
  · simp at h
theorem F23_eq (R : Type) {l : List Int} (h : AllU64 l) (hlen : l.length ≤ 200) (ht : totS l < 9223372036854775808) {s : Src} (hs : SOK s) (m : Int) (k : Int → Src → Int → Option R) : F23 R (treeS l, ()) s m k = k (leadR l s m).1 (leadR l s m).2.1 (leadR l s m).2.2 := by
  simp only [F23, p23]
  rw [F69_eq R h ht (by omega)]
  have hnn := sumS_nonneg h l.length
  unfold leadR
  rw [if_pos ht]
  by_cases h0 : totS l = 0
  · have e : (totS l == 0) = true := by simp [h0]
    rw [if_pos h0]
    simp only [e]
  · have e : (totS l == 0) = false := by simp [h0]
    rw [if_neg h0]
    simp only [e]
    rw [F70_eq R hs (show U64 (totS l) from by unfold U64; exact ⟨hnn, by omega⟩)]
    by_cases he : (drawR s (totS l) m).2.2 = 0
    · have e1 : ((drawR s (totS l) m).2.2 != 0) = false := by simp [he]
      rw [if_pos he]
      simp only [e1]
      obtain ⟨i, hi, g⟩ := F71_own R h ht (by omega) (draw_below he) (fun y7 y8 => k y7 (drawR s (totS l) m).2.1 y8)
      rw [g, ownN_eq h hi]
    · have e1 : ((drawR s (totS l) m).2.2 != 0) = true := by simp [he]
      rw [if_neg he]
      simp only [e1]
theorem F20_eq' (R : Type) {l : List Int} (h : AllU64 l) (hlen : l.length ≤ 200) {s : Src} (hs : SOK s) (m : Int) (k : Int → Src → Int → Option R) : F20 R l s m k = k (leadR l s m).1 (leadR l s m).2.1 (leadR l s m).2.2 := by
  simp only [F20, p20]
  rw [F66_eq' R h (by omega)]
  have hnn := sumS_nonneg h l.length
  unfold leadR
  by_cases ht : totS l < 9223372036854775808
  · rw [if_pos ht, if_pos ht]
    simp only [Bool.not_true]
    by_cases h0 : totS l = 0
    · have e : (totS l == 0) = true := by simp [h0]
      rw [if_pos h0]
      simp only [e]
    · have e : (totS l == 0) = false := by simp [h0]
      rw [if_neg h0]
      simp only [e]
      rw [F67_eq R hs (show U64 (totS l) from by unfold U64; exact ⟨hnn, by omega⟩)]
      by_cases he : (drawR s (totS l) m).2.2 = 0
      · have e1 : ((drawR s (totS l) m).2.2 != 0) = false := by simp [he]
        rw [if_pos he]
        simp only [e1]
        obtain ⟨i, hi, g⟩ := F68_own R h (by omega) (draw_below he) ht (fun y8 _ => k y8 (drawR s (totS l) m).2.1 0)
        rw [g, ownN_eq h hi]
      · have e1 : ((drawR s (totS l) m).2.2 != 0) = true := by simp [he]
        rw [if_neg he]
        simp only [e1]
  · rw [if_neg ht, if_neg ht]
    simp only [Bool.not_false]
theorem F19_eq' (R : Type) {l : List Int} (h : AllU64 l) (hlen : l.length ≤ 200) {s : Src} (hs : SOK s) (m : Int) (k : Int → Src → Int → Option R) : F19 R s m l k = k (leadR l s m).1 (leadR l s m).2.1 (leadR l s m).2.2 := by
  simp only [F19, p19]
  rw [F65_eq' R h hlen]
  by_cases ht : totS l < 9223372036854775808
  · rw [if_pos ht]
    have n0 : ((0 : Int) != 0) = false := rfl
    simp only [n0]
    rw [F23_eq R h hlen ht hs]
  · rw [if_neg ht]
    have n11 : ((11 : Int) != 0) = true := rfl
    simp only [n11]
    unfold leadR
    rw [if_neg ht]
theorem F17_eq' (R : Type) (k : Bool → Option R) : F17 R k = k true := by
  have u96 : AllU8 [96] := by unfold AllU8 U8; decide
  have n8 : U64 8 := by unfold U64; decide
  have a1 : AllU64 [3, 0, 2] := by unfold AllU64 U64; decide
  have a2 : AllU64 [9223372036854775808] := by unfold AllU64 U64; decide
  have a0 : AllU64 [] := fun x hx => by simp at hx
  have s1 := tapeSrc_ok u96 (by simp) n8
  have s2 := s1.set (n := 3) (by unfold U64; decide)
  simp only [F17, p17]
  rw [F28_eq R (by simp)]
  have t1 : tapeR [96] 8 = (tapeSrc [96] 8, 0) := by kernel_rfl
  simp only [t1]
  have ht1 : totS [3, 0, 2] < 9223372036854775808 := by decide
  rw [F25_eq R a1 ht1 (by simp), F23_eq R a1 (by simp) ht1 s1, F19_eq' R a1 (by simp) s1]
  have et : (([] : List Int), ()) = (treeS [], ()) := rfl
  rw [et, F23_eq R a0 (by simp) (by decide) s1, F19_eq' R a2 (by simp) s1]
  have d1 : leadR [3, 0, 2] (tapeSrc [96] 8) 2 = (2, setAt (tapeSrc [96] 8) 3, 0) := by kernel_rfl
  have d2 : leadR [] (tapeSrc [96] 8) 2 = (0, tapeSrc [96] 8, 10) := by kernel_rfl
  have d3 : leadR [9223372036854775808] (tapeSrc [96] 8) 2 = (0, tapeSrc [96] 8, 11) := by kernel_rfl
  have d4 : leadR [3, 0, 2] (setAt (tapeSrc [96] 8) 3) 9 = (0, setAt (tapeSrc [96] 8) 6, 0) := by kernel_rfl
  rw [d1, d2, d3]
  simp only []
  rw [F23_eq R a1 (by simp) ht1 s2, d4]
  rfl
theorem F18_eq' (R : Type) (l : List Int) (s : Src) (k : Bool → Option R) : F18 R l s k = k (decide ((l.length : Int) > 200 ∨ (s.2.1.length : Int) > 500)) := by
  simp only [F18, p18]
  by_cases h1 : (l.length : Int) > 200
  · simp [h1]
  · simp [h1]
theorem G3_eq (R : Type) (l : List Int) (hlen : l.length ≤ 200) (x2 x3 x4 x5 : Int) (x8 x9 : Src) (k0 : Bool → Option R) (k1 : Int → Int → Int → Int → Src → Src → Option R) : ∀ (m i : Nat), i ≤ l.length → l.length - i < m → G3_9 m R l x2 x3 x4 x5 (i : Int) l x8 x9 k0 k1 = k1 x2 x3 x4 x5 x8 x9
  | 0, i, _, h => by omega
  | m + 1, i, h1, h2 => by
    simp only [G3_9, p3_9]
    by_cases hi : i < l.length
    · have hd : decide ((i : Int) < (l.length : Int)) = true := by simpa using hi
      have hbn : bnd (i : Int) (l.length : Int) = true := by unfold bnd; simp; omega
      simp only [hd, hbn, bne_self_eq_false]
      rw [wrap_i64 (n := (i : Int) + 1) (by omega) (by omega)]
      exact G3_eq R l hlen x2 x3 x4 x5 x8 x9 k0 k1 m (i + 1) (by omega) (by omega)
    · have : i = l.length := by omega
      subst this
      have hd : decide ((l.length : Int) < (l.length : Int)) = false := by simp
      simp only [hd]
theorem F3_eq' (R : Type) {l : List Int} (h : AllU64 l) {s : Src} (hs : SFit s) (m : Int) (k : Bool → Option R) : F3 R l s m k = k true := by
  simp only [F3, p3]
  rw [F17_eq']
  simp only [Bool.not_true]
  rw [F18_eq']
  by_cases hg : (l.length : Int) > 200 ∨ (s.2.1.length : Int) > 500
  · simp only [decide_eq_true hg]
  · simp only [decide_eq_false hg]
    have ho := hs.ok (by omega)
    have hc : decide (List.length ([] : List Int) + l.length ≤ 17592186044416) = true := by simp; omega
    simp only [hc, List.nil_append]
    rw [F19_eq' R h (by omega) ho, F20_eq' R h (by omega) ho]
    refine (G3_eq R l (by omega) _ _ _ _ _ _ _ _ FUEL 0 (by omega) (by rw [FUEL_eq]; omega)).trans ?_
    simp only [beq_self_eq_true]
    rw [F21_eq, sameS_self]
theorem G72_eq' (R : Type) (l : List Int) (hlen : l.length ≤ 1000000) (k0 : Bool → Option R) (k1 : Option R) : ∀ (m i : Nat), i ≤ l.length → l.length - i < m → G72_4 m R l l (i : Int) k0 k1 = k1
  | 0, i, _, h => by omega
  | m + 1, i, h1, h2 => by
    simp only [G72_4, p72_4]
    by_cases hi : i < l.length
    · have hd : decide ((i : Int) < (l.length : Int)) = true := by simpa using hi
      have hbn : bnd (i : Int) (l.length : Int) = true := by unfold bnd; simp; omega
      simp only [hd, hbn, bne_self_eq_false]
      rw [wrap_i64 (n := (i : Int) + 1) (by omega) (by omega)]
      exact G72_eq' R l hlen k0 k1 m (i + 1) (by omega) (by omega)
    · have : i = l.length := by omega
      subst this
      have hd : decide ((l.length : Int) < (l.length : Int)) = false := by simp
      simp only [hd]
theorem F24_self (R : Type) (l : List Int) (hlen : l.length ≤ 1000000) (u : Unit) (k : Bool → Option R) : F24 R (l, u) (l, u) k = k true := by
  simp only [F24, p24, F72, p72, bne_self_eq_false]
  exact G72_eq' R l hlen (fun x4 => k x4) (k true) FUEL 0 (by omega) (by rw [FUEL_eq]; omega)
theorem F4_eq' (R : Type) {l : List Int} (h : AllU64 l) {s : Src} (hs : SFit s) (m : Int) (k : Bool → Option R) : F4 R l s m k = k true := by
  simp only [F4, p4]
  rw [F17_eq']
  simp only [Bool.not_true]
  rw [F18_eq']
  by_cases hg : (l.length : Int) > 200 ∨ (s.2.1.length : Int) > 500
  · simp only [decide_eq_true hg]
  · simp only [decide_eq_false hg]
    have ho := hs.ok (by omega)
    rw [F22_eq R h (by omega)]
    by_cases ht : totS l < 9223372036854775808
    · rw [if_pos ht]
      have n0 : ((0 : Int) != 0) = false := rfl
      simp only [n0]
      rw [F23_eq R h (by omega) ht ho, F20_eq' R h (by omega) ho]
      simp only [beq_self_eq_true]
      rw [F21_eq, sameS_self]
      simp only []
      rw [F25_eq R h ht (by omega), F24_self R _ (by rw [treeS_len]; omega)]
    · rw [if_neg ht]
      rfl
theorem F6_eq' (R : Type) {l : List Int} (h : AllU64 l) {s : Src} (hs : SFit s) {a : Int} (ha : 0 ≤ a ∧ a ≤ 255) (k : Bool → Option R) : F6 R l s a k = k true := by
  simp only [F6, p6]
  rw [F17_eq']
  simp only [Bool.not_true]
  rw [F18_eq']
  by_cases hg : (l.length : Int) > 200 ∨ (s.2.1.length : Int) > 500
  · simp only [decide_eq_true hg]
  · simp only [decide_eq_false hg]
    have ho := hs.ok (by omega)
    rw [F22_eq R h (by omega)]
    by_cases ht : totS l < 9223372036854775808
    · rw [if_pos ht]
      have n0 : ((0 : Int) != 0) = false := rfl
      simp only [n0]
      obtain ⟨m, hm⟩ : ∃ q : Nat, 1 + a % 64 = q := ⟨(1 + a % 64).toNat, by omega⟩
      rw [Int.tmod_eq_emod_of_nonneg ha.1, wrap_i64 (n := a % 64) (by omega) (by omega), hm, wrap_i64 (n := (m : Int)) (by omega) (by omega), F23_eq R h (by omega) ht ho]
      unfold leadR
      rw [if_pos ht]
      by_cases h0 : totS l = 0
      · rw [if_pos h0]; rfl
      · rw [if_neg h0]
        by_cases he : (drawR s (totS l) m).2.2 = 0
        · rw [if_pos he]
          simp only [n0]
          have hb := draw_below he
          obtain ⟨i, hi, _⟩ := F68_own R h (by omega) hb ht (fun _ _ => none)
          rw [ownN_eq h hi]
          have hi1 := hi.1
          have e1 : decide ((i : Int) ≥ 0) = true := decide_eq_true (by omega)
          have e2 : decide ((i : Int) < (l.length : Int)) = true := decide_eq_true (by omega)
          have e3 : bnd (i : Int) (l.length : Int) = true := by unfold bnd; simp; omega
          have e4 : decide (l.getD i 0 > 0) = true := by
            have := sumS_succ hi.1
            have := hi.2
            exact decide_eq_true (by omega)
          simp only [e1, e2, e3, e4, Int.toNat_natCast]
          have e5 : decide ((drawR s (totS l) m).2.1.2.2.2.2.2.1 ≥ s.2.2.2.2.2.1) = true := by
            unfold drawR at he ⊢
            split at he
            · rename_i hc
              rw [if_pos hc]
              obtain ⟨j, _, _, _, j4, _⟩ := drawF_ok _ _ he
              rw [j4]
              refine decide_eq_true ?_
              show s.2.2.2.2.2.1 + (needS (totS l) : Int) * j ≥ s.2.2.2.2.2.1
              have : 0 ≤ (needS (totS l) : Int) * j := Int.mul_nonneg (by omega) (by omega)
              omega
            · simp at he
          simp only [e5]
        · rw [if_neg he]
          have e1 : ((drawR s (totS l) m).2.2 != 0) = true := by simp [he]
          simp only [e1]
          rfl
    · rw [if_neg ht]
      rfl
end Go.PG
namespace Go.PG
/-! All tapes: who leads by how many. -/
def cntO (b B : Nat) (q : Nat → Bool) (t : Nat) (y : Nat) : Bool := match outO b B t y with | some v => q v | none => false
theorem cntO_block {b B t : Nat} (hB : 0 < B) (q : Nat → Bool) : ∀ A : Nat, cnt (cntO b B q (t + 1)) (A * B ^ t) = cnt q (min A b) * B ^ t + (A - b) * cnt (cntO b B q t) (B ^ t)
  | 0 => by simp [cnt]
  | A + 1 => by
    rw [Nat.add_mul, Nat.one_mul, cnt_add, cntO_block hB q A]
    by_cases hA : A < b
    · have e : cnt (fun r => cntO b B q (t + 1) (A * B ^ t + r)) (B ^ t) = if q A then B ^ t else 0 := by
        rw [cnt_congr (q := fun _ => q A) (fun r hr => by unfold cntO; rw [out_block hB hr, if_pos hA]), cnt_const]
      rw [e, show A - b = 0 by omega, show A + 1 - b = 0 by omega, Nat.zero_mul, Nat.add_zero, Nat.add_zero, show min A b = A by omega, show min (A + 1) b = A + 1 by omega, cnt_succ, Nat.add_mul]
      cases q A <;> simp
    · have e : cnt (fun r => cntO b B q (t + 1) (A * B ^ t + r)) (B ^ t) = cnt (cntO b B q t) (B ^ t) :=
        cnt_congr (fun r hr => by unfold cntO; rw [out_block hB hr, if_neg hA])
      rw [e, show min A b = b by omega, show min (A + 1) b = b by omega, show A + 1 - b = (A - b) + 1 by omega, Nat.add_mul, Nat.one_mul, Nat.add_assoc]
theorem count_q {b B : Nat} (hB : 0 < B) (hb : b ≤ B) (q : Nat → Bool) : ∀ t : Nat, cnt (cntO b B q t) (B ^ t) * b + cnt q b * (B - b) ^ t = cnt q b * B ^ t
  | 0 => by simp [cnt, cntO, outO]
  | t + 1 => by
    have ih := count_q hB hb q t
    have e := cntO_block (t := t) (b := b) hB q B
    rw [show min B b = b by omega] at e
    have e2 : cnt (cntO b B q (t + 1)) (B ^ (t + 1)) = cnt q b * B ^ t + (B - b) * cnt (cntO b B q t) (B ^ t) := by
      rw [Nat.pow_succ, Nat.mul_comm (B ^ t) B]; exact e
    rw [e2]
    generalize cnt (cntO b B q t) (B ^ t) = c at *
    generalize cnt q b = Q at *
    have h1 : (B - b) * (c * b + Q * (B - b) ^ t) = (B - b) * (Q * B ^ t) := by rw [ih]
    rw [Nat.mul_add] at h1
    have h2 : Q * (B - b) ^ (t + 1) = (B - b) * (Q * (B - b) ^ t) := by
      rw [Nat.pow_succ, Nat.mul_comm ((B - b) ^ t), ← Nat.mul_assoc, Nat.mul_comm Q, Nat.mul_assoc]
    have h3 : (B - b) * c * b = (B - b) * (c * b) := Nat.mul_assoc _ _ _
    rw [Nat.add_mul, h2, h3, Nat.add_assoc, h1]
    have h4 : Q * B ^ t * b = b * (Q * B ^ t) := Nat.mul_comm _ _
    have h5 : Q * B ^ (t + 1) = B * (Q * B ^ t) := by rw [Nat.pow_succ, Nat.mul_comm (B ^ t), ← Nat.mul_assoc, Nat.mul_comm Q, Nat.mul_assoc]
    rw [h4, h5, ← Nat.add_mul]
    congr 1
    omega
theorem cnt_interval {a c n : Nat} (h1 : a ≤ c) (h2 : c ≤ n) : cnt (fun v => decide (a ≤ v ∧ v < c)) n = c - a := by
  obtain ⟨d, rfl⟩ : ∃ d, c = a + d := ⟨c - a, by omega⟩
  obtain ⟨e, rfl⟩ : ∃ e, n = a + d + e := ⟨n - (a + d), by omega⟩
  rw [cnt_add, cnt_add]
  have e1 : cnt (fun v => decide (a ≤ v ∧ v < a + d)) a = 0 := by
    rw [cnt_congr (q := fun _ => false) (fun r hr => by simp; omega), cnt_const]; simp
  have e2 : cnt (fun r => decide (a ≤ a + r ∧ a + r < a + d)) d = d := by
    rw [cnt_congr (q := fun _ => true) (fun r hr => by simp; omega), cnt_const]; simp
  have e3 : cnt (fun r => decide (a ≤ a + d + r ∧ a + d + r < a + d)) e = 0 := by
    rw [cnt_congr (q := fun _ => false) (fun r hr => by simp), cnt_const]; simp
  rw [e1, e2, e3]
  omega
def gotQ (p : Nat → Nat → Bool) (n x : Nat) : List Int := (List.range n).map fun i => ((cnt (p i) x : Nat) : Int)
theorem gotQ_len (p : Nat → Nat → Bool) (n x : Nat) : (gotQ p n x).length = n := by simp [gotQ]
theorem gotQ_get {p : Nat → Nat → Bool} {n x i : Nat} (h : i < n) : (gotQ p n x).getD i 0 = ((cnt (p i) x : Nat) : Int) := by simp [gotQ, h]
theorem gotQ_zero (p : Nat → Nat → Bool) (n : Nat) : gotQ p n 0 = List.replicate n 0 := by
  unfold gotQ cnt
  apply List.ext_getElem?
  intro i
  rw [List.getElem?_map, List.getElem?_replicate]
  by_cases h : i < n
  · rw [List.getElem?_range h, if_pos h]; rfl
  · rw [List.getElem?_eq_none (by simp; omega), if_neg h]; rfl
theorem gotQ_step {p : Nat → Nat → Bool} {n x i0 : Nat} (hi : i0 < n) (h : ∀ i, i < n → p i x = decide (i = i0)) : gotQ p n (x + 1) = (gotQ p n x).set i0 (((cnt (p i0) x : Nat) : Int) + 1) := by
  unfold gotQ
  apply List.ext_getElem?
  intro j
  rw [List.getElem?_set, List.getElem?_map, List.getElem?_map]
  simp only [List.length_map, List.length_range]
  by_cases hj : j < n
  · rw [List.getElem?_range hj]
    by_cases e : i0 = j
    · subst e
      rw [if_pos rfl, if_pos hj]
      simp only [Option.map_some]
      rw [cnt_succ, h i0 hj]
      simp
    · rw [if_neg e]
      simp only [Option.map_some]
      rw [cnt_succ, h j hj]
      have : ¬ j = i0 := fun hh => e hh.symm
      simp [this]
  · rw [List.getElem?_eq_none (by simp; omega), if_neg (by omega)]
    rfl
theorem gotQ_same {p : Nat → Nat → Bool} {n x : Nat} (h : ∀ i, i < n → p i x = false) : gotQ p n (x + 1) = gotQ p n x := by
  unfold gotQ
  refine List.map_congr_left (fun i hi => ?_)
  rw [cnt_succ, h i (by simpa using hi)]
  simp
/-- Small stakes. -/
def smallS (l : List Int) : List Int := l.map fun v => v % 6
theorem smallS_len (l : List Int) : (smallS l).length = l.length := by simp [smallS]
theorem small_range (l : List Int) : ∀ x ∈ smallS l, 0 ≤ x ∧ x ≤ 5 := fun x hx => by
  unfold smallS at hx
  obtain ⟨v, _, rfl⟩ := List.mem_map.1 hx
  omega
theorem small_u64 (l : List Int) : AllU64 (smallS l) := fun x hx => by
  have := small_range l x hx
  unfold U64; omega
theorem tot_append (a : List Int) (y : Int) : totS (a ++ [y]) = totS a + y := by
  unfold totS sumS
  rw [List.take_length, List.take_length, List.sum_append]
  simp
theorem small_tot : ∀ (l : List Int), totS (smallS l) ≤ 5 * (l.length : Int)
  | [] => by simp [totS, sumS, smallS]
  | v :: l => by
    have ih := small_tot l
    have e : totS (smallS (v :: l)) = v % 6 + totS (smallS l) := by
      unfold totS sumS smallS
      rw [List.take_length, List.take_length]
      simp
    rw [e]
    simp only [List.length_cons]
    omega
theorem G5_8_eq (R : Type) {l : List Int} (h : AllU64 l) (hlen : l.length ≤ 8) (x2 : Int) (k0 : List Int → Int → Int → List Int → Option R) : ∀ (m i : Nat), i ≤ l.length → l.length - i < m →
    G5_8 m R l x2 (totS (smallS (l.take i))) (i : Int) (smallS (l.take i)) k0 = k0 l x2 (totS (smallS l)) (smallS l)
  | 0, i, _, h => by omega
  | m + 1, i, h1, h2 => by
    simp only [G5_8, p5_8]
    by_cases hi : i < l.length
    · have hd : decide ((i : Int) < (l.length : Int)) = true := by simpa using hi
      have hbn : bnd (i : Int) (l.length : Int) = true := by unfold bnd; simp; omega
      have hc : ∀ y : Int, decide (List.length (smallS (l.take i)) + List.length [y] ≤ 17592186044416) = true := fun y => by rw [smallS_len]; simp; omega
      simp only [hd, hbn, hc, Int.toNat_natCast]
      have hv := getD_all h u64_0 i
      unfold U64 at hv
      rw [Int.tmod_eq_emod_of_nonneg hv.1]
      have et : l.take (i + 1) = l.take i ++ [l.getD i 0] := by
        rw [List.take_succ_eq_append_getElem hi]; simp [hi]
      have es : smallS (l.take i) ++ [l.getD i 0 % 6] = smallS (l.take (i + 1)) := by
        rw [et]; simp [smallS]
      have ht : totS (smallS (l.take i)) + l.getD i 0 % 6 = totS (smallS (l.take (i + 1))) := by
        rw [← es, tot_append]
      have h3 := small_tot (l.take i)
      have h4 := sumS_nonneg (small_u64 (l.take i)) (smallS (l.take i)).length
      have h5 : (l.take i).length ≤ 8 := by simp; omega
      have h6 : 0 ≤ totS (smallS (l.take i)) := h4
      rw [wrap_u64 (n := totS (smallS (l.take i)) + l.getD i 0 % 6) (by omega) (by omega), ht, es, wrap_i64 (n := (i : Int) + 1) (by omega) (by omega)]
      exact G5_8_eq R h hlen x2 k0 m (i + 1) (by omega) (by omega)
    · have : i = l.length := by omega
      subst this
      have hd : decide ((l.length : Int) < (l.length : Int)) = false := by simp
      simp only [hd]
      rw [List.take_length]
end Go.PG
namespace Go.PG
def ownQ (l : List Int) (b B t : Nat) (i : Nat) : Nat → Bool := cntO b B (fun v => decide (ownN l (v : Int) = i)) t
theorem has_owner {l : List Int} (h : AllU64 l) (hlen : l.length ≤ 8) {b : Nat} (hb : totS l = b) (hb32 : b ≤ 32) {v : Nat} (hv : v < b) : ∃ j, Owns l (v : Int) j ∧ ownN l (v : Int) = j := by
  obtain ⟨j, hj, _⟩ := F68_own Unit h (by omega) (x := (v : Int)) (by omega) (by omega) (fun _ _ => none)
  exact ⟨j, hj, ownN_eq h hj⟩
theorem own_count {l : List Int} (h : AllU64 l) (hlen : l.length ≤ 8) {b : Nat} (hb : totS l = b) (hb32 : b ≤ 32) {i : Nat} (hi : i < l.length) : ((cnt (fun v => decide (ownN l (v : Int) = i)) b : Nat) : Int) = l.getD i 0 := by
  have h1 := sumS_succ hi
  have h2 := sumS_nonneg h i
  have h3 := sumS_tot h (i + 1)
  have h4 := (getD_all h u64_0 i).1
  obtain ⟨a, ha⟩ : ∃ a : Nat, sumS l i = a := ⟨(sumS l i).toNat, by omega⟩
  obtain ⟨c, hc⟩ : ∃ c : Nat, sumS l (i + 1) = c := ⟨(sumS l (i + 1)).toNat, by omega⟩
  have e : cnt (fun v => decide (ownN l (v : Int) = i)) b = cnt (fun v => decide (a ≤ v ∧ v < c)) b := cnt_congr (fun v hv => by
    obtain ⟨j, hj, ej⟩ := has_owner h hlen hb hb32 hv
    rw [ej]
    by_cases hji : j = i
    · subst hji
      have := hj.2
      have e1 : a ≤ v ∧ v < c := by omega
      simp [e1]
    · have e1 : ¬ (a ≤ v ∧ v < c) := fun hh => hji (hj.uniq h ⟨hi, by omega, by omega⟩)
      simp [hji]
      omega)
  rw [e, cnt_interval (by omega) (by omega)]
  omega
theorem G5_22_eq (R : Type) {l : List Int} (h : AllU64 l) (hlen : l.length ≤ 8) {b k t : Nat} (hb : totS l = b) (hb0 : 0 < b) (hb32 : b ≤ 32) (hk : needS (b : Int) = k) (hk5 : k ≤ 6) (ht0 : 0 < t) (ht : t ≤ 4) (hT : k * t ≤ 11) (k0 : Bool → Option R) (k1 : Int → Int → Int → Int → List Int → List Int → Option R) :
    ∀ (m x : Nat), x ≤ 2 ^ (k * t) → 2 ^ (k * t) - x < m → G5_22 m R (b : Int) (t : Int) (k : Int) ((cnt (fun y => outO b (2 ^ k) t y == none) x : Nat) : Int) (x : Int) l (treeS l, ()) (gotQ (ownQ l b (2 ^ k) t) l.length x) k0 k1 =
      k1 (b : Int) (t : Int) (k : Int) ((cnt (fun y => outO b (2 ^ k) t y == none) (2 ^ (k * t)) : Nat) : Int) l (gotQ (ownQ l b (2 ^ k) t) l.length (2 ^ (k * t)))
  | 0, x, _, hh => by omega
  | m + 1, x, h1, h2 => by
    simp only [G5_22, p5_22]
    have h12 : 2 ^ (k * t) ≤ 2 ^ 11 := Nat.pow_le_pow_right (by omega) hT
    have ekt : IntKind.i64.wrap ((k : Int) * (t : Int)) = ((k * t : Nat) : Int) := by
      rw [← Int.natCast_mul]
      exact wrap_i64 (by omega) (by omega)
    rw [ekt, F27_eq R (n := k * t) (by omega) (two_pow_ok (by omega))]
    have ep : (2 : Int) ^ (k * t) = ((2 ^ (k * t) : Nat) : Int) := by simp
    rw [ep]
    by_cases hx : x < 2 ^ (k * t)
    · have hd : decide ((x : Int) < ((2 ^ (k * t) : Nat) : Int)) = true := decide_eq_true (by omega)
      simp only [hd]
      rw [F29_eq R (by omega) hx, wrap_u64 (n := ((k * t : Nat) : Int)) (by omega) (by omega), F28_eq R (by rw [tapeX_len]; omega)]
      have etr : tapeR (bytesX x (k * t) (k * t)) ((k * t : Nat) : Int) = (tapeX x (k * t), 0) := by
        unfold tapeR
        rw [if_pos (by rw [tapeX_len]; omega)]
        rfl
      simp only [etr]
      rw [F23_eq R h (by omega) (by omega) (tapeX_ok x (by omega))]
      have hs0 : tapeX x (k * t) = setAt (tapeX x (k * t)) ((k * t - k * t : Nat) : Int) := by rw [Nat.sub_self]; rfl
      have hr0 : rightS' (tapeX x (k * t)) = true := by rw [hs0, Nat.sub_self]; exact (tapeX_right x (Nat.zero_le _)).1
      have edr : drawR (tapeX x (k * t)) (totS l) (t : Int) = drawF (b : Int) t (setAt (tapeX x (k * t)) ((k * t - k * t : Nat) : Int)) := by
        rw [← hs0, hb]
        unfold drawR
        rw [if_pos ⟨hr0, by omega, by omega, by omega, by omega⟩, Int.toNat_natCast]
      have elr : leadR l (tapeX x (k * t)) (t : Int) = (if (drawF (b : Int) t (setAt (tapeX x (k * t)) ((k * t - k * t : Nat) : Int))).2.2 = 0 then ((ownN l (drawF (b : Int) t (setAt (tapeX x (k * t)) ((k * t - k * t : Nat) : Int))).1 : Int), (drawF (b : Int) t (setAt (tapeX x (k * t)) ((k * t - k * t : Nat) : Int))).2.1, 0) else (0, (drawF (b : Int) t (setAt (tapeX x (k * t)) ((k * t - k * t : Nat) : Int))).2.1, (drawF (b : Int) t (setAt (tapeX x (k * t)) ((k * t - k * t : Nat) : Int))).2.2)) := by
        unfold leadR
        rw [if_pos (by omega), if_neg (by omega), edr]
      have hxm : x % (2 ^ k) ^ t = x := Nat.mod_eq_of_lt (by rw [← Nat.pow_mul]; exact hx)
      obtain ⟨d1, d2⟩ := draw_tape (x := x) hk (by omega) (show k * t ≤ 12 by omega) t (Nat.le_refl _)
      rw [hxm] at d1 d2
      rw [elr]
      have ebits : (tapeX x (k * t)).2.2.1 = ((k * t : Nat) : Int) := rfl
      have hat : ∀ a : Int, (setAt (tapeX x (k * t)) a).2.2.2.2.2.1 = a := fun _ => rfl
      cases ho : outO b (2 ^ k) t x with
      | some v =>
        obtain ⟨hv, a, ha, hdr⟩ := d1 v ho
        obtain ⟨j, hj, ej⟩ := has_owner h hlen hb hb32 hv
        have hj1 := hj.1
        have g1 : decide ((a : Int) > ((k * t : Nat) : Int)) = false := decide_eq_false (by omega)
        have g2 : decide ((j : Int) ≥ 0) = true := decide_eq_true (by omega)
        have g4 : decide ((j : Int) < (l.length : Int)) = true := decide_eq_true (by omega)
        have g3 : bnd (j : Int) (l.length : Int) = true := by unfold bnd; simp; omega
        simp only [hdr, if_true, ebits, hat, g1, beq_self_eq_true, ej, g2, gotQ_len, g4, g3, Int.toNat_natCast]
        rw [gotQ_get (by omega)]
        have hc := cntX_le (ownQ l b (2 ^ k) t j) x
        have hstep := gotQ_step (p := ownQ l b (2 ^ k) t) (x := x) hj1 (fun i hi => by
          unfold ownQ cntO
          rw [ho]
          simp only [ej]
          by_cases e : j = i
          · simp [e]
          · have e' : ¬ i = j := fun q => e q.symm
            simp [e, e'])
        rw [wrap_u64 (n := ((cnt (ownQ l b (2 ^ k) t j) x : Nat) : Int) + 1) (by omega) (by omega), ← hstep, wrap_u64 (n := (x : Int) + 1) (by omega) (by omega)]
        have e : cnt (fun y => outO b (2 ^ k) t y == none) x = cnt (fun y => outO b (2 ^ k) t y == none) (x + 1) := by
          rw [cnt_succ]
          have : (outO b (2 ^ k) t x == none) = false := by rw [ho]; rfl
          rw [this]; simp
        rw [e]
        exact G5_22_eq R h hlen hb hb0 hb32 hk hk5 ht0 ht hT k0 k1 m (x + 1) (by omega) (by omega)
      | none =>
        have hdr := d2 ho
        have g1 : decide (((k * t : Nat) : Int) > ((k * t : Nat) : Int)) = false := decide_eq_false (by omega)
        have g2 : ((9 : Int) == 0) = false := rfl
        have g9 : ¬ ((9 : Int) = 0) := by omega
        simp only [hdr, if_neg g9, ebits, hat, g1, beq_self_eq_true, g2]
        have hc := cntX_le (fun y => outO b (2 ^ k) t y == none) x
        have hsame := gotQ_same (p := ownQ l b (2 ^ k) t) (n := l.length) (x := x) (fun i hi => by
          unfold ownQ cntO
          rw [ho])
        rw [wrap_u64 (n := ((cnt (fun y => outO b (2 ^ k) t y == none) x : Nat) : Int) + 1) (by omega) (by omega), wrap_u64 (n := (x : Int) + 1) (by omega) (by omega), ← hsame]
        have e : ((cnt (fun y => outO b (2 ^ k) t y == none) x : Nat) : Int) + 1 = ((cnt (fun y => outO b (2 ^ k) t y == none) (x + 1) : Nat) : Int) := by
          rw [cnt_succ]
          have : (outO b (2 ^ k) t x == none) = true := by rw [ho]; rfl
          rw [this]; simp
        rw [e]
        exact G5_22_eq R h hlen hb hb0 hb32 hk hk5 ht0 ht hT k0 k1 m (x + 1) (by omega) (by omega)
    · have : x = 2 ^ (k * t) := by omega
      have hd : decide ((x : Int) < ((2 ^ (k * t) : Nat) : Int)) = false := decide_eq_false (by omega)
      simp only [hd]
      rw [this]
theorem G5_35_eq (R : Type) {l : List Int} (h : AllU64 l) (hsm : ∀ i, l.getD i 0 ≤ 5) (hlen : l.length ≤ 8) {b k t : Nat} (hb : totS l = b) (hb32 : b ≤ 32) (hbB : b ≤ 2 ^ k) (hT : k * t ≤ 11) (x4 : Int) (k0 : Bool → Option R) (k1 : Int → Int → Option R) :
    ∀ (m i : Nat), i ≤ l.length → l.length - i < m → G5_35 m R (b : Int) (t : Int) (k : Int) x4 (((2 ^ k - b) ^ t : Nat) : Int) (i : Int) l (gotQ (ownQ l b (2 ^ k) t) l.length (2 ^ (k * t))) k0 k1 = k1 x4 (((2 ^ k - b) ^ t : Nat) : Int)
  | 0, i, _, hh => by omega
  | m + 1, i, h1, h2 => by
    simp only [G5_35, p5_35, gotQ_len]
    by_cases hi : i < l.length
    · have hd : decide ((i : Int) < (l.length : Int)) = true := by simpa using hi
      have h12 : 2 ^ (k * t) ≤ 2 ^ 11 := Nat.pow_le_pow_right (by omega) hT
      have g3 : bnd (i : Int) (l.length : Int) = true := by unfold bnd; simp; omega
      have ekt : IntKind.i64.wrap ((k : Int) * (t : Int)) = ((k * t : Nat) : Int) := by
        rw [← Int.natCast_mul]
        exact wrap_i64 (by omega) (by omega)
      simp only [hd, g3, Int.toNat_natCast]
      rw [gotQ_get (by omega), ekt, F27_eq R (n := k * t) (by omega) (two_pow_ok (by omega))]
      have hcnt := count_q (B := 2 ^ k) (Nat.pow_pos (by omega)) hbB (fun v => decide (ownN l (v : Int) = i)) t
      have hown := own_count h hlen hb hb32 hi
      rw [← Nat.pow_mul] at hcnt
      have ep : (2 : Int) ^ (k * t) = ((2 ^ (k * t) : Nat) : Int) := by simp
      rw [ep]
      have hc4 := cntX_le (ownQ l b (2 ^ k) t i) (2 ^ (k * t))
      have hs5 := hsm i
      have eo : ownQ l b (2 ^ k) t i = cntO b (2 ^ k) (fun v => decide (ownN l (v : Int) = i)) t := rfl
      rw [eo] at hc4 ⊢
      generalize cnt (cntO b (2 ^ k) (fun v => decide (ownN l (v : Int) = i)) t) (2 ^ (k * t)) = c at *
      generalize cnt (fun v => decide (ownN l (v : Int) = i)) b = Q at *
      rw [← hown] at hs5 ⊢
      obtain ⟨lo, hl⟩ : ∃ lo, lo = (2 ^ k - b) ^ t := ⟨_, rfl⟩
      obtain ⟨N, hN⟩ : ∃ N, N = 2 ^ (k * t) := ⟨_, rfl⟩
      have hloN : lo ≤ N := by
        rw [hl, hN, Nat.pow_mul]
        exact Nat.pow_le_pow_left (by omega) t
      rw [← hl, ← hN] at hcnt ⊢
      rw [← hN] at h12 hc4
      have hcb : c * b ≤ 2048 * 32 := Nat.mul_le_mul (by omega) hb32
      have hQN : Q * (N - lo) ≤ 5 * 2048 := Nat.mul_le_mul (by omega) (by omega)
      have e5 : IntKind.u64.wrap ((c : Int) * (b : Int)) = ((c * b : Nat) : Int) := by
        rw [← Int.natCast_mul]
        exact wrap_u64 (by omega) (by omega)
      have e6 : IntKind.u64.wrap ((N : Int) - (lo : Int)) = ((N - lo : Nat) : Int) := by
        rw [show (N : Int) - (lo : Int) = ((N - lo : Nat) : Int) by omega]
        exact wrap_u64 (by omega) (by omega)
      have e7 : IntKind.u64.wrap ((Q : Int) * ((N - lo : Nat) : Int)) = ((Q * (N - lo) : Nat) : Int) := by
        rw [← Int.natCast_mul]
        exact wrap_u64 (by omega) (by omega)
      have e8 : c * b = Q * (N - lo) := by
        rw [Nat.mul_sub]
        omega
      have g4 : (((Q * (N - lo) : Nat) : Int) != ((Q * (N - lo) : Nat) : Int)) = false := by simp
      simp only [e5, e6, e7, e8, g4]
      rw [wrap_i64 (n := (i : Int) + 1) (by omega) (by omega)]
      have ih := G5_35_eq R h hsm hlen (t := t) hb hb32 hbB hT x4 k0 k1 m (i + 1) (by omega) (by omega)
      rw [← hl, ← hN] at ih
      exact ih
    · have : i = l.length := by omega
      subst this
      have hd : decide ((l.length : Int) < (l.length : Int)) = false := by simp
      simp only [hd]
theorem F5_eq' (R : Type) {l : List Int} (h : AllU64 l) {a : Int} (ha : 0 ≤ a ∧ a ≤ 255) (k : Bool → Option R) : F5 R l a k = k true := by
  simp only [F5, p5]
  rw [F17_eq']
  simp only [Bool.not_true]
  by_cases hlen : (l.length : Int) > 8
  · simp only [decide_eq_true hlen]
  simp only [decide_eq_false hlen]
  have hl8 : l.length ≤ 8 := by omega
  have g0 := G5_8_eq R h hl8 a (fun x4 x5 x6 x7 =>
      match x6 == 0 with
      | true => k true
      | false => match decide (x6 > 32) with
        | true => k true
        | false => F26 R x6 fun y13 => match decide (IntKind.i64.wrap (y13 * IntKind.i64.wrap (1 + IntKind.i64.wrap (Int.tmod x5 3))) > 11) with
          | true => k true
          | false => F25 R x7 fun y16 => match decide (0 ≤ (x4.length : Int) ∧ (x4.length : Int) ≤ (x4.length : Int) ∧ (x4.length : Int) ≤ (17592186044416 : Int)) with
            | true => G5_22 FUEL R x6 (IntKind.i64.wrap (1 + IntKind.i64.wrap (Int.tmod x5 3))) y13 0 0 x7 y16 (List.replicate (Int.toNat (x4.length : Int)) 0) (fun x19 => k x19) (fun x20 x21 x22 x23 x24 x25 => F27 R 2 x22 fun y26 => F27 R (IntKind.u64.wrap (y26 - x20)) x21 fun y28 => G5_35 FUEL R x20 x21 x22 x23 y28 0 x24 x25 (fun x29 => k x29) (fun x30 x31 => k (x30 == x31)))
            | false => none) FUEL 0 (by omega) (by rw [FUEL_eq]; omega)
  refine Eq.trans ?_ (g0.trans ?_)
  · rfl
  obtain ⟨t, ht, ht0, ht2⟩ : ∃ q : Nat, 1 + a % 3 = q ∧ 0 < q ∧ q ≤ 3 := ⟨(1 + a % 3).toNat, by omega, by omega, by omega⟩
  rw [Int.tmod_eq_emod_of_nonneg ha.1, wrap_i64 (n := a % 3) (by omega) (by omega), ht, wrap_i64 (n := (t : Int)) (by omega) (by omega)]
  have hs := small_u64 l
  have hsl := smallS_len l
  have htn := sumS_nonneg hs (smallS l).length
  obtain ⟨b, hb⟩ : ∃ b : Nat, totS (smallS l) = b := ⟨(totS (smallS l)).toNat, by have : 0 ≤ totS (smallS l) := htn; omega⟩
  rw [hb]
  by_cases h0 : b = 0
  · subst h0; rfl
  have e0 : ((b : Int) == 0) = false := by simp [h0]
  simp only [e0]
  by_cases h32 : (b : Int) > 32
  · simp only [decide_eq_true h32]
  simp only [decide_eq_false h32]
  have hU : U64 (b : Int) := by unfold U64; omega
  rw [F26_eq R hU]
  obtain ⟨s1, s2, s3⟩ := need_spec hU
  generalize hq : needS (b : Int) = q at *
  have hq6 : q ≤ 6 := by
    by_cases h2 : (2 : Int) ≤ b
    · have := (s3 h2).2
      refine Classical.byContradiction fun hh => ?_
      have h16 : (2 : Nat) ^ 6 ≤ 2 ^ (q - 1) := Nat.pow_le_pow_right (by omega) (by omega)
      have e : ((2 ^ (q - 1) : Nat) : Int) = (2 : Int) ^ (q - 1) := by simp
      omega
    · have hb1 : b = 1 := by omega
      subst hb1
      have : needS ((1 : Nat) : Int) = 0 := by kernel_rfl
      omega
  have eqt : IntKind.i64.wrap ((q : Int) * (t : Int)) = ((q * t : Nat) : Int) := by
    rw [← Int.natCast_mul]
    have : q * t ≤ 6 * 3 := Nat.mul_le_mul hq6 ht2
    exact wrap_i64 (by omega) (by omega)
  simp only [eqt]
  by_cases h12 : ((q * t : Nat) : Int) > 11
  · simp only [decide_eq_true h12]
  simp only [decide_eq_false h12]
  have hT : q * t ≤ 11 := by omega
  have hbB : b ≤ 2 ^ q := by
    have e : ((2 ^ q : Nat) : Int) = (2 : Int) ^ q := by simp
    omega
  have hc : decide (0 ≤ (l.length : Int) ∧ (l.length : Int) ≤ (l.length : Int) ∧ (l.length : Int) ≤ (17592186044416 : Int)) = true := decide_eq_true (by omega)
  rw [F25_eq R hs (by omega) (by omega)]
  simp only [hc, Int.toNat_natCast]
  have g := G5_22_eq R hs (by omega) hb (by omega) (by omega) hq hq6 ht0 (by omega) hT (fun x19 => k x19) (fun x20 x21 x22 x23 x24 x25 => F27 R 2 x22 fun y26 => F27 R (IntKind.u64.wrap (y26 - x20)) x21 fun y28 => G5_35 FUEL R x20 x21 x22 x23 y28 0 x24 x25 (fun x29 => k x29) (fun x30 x31 => k (x30 == x31))) FUEL 0 (Nat.zero_le _) (by
    have : 2 ^ (q * t) ≤ 2 ^ 11 := Nat.pow_le_pow_right (by omega) hT
    rw [FUEL_eq]; omega)
  have z1 : cnt (fun y => outO b (2 ^ q) t y == none) 0 = 0 := rfl
  rw [z1, gotQ_zero, hsl] at g
  refine Eq.trans ?_ (g.trans ?_)
  · rfl
  rw [F27_eq R (n := q) (by omega) (two_pow_ok (by omega))]
  have e : (2 : Int) ^ q = ((2 ^ q : Nat) : Int) := by simp
  have hB16 : 2 ^ q ≤ 2 ^ 6 := Nat.pow_le_pow_right (by omega) hq6
  rw [e, wrap_u64 (n := ((2 ^ q : Nat) : Int) - (b : Int)) (by omega) (by omega), show ((2 ^ q : Nat) : Int) - (b : Int) = ((2 ^ q - b : Nat) : Int) by omega]
  have hpw : ∀ i ≤ t, 0 ≤ ((2 ^ q - b : Nat) : Int) ^ i ∧ ((2 ^ q - b : Nat) : Int) ^ i < 18446744073709551616 := fun i hi => by
    have h1 : (2 ^ q - b) ^ i ≤ (2 ^ 6) ^ i := Nat.pow_le_pow_left (by omega) i
    have h2 : (2 ^ 6) ^ i ≤ (2 ^ 6) ^ 3 := Nat.pow_le_pow_right (by omega) (by omega)
    rw [← Int.natCast_pow]
    omega
  rw [F27_eq R (n := t) (by omega) hpw, ← Int.natCast_pow]
  have hsm : ∀ i, (smallS l).getD i 0 ≤ 5 := fun i => getD_all (p := fun x => x ≤ 5) (fun x hx => (small_range l x hx).2) (by omega) i
  have g2 := G5_35_eq R hs hsm (by omega) hb (by omega) hbB hT ((cnt (fun y => outO b (2 ^ q) t y == none) (2 ^ (q * t)) : Nat) : Int) (fun x29 => k x29) (fun x30 x31 => k (x30 == x31)) FUEL 0 (Nat.zero_le _) (by rw [FUEL_eq]; omega)
  rw [hsl] at g2
  refine Eq.trans ?_ (g2.trans ?_)
  · rfl
  rw [Nat.pow_mul, count_none (Nat.pow_pos (by omega))]
  simp
end Go.PG
