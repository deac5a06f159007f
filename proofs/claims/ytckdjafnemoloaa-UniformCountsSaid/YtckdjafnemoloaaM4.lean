/- A part of the proofs over this seat (own work; the framework that reads a Go function as a pure one, or a use of it). No condition of its own. -/
import Derived.Test.YtckdjafnemoloaaM2
import Derived.Test.YtckdjafnemoloaaM3
import Derived.KernelRfl
set_option linter.unusedVariables false
set_option linter.unusedSimpArgs false
namespace Go.PG
/-! 32-bit words: the operators as numbers. -/
def U32 (x : Int) : Prop := 0 ≤ x ∧ x < 4294967296
def U8 (x : Int) : Prop := 0 ≤ x ∧ x < 256

theorem ofInt_toNat32 {x : Int} (h : U32 x) : (BitVec.ofInt 32 x).toNat = x.toNat := by
  rw [BitVec.toNat_ofInt]
  unfold U32 at h
  have : x % ((2 ^ 32 : Nat) : Int) = x := by omega
  rw [this]
theorem wrap_bv32 (b : BitVec 32) : IntKind.u32.wrap ((b.toNat : Nat) : Int) = (b.toNat : Int) := by
  have := b.isLt
  exact wrap_u32 (by omega) (by omega)
theorem iand_u32 (a b : Int) : iand .u32 a b = ((BitVec.ofInt 32 a &&& BitVec.ofInt 32 b).toNat : Int) := wrap_bv32 _
theorem ior_u32 (a b : Int) : ior .u32 a b = ((BitVec.ofInt 32 a ||| BitVec.ofInt 32 b).toNat : Int) := wrap_bv32 _
theorem ixor_u32 (a b : Int) : ixor .u32 a b = ((BitVec.ofInt 32 a ^^^ BitVec.ofInt 32 b).toNat : Int) := wrap_bv32 _
theorem bv32_lt (b : BitVec 32) : U32 (b.toNat : Int) := by have := b.isLt; unfold U32; omega
theorem iand_lt (a b : Int) : U32 (iand .u32 a b) := by rw [iand_u32]; exact bv32_lt _
theorem ior_lt (a b : Int) : U32 (ior .u32 a b) := by rw [ior_u32]; exact bv32_lt _
theorem ixor_lt (a b : Int) : U32 (ixor .u32 a b) := by rw [ixor_u32]; exact bv32_lt _
theorem wrap_lt32 (a : Int) : U32 (IntKind.u32.wrap a) := by rw [wrap_u32_mod]; unfold U32; omega
theorem ofInt_natCast32 (b : BitVec 32) : BitVec.ofInt 32 ((b.toNat : Nat) : Int) = b := by
  rw [BitVec.ofInt_natCast, BitVec.ofNat_toNat, BitVec.setWidth_eq]

/-- The choice: by xor as by or. -/
theorem choice_eq {a : Int} (b c : Int) (ha : U32 a) : ixor .u32 (iand .u32 a b) (iand .u32 (ixor .u32 4294967295 a) c) = ior .u32 (iand .u32 a b) (iand .u32 (IntKind.u32.wrap (4294967295 - a)) c) := by
  have h1 : IntKind.u32.wrap (4294967295 - a) = ixor .u32 4294967295 a := by
    rw [ixor_u32, wrap_u32 (by unfold U32 at ha; omega) (by unfold U32 at ha; omega)]
    have e : BitVec.ofInt 32 4294967295 = BitVec.allOnes 32 := by decide
    rw [e, BitVec.allOnes_xor, BitVec.toNat_not, ofInt_toNat32 ha]
    unfold U32 at ha
    omega
  rw [h1]
  simp only [iand_u32, ior_u32, ixor_u32, ofInt_natCast32]
  congr 2
  have e : BitVec.ofInt 32 4294967295 = BitVec.allOnes 32 := by decide
  rw [e]
  ext i hi
  simp only [BitVec.getElem_xor, BitVec.getElem_and, BitVec.getElem_or, BitVec.getElem_allOnes]
  cases (BitVec.ofInt 32 a)[i] <;> simp

theorem majority_eq (a b c : Int) : ixor .u32 (ixor .u32 (iand .u32 a b) (iand .u32 a c)) (iand .u32 b c) = ior .u32 (ior .u32 (iand .u32 a b) (iand .u32 a c)) (iand .u32 b c) := by
  simp only [iand_u32, ior_u32, ixor_u32, ofInt_natCast32]
  congr 2
  ext i hi
  simp
  cases (BitVec.ofInt 32 a)[i] <;> cases (BitVec.ofInt 32 b)[i] <;> cases (BitVec.ofInt 32 c)[i] <;> rfl

/-- Turned to the right by r places. -/
def rotS (x : Int) (r : Nat) : Int := x / 2 ^ r + (x % 2 ^ r) * 2 ^ (32 - r)

theorem rotS_step {x : Int} {r : Nat} (hx : U32 x) (hr : r < 32) : rotS x (r + 1) = rotS x r / 2 + (rotS x r % 2) * 2147483648 := by
  unfold rotS U32 at *
  have e1 : (2 : Int) ^ (32 - r) = 2 * 2 ^ (31 - r) := by
    rw [show 32 - r = (31 - r) + 1 by omega, Int.pow_succ]; omega
  have e2 : (2 : Int) ^ (32 - (r + 1)) = 2 ^ (31 - r) := by rw [show 32 - (r + 1) = 31 - r by omega]
  have e3 : (2 : Int) ^ (r + 1) = 2 ^ r * 2 := Int.pow_succ _ _
  have e4 : (2 : Int) ^ r * 2 ^ (31 - r) = 2147483648 := by
    rw [← Int.pow_add, show r + (31 - r) = 31 by omega]; decide
  rw [e1, e2, e3]
  have hp : (0 : Int) < 2 ^ r := Int.pow_pos (by decide)
  generalize (2 : Int) ^ r = p at *
  generalize (2 : Int) ^ (31 - r) = s at *
  have d1 : x / (p * 2) = x / p / 2 := (Int.ediv_ediv_of_nonneg (by omega)).symm
  have d2 : x % (p * 2) = x % p + p * (x / p % 2) := by
    have a1 := Int.emod_add_mul_ediv x p
    have a2 := Int.emod_add_mul_ediv x (p * 2)
    have a3 := Int.emod_add_mul_ediv (x / p) 2
    rw [d1] at a2
    generalize x / p = q at *
    generalize x % p = m at *
    generalize q / 2 = h at *
    generalize q % 2 = t at *
    have : p * (t + 2 * h) = p * q := by rw [a3]
    rw [Int.mul_add, ← Int.mul_assoc] at this
    omega
  rw [d1, d2, Int.add_mul]
  have e5 : p * (x / p % 2) * s = (x / p % 2) * 2147483648 := by
    rw [Int.mul_comm p, Int.mul_assoc, e4]
  rw [e5]
  have e6 : x % p * (2 * s) = 2 * (x % p * s) := by rw [Int.mul_left_comm]
  rw [e6]
  generalize x % p * s = u
  omega

theorem rotS_zero (x : Int) : rotS x 0 = x := by simp [rotS]
theorem rotS_lt {x : Int} (hx : U32 x) : ∀ {r : Nat}, r ≤ 32 → U32 (rotS x r)
  | 0, _ => by rw [rotS_zero]; exact hx
  | r + 1, h => by
    have ih := rotS_lt hx (r := r) (by omega)
    rw [rotS_step hx (by omega)]
    unfold U32 at *
    omega

theorem two_pow_pos (r : Nat) : (0 : Int) < 2 ^ r := Int.pow_pos (by decide)

/-- Shifts, joined. -/
theorem rot_or {x : Int} (hx : U32 x) {r : Nat} (h0 : 0 < r) (hr : r < 32) : ior .u32 (ishr .u32 x r) (ishl .u32 x ((32 : Int) - r)) = rotS x r := by
  unfold U32 at hx
  obtain ⟨n, rfl⟩ : ∃ n : Nat, x = n := ⟨x.toNat, by omega⟩
  have hn : n < 2 ^ 32 := by omega
  have e1 : ishr .u32 (n : Int) r = ((n / 2 ^ r : Nat) : Int) := by
    unfold ishr
    rw [show IntKind.u32.bits = 32 from rfl, show ((r : Int).toNat) = r by simp, Nat.min_eq_left (by omega), Int.fdiv_eq_ediv_of_nonneg _ (by have := two_pow_pos r; omega)]
    simp
  have e2 : ishl .u32 (n : Int) ((32 : Int) - r) = ((n * 2 ^ (32 - r) % 2 ^ 32 : Nat) : Int) := by
    unfold ishl
    rw [show IntKind.u32.bits = 32 from rfl, show ((32 : Int) - r).toNat = 32 - r by omega, Nat.min_eq_left (by omega), wrap_u32_mod]
    simp
  rw [e1, e2, ior_u32, BitVec.ofInt_natCast, BitVec.ofInt_natCast, BitVec.toNat_or, BitVec.toNat_ofNat, BitVec.toNat_ofNat]
  have hd : n / 2 ^ r < 2 ^ (32 - r) := by
    rw [Nat.div_lt_iff_lt_mul (Nat.two_pow_pos r), ← Nat.pow_add, show 32 - r + r = 32 by omega]; exact hn
  have h3 : n * 2 ^ (32 - r) % 2 ^ 32 = (n % 2 ^ r) * 2 ^ (32 - r) := by
    have : 2 ^ 32 = 2 ^ r * 2 ^ (32 - r) := by rw [← Nat.pow_add, show r + (32 - r) = 32 by omega]
    rw [this, Nat.mul_mod_mul_right]
  have h4 : n / 2 ^ r < 2 ^ 32 := Nat.lt_of_le_of_lt (Nat.div_le_self _ _) hn
  rw [h3, Nat.mod_eq_of_lt h4, Nat.mod_eq_of_lt (by
    have : n % 2 ^ r < 2 ^ r := Nat.mod_lt _ (Nat.two_pow_pos r)
    have h5 : 2 ^ 32 = 2 ^ r * 2 ^ (32 - r) := by rw [← Nat.pow_add, show r + (32 - r) = 32 by omega]
    rw [h5]; exact Nat.mul_lt_mul_of_pos_right this (Nat.two_pow_pos _)), Nat.or_comm]
  have h6 := Nat.shiftLeft_add_eq_or_of_lt hd (n % 2 ^ r)
  rw [Nat.shiftLeft_eq] at h6
  rw [← h6]
  unfold rotS
  simp
  omega
end Go.PG
namespace Go.PG
/-! Words: the program's and the document's. -/
theorem F127_eq (R : Type) {x : Int} (hx : U32 x) {r : Nat} (h0 : 0 < r) (hr : r < 32) (k : Int → Option R) : F127 R x (r : Int) k = k (rotS x r) := by
  simp only [F127, p127]
  rw [wrap_u64 (n := (r : Int)) (by omega) (by omega), Int.tmod_eq_of_lt (by omega) (by omega), wrap_u64 (by omega) (by omega)]
  rw [show decide (0 ≤ (r : Int)) = true by simp, show decide (0 ≤ (32 : Int) - r) = true by simp; omega]
  simp only
  rw [rot_or hx h0 hr]

theorem G119_eq (R : Type) {x : Int} (hx : U32 x) {r : Nat} (hr : r ≤ 32) (k : Int → Option R) : ∀ (m i : Nat), i ≤ r → r - i < m → G119_5 m R (rotS x i) (r : Int) (i : Int) k = k (rotS x r)
  | 0, i, _, h => by omega
  | m + 1, i, h1, h2 => by
    simp only [G119_5, p119_5]
    by_cases hi : i < r
    · have hd : decide ((i : Int) < (r : Int)) = true := by simpa using hi
      have hu := rotS_lt hx (r := i) (by omega)
      have hs := rotS_step hx (r := i) (by omega)
      simp only [hd]
      have ih := G119_eq R hx hr k m (i + 1) (by omega) (by omega)
      rw [hs] at ih
      rw [← ih]
      unfold U32 at hu
      rw [Int.tdiv_eq_ediv_of_nonneg hu.1, Int.tmod_eq_emod_of_nonneg hu.1]
      rw [wrap_u32 (n := rotS x i / 2) (by omega) (by omega), wrap_u32 (n := rotS x i % 2 * 2147483648) (by omega) (by omega), wrap_u32 (by omega) (by omega), wrap_i64 (by omega) (by omega)]
      rfl
    · have hd : decide ((i : Int) < (r : Int)) = false := by simpa using hi
      have : i = r := by omega
      subst this
      simp only [hd]

theorem F119_eq (R : Type) {x : Int} (hx : U32 x) {r : Nat} (hr : r < 32) (k : Int → Option R) : F119 R x (r : Int) k = k (rotS x r) := by
  simp only [F119, p119]
  rw [Int.tmod_eq_of_lt (by omega) (by omega)]
  have hd : decide ((r : Int) < 0) = false := by simp
  simp only [hd]
  have := G119_eq R hx (r := r) (by omega) k FUEL 0 (by omega) (by rw [FUEL_eq]; omega)
  rw [rotS_zero] at this
  exact this

def shrS (x : Int) (r : Nat) : Int := x / 2 ^ r
theorem shr_eq {x : Int} (hx : U32 x) {r : Nat} (hr : r ≤ 32) : ishr .u32 x r = shrS x r := by
  unfold ishr shrS
  rw [show IntKind.u32.bits = 32 from rfl, show ((r : Int).toNat) = r by simp, Nat.min_eq_left hr, Int.fdiv_eq_ediv_of_nonneg _ (by have := two_pow_pos r; omega)]
theorem F128_eq (R : Type) {x : Int} (hx : U32 x) {r : Nat} (hr : r ≤ 32) (k : Int → Option R) : F128 R x (r : Int) k = k (shrS x r) := by
  simp only [F128, p128]
  have e : (if (0 : Int) > (r : Int) then (0 : Int) else (r : Int)) = r := by split <;> omega
  rw [e, wrap_u64 (by omega) (by omega), shr_eq hx hr]
  have hd : decide ((0 : Int) ≤ (r : Int)) = true := by simp
  simp only [hd]

theorem shrS_lt {x : Int} (hx : U32 x) (r : Nat) : U32 (shrS x r) := by
  unfold shrS U32 at *
  have hp := two_pow_pos r
  exact ⟨Int.ediv_nonneg hx.1 (by omega), Int.lt_of_le_of_lt (Int.ediv_le_self _ hx.1) hx.2⟩
theorem shrS_step (x : Int) (r : Nat) : shrS x (r + 1) = shrS x r / 2 := by
  unfold shrS
  rw [Int.pow_succ, Int.ediv_ediv_of_nonneg (by have := two_pow_pos r; omega)]

theorem G47_eq (R : Type) {x : Int} (hx : U32 x) {r : Nat} (hr : r ≤ 32) (k : Int → Option R) : ∀ (m i : Nat), i ≤ r → r - i < m → G47_4 m R (shrS x i) (r : Int) (i : Int) k = k (shrS x r)
  | 0, i, _, h => by omega
  | m + 1, i, h1, h2 => by
    simp only [G47_4, p47_4]
    by_cases hi : i < r
    · have hd : decide ((i : Int) < (r : Int)) = true := by simpa using hi
      have hu := shrS_lt hx i
      simp only [hd]
      have ih := G47_eq R hx hr k m (i + 1) (by omega) (by omega)
      rw [shrS_step] at ih
      rw [← ih]
      unfold U32 at hu
      rw [Int.tdiv_eq_ediv_of_nonneg hu.1, wrap_u32 (by omega) (by omega), wrap_i64 (by omega) (by omega)]
      rfl
    · have hd : decide ((i : Int) < (r : Int)) = false := by simpa using hi
      have : i = r := by omega
      subst this
      simp only [hd]
theorem F47_eq (R : Type) {x : Int} (hx : U32 x) {r : Nat} (hr : r < 32) (k : Int → Option R) : F47 R x (r : Int) k = k (shrS x r) := by
  simp only [F47, p47]
  have hd : decide ((r : Int) > 31) = false := by simp; omega
  simp only [hd]
  have := G47_eq R hx (r := r) (by omega) k FUEL 0 (by omega) (by rw [FUEL_eq]; omega)
  rw [show shrS x 0 = x by simp [shrS]] at this
  exact this

theorem F127_lit (R : Type) {x : Int} (hx : U32 x) {n : Int} (r : Nat) (e : n = (r : Int)) (h0 : 0 < r) (hr : r < 32) (k : Int → Option R) : F127 R x n k = k (rotS x r) := by rw [e]; exact F127_eq R hx h0 hr k
theorem F119_lit (R : Type) {x : Int} (hx : U32 x) {n : Int} (r : Nat) (e : n = (r : Int)) (hr : r < 32) (k : Int → Option R) : F119 R x n k = k (rotS x r) := by rw [e]; exact F119_eq R hx hr k
theorem F128_lit (R : Type) {x : Int} (hx : U32 x) {n : Int} (r : Nat) (e : n = (r : Int)) (hr : r ≤ 32) (k : Int → Option R) : F128 R x n k = k (shrS x r) := by rw [e]; exact F128_eq R hx hr k
theorem F47_lit (R : Type) {x : Int} (hx : U32 x) {n : Int} (r : Nat) (e : n = (r : Int)) (hr : r < 32) (k : Int → Option R) : F47 R x n k = k (shrS x r) := by rw [e]; exact F47_eq R hx hr k
def sig3 (x : Int) (a b c : Nat) : Int := ixor .u32 (ixor .u32 (rotS x a) (rotS x b)) (rotS x c)
def sig2 (x : Int) (a b c : Nat) : Int := ixor .u32 (ixor .u32 (rotS x a) (rotS x b)) (shrS x c)
theorem sig3_lt (x : Int) (a b c : Nat) : U32 (sig3 x a b c) := ixor_lt _ _
theorem sig2_lt (x : Int) (a b c : Nat) : U32 (sig2 x a b c) := ixor_lt _ _
theorem F121_eq (R : Type) {x : Int} (hx : U32 x) (k : Int → Option R) : F121 R x k = k (sig2 x 17 19 10) := by
  simp only [F121, p121, F125, p125]
  rw [F127_lit R hx (n := 17) 17 rfl (by omega) (by omega), F127_lit R hx (n := 19) 19 rfl (by omega) (by omega), F128_lit R hx (n := 10) 10 rfl (by omega)]
  simp only [sig2]
theorem F122_eq (R : Type) {x : Int} (hx : U32 x) (k : Int → Option R) : F122 R x k = k (sig2 x 7 18 3) := by
  simp only [F122, p122, F125, p125]
  rw [F127_lit R hx (n := 7) 7 rfl (by omega) (by omega), F127_lit R hx (n := 18) 18 rfl (by omega) (by omega), F128_lit R hx (n := 3) 3 rfl (by omega)]
  simp only [sig2]
theorem F111_eq (R : Type) {x : Int} (hx : U32 x) (k : Int → Option R) : F111 R x k = k (sig2 x 17 19 10) := by
  have h1 := F119_lit R hx (n := 17) 17 rfl (by omega)
  have h2 := F119_lit R hx (n := 19) 19 rfl (by omega)
  have h3 := F47_lit R hx (n := 10) 10 rfl (by omega)
  show p111 F47 F119 R x k = _
  generalize F119 = f at *
  generalize F47 = g at *
  simp only [p111, h1, h2, h3, sig2]
theorem F112_eq (R : Type) {x : Int} (hx : U32 x) (k : Int → Option R) : F112 R x k = k (sig2 x 7 18 3) := by
  have h1 := F119_lit R hx (n := 7) 7 rfl (by omega)
  have h2 := F119_lit R hx (n := 18) 18 rfl (by omega)
  have h3 := F47_lit R hx (n := 3) 3 rfl (by omega)
  show p112 F47 F119 R x k = _
  generalize F119 = f at *
  generalize F47 = g at *
  simp only [p112, h1, h2, h3, sig2]

def chS (a b c : Int) : Int := ior .u32 (iand .u32 a b) (iand .u32 (IntKind.u32.wrap (4294967295 - a)) c)
def majS (a b c : Int) : Int := ior .u32 (ior .u32 (iand .u32 a b) (iand .u32 a c)) (iand .u32 b c)
theorem F123_eq (R : Type) {a : Int} (ha : U32 a) (b c : Int) (k : Int → Option R) : F123 R a b c k = k (IntKind.u32.wrap (sig3 a 6 11 25 + chS a b c)) := by
  simp only [F123, p123, F126, p126]
  rw [F127_lit R ha (n := 6) 6 rfl (by omega) (by omega), F127_lit R ha (n := 11) 11 rfl (by omega) (by omega), F127_lit R ha (n := 25) 25 rfl (by omega) (by omega)]
  simp only [sig3, chS, choice_eq b c ha]
theorem F124_eq (R : Type) {a : Int} (ha : U32 a) (b c : Int) (k : Int → Option R) : F124 R a b c k = k (IntKind.u32.wrap (sig3 a 2 13 22 + majS a b c)) := by
  simp only [F124, p124, F126, p126]
  rw [F127_lit R ha (n := 2) 2 rfl (by omega) (by omega), F127_lit R ha (n := 13) 13 rfl (by omega) (by omega), F127_lit R ha (n := 22) 22 rfl (by omega) (by omega)]
  simp only [sig3, majS, majority_eq]
theorem F113_eq (R : Type) {x : Int} (hx : U32 x) {a b c : Int} (p q r : Nat) (ea : a = (p : Int)) (eb : b = (q : Int)) (ec : c = (r : Int)) (hp : p < 32) (hq : q < 32) (hr : r < 32) (k : Int → Option R) : F113 R x a b c k = k (sig3 x p q r) := by
  simp only [F113, p113]
  rw [F119_lit R hx p ea hp, F119_lit R hx q eb hq, F119_lit R hx r ec hr]
  simp only [sig3]

/-- A round. -/
def roundS (s : List Int) (w c : Int) : List Int :=
  let t := IntKind.u32.wrap (s.getD 7 0 + sig3 (s.getD 4 0) 6 11 25 + chS (s.getD 4 0) (s.getD 5 0) (s.getD 6 0) + c + w)
  [IntKind.u32.wrap (t + (sig3 (s.getD 0 0) 2 13 22 + majS (s.getD 0 0) (s.getD 1 0) (s.getD 2 0))), s.getD 0 0, s.getD 1 0, s.getD 2 0, IntKind.u32.wrap (s.getD 3 0 + t), s.getD 4 0, s.getD 5 0, s.getD 6 0]

theorem F104_eq (R : Type) {s : List Int} (h0 : U32 (s.getD 0 0)) (h4 : U32 (s.getD 4 0)) (w c : Int) (k : List Int → Option R) : F104 R s w c k = k (roundS s w c) := by
  have e1 := F113_eq R h4 (a := 6) (b := 11) (c := 25) 6 11 25 rfl rfl rfl (by omega) (by omega) (by omega)
  have e2 := F113_eq R h0 (a := 2) (b := 13) (c := 22) 2 13 22 rfl rfl rfl (by omega) (by omega) (by omega)
  show p104 F113 F114 F115 R s w c k = _
  generalize F113 = f at *
  simp only [p104, e1, e2, F114, p114, F115, p115]
  congr 1
  simp only [roundS, chS, majS, List.replicate, List.set]
  simp only [wrap_u32_mod]
  congr 1
  · omega
  · congr 4
    omega
theorem F118_eq (R : Type) {a0 a1 a2 a3 a4 a5 a6 a7 : Int} (h0 : U32 a0) (h4 : U32 a4) (w c : Int) (k : List Int → Option R) : F118 R [a0, a1, a2, a3, a4, a5, a6, a7] w c k = k (roundS [a0, a1, a2, a3, a4, a5, a6, a7] w c) := by
  simp only [F118, p118, List.getD_cons_zero, List.getD_cons_succ]
  rw [F123_eq R h4, F124_eq R h0]
  congr 1
  simp [roundS, lay, List.replicate]
  simp only [wrap_u32_mod]
  refine ⟨?_, ?_⟩ <;> omega
end Go.PG
namespace Go.PG
/-! Four bytes, the plan, the constants. -/
theorem list4 {l : List Int} (h : l.length = 4) : ∃ a b c d, l = [a, b, c, d] := by
  match l, h with
  | [a, b, c, d], _ => exact ⟨a, b, c, d, rfl⟩
theorem list8 {l : List Int} (h : l.length = 8) : ∃ a b c d e f g i, l = [a, b, c, d, e, f, g, i] := by
  match l, h with
  | [a, b, c, d, e, f, g, i], _ => exact ⟨a, b, c, d, e, f, g, i, rfl⟩

def AllU8 (l : List Int) : Prop := ∀ x ∈ l, U8 x
def AllU32 (l : List Int) : Prop := ∀ x ∈ l, U32 x
def get32S (a b c d : Int) : Int := ((a * 256 + b) * 256 + c) * 256 + d

theorem FUEL_succ (n : Nat) (h : n ≤ 1000) : ∃ m, FUEL = m + n := ⟨FUEL - n, by rw [FUEL_eq]; omega⟩

theorem F110_eq (R : Type) {a b c d : Int} (ha : U8 a) (hb : U8 b) (hc : U8 c) (hd : U8 d) (k : Int → Option R) : F110 R [a, b, c, d] k = k (get32S a b c d) := by
  obtain ⟨m, hm⟩ := FUEL_succ 5 (by omega)
  unfold U8 at *
  simp only [F110, p110, hm, G110_3, p110_3]
  simp [bnd, wrap_i64_def, wrap_u32_mod, get32S]
  congr 1
  omega

theorem ior_shl8 {x b : Int} (hx : 0 ≤ x ∧ x < 16777216) (hb : U8 b) : ior .u32 (ishl .u32 x 8) b = x * 256 + b := by
  unfold U8 at hb
  obtain ⟨n, rfl⟩ : ∃ n : Nat, x = n := ⟨x.toNat, by omega⟩
  obtain ⟨c, rfl⟩ : ∃ c : Nat, b = c := ⟨b.toNat, by omega⟩
  have e2 : ishl .u32 (n : Int) 8 = ((n * 256 : Nat) : Int) := by
    unfold ishl
    rw [show (2 : Int) ^ (min (8 : Int).toNat IntKind.u32.bits) = 256 by decide, wrap_u32 (by omega) (by omega)]
    simp
  rw [e2, ior_u32, BitVec.ofInt_natCast, BitVec.ofInt_natCast, BitVec.toNat_or, BitVec.toNat_ofNat, BitVec.toNat_ofNat, Nat.mod_eq_of_lt (by omega), Nat.mod_eq_of_lt (by omega)]
  have h6 := Nat.shiftLeft_add_eq_or_of_lt (i := 8) (b := c) (by omega) n
  rw [Nat.shiftLeft_eq] at h6
  rw [show n * 256 = n * 2 ^ 8 by rfl, ← h6]
  simp

theorem F120_eq (R : Type) {a b c d : Int} (ha : U8 a) (hb : U8 b) (hc : U8 c) (hd : U8 d) (k : Int → Option R) : F120 R [a, b, c, d] k = k (get32S a b c d) := by
  obtain ⟨m, hm⟩ := FUEL_succ 5 (by omega)
  simp only [F120, p120, hm, G120_2, p120_2]
  have w : ∀ x, U8 x → IntKind.u32.wrap x = x := fun x h => wrap_u32 h.1 (by unfold U8 at h; omega)
  simp [bnd, wrap_i64_def, w a ha, w b hb, w c hc, w d hd]
  have u := ha; have v := hb; have y := hc; have z := hd
  unfold U8 at u v y z
  rw [ior_shl8 (x := 0) (by omega) ha, ior_shl8 (by omega) hb, ior_shl8 (by omega) hc, ior_shl8 (by omega) hd]
  simp [get32S]
theorem get32S_lt {a b c d : Int} (ha : U8 a) (hb : U8 b) (hc : U8 c) (hd : U8 d) : U32 (get32S a b c d) := by
  unfold U8 U32 get32S at *; omega

def word4 (blk : List Int) (i : Nat) : Int := get32S (blk.getD (4 * i) 0) (blk.getD (4 * i + 1) 0) (blk.getD (4 * i + 2) 0) (blk.getD (4 * i + 3) 0)
def planW (l : List Int) (i : Nat) : Int := IntKind.u32.wrap (IntKind.u32.wrap (IntKind.u32.wrap (sig2 (l.getD (i - 2) 0) 17 19 10 + l.getD (i - 7) 0) + sig2 (l.getD (i - 15) 0) 7 18 3) + l.getD (i - 16) 0)
def planStep (blk l : List Int) (i : Nat) : List Int := l.set i (if i < 16 then word4 blk i else planW l i)
def planS (blk : List Int) : List Int := (List.range' 0 64).foldl (planStep blk) (List.replicate 64 0)

theorem getD_all {p : Int → Prop} {l : List Int} (h : ∀ x ∈ l, p x) (h0 : p 0) (i : Nat) : p (l.getD i 0) := by
  rw [List.getD_eq_getElem?_getD]
  cases hi : l[i]? with
  | none => exact h0
  | some x => exact h x (List.mem_of_getElem? hi)
theorem u8_0 : U8 0 := by unfold U8; omega
theorem u32_0 : U32 0 := by unfold U32; omega
theorem AllU32.set {l : List Int} (h : AllU32 l) {i : Nat} {x : Int} (hx : U32 x) : AllU32 (l.set i x) := fun y hy => by
  rcases List.mem_or_eq_of_mem_set hy with h1 | h1
  · exact h y h1
  · rw [h1]; exact hx
theorem AllU32.rep (n : Nat) : AllU32 (List.replicate n 0) := fun y hy => by rw [List.eq_of_mem_replicate hy]; exact u32_0
theorem word4_lt {blk : List Int} (h : AllU8 blk) (i : Nat) : U32 (word4 blk i) := get32S_lt (getD_all h u8_0 _) (getD_all h u8_0 _) (getD_all h u8_0 _) (getD_all h u8_0 _)
theorem planStep_ok {blk l : List Int} (hb : AllU8 blk) (hl : l.length = 64) (h : AllU32 l) (i : Nat) : (planStep blk l i).length = 64 ∧ AllU32 (planStep blk l i) := by
  unfold planStep
  refine ⟨by simpa using hl, h.set ?_⟩
  split
  · exact word4_lt hb i
  · exact wrap_lt32 _

theorem take4 {l : List Int} {i : Nat} (h : i + 4 ≤ l.length) : List.take 4 (List.drop i l) = [l.getD i 0, l.getD (i + 1) 0, l.getD (i + 2) 0, l.getD (i + 3) 0] := by
  have e0 : List.drop i l = l[i] :: List.drop (i + 1) l := List.drop_eq_getElem_cons (by omega)
  have e1 : List.drop (i + 1) l = l[i + 1] :: List.drop (i + 1 + 1) l := List.drop_eq_getElem_cons (by omega)
  have e2 : List.drop (i + 1 + 1) l = l[i + 1 + 1] :: List.drop (i + 1 + 1 + 1) l := List.drop_eq_getElem_cons (by omega)
  have e3 : List.drop (i + 1 + 1 + 1) l = l[i + 1 + 1 + 1] :: List.drop (i + 1 + 1 + 1 + 1) l := List.drop_eq_getElem_cons (by omega)
  rw [e0, e1, e2, e3]
  show [l[i], l[i + 1], l[i + 1 + 1], l[i + 1 + 1 + 1]] = _
  simp [show i < l.length by omega, show i + 1 < l.length by omega, show i + 2 < l.length by omega, show i + 3 < l.length by omega]

theorem range'_step {i n : Nat} (h : i < n) : List.range' i (n - i) = i :: List.range' (i + 1) (n - (i + 1)) := by
  rw [show n - i = (n - (i + 1)) + 1 by omega, List.range'_succ]

theorem G117_eq (R : Type) {blk : List Int} (hb : blk.length = 64) (h8 : AllU8 blk) (k0 : List Int → Option R) : ∀ (m i : Nat) (l : List Int), i ≤ 64 → 64 - i < m → l.length = 64 → AllU32 l →
    G117_2 m R (i : Int) blk l k0 = k0 ((List.range' i (64 - i)).foldl (planStep blk) l)
  | 0, i, l, _, h, _, _ => by omega
  | m + 1, i, l, h1, h2, hl, hu => by
    simp only [G117_2, p117_2]
    by_cases hi : i < 64
    · have ok := planStep_ok h8 hl hu i
      have ih := G117_eq R hb h8 k0 m (i + 1) (planStep blk l i) (by omega) (by omega) ok.1 ok.2
      rw [range'_step hi, List.foldl_cons, ← ih]
      rw [wrap_i64 (n := 4 * (i : Int)) (by omega) (by omega), wrap_i64 (n := (i : Int) + 1) (by omega) (by omega), wrap_i64 (n := 4 * (i : Int) + 4) (by omega) (by omega)]
      have hd : decide ((i : Int) < 64) = true := by simp; omega
      have hbn : bnd (i : Int) 64 = true := by unfold bnd; simp; omega
      by_cases h16 : i < 16
      · have c1 : decide (4 * (i : Int) < 64) = true := by simp; omega
        have c2 : decide (0 ≤ 4 * (i : Int) ∧ 4 * (i : Int) ≤ 4 * (i : Int) + 4 ∧ 4 * (i : Int) + 4 ≤ 64) = true := by simp; omega
        have c3 : decide ((4 : Int) ≤ ((Int.toNat (4 * (i : Int) + 4 - 4 * (i : Int)) : Nat) : Int)) = true := by simp; omega
        have e1 : (4 * (i : Int)).toNat = 4 * i := by omega
        simp only [hd, c1, c2, c3, e1, hbn]
        rw [take4 (by omega), F120_eq R (getD_all h8 u8_0 _) (getD_all h8 u8_0 _) (getD_all h8 u8_0 _) (getD_all h8 u8_0 _)]
        simp only [planStep, if_pos h16, word4, Int.toNat_natCast]
        rfl
      · have c1 : decide (4 * (i : Int) < 64) = false := by simp; omega
        rw [wrap_i64 (n := (i : Int) - 2) (by omega) (by omega), wrap_i64 (n := (i : Int) - 7) (by omega) (by omega), wrap_i64 (n := (i : Int) - 15) (by omega) (by omega), wrap_i64 (n := (i : Int) - 16) (by omega) (by omega)]
        have b2 : bnd ((i : Int) - 2) 64 = true := by unfold bnd; simp; omega
        have b7 : bnd ((i : Int) - 7) 64 = true := by unfold bnd; simp; omega
        have b15 : bnd ((i : Int) - 15) 64 = true := by unfold bnd; simp; omega
        have b16 : bnd ((i : Int) - 16) 64 = true := by unfold bnd; simp; omega
        have n2 : ((i : Int) - 2).toNat = i - 2 := by omega
        have n7 : ((i : Int) - 7).toNat = i - 7 := by omega
        have n15 : ((i : Int) - 15).toNat = i - 15 := by omega
        have n16 : ((i : Int) - 16).toNat = i - 16 := by omega
        simp only [hd, c1, hbn, b2, b7, b15, b16, n2, n7, n15, n16]
        rw [F121_eq R (getD_all hu u32_0 _), F122_eq R (getD_all hu u32_0 _)]
        simp only [planStep, if_neg h16, planW, Int.toNat_natCast]
        rfl
    · have : i = 64 := by omega
      subst this
      rfl

theorem F117_eq (R : Type) {blk : List Int} (hb : blk.length = 64) (h8 : AllU8 blk) (k : List Int → Option R) : F117 R blk k = k (planS blk) := by
  simp only [F117, p117]
  exact G117_eq R hb h8 _ FUEL 0 (List.replicate 64 0) (by omega) (by rw [FUEL_eq]; omega) (by simp) (AllU32.rep 64)

theorem G103_3_eq (R : Type) {blk : List Int} (hb : blk.length = 64) (h8 : AllU8 blk) (x3 : List Int) (k0 : List Int → List Int → Option R) : ∀ (m i : Nat) (l : List Int), i ≤ 16 → 16 - i < m → l.length = 64 → AllU32 l →
    G103_3 m R (i : Int) blk x3 l k0 = k0 x3 ((List.range' i (16 - i)).foldl (planStep blk) l)
  | 0, i, l, _, h, _, _ => by omega
  | m + 1, i, l, h1, h2, hl, hu => by
    simp only [G103_3, p103_3]
    by_cases hi : i < 16
    · have ok := planStep_ok h8 hl hu i
      have ih := G103_3_eq R hb h8 x3 k0 m (i + 1) (planStep blk l i) (by omega) (by omega) ok.1 ok.2
      rw [range'_step hi, List.foldl_cons, ← ih]
      rw [wrap_i64 (n := 4 * (i : Int)) (by omega) (by omega), wrap_i64 (n := (i : Int) + 1) (by omega) (by omega), wrap_i64 (n := 4 * (i : Int) + 1) (by omega) (by omega), wrap_i64 (n := 4 * (i : Int) + 2) (by omega) (by omega), wrap_i64 (n := 4 * (i : Int) + 3) (by omega) (by omega)]
      have hd : decide ((i : Int) < 16) = true := by simp; omega
      have hbn : bnd (i : Int) 64 = true := by unfold bnd; simp; omega
      have b0 : bnd (4 * (i : Int)) 64 = true := by unfold bnd; simp; omega
      have b1 : bnd (4 * (i : Int) + 1) 64 = true := by unfold bnd; simp; omega
      have b2 : bnd (4 * (i : Int) + 2) 64 = true := by unfold bnd; simp; omega
      have b3 : bnd (4 * (i : Int) + 3) 64 = true := by unfold bnd; simp; omega
      have n0 : (4 * (i : Int)).toNat = 4 * i := by omega
      have n1 : (4 * (i : Int) + 1).toNat = 4 * i + 1 := by omega
      have n2 : (4 * (i : Int) + 2).toNat = 4 * i + 2 := by omega
      have n3 : (4 * (i : Int) + 3).toNat = 4 * i + 3 := by omega
      simp only [hd, hbn, b0, b1, b2, b3, n0, n1, n2, n3, List.replicate, List.set]
      rw [F110_eq R (getD_all h8 u8_0 _) (getD_all h8 u8_0 _) (getD_all h8 u8_0 _) (getD_all h8 u8_0 _)]
      simp only [planStep, if_pos hi, word4, Int.toNat_natCast]
      rfl
    · have : i = 16 := by omega
      subst this
      rfl

theorem G103_7_eq (R : Type) {blk : List Int} (h8 : AllU8 blk) (x2 : List Int) (k0 : List Int → List Int → Option R) : ∀ (m i : Nat) (l : List Int), 16 ≤ i → i ≤ 64 → 64 - i < m → l.length = 64 → AllU32 l →
    G103_7 m R (i : Int) x2 l k0 = k0 x2 ((List.range' i (64 - i)).foldl (planStep blk) l)
  | 0, i, l, _, _, h, _, _ => by omega
  | m + 1, i, l, h16, h1, h2, hl, hu => by
    simp only [G103_7, p103_7]
    by_cases hi : i < 64
    · have ok := planStep_ok h8 hl hu i
      have ih := G103_7_eq R h8 x2 k0 m (i + 1) (planStep blk l i) (by omega) (by omega) (by omega) ok.1 ok.2
      rw [range'_step hi, List.foldl_cons, ← ih]
      rw [wrap_i64 (n := (i : Int) + 1) (by omega) (by omega), wrap_i64 (n := (i : Int) - 2) (by omega) (by omega), wrap_i64 (n := (i : Int) - 7) (by omega) (by omega), wrap_i64 (n := (i : Int) - 15) (by omega) (by omega), wrap_i64 (n := (i : Int) - 16) (by omega) (by omega)]
      have hd : decide ((i : Int) < 64) = true := by simp; omega
      have hbn : bnd (i : Int) 64 = true := by unfold bnd; simp; omega
      have b2 : bnd ((i : Int) - 2) 64 = true := by unfold bnd; simp; omega
      have b7 : bnd ((i : Int) - 7) 64 = true := by unfold bnd; simp; omega
      have b15 : bnd ((i : Int) - 15) 64 = true := by unfold bnd; simp; omega
      have b16 : bnd ((i : Int) - 16) 64 = true := by unfold bnd; simp; omega
      have n2 : ((i : Int) - 2).toNat = i - 2 := by omega
      have n7 : ((i : Int) - 7).toNat = i - 7 := by omega
      have n15 : ((i : Int) - 15).toNat = i - 15 := by omega
      have n16 : ((i : Int) - 16).toNat = i - 16 := by omega
      simp only [hd, hbn, b2, b7, b15, b16, n2, n7, n15, n16]
      rw [F111_eq R (getD_all hu u32_0 _), F112_eq R (getD_all hu u32_0 _)]
      simp only [planStep, if_neg (show ¬ i < 16 by omega), planW, Int.toNat_natCast]
      rfl
    · have : i = 64 := by omega
      subst this
      rfl

theorem planFold_ok {blk : List Int} (h8 : AllU8 blk) : ∀ (is : List Nat) (l : List Int), l.length = 64 → AllU32 l → (is.foldl (planStep blk) l).length = 64 ∧ AllU32 (is.foldl (planStep blk) l)
  | [], l, h1, h2 => ⟨h1, h2⟩
  | i :: is, l, h1, h2 => by
    have ok := planStep_ok h8 h1 h2 i
    exact planFold_ok h8 is _ ok.1 ok.2
theorem planS_ok {blk : List Int} (h8 : AllU8 blk) : (planS blk).length = 64 ∧ AllU32 (planS blk) := planFold_ok h8 _ _ (by simp) (AllU32.rep 64)

theorem F103_eq (R : Type) {blk : List Int} (hb : blk.length = 64) (h8 : AllU8 blk) (k : List Int → Option R) : F103 R blk k = k (planS blk) := by
  simp only [F103, p103]
  have g1 := G103_3_eq R hb h8 (List.replicate 64 0) (fun x1 x2 => G103_7 FUEL R 16 x1 x2 fun x3 x4 => k x4) FUEL 0 (List.replicate 64 0) (by omega) (by rw [FUEL_eq]; omega) (by simp) (AllU32.rep 64)
  refine g1.trans ?_
  have ok := planFold_ok h8 (List.range' 0 (16 - 0)) (List.replicate 64 0) (by simp) (AllU32.rep 64)
  have g2 := G103_7_eq R h8 (List.replicate 64 0) (fun _ x4 => k x4) FUEL 16 _ (by omega) (by omega) (by rw [FUEL_eq]; omega) ok.1 ok.2
  refine g2.trans ?_
  rw [← List.foldl_append]
  rfl
end Go.PG
namespace Go.PG
/-! The constants, and a block taken. -/
def KS : List Int := [1116352408, 1899447441, 3049323471, 3921009573, 961987163, 1508970993, 2453635748, 2870763221, 3624381080, 310598401, 607225278, 1426881987, 1925078388, 2162078206, 2614888103, 3248222580, 3835390401, 4022224774, 264347078, 604807628, 770255983, 1249150122, 1555081692, 1996064986, 2554220882, 2821834349, 2952996808, 3210313671, 3336571891, 3584528711, 113926993, 338241895, 666307205, 773529912, 1294757372, 1396182291, 1695183700, 1986661051, 2177026350, 2456956037, 2730485921, 2820302411, 3259730800, 3345764771, 3516065817, 3600352804, 4094571909, 275423344, 430227734, 506948616, 659060556, 883997877, 958139571, 1322822218, 1537002063, 1747873779, 1955562222, 2024104815, 2227730452, 2361852424, 2428436474, 2756734187, 3204031479, 3329325298]
theorem F116_eq (R : Type) (k : List Int → Option R) : F116 R k = k KS := by kernel_rfl
theorem F105_form (R : Type) (a : Int) (k : Int → Option R) : F105 R a k = (match decide (a < 0) with | true => k 0 | false => match decide (a > 63) with | true => k 0 | false => match bnd a 64 with | true => k (List.getD KS a.toNat 0) | false => none) := by kernel_rfl
theorem F105_eq (R : Type) {i : Nat} (h : i < 64) (k : Int → Option R) : F105 R (i : Int) k = k (KS.getD i 0) := by
  rw [F105_form]
  have h1 : decide ((i : Int) < 0) = false := by simp
  have h2 : decide ((i : Int) > 63) = false := by simp; omega
  have h3 : bnd (i : Int) 64 = true := by unfold bnd; simp; omega
  simp only [h1, h2, h3, Int.toNat_natCast]

def roundsStep (plan s : List Int) (i : Nat) : List Int := roundS s (plan.getD i 0) (KS.getD i 0)
theorem roundS_ok {s : List Int} (h : AllU32 s) (w c : Int) : (roundS s w c).length = 8 ∧ AllU32 (roundS s w c) := by
  refine ⟨rfl, fun x hx => ?_⟩
  have g := fun i => getD_all h u32_0 i
  simp only [roundS, List.mem_cons, List.not_mem_nil, or_false] at hx
  rcases hx with rfl | rfl | rfl | rfl | rfl | rfl | rfl | rfl
  · exact wrap_lt32 _
  · exact g 0
  · exact g 1
  · exact g 2
  · exact wrap_lt32 _
  · exact g 4
  · exact g 5
  · exact g 6
theorem F118_eq' (R : Type) {s : List Int} (hl : s.length = 8) (h : AllU32 s) (w c : Int) (k : List Int → Option R) : F118 R s w c k = k (roundS s w c) := by
  obtain ⟨a0, a1, a2, a3, a4, a5, a6, a7, rfl⟩ := list8 hl
  exact F118_eq R (h a0 (by simp)) (h a4 (by simp)) w c k

theorem G108_3_eq (R : Type) (plan : List Int) (x3 x4 : List Int) (k0 : List Int → List Int → List Int → Option R) : ∀ (m i : Nat) (s : List Int), i ≤ 64 → 64 - i < m → s.length = 8 → AllU32 s →
    G108_3 m R plan (i : Int) x3 x4 s KS k0 = k0 x3 x4 ((List.range' i (64 - i)).foldl (roundsStep plan) s)
  | 0, i, s, _, h, _, _ => by omega
  | m + 1, i, s, h1, h2, hl, hu => by
    simp only [G108_3, p108_3]
    by_cases hi : i < 64
    · have ok := roundS_ok hu (plan.getD i 0) (KS.getD i 0)
      have ih := G108_3_eq R plan x3 x4 k0 m (i + 1) (roundsStep plan s i) (by omega) (by omega) ok.1 ok.2
      rw [range'_step hi, List.foldl_cons, ← ih, wrap_i64 (n := (i : Int) + 1) (by omega) (by omega)]
      have hd : decide ((i : Int) < 64) = true := by simp; omega
      have hbn : bnd (i : Int) 64 = true := by unfold bnd; simp; omega
      simp only [hd, hbn, Int.toNat_natCast]
      rw [F118_eq' R hl hu]
      rfl
    · have : i = 64 := by omega
      subst this
      rfl

theorem G96_4_eq (R : Type) (plan : List Int) (x2 x3 : List Int) (k0 : List Int → List Int → List Int → Option R) : ∀ (m i : Nat) (s : List Int), i ≤ 64 → 64 - i < m → s.length = 8 → AllU32 s →
    G96_4 m R (i : Int) x2 x3 plan s k0 = k0 x2 x3 ((List.range' i (64 - i)).foldl (roundsStep plan) s)
  | 0, i, s, _, h, _, _ => by omega
  | m + 1, i, s, h1, h2, hl, hu => by
    simp only [G96_4, p96_4]
    by_cases hi : i < 64
    · have ok := roundS_ok hu (plan.getD i 0) (KS.getD i 0)
      have ih := G96_4_eq R plan x2 x3 k0 m (i + 1) (roundsStep plan s i) (by omega) (by omega) ok.1 ok.2
      rw [range'_step hi, List.foldl_cons, ← ih, wrap_i64 (n := (i : Int) + 1) (by omega) (by omega)]
      have hd : decide ((i : Int) < 64) = true := by simp; omega
      have hbn : bnd (i : Int) 64 = true := by unfold bnd; simp; omega
      simp only [hd, hbn, Int.toNat_natCast]
      rw [F105_eq R hi, F104_eq R (getD_all hu u32_0 _) (getD_all hu u32_0 _)]
      rfl
    · have : i = 64 := by omega
      subst this
      rfl

def addStep (a l : List Int) (i : Nat) : List Int := l.set i (IntKind.u32.wrap (l.getD i 0 + a.getD i 0))
theorem addStep_ok {a l : List Int} (hl : l.length = 8) (h : AllU32 l) (i : Nat) : (addStep a l i).length = 8 ∧ AllU32 (addStep a l i) := ⟨by simpa [addStep] using hl, h.set (wrap_lt32 _)⟩
theorem G108_8_eq (R : Type) (a x3 : List Int) (k0 : List Int → List Int → Option R) : ∀ (m i : Nat) (l : List Int), i ≤ 8 → 8 - i < m → G108_8 m R (i : Int) a x3 l k0 = k0 x3 ((List.range' i (8 - i)).foldl (addStep a) l)
  | 0, i, l, _, h => by omega
  | m + 1, i, l, h1, h2 => by
    simp only [G108_8, p108_8]
    by_cases hi : i < 8
    · have ih := G108_8_eq R a x3 k0 m (i + 1) (addStep a l i) (by omega) (by omega)
      rw [range'_step hi, List.foldl_cons, ← ih, wrap_i64 (n := (i : Int) + 1) (by omega) (by omega)]
      have hd : decide ((i : Int) < 8) = true := by simp; omega
      have hbn : bnd (i : Int) 8 = true := by unfold bnd; simp; omega
      simp only [hd, hbn, Int.toNat_natCast]
      rfl
    · have : i = 8 := by omega
      subst this
      rfl
theorem G96_8_eq (R : Type) (a x3 : List Int) (k0 : List Int → List Int → Option R) : ∀ (m i : Nat) (l : List Int), i ≤ 8 → 8 - i < m → G96_8 m R (i : Int) a x3 l k0 = k0 x3 ((List.range' i (8 - i)).foldl (addStep a) l)
  | 0, i, l, _, h => by omega
  | m + 1, i, l, h1, h2 => by
    simp only [G96_8, p96_8]
    by_cases hi : i < 8
    · have ih := G96_8_eq R a x3 k0 m (i + 1) (addStep a l i) (by omega) (by omega)
      rw [range'_step hi, List.foldl_cons, ← ih, wrap_i64 (n := (i : Int) + 1) (by omega) (by omega)]
      have hd : decide ((i : Int) < 8) = true := by simp; omega
      have hbn : bnd (i : Int) 8 = true := by unfold bnd; simp; omega
      simp only [hd, hbn, Int.toNat_natCast]
      rfl
    · have : i = 8 := by omega
      subst this
      rfl

/-- A block taken. -/
def takeS (st blk : List Int) : List Int := (List.range' 0 8).foldl (addStep st) ((List.range' 0 64).foldl (roundsStep (planS blk)) st)
theorem F108_eq (R : Type) {st blk : List Int} (hl : st.length = 8) (hu : AllU32 st) (hb : blk.length = 64) (h8 : AllU8 blk) (k : List Int → Option R) : F108 R st blk k = k (takeS st blk) := by
  simp only [F108, p108]
  rw [F116_eq, F117_eq R hb h8]
  refine (G108_3_eq R (planS blk) st (List.replicate 8 0) (fun x3 x4 x5 => G108_8 FUEL R 0 x3 x4 x5 fun x6 x7 => k x7) FUEL 0 st (by omega) (by rw [FUEL_eq]; omega) hl hu).trans ?_
  exact G108_8_eq R st (List.replicate 8 0) (fun _ x7 => k x7) FUEL 0 _ (by omega) (by rw [FUEL_eq]; omega)
theorem F96_eq (R : Type) {st blk : List Int} (hl : st.length = 8) (hu : AllU32 st) (hb : blk.length = 64) (h8 : AllU8 blk) (k : List Int → Option R) : F96 R st blk k = k (takeS st blk) := by
  simp only [F96, p96]
  rw [F103_eq R hb h8]
  refine (G96_4_eq R (planS blk) st (List.replicate 8 0) (fun x3 x4 x5 => G96_8 FUEL R 0 x3 x4 x5 fun x6 x7 => k x7) FUEL 0 st (by omega) (by rw [FUEL_eq]; omega) hl hu).trans ?_
  exact G96_8_eq R st (List.replicate 8 0) (fun _ x7 => k x7) FUEL 0 _ (by omega) (by rw [FUEL_eq]; omega)
theorem roundsFold_ok (plan : List Int) : ∀ (is : List Nat) (s : List Int), s.length = 8 → AllU32 s → (is.foldl (roundsStep plan) s).length = 8 ∧ AllU32 (is.foldl (roundsStep plan) s)
  | [], s, h1, h2 => ⟨h1, h2⟩
  | i :: is, s, h1, h2 => by
    have ok := roundS_ok h2 (plan.getD i 0) (KS.getD i 0)
    exact roundsFold_ok plan is _ ok.1 ok.2
theorem addFold_ok (a : List Int) : ∀ (is : List Nat) (s : List Int), s.length = 8 → AllU32 s → (is.foldl (addStep a) s).length = 8 ∧ AllU32 (is.foldl (addStep a) s)
  | [], s, h1, h2 => ⟨h1, h2⟩
  | i :: is, s, h1, h2 => by
    have ok := addStep_ok (a := a) h1 h2 i
    exact addFold_ok a is _ ok.1 ok.2
theorem takeS_ok {st : List Int} (blk : List Int) (hl : st.length = 8) (hu : AllU32 st) : (takeS st blk).length = 8 ∧ AllU32 (takeS st blk) := by
  have h := roundsFold_ok (planS blk) (List.range' 0 64) st hl hu
  exact addFold_ok st _ _ h.1 h.2
end Go.PG
namespace Go.PG
/-! Blocks and what is left. -/
def blkF : Nat → List Int → List (List Int)
  | 0, _ => []
  | n + 1, b => if 64 ≤ b.length then b.take 64 :: blkF n (b.drop 64) else []
def tailF : Nat → List Int → List Int
  | 0, b => b
  | n + 1, b => if 64 ≤ b.length then tailF n (b.drop 64) else b
def blkS (b : List Int) : List (List Int) := blkF (b.length / 64 + 1) b
def tailS (b : List Int) : List Int := tailF (b.length / 64 + 1) b

theorem blkF_big : ∀ (n m : Nat) (b : List Int), b.length / 64 < n → b.length / 64 < m → blkF n b = blkF m b
  | 0, _, _, h, _ => by omega
  | _, 0, _, _, h => by omega
  | n + 1, m + 1, b, h1, h2 => by
    simp only [blkF]
    by_cases h : 64 ≤ b.length
    · rw [if_pos h, if_pos h, blkF_big n m (b.drop 64) (by rw [List.length_drop]; omega) (by rw [List.length_drop]; omega)]
    · rw [if_neg h, if_neg h]
theorem tailF_big : ∀ (n m : Nat) (b : List Int), b.length / 64 < n → b.length / 64 < m → tailF n b = tailF m b
  | 0, _, _, h, _ => by omega
  | _, 0, _, _, h => by omega
  | n + 1, m + 1, b, h1, h2 => by
    simp only [tailF]
    by_cases h : 64 ≤ b.length
    · rw [if_pos h, if_pos h, tailF_big n m (b.drop 64) (by rw [List.length_drop]; omega) (by rw [List.length_drop]; omega)]
    · rw [if_neg h, if_neg h]
theorem blkS_step {b : List Int} (h : 64 ≤ b.length) : blkS b = b.take 64 :: blkS (b.drop 64) := by
  unfold blkS
  rw [show blkF (b.length / 64 + 1) b = b.take 64 :: blkF (b.length / 64) (b.drop 64) by simp only [blkF, if_pos h]]
  rw [blkF_big (b.length / 64) ((b.drop 64).length / 64 + 1) (b.drop 64) (by rw [List.length_drop]; omega) (by omega)]
theorem blkS_end {b : List Int} (h : b.length < 64) : blkS b = [] := by
  unfold blkS; simp only [blkF, if_neg (show ¬ 64 ≤ b.length by omega)]
theorem tailS_step {b : List Int} (h : 64 ≤ b.length) : tailS b = tailS (b.drop 64) := by
  unfold tailS
  rw [show tailF (b.length / 64 + 1) b = tailF (b.length / 64) (b.drop 64) by simp only [tailF, if_pos h]]
  rw [tailF_big (b.length / 64) ((b.drop 64).length / 64 + 1) (b.drop 64) (by rw [List.length_drop]; omega) (by omega)]
theorem tailS_end {b : List Int} (h : b.length < 64) : tailS b = b := by
  unfold tailS; simp only [tailF, if_neg (show ¬ 64 ≤ b.length by omega)]

theorem tailS_len : ∀ (n : Nat) (b : List Int), b.length ≤ n → (tailS b).length = b.length % 64 ∧ (blkS b).length = b.length / 64
  | 0, b, h => by
    rw [tailS_end (by omega), blkS_end (by omega)]
    simp; omega
  | n + 1, b, h => by
    by_cases h6 : 64 ≤ b.length
    · have ih := tailS_len n (b.drop 64) (by rw [List.length_drop]; omega)
      rw [tailS_step h6, blkS_step h6, ih.1, List.length_cons, ih.2, List.length_drop]
      omega
    · rw [tailS_end (by omega), blkS_end (by omega)]
      simp; omega

/-- In pieces. -/
theorem blk_append : ∀ (n : Nat) (a b : List Int), a.length ≤ n → blkS (a ++ b) = blkS a ++ blkS (tailS a ++ b) ∧ tailS (a ++ b) = tailS (tailS a ++ b)
  | 0, a, b, h => by
    rw [blkS_end (show a.length < 64 by omega), tailS_end (show a.length < 64 by omega)]
    exact ⟨rfl, rfl⟩
  | n + 1, a, b, h => by
    by_cases h6 : 64 ≤ a.length
    · have ih := blk_append n (a.drop 64) b (by rw [List.length_drop]; omega)
      have hl : 64 ≤ (a ++ b).length := by rw [List.length_append]; omega
      rw [blkS_step hl, blkS_step h6, tailS_step hl, tailS_step h6, List.take_append_of_le_length h6, List.drop_append_of_le_length h6, ih.1, ih.2]
      exact ⟨rfl, rfl⟩
    · rw [blkS_end (show a.length < 64 by omega), tailS_end (show a.length < 64 by omega)]
      exact ⟨rfl, rfl⟩

theorem G107_eq (R : Type) (k0 : List Int → List (List Int) → Option R) : ∀ (m : Nat) (b : List Int) (acc : List (List Int)), b.length / 64 < m → acc.length + b.length / 64 ≤ 1000000000 → b.length ≤ 100000000000 →
    G107_1 m R b acc k0 = k0 (tailS b) (acc ++ blkS b)
  | 0, b, acc, h, _, _ => by omega
  | m + 1, b, acc, h1, h2, h3 => by
    simp only [G107_1, p107_1]
    by_cases h6 : 64 ≤ b.length
    · have ih := G107_eq R k0 m (b.drop 64) (acc ++ [b.take 64]) (by rw [List.length_drop]; omega) (by rw [List.length_drop, List.length_append]; simp; omega) (by rw [List.length_drop]; omega)
      have c1 : decide ((b.length : Int) ≥ 64) = true := by simp; omega
      have c2 : decide ((64 : Int) ≤ (b.length : Int)) = true := by simp; omega
      have c3 : decide (acc.length + [b.take 64].length ≤ 2199023255552) = true := by simp; omega
      have c4 : decide (0 ≤ (64 : Int) ∧ (64 : Int) ≤ (b.length : Int) ∧ (b.length : Int) ≤ (b.length : Int) ∧ (b.length : Int) ≤ (b.length : Int)) = true := by simp; omega
      have e1 : List.take (Int.toNat ((b.length : Int) - 64)) (List.drop 64 b) = List.drop 64 b := List.take_of_length_le (by rw [List.length_drop]; omega)
      simp only [c1, c2, c3, c4, e1]
      rw [ih, blkS_step h6, tailS_step h6, List.append_assoc]
      rfl
    · have c1 : decide ((b.length : Int) ≥ 64) = false := by simp; omega
      simp only [c1]
      rw [blkS_end (by omega), tailS_end (by omega), List.append_nil]

theorem F107_eq (R : Type) {b : List Int} (h : b.length ≤ 1000000000) (k : List (List Int) → List Int → Option R) : F107 R b k = k (blkS b) (tailS b) := by
  simp only [F107, p107]
  refine (G107_eq R (fun x1 x2 => k x2 x1) FUEL b [] (by rw [FUEL_eq]; omega) (by simp; omega) (by omega)).trans ?_
  rw [List.nil_append]
end Go.PG
namespace Go.PG
/-! The writer. -/
abbrev Wr := List Int × List Int × Int × Unit
def foldB (st : List Int) (bs : List (List Int)) : List Int := bs.foldl takeS st

theorem blkS_ok : ∀ (n : Nat) (b : List Int), b.length ≤ n → AllU8 b → (∀ x ∈ blkS b, x.length = 64 ∧ AllU8 x) ∧ AllU8 (tailS b)
  | 0, b, h, h8 => by
    rw [blkS_end (by omega), tailS_end (by omega)]
    exact ⟨fun x hx => (by cases hx), h8⟩
  | n + 1, b, h, h8 => by
    by_cases h6 : 64 ≤ b.length
    · have ih := blkS_ok n (b.drop 64) (by rw [List.length_drop]; omega) (fun x hx => h8 x (List.mem_of_mem_drop hx))
      rw [blkS_step h6, tailS_step h6]
      refine ⟨fun x hx => ?_, ih.2⟩
      rcases List.mem_cons.1 hx with rfl | hx
      · exact ⟨by rw [List.length_take]; omega, fun y hy => h8 y (List.mem_of_mem_take hy)⟩
      · exact ih.1 x hx
    · rw [blkS_end (by omega), tailS_end (by omega)]
      exact ⟨fun x hx => (by cases hx), h8⟩

theorem foldB_ok : ∀ (bs : List (List Int)) {st : List Int}, st.length = 8 → AllU32 st → (foldB st bs).length = 8 ∧ AllU32 (foldB st bs)
  | [], st, h1, h2 => ⟨h1, h2⟩
  | b :: bs, st, h1, h2 => by
    have ok := takeS_ok b h1 h2
    exact foldB_ok bs ok.1 ok.2

theorem G101_eq (R : Type) (rest : List Int) (bs : List (List Int)) (hb : ∀ x ∈ bs, x.length = 64 ∧ AllU8 x) (hn : bs.length ≤ 1000000000) (u : List Int × Int × Unit) (k0 : List Int → (Wr × Unit) → Option R) :
    ∀ (m i : Nat) (st : List Int), i ≤ bs.length → bs.length - i < m → st.length = 8 → AllU32 st → G101_3 m R rest bs (bs.length : Int) (i : Int) ((st, u), ()) k0 = k0 rest ((foldB st (bs.drop i), u), ())
  | 0, i, st, _, h, _, _ => by omega
  | m + 1, i, st, h1, h2, hl, hu => by
    simp only [G101_3, p101_3]
    by_cases hi : i < bs.length
    · have hd : decide ((i : Int) < (bs.length : Int)) = true := by simpa using hi
      have hbn : bnd (i : Int) (bs.length : Int) = true := by unfold bnd; simp; omega
      have hx := hb bs[i] (List.getElem_mem hi)
      have hg : List.getD bs i (List.replicate 64 0) = bs[i] := by simp [hi]
      simp only [hd, hbn, Int.toNat_natCast, hg]
      rw [F108_eq R hl hu hx.1 hx.2, wrap_i64 (by omega) (by omega)]
      have ok := takeS_ok bs[i] hl hu
      have ih := G101_eq R rest bs hb hn u k0 m (i + 1) (takeS st bs[i]) (by omega) (by omega) ok.1 ok.2
      rw [List.drop_eq_getElem_cons hi]
      exact ih
    · have : i = bs.length := by omega
      subst this
      have hd : decide ((bs.length : Int) < (bs.length : Int)) = false := by simp
      simp only [hd]
      rw [List.drop_of_length_le (Nat.le_refl _)]
      rfl

theorem F101_eq (R : Type) {st : List Int} (u : List Int × Int × Unit) {b : List Int} (hl : st.length = 8) (hu : AllU32 st) (h8 : AllU8 b) (hn : b.length ≤ 1000000000) (k : List Int → (Wr × Unit) → Option R) :
    F101 R ((st, u), ()) b k = k (tailS b) ((foldB st (blkS b), u), ()) := by
  simp only [F101, p101]
  rw [F107_eq R hn]
  have ok := blkS_ok b.length b (Nat.le_refl _) h8
  have hlen := (tailS_len b.length b (Nat.le_refl _)).2
  exact G101_eq R (tailS b) (blkS b) ok.1 (by omega) u (fun x4 x5 => k x4 x5) FUEL 0 st (by omega) (by rw [FUEL_eq]; omega) hl hu

theorem F98_eq (R : Type) {st rest part : List Int} {n : Nat} (hl : st.length = 8) (hu : AllU32 st) (hr : AllU8 rest) (hp : AllU8 part) (hlen : rest.length + part.length ≤ 1000000000) (hn : n + part.length ≤ 1000000000) (k : (Wr × Unit) → Option R) :
    F98 R ((st, rest, (n : Int), ()), ()) part k = k ((foldB st (blkS (rest ++ part)), tailS (rest ++ part), ((n + part.length : Nat) : Int), ()), ()) := by
  simp only [F98, p98, F80]
  rw [wrap_u64 (n := (part.length : Int)) (by omega) (by omega), wrap_u64 (by omega) (by omega)]
  have c1 : decide (([] : List Int).length + rest.length ≤ 140737488355328) = true := by simp; omega
  have c2 : decide (rest.length + part.length ≤ 140737488355328) = true := by simp; omega
  simp only [c1, c2]
  have h8 : AllU8 (rest ++ part) := fun x hx => by
    rcases List.mem_append.1 hx with h | h
    · exact hr x h
    · exact hp x h
  rw [F101_eq R _ hl hu h8 (by rw [List.length_append]; omega)]
  congr 1

def wrS (st m : List Int) : Wr := (foldB st (blkS m), tailS m, (m.length : Int), ())
theorem AllU8.append {a b : List Int} (ha : AllU8 a) (hb : AllU8 b) : AllU8 (a ++ b) := fun x hx => by
  rcases List.mem_append.1 hx with h | h
  · exact ha x h
  · exact hb x h
theorem wrS_append (st m p : List Int) : foldB (foldB st (blkS m)) (blkS (tailS m ++ p)) = foldB st (blkS (m ++ p)) ∧ tailS (tailS m ++ p) = tailS (m ++ p) := by
  obtain ⟨h1, h2⟩ := blk_append m.length m p (Nat.le_refl _)
  rw [h1, h2]
  refine ⟨?_, rfl⟩
  unfold foldB
  rw [List.foldl_append]

theorem G90_eq (R : Type) {st : List Int} (hl : st.length = 8) (hu : AllU32 st) (x4 : Wr) (k0 : Int → Wr → Option R) (k1 : Wr → (Wr × Unit) → Option R) : ∀ (n : Nat) (ps done : List (List Int)) (m : List Int), m = done.flatten → AllU8 m → (∀ p ∈ ps, AllU8 p) →
    m.length + ps.flatten.length ≤ 500000000 → (done ++ ps).length ≤ 1000000000 → ps.length < n → G90_5 n R (done ++ ps) ((done ++ ps).length : Int) (done.length : Int) x4 (wrS st m, ()) k0 k1 = k1 x4 (wrS st (m ++ ps.flatten), ())
  | 0, ps, done, m, _, _, _, _, _, h => by omega
  | n + 1, [], done, m, hm, h8, hps, hlen, hnum, h => by
    simp only [G90_5, p90_5]
    have hd : decide ((done.length : Int) < ((done ++ []).length : Int)) = false := by simp
    simp only [hd]
    simp
  | n + 1, p :: ps, done, m, hm, h8, hps, hlen, hnum, h => by
    simp only [G90_5, p90_5]
    have hlt : done.length < (done ++ p :: ps).length := by simp
    have hd : decide ((done.length : Int) < ((done ++ p :: ps).length : Int)) = true := by simp; omega
    have hbn : bnd (done.length : Int) ((done ++ p :: ps).length : Int) = true := by unfold bnd; simp; omega
    have hg : List.getD (done ++ p :: ps) done.length [] = p := by simp
    have hp8 := hps p (by simp)
    have hfl : (p :: ps).flatten = p ++ ps.flatten := by simp
    rw [hfl, List.length_append] at hlen
    have ok := foldB_ok (blkS m) hl hu
    have ok2 := blkS_ok m.length m (Nat.le_refl _) h8
    have tl := (tailS_len m.length m (Nat.le_refl _)).1
    simp only [hd, hbn, Int.toNat_natCast, hg]
    unfold wrS
    rw [F98_eq R ok.1 ok.2 ok2.2 hp8 (by omega) (by omega)]
    obtain ⟨a1, a2⟩ := wrS_append st m p
    rw [a1, a2, ← List.length_append]
    have hb : decide (((m ++ p).length : Int) ≥ 2305843009213693952) = false := by simp; omega
    simp only [hb]
    rw [wrap_i64 (by omega) (by simp at hnum; omega)]
    have ih := G90_eq R hl hu x4 k0 k1 n ps (done ++ [p]) (m ++ p) (by rw [hm]; simp) (h8.append hp8) (fun q hq => hps q (by simp [hq])) (by rw [List.length_append]; omega) (by simpa using hnum) (by simp at h; omega)
    unfold wrS at ih
    rw [hfl, ← List.append_assoc]
    have e1 : done ++ [p] ++ ps = done ++ p :: ps := by simp
    have e2 : (((done ++ [p]).length : Nat) : Int) = (done.length : Int) + 1 := by simp
    rw [e1, e2] at ih
    exact ih

theorem F90_eq (R : Type) {st : List Int} (hl : st.length = 8) (hu : AllU32 st) {ps : List (List Int)} (h8 : ∀ p ∈ ps, AllU8 p) (hlen : ps.flatten.length ≤ 500000000) (hnum : ps.length ≤ 1000000000) (k : Wr → Int → Option R) :
    F90 R (st, [], (0 : Int), ()) ps k = k (wrS st ps.flatten) 0 := by
  have hr : F97 R (st, [], (0 : Int), ()) = fun k => k true := by
    funext k
    simp only [F97, p97]
    rfl
  simp only [F90, p90]
  rw [hr]
  have := G90_eq R hl hu (List.replicate 8 0, [], 0, ()) (fun x3 x4 => k x4 x3) (fun _ x6 => k x6.1 0) FUEL ps [] [] rfl (fun x hx => by cases hx) h8 (by simpa using hlen) (by simpa using hnum) (by rw [FUEL_eq]; omega)
  rw [List.nil_append] at this
  refine Eq.trans ?_ this
  unfold wrS
  rw [blkS_end (by simp), tailS_end (by simp)]
  rfl
end Go.PG
namespace Go.PG
/-! Eight bytes of a number. -/
def putS (x : Int) : List Int := [x / 72057594037927936 % 256, x / 281474976710656 % 256, x / 1099511627776 % 256, x / 4294967296 % 256, x / 16777216 % 256, x / 65536 % 256, x / 256 % 256, x % 256]
theorem shr64 {x : Int} (r : Nat) (hr : r ≤ 64) : ishr .u64 x (r : Int) = x / 2 ^ r := by
  unfold ishr
  rw [show IntKind.u64.bits = 64 from rfl, show ((r : Int).toNat) = r by simp, Nat.min_eq_left hr, Int.fdiv_eq_ediv_of_nonneg _ (by have := two_pow_pos r; omega)]
theorem G71_eq (R : Type) (x : Int) (k0 : List Int → Option R) : ∀ (m i : Nat) (l : List Int), i ≤ 8 → 8 - i < m → G71_2 m R x (i : Int) l k0 = k0 ((List.range' i (8 - i)).foldl (fun l i => l.set i (x / 2 ^ (8 * (7 - i)) % 256)) l)
  | 0, i, l, _, h => by omega
  | m + 1, i, l, h1, h2 => by
    simp only [G71_2, p71_2]
    by_cases hi : i < 8
    · have ih := G71_eq R x k0 m (i + 1) (l.set i (x / 2 ^ (8 * (7 - i)) % 256)) (by omega) (by omega)
      rw [range'_step hi, List.foldl_cons, ← ih]
      have hd : decide ((i : Int) < 8) = true := by simp; omega
      have hbn : bnd (i : Int) 8 = true := by unfold bnd; simp; omega
      rw [wrap_i64 (n := 7 - (i : Int)) (by omega) (by omega), wrap_i64 (n := 8 * (7 - (i : Int))) (by omega) (by omega), wrap_u64 (n := 8 * (7 - (i : Int))) (by omega) (by omega), wrap_i64 (n := (i : Int) + 1) (by omega) (by omega)]
      have e1 : 8 * (7 - (i : Int)) = ((8 * (7 - i) : Nat) : Int) := by omega
      have hp : decide ((0 : Int) ≤ ((8 * (7 - i) : Nat) : Int)) = true := decide_eq_true (by omega)
      rw [e1, shr64 _ (by omega), wrap_u8_mod]
      simp only [hd, hbn, hp, Int.toNat_natCast]
      rfl
    · have : i = 8 := by omega
      subst this
      rfl
theorem F71_eq (R : Type) (x : Int) (k : List Int → Option R) : F71 R x k = k (putS x) := by
  simp only [F71, p71]
  refine (G71_eq R x (fun x1 => k x1) FUEL 0 (List.replicate 8 0) (by omega) (by rw [FUEL_eq]; omega)).trans ?_
  congr 1
  simp [List.range'_succ, putS, List.replicate]

theorem G74_eq (R : Type) {x : Int} (hx : 0 ≤ x ∧ x < 18446744073709551616) (x3 : List Int) (k0 : List Int → List Int → Option R) : ∀ (i m : Nat) (l : List Int), i ≤ 8 → i < m → G74_3 m R (x / 2 ^ (8 * (8 - i))) ((i : Int) - 1) x3 l k0 = k0 x3 ((List.range i).reverse.foldl (fun l j => l.set j (x / 2 ^ (8 * (7 - j)) % 256)) l)
  | i, 0, l, _, h => by omega
  | 0, m + 1, l, h1, h2 => by
    simp only [G74_3, p74_3]
    have hd : decide (((0 : Nat) : Int) - 1 ≥ 0) = false := by simp
    simp only [hd]
    rfl
  | i + 1, m + 1, l, h1, h2 => by
    simp only [G74_3, p74_3]
    have ih := G74_eq R hx x3 k0 i m (l.set i (x / 2 ^ (8 * (7 - i)) % 256)) (by omega) (by omega)
    rw [List.range_succ, List.reverse_append, List.reverse_singleton, List.singleton_append, List.foldl_cons, ← ih]
    have e0 : (((i + 1 : Nat) : Int) - 1) = (i : Int) := by omega
    rw [e0]
    have hd : decide ((i : Int) ≥ 0) = true := by simp
    have hbn : bnd (i : Int) 8 = true := by unfold bnd; simp; omega
    have e1 : 8 - (i + 1) = 7 - i := by omega
    rw [e1]
    have hp := two_pow_pos (8 * (7 - i))
    have hge : 0 ≤ x / 2 ^ (8 * (7 - i)) := Int.ediv_nonneg hx.1 (by omega)
    have hle : x / 2 ^ (8 * (7 - i)) ≤ x := Int.ediv_le_self _ hx.1
    have hstep : x / 2 ^ (8 * (8 - i)) = x / 2 ^ (8 * (7 - i)) / 256 := by
      rw [show 8 * (8 - i) = 8 * (7 - i) + 8 by omega, Int.pow_add, ← Int.ediv_ediv_of_nonneg (by omega)]
      rfl
    rw [hstep]
    generalize x / 2 ^ (8 * (7 - i)) = q at *
    rw [Int.tmod_eq_emod_of_nonneg hge, Int.tdiv_eq_ediv_of_nonneg hge, wrap_u8 (by omega) (by omega), wrap_u64 (by omega) (by omega), wrap_i64 (by omega) (by omega)]
    simp only [hd, hbn, Int.toNat_natCast]
theorem F74_eq (R : Type) {x : Int} (hx : 0 ≤ x ∧ x < 18446744073709551616) (k : List Int → Option R) : F74 R x k = k (putS x) := by
  simp only [F74, p74]
  have := G74_eq R hx (List.replicate 8 0) (fun _ x2 => k x2) 8 FUEL (List.replicate 8 0) (by omega) (by rw [FUEL_eq]; omega)
  rw [show x / 2 ^ (8 * (8 - 8)) = x by simp] at this
  refine Eq.trans this ?_
  congr 1
  simp [List.range_succ, putS, List.replicate]
end Go.PG
namespace Go.PG
/-! The padding. -/
/-- What is laid behind n bytes of which the last r ones are at hand. -/
def zerosN (n : Nat) : Nat := (119 - n % 64) % 64
def padT (rest : List Int) (n : Nat) : List Int := rest ++ 128 :: (List.replicate (zerosN n) 0 ++ putS (8 * (n : Int)))

theorem G94_4_eq (R : Type) (x : Int) (k0 : Int → List Int → Option R) : ∀ (z m : Nat) (l : List Int), z < 64 → (l.length + z) % 64 = 56 → (∀ y, y < z → (l.length + y) % 64 ≠ 56) → z < m → l.length + z ≤ 100000 → G94_4 m R x l k0 = k0 x (l ++ List.replicate z 0)
  | z, 0, l, _, _, _, h, _ => by omega
  | 0, m + 1, l, h1, h2, _, h3, h4 => by
    simp only [G94_4, p94_4]
    have hm : Int.tmod (l.length : Int) 64 = 56 := by rw [Int.tmod_eq_emod_of_nonneg (by omega)]; omega
    rw [hm]
    have : ((56 : Int) != 56) = false := by simp
    simp only [this]
    simp
  | z + 1, m + 1, l, h1, h2, h5, h3, h4 => by
    simp only [G94_4, p94_4]
    have hne : (Int.tmod (l.length : Int) 64 != 56) = true := by
      rw [Int.tmod_eq_emod_of_nonneg (by omega)]
      have := h5 0 (by omega)
      simp; omega
    have hc : decide (l.length + [(0 : Int)].length ≤ 140737488355328) = true := by simp; omega
    have ih := G94_4_eq R x k0 z m (l ++ [0]) (by omega) (by rw [List.length_append]; simp; omega) (fun y hy => by rw [List.length_append]; have := h5 (y + 1) (by omega); simp; omega) (by omega) (by rw [List.length_append]; simp; omega)
    simp only [hne, hc]
    rw [ih, List.append_assoc]
    rfl

theorem G94_8_eq (R : Type) (ds : List Int) (k0 : List Int → Option R) : ∀ (m i : Nat) (l : List Int), i ≤ 8 → 8 - i < m → ds.length = 8 → l.length ≤ 100000 + i → G94_8 m R (i : Int) l ds k0 = k0 (l ++ ds.drop i)
  | 0, i, l, _, h, _, _ => by omega
  | m + 1, i, l, h1, h2, hd8, hl => by
    simp only [G94_8, p94_8]
    by_cases hi : i < 8
    · have hd : decide ((i : Int) < 8) = true := by simp; omega
      have hbn : bnd (i : Int) 8 = true := by unfold bnd; simp; omega
      have hg : List.getD ds i 0 = ds[i] := by simp [show i < ds.length by omega]
      have hc : decide (l.length + [ds[i]].length ≤ 140737488355328) = true := by simp; omega
      have ih := G94_8_eq R ds k0 m (i + 1) (l ++ [ds[i]]) (by omega) (by omega) hd8 (by rw [List.length_append]; simp; omega)
      simp only [hd, hbn, Int.toNat_natCast, hg, hc]
      rw [wrap_i64 (by omega) (by omega), List.drop_eq_getElem_cons (show i < ds.length by omega)]
      rw [List.append_assoc] at ih
      exact ih
    · have : i = 8 := by omega
      subst this
      have hd : decide (((8 : Nat) : Int) < 8) = false := by simp
      simp only [hd]
      rw [List.drop_of_length_le (by omega), List.append_nil]

theorem F94_eq (R : Type) {rest : List Int} {n : Nat} (hr : rest.length = n % 64) (hn : n ≤ 1000000000) (k : List Int → Bool → Option R) : F94 R rest (n : Int) k = k (padT rest n) true := by
  simp only [F94, p94]
  have c0 : decide ((n : Int) ≥ 2305843009213693952) = false := by simp; omega
  have c1 : (IntKind.u64.wrap (rest.length : Int) != Int.tmod (n : Int) 64) = false := by
    rw [wrap_u64 (by omega) (by omega), Int.tmod_eq_emod_of_nonneg (by omega)]
    simp; omega
  have c2 : decide (([] : List Int).length + rest.length ≤ 140737488355328) = true := by simp; omega
  have c3 : decide (([] ++ rest).length + [(128 : Int)].length ≤ 140737488355328) = true := by simp; omega
  simp only [c0, c1, c2, c3]
  have g := G94_4_eq R (n : Int) (fun x10 x11 => F74 R (IntKind.u64.wrap (8 * x10)) fun y13 => G94_8 FUEL R 0 x11 y13 fun x14 => k x14 true) (zerosN n) FUEL ([] ++ rest ++ [128]) (by unfold zerosN; omega) (by simp; unfold zerosN; omega) (fun y hy => by simp; unfold zerosN at hy; omega) (by rw [FUEL_eq]; unfold zerosN; omega) (by simp; unfold zerosN; omega)
  refine g.trans ?_
  rw [wrap_u64 (by omega) (by omega), F74_eq R (by omega)]
  refine (G94_8_eq R (putS (8 * (n : Int))) (fun x14 => k x14 true) FUEL 0 _ (by omega) (by rw [FUEL_eq]; omega) rfl (by simp; unfold zerosN; omega)).trans ?_
  congr 1
  simp [padT]

theorem F106_eq (R : Type) {n : Nat} (hn : n ≤ 1000000000) (k : Int → Option R) : F106 R (n : Int) k = k (((n + 72) / 64 : Nat) : Int) := by
  simp only [F106, p106]
  have c0 : decide ((n : Int) ≥ 2305843009213693952) = false := by simp; omega
  simp only [c0]
  rw [wrap_u64 (n := (n : Int) + 8) (by omega) (by omega), wrap_u64 (n := (n : Int) + 8 + 64) (by omega) (by omega), Int.tdiv_eq_ediv_of_nonneg (by omega), wrap_u64 (by omega) (by omega)]
  congr 1

theorem lay_mid {a b c xs : List Int} (h : xs.length = b.length) : lay (a ++ b ++ c) a.length xs = a ++ xs ++ c := by
  unfold lay
  have e1 : List.take a.length (a ++ b ++ c) = a := by rw [List.append_assoc, List.take_left]
  have e2 : List.drop (a.length + xs.length) (a ++ b ++ c) = c := by
    rw [h, show a.length + b.length = (a ++ b).length by simp, List.drop_left]
  rw [e1, e2]

theorem F100_eq (R : Type) {rest : List Int} {n : Nat} (hr : rest.length = n % 64) (hn : n ≤ 1000000000) (k : List Int → Bool → Option R) : F100 R rest (n : Int) k = k (padT rest n) true := by
  simp only [F100, p100]
  have c0 : decide ((n : Int) ≥ 2305843009213693952) = false := by simp; omega
  have c1 : (IntKind.u64.wrap (rest.length : Int) != Int.tmod (n : Int) 64) = false := by
    rw [wrap_u64 (by omega) (by omega), Int.tmod_eq_emod_of_nonneg (by omega)]
    simp; omega
  simp only [c0, c1]
  rw [F106_eq R hn, Int.tdiv_eq_ediv_of_nonneg (by omega), wrap_u64 (n := (n : Int) / 64) (by omega) (by omega), wrap_u64 (by omega) (by omega), wrap_i64 (n := (((n + 72) / 64 : Nat) : Int) - (n : Int) / 64) (by omega) (by omega), wrap_i64 (n := _ * 64) (by omega) (by omega)]
  obtain ⟨sz, hsz⟩ : ∃ sz : Nat, ((((n + 72) / 64 : Nat) : Int) - (n : Int) / 64) * 64 = sz := ⟨((n + 72) / 64 - n / 64) * 64, by omega⟩
  have hz : sz = rest.length + 1 + zerosN n + 8 := by unfold zerosN; omega
  rw [hsz]
  have l1 : lay (List.replicate sz (0 : Int)) 0 (List.take (List.replicate sz (0 : Int)).length rest) = rest ++ List.replicate (1 + zerosN n + 8) 0 := by
    unfold lay
    rw [List.take_of_length_le (l := rest) (by simp; omega)]
    simp
    omega
  have l2 : List.set (rest ++ List.replicate (1 + zerosN n + 8) 0) rest.length 128 = (rest ++ 128 :: List.replicate (zerosN n) 0) ++ List.replicate 8 0 ++ [] := by
    rw [List.set_append_right _ _ (Nat.le_refl _), Nat.sub_self, show 1 + zerosN n + 8 = (zerosN n + 8) + 1 by omega, List.replicate_succ, List.set_cons_zero, ← List.replicate_append_replicate]
    simp
  have sh : ishl .u64 (n : Int) 3 = 8 * (n : Int) := by
    unfold ishl
    rw [show (2 : Int) ^ (min (3 : Int).toNat IntKind.u64.bits) = 8 by decide, wrap_u64 (by omega) (by omega)]
    omega
  have hl3 : ((rest ++ 128 :: List.replicate (zerosN n) 0) ++ List.replicate 8 (0 : Int) ++ []).length = sz := by simp; omega
  have d1 : decide (0 ≤ (sz : Int) ∧ (sz : Int) ≤ (sz : Int) ∧ (sz : Int) ≤ 140737488355328) = true := decide_eq_true (by omega)
  have d2 : bnd (rest.length : Int) ((rest ++ List.replicate (1 + zerosN n + 8) (0 : Int)).length : Int) = true := by unfold bnd; simp; omega
  have d3 : decide (0 ≤ (sz : Int) - 8 ∧ (sz : Int) - 8 ≤ (sz : Int) ∧ (sz : Int) ≤ (sz : Int) ∧ (sz : Int) ≤ (sz : Int)) = true := decide_eq_true (by omega)
  have e8 : ((sz : Int) - 8).toNat = (rest ++ 128 :: List.replicate (zerosN n) 0).length := by simp; omega
  have e9 : List.take ((sz : Int) - ((sz : Int) - 8)).toNat (List.take 8 (List.drop 0 (putS (8 * (n : Int))))) = putS (8 * (n : Int)) := by
    rw [show ((sz : Int) - ((sz : Int) - 8)).toNat = 8 by omega]; rfl
  simp only [d1, Int.toNat_natCast, l1, d2, l2, sh]
  rw [F71_eq, wrap_i64 (by omega) (by omega)]
  simp only [hl3, d3, e9, e8]
  rw [lay_mid (by rfl)]
  congr 1
  simp [padT]
end Go.PG
namespace Go.PG
/-! Four bytes of a word; the hash's bytes. -/
def put32S (a : Int) : List Int := [a / 16777216 % 256, a / 65536 % 256, a / 256 % 256, a % 256]
theorem F109_eq (R : Type) {a : Int} (ha : U32 a) (k : List Int → Option R) : F109 R a k = k (put32S a) := by
  have e24 : ishr .u32 a 24 = a / 16777216 := shr_eq ha (r := 24) (by omega)
  have e16 : ishr .u32 a 16 = a / 65536 := shr_eq ha (r := 16) (by omega)
  have e8 : ishr .u32 a 8 = a / 256 := shr_eq ha (r := 8) (by omega)
  simp only [F109, p109, e24, e16, e8, wrap_u8_mod]
  rfl
theorem F95_eq (R : Type) {a : Int} (ha : U32 a) (k : List Int → Option R) : F95 R a k = k (put32S a) := by
  have h := ha
  unfold U32 at h
  simp only [F95, p95]
  rw [Int.tdiv_eq_ediv_of_nonneg h.1, Int.tdiv_eq_ediv_of_nonneg h.1, Int.tdiv_eq_ediv_of_nonneg h.1, wrap_u32 (n := a / 16777216) (by omega) (by omega), wrap_u32 (n := a / 65536) (by omega) (by omega), wrap_u32 (n := a / 256) (by omega) (by omega)]
  rw [Int.tmod_eq_emod_of_nonneg (a := a / 65536) (by omega), Int.tmod_eq_emod_of_nonneg (a := a / 256) (by omega), Int.tmod_eq_emod_of_nonneg h.1]
  simp only [wrap_u8_mod, Int.emod_emod]
  rfl

theorem G88_eq (R : Type) (bs : List (List Int)) (hb : ∀ x ∈ bs, x.length = 64 ∧ AllU8 x) (hn : bs.length ≤ 1000000000) (x4 : List Int) (k0 : List Int → List Int → Option R) :
    ∀ (m i : Nat) (st : List Int), i ≤ bs.length → bs.length - i < m → st.length = 8 → AllU32 st → G88_2 m R bs (i : Int) st x4 k0 = k0 (foldB st (bs.drop i)) x4
  | 0, i, st, _, h, _, _ => by omega
  | m + 1, i, st, h1, h2, hl, hu => by
    simp only [G88_2, p88_2]
    by_cases hi : i < bs.length
    · have hd : decide ((i : Int) < (bs.length : Int)) = true := by simpa using hi
      have hbn : bnd (i : Int) (bs.length : Int) = true := by unfold bnd; simp; omega
      have hx := hb bs[i] (List.getElem_mem hi)
      have hg : List.getD bs i (List.replicate 64 0) = bs[i] := by simp [hi]
      simp only [hd, hbn, Int.toNat_natCast, hg]
      rw [F96_eq R hl hu hx.1 hx.2, wrap_i64 (by omega) (by omega)]
      have ok := takeS_ok bs[i] hl hu
      have ih := G88_eq R bs hb hn x4 k0 m (i + 1) (takeS st bs[i]) (by omega) (by omega) ok.1 ok.2
      rw [List.drop_eq_getElem_cons hi]
      exact ih
    · have : i = bs.length := by omega
      subst this
      have hd : decide ((bs.length : Int) < (bs.length : Int)) = false := by simp
      simp only [hd]
      rw [List.drop_of_length_le (Nat.le_refl _)]
      rfl
theorem F88_eq (R : Type) {st : List Int} {bs : List (List Int)} (hl : st.length = 8) (hu : AllU32 st) (hb : ∀ x ∈ bs, x.length = 64 ∧ AllU8 x) (hn : bs.length ≤ 1000000000) (k : List Int → Option R) : F88 R st bs k = k (foldB st bs) := by
  simp only [F88, p88]
  exact G88_eq R bs hb hn (List.replicate 8 0) (fun x1 _ => k x1) FUEL 0 st (by omega) (by rw [FUEL_eq]; omega) hl hu

def H0 : List Int := [1779033703, 3144134277, 1013904242, 2773480762, 1359893119, 2600822924, 528734635, 1541459225]
theorem F99_eq (R : Type) (k : List Int → Option R) : F99 R k = k H0 := by kernel_rfl
theorem F89_eq (R : Type) (k : List Int → Option R) : F89 R k = k H0 := by kernel_rfl
theorem F91_eq (R : Type) (k : Wr → Option R) : F91 R k = k (H0, [], 0, ()) := by kernel_rfl
theorem H0_ok : H0.length = 8 ∧ AllU32 H0 := ⟨rfl, fun x hx => by
  simp only [H0, List.mem_cons, List.not_mem_nil, or_false] at hx
  unfold U32
  omega⟩

def layStep (st l : List Int) (i : Nat) : List Int := lay l (4 * i) (put32S (st.getD i 0))
theorem lay_len {l xs : List Int} {lo : Nat} (h : lo + xs.length ≤ l.length) : (lay l lo xs).length = l.length := by
  unfold lay; simp; omega
theorem G102_eq (R : Type) {st : List Int} (hu : AllU32 st) (w : Wr × Unit) (k0 : (Wr × Unit) → List Int → Option R) : ∀ (m i : Nat) (l : List Int), i ≤ 8 → 8 - i < m → G102_2 m R st (i : Int) w l k0 = k0 w ((List.range' i (8 - i)).foldl (layStep st) l)
  | 0, i, l, _, h => by omega
  | m + 1, i, l, h1, h2 => by
    simp only [G102_2, p102_2]
    by_cases hi : i < 8
    · have ih := G102_eq R hu w k0 m (i + 1) (layStep st l i) (by omega) (by omega)
      rw [range'_step hi, List.foldl_cons, ← ih]
      have hd : decide ((i : Int) < 8) = true := by simp; omega
      have hbn : bnd (i : Int) 8 = true := by unfold bnd; simp; omega
      rw [wrap_i64 (n := 4 * (i : Int)) (by omega) (by omega), wrap_i64 (n := (i : Int) + 1) (by omega) (by omega)]
      have c : decide (0 ≤ 4 * (i : Int) ∧ 4 * (i : Int) ≤ 32 ∧ (32 : Int) ≤ 32) = true := decide_eq_true (by omega)
      have e1 : (4 * (i : Int)).toNat = 4 * i := by omega
      have e2 : ∀ a, List.take (Int.toNat (32 - 4 * (i : Int))) (List.take 4 (List.drop 0 (put32S a))) = put32S a := fun a => by
        rw [List.take_of_length_le (l := List.take 4 (List.drop 0 (put32S a))) (by simp [put32S]; omega)]
        rfl
      simp only [hd, hbn, c, Int.toNat_natCast]
      rw [F109_eq R (getD_all hu u32_0 _)]
      simp only [c, e1, e2]
      rfl
    · have : i = 8 := by omega
      subst this
      rfl
end Go.PG
namespace Go.PG
/-! The document's cutting. -/
theorem G85_6_eq (R : Type) {b : List Int} {o : Nat} (ho : o + 64 ≤ b.length) (hb : b.length ≤ 1000000000) (acc : List (List Int)) (k0 : List Int → Int → List (List Int) → List Int → Option R) : ∀ (m i : Nat), i ≤ 64 → 64 - i < m →
    G85_6 m R b (o : Int) (i : Int) acc ((b.drop o).take i ++ List.replicate (64 - i) 0) k0 = k0 b (o : Int) acc ((b.drop o).take 64)
  | 0, i, _, h => by omega
  | m + 1, i, h1, h2 => by
    simp only [G85_6, p85_6]
    by_cases hi : i < 64
    · have ih := G85_6_eq R ho hb acc k0 m (i + 1) (by omega) (by omega)
      have hd : decide ((i : Int) < 64) = true := by simp; omega
      have hbn : bnd (i : Int) 64 = true := by unfold bnd; simp; omega
      have hb2 : bnd ((o : Int) + (i : Int)) (b.length : Int) = true := by unfold bnd; simp; omega
      have e1 : ((o : Int) + (i : Int)).toNat = o + i := by omega
      have hl : ((b.drop o).take i).length = i := by rw [List.length_take, List.length_drop]; omega
      have hs : List.set ((b.drop o).take i ++ List.replicate (64 - i) 0) i (List.getD b (o + i) 0) = (b.drop o).take (i + 1) ++ List.replicate (64 - (i + 1)) 0 := by
        rw [List.set_append_right _ _ (by omega), hl, Nat.sub_self, show 64 - i = (64 - (i + 1)) + 1 by omega, List.replicate_succ, List.set_cons_zero]
        rw [List.take_succ_eq_append_getElem (by rw [List.length_drop]; omega), List.append_assoc]
        simp [show o + i < b.length by omega]
      rw [wrap_i64 (n := (o : Int) + (i : Int)) (by omega) (by omega), wrap_i64 (n := (i : Int) + 1) (by omega) (by omega)]
      simp only [hd, hbn, hb2, e1, Int.toNat_natCast, hs]
      exact ih
    · have : i = 64 := by omega
      subst this
      have hd : decide (((64 : Nat) : Int) < 64) = false := by simp
      simp only [hd]
      simp

theorem G85_3_eq (R : Type) {b : List Int} (hb : b.length ≤ 1000000000) (k0 : List Int → Int → List (List Int) → Option R) : ∀ (m o : Nat) (acc : List (List Int)), o ≤ b.length → (b.length - o) / 64 < m → acc.length + (b.length - o) / 64 ≤ 1000000000 →
    ∃ o' : Nat, o' ≤ b.length ∧ b.drop o' = tailS (b.drop o) ∧ G85_3 m R b (o : Int) acc k0 = k0 b (o' : Int) (acc ++ blkS (b.drop o))
  | 0, o, acc, _, h, _ => by omega
  | m + 1, o, acc, h0, h1, h2 => by
    simp only [G85_3, p85_3]
    rw [wrap_i64 (n := (o : Int) + 64) (by omega) (by omega)]
    by_cases hi : o + 64 ≤ b.length
    · have hd : decide ((o : Int) + 64 ≤ (b.length : Int)) = true := by simp; omega
      obtain ⟨o', g1, g2, g3⟩ := G85_3_eq R hb k0 m (o + 64) (acc ++ [(b.drop o).take 64]) (by omega) (by omega) (by rw [List.length_append]; simp; omega)
      have hl : 64 ≤ (b.drop o).length := by rw [List.length_drop]; omega
      refine ⟨o', g1, ?_, ?_⟩
      · rw [g2, tailS_step hl, List.drop_drop]
      · have g := G85_6_eq R hi hb acc (fun x7 x8 x9 x10 => match decide (x9.length + [x10].length ≤ 2199023255552) with | true => G85_3 m R x7 (IntKind.i64.wrap (x8 + 64)) (x9 ++ [x10]) k0 | false => none) FUEL 0 (by omega) (by rw [FUEL_eq]; omega)
        have hc : decide (acc.length + [(b.drop o).take 64].length ≤ 2199023255552) = true := by simp; omega
        simp only [hd]
        refine Eq.trans ?_ (g.trans ?_)
        · rfl
        · simp only [hc]
          rw [wrap_i64 (by omega) (by omega), blkS_step hl, List.drop_drop]
          rw [List.append_assoc] at g3
          exact g3
    · have hd : decide ((o : Int) + 64 ≤ (b.length : Int)) = false := by simp; omega
      simp only [hd]
      have hl : (b.drop o).length < 64 := by rw [List.length_drop]; omega
      exact ⟨o, h0, by rw [tailS_end hl], by rw [blkS_end hl, List.append_nil]⟩

theorem F85_eq (R : Type) {b : List Int} (hb : b.length ≤ 1000000000) (k : List (List Int) → List Int → Option R) : F85 R b k = k (blkS b) (tailS b) := by
  simp only [F85, p85]
  obtain ⟨o', g1, g2, g3⟩ := G85_3_eq R hb (fun x1 x2 x3 => match decide (0 ≤ x2 ∧ x2 ≤ (x1.length : Int) ∧ (x1.length : Int) ≤ (x1.length : Int) ∧ (x1.length : Int) ≤ (x1.length : Int)) with | true => k x3 (List.take (Int.toNat ((x1.length : Int) - x2)) (List.drop (Int.toNat x2) x1)) | false => none) FUEL 0 [] (by omega) (by rw [FUEL_eq]; omega) (by simp; omega)
  refine g3.trans ?_
  have c : decide (0 ≤ (o' : Int) ∧ (o' : Int) ≤ (b.length : Int) ∧ (b.length : Int) ≤ (b.length : Int) ∧ (b.length : Int) ≤ (b.length : Int)) = true := decide_eq_true (by omega)
  simp only [c, Int.toNat_natCast]
  rw [List.take_of_length_le (by rw [List.length_drop]; omega), g2]
  rfl

def padM (m : List Int) : List Int := m ++ 128 :: (List.replicate (zerosN m.length) 0 ++ putS (8 * (m.length : Int)))
theorem F86_eq (R : Type) {m : List Int} (hm : m.length ≤ 500000000) (k : List Int → Option R) : F86 R m k = k (padM m) := by
  simp only [F86, p86]
  rw [Int.tmod_eq_emod_of_nonneg (by omega), wrap_i64 (by omega) (by omega), wrap_u64 (n := (m.length : Int)) (by omega) (by omega)]
  obtain ⟨q, hq⟩ : ∃ q : Nat, (m.length : Int) - (m.length : Int) % 64 = q := ⟨m.length - m.length % 64, by omega⟩
  have hq' : q = m.length - m.length % 64 := by omega
  rw [hq]
  have c1 : decide (0 ≤ (q : Int) ∧ (q : Int) ≤ (m.length : Int) ∧ (m.length : Int) ≤ (m.length : Int) ∧ (m.length : Int) ≤ (m.length : Int)) = true := decide_eq_true (by omega)
  have c2 : decide (0 ≤ (0 : Int) ∧ (0 : Int) ≤ (q : Int) ∧ (q : Int) ≤ (q : Int) ∧ (q : Int) ≤ (m.length : Int)) = true := decide_eq_true (by omega)
  have e1 : List.take (Int.toNat ((m.length : Int) - (q : Int))) (List.drop q m) = List.drop q m := List.take_of_length_le (by rw [List.length_drop]; omega)
  have e2 : List.take (Int.toNat ((q : Int) - 0)) (List.drop 0 m) = List.take q m := by simp
  simp only [c1, Int.toNat_natCast, e1]
  rw [F94_eq R (by rw [List.length_drop]; omega) (by omega)]
  have c3 : decide (([] : List Int).length + (List.take q m).length ≤ 140737488355328) = true := decide_eq_true (by simp; omega)
  have c4 : decide (([] ++ List.take q m).length + (padT (List.drop q m) m.length).length ≤ 140737488355328) = true := decide_eq_true (by simp [padT, putS]; unfold zerosN; omega)
  simp only [c2, e2, c3, c4]
  congr 1
  simp only [padT, padM, List.nil_append]
  rw [← List.append_assoc, List.take_append_drop]
end Go.PG
namespace Go.PG
/-! The hash of a message. -/
def hashS (st : List Int) : List Int := (List.range' 0 8).foldl (layStep st) (List.replicate 32 0)
theorem F102_eq (R : Type) {st : List Int} (u : List Int × Int × Unit) (hu : AllU32 st) (k : List Int → (Wr × Unit) → Option R) : F102 R ((st, u), ()) k = k (hashS st) ((st, u), ()) := by
  simp only [F102, p102]
  exact G102_eq R hu ((st, u), ()) (fun x1 x2 => k x2 x1) FUEL 0 (List.replicate 32 0) (by omega) (by rw [FUEL_eq]; omega)

def SHA (m : List Int) : List Int := hashS (foldB H0 (blkS (padM m)))

theorem putS_u8 (x : Int) : AllU8 (putS x) := fun y hy => by
  simp only [putS, List.mem_cons, List.not_mem_nil, or_false] at hy
  unfold U8
  omega
theorem padT_u8 {rest : List Int} (h : AllU8 rest) (n : Nat) : AllU8 (padT rest n) := fun y hy => by
  unfold padT at hy
  rcases List.mem_append.1 hy with h1 | h1
  · exact h y h1
  · rcases List.mem_cons.1 h1 with rfl | h1
    · unfold U8; omega
    · rcases List.mem_append.1 h1 with h1 | h1
      · rw [List.eq_of_mem_replicate h1]; exact u8_0
      · exact putS_u8 _ y h1
theorem padM_blk (m : List Int) : blkS (padM m) = blkS m ++ blkS (padT (tailS m) m.length) := (blk_append m.length m _ (Nat.le_refl _)).1

theorem F92_eq (R : Type) {m : List Int} (h8 : AllU8 m) (hm : m.length ≤ 500000000) (k : List Int → Int → Option R) : F92 R (wrS H0 m) k = k (SHA m) 0 := by
  have tl := (tailS_len m.length m (Nat.le_refl _)).1
  have ok := blkS_ok m.length m (Nat.le_refl _) h8
  have hf := foldB_ok (blkS m) H0_ok.1 H0_ok.2
  have hp := padT_u8 ok.2 m.length
  simp only [F92, p92, wrS]
  rw [F100_eq R tl (by omega)]
  simp only [Bool.not_true]
  rw [F101_eq R (tailS m, (m.length : Int), ()) hf.1 hf.2 hp (by simp [padT, putS]; unfold zerosN; omega)]
  have hf2 := foldB_ok (blkS (padT (tailS m) m.length)) hf.1 hf.2
  rw [F102_eq R _ hf2.2]
  unfold SHA
  rw [padM_blk]
  unfold foldB
  rw [List.foldl_append]
theorem F72_eq (R : Type) {ps : List (List Int)} (h8 : ∀ p ∈ ps, AllU8 p) (hlen : ps.flatten.length ≤ 500000000) (hnum : ps.length ≤ 1000000000) (k : List Int → Option R) : F72 R ps k = k (SHA ps.flatten) := by
  simp only [F72, p72]
  rw [F91_eq, F90_eq R H0_ok.1 H0_ok.2 h8 hlen hnum]
  refine F92_eq R (fun x hx => ?_) hlen _
  obtain ⟨p, h1, h2⟩ := List.mem_flatten.1 hx
  exact h8 p h1 x h2
end Go.PG
namespace Go.PG
/-! The document's hash. -/
theorem G87_7_eq (R : Type) (x1 : Nat) (h : x1 < 8) (x3 x4 ys : List Int) (hy : ys.length = 4) (k0 : Int → List Int → List Int → List Int → Option R) : ∀ (m j : Nat) (l : List Int), j ≤ 4 → 4 - j < m → G87_7 m R (x1 : Int) (j : Int) x3 x4 l ys k0 = k0 (x1 : Int) x3 x4 ((List.range' j (4 - j)).foldl (fun l j => l.set (4 * x1 + j) (ys.getD j 0)) l)
  | 0, j, l, _, h => by omega
  | m + 1, j, l, h1, h2 => by
    simp only [G87_7, p87_7]
    by_cases hi : j < 4
    · have ih := G87_7_eq R x1 h x3 x4 ys hy k0 m (j + 1) (l.set (4 * x1 + j) (ys.getD j 0)) (by omega) (by omega)
      rw [range'_step hi, List.foldl_cons, ← ih]
      have hd : decide ((j : Int) < 4) = true := by simp; omega
      have hbn : bnd (j : Int) 4 = true := by unfold bnd; simp; omega
      rw [wrap_i64 (n := 4 * (x1 : Int)) (by omega) (by omega), wrap_i64 (n := 4 * (x1 : Int) + (j : Int)) (by omega) (by omega), wrap_i64 (n := (j : Int) + 1) (by omega) (by omega)]
      have hb2 : bnd (4 * (x1 : Int) + (j : Int)) 32 = true := by unfold bnd; simp; omega
      have e1 : (4 * (x1 : Int) + (j : Int)).toNat = 4 * x1 + j := by omega
      simp only [hd, hbn, hb2, e1, Int.toNat_natCast]
      rfl
    · have : j = 4 := by omega
      subst this
      rfl
end Go.PG
namespace Go.PG
theorem set4_lay (l : List Int) (p : Nat) (h : p + 4 ≤ l.length) (a b c d : Int) :
    (List.range' 0 4).foldl (fun l j => l.set (p + j) (List.getD [a, b, c, d] j 0)) l = lay l p [a, b, c, d] := by
  have e : (List.range' 0 4).foldl (fun l j => l.set (p + j) (List.getD [a, b, c, d] j 0)) l = (((l.set p a).set (p + 1) b).set (p + 2) c).set (p + 3) d := rfl
  rw [e]
  apply List.ext_getElem?
  intro i
  unfold lay
  simp only [List.getElem?_set, List.getElem?_append, List.length_take, List.length_set, List.getElem?_drop, List.length_append, List.length_cons, List.length_nil, List.getElem?_take]
  have hm : min p l.length = p := by omega
  have hx : [a, b, c, d].length = 4 := rfl
  by_cases h1 : i < p
  · have n1 : ¬ p + 3 = i := by omega
    have n2 : ¬ p + 2 = i := by omega
    have n3 : ¬ p + 1 = i := by omega
    have n4 : ¬ p = i := by omega
    simp only [n1, n2, n3, n4, if_false, hm]
    rw [if_pos (by omega), if_pos (by omega), if_pos h1]
  · by_cases h2 : i < p + 4
    · obtain ⟨q, rfl⟩ : ∃ q, i = p + q := ⟨i - p, by omega⟩
      have hq : q = 0 ∨ q = 1 ∨ q = 2 ∨ q = 3 := by omega
      rcases hq with rfl | rfl | rfl | rfl
      · simp [hm, show ¬ p + 3 = p from by omega, show p < l.length from by omega]
      · simp [hm, show p + 1 < l.length from by omega, show ¬ p + 1 < p from by omega]
      · simp [hm, show p + 2 < l.length from by omega, show ¬ p + 2 < p from by omega]
      · simp [hm, show p + 3 < l.length from by omega, show ¬ p + 3 < p from by omega]
    · have n1 : ¬ p + 3 = i := by omega
      have n2 : ¬ p + 2 = i := by omega
      have n3 : ¬ p + 1 = i := by omega
      have n4 : ¬ p = i := by omega
      simp only [n1, n2, n3, n4, if_false, hm]
      rw [if_neg (by omega)]
      congr 1
      omega
theorem G87_3_eq (R : Type) {st : List Int} (hu : AllU32 st) (x3 : List Int) (k0 : List Int → List Int → Option R) : ∀ (m i : Nat) (l : List Int), i ≤ 8 → 8 - i < m → l.length = 32 → G87_3 m R (i : Int) st x3 l k0 = k0 x3 ((List.range' i (8 - i)).foldl (layStep st) l)
  | 0, i, l, _, h, _ => by omega
  | m + 1, i, l, h1, h2, hl => by
    simp only [G87_3, p87_3]
    by_cases hi : i < 8
    · have hs : lay l (4 * i) (put32S (st.getD i 0)) = layStep st l i := rfl
      have ih := G87_3_eq R hu x3 k0 m (i + 1) (layStep st l i) (by omega) (by omega) (by rw [← hs, lay_len (by simp [put32S]; omega)]; exact hl)
      rw [range'_step hi, List.foldl_cons, ← ih]
      have hd : decide ((i : Int) < 8) = true := by simp; omega
      have hbn : bnd (i : Int) 8 = true := by unfold bnd; simp; omega
      simp only [hd, hbn, Int.toNat_natCast]
      rw [F95_eq R (getD_all hu u32_0 _)]
      refine (G87_7_eq R i hi st x3 _ rfl _ FUEL 0 l (by omega) (by rw [FUEL_eq]; omega)).trans ?_
      have e4 := set4_lay l (4 * i) (by omega) (st.getD i 0 / 16777216 % 256) (st.getD i 0 / 65536 % 256) (st.getD i 0 / 256 % 256) (st.getD i 0 % 256)
      rw [wrap_i64 (n := (i : Int) + 1) (by omega) (by omega)]
      show G87_3 m R ((i : Int) + 1) st x3 _ k0 = G87_3 m R ((i + 1 : Nat) : Int) st x3 _ k0
      rw [← hs]
      show G87_3 m R ((i : Int) + 1) st x3 _ k0 = G87_3 m R ((i : Int) + 1) st x3 _ k0
      congr 1
    · have : i = 8 := by omega
      subst this
      rfl
theorem F87_eq (R : Type) {st : List Int} (hu : AllU32 st) (k : List Int → Option R) : F87 R st k = k (hashS st) := by
  simp only [F87, p87]
  exact G87_3_eq R hu _ (fun x1 x2 => k x2) FUEL 0 (List.replicate 32 0) (by omega) (by rw [FUEL_eq]; omega) rfl
theorem padM_u8 {m : List Int} (h : AllU8 m) : AllU8 (padM m) := fun x hx => by
  unfold padM at hx
  rcases List.mem_append.1 hx with h1 | h1
  · exact h x h1
  · exact padT_u8 (rest := []) (fun y hy => absurd hy (by simp)) m.length x h1
theorem padM_len (m : List Int) : (padM m).length ≤ m.length + 72 := by
  simp [padM, putS, zerosN]; omega
theorem blkF_len : ∀ (n : Nat) (b : List Int), (blkF n b).length ≤ n
  | 0, b => by simp [blkF]
  | n + 1, b => by
    simp only [blkF]
    split
    · simp only [List.length_cons]
      have := blkF_len n (b.drop 64)
      omega
    · simp
theorem F70_eq (R : Type) {m : List Int} (h8 : AllU8 m) (hm : m.length ≤ 500000000) (k : List Int → Option R) : F70 R m k = k (SHA m) := by
  simp only [F70, p70]
  have hp := padM_len m
  rw [F86_eq R hm, F85_eq R (by omega), F89_eq]
  have ok := blkS_ok (padM m).length (padM m) (Nat.le_refl _) (padM_u8 h8)
  rw [F88_eq R H0_ok.1 H0_ok.2 ok.1 (by have := blkF_len ((padM m).length / 64 + 1) (padM m); unfold blkS; omega), F87_eq R (foldB_ok (blkS (padM m)) H0_ok.1 H0_ok.2).2]
  rfl
end Go.PG
namespace Go.PG
/-! The mix of values. -/
theorem eqvL_self {α : Type} {f : α → α → Bool} (h : ∀ x, f x x = true) : ∀ l : List α, eqvL f l l = true
  | [] => rfl
  | x :: xs => by simp only [eqvL, h x, eqvL_self h xs, Bool.and_self]
theorem eqv32 (l : List Int) : Kd.eqv (.arr 32 (.int .u8)) l l = true := eqvL_self (fun x => by simp [Kd.eqv]) l

theorem wrap_bv8 (b : BitVec 8) : IntKind.u8.wrap ((b.toNat : Nat) : Int) = (b.toNat : Int) := by
  have := b.isLt
  exact wrap_u8 (by omega) (by omega)
theorem ixor_u8 (a b : Int) : ixor .u8 a b = ((BitVec.ofInt 8 a ^^^ BitVec.ofInt 8 b).toNat : Int) := wrap_bv8 _
theorem ofInt_natCast8 (b : BitVec 8) : BitVec.ofInt 8 ((b.toNat : Nat) : Int) = b := by
  rw [BitVec.ofInt_natCast, BitVec.ofNat_toNat, BitVec.setWidth_eq]
theorem ofInt_toNat8 {x : Int} (h : U8 x) : ((BitVec.ofInt 8 x).toNat : Int) = x := by
  rw [BitVec.toNat_ofInt]
  unfold U8 at h
  have : x % ((2 ^ 8 : Nat) : Int) = x := by omega
  rw [this]
  omega
theorem ixor8_lt (a b : Int) : U8 (ixor .u8 a b) := by
  rw [ixor_u8]
  have := (BitVec.ofInt 8 a ^^^ BitVec.ofInt 8 b).isLt
  unfold U8
  omega
theorem ixor8_rc (a b c : Int) : ixor .u8 (ixor .u8 a b) c = ixor .u8 (ixor .u8 a c) b := by
  simp only [ixor_u8, ofInt_natCast8]
  rw [BitVec.xor_assoc, BitVec.xor_comm (BitVec.ofInt 8 b), BitVec.xor_assoc]
theorem ixor8_assoc (a b c : Int) : ixor .u8 (ixor .u8 a b) c = ixor .u8 a (ixor .u8 b c) := by
  simp only [ixor_u8, ofInt_natCast8]
  rw [BitVec.xor_assoc]
theorem ixor8_0 {a : Int} (h : U8 a) : ixor .u8 0 a = a := by
  rw [ixor_u8, show BitVec.ofInt 8 0 = 0#8 from rfl, BitVec.zero_xor, ofInt_toNat8 h]
theorem ixor8_self (a : Int) : ixor .u8 a a = 0 := by
  rw [ixor_u8, BitVec.xor_self]; rfl

def xorS (h x : List Int) : List Int := List.zipWith (ixor .u8) h x
def zero32 : List Int := List.replicate 32 0
def xorAll (l : List (List Int)) : List Int := l.foldl xorS zero32
def H32 (l : List Int) : Prop := l.length = 32 ∧ AllU8 l

theorem zip_rc : ∀ h a b : List Int, xorS (xorS h a) b = xorS (xorS h b) a
  | [], a, b => by simp [xorS]
  | h :: hs, [], b => by cases b <;> simp [xorS]
  | h :: hs, a :: ts, [] => by simp [xorS]
  | h :: hs, a :: ts, b :: bs => by
    have := zip_rc hs ts bs
    simp only [xorS, List.zipWith_cons_cons] at *
    rw [this, ixor8_rc]
theorem zip_assoc : ∀ h a b : List Int, xorS (xorS h a) b = xorS h (xorS a b)
  | [], a, b => by simp [xorS]
  | h :: hs, [], b => by simp [xorS]
  | h :: hs, a :: ts, [] => by simp [xorS]
  | h :: hs, a :: ts, b :: bs => by
    have := zip_assoc hs ts bs
    simp only [xorS, List.zipWith_cons_cons] at *
    rw [this, ixor8_assoc]
theorem zip_zero : ∀ {n : Nat} {a : List Int}, a.length = n → AllU8 a → xorS (List.replicate n 0) a = a
  | 0, [], _, _ => rfl
  | n + 1, a :: ts, hl, h => by
    have ih := zip_zero (n := n) (a := ts) (by simpa using hl) (fun x hx => h x (List.mem_cons_of_mem _ hx))
    simp only [xorS, List.replicate_succ, List.zipWith_cons_cons] at *
    rw [ih, ixor8_0 (h a List.mem_cons_self)]
theorem zip_self : ∀ a : List Int, xorS a a = List.replicate a.length 0
  | [] => rfl
  | a :: ts => by
    have ih := zip_self ts
    simp only [xorS, List.replicate_succ, List.zipWith_cons_cons, List.length_cons] at *
    rw [ih, ixor8_self]
theorem xorS_u8 : ∀ h x : List Int, AllU8 (xorS h x)
  | [], x => fun y hy => by simp [xorS] at hy
  | h :: hs, [] => fun y hy => by simp [xorS] at hy
  | h :: hs, x :: xs => fun y hy => by
    simp only [xorS, List.zipWith_cons_cons, List.mem_cons] at hy
    rcases hy with rfl | hy
    · exact ixor8_lt _ _
    · exact xorS_u8 hs xs y hy
theorem xorS_ok {h x : List Int} (hh : H32 h) (hx : H32 x) : H32 (xorS h x) := ⟨by simp [xorS, hh.1, hx.1], xorS_u8 h x⟩
theorem zero32_ok : H32 zero32 := ⟨by simp [zero32], fun x hx => by rw [List.eq_of_mem_replicate hx]; exact u8_0⟩
theorem xorF_ok : ∀ (l : List (List Int)) {h : List Int}, H32 h → (∀ x ∈ l, H32 x) → H32 (l.foldl xorS h)
  | [], h, hh, _ => hh
  | x :: xs, h, hh, hl => xorF_ok xs (xorS_ok hh (hl x List.mem_cons_self)) (fun y hy => hl y (List.mem_cons_of_mem _ hy))
theorem xorAll_ok {l : List (List Int)} (hl : ∀ x ∈ l, H32 x) : H32 (xorAll l) := xorF_ok l zero32_ok hl
theorem xor0 {x : List Int} (h : H32 x) : xorS zero32 x = x := zip_zero h.1 h.2
theorem xorF_eq : ∀ (l : List (List Int)) {h : List Int}, H32 h → (∀ x ∈ l, H32 x) → l.foldl xorS h = xorS h (xorAll l)
  | [], h, hh, _ => by
    show h = xorS h zero32
    have := zip_zero hh.1 hh.2
    have e : xorS h zero32 = xorS zero32 h := by
      have e1 := xor0 hh
      have : xorS (xorS zero32 h) zero32 = xorS (xorS zero32 zero32) h := zip_rc _ _ _
      rw [e1] at this
      rw [this, xor0 zero32_ok]
    rw [e, xor0 hh]
  | x :: xs, h, hh, hl => by
    have hx := hl x List.mem_cons_self
    have hxs := fun y hy => hl y (List.mem_cons_of_mem x hy)
    unfold xorAll
    rw [List.foldl_cons, List.foldl_cons, xorF_eq xs (xorS_ok hh hx) hxs, xor0 hx, xorF_eq xs hx hxs, zip_assoc]
theorem xorAll_append {a b : List (List Int)} (ha : ∀ x ∈ a, H32 x) (hb : ∀ x ∈ b, H32 x) : xorAll (a ++ b) = xorS (xorAll a) (xorAll b) := by
  unfold xorAll
  rw [List.foldl_append]
  exact xorF_eq b (xorAll_ok ha) hb
theorem xorAll_perm {a b : List (List Int)} (h : a.Perm b) : xorAll a = xorAll b := by
  unfold xorAll
  generalize zero32 = z
  induction h generalizing z with
  | nil => rfl
  | cons x _ ih => exact ih _
  | swap x y l => simp only [List.foldl_cons, zip_rc]
  | trans _ _ i1 i2 => rw [i1 z, i2 z]

/-! The loops. -/
theorem set_mid (A : List Int) (h : Int) (hs : List Int) (v : Int) : (A ++ h :: hs).set A.length v = (A ++ [v]) ++ hs := by
  rw [List.set_append_right _ _ (Nat.le_refl _)]
  simp
theorem getD_mid (A : List Int) (h : Int) (hs : List Int) : (A ++ h :: hs).getD A.length 0 = h := by
  simp
theorem G31_5_eq (R : Type) (x1 : List (List Int)) (x2 x3 : Int) (k0 : List (List Int) → Int → Int → List Int → Option R) : ∀ (m : Nat) (hs xs A X : List Int), hs.length = xs.length → A.length = X.length → A.length + hs.length = 32 → hs.length < m →
    G31_5 m R x1 x2 x3 (X ++ xs) (A.length : Int) (A ++ hs) k0 = k0 x1 x2 x3 (A ++ xorS hs xs)
  | 0, _, _, _, _, _, _, _, h => by omega
  | m + 1, [], [], A, X, _, h2, h3, _ => by
    have : A.length = 32 := by simpa using h3
    simp only [G31_5, p31_5, this]
    simp [xorS]
  | m + 1, h :: hs, x :: xs, A, X, h1, h2, h3, h4 => by
    simp only [List.length_cons] at h1 h3 h4
    have ih := G31_5_eq R x1 x2 x3 k0 m hs xs (A ++ [ixor .u8 h x]) (X ++ [x]) (by omega) (by simp; omega) (by simp; omega) (by omega)
    simp only [G31_5, p31_5]
    have hd : decide ((A.length : Int) < 32) = true := by simp; omega
    have hbn : bnd (A.length : Int) 32 = true := by unfold bnd; simp; omega
    simp only [hd, hbn, Int.toNat_natCast]
    rw [set_mid, getD_mid, wrap_i64 (n := (A.length : Int) + 1) (by omega) (by omega), h2, getD_mid]
    simp only [List.append_assoc, List.cons_append, List.nil_append, List.length_append, List.length_cons, List.length_nil] at ih
    rw [h2] at ih
    simp only [List.append_assoc, List.cons_append, List.nil_append]
    exact ih
theorem G31_2_eq (R : Type) (l : List (List Int)) (hl : ∀ x ∈ l, H32 x) (hn : l.length ≤ 1000000000) (k0 : List Int → Option R) : ∀ (m i : Nat) (h : List Int), i ≤ l.length → l.length - i < m → H32 h →
    G31_2 m R l (l.length : Int) (i : Int) h k0 = k0 ((l.drop i).foldl xorS h)
  | 0, i, _, _, h, _ => by omega
  | m + 1, i, h, h1, h2, hh => by
    simp only [G31_2, p31_2]
    by_cases hi : i < l.length
    · have hd : decide ((i : Int) < (l.length : Int)) = true := by simpa using hi
      have hbn : bnd (i : Int) (l.length : Int) = true := by unfold bnd; simp; omega
      have hx := hl l[i] (List.getElem_mem hi)
      have hg : List.getD l i (List.replicate 32 0) = l[i] := by simp [hi]
      have ih := G31_2_eq R l hl hn k0 m (i + 1) (xorS h l[i]) (by omega) (by omega) (xorS_ok hh hx)
      simp only [hd, hbn, Int.toNat_natCast, hg]
      refine (G31_5_eq R l (l.length : Int) (i : Int) _ FUEL h l[i] [] [] (by rw [hh.1, hx.1]) rfl (by simp [hh.1]) (by rw [FUEL_eq, hh.1]; omega)).trans ?_
      rw [wrap_i64 (n := (i : Int) + 1) (by omega) (by omega), List.drop_eq_getElem_cons hi]
      exact ih
    · have : i = l.length := by omega
      subst this
      have hd : decide ((l.length : Int) < (l.length : Int)) = false := by simp
      simp only [hd]
      rw [List.drop_of_length_le (Nat.le_refl _)]
      rfl
theorem F31_eq (R : Type) {l : List (List Int)} (hl : ∀ x ∈ l, H32 x) (hn : l.length ≤ 1000000000) (k : List Int → Option R) : F31 R l k = k (xorAll l) := by
  simp only [F31, p31]
  exact G31_2_eq R l hl hn (fun x2 => k x2) FUEL 0 zero32 (by omega) (by rw [FUEL_eq]; omega) zero32_ok

theorem G32_6_eq (R : Type) (x1 : List (List Int)) (n : Nat) (xi : List Int) (hn : n < x1.length) (hxi : x1.getD n (List.replicate 32 0) = xi) (x4 : List Int) (k0 : List (List Int) → Int → List Int → List Int → Option R) : ∀ (m : Nat) (hs xs A X : List Int), xi = X ++ xs → hs.length = xs.length → A.length = X.length → A.length + hs.length = 32 → hs.length < m →
    G32_6 m R x1 (n : Int) (A.length : Int) x4 (A ++ hs) k0 = k0 x1 (n : Int) x4 (A ++ xorS hs xs)
  | 0, _, _, _, _, _, _, _, _, h => by omega
  | m + 1, [], [], A, X, _, _, h2, h3, _ => by
    have : A.length = 32 := by simpa using h3
    simp only [G32_6, p32_6, this]
    simp [xorS]
  | m + 1, h :: hs, x :: xs, A, X, h0, h1, h2, h3, h4 => by
    simp only [List.length_cons] at h1 h3 h4
    have ih := G32_6_eq R x1 n xi hn hxi x4 k0 m hs xs (A ++ [ixor .u8 h x]) (X ++ [x]) (by simp [h0]) (by omega) (by simp; omega) (by simp; omega) (by omega)
    simp only [G32_6, p32_6]
    have hd : decide ((A.length : Int) < 32) = true := by simp; omega
    have hbn : bnd (A.length : Int) 32 = true := by unfold bnd; simp; omega
    have hbm : bnd (n : Int) (x1.length : Int) = true := by unfold bnd; simp; omega
    simp only [hd, hbn, hbm, Int.toNat_natCast, hxi, h0]
    rw [set_mid, getD_mid, wrap_i64 (n := (A.length : Int) + 1) (by omega) (by omega), h2, getD_mid]
    simp only [List.append_assoc, List.cons_append, List.nil_append, List.length_append, List.length_cons, List.length_nil] at ih
    rw [h2] at ih
    simp only [List.append_assoc, List.cons_append, List.nil_append]
    exact ih
theorem G32_3_eq (R : Type) (l : List (List Int)) (hl : ∀ x ∈ l, H32 x) (hn : l.length ≤ 1000000000) (x3 : List Int) (k0 : List Int → List Int → Option R) : ∀ (m i : Nat) (h : List Int), i ≤ l.length → l.length - i < m → H32 h →
    G32_3 m R l (i : Int) x3 h k0 = k0 x3 ((l.drop i).foldl xorS h)
  | 0, i, _, _, h, _ => by omega
  | m + 1, i, h, h1, h2, hh => by
    simp only [G32_3, p32_3]
    by_cases hi : i < l.length
    · have hd : decide ((i : Int) < (l.length : Int)) = true := by simpa using hi
      have hx := hl l[i] (List.getElem_mem hi)
      have hg : List.getD l i (List.replicate 32 0) = l[i] := by simp [hi]
      have ih := G32_3_eq R l hl hn x3 k0 m (i + 1) (xorS h l[i]) (by omega) (by omega) (xorS_ok hh hx)
      simp only [hd]
      refine (G32_6_eq R l i l[i] hi hg x3 _ FUEL h l[i] [] [] rfl (by rw [hh.1, hx.1]) rfl (by simp [hh.1]) (by rw [FUEL_eq, hh.1]; omega)).trans ?_
      rw [wrap_i64 (n := (i : Int) + 1) (by omega) (by omega), List.drop_eq_getElem_cons hi]
      exact ih
    · have : i = l.length := by omega
      subst this
      have hd : decide ((l.length : Int) < (l.length : Int)) = false := by simp
      simp only [hd]
      rw [List.drop_of_length_le (Nat.le_refl _)]
      rfl
theorem F32_eq (R : Type) {l : List (List Int)} (hl : ∀ x ∈ l, H32 x) (hn : l.length ≤ 1000000000) (k : List Int → Option R) : F32 R l k = k (xorAll l) := by
  simp only [F32, p32]
  exact G32_3_eq R l hl hn zero32 (fun _ x2 => k x2) FUEL 0 zero32 (by omega) (by rw [FUEL_eq]; omega) zero32_ok
end Go.PG
namespace Go.PG
/-! Seeds and commitments; the law of the mix. -/
theorem putS_len (x : Int) : (putS x).length = 8 := rfl
theorem take32 {l : List Int} (h : H32 l) : List.take 32 (List.drop 0 l) = l := by
  rw [List.drop_zero, List.take_of_length_le (by rw [h.1]; omega)]
theorem take8 (x : Int) : List.take 8 (List.drop 0 (putS x)) = putS x := rfl
theorem F35_eq (R : Type) {a : List Int} (ha : H32 a) (k : List Int → Option R) : F35 R a k = k (SHA a) := by
  simp only [F35, p35, take32 ha]
  rw [F72_eq R (fun p hp => by simp only [List.mem_cons, List.not_mem_nil, or_false] at hp; rw [hp]; exact ha.2) (by simp [ha.1]) (by simp)]
  simp
def seedS (a : List Int) (e : Int) (b : List Int) : List Int := SHA (a ++ (putS e ++ b))
theorem F33_eq (R : Type) {a b : List Int} (ha : H32 a) (hb : H32 b) (e : Int) (k : List Int → Option R) : F33 R a e b k = k (seedS a e b) := by
  simp only [F33, p33]
  rw [F71_eq]
  simp only [take32 ha, take32 hb, take8]
  rw [F72_eq R (fun p hp => by
    simp only [List.mem_cons, List.not_mem_nil, or_false] at hp
    rcases hp with rfl | rfl | rfl
    · exact ha.2
    · exact putS_u8 e
    · exact hb.2) (by simp [ha.1, hb.1, putS_len]) (by simp)]
  simp [seedS]
theorem drop_step {l : List Int} {i : Nat} (h : i < l.length) : l.drop i = l.getD i 0 :: l.drop (i + 1) := by
  rw [List.drop_eq_getElem_cons h]
  simp [h]
theorem G73_eq (R : Type) {a : List Int} (ha : a.length = 32) (k0 : List Int → Option R) : ∀ (m i : Nat) (o : List Int), i ≤ 32 → 32 - i < m → o.length ≤ 1000000 + i → G73_3 m R (i : Int) a o k0 = k0 (o ++ a.drop i)
  | 0, i, _, _, h, _ => by omega
  | m + 1, i, o, h1, h2, h3 => by
    simp only [G73_3, p73_3]
    by_cases hi : i < 32
    · have ih := G73_eq R ha k0 m (i + 1) (o ++ [a.getD i 0]) (by omega) (by omega) (by simp; omega)
      have hd : decide ((i : Int) < 32) = true := by simp; omega
      have hbn : bnd (i : Int) 32 = true := by unfold bnd; simp; omega
      have hc : ∀ y : Int, decide (List.length o + List.length [y] ≤ 140737488355328) = true := fun y => by simp; omega
      simp only [hd, hbn, Int.toNat_natCast, hc]
      rw [wrap_i64 (n := (i : Int) + 1) (by omega) (by omega), drop_step (by omega)]
      simp only [List.append_assoc, List.cons_append, List.nil_append] at ih
      exact ih
    · have : i = 32 := by omega
      subst this
      rw [List.drop_of_length_le (by omega), List.append_nil]
      rfl
theorem F73_eq (R : Type) {a : List Int} (ha : a.length = 32) (k : List Int → Option R) : F73 R a k = k a := by
  simp only [F73, p73]
  exact G73_eq R ha (fun x => k x) FUEL 0 [] (by omega) (by rw [FUEL_eq]; omega) (by simp)
theorem F36_eq (R : Type) {a : List Int} (ha : H32 a) (k : List Int → Option R) : F36 R a k = k (SHA a) := by
  simp only [F36, p36]
  rw [F73_eq R ha.1, F70_eq R ha.2 (by rw [ha.1]; omega)]
theorem G34_eq (R : Type) {a : List Int} (ha : a.length = 8) (x2 x3 : List Int) (k0 : List Int → List Int → List Int → Option R) : ∀ (m i : Nat) (o : List Int), i ≤ 8 → 8 - i < m → o.length ≤ 1000000 + i → G34_4 m R (i : Int) x2 x3 o a k0 = k0 x2 x3 (o ++ a.drop i)
  | 0, i, _, _, h, _ => by omega
  | m + 1, i, o, h1, h2, h3 => by
    simp only [G34_4, p34_4]
    by_cases hi : i < 8
    · have ih := G34_eq R ha x2 x3 k0 m (i + 1) (o ++ [a.getD i 0]) (by omega) (by omega) (by simp; omega)
      have hd : decide ((i : Int) < 8) = true := by simp; omega
      have hbn : bnd (i : Int) 8 = true := by unfold bnd; simp; omega
      have hc : ∀ y : Int, decide (List.length o + List.length [y] ≤ 140737488355328) = true := fun y => by simp; omega
      simp only [hd, hbn, Int.toNat_natCast, hc]
      rw [wrap_i64 (n := (i : Int) + 1) (by omega) (by omega), drop_step (by omega)]
      simp only [List.append_assoc, List.cons_append, List.nil_append] at ih
      exact ih
    · have : i = 8 := by omega
      subst this
      rw [List.drop_of_length_le (by omega), List.append_nil]
      rfl
theorem AllU8.app {a b : List Int} (ha : AllU8 a) (hb : AllU8 b) : AllU8 (a ++ b) := fun x hx => (List.mem_append.1 hx).elim (ha x) (hb x)
theorem F34_eq (R : Type) {a b : List Int} (ha : H32 a) (hb : H32 b) {e : Int} (he : 0 ≤ e ∧ e < 18446744073709551616) (k : List Int → Option R) : F34 R a e b k = k (seedS a e b) := by
  simp only [F34, p34]
  rw [F73_eq R ha.1, F74_eq R he]
  refine (G34_eq R (putS_len e) b _ _ FUEL 0 a (by omega) (by rw [FUEL_eq]; omega) (by rw [ha.1]; omega)).trans ?_
  simp only [List.drop_zero]
  rw [F73_eq R hb.1]
  have hc : decide (List.length (a ++ putS e) + List.length b ≤ 140737488355328) = true := by simp [ha.1, hb.1, putS_len]
  simp only [hc]
  rw [F70_eq R ((ha.2.app (putS_u8 e)).app hb.2) (by simp [ha.1, hb.1, putS_len])]
  rw [List.append_assoc]
  rfl
theorem F30_eq (R : Type) (k : Bool → Option R) : F30 R k = k true := by
  have z : H32 (List.replicate 32 0) := zero32_ok
  have h1 : H32 (List.set (List.set (List.replicate 32 (0 : Int)) 0 (1 : Int)) 1 (2 : Int)) := ⟨rfl, by unfold AllU8 U8; decide⟩
  have h2 : H32 (List.set (List.set (List.replicate 32 (0 : Int)) 0 (3 : Int)) 1 (2 : Int)) := ⟨rfl, by unfold AllU8 U8; decide⟩
  have e1 : Kd.eqv (.arr 32 (.int .u8)) (xorAll [List.set (List.set (List.replicate 32 (0 : Int)) 0 (1 : Int)) 1 (2 : Int)]) (List.set (List.set (List.replicate 32 (0 : Int)) 0 (1 : Int)) 1 (2 : Int)) = true := by kernel_rfl
  have e2 : Kd.eqv (.arr 32 (.int .u8)) (xorAll [List.set (List.set (List.replicate 32 (0 : Int)) 0 (1 : Int)) 1 (2 : Int), List.set (List.set (List.replicate 32 (0 : Int)) 0 (3 : Int)) 1 (2 : Int)]) (List.set (List.replicate 32 (0 : Int)) 0 (2 : Int)) = true := by kernel_rfl
  have e3 : Kd.eqv (.arr 32 (.int .u8)) (xorAll []) (List.replicate 32 (0 : Int)) = true := by kernel_rfl
  have e4 : SHA (List.replicate 72 0) = seedS (List.replicate 32 0) 0 (List.replicate 32 0) := by
    unfold seedS
    congr 1
  simp only [F30, p30]
  rw [F31_eq R (fun x hx => by simp only [List.mem_cons, List.not_mem_nil, or_false] at hx; rw [hx]; exact h1) (by simp)]
  simp only [e1]
  rw [F31_eq R (fun x hx => by simp only [List.mem_cons, List.not_mem_nil, or_false] at hx; rcases hx with rfl | rfl <;> assumption) (by simp)]
  simp only [e2]
  rw [F31_eq R (fun x hx => by simp at hx) (by simp)]
  simp only [e3]
  rw [F35_eq R z, F70_eq R z.2 (by simp)]
  simp only [eqv32]
  rw [F33_eq R z z, F70_eq R (fun x hx => by rw [List.eq_of_mem_replicate hx]; exact u8_0) (by simp), e4]
  simp only [eqv32]

theorem fit_h32 {x : List Int} (h : Fit (.arr 32 (.int .u8)) x) : H32 x := ⟨h.1, fun y hy => by have := fit_u8 (h.2 y hy); unfold U8; omega⟩

theorem F7_eq (R : Type) {a b : List Int} (ha : H32 a) (hb : H32 b) {e : Int} (he : 0 ≤ e ∧ e < 18446744073709551616) (k : Bool → Option R) : F7 R a e b k = k true := by
  simp only [F7, p7]
  rw [F30_eq]
  simp only [Bool.not_true]
  rw [F33_eq R ha hb, F34_eq R ha hb he]
  simp only [eqv32]
  rw [F35_eq R hb, F36_eq R hb]
  simp only [eqv32]

theorem G6_eq (R : Type) (l : List (List Int)) (hn : l.length ≤ 300) (x4 : List Int) (k0 : Bool → Option R) (k1 : List (List Int) → List Int → Option R) : ∀ (m i : Nat), i ≤ l.length → l.length - i < m → G6_8 m R l (i : Int) l x4 k0 k1 = k1 l x4
  | 0, i, _, h => by omega
  | m + 1, i, h1, h2 => by
    simp only [G6_8, p6_8]
    by_cases hi : i < l.length
    · have hd : decide ((i : Int) < (l.length : Int)) = true := by simpa using hi
      have hbn : bnd (i : Int) (l.length : Int) = true := by unfold bnd; simp; omega
      have ih := G6_eq R l hn x4 k0 k1 m (i + 1) (by omega) (by omega)
      simp only [hd, hbn, eqv32, Bool.not_true]
      rw [wrap_i64 (n := (i : Int) + 1) (by omega) (by omega)]
      exact ih
    · have : i = l.length := by omega
      subst this
      have hd : decide ((l.length : Int) < (l.length : Int)) = false := by simp
      simp only [hd]
theorem F6_eq (R : Type) {l : List (List Int)} (hl : ∀ x ∈ l, H32 x) (k : Bool → Option R) : F6 R l k = k true := by
  simp only [F6, p6]
  rw [F30_eq]
  simp only [Bool.not_true]
  by_cases h : (l.length : Int) > 300
  · simp only [decide_eq_true h]
  · simp only [decide_eq_false h]
    have hc : decide (List.length ([] : List (List Int)) + List.length l ≤ 4398046511104) = true := by simp; omega
    simp only [hc, List.nil_append]
    rw [F31_eq R hl (by omega)]
    refine (G6_eq R l (by omega) _ _ _ FUEL 0 (by omega) (by rw [FUEL_eq]; omega)).trans ?_
    rw [F32_eq R hl (by omega)]
    simp only [eqv32]
end Go.PG
namespace Go.PG
theorem G8_eq (R : Type) (l : List (List Int)) (hn : l.length ≤ 300) (x2 : Int) (x4 : List Int) (x5 : List (List Int)) (k0 : List (List Int) → Int → List Int → List (List Int) → List (List Int) → Option R) : ∀ (i m : Nat) (o : List (List Int)), i ≤ l.length → i < m → o.length + i ≤ 1000 → G8_9 m R l x2 ((i : Int) - 1) x4 x5 o k0 = k0 l x2 x4 x5 (o ++ (l.take i).reverse)
  | i, 0, o, _, h, _ => by omega
  | 0, m + 1, o, h1, h2, h3 => by
    simp only [G8_9, p8_9]
    have hd : decide (((0 : Nat) : Int) - 1 ≥ 0) = false := by simp
    simp only [hd, List.take_zero, List.reverse_nil, List.append_nil]
  | i + 1, m + 1, o, h1, h2, h3 => by
    simp only [G8_9, p8_9]
    have e : ((i + 1 : Nat) : Int) - 1 = (i : Int) := by omega
    have hd : decide ((i : Int) ≥ 0) = true := by simp
    have hbn : bnd (i : Int) (l.length : Int) = true := by unfold bnd; simp; omega
    have hg : List.getD l i (List.replicate 32 0) = l[i] := by simp [show i < l.length by omega]
    have hc : ∀ y : List Int, decide (List.length o + List.length [y] ≤ 4398046511104) = true := fun y => by simp; omega
    simp only [e, hd, hbn, Int.toNat_natCast, hg, hc]
    have ih := G8_eq R l hn x2 x4 x5 k0 i m (o ++ [l[i]]) (by omega) (by omega) (by simp; omega)
    rw [wrap_i64 (n := (i : Int) - 1) (by omega) (by omega), ih]
    have et : l.take (i + 1) = l.take i ++ [l[i]] := by rw [List.take_succ_eq_append_getElem (by omega)]
    rw [et, List.reverse_append]
    simp
theorem F8_eq (R : Type) {l : List (List Int)} (hl : ∀ x ∈ l, H32 x) {t : List Int} (ht : H32 t) {a : Int} (ha : U8 a) (k : Bool → Option R) : F8 R l a t k = k true := by
  simp only [F8, p8]
  rw [F30_eq]
  simp only [Bool.not_true]
  by_cases h : (l.length : Int) > 300
  · simp only [decide_eq_true h]
  simp only [decide_eq_false h]
  by_cases h0 : l.length = 0
  · simp only [h0]
    rfl
  have e0 : ((l.length : Int) == 0) = false := by simp; intro e; simp [e] at h0
  unfold U8 at ha
  have em : Int.tmod a (l.length : Int) = ((a.toNat % l.length : Nat) : Int) := by
    obtain ⟨n, rfl⟩ : ∃ n : Nat, a = n := ⟨a.toNat, by omega⟩
    rw [Int.toNat_natCast]
    exact Int.ofNat_tmod _ _ |>.symm
  have hk : a.toNat % l.length < l.length := Nat.mod_lt _ (by omega)
  rw [wrap_i64 (n := a) (by omega) (by omega), em]
  generalize a.toNat % l.length = n at *
  have c1 : decide (0 ≤ (n : Int) ∧ (n : Int) ≤ (List.length l : Int) ∧ (List.length l : Int) ≤ (List.length l : Int) ∧ (List.length l : Int) ≤ (List.length l : Int)) = true := decide_eq_true (by omega)
  have c2 : decide (0 ≤ (0 : Int) ∧ (0 : Int) ≤ (n : Int) ∧ (n : Int) ≤ (n : Int) ∧ (n : Int) ≤ (List.length l : Int)) = true := decide_eq_true (by omega)
  have e1 : List.take (Int.toNat ((List.length l : Int) - (n : Int))) (List.drop (Int.toNat (n : Int)) l) = l.drop n := by
    rw [Int.toNat_natCast]
    exact List.take_of_length_le (by simp)
  have e2 : List.take (Int.toNat ((n : Int) - 0)) (List.drop 0 l) = l.take n := by simp
  have c3 : decide (List.length ([] : List (List Int)) + List.length (l.drop n) ≤ 4398046511104) = true := by simp; omega
  have c4 : decide (List.length (l.drop n) + List.length (l.take n) ≤ 4398046511104) = true := by simp; omega
  simp only [e0, Bool.not_false, c1, c2, e1, e2, c3, List.nil_append, c4]
  have e5 : IntKind.i64.wrap ((l.length : Int) - 1) = (l.length : Int) - 1 := wrap_i64 (by omega) (by omega)
  rw [e5]
  refine (G8_eq R l (by omega) _ t _ _ l.length FUEL [] (Nat.le_refl _) (by rw [FUEL_eq]; omega) (by simp; try omega)).trans ?_
  rw [List.take_length, List.nil_append]
  have hd : ∀ x ∈ l.drop n, H32 x := fun x hx => hl x (List.mem_of_mem_drop hx)
  have htk : ∀ x ∈ l.take n, H32 x := fun x hx => hl x (List.mem_of_mem_take hx)
  have p1 : (l.drop n ++ l.take n).Perm l := by
    have := List.perm_append_comm (l₁ := l.drop n) (l₂ := l.take n)
    rwa [List.take_append_drop] at this
  have hX := xorAll_ok hl
  rw [F31_eq R hl (by omega), F31_eq R (fun x hx => (List.mem_append.1 hx).elim (hd x) (htk x)) (by simp; omega), xorAll_perm p1]
  simp only [eqv32]
  rw [F31_eq R (fun x hx => hl x (List.mem_reverse.1 hx)) (by simp; omega), xorAll_perm (List.reverse_perm l)]
  simp only [eqv32, c2, e2]
  rw [F31_eq R htk (by simp; omega)]
  simp only [c1, e1]
  rw [F31_eq R hd (by simp; omega)]
  rw [F31_eq R (fun x hx => by simp only [List.mem_cons, List.not_mem_nil, or_false] at hx; rcases hx with rfl | rfl; exact xorAll_ok htk; exact xorAll_ok hd) (by simp)]
  have e6 : xorAll [xorAll (l.take n), xorAll (l.drop n)] = xorAll l := by
    show xorS (xorS zero32 (xorAll (l.take n))) (xorAll (l.drop n)) = xorAll l
    rw [xor0 (xorAll_ok htk), ← xorAll_append htk hd, List.take_append_drop]
  rw [e6]
  simp only [eqv32]
  rw [F31_eq R (fun x hx => by simp only [List.mem_cons, List.not_mem_nil, or_false] at hx; rcases hx with rfl | rfl | rfl <;> assumption) (by simp)]
  have e7 : xorAll [t, xorAll l, t] = xorAll l := by
    show xorS (xorS (xorS zero32 t) (xorAll l)) t = xorAll l
    rw [xor0 ht, zip_rc, zip_self, ht.1]
    exact xor0 hX
  rw [e7]
  simp only [eqv32]
end Go.PG
namespace Go.PG
/-! Streams of bits. -/
theorem layStep_ok {st l : List Int} (hl : H32 l) {i : Nat} (hi : i < 8) : H32 (layStep st l i) := by
  refine ⟨by unfold layStep; rw [lay_len (by simp [put32S, hl.1]; omega)]; exact hl.1, ?_⟩
  unfold layStep lay
  refine AllU8.app (AllU8.app (fun x hx => hl.2 x (List.mem_of_mem_take hx)) ?_) (fun x hx => hl.2 x (List.mem_of_mem_drop hx))
  intro y hy
  simp only [put32S, List.mem_cons, List.not_mem_nil, or_false] at hy
  unfold U8
  omega
theorem layFold_ok (st : List Int) : ∀ (is : List Nat) {l : List Int}, (∀ i ∈ is, i < 8) → H32 l → H32 (is.foldl (layStep st) l)
  | [], _, _, hl => hl
  | i :: is, _, h, hl => layFold_ok st is (fun j hj => h j (List.mem_cons_of_mem _ hj)) (layStep_ok hl (h i List.mem_cons_self))
theorem SHA_ok (m : List Int) : H32 (SHA m) := by
  unfold SHA hashS
  refine layFold_ok _ _ (fun i hi => ?_) zero32_ok
  rw [List.mem_range'] at hi
  obtain ⟨j, hj, rfl⟩ := hi
  omega
def blockS (a : List Int) (d i : Int) : List Int := SHA (a ++ (putS d ++ putS i))
theorem blockS_ok (a : List Int) (d i : Int) : H32 (blockS a d i) := SHA_ok _
theorem F38_eq (R : Type) {a : List Int} (ha : H32 a) (d i : Int) (k : List Int → Option R) : F38 R a d i k = k (blockS a d i) := by
  simp only [F38, p38]
  rw [F71_eq, F71_eq]
  simp only [take32 ha, take8]
  rw [F72_eq R (fun p hp => by
    simp only [List.mem_cons, List.not_mem_nil, or_false] at hp
    rcases hp with rfl | rfl | rfl
    · exact ha.2
    · exact putS_u8 d
    · exact putS_u8 i) (by simp [ha.1, putS_len]) (by simp)]
  simp [blockS]
theorem G39_3_eq (R : Type) {a : List Int} (ha : a.length = 32) (x1 x2 : Int) (x5 : List Int) (k0 : Int → Int → List Int → List Int → Option R) : ∀ (m i : Nat) (o : List Int), i ≤ 32 → 32 - i < m → o.length ≤ 1000000 + i → G39_3 m R x1 x2 (i : Int) a x5 o k0 = k0 x1 x2 x5 (o ++ a.drop i)
  | 0, i, _, _, h, _ => by omega
  | m + 1, i, o, h1, h2, h3 => by
    simp only [G39_3, p39_3]
    by_cases hi : i < 32
    · have ih := G39_3_eq R ha x1 x2 x5 k0 m (i + 1) (o ++ [a.getD i 0]) (by omega) (by omega) (by simp; omega)
      have hd : decide ((i : Int) < 32) = true := by simp; omega
      have hbn : bnd (i : Int) 32 = true := by unfold bnd; simp; omega
      have hc : ∀ y : Int, decide (List.length o + List.length [y] ≤ 140737488355328) = true := fun y => by simp; omega
      simp only [hd, hbn, Int.toNat_natCast, hc]
      rw [wrap_i64 (n := (i : Int) + 1) (by omega) (by omega), drop_step (by omega)]
      simp only [List.append_assoc, List.cons_append, List.nil_append] at ih
      exact ih
    · have : i = 32 := by omega
      subst this
      rw [List.drop_of_length_le (by omega), List.append_nil]
      rfl
theorem G39_8_eq (R : Type) {a : List Int} (ha : a.length = 8) (x2 x5 : List Int) (k0 : List Int → List Int → List Int → Option R) : ∀ (m i : Nat) (o : List Int), i ≤ 8 → 8 - i < m → o.length ≤ 1000000 + i → G39_8 m R (i : Int) x2 o a x5 k0 = k0 x2 (o ++ a.drop i) x5
  | 0, i, _, _, h, _ => by omega
  | m + 1, i, o, h1, h2, h3 => by
    simp only [G39_8, p39_8]
    by_cases hi : i < 8
    · have ih := G39_8_eq R ha x2 x5 k0 m (i + 1) (o ++ [a.getD i 0]) (by omega) (by omega) (by simp; omega)
      have hd : decide ((i : Int) < 8) = true := by simp; omega
      have hbn : bnd (i : Int) 8 = true := by unfold bnd; simp; omega
      have hc : ∀ y : Int, decide (List.length o + List.length [y] ≤ 140737488355328) = true := fun y => by simp; omega
      simp only [hd, hbn, Int.toNat_natCast, hc]
      rw [wrap_i64 (n := (i : Int) + 1) (by omega) (by omega), drop_step (by omega)]
      simp only [List.append_assoc, List.cons_append, List.nil_append] at ih
      exact ih
    · have : i = 8 := by omega
      subst this
      rw [List.drop_of_length_le (by omega), List.append_nil]
      rfl
theorem G39_12_eq (R : Type) {a : List Int} (ha : a.length = 8) (x2 : List Int) (k0 : List Int → List Int → Option R) : ∀ (m i : Nat) (o : List Int), i ≤ 8 → 8 - i < m → o.length ≤ 1000000 + i → G39_12 m R (i : Int) x2 o a k0 = k0 x2 (o ++ a.drop i)
  | 0, i, _, _, h, _ => by omega
  | m + 1, i, o, h1, h2, h3 => by
    simp only [G39_12, p39_12]
    by_cases hi : i < 8
    · have ih := G39_12_eq R ha x2 k0 m (i + 1) (o ++ [a.getD i 0]) (by omega) (by omega) (by simp; omega)
      have hd : decide ((i : Int) < 8) = true := by simp; omega
      have hbn : bnd (i : Int) 8 = true := by unfold bnd; simp; omega
      have hc : ∀ y : Int, decide (List.length o + List.length [y] ≤ 140737488355328) = true := fun y => by simp; omega
      simp only [hd, hbn, Int.toNat_natCast, hc]
      rw [wrap_i64 (n := (i : Int) + 1) (by omega) (by omega), drop_step (by omega)]
      simp only [List.append_assoc, List.cons_append, List.nil_append] at ih
      exact ih
    · have : i = 8 := by omega
      subst this
      rw [List.drop_of_length_le (by omega), List.append_nil]
      rfl
def U64 (x : Int) : Prop := 0 ≤ x ∧ x < 18446744073709551616
theorem F39_eq (R : Type) {a : List Int} (ha : H32 a) {d i : Int} (hd : U64 d) (hi : U64 i) (k : List Int → Option R) : F39 R a d i k = k (blockS a d i) := by
  simp only [F39, p39]
  refine (G39_3_eq R ha.1 d i _ _ FUEL 0 [] (by omega) (by rw [FUEL_eq]; omega) (by simp)).trans ?_
  simp only [List.drop_zero, List.nil_append]
  rw [F74_eq R hd, F74_eq R hi]
  refine (G39_8_eq R (putS_len d) _ _ _ FUEL 0 a (by omega) (by rw [FUEL_eq]; omega) (by rw [ha.1]; omega)).trans ?_
  simp only [List.drop_zero]
  refine (G39_12_eq R (putS_len i) _ _ FUEL 0 (a ++ putS d) (by omega) (by rw [FUEL_eq]; omega) (by simp [ha.1, putS_len])).trans ?_
  simp only [List.drop_zero]
  rw [F70_eq R ((ha.2.app (putS_u8 d)).app (putS_u8 i)) (by simp [ha.1, putS_len]), List.append_assoc]
  rfl

/-! Bits. -/
theorem wrap_bv64 (b : BitVec 64) : IntKind.u64.wrap ((b.toNat : Nat) : Int) = (b.toNat : Int) := by
  have := b.isLt
  exact wrap_u64 (by omega) (by omega)
theorem iand_u64 (a b : Int) : iand .u64 a b = ((BitVec.ofInt 64 a &&& BitVec.ofInt 64 b).toNat : Int) := wrap_bv64 _
theorem ior_u64 (a b : Int) : ior .u64 a b = ((BitVec.ofInt 64 a ||| BitVec.ofInt 64 b).toNat : Int) := wrap_bv64 _
theorem iand_mask {x : Int} (hx : U64 x) (n : Nat) (hn : n < 64) : iand .u64 x ((2 ^ n - 1 : Nat) : Int) = x % 2 ^ n := by
  unfold U64 at hx
  obtain ⟨y, rfl⟩ : ∃ y : Nat, x = y := ⟨x.toNat, by omega⟩
  have h1 : (2 : Nat) ^ n < 2 ^ 64 := Nat.pow_lt_pow_right (by omega) hn
  have h0 : 0 < (2 : Nat) ^ n := Nat.pow_pos (by omega)
  rw [iand_u64, BitVec.ofInt_natCast, BitVec.ofInt_natCast, BitVec.toNat_and, BitVec.toNat_ofNat, BitVec.toNat_ofNat, Nat.mod_eq_of_lt (by omega), Nat.mod_eq_of_lt (by omega), Nat.and_two_pow_sub_one_eq_mod]
  simp
def bitS (a : List Int) (d n : Int) : Int := (blockS a d (n / 256)).getD (n % 256 / 8).toNat 0 / 2 ^ (7 - n % 8).toNat % 2
theorem F40_eq (R : Type) {a : List Int} (ha : H32 a) {d n : Int} (hn : U64 n) (k : Int → Option R) : F40 R a d n k = k (bitS a d n) := by
  unfold U64 at hn
  simp only [F40, p40]
  rw [Int.tdiv_eq_ediv_of_nonneg hn.1, Int.tmod_eq_emod_of_nonneg hn.1, wrap_u64 (n := n / 256) (by omega) (by omega), F38_eq R ha]
  have e3 : ishr .u64 (n % 256) 3 = n % 256 / 8 := shr64 (x := n % 256) 3 (by omega)
  have e7 : iand .u64 (n % 256) 7 = n % 8 := by
    have := iand_mask (x := n % 256) (by unfold U64; omega) 3 (by omega)
    refine this.trans ?_
    omega
  simp only [e3, e7]
  rw [wrap_u64 (n := 7 - n % 8) (by omega) (by omega)]
  have hbn : bnd (n % 256 / 8) 32 = true := by unfold bnd; simp; omega
  have hdc : decide ((0 : Int) ≤ 7 - n % 8) = true := by simp; omega
  simp only [hbn, hdc]
  have hb : U8 ((blockS a d (n / 256)).getD (n % 256 / 8).toNat 0) := getD_all (blockS_ok a d _).2 u8_0 _
  obtain ⟨r, hr⟩ : ∃ r : Nat, 7 - n % 8 = r := ⟨(7 - n % 8).toNat, by omega⟩
  unfold bitS
  rw [hr]
  generalize (blockS a d (n / 256)).getD (n % 256 / 8).toNat 0 = b at *
  have e8 : ishr .u8 b (r : Int) = b / 2 ^ r := by
    unfold ishr
    rw [show IntKind.u8.bits = 8 from rfl, Int.toNat_natCast, Nat.min_eq_left (by omega), Int.fdiv_eq_ediv_of_nonneg _ (by have := two_pow_pos r; omega)]
  rw [e8, Int.toNat_natCast]
  unfold U8 at hb
  have hp : (0 : Int) < 2 ^ r := Int.pow_pos (by decide)
  have hq : 0 ≤ b / 2 ^ r ∧ b / 2 ^ r ≤ b := ⟨Int.ediv_nonneg hb.1 (by omega), Int.ediv_le_self _ hb.1⟩
  rw [wrap_u64 (n := b / 2 ^ r) (by omega) (by omega)]
  have := iand_mask (x := b / 2 ^ r) (by unfold U64; omega) 1 (by omega)
  rw [show iand .u64 (b / 2 ^ r) 1 = b / 2 ^ r % 2 ^ 1 from this]
  rfl
theorem G75_eq (R : Type) {n : Nat} (hn : n ≤ 7) (k0 : Int → Option R) : ∀ (m i : Nat), i ≤ n → n - i < m → G75_3 m R (n : Int) (2 ^ i) (i : Int) k0 = k0 (2 ^ n)
  | 0, i, _, h => by omega
  | m + 1, i, h1, h2 => by
    simp only [G75_3, p75_3]
    by_cases hi : i < n
    · have hd : decide ((i : Int) < (n : Int)) = true := by simpa using hi
      have ih := G75_eq R hn k0 m (i + 1) (by omega) (by omega)
      have hp : (2 : Int) ^ i ≤ 128 := by
        have : (2 : Nat) ^ i ≤ 2 ^ 7 := Nat.pow_le_pow_right (by omega) (by omega)
        have e : ((2 ^ i : Nat) : Int) = (2 : Int) ^ i := by simp
        omega
      have hq : (0 : Int) < 2 ^ i := Int.pow_pos (by decide)
      simp only [hd]
      rw [wrap_u64 (n := 2 * 2 ^ i) (by omega) (by omega), wrap_u64 (n := (i : Int) + 1) (by omega) (by omega), show (2 : Int) * 2 ^ i = 2 ^ (i + 1) by rw [Int.pow_succ, Int.mul_comm]]
      exact ih
    · have : i = n := by omega
      subst this
      have hd : decide ((i : Int) < (i : Int)) = false := by simp
      simp only [hd]
theorem F75_eq (R : Type) {n : Nat} (hn : n ≤ 7) (k : Int → Option R) : F75 R (n : Int) k = k (2 ^ n) := by
  simp only [F75, p75]
  exact G75_eq R hn (fun x => k x) FUEL 0 (by omega) (by rw [FUEL_eq]; omega)
theorem F41_eq (R : Type) {a : List Int} (ha : H32 a) {d n : Int} (hd : U64 d) (hn : U64 n) (k : Int → Option R) : F41 R a d n k = k (bitS a d n) := by
  have hn' := hn
  unfold U64 at hn
  simp only [F41, p41]
  rw [Int.tdiv_eq_ediv_of_nonneg hn.1, Int.tmod_eq_emod_of_nonneg hn.1, Int.tmod_eq_emod_of_nonneg hn.1, wrap_u64 (n := n / 256) (by omega) (by omega), F39_eq R ha hd (by unfold U64; omega), Int.tdiv_eq_ediv_of_nonneg (a := n % 256) (by omega), wrap_u64 (n := n % 256 / 8) (by omega) (by omega), wrap_u64 (n := 7 - n % 8) (by omega) (by omega)]
  have hbn : bnd (n % 256 / 8) 32 = true := by unfold bnd; simp; omega
  simp only [hbn]
  have hb : U8 ((blockS a d (n / 256)).getD (n % 256 / 8).toNat 0) := getD_all (blockS_ok a d _).2 u8_0 _
  obtain ⟨r, hr⟩ : ∃ r : Nat, 7 - n % 8 = r := ⟨(7 - n % 8).toNat, by omega⟩
  unfold bitS
  rw [hr, F75_eq R (by omega)]
  generalize (blockS a d (n / 256)).getD (n % 256 / 8).toNat 0 = b at *
  unfold U8 at hb
  have hp : (0 : Int) < 2 ^ r := Int.pow_pos (by decide)
  have hq : 0 ≤ b / 2 ^ r ∧ b / 2 ^ r ≤ b := ⟨Int.ediv_nonneg hb.1 (by omega), Int.ediv_le_self _ hb.1⟩
  have hz : ((2 : Int) ^ r == 0) = false := by simp; omega
  simp only [hz, Bool.not_false]
  rw [wrap_u64 (n := b) (by omega) (by omega), Int.tdiv_eq_ediv_of_nonneg (by omega), wrap_u64 (n := b / 2 ^ r) (by omega) (by omega), Int.tmod_eq_emod_of_nonneg hq.1, Int.toNat_natCast]
end Go.PG
namespace Go.PG
/-! The bytes of a stream; the law of streams. -/
def byteS (a : List Int) (d : Int) (p : Nat) : Int := (blockS a d ((p / 32 : Nat) : Int)).getD (p % 32) 0
def bytesS (a : List Int) (d : Int) (n : Nat) : List Int := (List.range n).map (byteS a d)
theorem bytesS_len (a : List Int) (d : Int) (n : Nat) : (bytesS a d n).length = n := by simp [bytesS]
theorem bytesS_take (a : List Int) (d : Int) {n m : Nat} (h : n ≤ m) : (bytesS a d m).take n = bytesS a d n := by
  unfold bytesS
  rw [← List.map_take, List.take_range, Nat.min_eq_left h]
theorem bytesS_get (a : List Int) (d : Int) {n i : Nat} (h : i < n) : (bytesS a d n).getD i 0 = byteS a d i := by
  simp [bytesS, h]
theorem bytesS_succ (a : List Int) (d : Int) (n : Nat) : bytesS a d (n + 1) = bytesS a d n ++ [byteS a d n] := by
  simp [bytesS, List.range_succ]
theorem bytesS_block (a : List Int) (d : Int) (j : Nat) : ∀ c : Nat, c ≤ 32 → bytesS a d (32 * j) ++ (blockS a d (j : Int)).take c = bytesS a d (32 * j + c)
  | 0, _ => by simp
  | c + 1, h => by
    have ih := bytesS_block a d j c (by omega)
    have hl := (blockS_ok a d (j : Int)).1
    have e : (blockS a d (j : Int)).take (c + 1) = (blockS a d (j : Int)).take c ++ [byteS a d (32 * j + c)] := by
      rw [List.take_succ_eq_append_getElem (by omega)]
      unfold byteS
      rw [show (32 * j + c) / 32 = j by omega, show (32 * j + c) % 32 = c by omega]
      simp [show c < (blockS a d (j : Int)).length by omega]
    rw [e, ← List.append_assoc, ih, ← Nat.add_assoc, bytesS_succ]
theorem bytesS_u8 (a : List Int) (d : Int) (n : Nat) : AllU8 (bytesS a d n) := fun x hx => by
  unfold bytesS at hx
  obtain ⟨p, _, rfl⟩ := List.mem_map.1 hx
  exact getD_all (blockS_ok a d _).2 u8_0 _
theorem G42_eq (R : Type) {a : List Int} (ha : H32 a) (d : Int) {n : Nat} (hn : n ≤ 4096) (k0 : Int → List Int → Option R) : ∀ (m j : Nat), 32 * j < n + 32 → n + 32 - 32 * j < m →
    ∃ j' : Nat, n ≤ 32 * j' ∧ G42_5 m R d (n : Int) (j : Int) a (bytesS a d (32 * j)) k0 = k0 (n : Int) (bytesS a d (32 * j'))
  | 0, j, _, h => by omega
  | m + 1, j, h1, h2 => by
    simp only [G42_5, p42_5, bytesS_len]
    by_cases hi : 32 * j < n
    · have hd : decide (((32 * j : Nat) : Int) < (n : Int)) = true := decide_eq_true (by omega)
      obtain ⟨j', g1, g2⟩ := G42_eq R ha d hn k0 m (j + 1) (by omega) (by omega)
      refine ⟨j', g1, ?_⟩
      simp only [hd]
      rw [F38_eq R ha, take32 (blockS_ok a d _)]
      have hc : decide (32 * j + List.length (blockS a d (j : Int)) ≤ 140737488355328) = true := by
        rw [(blockS_ok a d _).1]; exact decide_eq_true (by omega)
      have e := bytesS_block a d j 32 (by omega)
      rw [List.take_of_length_le (by rw [(blockS_ok a d _).1]; omega)] at e
      simp only [hc, e]
      rw [wrap_u64 (n := (j : Int) + 1) (by omega) (by omega)]
      exact g2
    · refine ⟨j, by omega, ?_⟩
      have hd : decide (((32 * j : Nat) : Int) < (n : Int)) = false := decide_eq_false (by omega)
      simp only [hd]
def bytesR (a : List Int) (d n : Int) : List Int := if 0 ≤ n ∧ n ≤ 4096 then bytesS a d n.toNat else []
theorem F42_eq (R : Type) {a : List Int} (ha : H32 a) (d n : Int) (k : List Int → Option R) : F42 R a d n k = k (bytesR a d n) := by
  simp only [F42, p42]
  unfold bytesR
  by_cases h1 : n < 0
  · rw [if_neg (by omega)]
    simp only [decide_eq_true h1]
  · simp only [decide_eq_false h1]
    by_cases h2 : n > 4096
    · rw [if_neg (by omega)]
      simp only [decide_eq_true h2]
    · rw [if_pos (by omega)]
      simp only [decide_eq_false h2]
      obtain ⟨c, rfl⟩ : ∃ c : Nat, n = c := ⟨n.toNat, by omega⟩
      obtain ⟨j', g1, g2⟩ := G42_eq R ha d (n := c) (by omega) (fun x3 x4 => match decide (0 ≤ (0 : Int) ∧ (0 : Int) ≤ x3 ∧ x3 ≤ x3 ∧ x3 ≤ (List.length x4 : Int)) with | true => k (List.take (Int.toNat (x3 - 0)) (List.drop 0 x4)) | false => none) FUEL 0 (by omega) (by rw [FUEL_eq]; omega)
      refine g2.trans ?_
      have hc : decide (0 ≤ (0 : Int) ∧ (0 : Int) ≤ (c : Int) ∧ (c : Int) ≤ (c : Int) ∧ (c : Int) ≤ ((bytesS a d (32 * j')).length : Int)) = true := by
        rw [bytesS_len]; exact decide_eq_true (by omega)
      simp only [hc, Int.sub_zero, Int.toNat_natCast, List.drop_zero, bytesS_take a d g1]
theorem G43_9_eq (R : Type) {a : List Int} (d : Int) {n : Nat} (hn : n ≤ 4096) (j : Nat) (k0 : Int → Int → Int → List Int → List Int → Option R) : ∀ (m c : Nat), c ≤ 32 → 32 * j + c ≤ n → 32 - c < m →
    G43_9 m R d (n : Int) (j : Int) (c : Int) a (bytesS a d (32 * j + c)) (blockS a d (j : Int)) k0 = k0 d (n : Int) (j : Int) a (bytesS a d (min n (32 * (j + 1))))
  | 0, c, _, _, h => by omega
  | m + 1, c, h1, h2, h3 => by
    simp only [G43_9, p43_9, bytesS_len]
    by_cases hc : c < 32
    · have hd : decide ((c : Int) < 32) = true := decide_eq_true (by omega)
      simp only [hd]
      by_cases hi : 32 * j + c < n
      · have hd2 : decide (((32 * j + c : Nat) : Int) < (n : Int)) = true := decide_eq_true (by omega)
        have hbn : bnd (c : Int) 32 = true := by unfold bnd; simp; omega
        have hcc : ∀ y : Int, decide (32 * j + c + List.length [y] ≤ 140737488355328) = true := fun y => by simp; omega
        simp only [hd2, hbn, hcc, Int.toNat_natCast]
        have ih := G43_9_eq R (a := a) d hn j k0 m (c + 1) (by omega) (by omega) (by omega)
        have e : byteS a d (32 * j + c) = (blockS a d (j : Int)).getD c 0 := by
          unfold byteS
          rw [show (32 * j + c) / 32 = j by omega, show (32 * j + c) % 32 = c by omega]
        rw [← Nat.add_assoc, bytesS_succ, e] at ih
        rw [wrap_i64 (n := (c : Int) + 1) (by omega) (by omega)]
        exact ih
      · have hd2 : decide (((32 * j + c : Nat) : Int) < (n : Int)) = false := decide_eq_false (by omega)
        simp only [hd2]
        rw [show min n (32 * (j + 1)) = 32 * j + c by omega]
    · have hd : decide ((c : Int) < 32) = false := decide_eq_false (by omega)
      simp only [hd]
      rw [show min n (32 * (j + 1)) = 32 * j + c by omega]
theorem G43_5_eq (R : Type) {a : List Int} (ha : H32 a) {d : Int} (hd : U64 d) {n : Nat} (hn : n ≤ 4096) (k0 : List Int → Option R) : ∀ (m j : Nat), 32 * j < n + 32 → n + 32 - 32 * j < m →
    G43_5 m R d (n : Int) (j : Int) a (bytesS a d (min n (32 * j))) k0 = k0 (bytesS a d n)
  | 0, j, _, h => by omega
  | m + 1, j, h1, h2 => by
    simp only [G43_5, p43_5, bytesS_len]
    by_cases hi : 32 * j < n
    · have hdd : decide (((min n (32 * j) : Nat) : Int) < (n : Int)) = true := decide_eq_true (by omega)
      simp only [hdd]
      rw [wrap_u64 (n := (j : Int)) (by omega) (by omega), F39_eq R ha hd (by unfold U64; omega), show min n (32 * j) = 32 * j + 0 by omega]
      refine (G43_9_eq R d hn j _ FUEL 0 (by omega) (by omega) (by rw [FUEL_eq]; omega)).trans ?_
      rw [wrap_i64 (n := (j : Int) + 1) (by omega) (by omega)]
      exact G43_5_eq R ha hd hn k0 m (j + 1) (by omega) (by omega)
    · have hdd : decide (((min n (32 * j) : Nat) : Int) < (n : Int)) = false := decide_eq_false (by omega)
      simp only [hdd]
      rw [show min n (32 * j) = n by omega]
theorem F43_eq (R : Type) {a : List Int} (ha : H32 a) {d : Int} (hd : U64 d) (n : Int) (k : List Int → Option R) : F43 R a d n k = k (bytesR a d n) := by
  simp only [F43, p43]
  unfold bytesR
  by_cases h1 : n < 0
  · rw [if_neg (by omega)]
    simp only [decide_eq_true h1]
  · simp only [decide_eq_false h1]
    by_cases h2 : n > 4096
    · rw [if_neg (by omega)]
      simp only [decide_eq_true h2]
    · rw [if_pos (by omega)]
      simp only [decide_eq_false h2]
      obtain ⟨c, rfl⟩ : ∃ c : Nat, n = c := ⟨n.toNat, by omega⟩
      have e0 : bytesS a d (min c (32 * 0)) = [] := by rw [Nat.mul_zero, Nat.min_zero]; rfl
      have := G43_5_eq R ha hd (n := c) (by omega) (fun x => k x) FUEL 0 (by omega) (by rw [FUEL_eq]; omega)
      rw [e0] at this
      exact this

/-! Domains. -/
theorem ior_shl32 {x b : Int} (hx : U32 x) (hb : U32 b) : ior .u64 (ishl .u64 x 32) b = x * 4294967296 + b := by
  unfold U32 at hx hb
  obtain ⟨n, rfl⟩ : ∃ n : Nat, x = n := ⟨x.toNat, by omega⟩
  obtain ⟨c, rfl⟩ : ∃ c : Nat, b = c := ⟨b.toNat, by omega⟩
  have e2 : ishl .u64 (n : Int) 32 = ((n * 4294967296 : Nat) : Int) := by
    unfold ishl
    rw [show (2 : Int) ^ (min (32 : Int).toNat IntKind.u64.bits) = 4294967296 by decide, wrap_u64 (by omega) (by omega)]
    simp
  rw [e2, ior_u64, BitVec.ofInt_natCast, BitVec.ofInt_natCast, BitVec.toNat_or, BitVec.toNat_ofNat, BitVec.toNat_ofNat, Nat.mod_eq_of_lt (by omega), Nat.mod_eq_of_lt (by omega)]
  have h6 := Nat.shiftLeft_add_eq_or_of_lt (i := 32) (b := c) (by omega) n
  rw [Nat.shiftLeft_eq] at h6
  rw [show n * 4294967296 = n * 2 ^ 32 by rfl, ← h6]
  simp
theorem F44_eq (R : Type) {a b : Int} (ha : U32 a) (hb : U32 b) (k : Int → Option R) : F44 R a b k = k (a * 4294967296 + b) := by
  have u := ha; have v := hb
  unfold U32 at u v
  simp only [F44, p44]
  rw [wrap_u64 (n := a) (by omega) (by omega), wrap_u64 (n := b) (by omega) (by omega), ior_shl32 ha hb]
theorem F46_eq (R : Type) {a b : Int} (ha : U32 a) (hb : U32 b) (k : Int → Option R) : F46 R a b k = k (a * 4294967296 + b) := by
  have u := ha; have v := hb
  unfold U32 at u v
  simp only [F46, p46]
  rw [wrap_u64 (n := a) (by omega) (by omega), wrap_u64 (n := b) (by omega) (by omega), wrap_u64 (n := a * 4294967296) (by omega) (by omega), wrap_u64 (by omega) (by omega)]
theorem F45_eq (R : Type) {a b : Int} (ha : U32 a) (hb : U32 b) (k : Int → Int → Option R) : F45 R (a * 4294967296 + b) k = k a b := by
  have u := ha; have v := hb
  unfold U32 at u v
  simp only [F45, p45]
  have e : ishr .u64 (a * 4294967296 + b) 32 = (a * 4294967296 + b) / 2 ^ 32 := shr64 (x := a * 4294967296 + b) 32 (by omega)
  rw [e, wrap_u32_mod, wrap_u32_mod, show ((a * 4294967296 + b) / 2 ^ 32) % 4294967296 = a by omega, show (a * 4294967296 + b) % 4294967296 = b by omega]

theorem F37_eq (R : Type) (k : Bool → Option R) : F37 R k = k true := by
  have z : H32 (List.replicate 32 0) := zero32_ok
  have u1 : U32 1 := by unfold U32; omega
  have u2 : U32 2 := by unfold U32; omega
  have u0 : U64 0 := by unfold U64; omega
  simp only [F37, p37]
  have e : (4294967298 : Int) = 1 * 4294967296 + 2 := by decide
  rw [e, F45_eq R u1 u2, F42_eq R z, F44_eq R u1 u2]
  have e5 : bytesR (List.replicate 32 0) 0 33 = bytesS (List.replicate 32 0) 0 33 := rfl
  have b5 : bnd (0 : Int) ((33 : Nat) : Int) = true := rfl
  have hz : (List.replicate 48 (0 : Int)) = List.replicate 32 0 ++ (putS 0 ++ putS 0) := rfl
  rw [F38_eq R z, F70_eq R (fun x hx => by rw [List.eq_of_mem_replicate hx]; exact u8_0) (by simp)]
  have eb : (bytesS (List.replicate 32 0) 0 33).getD 0 0 = (blockS (List.replicate 32 0) 0 0).getD 0 0 := bytesS_get _ _ (by omega)
  have hb : U8 ((blockS (List.replicate 32 0) 0 0).getD 0 0) := getD_all (blockS_ok _ _ _).2 u8_0 _
  have ebit : bitS (List.replicate 32 0) 0 0 = (blockS (List.replicate 32 0) 0 0).getD 0 0 / 128 := by
    unfold bitS
    have : (blockS (List.replicate 32 0) 0 (0 / 256)).getD (0 % 256 / 8 : Int).toNat 0 = (blockS (List.replicate 32 0) 0 0).getD 0 0 := rfl
    rw [this, show (2 : Int) ^ (7 - (0 : Int) % 8).toNat = 128 by decide]
    unfold U8 at hb
    omega
  rw [hz]
  have es : SHA (List.replicate 32 0 ++ (putS 0 ++ putS 0)) = blockS (List.replicate 32 0) 0 0 := rfl
  simp only [e5, es, bytesS_len, b5, eb, eqv32]
  rw [F38_eq R z, F40_eq R z u0, ebit]
  generalize (blockS (List.replicate 32 0) 0 0).getD 0 0 = x at *
  unfold U8 at hb
  rw [wrap_u64 (n := x) (by omega) (by omega), Int.tdiv_eq_ediv_of_nonneg hb.1, wrap_u64 (n := x / 128) (by omega) (by omega)]
  simp
theorem F9_eq (R : Type) {a : List Int} (ha : H32 a) {d i : Int} (hd : U64 d) (hi : U64 i) (k : Bool → Option R) : F9 R a d i k = k true := by
  simp only [F9, p9]
  rw [F37_eq]
  simp only [Bool.not_true]
  rw [F38_eq R ha, F39_eq R ha hd hi]
  simp only [eqv32]
  rw [F40_eq R ha hi, F41_eq R ha hd hi]
  simp
theorem F10_eq (R : Type) {a : List Int} (ha : H32 a) {d : Int} (hd : U64 d) (n : Int) (k : Bool → Option R) : F10 R a d n k = k true := by
  simp only [F10, p10]
  rw [F37_eq]
  simp only [Bool.not_true]
  rw [F42_eq R ha, F43_eq R ha hd]
  simp only [beq_self_eq_true]
  split
  · split <;> rfl
  · rfl
theorem fit_p2 {x : List Int} (h : Fit (.arr 2 (.int .u32)) x) : ∃ a b, x = [a, b] ∧ U32 a ∧ U32 b := by
  obtain ⟨h1, h2⟩ := h
  match x, h1, h2 with
  | [a, b], _, h2 =>
    refine ⟨a, b, rfl, ?_, ?_⟩
    · have := fit_u32 (h2 a (by simp)); unfold U32; omega
    · have := fit_u32 (h2 b (by simp)); unfold U32; omega
theorem F11_eq (R : Type) {x y : List Int} (hx : ∃ a b, x = [a, b] ∧ U32 a ∧ U32 b) (hy : ∃ a b, y = [a, b] ∧ U32 a ∧ U32 b) (k : Bool → Option R) : F11 R x y k = k true := by
  obtain ⟨a, b, rfl, ha, hb⟩ := hx
  obtain ⟨c, d, rfl, hc, hd⟩ := hy
  simp only [F11, p11]
  rw [F37_eq]
  have g0 : ∀ x y : Int, List.getD [x, y] 0 0 = x := fun _ _ => rfl
  have g1 : ∀ x y : Int, List.getD [x, y] 1 0 = y := fun _ _ => rfl
  simp only [Bool.not_true, g0, g1]
  rw [F44_eq R ha hb, F44_eq R hc hd, F45_eq R ha hb, F46_eq R ha hb]
  simp only [beq_self_eq_true]
  have e : ((a * 4294967296 + b == c * 4294967296 + d) == Kd.eqv (.arr 2 (.int .u32)) [a, b] [c, d]) = true := by
    have e1 : Kd.eqv (.arr 2 (.int .u32)) [a, b] [c, d] = (a == c && (b == d && true)) := rfl
    rw [e1]
    unfold U32 at ha hb hc hd
    by_cases h1 : a = c
    · subst h1
      by_cases h2 : b = d
      · subst h2; simp
      · have q1 : (a * 4294967296 + b == a * 4294967296 + d) = false := beq_eq_false_iff_ne.2 (by omega)
        have q2 : (b == d) = false := beq_eq_false_iff_ne.2 h2
        rw [q1, q2]
        simp
    · have q1 : (a * 4294967296 + b == c * 4294967296 + d) = false := beq_eq_false_iff_ne.2 (by omega)
      have q2 : (a == c) = false := beq_eq_false_iff_ne.2 h1
      rw [q1, q2]
      rfl
  rw [e]
theorem F12_eq (R : Type) {a : List Int} (ha : H32 a) (d : Int) {n : Int} (hn : 0 ≤ n ∧ n ≤ 65535) (k : Bool → Option R) : F12 R a d n k = k true := by
  simp only [F12, p12]
  rw [F37_eq]
  simp only [Bool.not_true]
  obtain ⟨q, hq⟩ : ∃ q : Nat, n % 2000 = q := ⟨(n % 2000).toNat, by omega⟩
  rw [Int.tmod_eq_emod_of_nonneg hn.1, hq, wrap_u64 (n := (q : Int)) (by omega) (by omega), Int.tdiv_eq_ediv_of_nonneg (by omega), wrap_u64 (n := (q : Int) / 8) (by omega) (by omega), wrap_i64 (n := (q : Int) / 8) (by omega) (by omega), wrap_i64 (n := (q : Int) / 8 + 1) (by omega) (by omega), F42_eq R ha]
  have e1 : bytesR a d ((q : Int) / 8 + 1) = bytesS a d (q / 8 + 1) := by
    unfold bytesR
    rw [if_pos (by omega), show ((q : Int) / 8 + 1).toNat = q / 8 + 1 by omega]
  rw [e1]
  have hz : (((q / 8 + 1 : Nat) : Int) != (q : Int) / 8 + 1) = false := by
    rw [show ((q / 8 + 1 : Nat) : Int) = (q : Int) / 8 + 1 by omega]; simp
  have hbn : bnd ((q : Int) / 8) ((q / 8 + 1 : Nat) : Int) = true := by unfold bnd; simp; omega
  have e2 : (bytesS a d (q / 8 + 1)).getD ((q : Int) / 8).toNat 0 = byteS a d (q / 8) := by
    rw [show ((q : Int) / 8).toNat = q / 8 by omega]
    exact bytesS_get _ _ (by omega)
  simp only [bytesS_len, hz, hbn, e2]
  have hb : U8 (byteS a d (q / 8)) := getD_all (blockS_ok a d _).2 u8_0 _
  have hb' := hb
  unfold U8 at hb'
  rw [wrap_u32 (n := byteS a d (q / 8)) (by omega) (by omega), Int.tmod_eq_emod_of_nonneg (a := (q : Int)) (by omega), wrap_i64 (n := (q : Int) % 8) (by omega) (by omega), wrap_i64 (n := 7 - (q : Int) % 8) (by omega) (by omega)]
  rw [F47_lit R (x := byteS a d (q / 8)) (by unfold U32; omega) (7 - q % 8) (by omega) (by omega), F40_eq R ha (by unfold U64; omega)]
  have e3 : bitS a d (q : Int) = shrS (byteS a d (q / 8)) (7 - q % 8) % 2 := by
    unfold bitS shrS byteS
    rw [show (q : Int) / 256 = ((q / 8 / 32 : Nat) : Int) by omega, show ((q : Int) % 256 / 8).toNat = q / 8 % 32 by omega, show (7 - (q : Int) % 8).toNat = 7 - q % 8 by omega]
  rw [e3]
  have hs : 0 ≤ shrS (byteS a d (q / 8)) (7 - q % 8) := Int.ediv_nonneg hb'.1 (Int.le_of_lt (Int.pow_pos (by decide)))
  rw [Int.tmod_eq_emod_of_nonneg hs, wrap_u64 (by omega) (by omega)]
  simp
end Go.PG
