/- A part of the proof over this seat (own work; the framework that reads a Go function as a pure one, or a use of it). No condition of its own. -/
import Derived.Test.YtapdakmnlclboaaGreatA6
set_option linter.unusedVariables false
set_option linter.unusedSimpArgs false
set_option linter.unusedSectionVars false
namespace Go.PG
abbrev Src := Int × (List Int × (Int × (List Int × (Int × (Int × Unit)))))
abbrev Rdr := Src × (List Int × (Int × (Bool × Unit)))
def atS (s : Src) : Int := s.2.2.2.2.2.1
def setAt (s : Src) (n : Int) : Src := (s.1, s.2.1, s.2.2.1, s.2.2.2.1, s.2.2.2.2.1, n, ())
structure SOK (s : Src) : Prop where
  tape : AllU8 s.2.1
  len : s.2.1.length ≤ 1000000
  bits : U64 s.2.2.1
  seed : H32 s.2.2.2.1
  dom : U64 s.2.2.2.2.1
  at_ : U64 s.2.2.2.2.2.1
theorem SOK.set {s : Src} (h : SOK s) {n : Int} (hn : U64 n) : SOK (setAt s n) := ⟨h.tape, h.len, h.bits, h.seed, h.dom, hn⟩
def rightS' (s : Src) : Bool := if s.1 = 1 then decide (s.2.2.1 ≤ 8 * (s.2.1.length : Int) ∧ s.2.2.2.2.2.1 ≤ s.2.2.1) else decide (s.1 = 2 ∧ s.2.2.2.2.2.1 ≤ 4611686018427387904)
def endS (s : Src) : Int := if s.1 = 1 then s.2.2.1 else 4611686018427387904
def leftS (s : Src) : Int := if rightS' s = true then endS s - s.2.2.2.2.2.1 else 0
def bitAt (s : Src) (n : Int) : Int := if s.1 = 1 then s.2.1.getD (n / 8).toNat 0 / 2 ^ (7 - n % 8).toNat % 2 else bitS s.2.2.2.1 s.2.2.2.2.1 n
theorem F126_eq (R : Type) {s : Src} (h : SOK s) (k : Int → Bool → Option R) : F126 R s k = (if s.1 = 1 then k s.2.2.1 (decide (s.2.2.1 ≤ 8 * (s.2.1.length : Int))) else if s.1 = 2 then k 4611686018427387904 true else k 0 false) := by
  have hl := h.len
  simp only [F126, p126]
  rw [wrap_u64 (n := (s.2.1.length : Int)) (by omega) (by omega), wrap_u64 (n := (s.2.1.length : Int) * 8) (by omega) (by omega), Int.mul_comm]
  by_cases h1 : s.1 = 1
  · simp [h1]
  · by_cases h2 : s.1 = 2
    · simp [h2]
    · simp only [beq_eq_false_iff_ne.2 h1, beq_eq_false_iff_ne.2 h2, if_neg h1, if_neg h2]
theorem F95_eq (R : Type) {s : Src} (h : SOK s) (k : Bool → Option R) : F95 R s k = k (rightS' s) := by
  simp only [F95, p95]
  rw [F126_eq R h]
  unfold rightS'
  by_cases h1 : s.1 = 1
  · simp only [h1, if_true]
    by_cases h2 : s.2.2.1 ≤ 8 * (s.2.1.length : Int)
    · simp [h2]
    · simp [h2]
  · simp only [h1, if_false]
    by_cases h2 : s.1 = 2
    · simp [h2]
    · simp [h2]
theorem F58_eq (R : Type) {s : Src} (h : SOK s) (k : Bool → Option R) : F58 R s k = k (rightS' s) := by
  have hl := h.len
  simp only [F58, p58]
  rw [wrap_u64 (n := (s.2.1.length : Int)) (by omega) (by omega), wrap_u64 (n := 8 * (s.2.1.length : Int)) (by omega) (by omega)]
  unfold rightS'
  by_cases h1 : s.1 = 1
  · simp only [h1, if_true]
    by_cases h2 : s.2.2.1 ≤ 8 * (s.2.1.length : Int)
    · simp [h2]
    · simp [h2]
  · simp only [h1, if_false]
    by_cases h2 : s.1 = 2
    · simp [h2]
    · simp only [beq_eq_false_iff_ne.2 h1, beq_eq_false_iff_ne.2 h2]
      simp [h2]
theorem right_spec {s : Src} (h : rightS' s = true) : (s.1 = 1 ∧ s.2.2.1 ≤ 8 * (s.2.1.length : Int) ∧ s.2.2.2.2.2.1 ≤ s.2.2.1 ∧ endS s = s.2.2.1) ∨ (s.1 = 2 ∧ s.2.2.2.2.2.1 ≤ 4611686018427387904 ∧ endS s = 4611686018427387904) := by
  unfold rightS' at h
  unfold endS
  by_cases h1 : s.1 = 1
  · rw [if_pos h1] at h ⊢
    have := of_decide_eq_true h
    exact .inl ⟨h1, this.1, this.2, rfl⟩
  · rw [if_neg h1] at h ⊢
    have := of_decide_eq_true h
    exact .inr ⟨this.1, this.2, rfl⟩
theorem left_ok {s : Src} (hs : SOK s) : 0 ≤ leftS s ∧ leftS s ≤ 4611686018427387904 ∧ (rightS' s = true → s.2.2.2.2.2.1 + leftS s = endS s) := by
  have h1 := hs.at_; have h2 := hs.bits; have h3 := hs.len
  unfold U64 at h1 h2
  unfold leftS
  by_cases h : rightS' s = true
  · rw [if_pos h]
    rcases right_spec h with ⟨_, a2, a3, a4⟩ | ⟨_, a2, a3⟩
    · rw [a4]; omega
    · rw [a3]; omega
  · rw [if_neg h]
    exact ⟨by omega, by omega, fun e => absurd e h⟩
theorem F119_eq (R : Type) {s : Src} (h : SOK s) (k : Int → Option R) : F119 R s k = k (leftS s) := by
  have hl := left_ok h
  simp only [F119, p119]
  rw [F95_eq R h, F126_eq R h]
  unfold leftS at *
  by_cases hr : rightS' s = true
  · have hr' := hr
    simp only [hr, Bool.not_true, if_true] at hl ⊢
    rcases right_spec hr' with ⟨a1, a2, a3, a4⟩ | ⟨a1, a2, a3⟩
    · rw [if_pos a1, a4, wrap_u64 (by rw [a4] at hl; omega) (by rw [a4] at hl; omega)]
    · rw [if_neg (by omega), if_pos a1, a3, wrap_u64 (by rw [a3] at hl; omega) (by rw [a3] at hl; omega)]
  · simp only [Bool.not_eq_true] at hr
    simp [hr]
theorem F123_eq (R : Type) {s : Src} (h : SOK s) (k : Int → Option R) : F123 R s k = k (leftS s) := by
  have hl := left_ok h
  simp only [F123, p123]
  rw [F58_eq R h]
  unfold leftS at *
  by_cases hr : rightS' s = true
  · have hr' := hr
    simp only [hr, Bool.not_true, if_true] at hl ⊢
    rcases right_spec hr' with ⟨a1, a2, a3, a4⟩ | ⟨a1, a2, a3⟩
    · have e1 : (s.1 == 1) = true := by simp [a1]
      rw [e1, a4, wrap_u64 (by rw [a4] at hl; omega) (by rw [a4] at hl; omega)]
    · have e1 : (s.1 == 1) = false := by simp [a1]
      rw [e1, a3]
      simp only []
      rw [wrap_u64 (n := 4611686018427387904 - s.2.2.2.2.2.1) (by rw [a3] at hl; omega) (by rw [a3] at hl; omega)]
  · simp only [Bool.not_eq_true] at hr
    simp [hr]
theorem bit_range (s : Src) (n : Int) : 0 ≤ bitAt s n ∧ bitAt s n ≤ 1 := by
  unfold bitAt bitS
  split <;> omega
theorem F124_eq (R : Type) {s : Src} (h : SOK s) {n : Int} (hn : U64 n) (hk : (s.1 = 1 ∧ n < 8 * (s.2.1.length : Int)) ∨ s.1 = 2) (k : Int → Option R) : F124 R s n k = k (bitAt s n) := by
  have hl := h.len
  have hn' := hn
  unfold U64 at hn
  simp only [F124, p124]
  unfold bitAt
  rcases hk with ⟨a1, a2⟩ | a1
  · have e1 : (s.1 == 2) = false := by simp [a1]
    rw [e1, if_pos a1, Int.tdiv_eq_ediv_of_nonneg hn.1, wrap_u64 (n := n / 8) (by omega) (by omega)]
    have hb : bnd (n / 8) (s.2.1.length : Int) = true := by unfold bnd; simp; omega
    simp only [hb]
    have hu : U8 (s.2.1.getD (n / 8).toNat 0) := getD_all h.tape u8_0 _
    generalize s.2.1.getD (n / 8).toNat 0 = x at *
    unfold U8 at hu
    rw [wrap_u32 (n := x) (by omega) (by omega), Int.tmod_eq_emod_of_nonneg hn.1, wrap_i64 (n := n % 8) (by omega) (by omega), wrap_i64 (n := 7 - n % 8) (by omega) (by omega),
      F139_lit R (x := x) (by unfold U32; omega) (7 - n % 8).toNat (by omega) (by omega)]
    unfold shrS
    have hq : 0 ≤ x / 2 ^ (7 - n % 8).toNat := Int.ediv_nonneg hu.1 (Int.le_of_lt (Int.pow_pos (by decide)))
    rw [Int.tmod_eq_emod_of_nonneg hq, wrap_u64 (by omega) (by omega)]
  · have e1 : (s.1 == 2) = true := by simp [a1]
    rw [e1, if_neg (by omega)]
    simp only []
    rw [F138_eq R h.seed h.dom hn']
def RI (r : Rdr) : Prop := r.2.2.2.1 = true → r.2.1 = blockS r.1.2.2.2.1 r.1.2.2.2.2.1 r.2.2.1
theorem iand_u8_1 {x : Int} (hx : U8 x) : iand .u8 x 1 = x % 2 := by
  unfold U8 at hx
  obtain ⟨y, rfl⟩ : ∃ y : Nat, x = y := ⟨x.toNat, by omega⟩
  have e : iand .u8 (y : Int) 1 = ((BitVec.ofInt 8 (y : Int) &&& BitVec.ofInt 8 ((1 : Nat) : Int)).toNat : Int) := wrap_bv8 _
  rw [e, BitVec.ofInt_natCast, BitVec.ofInt_natCast, BitVec.toNat_and, BitVec.toNat_ofNat, BitVec.toNat_ofNat, Nat.mod_eq_of_lt (by omega), Nat.mod_eq_of_lt (by omega), show (1 : Nat) = 2 ^ 1 - 1 by rfl, Nat.and_two_pow_sub_one_eq_mod]
  simp
theorem u120_eq (R : Type) (r : Rdr) {y : Int} (hy : U8 y) (hat : 0 ≤ atS r.1 ∧ atS r.1 < 9000000000000000000) (q : List Int × (Int × (Bool × Unit))) (k : Int → Rdr → Option R) :
    u120 R r y q k = k (y / 2 ^ (7 - atS r.1 % 8).toNat % 2) (setAt r.1 (atS r.1 + 1), q) := by
  unfold atS at *
  simp only [u120]
  unfold setAt
  generalize r.1.2.2.2.2.2.1 = n at *
  rw [Int.tmod_eq_emod_of_nonneg hat.1, wrap_u64 (n := 7 - n % 8) (by omega) (by omega), wrap_u64 (n := n + 1) (by omega) (by omega)]
  obtain ⟨m, hm⟩ : ∃ m : Nat, 7 - n % 8 = m := ⟨(7 - n % 8).toNat, by omega⟩
  rw [hm, Int.toNat_natCast]
  have e8 : ishr .u8 y (m : Int) = y / 2 ^ m := by
    unfold ishr
    rw [show IntKind.u8.bits = 8 from rfl, Int.toNat_natCast, Nat.min_eq_left (by omega), Int.fdiv_eq_ediv_of_nonneg _ (by have := two_pow_pos m; omega)]
  unfold U8 at hy
  have hp : (0 : Int) < 2 ^ m := Int.pow_pos (by decide)
  have hq : 0 ≤ y / 2 ^ m ∧ y / 2 ^ m ≤ y := ⟨Int.ediv_nonneg hy.1 (by omega), Int.ediv_le_self _ hy.1⟩
  rw [e8, iand_u8_1 (by unfold U8; omega), wrap_u64 (by omega) (by omega)]
theorem F120_eq (R : Type) {r : Rdr} (h : SOK r.1) (hi : RI r) (hk : (r.1.1 = 1 ∧ atS r.1 < 8 * (r.1.2.1.length : Int)) ∨ r.1.1 = 2) (hat : atS r.1 < 9000000000000000000) (k : Int → Rdr → Option R) :
    ∃ q, RI (setAt r.1 (atS r.1 + 1), q) ∧ F120 R r k = k (bitAt r.1 (atS r.1)) (setAt r.1 (atS r.1 + 1), q) := by
  have hl := h.len
  have ha := h.at_
  have hat' : 0 ≤ atS r.1 ∧ atS r.1 < 9000000000000000000 := ⟨ha.1, hat⟩
  simp only [F120]
  show ∃ q, RI (setAt r.1 (atS r.1 + 1), q) ∧ (F137 R r (IntKind.u64.wrap (Int.tdiv (atS r.1) 8)) fun y2 p3 => match decide (0 ≤ IntKind.u64.wrap (7 - Int.tmod (atS r.1) 8)) with | true => u120 R r y2 p3.2 k | false => none) = _
  have hdc : decide (0 ≤ IntKind.u64.wrap (7 - Int.tmod (atS r.1) 8)) = true := by
    rw [wrap_u64_mod]; exact decide_eq_true (by omega)
  simp only [hdc]
  rw [Int.tdiv_eq_ediv_of_nonneg hat'.1, wrap_u64 (n := atS r.1 / 8) (by omega) (by omega)]
  simp only [F137, p137]
  generalize hn : atS r.1 = n at *
  unfold bitAt
  rcases hk with ⟨a1, a2⟩ | a1
  · have e1 : (r.1.1 == 1) = true := by simp [a1]
    have hb : bnd (n / 8) (r.1.2.1.length : Int) = true := by unfold bnd; simp; omega
    simp only [e1, hb]
    refine ⟨r.2, hi, ?_⟩
    rw [if_pos a1, u120_eq R r (getD_all h.tape u8_0 _) (by rw [hn]; exact hat'), hn]
  · have e1 : (r.1.1 == 1) = false := by simp [a1]
    simp only [e1]
    rw [if_neg (by omega), Int.tdiv_eq_ediv_of_nonneg (by omega), wrap_u64 (n := n / 8 / 32) (by omega) (by omega), Int.tmod_eq_emod_of_nonneg (by omega)]
    have hb : bnd (n / 8 % 32) 32 = true := by unfold bnd; simp; omega
    have hbit : (blockS r.1.2.2.2.1 r.1.2.2.2.2.1 (n / 8 / 32)).getD (n / 8 % 32).toNat 0 / 2 ^ (7 - n % 8).toNat % 2 = bitS r.1.2.2.2.1 r.1.2.2.2.2.1 n := by
      unfold bitS
      rw [show n / 8 / 32 = n / 256 by omega, show n / 8 % 32 = n % 256 / 8 by omega]
    have hu := fun i => getD_all (blockS_ok r.1.2.2.2.1 r.1.2.2.2.2.1 (n / 8 / 32)).2 u8_0 i
    have go : ∀ q, u120 R r ((blockS r.1.2.2.2.1 r.1.2.2.2.2.1 (n / 8 / 32)).getD (n / 8 % 32).toNat 0) q k = k (bitS r.1.2.2.2.1 r.1.2.2.2.2.1 n) (setAt r.1 (n + 1), q) := fun q => by
      rw [u120_eq R r (hu _) (by rw [hn]; exact hat'), hn, hbit]
    have fresh : (F143 R r.1.2.2.2.1 r.1.2.2.2.2.1 (n / 8 / 32) fun y5 => match bnd (n / 8 % 32) 32 with
        | true => u120 R r (y5.getD (n / 8 % 32).toNat 0) (r.1, y5, n / 8 / 32, true, r.2.2.2.2).2 k
        | false => none) = k (bitS r.1.2.2.2.1 r.1.2.2.2.2.1 n) (setAt r.1 (n + 1), (blockS r.1.2.2.2.1 r.1.2.2.2.2.1 (n / 8 / 32), n / 8 / 32, true, ())) := by
      rw [F143_eq R h.seed]
      simp only [hb]
      exact go _
    cases hs : r.2.2.2.1 with
    | false =>
      simp only [Bool.not_false]
      exact ⟨_, fun _ => rfl, fresh⟩
    | true =>
      simp only [Bool.not_true]
      by_cases hne : n / 8 / 32 = r.2.2.1
      · have e2 : (n / 8 / 32 != r.2.2.1) = false := by simp [hne]
        simp only [e2, hb]
        refine ⟨r.2, fun e => hi e, ?_⟩
        have := hi hs
        rw [← hne] at this
        rw [this]
        exact go _
      · have e2 : (n / 8 / 32 != r.2.2.1) = true := by simp [hne]
        simp only [e2]
        exact ⟨_, fun _ => rfl, fresh⟩
end Go.PG
namespace Go.PG
def takeV (s : Src) (a : Int) : Nat → Int
  | 0 => 0
  | n + 1 => 2 * takeV s a n + bitAt s (a + n)
theorem takeV_range (s : Src) (a : Int) : ∀ n : Nat, 0 ≤ takeV s a n ∧ takeV s a n < 2 ^ n
  | 0 => by simp [takeV]
  | n + 1 => by
    have ih := takeV_range s a n
    have hb := bit_range s (a + n)
    simp only [takeV]
    rw [Int.pow_succ]
    omega
theorem ior_shl1 {x b : Int} (hx : 0 ≤ x ∧ x < 9223372036854775808) (hb : 0 ≤ b ∧ b ≤ 1) : ior .u64 (ishl .u64 x 1) b = 2 * x + b := by
  obtain ⟨n, rfl⟩ : ∃ n : Nat, x = n := ⟨x.toNat, by omega⟩
  obtain ⟨c, rfl⟩ : ∃ c : Nat, b = c := ⟨b.toNat, by omega⟩
  have e2 : ishl .u64 (n : Int) 1 = ((n * 2 : Nat) : Int) := by
    unfold ishl
    rw [show (2 : Int) ^ (min (1 : Int).toNat IntKind.u64.bits) = 2 by decide, wrap_u64 (by omega) (by omega)]
    simp
  rw [e2, ior_u64, BitVec.ofInt_natCast, BitVec.ofInt_natCast, BitVec.toNat_or, BitVec.toNat_ofNat, BitVec.toNat_ofNat, Nat.mod_eq_of_lt (by omega), Nat.mod_eq_of_lt (by omega)]
  have h6 := Nat.shiftLeft_add_eq_or_of_lt (i := 1) (b := c) (by omega) n
  rw [Nat.shiftLeft_eq] at h6
  rw [show n * 2 = n * 2 ^ 1 by rfl, ← h6]
  simp; omega
theorem setAt_set (s : Src) (x y : Int) : setAt (setAt s x) y = setAt s y := rfl
theorem bitAt_set (s : Src) (x n : Int) : bitAt (setAt s x) n = bitAt s n := rfl
theorem G83_eq (R : Type) {s : Src} (h : SOK s) {K : Nat} (hK : K ≤ 64) (hk : (s.1 = 1 ∧ atS s + K ≤ 8 * (s.2.1.length : Int)) ∨ s.1 = 2) (hat : atS s + K < 9000000000000000000) (x4 : Src) (k0 : Int → Src → Rdr → Option R) :
    ∀ (m i : Nat) (r : Rdr), i ≤ K → K - i < m → r.1 = setAt s (atS s + i) → RI r → ∃ q, G83_7 m R (takeV s (atS s) i) (K : Int) (i : Int) x4 r k0 = k0 (takeV s (atS s) K) x4 (setAt s (atS s + K), q)
  | 0, i, _, _, h, _, _ => by omega
  | m + 1, i, r, h1, h2, hr, hi => by
    simp only [G83_7, p83_7]
    have h0 := h.at_
    unfold U64 at h0
    have h0' : 0 ≤ atS s := h0.1
    by_cases hlt : i < K
    · have hd : decide ((i : Int) < (K : Int)) = true := by simpa using hlt
      simp only [hd]
      have hra : atS r.1 = atS s + i := by rw [hr]; rfl
      have hlen : r.1.2.1 = s.2.1 := by rw [hr]; rfl
      have hknd : r.1.1 = s.1 := by rw [hr]; rfl
      obtain ⟨q, g1, g2⟩ := F120_eq R (r := r) (by rw [hr]; exact h.set (by unfold U64; omega)) hi (by
        rw [hra, hlen, hknd]
        rcases hk with ⟨b1, b2⟩ | b1
        · exact .inl ⟨b1, by omega⟩
        · exact .inr b1) (by rw [hra]; omega) (fun y8 p9 => G83_7 m R (ior .u64 (ishl .u64 (takeV s (atS s) i) 1) y8) (K : Int) (IntKind.i64.wrap ((i : Int) + 1)) x4 p9 k0)
      have hv := takeV_range s (atS s) i
      have hp : (2 : Int) ^ i ≤ 9223372036854775808 := by
        have : (2 : Nat) ^ i ≤ 2 ^ 63 := Nat.pow_le_pow_right (by omega) (by omega)
        have e : ((2 ^ i : Nat) : Int) = (2 : Int) ^ i := by simp
        omega
      have hbt : bitAt r.1 (atS r.1) = bitAt s (atS s + i) := by rw [hra, hr]; rfl
      obtain ⟨q2, g3⟩ := G83_eq R h hK hk hat x4 k0 m (i + 1) (setAt r.1 (atS r.1 + 1), q) (by omega) (by omega) (by
        show setAt r.1 (atS r.1 + 1) = _
        rw [hra, hr, setAt_set]
        congr 1
        omega) g1
      refine ⟨q2, ?_⟩
      rw [g2, ior_shl1 ⟨hv.1, by omega⟩ (bit_range _ _), hbt, wrap_i64 (n := (i : Int) + 1) (by omega) (by omega)]
      exact g3
    · have : i = K := by omega
      subst this
      have hd : decide ((i : Int) < (i : Int)) = false := by simp
      simp only [hd]
      refine ⟨r.2, ?_⟩
      rw [← hr]
def takeR (s : Src) (k : Int) : Int × Src × Int :=
  if rightS' s = true ∧ 0 ≤ k ∧ k ≤ 64 then (if k ≤ leftS s then (takeV s (atS s) k.toNat, setAt s (atS s + k), 0) else (0, s, 8)) else (0, s, 1)
theorem right_room {s : Src} (hs : SOK s) (hr : rightS' s = true) {k : Nat} (hk : (k : Int) ≤ leftS s) : ((s.1 = 1 ∧ atS s + k ≤ 8 * (s.2.1.length : Int)) ∨ s.1 = 2) ∧ atS s + k < 9000000000000000000 := by
  have hl := left_ok hs
  have := hl.2.2 hr
  have hln := hs.len
  unfold atS
  rcases right_spec hr with ⟨a1, a2, a3, a4⟩ | ⟨a1, a2, a3⟩
  · rw [a4] at this
    exact ⟨.inl ⟨a1, by omega⟩, by omega⟩
  · exact ⟨.inr a1, by omega⟩
theorem F83_eq (R : Type) {s : Src} (hs : SOK s) {n : Int} (k : Int → Src → Int → Option R) : F83 R s n k = k (takeR s n).1 (takeR s n).2.1 (takeR s n).2.2 := by
  simp only [F83, p83]
  rw [F95_eq R hs]
  unfold takeR
  by_cases hr : rightS' s = true
  · simp only [hr, Bool.not_true, true_and]
    by_cases h1 : n < 0
    · rw [if_neg (by omega)]
      simp only [decide_eq_true h1]
    · simp only [decide_eq_false h1]
      by_cases h2 : n > 64
      · rw [if_neg (by omega)]
        simp only [decide_eq_true h2]
      · rw [if_pos (by omega)]
        simp only [decide_eq_false h2]
        rw [wrap_u64 (n := n) (by omega) (by omega), F119_eq R hs]
        by_cases h3 : n > leftS s
        · rw [if_neg (by omega)]
          simp only [decide_eq_true h3]
        · rw [if_pos (by omega)]
          simp only [decide_eq_false h3]
          obtain ⟨m, rfl⟩ : ∃ m : Nat, n = m := ⟨n.toNat, by omega⟩
          have hroom := right_room hs hr (k := m) (by omega)
          obtain ⟨q, g⟩ := G83_eq R hs (K := m) (by omega) hroom.1 hroom.2 (0, [], 0, List.replicate 32 0, 0, 0, ()) (fun x7 x8 x9 => k x7 x9.1 0) FUEL 0 (s, List.replicate 32 0, 0, false, ()) (by omega) (by rw [FUEL_eq]; omega) (by simp only [Int.natCast_zero, Int.add_zero]; rfl) (fun e => by cases e)
          refine g.trans ?_
          rw [Int.toNat_natCast]
  · simp only [Bool.not_eq_true] at hr
    simp [hr]
theorem G86_eq (R : Type) {s : Src} (h : SOK s) {K : Nat} (hK : K ≤ 64) (hk : (s.1 = 1 ∧ atS s + K ≤ 8 * (s.2.1.length : Int)) ∨ s.1 = 2) (hat : atS s + K < 9000000000000000000) (x5 : Src) (k0 : Int → Src → Src → Option R) :
    ∀ (m i : Nat), i ≤ K → K - i < m → G86_7 m R (K : Int) (takeV s (atS s) i) (i : Int) (setAt s (atS s + i)) x5 k0 = k0 (takeV s (atS s) K) (setAt s (atS s + K)) x5
  | 0, i, _, h => by omega
  | m + 1, i, h1, h2 => by
    simp only [G86_7, p86_7]
    have h0 := h.at_
    unfold U64 at h0
    have h0' : 0 ≤ atS s := h0.1
    by_cases hlt : i < K
    · have hd : decide ((i : Int) < (K : Int)) = true := by simpa using hlt
      have ih := G86_eq R h hK hk hat x5 k0 m (i + 1) (by omega) (by omega)
      simp only [hd]
      have hsi : SOK (setAt s (atS s + i)) := h.set (by unfold U64; omega)
      show (F124 R (setAt s (atS s + i)) (atS s + i) fun y8 => G86_7 m R (K : Int) (IntKind.u64.wrap (IntKind.u64.wrap (2 * takeV s (atS s) i) + y8)) (IntKind.i64.wrap ((i : Int) + 1)) (setAt (setAt s (atS s + i)) (IntKind.u64.wrap (atS s + i + 1))) x5 k0) = _
      rw [F124_eq R hsi (by unfold U64; omega) (by
        rcases hk with ⟨b1, b2⟩ | b1
        · exact .inl ⟨b1, by
            show atS s + i < 8 * (s.2.1.length : Int)
            omega⟩
        · exact .inr b1), bitAt_set, setAt_set]
      have hv := takeV_range s (atS s) i
      have hp : (2 : Int) ^ i ≤ 9223372036854775808 := by
        have : (2 : Nat) ^ i ≤ 2 ^ 63 := Nat.pow_le_pow_right (by omega) (by omega)
        have e : ((2 ^ i : Nat) : Int) = (2 : Int) ^ i := by simp
        omega
      have hb := bit_range s (atS s + i)
      rw [wrap_u64 (n := 2 * takeV s (atS s) i) (by omega) (by omega), wrap_u64 (n := 2 * takeV s (atS s) i + bitAt s (atS s + i)) (by omega) (by omega), wrap_i64 (n := (i : Int) + 1) (by omega) (by omega), wrap_u64 (n := atS s + i + 1) (by omega) (by omega), show atS s + (i : Int) + 1 = atS s + ((i + 1 : Nat) : Int) by omega]
      exact ih
    · have : i = K := by omega
      subst this
      have hd : decide ((i : Int) < (i : Int)) = false := by simp
      simp only [hd]
theorem F86_eq (R : Type) {s : Src} (hs : SOK s) {n : Int} (k : Int → Src → Int → Option R) : F86 R s n k = k (takeR s n).1 (takeR s n).2.1 (takeR s n).2.2 := by
  simp only [F86, p86]
  rw [F58_eq R hs]
  unfold takeR
  by_cases hr : rightS' s = true
  · simp only [hr, Bool.not_true, true_and]
    by_cases h1 : n < 0
    · rw [if_neg (by omega)]
      simp only [decide_eq_true h1]
    · simp only [decide_eq_false h1]
      by_cases h2 : n > 64
      · rw [if_neg (by omega)]
        simp only [decide_eq_true h2]
      · rw [if_pos (by omega)]
        simp only [decide_eq_false h2]
        rw [wrap_u64 (n := n) (by omega) (by omega), F123_eq R hs]
        by_cases h3 : n > leftS s
        · rw [if_neg (by omega)]
          simp only [decide_eq_true h3]
        · rw [if_pos (by omega)]
          simp only [decide_eq_false h3]
          obtain ⟨m, rfl⟩ : ∃ m : Nat, n = m := ⟨n.toNat, by omega⟩
          have hroom := right_room hs hr (k := m) (by omega)
          have g := G86_eq R hs (K := m) (by omega) hroom.1 hroom.2 (0, [], 0, List.replicate 32 0, 0, 0, ()) (fun x7 x8 x9 => k x7 x8 0) FUEL 0 (by omega) (by rw [FUEL_eq]; omega)
          have e0 : setAt s (atS s + ((0 : Nat) : Int)) = s := by rw [Int.natCast_zero, Int.add_zero]; rfl
          rw [e0] at g
          refine Eq.trans ?_ (g.trans ?_)
          · rfl
          · rw [Int.toNat_natCast]
  · simp only [Bool.not_eq_true] at hr
    simp [hr]
end Go.PG
namespace Go.PG
def sameS (a b : Src) : Bool := a.1 == b.1 && ((strOf a.2.1).toList == (strOf b.2.1).toList && (a.2.2.1 == b.2.2.1 && (Kd.eqv (.arr 32 (.int .u8)) a.2.2.2.1 b.2.2.2.1 && (a.2.2.2.2.1 == b.2.2.2.2.1 && a.2.2.2.2.2.1 == b.2.2.2.2.2.1))))
theorem sameS_self (a : Src) : sameS a a = true := by simp [sameS, eqv32]
theorem F14_eq (R : Type) (a b : Src) (k : Bool → Option R) : F14 R a b k = k (sameS a b) := by
  simp only [F14, p14, sameS]
  generalize (a.1 == b.1) = b1
  generalize ((strOf a.2.1).toList == (strOf b.2.1).toList) = b2
  generalize (a.2.2.1 == b.2.2.1) = b3
  generalize Kd.eqv (.arr 32 (.int .u8)) a.2.2.2.1 b.2.2.2.1 = b4
  generalize (a.2.2.2.2.1 == b.2.2.2.2.1) = b5
  cases b1 <;> cases b2 <;> cases b3 <;> cases b4 <;> cases b5 <;> rfl
structure SFit (s : Src) : Prop where
  tape : AllU8 s.2.1
  bits : U64 s.2.2.1
  seed : H32 s.2.2.2.1
  dom : U64 s.2.2.2.2.1
  at_ : U64 s.2.2.2.2.2.1
theorem SFit.ok {s : Src} (h : SFit s) (hl : s.2.1.length ≤ 1000000) : SOK s := ⟨h.tape, hl, h.bits, h.seed, h.dom, h.at_⟩
theorem fit_src {s : Src} (h : Fit (.pair (.int .i64) (.pair (.sl (.int .u8)) (.pair (.int .u64) (.pair (.arr 32 (.int .u8)) (.pair (.int .u64) (.pair (.int .u64) .unit)))))) s) : SFit s := by
  obtain ⟨_, ⟨_, h2⟩, h3, h4, h5, h6, _⟩ := h
  refine ⟨fun y hy => ?_, ?_, fit_h32 h4, ?_, ?_⟩
  · have := fit_u8 (h2 y hy); unfold U8; omega
  · have := fit_u64 h3; unfold U64; omega
  · have := fit_u64 h5; unfold U64; omega
  · have := fit_u64 h6; unfold U64; omega
def zeroSrc : Src := (0, [], 0, List.replicate 32 0, 0, 0, ())
def tapeSrc (b : List Int) (n : Int) : Src := (1, b, n, List.replicate 32 0, 0, 0, ())
theorem tapeSrc_ok {b : List Int} (hb : AllU8 b) (hl : b.length ≤ 1000000) {n : Int} (hn : U64 n) : SOK (tapeSrc b n) := ⟨hb, hl, hn, zero32_ok, by unfold U64 tapeSrc; simp, by unfold U64 tapeSrc; simp⟩
def tapeR (b : List Int) (n : Int) : Src × Int := if n ≤ 8 * (b.length : Int) then (tapeSrc b n, 0) else (zeroSrc, 1)
theorem F39_eq (R : Type) {b : List Int} (hl : b.length ≤ 1000000) (n : Int) (k : Src → Int → Option R) : F39 R b n k = k (tapeR b n).1 (tapeR b n).2 := by
  simp only [F39, p39]
  have hc : decide (List.length ([] : List Int) + b.length ≤ 140737488355328) = true := by simp; omega
  simp only [hc, List.nil_append]
  rw [wrap_u64 (n := (b.length : Int)) (by omega) (by omega), wrap_u64 (n := 8 * (b.length : Int)) (by omega) (by omega)]
  unfold tapeR
  by_cases h : n ≤ 8 * (b.length : Int)
  · have h' : ¬ n > 8 * (b.length : Int) := by omega
    rw [if_pos h]
    simp only [decide_eq_false h']
    rfl
  · have h' : n > 8 * (b.length : Int) := by omega
    rw [if_neg h]
    simp only [decide_eq_true h']
    rfl
theorem takeR_ok {s : Src} {n : Nat} (hr : rightS' s = true) (h1 : n ≤ 64) (h2 : (n : Int) ≤ leftS s) : takeR s n = (takeV s (atS s) n, setAt s (atS s + n), 0) := by
  unfold takeR
  rw [if_pos ⟨hr, by omega, by omega⟩, if_pos h2, Int.toNat_natCast]
end Go.PG
namespace Go.PG
def blenF : Nat → Nat → Nat
  | 0, _ => 0
  | f + 1, x => if x = 0 then 0 else blenF f (x / 2) + 1
theorem G121_eq (R : Type) (k0 : Int → Option R) : ∀ (f m x c : Nat), x < 2 ^ f → f ≤ 64 → f < m → c + f ≤ 1000 → G121_1 m R (x : Int) (c : Int) k0 = k0 ((c + blenF f x : Nat) : Int)
  | _, 0, _, _, _, _, h, _ => by omega
  | 0, m + 1, x, c, h, _, _, _ => by
    simp at h; subst h
    simp only [G121_1, p121_1, blenF]
    rfl
  | f + 1, m + 1, x, c, h, hf, hm, hc => by
    simp only [G121_1, p121_1, blenF]
    rw [Nat.pow_succ] at h
    by_cases h0 : x = 0
    · subst h0
      simp
    · have e : ((x : Int) != 0) = true := by simp [h0]
      have e2 : ishr .u64 (x : Int) 1 = ((x / 2 : Nat) : Int) := by
        have := shr64 (x := (x : Int)) 1 (by omega)
        refine this.trans ?_
        omega
      simp only [e, if_neg h0]
      have ih := G121_eq R k0 f m (x / 2) (c + 1) (by omega) (by omega) (by omega) (by omega)
      rw [wrap_i64 (n := (c : Int) + 1) (by omega) (by omega), e2, show c + (blenF f (x / 2) + 1) = c + 1 + blenF f (x / 2) by omega]
      exact ih
theorem G108_eq (R : Type) (k0 : Int → Option R) : ∀ (f m x c : Nat), x < 2 ^ f → f ≤ 64 → f < m → c + f ≤ 1000 → G108_2 m R (x : Int) (c : Int) k0 = k0 ((c + blenF f x : Nat) : Int)
  | _, 0, _, _, _, _, h, _ => by omega
  | 0, m + 1, x, c, h, _, _, _ => by
    simp at h; subst h
    simp only [G108_2, p108_2, blenF]
    rfl
  | f + 1, m + 1, x, c, h, hf, hm, hc => by
    simp only [G108_2, p108_2, blenF]
    have hx64 : x < 2 ^ 64 := Nat.lt_of_lt_of_le h (Nat.pow_le_pow_right (by omega) hf)
    rw [Nat.pow_succ] at h
    by_cases h0 : x = 0
    · subst h0
      simp
    · have e : decide ((x : Int) > 0) = true := decide_eq_true (by omega)
      have e2 : IntKind.u64.wrap (Int.tdiv (x : Int) 2) = ((x / 2 : Nat) : Int) := by
        rw [Int.tdiv_eq_ediv_of_nonneg (by omega), wrap_u64 (by omega) (by omega)]
        omega
      simp only [e, if_neg h0, e2]
      have ih := G108_eq R k0 f m (x / 2) (c + 1) (by omega) (by omega) (by omega) (by omega)
      rw [wrap_i64 (n := (c : Int) + 1) (by omega) (by omega), show c + (blenF f (x / 2) + 1) = c + 1 + blenF f (x / 2) by omega]
      exact ih
def needS (n : Int) : Nat := blenF 64 (n - 1).toNat
theorem F84_eq (R : Type) {n : Int} (hn : U64 n) (k : Int → Option R) : F84 R n k = k (needS n : Int) := by
  have hn' := hn
  unfold U64 at hn
  simp only [F84, p84, F121, p121]
  have e : IntKind.u64.wrap ((if (1 : Int) > n then (1 : Int) else n) - 1) = ((n - 1).toNat : Int) := by
    split
    · rw [wrap_u64 (by omega) (by omega)]; omega
    · rw [wrap_u64 (by omega) (by omega)]; omega
  rw [e]
  have := G121_eq R (fun x1 => k x1) 64 FUEL (n - 1).toNat 0 (by omega) (by omega) (by rw [FUEL_eq]; omega) (by omega)
  rw [Nat.zero_add] at this
  exact this
theorem F67_eq (R : Type) {n : Int} (hn : U64 n) (k : Int → Option R) : F67 R n k = k (needS n : Int) := by
  have hn' := hn
  unfold U64 at hn
  simp only [F67, p67, F108, p108]
  by_cases h0 : n = 0
  · subst h0; rfl
  · have e0 : (n == 0) = false := by simp [h0]
    simp only [e0]
    have e : IntKind.u64.wrap (n - 1) = ((n - 1).toNat : Int) := by
      rw [wrap_u64 (by omega) (by omega)]; omega
    rw [e]
    have := G108_eq R (fun x1 => k x1) 64 FUEL (n - 1).toNat 0 (by omega) (by omega) (by rw [FUEL_eq]; omega) (by omega)
    rw [Nat.zero_add] at this
    exact this
def drawF (n : Int) : Nat → Src → Int × Src × Int
  | 0, s => (0, s, 9)
  | m + 1, s => if (takeR s (needS n)).2.2 = 0 then (if (takeR s (needS n)).1 < n then ((takeR s (needS n)).1, (takeR s (needS n)).2.1, 0) else drawF n m (takeR s (needS n)).2.1) else (0, s, (takeR s (needS n)).2.2)
theorem takeR_ok1 {s : Src} (hs : SOK s) (k : Int) : SOK (takeR s k).2.1 := by
  unfold takeR
  split
  · rename_i h
    split
    · rename_i h2
      have hl := left_ok hs
      have h0 : 0 ≤ atS s := hs.at_.1
      have := right_room hs h.1 (k := k.toNat) (by omega)
      refine hs.set ?_
      unfold U64
      omega
    · exact hs
  · exact hs
theorem takeR_zero {s : Src} {k : Nat} (h : (takeR s k).2.2 = 0) : rightS' s = true ∧ k ≤ 64 ∧ (k : Int) ≤ leftS s ∧ takeR s k = (takeV s (atS s) k, setAt s (atS s + k), 0) := by
  unfold takeR at h
  split at h
  · rename_i h1
    split at h
    · rename_i h2
      exact ⟨h1.1, by omega, h2, takeR_ok h1.1 (by omega) h2⟩
    · simp at h
  · simp at h
theorem G42_eq (R : Type) {n : Int} (hn : U64 n) (a : Nat) (ha : a ≤ 64) (x5 : Src) (k0 : Int → Int → Src → Option R) (k1 : Src → Src → Option R) :
    ∀ (m i : Nat) (s : Src), i ≤ a → a - i < m → SOK s → (∀ y : Src, k1 y x5 = k0 0 9 y) → G42_4 m R n (a : Int) (i : Int) s x5 k0 k1 = k0 (drawF n (a - i) s).1 (drawF n (a - i) s).2.2 (drawF n (a - i) s).2.1
  | 0, i, _, _, h, _, _ => by omega
  | m + 1, i, s, h1, h2, hs, hk => by
    simp only [G42_4, p42_4]
    by_cases hi : i < a
    · have hd : decide ((i : Int) < (a : Int)) = true := by simpa using hi
      simp only [hd]
      rw [F84_eq R hn, F83_eq R hs, show a - i = (a - (i + 1)) + 1 by omega]
      simp only [drawF]
      have ih := G42_eq R hn a ha x5 k0 k1 m (i + 1) (takeR s (needS n)).2.1 (by omega) (by omega) (takeR_ok1 hs _) hk
      generalize takeR s (needS n) = t at *
      by_cases he : t.2.2 = 0
      · have e1 : (t.2.2 != 0) = false := by simp [he]
        simp only [e1, if_pos he]
        by_cases hx : t.1 < n
        · simp only [decide_eq_true hx, if_pos hx]
        · simp only [decide_eq_false hx, if_neg hx]
          rw [wrap_i64 (n := (i : Int) + 1) (by omega) (by omega)]
          exact ih
      · have e1 : (t.2.2 != 0) = true := by simp [he]
        simp only [e1, if_neg he]
    · have : i = a := by omega
      subst this
      have hd : decide ((i : Int) < (i : Int)) = false := by simp
      simp only [hd, Nat.sub_self, drawF]
      exact hk s
theorem G46_eq (R : Type) {n : Int} (hn : U64 n) (a : Nat) (ha : a ≤ 64) (x5 : Src) (k0 : Int → Int → Src → Option R) (k1 : Src → Src → Option R) :
    ∀ (m i : Nat) (s : Src), i ≤ a → a - i < m → SOK s → (∀ y : Src, k1 y x5 = k0 0 9 y) → G46_4 m R n (a : Int) (i : Int) s x5 k0 k1 = k0 (drawF n (a - i) s).1 (drawF n (a - i) s).2.2 (drawF n (a - i) s).2.1
  | 0, i, _, _, h, _, _ => by omega
  | m + 1, i, s, h1, h2, hs, hk => by
    simp only [G46_4, p46_4]
    by_cases hi : i < a
    · have hd : decide ((i : Int) < (a : Int)) = true := by simpa using hi
      simp only [hd]
      rw [F67_eq R hn, F86_eq R hs, show a - i = (a - (i + 1)) + 1 by omega]
      simp only [drawF]
      have ih := G46_eq R hn a ha x5 k0 k1 m (i + 1) (takeR s (needS n)).2.1 (by omega) (by omega) (takeR_ok1 hs _) hk
      generalize takeR s (needS n) = t at *
      by_cases he : t.2.2 = 0
      · have e1 : (t.2.2 != 0) = false := by simp [he]
        simp only [e1, if_pos he]
        by_cases hx : t.1 < n
        · simp only [decide_eq_true hx, if_pos hx]
        · simp only [decide_eq_false hx, if_neg hx]
          rw [wrap_i64 (n := (i : Int) + 1) (by omega) (by omega)]
          exact ih
      · have e1 : (t.2.2 != 0) = true := by simp [he]
        simp only [e1, if_neg he]
    · have : i = a := by omega
      subst this
      have hd : decide ((i : Int) < (i : Int)) = false := by simp
      simp only [hd, Nat.sub_self, drawF]
      exact hk s
def drawR (s : Src) (n m : Int) : Int × Src × Int := if rightS' s = true ∧ 0 < n ∧ n < 9223372036854775808 ∧ 0 < m ∧ m ≤ 64 then drawF n m.toNat s else (0, s, 1)
theorem F42_eq (R : Type) {s : Src} (hs : SOK s) {n : Int} (hn : U64 n) (m : Int) (k : Int → Src → Int → Option R) : F42 R s n m k = k (drawR s n m).1 (drawR s n m).2.1 (drawR s n m).2.2 := by
  simp only [F42, p42, F82, p82]
  rw [F95_eq R hs]
  unfold drawR
  by_cases hr : rightS' s = true
  · simp only [hr, true_and]
    by_cases h1 : n > 0
    · simp only [decide_eq_true h1]
      by_cases h2 : n < 9223372036854775808
      · simp only [decide_eq_true h2]
        by_cases h3 : m > 0
        · simp only [decide_eq_true h3]
          by_cases h4 : m ≤ 64
          · simp only [decide_eq_true h4, Bool.not_true]
            rw [if_pos ⟨h1, h2, h3, h4⟩]
            obtain ⟨a, rfl⟩ : ∃ a : Nat, m = a := ⟨m.toNat, by omega⟩
            rw [Int.toNat_natCast]
            exact G42_eq R hn a (by omega) (0, [], 0, List.replicate 32 0, 0, 0, ()) (fun x2 x3 x4 => k x2 x4 x3) (fun x5 x6 => k 0 x5 9) FUEL 0 s (by omega) (by rw [FUEL_eq]; omega) hs (fun y => rfl)
          · rw [if_neg (fun h => h4 h.2.2.2)]
            simp only [decide_eq_false h4, Bool.not_false]
        · rw [if_neg (fun h => h3 h.2.2.1)]
          simp only [decide_eq_false h3, Bool.not_false]
      · rw [if_neg (fun h => h2 h.2.1)]
        simp only [decide_eq_false h2, Bool.not_false]
    · rw [if_neg (fun h => h1 h.1)]
      simp only [decide_eq_false h1, Bool.not_false]
  · simp only [Bool.not_eq_true] at hr
    simp [hr]
theorem F46_eq (R : Type) {s : Src} (hs : SOK s) {n : Int} (hn : U64 n) (m : Int) (k : Int → Src → Int → Option R) : F46 R s n m k = k (drawR s n m).1 (drawR s n m).2.1 (drawR s n m).2.2 := by
  simp only [F46, p46]
  rw [F58_eq R hs]
  unfold drawR
  by_cases hr : rightS' s = true
  · simp only [hr, true_and, Bool.not_true]
    by_cases h1 : n < 1
    · rw [if_neg (by omega)]
      simp only [decide_eq_true h1]
    · simp only [decide_eq_false h1]
      by_cases h2 : n ≥ 9223372036854775808
      · rw [if_neg (by omega)]
        simp only [decide_eq_true h2]
      · simp only [decide_eq_false h2]
        by_cases h3 : m < 1
        · rw [if_neg (by omega)]
          simp only [decide_eq_true h3]
        · simp only [decide_eq_false h3]
          by_cases h4 : m > 64
          · rw [if_neg (by omega)]
            simp only [decide_eq_true h4]
          · rw [if_pos (by omega)]
            simp only [decide_eq_false h4]
            obtain ⟨a, rfl⟩ : ∃ a : Nat, m = a := ⟨m.toNat, by omega⟩
            rw [Int.toNat_natCast]
            exact G46_eq R hn a (by omega) (0, [], 0, List.replicate 32 0, 0, 0, ()) (fun x2 x3 x4 => k x2 x4 x3) (fun x5 x6 => k 0 x5 9) FUEL 0 s (by omega) (by rw [FUEL_eq]; omega) hs (fun y => rfl)
  · simp only [Bool.not_eq_true] at hr
    simp [hr]
end Go.PG
namespace Go.PG
theorem drawF_ok {n : Int} : ∀ (m : Nat) (s : Src), (drawF n m s).2.2 = 0 → ∃ j, 1 ≤ j ∧ j ≤ m ∧ (drawF n m s).1 < n ∧ (drawF n m s).2.1 = setAt s (atS s + needS n * j) ∧ (needS n * j : Int) ≤ leftS s ∧ ∀ i < j, drawF n i s = (0, setAt s (atS s + needS n * i), 9)
  | 0, s, h => by simp [drawF] at h
  | m + 1, s, h => by
    simp only [drawF] at h ⊢
    split at h
    · rename_i h1
      obtain ⟨g1, g2, g3, g4⟩ := takeR_zero h1
      rw [if_pos h1]
      split at h
      · rename_i h2
        rw [if_pos h2]
        refine ⟨1, by omega, by omega, h2, ?_, by omega, fun i hi => ?_⟩
        · rw [g4]
          show setAt s (atS s + needS n) = setAt s (atS s + needS n * ((1 : Nat) : Int))
          rw [Int.natCast_one, Int.mul_one]
        · have : i = 0 := by omega
          subst this
          simp only [drawF, Int.natCast_zero, Int.mul_zero, Int.add_zero]
          rfl
      · rename_i h2
        rw [if_neg h2]
        have hmul : ∀ i : Nat, ((needS n : Nat) : Int) * ((i + 1 : Nat) : Int) = needS n + needS n * i := fun i => by
          rw [show ((i + 1 : Nat) : Int) = (i : Int) + 1 by omega, Int.mul_add, Int.mul_one, Int.add_comm]
        obtain ⟨j, j1, j2, j3, j4, j5, j6⟩ := drawF_ok m _ h
        refine ⟨j + 1, by omega, by omega, j3, ?_, ?_, fun i hi => ?_⟩
        · rw [j4, g4]
          show setAt (setAt s (atS s + needS n)) (atS s + needS n + needS n * j) = _
          rw [setAt_set, hmul, Int.add_assoc]
        · rw [g4] at j5
          have hle : leftS (setAt s (atS s + needS n)) ≤ leftS s - needS n := by
            unfold leftS at g3 ⊢
            rw [if_pos g1] at g3 ⊢
            split
            · show endS s - (atS s + needS n) ≤ endS s - atS s - needS n
              omega
            · show 0 ≤ endS s - atS s - needS n
              have : endS s - s.2.2.2.2.2.1 = endS s - atS s := rfl
              omega
          rw [hmul]
          have j5' : (needS n : Int) * j ≤ leftS (setAt s (atS s + needS n)) := j5
          omega
        · cases i with
          | zero =>
            simp only [drawF, Int.natCast_zero, Int.mul_zero, Int.add_zero]
            rfl
          | succ i =>
            have := j6 i (by omega)
            simp only [drawF]
            rw [if_pos h1, if_neg h2, this, g4]
            show (0, setAt (setAt s (atS s + needS n)) (atS s + needS n + needS n * i), 9) = _
            rw [setAt_set, hmul, Int.add_assoc]
    · rename_i h1
      exact absurd h h1
end Go.PG
namespace Go.PG
end Go.PG
namespace Go.PG
end Go.PG
namespace Go.PG
end Go.PG
namespace Go.PG
def sumS (l : List Int) (n : Nat) : Int := (l.take n).sum
theorem sumS_zero (l : List Int) : sumS l 0 = 0 := rfl
theorem sumS_succ {l : List Int} {i : Nat} (h : i < l.length) : sumS l (i + 1) = sumS l i + l.getD i 0 := by
  unfold sumS
  have et : l.take (i + 1) = l.take i ++ [l[i]] := by rw [List.take_succ_eq_append_getElem h]
  rw [et, List.sum_append]
  simp [h]
def AllU64 (l : List Int) : Prop := ∀ x ∈ l, U64 x
theorem u64_0 : U64 0 := by unfold U64; omega
theorem sumS_mono {l : List Int} (h : AllU64 l) {a : Nat} : ∀ d : Nat, sumS l a ≤ sumS l (a + d)
  | 0 => Int.le_refl _
  | d + 1 => by
    have ih := sumS_mono h (a := a) d
    by_cases hd : a + d < l.length
    · have := (getD_all h u64_0 (a + d)).1
      rw [← Nat.add_assoc, sumS_succ hd]
      omega
    · have e : sumS l (a + (d + 1)) = sumS l (a + d) := by
        unfold sumS
        rw [List.take_of_length_le (by omega), List.take_of_length_le (by omega)]
      rw [e]; exact ih
theorem sumS_le {l : List Int} (h : AllU64 l) {a b : Nat} (hab : a ≤ b) : sumS l a ≤ sumS l b := by
  have := sumS_mono h (a := a) (b - a)
  rwa [show a + (b - a) = b by omega] at this
theorem sumS_nonneg {l : List Int} (h : AllU64 l) (n : Nat) : 0 ≤ sumS l n := by
  have := sumS_le h (Nat.zero_le n)
  rwa [sumS_zero] at this
def totS (l : List Int) : Int := sumS l l.length
theorem sumS_tot {l : List Int} (h : AllU64 l) (n : Nat) : sumS l n ≤ totS l := by
  by_cases hn : n ≤ l.length
  · exact sumS_le h hn
  · unfold totS sumS
    rw [List.take_of_length_le (by omega), List.take_length]
    exact Int.le_refl _
end Go.PG
namespace Go.PG
theorem F99_eq (R : Type) {a b : Int} (ha : 0 ≤ a ∧ a < 9223372036854775808) (hb : U64 b) (k : Int → Bool → Option R) : F99 R a b k = (if a + b < 9223372036854775808 then k (a + b) true else k 0 false) := by
  unfold U64 at hb
  simp only [F99, p99, F129, F117, p117, F136, p136]
  have hd : decide (0 ≤ a ∧ 0 ≤ b ∧ (0 : Int) ≤ 0 ∧ (0 : Int) ≤ 1) = true := decide_eq_true (by omega)
  simp only [hd, Int.add_zero]
  by_cases h1 : a + b < 9223372036854775808
  · have e1 : (a + b) / 18446744073709551616 = 0 := by omega
    have e2 : (a + b) % 18446744073709551616 = a + b := by omega
    rw [if_pos h1, e1, e2]
    have n0 : ((0 : Int) != 0) = false := rfl
    simp only [n0, decide_eq_true h1, Bool.not_true]
  · rw [if_neg h1]
    by_cases h2 : a + b < 18446744073709551616
    · have e1 : (a + b) / 18446744073709551616 = 0 := by omega
      have e2 : (a + b) % 18446744073709551616 = a + b := by omega
      rw [e1, e2]
      have n0 : ((0 : Int) != 0) = false := rfl
      simp only [n0, decide_eq_false h1, Bool.not_false]
    · have e1 : ((a + b) / 18446744073709551616 != 0) = true := by
        have : ¬ (a + b) / 18446744073709551616 = 0 := by omega
        simp [this]
      simp only [e1]
theorem F94_eq (R : Type) {a b : Int} (ha : 0 ≤ a ∧ a < 9223372036854775808) (hb : U64 b) (k : Int → Bool → Option R) : F94 R a b k = (if a + b < 9223372036854775808 then k (a + b) true else k 0 false) := by
  unfold U64 at hb
  simp only [F94, p94]
  have hd : decide (a ≥ 9223372036854775808) = false := decide_eq_false (by omega)
  simp only [hd]
  rw [wrap_u64 (n := 9223372036854775808 - a) (by omega) (by omega)]
  by_cases h1 : a + b < 9223372036854775808
  · have hd2 : decide (b ≥ 9223372036854775808 - a) = false := decide_eq_false (by omega)
    rw [if_pos h1]
    simp only [hd2]
    rw [wrap_u64 (n := a + b) (by omega) (by omega)]
  · have hd2 : decide (b ≥ 9223372036854775808 - a) = true := decide_eq_true (by omega)
    rw [if_neg h1]
    simp only [hd2]
theorem G91_eq (R : Type) {l : List Int} (h : AllU64 l) (hlen : l.length ≤ 1000000) (k0 : Int → Bool → Option R) (k1 : Int → Option R) : ∀ (m i : Nat), i ≤ l.length → l.length - i < m → sumS l i < 9223372036854775808 →
    G91_2 m R (sumS l i) l (l.length : Int) (i : Int) k0 k1 = (if totS l < 9223372036854775808 then k1 (totS l) else k0 0 false)
  | 0, i, _, h, _ => by omega
  | m + 1, i, h1, h2, h3 => by
    simp only [G91_2, p91_2]
    by_cases hi : i < l.length
    · have hd : decide ((i : Int) < (l.length : Int)) = true := by simpa using hi
      have hbn : bnd (i : Int) (l.length : Int) = true := by unfold bnd; simp; omega
      simp only [hd, hbn, Int.toNat_natCast]
      rw [F99_eq R ⟨sumS_nonneg h i, h3⟩ (getD_all h u64_0 i), ← sumS_succ hi]
      by_cases h4 : sumS l (i + 1) < 9223372036854775808
      · rw [if_pos h4]
        simp only [Bool.not_true]
        rw [wrap_i64 (n := (i : Int) + 1) (by omega) (by omega)]
        exact G91_eq R h hlen k0 k1 m (i + 1) (by omega) (by omega) h4
      · rw [if_neg h4, if_neg (by have := sumS_tot h (i + 1); omega)]
        simp only [Bool.not_false]
    · have : i = l.length := by omega
      subst this
      have hd : decide ((l.length : Int) < (l.length : Int)) = false := by simp
      simp only [hd]
      rw [if_pos (show totS l < _ from h3)]
      rfl
theorem F91_eq (R : Type) {l : List Int} (h : AllU64 l) (hlen : l.length ≤ 1000000) (k : Int → Bool → Option R) : F91 R l k = (if totS l < 9223372036854775808 then k (totS l) true else k 0 false) := by
  simp only [F91, p91]
  exact G91_eq R h hlen (fun x2 x3 => k x2 x3) (fun x4 => k x4 true) FUEL 0 (by omega) (by rw [FUEL_eq]; omega) (by rw [sumS_zero]; decide)
theorem G52_eq' (R : Type) {l : List Int} (h : AllU64 l) (hlen : l.length ≤ 1000000) (k0 : Int → Bool → Option R) (k1 : Int → Option R) : ∀ (m i : Nat), i ≤ l.length → l.length - i < m → sumS l i < 9223372036854775808 →
    G52_3 m R l (sumS l i) (i : Int) k0 k1 = (if totS l < 9223372036854775808 then k1 (totS l) else k0 0 false)
  | 0, i, _, h, _ => by omega
  | m + 1, i, h1, h2, h3 => by
    simp only [G52_3, p52_3]
    by_cases hi : i < l.length
    · have hd : decide ((i : Int) < (l.length : Int)) = true := by simpa using hi
      have hbn : bnd (i : Int) (l.length : Int) = true := by unfold bnd; simp; omega
      simp only [hd, hbn, Int.toNat_natCast]
      rw [F94_eq R ⟨sumS_nonneg h i, h3⟩ (getD_all h u64_0 i), ← sumS_succ hi]
      by_cases h4 : sumS l (i + 1) < 9223372036854775808
      · rw [if_pos h4]
        simp only [Bool.not_true]
        rw [wrap_i64 (n := (i : Int) + 1) (by omega) (by omega)]
        exact G52_eq' R h hlen k0 k1 m (i + 1) (by omega) (by omega) h4
      · rw [if_neg h4, if_neg (by have := sumS_tot h (i + 1); omega)]
        simp only [Bool.not_false]
    · have : i = l.length := by omega
      subst this
      have hd : decide ((l.length : Int) < (l.length : Int)) = false := by simp
      simp only [hd]
      rw [if_pos (show totS l < _ from h3)]
      rfl
theorem F52_eq' (R : Type) {l : List Int} (h : AllU64 l) (hlen : l.length ≤ 1000000) (k : Int → Bool → Option R) : F52 R l k = (if totS l < 9223372036854775808 then k (totS l) true else k 0 false) := by
  simp only [F52, p52]
  exact G52_eq' R h hlen (fun x2 x3 => k x2 x3) (fun x4 => k x4 true) FUEL 0 (by omega) (by rw [FUEL_eq]; omega) (by rw [sumS_zero]; decide)
end Go.PG
namespace Go.PG
theorem drawF_nonneg {n : Int} : ∀ (m : Nat) (s : Src), 0 ≤ (drawF n m s).1
  | 0, s => Int.le_refl _
  | m + 1, s => by
    simp only [drawF]
    split
    · split
      · rename_i h _
        obtain ⟨_, _, _, g⟩ := takeR_zero h
        rw [g]
        exact (takeV_range s (atS s) _).1
      · exact drawF_nonneg m _
    · exact Int.le_refl _
theorem draw_below {s : Src} {n m : Int} (h : (drawR s n m).2.2 = 0) : 0 ≤ (drawR s n m).1 ∧ (drawR s n m).1 < n := by
  unfold drawR at h ⊢
  split at h
  · rename_i hc
    rw [if_pos hc]
    obtain ⟨j, _, _, h3, _⟩ := drawF_ok _ _ h
    exact ⟨drawF_nonneg _ _, h3⟩
  · simp at h
theorem F15_eq' (R : Type) (l : List Int) (s : Src) (k : Bool → Option R) : F15 R l s k = k (decide ((l.length : Int) > 200 ∨ (s.2.1.length : Int) > 500)) := by
  simp only [F15, p15]
  by_cases h1 : (l.length : Int) > 200
  · simp [h1]
  · simp [h1]
end Go.PG
namespace Go.PG
end Go.PG
namespace Go.PG
end Go.PG
namespace Go.PG
theorem and32 {x : Int} (hx : U64 x) : iand .u64 x 4294967295 = x % 4294967296 := by
  have := iand_mask hx 32 (by omega)
  simpa using this
theorem shr32 (x : Int) : ishr .u64 x 32 = x / 4294967296 := by
  unfold ishr
  rw [show (2 : Int) ^ (min (32 : Int).toNat IntKind.u64.bits) = 4294967296 by decide, Int.fdiv_eq_ediv_of_nonneg _ (by omega)]
theorem prod32 {a b : Int} (ha : 0 ≤ a ∧ a < 4294967296) (hb : 0 ≤ b ∧ b < 4294967296) : 0 ≤ a * b ∧ a * b ≤ 18446744065119617025 := by
  refine ⟨Int.mul_nonneg ha.1 hb.1, ?_⟩
  have : a * b ≤ 4294967295 * 4294967295 := Int.mul_le_mul (by omega) (by omega) hb.1 (by omega)
  omega
theorem F116_eq (R : Type) {a b : Int} (ha : U64 a) (hb : U64 b) (k : Int → Int → Option R) : F116 R a b k = k (a * b / 18446744073709551616) (IntKind.u64.wrap (a * b)) := by
  simp only [F116, p116]
  simp only [shr32]
  rw [and32 ha, and32 hb]
  unfold U64 at ha hb
  have hx0 : 0 ≤ a % 4294967296 ∧ a % 4294967296 < 4294967296 := by omega
  have hx1 : 0 ≤ a / 4294967296 ∧ a / 4294967296 < 4294967296 := by omega
  have hy0 : 0 ≤ b % 4294967296 ∧ b % 4294967296 < 4294967296 := by omega
  have hy1 : 0 ≤ b / 4294967296 ∧ b / 4294967296 < 4294967296 := by omega
  have h00 := prod32 hx0 hy0
  have h10 := prod32 hx1 hy0
  have h01 := prod32 hx0 hy1
  have h11 := prod32 hx1 hy1
  have hab : a * b = (a / 4294967296) * (b / 4294967296) * 18446744073709551616 + ((a / 4294967296) * (b % 4294967296) + (a % 4294967296) * (b / 4294967296)) * 4294967296 + (a % 4294967296) * (b % 4294967296) := by
    have e1 : a = a % 4294967296 + 4294967296 * (a / 4294967296) := (Int.emod_add_mul_ediv a 4294967296).symm
    have e2 : b = b % 4294967296 + 4294967296 * (b / 4294967296) := (Int.emod_add_mul_ediv b 4294967296).symm
    generalize a % 4294967296 = x0 at *
    generalize a / 4294967296 = x1 at *
    generalize b % 4294967296 = y0 at *
    generalize b / 4294967296 = y1 at *
    subst e1 e2
    rw [Int.mul_add, Int.add_mul, Int.add_mul, Int.mul_assoc 4294967296 x1 y0, Int.mul_left_comm x0 4294967296 y1, Int.mul_assoc 4294967296 x1, Int.mul_left_comm x1 4294967296 y1]
    omega
  generalize (a % 4294967296) * (b % 4294967296) = p00 at *
  generalize (a / 4294967296) * (b % 4294967296) = p10 at *
  generalize (a % 4294967296) * (b / 4294967296) = p01 at *
  generalize (a / 4294967296) * (b / 4294967296) = p11 at *
  rw [wrap_u64 (n := p00) (by omega) (by omega), wrap_u64 (n := p10) (by omega) (by omega), wrap_u64 (n := p01) (by omega) (by omega), wrap_u64 (n := p11) (by omega) (by omega)]
  rw [wrap_u64 (n := p10 + p00 / 4294967296) (by omega) (by omega), and32 (by unfold U64; omega)]
  rw [wrap_u64 (n := (p10 + p00 / 4294967296) % 4294967296 + p01) (by omega) (by omega)]
  rw [wrap_u64 (n := p11 + (p10 + p00 / 4294967296) / 4294967296) (by omega) (by omega)]
  rw [wrap_u64 (n := p11 + (p10 + p00 / 4294967296) / 4294967296 + ((p10 + p00 / 4294967296) % 4294967296 + p01) / 4294967296) (by omega) (by omega)]
  congr 1
  rw [hab]
  omega
theorem F79_eq (R : Type) {a b : Int} (ha : U64 a) (hb : U64 b) (k : Int → Bool → Option R) : F79 R a b k = (if a * b < 9223372036854775808 then k (a * b) true else k 0 false) := by
  simp only [F79, p79]
  rw [F116_eq R ha hb]
  simp only [F117, p117, F136, p136]
  have h0 : 0 ≤ a * b := Int.mul_nonneg ha.1 hb.1
  generalize a * b = p at *
  by_cases h1 : p < 9223372036854775808
  · have e1 : p / 18446744073709551616 = 0 := by omega
    have n0 : ((0 : Int) != 0) = false := rfl
    rw [if_pos h1, e1, wrap_u64 (by omega) (by omega)]
    simp only [n0, decide_eq_true h1, Bool.not_true]
  · rw [if_neg h1]
    by_cases h2 : p < 18446744073709551616
    · have e1 : p / 18446744073709551616 = 0 := by omega
      have n0 : ((0 : Int) != 0) = false := rfl
      rw [e1, wrap_u64 (by omega) (by omega)]
      simp only [n0, decide_eq_false h1, Bool.not_false]
    · have e1 : (p / 18446744073709551616 != 0) = true := by
        have : ¬ p / 18446744073709551616 = 0 := by omega
        simp [this]
      simp only [e1]
theorem F78_eq (R : Type) {a b : Int} (ha : U64 a) (hb : U64 b) (k : Int → Bool → Option R) : F78 R a b k = (if a * b < 9223372036854775808 then k (a * b) true else k 0 false) := by
  unfold U64 at ha hb
  simp only [F78, p78]
  by_cases h1 : a = 0
  · subst h1; simp
  have e1 : (a == 0) = false := by simp [h1]
  by_cases h2 : b = 0
  · subst h2; simp only [e1]; simp
  have e2 : (b == 0) = false := by simp [h2]
  have hq : (9223372036854775807 : Int).tdiv b = 9223372036854775807 / b := Int.tdiv_eq_ediv_of_nonneg (by omega)
  have hq1 : 0 ≤ 9223372036854775807 / b := Int.ediv_nonneg (by omega) (by omega)
  have hq2 : 9223372036854775807 / b ≤ 9223372036854775807 := Int.ediv_le_self _ (by omega)
  simp only [e1, e2, Bool.not_false]
  rw [hq, wrap_u64 hq1 (by omega)]
  have hkey : a ≤ 9223372036854775807 / b ↔ a * b ≤ 9223372036854775807 := Int.le_ediv_iff_mul_le (by omega)
  by_cases h3 : a * b < 9223372036854775808
  · have hd : decide (a > 9223372036854775807 / b) = false := decide_eq_false (by have := hkey.2 (by omega); omega)
    have h0 : 0 ≤ a * b := Int.mul_nonneg ha.1 hb.1
    rw [if_pos h3, wrap_u64 h0 (by omega)]
    simp only [hd]
  · have hd : decide (a > 9223372036854775807 / b) = true := decide_eq_true (by
      refine Classical.byContradiction fun hh => ?_
      have := hkey.1 (by omega)
      omega)
    rw [if_neg h3]
    simp only [hd]
abbrev CellA := Int × (Int × Unit)
abbrev TabA := Int × (List CellA × Unit)
def badC (t : TabA) (c : CellA) : Bool := decide (c.1 > t.1) || (decide (c.2.1 < 0) || decide (c.2.1 ≥ (t.2.1.length : Int)))
def rightT (t : TabA) : Bool := decide ((t.2.1.length : Int) * t.1 < 9223372036854775808) && (!((t.2.1.length : Int) == 0) && (!(t.1 == 0) && !(t.2.1.any (badC t))))
theorem F81_eq (R : Type) (c : CellA) (t : TabA) (k : Bool → TabA → Option R) : F81 R c t k = k (badC t c) t := by
  simp only [F81, p81, badC]
  cases decide (c.1 > t.1) with
  | true => rfl
  | false =>
    cases decide (c.2.1 < 0) with
    | true => rfl
    | false => rfl
theorem G119081_eq (R : Type) (t : TabA) (l : List CellA) (hlen : l.length ≤ 1000000) (k0 : Int → TabA → Option R) (k1 : TabA → Option R) (K : Bool → TabA → Option R) (h0 : ∀ i : Int, 0 ≤ i → k0 i t = K true t) (h1 : k1 t = K false t) :
    ∀ (m i : Nat), i ≤ l.length → l.length - i < m → G119081_2 m R l (l.length : Int) (i : Int) t k0 k1 = K ((l.drop i).any (badC t)) t
  | 0, i, _, h => by omega
  | m + 1, i, h2, h3 => by
    simp only [G119081_2, p119081_2]
    by_cases hi : i < l.length
    · have hd : decide ((i : Int) < (l.length : Int)) = true := by simpa using hi
      have hbn : bnd (i : Int) (l.length : Int) = true := by unfold bnd; simp; omega
      simp only [hd, hbn, Int.toNat_natCast]
      rw [F81_eq, List.drop_eq_getElem_cons hi, List.any_cons]
      have hg : l.getD i ((0 : Int), (0 : Int), ()) = l[i] := by simp [hi]
      rw [hg]
      cases hb : badC t l[i] with
      | true => simpa using h0 (i : Int) (by omega)
      | false =>
        simp only [Bool.false_or]
        rw [wrap_i64 (n := (i : Int) + 1) (by omega) (by omega)]
        exact G119081_eq R t l hlen k0 k1 K h0 h1 m (i + 1) (by omega) (by omega)
    · have : i = l.length := by omega
      subst this
      have hd : decide ((l.length : Int) < (l.length : Int)) = false := by simp
      simp only [hd]
      rw [h1, List.drop_length]
      rfl
theorem F41_eq (R : Type) {t : TabA} (ht : U64 t.1) (hlen : t.2.1.length ≤ 1000) (k : Bool → Option R) : F41 R t k = k (rightT t) := by
  simp only [F41, p41]
  rw [wrap_u64 (n := (t.2.1.length : Int)) (by omega) (by omega), F79_eq R (by unfold U64; omega) ht]
  unfold rightT
  by_cases h1 : (t.2.1.length : Int) * t.1 < 9223372036854775808
  · rw [if_pos h1]
    simp only [decide_eq_true h1, Bool.not_true, Bool.true_and]
    cases e1 : ((t.2.1.length : Int) == 0) with
    | true => rfl
    | false =>
      cases e2 : (t.1 == 0) with
      | true => rfl
      | false =>
        simp only [Bool.not_false, Bool.true_and, F81081, p81081, F119081, p119081]
        have := G119081_eq R t t.2.1 (by omega) (fun x2 x3 => k !decide (x2 ≥ 0)) (fun x4 => k !decide ((-1 : Int) ≥ 0)) (fun b _ => k !b) (fun i hi => by simp [hi]) (by rfl) FUEL 0 (by omega) (by rw [FUEL_eq]; omega)
        simpa using this
  · rw [if_neg h1]
    simp only [decide_eq_false h1, Bool.not_false, Bool.false_and]
theorem G45_eq (R : Type) (t : TabA) (hlen : t.2.1.length ≤ 1000000) (k0 : Bool → Option R) (k1 : Option R) :
    ∀ (m i : Nat), i ≤ t.2.1.length → t.2.1.length - i < m → G45_6 m R (i : Int) t k0 k1 = (if (t.2.1.drop i).any (badC t) = true then k0 false else k1)
  | 0, i, _, h => by omega
  | m + 1, i, h2, h3 => by
    simp only [G45_6, p45_6]
    by_cases hi : i < t.2.1.length
    · have hd : decide ((i : Int) < (t.2.1.length : Int)) = true := by simpa using hi
      have hbn : bnd (i : Int) (t.2.1.length : Int) = true := by unfold bnd; simp; omega
      have hg : t.2.1.getD i ((0 : Int), (0 : Int), ()) = t.2.1[i] := by simp [hi]
      have ih := G45_eq R t hlen k0 k1 m (i + 1) (by omega) (by omega)
      simp only [hd, hbn, Int.toNat_natCast]
      simp only [hg]
      rw [List.drop_eq_getElem_cons hi, List.any_cons]
      rw [wrap_i64 (n := (i : Int) + 1) (by omega) (by omega), show (i : Int) + 1 = ((i + 1 : Nat) : Int) by omega, ih]
      unfold badC
      cases decide (t.2.1[i].1 > t.1) with
      | true => simp
      | false =>
        cases decide (t.2.1[i].2.1 < 0) with
        | true => simp
        | false =>
          cases decide (t.2.1[i].2.1 ≥ (t.2.1.length : Int)) with
          | true => simp
          | false => rfl
    · have : i = t.2.1.length := by omega
      subst this
      have hd : decide ((t.2.1.length : Int) < (t.2.1.length : Int)) = false := by simp
      simp only [hd]
      rw [List.drop_length]
      rfl
theorem F45_eq (R : Type) {t : TabA} (ht : U64 t.1) (hlen : t.2.1.length ≤ 1000) (k : Bool → Option R) : F45 R t k = k (rightT t) := by
  simp only [F45, p45]
  rw [wrap_u64 (n := (t.2.1.length : Int)) (by omega) (by omega), F78_eq R (by unfold U64; omega) ht]
  have hg := G45_eq R t (by omega) (fun x7 => k x7) (k true) FUEL 0 (by omega) (by rw [FUEL_eq]; omega)
  rw [List.drop_zero, show (((0 : Nat) : Int)) = 0 from rfl] at hg
  unfold rightT
  by_cases h1 : (t.2.1.length : Int) * t.1 < 9223372036854775808
  · rw [if_pos h1]
    simp only [decide_eq_true h1, Bool.not_true, Bool.true_and]
    cases e1 : ((t.2.1.length : Int) == 0) with
    | true => rfl
    | false =>
      cases e2 : (t.1 == 0) with
      | true => rfl
      | false =>
        simp only [Bool.not_false, Bool.true_and]
        rw [hg]
        cases t.2.1.any (badC t) <;> rfl
  · rw [if_neg h1]
    simp only [decide_eq_false h1, Bool.not_false, Bool.false_and]
    cases e1 : ((t.2.1.length : Int) == 0) with
    | true => rfl
    | false =>
      cases e2 : (t.1 == 0) with
      | true => rfl
      | false => rfl
theorem right_T {t : TabA} (h : rightT t = true) : (t.2.1.length : Int) * t.1 < 9223372036854775808 ∧ t.2.1.length ≠ 0 ∧ t.1 ≠ 0 ∧ ∀ c ∈ t.2.1, c.1 ≤ t.1 ∧ 0 ≤ c.2.1 ∧ c.2.1 < (t.2.1.length : Int) := by
  simp only [rightT, Bool.and_eq_true, Bool.not_eq_true', decide_eq_true_eq] at h
  obtain ⟨h1, h2, h3, h4⟩ := h
  refine ⟨h1, fun e => by simp [e] at h2, fun e => by simp [e] at h3, fun c hc => ?_⟩
  have := List.any_eq_false.1 h4 c hc
  simp only [badC, Bool.not_eq_true, Bool.or_eq_false_iff, decide_eq_false_iff_not] at this
  omega
theorem F43_eq (R : Type) {t : TabA} (ht : U64 t.1) (hlen : t.2.1.length ≤ 1000) (k : Int → Option R) : F43 R t k = k (if rightT t = true then (t.2.1.length : Int) * t.1 else 0) := by
  simp only [F43, p43]
  rw [F41_eq R ht hlen]
  cases h : rightT t with
  | false => rfl
  | true =>
    obtain ⟨h1, h2, h3, h4⟩ := right_T h
    have h0 : 0 ≤ (t.2.1.length : Int) * t.1 := Int.mul_nonneg (by omega) ht.1
    simp only [Bool.not_true, if_true]
    rw [wrap_u64 (n := (t.2.1.length : Int)) (by omega) (by omega), wrap_u64 h0 (by omega)]
theorem F47_eq (R : Type) {t : TabA} (ht : U64 t.1) (hlen : t.2.1.length ≤ 1000) (k : Int → Option R) : F47 R t k = k (if rightT t = true then (t.2.1.length : Int) * t.1 else 0) := by
  simp only [F47, p47]
  rw [F45_eq R ht hlen]
  cases h : rightT t with
  | false => rfl
  | true =>
    obtain ⟨h1, h2, h3, h4⟩ := right_T h
    have h0 : 0 ≤ (t.2.1.length : Int) * t.1 := Int.mul_nonneg (by omega) ht.1
    simp only [Bool.not_true, if_true]
    rw [wrap_u64 (n := (t.2.1.length : Int)) (by omega) (by omega), wrap_u64 h0 (by omega)]
def ownT (t : TabA) (u : Int) : Int := if u % t.1 < (t.2.1.getD (u / t.1).toNat (0, 0, ())).1 then u / t.1 else (t.2.1.getD (u / t.1).toNat (0, 0, ())).2.1
theorem col_T {t : TabA} (ht : U64 t.1) (h : rightT t = true) {u : Int} (hu : 0 ≤ u ∧ u < (t.2.1.length : Int) * t.1) : 0 ≤ u / t.1 ∧ u / t.1 < (t.2.1.length : Int) ∧ 0 ≤ u % t.1 ∧ u % t.1 < t.1 := by
  obtain ⟨h1, h2, h3, h4⟩ := right_T h
  have hp : 0 < t.1 := by have := ht.1; omega
  exact ⟨Int.ediv_nonneg hu.1 (by omega), Int.ediv_lt_of_lt_mul hp hu.2, Int.emod_nonneg _ h3, Int.emod_lt_of_pos _ hp⟩
theorem F44_eq (R : Type) {t : TabA} (ht : U64 t.1) (hlen : t.2.1.length ≤ 1000) (h : rightT t = true) {u : Int} (hu : 0 ≤ u ∧ u < (t.2.1.length : Int) * t.1) (k : Int → Int → Option R) : F44 R t u k = k (ownT t u) 0 := by
  simp only [F44, p44]
  rw [F41_eq R ht hlen]
  simp only [h, Bool.not_true]
  rw [F43_eq R ht hlen]
  obtain ⟨h1, h2, h3, h4⟩ := right_T h
  obtain ⟨c1, c2, c3, c4⟩ := col_T ht h hu
  have e0 : (t.1 == 0) = false := by simp [h3]
  have ed : decide (u ≥ (t.2.1.length : Int) * t.1) = false := decide_eq_false (by omega)
  simp only [h, if_true, ed, e0, Bool.not_false]
  rw [Int.tdiv_eq_ediv_of_nonneg hu.1, Int.tmod_eq_emod_of_nonneg hu.1, wrap_u64 (n := u / t.1) c1 (by omega), wrap_i64 (n := u / t.1) (by omega) (by omega)]
  simp only [F85, p85, F122, p122]
  rw [F41_eq R ht hlen]
  have d1 : decide (u / t.1 < 0) = false := decide_eq_false (by omega)
  have d2 : decide (u / t.1 ≥ (t.2.1.length : Int)) = false := decide_eq_false (by omega)
  have d3 : decide (u % t.1 ≥ t.1) = false := decide_eq_false (by omega)
  have d4 : bnd (u / t.1) (t.2.1.length : Int) = true := by unfold bnd; simp; omega
  have n0 : ((0 : Int) != 0) = false := rfl
  simp only [h, Bool.not_true, d1, d2, n0, d3, d4]
  unfold ownT
  by_cases hc : u % t.1 < (t.2.1.getD (u / t.1).toNat (0, 0, ())).1
  · rw [if_pos hc]
    simp only [decide_eq_false (show ¬ (u % t.1 ≥ (t.2.1.getD (u / t.1).toNat (0, 0, ())).1) by omega)]
  · rw [if_neg hc]
    simp only [decide_eq_true (show (u % t.1 ≥ (t.2.1.getD (u / t.1).toNat (0, 0, ())).1) by omega)]
theorem F48_eq (R : Type) {t : TabA} (ht : U64 t.1) (hlen : t.2.1.length ≤ 1000) (h : rightT t = true) {u : Int} (hu : 0 ≤ u ∧ u < (t.2.1.length : Int) * t.1) (k : Int → Int → Option R) : F48 R t u k = k (ownT t u) 0 := by
  simp only [F48, p48]
  rw [F45_eq R ht hlen]
  simp only [h, Bool.not_true]
  rw [F47_eq R ht hlen]
  obtain ⟨h1, h2, h3, h4⟩ := right_T h
  obtain ⟨c1, c2, c3, c4⟩ := col_T ht h hu
  have e0 : (t.1 == 0) = false := by simp [h3]
  have ed : decide (u ≥ (t.2.1.length : Int) * t.1) = false := decide_eq_false (by omega)
  simp only [h, if_true, ed, e0, Bool.not_false]
  rw [Int.tdiv_eq_ediv_of_nonneg hu.1, Int.tmod_eq_emod_of_nonneg hu.1, wrap_u64 (n := u / t.1) c1 (by omega), wrap_i64 (n := u / t.1) (by omega) (by omega)]
  simp only [F87, p87]
  rw [F45_eq R ht hlen]
  have d1 : decide (u / t.1 < 0) = false := decide_eq_false (by omega)
  have d2 : decide (u / t.1 ≥ (t.2.1.length : Int)) = false := decide_eq_false (by omega)
  have d3 : decide (u % t.1 ≥ t.1) = false := decide_eq_false (by omega)
  have d4 : bnd (u / t.1) (t.2.1.length : Int) = true := by unfold bnd; simp; omega
  simp only [h, Bool.not_true, d1, d2, d3, d4]
  unfold ownT
  by_cases hc : u % t.1 < (t.2.1.getD (u / t.1).toNat (0, 0, ())).1
  · rw [if_pos hc]
    simp only [decide_eq_true hc]
  · rw [if_neg hc]
    simp only [decide_eq_false hc]
def pickR (t : TabA) (s : Src) (m : Int) : Int × Src × Int :=
  if rightT t = true then (if (drawR s ((t.2.1.length : Int) * t.1) m).2.2 = 0 then (ownT t (drawR s ((t.2.1.length : Int) * t.1) m).1, (drawR s ((t.2.1.length : Int) * t.1) m).2.1, 0)
    else (0, (drawR s ((t.2.1.length : Int) * t.1) m).2.1, (drawR s ((t.2.1.length : Int) * t.1) m).2.2)) else (0, s, 1)
theorem F12_eq (R : Type) {t : TabA} (ht : U64 t.1) (hlen : t.2.1.length ≤ 1000) {s : Src} (hs : SOK s) (m : Int) (k : Int → Src → Int → Option R) : F12 R t s m k = k (pickR t s m).1 (pickR t s m).2.1 (pickR t s m).2.2 := by
  simp only [F12, p12]
  rw [F41_eq R ht hlen]
  unfold pickR
  cases h : rightT t with
  | false => rfl
  | true =>
    obtain ⟨h1, h2, h3, h4⟩ := right_T h
    have h0 : 0 ≤ (t.2.1.length : Int) * t.1 := Int.mul_nonneg (by omega) ht.1
    simp only [Bool.not_true, if_true]
    rw [F43_eq R ht hlen]
    simp only [h, if_true]
    rw [F42_eq R hs (show U64 ((t.2.1.length : Int) * t.1) from by unfold U64; omega)]
    by_cases he : (drawR s ((t.2.1.length : Int) * t.1) m).2.2 = 0
    · have e1 : ((drawR s ((t.2.1.length : Int) * t.1) m).2.2 != 0) = false := by simp [he]
      rw [if_pos he]
      simp only [e1]
      rw [F44_eq R ht hlen h (draw_below he)]
    · have e1 : ((drawR s ((t.2.1.length : Int) * t.1) m).2.2 != 0) = true := by simp [he]
      rw [if_neg he]
      simp only [e1]
theorem F13_eq (R : Type) {t : TabA} (ht : U64 t.1) (hlen : t.2.1.length ≤ 1000) {s : Src} (hs : SOK s) (m : Int) (k : Int → Src → Int → Option R) : F13 R t s m k = k (pickR t s m).1 (pickR t s m).2.1 (pickR t s m).2.2 := by
  simp only [F13, p13]
  rw [F45_eq R ht hlen]
  unfold pickR
  cases h : rightT t with
  | false => rfl
  | true =>
    obtain ⟨h1, h2, h3, h4⟩ := right_T h
    have h0 : 0 ≤ (t.2.1.length : Int) * t.1 := Int.mul_nonneg (by omega) ht.1
    simp only [Bool.not_true, if_true]
    rw [F47_eq R ht hlen]
    simp only [h, if_true]
    rw [F46_eq R hs (show U64 ((t.2.1.length : Int) * t.1) from by unfold U64; omega)]
    by_cases he : (drawR s ((t.2.1.length : Int) * t.1) m).2.2 = 0
    · have e1 : ((drawR s ((t.2.1.length : Int) * t.1) m).2.2 != 0) = false := by simp [he]
      rw [if_pos he]
      simp only [e1]
      rw [F48_eq R ht hlen h (draw_below he)]
    · have e1 : ((drawR s ((t.2.1.length : Int) * t.1) m).2.2 != 0) = true := by simp [he]
      rw [if_neg he]
      simp only [e1]
end Go.PG
namespace Go.PG
def popI (l : List Int) : Int := l.getD (l.length - 1) 0
def cutL (l : List Int) : List Int := l.take (l.length - 1)
theorem pop_snoc (a : List Int) (x : Int) : popI (a ++ [x]) = x := by simp [popI]
theorem cut_snoc (a : List Int) (x : Int) : cutL (a ++ [x]) = a := by simp [cutL]
theorem snoc_of {l : List Int} (h : l.length ≠ 0) : ∃ a x, l = a ++ [x] := by
  rcases List.eq_nil_or_concat l with rfl | ⟨a, x, rfl⟩
  · simp at h
  · exact ⟨a, x, by simp⟩
def stepH (T : Int) (h : List Int) (i k : Int) : List Int := h.set k.toNat (h.getD k.toNat 0 - (T - h.getD i.toNat 0))
def runA (T : Int) : Nat → List Int → List CellA → List Int → List Int → List Int × (List CellA × (List Int × List Int))
  | 0, h, c, sm, la => (h, c, sm, la)
  | f + 1, h, c, sm, la => if sm.length = 0 ∨ la.length = 0 then (h, c, sm, la) else
      if (stepH T h (popI sm) (popI la)).getD (popI la).toNat 0 < T then runA T f (stepH T h (popI sm) (popI la)) (c.set (popI sm).toNat (h.getD (popI sm).toNat 0, popI la, ())) (cutL sm ++ [popI la]) (cutL la)
      else runA T f (stepH T h (popI sm) (popI la)) (c.set (popI sm).toNat (h.getD (popI sm).toNat 0, popI la, ())) (cutL sm) (cutL la ++ [popI la])
structure IA (T : Int) (n : Nat) (h : List Int) (c : List CellA) (sm la : List Int) : Prop where
  hl : h.length = n
  cl : c.length = n
  ix : ∀ x ∈ sm ++ la, 0 ≤ x ∧ x < (n : Int)
  nd : (sm ++ la).Nodup
  sml : ∀ x ∈ sm, 0 ≤ h.getD x.toNat 0 ∧ h.getD x.toNat 0 < T
  lrg : ∀ x ∈ la, T ≤ h.getD x.toNat 0 ∧ h.getD x.toNat 0 < 9223372036854775808
theorem getD_set_ne' (h : List Int) {i j : Nat} (v : Int) (hij : i ≠ j) : (h.set i v).getD j 0 = h.getD j 0 := by
  simp [List.getD_eq_getElem?_getD, List.getElem?_set, hij]
theorem getD_set_eq' (h : List Int) {i : Nat} (v : Int) (hi : i < h.length) : (h.set i v).getD i 0 = v := by
  simp [List.getD_eq_getElem?_getD, hi]
theorem perm1 (s0 l0 : List Int) (i k : Int) : ((s0 ++ [i]) ++ (l0 ++ [k])).Perm (i :: ((s0 ++ [k]) ++ l0)) := by
  rw [List.append_assoc, List.append_assoc]
  refine List.perm_middle.trans (.cons i (List.Perm.append_left s0 ?_))
  exact (List.perm_append_comm : (l0 ++ [k]).Perm ([k] ++ l0))
theorem perm2 (s0 l0 : List Int) (i k : Int) : ((s0 ++ [i]) ++ (l0 ++ [k])).Perm (i :: (s0 ++ (l0 ++ [k]))) := by
  rw [List.append_assoc]
  exact List.perm_middle
theorem IA.facts {T : Int} {n : Nat} {h : List Int} {c : List CellA} {s0 l0 : List Int} {i k : Int} (hI : IA T n h c (s0 ++ [i]) (l0 ++ [k])) :
    (0 ≤ i ∧ i < (n : Int)) ∧ (0 ≤ k ∧ k < (n : Int)) ∧ i ≠ k ∧ (∀ x ∈ s0, x ≠ i ∧ x ≠ k ∧ 0 ≤ x) ∧ (∀ x ∈ l0, x ≠ i ∧ x ≠ k ∧ 0 ≤ x) := by
  have hn := (perm1 s0 l0 i k).nodup_iff.1 hI.nd
  rw [List.nodup_cons] at hn
  obtain ⟨h1, h2⟩ := hn
  have h3 : (k :: (s0 ++ l0)).Nodup := by
    rw [List.append_assoc] at h2
    exact (List.perm_middle (l₁ := s0) (l₂ := l0) (a := k)).nodup_iff.1 h2
  rw [List.nodup_cons] at h3
  have hm : ∀ x, x ∈ s0 ∨ x ∈ l0 → x ≠ i ∧ x ≠ k ∧ 0 ≤ x := fun x hx => by
    refine ⟨fun e => h1 ?_, fun e => h3.1 ?_, (hI.ix x ?_).1⟩
    · subst e; simp; rcases hx with hx | hx <;> simp [hx]
    · subst e; simpa using hx
    · simp; rcases hx with hx | hx <;> simp [hx]
  refine ⟨hI.ix i (by simp), hI.ix k (by simp), fun e => h1 ?_, fun x hx => hm x (.inl hx), fun x hx => hm x (.inr hx)⟩
  subst e; simp
theorem IA.step {T : Int} {n : Nat} {h : List Int} {c : List CellA} {s0 l0 : List Int} {i k : Int} (hI : IA T n h c (s0 ++ [i]) (l0 ++ [k])) :
    (0 ≤ (stepH T h i k).getD k.toNat 0 ∧ (stepH T h i k).getD k.toNat 0 < 9223372036854775808 ∧ (stepH T h i k).getD k.toNat 0 = h.getD k.toNat 0 - (T - h.getD i.toNat 0)) ∧
    ((stepH T h i k).getD k.toNat 0 < T → IA T n (stepH T h i k) (c.set i.toNat (h.getD i.toNat 0, k, ())) (s0 ++ [k]) l0) ∧
    (¬ (stepH T h i k).getD k.toNat 0 < T → IA T n (stepH T h i k) (c.set i.toNat (h.getD i.toNat 0, k, ())) s0 (l0 ++ [k])) := by
  obtain ⟨hi, hk, hik, hs, hl⟩ := hI.facts
  have hkl : k.toNat < h.length := by rw [hI.hl]; omega
  have ek : (stepH T h i k).getD k.toNat 0 = h.getD k.toNat 0 - (T - h.getD i.toNat 0) := getD_set_eq' h _ hkl
  have b1 := hI.sml i (by simp)
  have b2 := hI.lrg k (by simp)
  have same : ∀ x : Int, 0 ≤ x → x ≠ k → (stepH T h i k).getD x.toNat 0 = h.getD x.toNat 0 := fun x h0 hx => getD_set_ne' h _ (by omega)
  have hn1 := ((perm1 s0 l0 i k).nodup_iff.1 hI.nd)
  have hn2 := ((perm2 s0 l0 i k).nodup_iff.1 hI.nd)
  rw [List.nodup_cons] at hn1 hn2
  refine ⟨⟨by omega, by omega, ek⟩, fun hlt => ⟨by simp [stepH, hI.hl], by simp [hI.cl], fun x hx => hI.ix x ?_, hn1.2, fun x hx => ?_, fun x hx => ?_⟩, fun hge => ⟨by simp [stepH, hI.hl], by simp [hI.cl], fun x hx => hI.ix x ?_, hn2.2, fun x hx => ?_, fun x hx => ?_⟩⟩
  · simp at hx ⊢; rcases hx with hx | hx | hx <;> simp [hx]
  · rcases List.mem_append.1 hx with hx | hx
    · have := hs x hx
      rw [same x this.2.2 this.2.1]; exact hI.sml x (by simp [hx])
    · simp at hx; subst hx; omega
  · have := hl x hx
    rw [same x this.2.2 this.2.1]; exact hI.lrg x (by simp [hx])
  · simp at hx ⊢; rcases hx with hx | hx | hx <;> simp [hx]
  · have := hs x hx
    rw [same x this.2.2 this.2.1]; exact hI.sml x (by simp [hx])
  · rcases List.mem_append.1 hx with hx | hx
    · have := hl x hx
      rw [same x this.2.2 this.2.1]; exact hI.lrg x (by simp [hx])
    · simp at hx; subst hx; omega
theorem runA_step {T : Int} {f : Nat} {h : List Int} {c : List CellA} {s0 l0 : List Int} {i k : Int} : runA T (f + 1) h c (s0 ++ [i]) (l0 ++ [k]) =
    if (stepH T h i k).getD k.toNat 0 < T then runA T f (stepH T h i k) (c.set i.toNat (h.getD i.toNat 0, k, ())) (s0 ++ [k]) l0 else runA T f (stepH T h i k) (c.set i.toNat (h.getD i.toNat 0, k, ())) s0 (l0 ++ [k]) := by
  simp only [runA, pop_snoc, cut_snoc]
  rw [if_neg (by simp)]
theorem runA_stop {T : Int} {f : Nat} {h : List Int} {c : List CellA} {sm la : List Int} (hs : sm.length = 0 ∨ la.length = 0) : runA T f h c sm la = (h, c, sm, la) := by
  cases f with
  | zero => rfl
  | succ f => simp only [runA]; rw [if_pos hs]
theorem G49_13_eq (R : Type) {T : Int} {n : Nat} (hT : 0 < T ∧ T < 9223372036854775808) (hn : n ≤ 1000) (x1 : TabA) (k0 : TabA → List Int → List CellA → List Int → List Int → (Int × Unit) → Option R) :
    ∀ (f m : Nat) (h : List Int) (c : List CellA) (sm la : List Int), IA T n h c sm la → sm.length + la.length ≤ f → f ≤ 10000 → f < m →
      G49_13 m R x1 h c sm la (T, ()) k0 = k0 x1 (runA T f h c sm la).1 (runA T f h c sm la).2.1 (runA T f h c sm la).2.2.1 (runA T f h c sm la).2.2.2 (T, ())
  | f, 0, _, _, _, _, _, _, _, hm => by omega
  | f, m + 1, h, c, sm, la, hI, hf, hf2, hm => by
    simp only [G49_13, p49_13]
    by_cases hs : sm.length = 0
    · have hd : decide ((sm.length : Int) > 0) = false := decide_eq_false (by omega)
      simp only [hd]
      rw [runA_stop (.inl hs)]
    · have hd : decide ((sm.length : Int) > 0) = true := decide_eq_true (by omega)
      simp only [hd]
      by_cases hl : la.length = 0
      · have hd : decide ((la.length : Int) > 0) = false := decide_eq_false (by omega)
        simp only [hd]
        rw [runA_stop (.inr hl)]
      · have hd : decide ((la.length : Int) > 0) = true := decide_eq_true (by omega)
        simp only [hd]
        obtain ⟨s0, i, rfl⟩ := snoc_of hs
        obtain ⟨l0, k, rfl⟩ := snoc_of hl
        obtain ⟨hi, hk, hik, hms, hml⟩ := hI.facts
        obtain ⟨⟨e0, e1, e2⟩, st1, st2⟩ := hI.step
        have b1 := hI.sml i (by simp)
        have b2 := hI.lrg k (by simp)
        have ls : ((s0 ++ [i]).length : Int) = (s0.length : Int) + 1 := by simp
        have ll : ((l0 ++ [k]).length : Int) = (l0.length : Int) + 1 := by simp
        simp only [List.length_append, List.length_cons, List.length_nil] at hf
        rw [ls, ll, show (s0.length : Int) + 1 - 1 = (s0.length : Int) by omega, show (l0.length : Int) + 1 - 1 = (l0.length : Int) by omega, wrap_i64 (n := (s0.length : Int)) (by omega) (by omega), wrap_i64 (n := (l0.length : Int)) (by omega) (by omega)]
        have d1 : bnd (s0.length : Int) ((s0.length : Int) + 1) = true := by unfold bnd; simp; omega
        have d2 : bnd (l0.length : Int) ((l0.length : Int) + 1) = true := by unfold bnd; simp; omega
        have d3 : decide (0 ≤ (s0.length : Int) ∧ (s0.length : Int) ≤ (s0.length : Int) + 1) = true := decide_eq_true (by omega)
        have d4 : decide (0 ≤ (l0.length : Int) ∧ (l0.length : Int) ≤ (l0.length : Int) + 1) = true := decide_eq_true (by omega)
        have g1 : (s0 ++ [i]).getD s0.length 0 = i := by simp
        have g2 : (l0 ++ [k]).getD l0.length 0 = k := by simp
        have t1 : (s0 ++ [i]).take s0.length = s0 := by simp
        have t2 : (l0 ++ [k]).take l0.length = l0 := by simp
        have d5 : bnd i (h.length : Int) = true := by rw [hI.hl]; unfold bnd; simp; omega
        have d6 : bnd i (c.length : Int) = true := by rw [hI.cl]; unfold bnd; simp; omega
        have d7 : bnd k (h.length : Int) = true := by rw [hI.hl]; unfold bnd; simp; omega
        simp only [d1, d2, d3, d4, Int.toNat_natCast, g1, g2, t1, t2, d5, d6, d7, List.length_set]
        rw [wrap_u64 (n := T - h.getD i.toNat 0) (by omega) (by omega), wrap_u64 (n := h.getD k.toNat 0 - (T - h.getD i.toNat 0)) (by omega) (by omega)]
        change (match decide ((stepH T h i k).getD k.toNat 0 < T) with
          | true => _
          | false => _) = _
        cases f with
        | zero => omega
        | succ f =>
          rw [runA_step]
          by_cases hlt : (stepH T h i k).getD k.toNat 0 < T
          · have dc : decide (s0.length + [k].length ≤ 17592186044416) = true := decide_eq_true (by simp; omega)
            rw [if_pos hlt]
            simp only [decide_eq_true hlt, dc]
            exact G49_13_eq R hT hn x1 k0 f m _ _ _ _ (st1 hlt) (by simp; omega) (by omega) (by omega)
          · have dc : decide (l0.length + [k].length ≤ 17592186044416) = true := decide_eq_true (by simp; omega)
            rw [if_neg hlt]
            simp only [decide_eq_false hlt, dc]
            exact G49_13_eq R hT hn x1 k0 f m _ _ _ _ (st2 hlt) (by simp; omega) (by omega) (by omega)
theorem G40_23_eq (R : Type) {T : Int} {n : Nat} (hT : 0 < T ∧ T < 9223372036854775808) (hn : n ≤ 1000) (x2 : TabA) (k0 : Int → TabA → List CellA → Option R) :
    ∀ (f m : Nat) (h : List Int) (c : List CellA) (sm la : List Int), IA T n h c sm la → sm.length + la.length ≤ f → f ≤ 10000 → f < m →
      G40_23 m R T x2 h c sm la k0 = k0 T x2 (runA T f h c sm la).2.1
  | f, 0, _, _, _, _, _, _, _, hm => by omega
  | f, m + 1, h, c, sm, la, hI, hf, hf2, hm => by
    simp only [G40_23, p40_23]
    by_cases hs : sm.length = 0
    · have hd : decide ((sm.length : Int) > 0) = false := decide_eq_false (by omega)
      simp only [hd]
      rw [runA_stop (.inl hs)]
    · have hd : decide ((sm.length : Int) > 0) = true := decide_eq_true (by omega)
      simp only [hd]
      by_cases hl : la.length = 0
      · have hd : decide ((la.length : Int) > 0) = false := decide_eq_false (by omega)
        simp only [hd]
        rw [runA_stop (.inr hl)]
      · have hd : decide ((la.length : Int) > 0) = true := decide_eq_true (by omega)
        simp only [hd]
        obtain ⟨s0, i, rfl⟩ := snoc_of hs
        obtain ⟨l0, k, rfl⟩ := snoc_of hl
        obtain ⟨hi, hk, hik, hms, hml⟩ := hI.facts
        obtain ⟨⟨e0, e1, e2⟩, st1, st2⟩ := hI.step
        have b1 := hI.sml i (by simp)
        have b2 := hI.lrg k (by simp)
        have ls : ((s0 ++ [i]).length : Int) = (s0.length : Int) + 1 := by simp
        have ll : ((l0 ++ [k]).length : Int) = (l0.length : Int) + 1 := by simp
        simp only [List.length_append, List.length_cons, List.length_nil] at hf
        rw [ls, ll, show (s0.length : Int) + 1 - 1 = (s0.length : Int) by omega, show (l0.length : Int) + 1 - 1 = (l0.length : Int) by omega, wrap_i64 (n := (s0.length : Int)) (by omega) (by omega), wrap_i64 (n := (l0.length : Int)) (by omega) (by omega)]
        have d1 : bnd (s0.length : Int) ((s0.length : Int) + 1) = true := by unfold bnd; simp; omega
        have d2 : bnd (l0.length : Int) ((l0.length : Int) + 1) = true := by unfold bnd; simp; omega
        have d3 : decide (0 ≤ (s0.length : Int) ∧ (s0.length : Int) ≤ (s0.length : Int) + 1) = true := decide_eq_true (by omega)
        have d4 : decide (0 ≤ (l0.length : Int) ∧ (l0.length : Int) ≤ (l0.length : Int) + 1) = true := decide_eq_true (by omega)
        have g1 : (s0 ++ [i]).getD s0.length 0 = i := by simp
        have g2 : (l0 ++ [k]).getD l0.length 0 = k := by simp
        have t1 : (s0 ++ [i]).take s0.length = s0 := by simp
        have t2 : (l0 ++ [k]).take l0.length = l0 := by simp
        have d5 : bnd i (h.length : Int) = true := by rw [hI.hl]; unfold bnd; simp; omega
        have d6 : bnd i (c.length : Int) = true := by rw [hI.cl]; unfold bnd; simp; omega
        have d7 : bnd k (h.length : Int) = true := by rw [hI.hl]; unfold bnd; simp; omega
        simp only [d1, d2, d3, d4, Int.toNat_natCast, g1, g2, t1, t2, d5, d6, d7, List.length_set]
        rw [wrap_u64 (n := T - h.getD i.toNat 0) (by omega) (by omega), wrap_u64 (n := h.getD k.toNat 0 - (T - h.getD i.toNat 0)) (by omega) (by omega)]
        change (match decide ((stepH T h i k).getD k.toNat 0 < T) with
          | true => _
          | false => _) = _
        cases f with
        | zero => omega
        | succ f =>
          rw [runA_step]
          by_cases hlt : (stepH T h i k).getD k.toNat 0 < T
          · have dc : decide (s0.length + [k].length ≤ 17592186044416) = true := decide_eq_true (by simp; omega)
            rw [if_pos hlt]
            simp only [decide_eq_true hlt, dc]
            exact G40_23_eq R hT hn x2 k0 f m _ _ _ _ (st1 hlt) (by simp; omega) (by omega) (by omega)
          · have dc : decide (l0.length + [k].length ≤ 17592186044416) = true := decide_eq_true (by simp; omega)
            rw [if_neg hlt]
            simp only [decide_eq_false hlt, dc]
            exact G40_23_eq R hT hn x2 k0 f m _ _ _ _ (st2 hlt) (by simp; omega) (by omega) (by omega)
end Go.PG
namespace Go.PG
theorem set_app {α : Type} (A : List α) (z v : α) (m : Nat) {i : Nat} (hi : A.length = i) : (A ++ List.replicate (m + 1) z).set i v = A ++ [v] ++ List.replicate m z := by
  subst hi
  rw [List.set_append_right _ _ (Nat.le_refl _), Nat.sub_self, List.replicate_succ, List.set_cons_zero]
  simp
def hasP (n : Int) (l : List Int) (i : Nat) : List Int := (l.take i).map (fun v => n * v) ++ List.replicate (l.length - i) 0
def ceP (T : Int) (i : Nat) : List CellA := (List.range i).map (fun j : Nat => (T, (j : Int), ()))
def ceQ (T : Int) (N i : Nat) : List CellA := ceP T i ++ List.replicate (N - i) (0, 0, ())
def smP (T n : Int) (l : List Int) (i : Nat) : List Int := ((List.range i).filter (fun j => decide (n * l.getD j 0 < T))).map (fun j : Nat => (j : Int))
def laP (T n : Int) (l : List Int) (i : Nat) : List Int := ((List.range i).filter (fun j => !decide (n * l.getD j 0 < T))).map (fun j : Nat => (j : Int))
theorem hasP_len {n : Int} {l : List Int} {i : Nat} (h : i ≤ l.length) : (hasP n l i).length = l.length := by simp [hasP]; omega
theorem hasP_set {n : Int} {l : List Int} {i : Nat} (h : i < l.length) : (hasP n l i).set i (n * l.getD i 0) = hasP n l (i + 1) := by
  unfold hasP
  rw [show l.length - i = (l.length - (i + 1)) + 1 by omega, set_app _ _ _ _ (by simp; omega), List.take_succ_eq_append_getElem h, List.map_append]
  simp only [List.getD_eq_getElem?_getD, List.getElem?_eq_getElem h, Option.getD_some, List.map_cons, List.map_nil]
theorem ceP_succ (T : Int) (i : Nat) : ceP T i ++ [(T, (i : Int), ())] = ceP T (i + 1) := by simp [ceP, List.range_succ]
theorem ceQ_set {T : Int} {N i : Nat} (h : i < N) : (ceQ T N i).set i (T, (i : Int), ()) = ceQ T N (i + 1) := by
  unfold ceQ
  rw [show N - i = (N - (i + 1)) + 1 by omega, set_app _ _ _ _ (by simp [ceP]), ceP_succ]
theorem smP_lt {T n : Int} {l : List Int} {i : Nat} (h : n * l.getD i 0 < T) : smP T n l i ++ [(i : Int)] = smP T n l (i + 1) ∧ laP T n l i = laP T n l (i + 1) := by
  unfold smP laP
  rw [List.range_succ, List.filter_append, List.filter_append, List.map_append, List.map_append]
  have e1 : [i].filter (fun j => decide (n * l.getD j 0 < T)) = [i] := by rw [List.filter_cons, if_pos (decide_eq_true h)]; rfl
  have e2 : [i].filter (fun j => !decide (n * l.getD j 0 < T)) = [] := by rw [List.filter_cons, if_neg (by simp only [decide_eq_true h]; simp)]; rfl
  rw [e1, e2]
  simp
theorem smP_ge {T n : Int} {l : List Int} {i : Nat} (h : ¬ n * l.getD i 0 < T) : smP T n l i = smP T n l (i + 1) ∧ laP T n l i ++ [(i : Int)] = laP T n l (i + 1) := by
  unfold smP laP
  rw [List.range_succ, List.filter_append, List.filter_append, List.map_append, List.map_append]
  have e1 : [i].filter (fun j => decide (n * l.getD j 0 < T)) = [] := by rw [List.filter_cons, if_neg (by simp only [decide_eq_false h]; simp)]; rfl
  have e2 : [i].filter (fun j => !decide (n * l.getD j 0 < T)) = [i] := by rw [List.filter_cons, if_pos (by simp only [decide_eq_false h]; simp)]; rfl
  rw [e1, e2]
  simp
theorem smP_len (T n : Int) (l : List Int) (i : Nat) : (smP T n l i).length + (laP T n l i).length ≤ i := by
  induction i with
  | zero => simp [smP, laP]
  | succ i ih =>
    by_cases h : n * l.getD i 0 < T
    · obtain ⟨h1, h2⟩ := smP_lt h
      rw [← h1, ← h2]; simp; omega
    · obtain ⟨h1, h2⟩ := smP_ge h
      rw [← h1, ← h2]; simp; omega
theorem get_le_tot {l : List Int} (h : AllU64 l) (i : Nat) : l.getD i 0 ≤ totS l := by
  by_cases hi : i < l.length
  · have h1 := sumS_succ hi
    have h2 := sumS_nonneg h i
    have h3 := sumS_tot h (i + 1)
    omega
  · have : l.getD i 0 = 0 := by simp [List.getD_eq_getElem?_getD, List.getElem?_eq_none (show l.length ≤ i by omega)]
    rw [this]
    exact sumS_nonneg h l.length
theorem prod_ok {l : List Int} (h : AllU64 l) (hb : (l.length : Int) * totS l < 9223372036854775808) (i : Nat) : 0 ≤ (l.length : Int) * l.getD i 0 ∧ (l.length : Int) * l.getD i 0 < 9223372036854775808 := by
  have h1 := (getD_all h u64_0 i).1
  have h2 := get_le_tot h i
  have h3 : (l.length : Int) * l.getD i 0 ≤ (l.length : Int) * totS l := Int.mul_le_mul_of_nonneg_left h2 (by omega)
  exact ⟨Int.mul_nonneg (by omega) h1, by omega⟩
theorem G49_7_eq (R : Type) {l : List Int} (h : AllU64 l) (hlen : l.length ≤ 1000) {T : Int} (hb : (l.length : Int) * totS l < 9223372036854775808) (x6 : TabA) (k0 : TabA → List Int → List CellA → List Int → List Int → (Int × Unit) → Option R) :
    ∀ (m i : Nat), i ≤ l.length → l.length - i < m → G49_7 m R l T l (l.length : Int) (i : Int) x6 (hasP (l.length : Int) l i) (ceP T i) (smP T (l.length : Int) l i) (laP T (l.length : Int) l i) (T, ()) k0 =
      k0 x6 (hasP (l.length : Int) l l.length) (ceP T l.length) (smP T (l.length : Int) l l.length) (laP T (l.length : Int) l l.length) (T, ())
  | 0, i, _, hm => by omega
  | m + 1, i, h1, h2 => by
    simp only [G49_7, p49_7]
    by_cases hi : i < l.length
    · have hd : decide ((i : Int) < (l.length : Int)) = true := by simpa using hi
      have hbn : bnd (i : Int) (l.length : Int) = true := by unfold bnd; simp; omega
      have hp := prod_ok h hb i
      have hsl := smP_len T (l.length : Int) l i
      have cl : (ceP T i).length = i := by simp [ceP]
      have dc : decide ((ceP T i).length + [(T, (i : Int), ())].length ≤ 8796093022208) = true := decide_eq_true (by rw [cl]; simp; omega)
      have ew : IntKind.u64.wrap (l.getD i 0 * IntKind.u64.wrap (l.length : Int)) = (l.length : Int) * l.getD i 0 := by
        rw [wrap_u64 (n := (l.length : Int)) (by omega) (by omega), Int.mul_comm (l.getD i 0), wrap_u64 (n := (l.length : Int) * l.getD i 0) hp.1 (by omega)]
      simp only [hd, hbn, Int.toNat_natCast, hasP_len (n := (l.length : Int)) h1, dc, ew, hasP_set hi, ceP_succ, hasP_len (n := (l.length : Int)) (show i + 1 ≤ l.length by omega)]
      have hg : (hasP (l.length : Int) l (i + 1)).getD i 0 = (l.length : Int) * l.getD i 0 := by
        rw [← hasP_set hi, getD_set_eq' _ _ (by rw [hasP_len h1]; exact hi)]
      simp only [hbn, hg]
      by_cases hlt : (l.length : Int) * l.getD i 0 < T
      · obtain ⟨q1, q2⟩ := smP_lt hlt
        have dd : decide ((smP T (l.length : Int) l i).length + [(i : Int)].length ≤ 17592186044416) = true := decide_eq_true (by simp; omega)
        simp only [decide_eq_true hlt, dd]
        rw [q1, q2, wrap_i64 (n := (i : Int) + 1) (by omega) (by omega)]
        exact G49_7_eq R h hlen hb x6 k0 m (i + 1) (by omega) (by omega)
      · obtain ⟨q1, q2⟩ := smP_ge hlt
        have dd : decide ((laP T (l.length : Int) l i).length + [(i : Int)].length ≤ 17592186044416) = true := decide_eq_true (by simp; omega)
        simp only [decide_eq_false hlt, dd]
        rw [q1, q2, wrap_i64 (n := (i : Int) + 1) (by omega) (by omega)]
        exact G49_7_eq R h hlen hb x6 k0 m (i + 1) (by omega) (by omega)
    · have : i = l.length := by omega
      subst this
      have hd : decide ((l.length : Int) < (l.length : Int)) = false := by simp
      simp only [hd]
theorem G40_16_eq (R : Type) {l : List Int} (h : AllU64 l) (hlen : l.length ≤ 1000) {T : Int} (hb : (l.length : Int) * totS l < 9223372036854775808) (x5 : TabA) (k0 : Int → TabA → List Int → List CellA → List Int → List Int → Option R) :
    ∀ (m i : Nat), i ≤ l.length → l.length - i < m → G40_16 m R l T (l.length : Int) (i : Int) x5 (hasP (l.length : Int) l i) (ceQ T l.length i) (smP T (l.length : Int) l i) (laP T (l.length : Int) l i) k0 =
      k0 T x5 (hasP (l.length : Int) l l.length) (ceP T l.length) (smP T (l.length : Int) l l.length) (laP T (l.length : Int) l l.length)
  | 0, i, _, hm => by omega
  | m + 1, i, h1, h2 => by
    simp only [G40_16, p40_16]
    by_cases hi : i < l.length
    · have hd : decide ((i : Int) < (l.length : Int)) = true := by simpa using hi
      have hbn : bnd (i : Int) (l.length : Int) = true := by unfold bnd; simp; omega
      have hp := prod_ok h hb i
      have hsl := smP_len T (l.length : Int) l i
      have cl : (ceQ T l.length i).length = l.length := by simp [ceQ, ceP]; omega
      have ew : IntKind.u64.wrap ((l.length : Int) * l.getD i 0) = (l.length : Int) * l.getD i 0 := wrap_u64 hp.1 (by omega)
      simp only [hd, hbn, Int.toNat_natCast, hasP_len (n := (l.length : Int)) h1, cl, ew, hasP_set hi, ceQ_set hi, hasP_len (n := (l.length : Int)) (show i + 1 ≤ l.length by omega)]
      have hg : (hasP (l.length : Int) l (i + 1)).getD i 0 = (l.length : Int) * l.getD i 0 := by
        rw [← hasP_set hi, getD_set_eq' _ _ (by rw [hasP_len h1]; exact hi)]
      simp only [hbn, hg]
      by_cases hlt : (l.length : Int) * l.getD i 0 < T
      · obtain ⟨q1, q2⟩ := smP_lt hlt
        have dd : decide ((smP T (l.length : Int) l i).length + [(i : Int)].length ≤ 17592186044416) = true := decide_eq_true (by simp; omega)
        simp only [decide_eq_true hlt, dd]
        rw [q1, q2, wrap_i64 (n := (i : Int) + 1) (by omega) (by omega)]
        exact G40_16_eq R h hlen hb x5 k0 m (i + 1) (by omega) (by omega)
      · obtain ⟨q1, q2⟩ := smP_ge hlt
        have dd : decide ((laP T (l.length : Int) l i).length + [(i : Int)].length ≤ 17592186044416) = true := decide_eq_true (by simp; omega)
        simp only [decide_eq_false hlt, dd]
        rw [q1, q2, wrap_i64 (n := (i : Int) + 1) (by omega) (by omega)]
        exact G40_16_eq R h hlen hb x5 k0 m (i + 1) (by omega) (by omega)
    · have : i = l.length := by omega
      subst this
      have hd : decide ((l.length : Int) < (l.length : Int)) = false := by simp
      simp only [hd]
      have : ceQ T l.length l.length = ceP T l.length := by simp [ceQ]
      rw [this]
theorem hasP_get {n : Int} {l : List Int} {j : Nat} (hj : j < l.length) : (hasP n l l.length).getD j 0 = n * l.getD j 0 := by
  simp [hasP, hj]
theorem mem_smP {T n : Int} {l : List Int} {i : Nat} {x : Int} (h : x ∈ smP T n l i) : ∃ j : Nat, x = (j : Int) ∧ j < i ∧ n * l.getD j 0 < T := by
  simp only [smP, List.mem_map, List.mem_filter, List.mem_range, decide_eq_true_eq] at h
  obtain ⟨j, ⟨h1, h2⟩, rfl⟩ := h
  exact ⟨j, rfl, h1, h2⟩
theorem mem_laP {T n : Int} {l : List Int} {i : Nat} {x : Int} (h : x ∈ laP T n l i) : ∃ j : Nat, x = (j : Int) ∧ j < i ∧ ¬ n * l.getD j 0 < T := by
  simp only [laP, List.mem_map, List.mem_filter, List.mem_range, Bool.not_eq_true', decide_eq_false_iff_not] at h
  obtain ⟨j, ⟨h1, h2⟩, rfl⟩ := h
  exact ⟨j, rfl, h1, h2⟩
theorem nodup_cast {l : List Nat} (h : l.Nodup) : (l.map fun j : Nat => (j : Int)).Nodup := by
  induction l with
  | nil => simp
  | cons a l ih =>
    rw [List.nodup_cons] at h
    rw [List.map_cons, List.nodup_cons]
    refine ⟨fun hm => ?_, ih h.2⟩
    obtain ⟨b, hb, e⟩ := List.mem_map.1 hm
    have : b = a := by omega
    subst this
    exact h.1 hb
theorem IA_start {l : List Int} (h : AllU64 l) {T : Int} (hb : (l.length : Int) * totS l < 9223372036854775808) : IA T l.length (hasP (l.length : Int) l l.length) (ceP T l.length) (smP T (l.length : Int) l l.length) (laP T (l.length : Int) l l.length) := by
  refine ⟨hasP_len (Nat.le_refl _), by simp [ceP], fun x hx => ?_, ?_, fun x hx => ?_, fun x hx => ?_⟩
  · rcases List.mem_append.1 hx with hx | hx
    · obtain ⟨j, rfl, hj, _⟩ := mem_smP hx; omega
    · obtain ⟨j, rfl, hj, _⟩ := mem_laP hx; omega
  · rw [List.nodup_append]
    refine ⟨nodup_cast (List.nodup_range.sublist List.filter_sublist), nodup_cast (List.nodup_range.sublist List.filter_sublist), fun a ha b hb e => ?_⟩
    obtain ⟨j, e1, _, h1⟩ := mem_smP ha
    obtain ⟨j', e2, _, h2⟩ := mem_laP hb
    have : j = j' := by omega
    subst this
    exact h2 h1
  · obtain ⟨j, rfl, hj, h1⟩ := mem_smP hx
    rw [Int.toNat_natCast, hasP_get hj]
    exact ⟨(prod_ok h hb j).1, h1⟩
  · obtain ⟨j, rfl, hj, h1⟩ := mem_laP hx
    rw [Int.toNat_natCast, hasP_get hj]
    exact ⟨by omega, (prod_ok h hb j).2⟩
def tabC (l : List Int) : List CellA := (runA (totS l) l.length (hasP (l.length : Int) l l.length) (ceP (totS l) l.length) (smP (totS l) (l.length : Int) l l.length) (laP (totS l) (l.length : Int) l l.length)).2.1
def tabR (l : List Int) : TabA × Int :=
  if l.length = 0 then ((0, [], ()), 10) else if ¬ totS l < 9223372036854775808 then ((0, [], ()), 11) else if totS l = 0 then ((0, [], ()), 10)
  else if ¬ (l.length : Int) * totS l < 9223372036854775808 then ((0, [], ()), 11) else ((totS l, tabC l, ()), 0)
theorem tabR_len {l : List Int} (h0 : l.length = 0) : tabR l = ((0, [], ()), 10) := by unfold tabR; rw [if_pos h0]
theorem tabR_big {l : List Int} (h0 : l.length ≠ 0) (ht : ¬ totS l < 9223372036854775808) : tabR l = ((0, [], ()), 11) := by unfold tabR; rw [if_neg h0, if_pos ht]
theorem tabR_zero {l : List Int} (h0 : l.length ≠ 0) (hz : totS l = 0) : tabR l = ((0, [], ()), 10) := by unfold tabR; rw [if_neg h0, if_neg (by simp [hz]), if_pos hz]
theorem tabR_prod {l : List Int} (h0 : l.length ≠ 0) (ht : totS l < 9223372036854775808) (hz : totS l ≠ 0) (hb : ¬ (l.length : Int) * totS l < 9223372036854775808) : tabR l = ((0, [], ()), 11) := by
  unfold tabR; rw [if_neg h0, if_neg (by simpa using ht), if_neg hz, if_pos hb]
theorem tabR_ok {l : List Int} (h0 : l.length ≠ 0) (ht : totS l < 9223372036854775808) (hz : totS l ≠ 0) (hb : (l.length : Int) * totS l < 9223372036854775808) : tabR l = ((totS l, tabC l, ()), 0) := by
  unfold tabR; rw [if_neg h0, if_neg (by simpa using ht), if_neg hz, if_neg (by simpa using hb)]
def TabOk (l : List Int) : Prop := l.length ≠ 0 ∧ totS l < 9223372036854775808 ∧ totS l ≠ 0 ∧ (l.length : Int) * totS l < 9223372036854775808
theorem tab_cases (l : List Int) : (TabOk l ∧ tabR l = ((totS l, tabC l, ()), 0)) ∨ (¬ TabOk l ∧ (tabR l = ((0, [], ()), 10) ∨ tabR l = ((0, [], ()), 11))) := by
  unfold TabOk
  by_cases h0 : l.length = 0
  · exact .inr ⟨fun h => h.1 h0, .inl (tabR_len h0)⟩
  by_cases ht : totS l < 9223372036854775808
  · by_cases hz : totS l = 0
    · exact .inr ⟨fun h => h.2.2.1 hz, .inl (tabR_zero h0 hz)⟩
    · by_cases hb : (l.length : Int) * totS l < 9223372036854775808
      · exact .inl ⟨⟨h0, ht, hz, hb⟩, tabR_ok h0 ht hz hb⟩
      · exact .inr ⟨fun h => hb h.2.2.2, .inr (tabR_prod h0 ht hz hb)⟩
  · exact .inr ⟨fun h => ht h.2.1, .inr (tabR_big h0 ht)⟩
theorem F88_eq (R : Type) {l : List Int} (h : AllU64 l) (hlen : l.length ≤ 1000) (k : Int → Int → Option R) (K : TabA → Int → Option R) (h1 : TabOk l → k (totS l) 0 = K (tabR l).1 0) (h2 : ∀ e, e ≠ 0 → k 0 e = K (0, [], ()) e) : F88 R l k = K (tabR l).1 (tabR l).2 := by
  simp only [F88, p88]
  rw [wrap_u64 (n := (l.length : Int)) (by omega) (by omega)]
  by_cases h0 : l.length = 0
  · have e : ((l.length : Int) == 0) = true := by simp [h0]
    simp only [e]
    rw [tabR_len h0]
    exact h2 10 (by omega)
  · have e : ((l.length : Int) == 0) = false := by simp [h0]
    simp only [e]
    rw [F91_eq R h (by omega)]
    have hnn := sumS_nonneg h l.length
    by_cases ht : totS l < 9223372036854775808
    · rw [if_pos ht]
      simp only [Bool.not_true]
      by_cases hz : totS l = 0
      · have e : (totS l == 0) = true := by simp [hz]
        simp only [e]
        rw [tabR_zero h0 hz]
        exact h2 10 (by omega)
      · have e : (totS l == 0) = false := by simp [hz]
        simp only [e]
        rw [F79_eq R (by unfold U64; omega) (show U64 (totS l) from by unfold U64; exact ⟨hnn, by omega⟩)]
        by_cases hb : (l.length : Int) * totS l < 9223372036854775808
        · rw [if_pos hb]
          simp only [Bool.not_true]
          rw [h1 ⟨h0, ht, hz, hb⟩, tabR_ok h0 ht hz hb]
        · rw [if_neg hb, tabR_prod h0 ht hz hb]
          simp only [Bool.not_false]
          exact h2 11 (by omega)
    · rw [if_neg ht, tabR_big h0 ht]
      simp only [Bool.not_false]
      exact h2 11 (by omega)
theorem F49_eq (R : Type) {l : List Int} (h : AllU64 l) (hlen : l.length ≤ 1000) (k : TabA → Int → Option R) : F49 R l k = k (tabR l).1 (tabR l).2 := by
  simp only [F49, p49]
  refine F88_eq R h hlen _ k (fun hc => ?_) (fun e he => ?_)
  · have n0 : ((0 : Int) != 0) = false := rfl
    simp only [n0]
    · obtain ⟨h0, ht, hz, hb⟩ := hc
      have hnn := sumS_nonneg h l.length
      have hpos : 0 < totS l := by have : 0 ≤ totS l := hnn; omega
      rw [tabR_ok h0 ht hz hb]
      have dc : decide (0 ≤ (l.length : Int) ∧ (l.length : Int) ≤ (l.length : Int) ∧ (l.length : Int) ≤ (17592186044416 : Int)) = true := decide_eq_true (by omega)
      simp only [dc, Int.toNat_natCast]
      have g := G49_7_eq R h hlen (T := totS l) hb (0, [], ()) (fun x7 x8 x9 x10 x11 x12 => G49_13 FUEL R x7 x8 x9 x10 x11 (x12.1, ()) (fun x13 x14 x15 x16 x17 x18 => k (x18.1, x15, ()) 0)) FUEL 0 (by omega) (by rw [FUEL_eq]; omega)
      have q0 : hasP (l.length : Int) l 0 = List.replicate l.length 0 := by simp [hasP]
      rw [q0] at g
      refine g.trans ?_
      rw [G49_13_eq R (n := l.length) ⟨hpos, ht⟩ hlen _ _ l.length FUEL _ _ _ _ (IA_start h hb) (smP_len _ _ _ _) (by omega) (by rw [FUEL_eq]; omega)]
      rfl
  · have n1 : (e != 0) = true := by simp [he]
    simp only [n1]
theorem F40_eq (R : Type) {l : List Int} (h : AllU64 l) (hlen : l.length ≤ 1000) (k : TabA → Int → Option R) : F40 R l k = k (tabR l).1 (tabR l).2 := by
  simp only [F40, p40]
  by_cases h0 : l.length = 0
  · have e : ((l.length : Int) == 0) = true := by simp [h0]
    rw [tabR_len h0]
    simp only [e]
  · have e : ((l.length : Int) == 0) = false := by simp [h0]
    simp only [e]
    rw [F52_eq' R h (by omega)]
    have hnn := sumS_nonneg h l.length
    by_cases ht : totS l < 9223372036854775808
    · rw [if_pos ht]
      simp only [Bool.not_true]
      by_cases hz : totS l = 0
      · have e : (totS l == 0) = true := by simp [hz]
        rw [tabR_zero h0 hz]
        simp only [e]
      · have e : (totS l == 0) = false := by simp [hz]
        have hpos : 0 < totS l := by have : 0 ≤ totS l := hnn; omega
        simp only [e]
        rw [wrap_u64 (n := (l.length : Int)) (by omega) (by omega), F78_eq R (by unfold U64; omega) (show U64 (totS l) from by unfold U64; exact ⟨hnn, by omega⟩)]
        by_cases hb : (l.length : Int) * totS l < 9223372036854775808
        · rw [if_pos hb, tabR_ok h0 ht hz hb]
          have dc : decide (0 ≤ (l.length : Int) ∧ (l.length : Int) ≤ (l.length : Int) ∧ (l.length : Int) ≤ (17592186044416 : Int)) = true := decide_eq_true (by omega)
          have dc2 : decide (0 ≤ (l.length : Int) ∧ (l.length : Int) ≤ (l.length : Int) ∧ (l.length : Int) ≤ (8796093022208 : Int)) = true := decide_eq_true (by omega)
          simp only [Bool.not_true, dc, dc2, Int.toNat_natCast]
          have g := G40_16_eq R h hlen (T := totS l) hb (0, [], ()) (fun x14 x15 x16 x17 x18 x19 => G40_23 FUEL R x14 x15 x16 x17 x18 x19 (fun x20 x21 x22 => k (x20, x22, ()) 0)) FUEL 0 (by omega) (by rw [FUEL_eq]; omega)
          have q0 : hasP (l.length : Int) l 0 = List.replicate l.length 0 := by simp [hasP]
          have q1 : ceQ (totS l) l.length 0 = List.replicate l.length (0, 0, ()) := by simp [ceQ, ceP]
          rw [q0, q1] at g
          refine g.trans ?_
          rw [G40_23_eq R (n := l.length) ⟨hpos, ht⟩ hlen _ _ l.length FUEL _ _ _ _ (IA_start h hb) (smP_len _ _ _ _) (by omega) (by rw [FUEL_eq]; omega)]
          rfl
        · rw [if_neg hb, tabR_prod h0 ht hz hb]
          simp only [Bool.not_false]
    · rw [if_neg ht, tabR_big h0 ht]
      simp only [Bool.not_false]
end Go.PG
namespace Go.PG
theorem runA_IA {T : Int} {n : Nat} : ∀ (f : Nat) (h : List Int) (c : List CellA) (sm la : List Int), IA T n h c sm la → IA T n (runA T f h c sm la).1 (runA T f h c sm la).2.1 (runA T f h c sm la).2.2.1 (runA T f h c sm la).2.2.2
  | 0, h, c, sm, la, hI => hI
  | f + 1, h, c, sm, la, hI => by
    by_cases hs : sm.length = 0 ∨ la.length = 0
    · rw [runA_stop hs]; exact hI
    · obtain ⟨s0, i, rfl⟩ := snoc_of (fun e => hs (.inl e))
      obtain ⟨l0, k, rfl⟩ := snoc_of (fun e => hs (.inr e))
      obtain ⟨_, st1, st2⟩ := hI.step
      rw [runA_step]
      by_cases hlt : (stepH T h i k).getD k.toNat 0 < T
      · rw [if_pos hlt]; exact runA_IA f _ _ _ _ (st1 hlt)
      · rw [if_neg hlt]; exact runA_IA f _ _ _ _ (st2 hlt)
theorem tabC_len {l : List Int} (h : AllU64 l) (hb : (l.length : Int) * totS l < 9223372036854775808) : (tabC l).length = l.length := (runA_IA l.length _ _ _ _ (IA_start h hb)).cl
theorem tab_fit {l : List Int} (h : AllU64 l) : U64 (tabR l).1.1 ∧ (tabR l).1.2.1.length ≤ l.length := by
  have hnn := sumS_nonneg h l.length
  rcases tab_cases l with ⟨⟨h0, ht, hz, hb⟩, e⟩ | ⟨hn, e | e⟩
  · rw [e]
    exact ⟨by unfold U64; exact ⟨hnn, by have : totS l < 9223372036854775808 := ht; show totS l < _; omega⟩, by show (tabC l).length ≤ _; rw [tabC_len h hb]; exact Nat.le_refl _⟩
  · rw [e]; exact ⟨by unfold U64; simp, by simp⟩
  · rw [e]; exact ⟨by unfold U64; simp, by simp⟩
def pickL (l : List Int) (s : Src) (m : Int) : Int × Src × Int := if (tabR l).2 = 0 then pickR (tabR l).1 s m else (0, s, (tabR l).2)
theorem F16_eq (R : Type) {l : List Int} (h : AllU64 l) (hlen : l.length ≤ 1000) {s : Src} (hs : SOK s) (m : Int) (k : Int → Src → Int → Option R) : F16 R s m l k = k (pickL l s m).1 (pickL l s m).2.1 (pickL l s m).2.2 := by
  simp only [F16, p16]
  rw [F49_eq R h hlen]
  obtain ⟨f1, f2⟩ := tab_fit h
  unfold pickL
  by_cases he : (tabR l).2 = 0
  · have e1 : ((tabR l).2 != 0) = false := by simp [he]
    rw [if_pos he]
    simp only [e1]
    rw [F12_eq R f1 (by omega) hs]
  · have e1 : ((tabR l).2 != 0) = true := by simp [he]
    rw [if_neg he]
    simp only [e1]
theorem F17_eq (R : Type) {l : List Int} (h : AllU64 l) (hlen : l.length ≤ 1000) {s : Src} (hs : SOK s) (m : Int) (k : Int → Src → Int → Option R) : F17 R l s m k = k (pickL l s m).1 (pickL l s m).2.1 (pickL l s m).2.2 := by
  simp only [F17, p17]
  rw [F40_eq R h hlen]
  obtain ⟨f1, f2⟩ := tab_fit h
  unfold pickL
  by_cases he : (tabR l).2 = 0
  · have e1 : ((tabR l).2 != 0) = false := by simp [he]
    rw [if_pos he]
    simp only [e1]
    rw [F13_eq R f1 (by omega) hs]
  · have e1 : ((tabR l).2 != 0) = true := by simp [he]
    rw [if_neg he]
    simp only [e1]
theorem F11_eq (R : Type) (k : Bool → Option R) : F11 R k = k true := by
  have u96 : AllU8 [160] := by unfold AllU8 U8; decide
  have n8 : U64 8 := by unfold U64; decide
  have a1 : AllU64 [3, 1] := by unfold AllU64 U64; decide
  have a0 : AllU64 [] := fun x hx => by simp at hx
  have s1 := tapeSrc_ok u96 (by simp) n8
  have s2 := s1.set (n := 3) (by unfold U64; decide)
  simp only [F11, p11]
  rw [F39_eq R (by simp)]
  have t1 : tapeR [160] 8 = (tapeSrc [160] 8, 0) := by kernel_rfl
  simp only [t1]
  obtain ⟨f1, f2⟩ := tab_fit a1
  have fz : U64 ((0, [], ()) : TabA).1 := by unfold U64; simp
  rw [F40_eq R a1 (by simp), F12_eq R f1 (by simp at f2; omega) s1, F16_eq R a1 (by simp) s1, F12_eq R fz (by simp) s1, F16_eq R a0 (by simp) s1]
  have d1 : pickR (tabR [3, 1]).1 (tapeSrc [160] 8) 1 = (1, setAt (tapeSrc [160] 8) 3, 0) := by kernel_rfl
  have d2 : pickL [3, 1] (tapeSrc [160] 8) 1 = (1, setAt (tapeSrc [160] 8) 3, 0) := by kernel_rfl
  have d3 : pickR (0, [], ()) (tapeSrc [160] 8) 1 = (0, tapeSrc [160] 8, 1) := by kernel_rfl
  have d4 : pickL [] (tapeSrc [160] 8) 1 = (0, tapeSrc [160] 8, 10) := by kernel_rfl
  have d5 : pickR (tabR [3, 1]).1 (setAt (tapeSrc [160] 8) 3) 1 = (0, setAt (tapeSrc [160] 8) 6, 0) := by kernel_rfl
  rw [d1, d2, d3, d4]
  simp only []
  rw [F12_eq R f1 (by simp at f2; omega) s2, d5]
  rfl
theorem F3_eq' (R : Type) {t : TabA} (ht : U64 t.1) {s : Src} (hs : SFit s) (m : Int) (k : Bool → Option R) : F3 R t s m k = k true := by
  simp only [F3, p3]
  rw [F11_eq]
  simp only [Bool.not_true]
  by_cases h1 : (t.2.1.length : Int) > 200
  · simp only [decide_eq_true h1]
  simp only [decide_eq_false h1]
  by_cases h2 : (s.2.1.length : Int) > 500
  · simp only [decide_eq_true h2]
  simp only [decide_eq_false h2]
  have ho := hs.ok (by omega)
  rw [F12_eq R ht (by omega) ho, F13_eq R ht (by omega) ho]
  simp only [beq_self_eq_true]
  rw [F14_eq, sameS_self]
theorem G4_eq' (R : Type) (l : List Int) (hlen : l.length ≤ 200) (x2 x3 x4 x5 : Int) (x8 x9 : Src) (k0 : Bool → Option R) (k1 : Int → Int → Int → Int → Src → Src → Option R) : ∀ (m i : Nat), i ≤ l.length → l.length - i < m → G4_9 m R l x2 x3 x4 x5 (i : Int) l x8 x9 k0 k1 = k1 x2 x3 x4 x5 x8 x9
  | 0, i, _, h => by omega
  | m + 1, i, h1, h2 => by
    simp only [G4_9, p4_9]
    by_cases hi : i < l.length
    · have hd : decide ((i : Int) < (l.length : Int)) = true := by simpa using hi
      have hbn : bnd (i : Int) (l.length : Int) = true := by unfold bnd; simp; omega
      simp only [hd, hbn, bne_self_eq_false]
      rw [wrap_i64 (n := (i : Int) + 1) (by omega) (by omega)]
      exact G4_eq' R l hlen x2 x3 x4 x5 x8 x9 k0 k1 m (i + 1) (by omega) (by omega)
    · have : i = l.length := by omega
      subst this
      have hd : decide ((l.length : Int) < (l.length : Int)) = false := by simp
      simp only [hd]
theorem F4_eq' (R : Type) {l : List Int} (h : AllU64 l) {s : Src} (hs : SFit s) (m : Int) (k : Bool → Option R) : F4 R l s m k = k true := by
  simp only [F4, p4]
  rw [F11_eq]
  simp only [Bool.not_true]
  rw [F15_eq']
  by_cases hg : (l.length : Int) > 200 ∨ (s.2.1.length : Int) > 500
  · simp only [decide_eq_true hg]
  simp only [decide_eq_false hg]
  have ho := hs.ok (by omega)
  have hc : decide (List.length ([] : List Int) + l.length ≤ 17592186044416) = true := by simp; omega
  simp only [hc, List.nil_append]
  rw [F16_eq R h (by omega) ho, F17_eq R h (by omega) ho]
  refine (G4_eq' R l (by omega) _ _ _ _ _ _ _ _ FUEL 0 (by omega) (by rw [FUEL_eq]; omega)).trans ?_
  simp only [beq_self_eq_true]
  rw [F14_eq, sameS_self]
end Go.PG
