/- A part of the proofs over this seat (own work; the framework that reads a Go function as a pure one, or a use of it). No condition of its own. -/
import Derived.Test.YtckdjafnemoloaaM5
set_option linter.unusedVariables false
set_option linter.unusedSimpArgs false
namespace Go.PG
theorem tapeX_len (x T : Nat) : (bytesX x T T).length = (T + 7) / 8 := by simp [bytesX]
theorem tapeX_ok (x : Nat) {T : Nat} (hT : T ≤ 12) : SOK (tapeX x T) := tapeSrc_ok (bytesX_u8 _ _ _) (by rw [tapeX_len]; omega) (by unfold U64; omega)
theorem tapeX_right (x : Nat) {T a : Nat} (ha : a ≤ T) : rightS' (setAt (tapeX x T) (a : Int)) = true ∧ leftS (setAt (tapeX x T) (a : Int)) = ((T - a : Nat) : Int) := by
  have hr : rightS' (setAt (tapeX x T) (a : Int)) = true := by
    unfold rightS'
    rw [if_pos (show (setAt (tapeX x T) (a : Int)).1 = 1 from rfl)]
    refine decide_eq_true ⟨?_, ?_⟩
    · show (T : Int) ≤ 8 * ((bytesX x T T).length : Int)
      rw [tapeX_len]; omega
    · show (a : Int) ≤ (T : Int)
      omega
  refine ⟨hr, ?_⟩
  unfold leftS
  rw [if_pos hr]
  show (T : Int) - (a : Int) = _
  omega
theorem draw_tape {b k x T : Nat} (hk : needS (b : Int) = k) (hk4 : k ≤ 64) (hT : T ≤ 12) : ∀ (t : Nat), k * t ≤ T →
    (∀ v, outO b (2 ^ k) t (x % (2 ^ k) ^ t) = some v → v < b ∧ ∃ a : Nat, a ≤ T ∧ drawF (b : Int) t (setAt (tapeX x T) ((T - k * t : Nat) : Int)) = ((v : Int), setAt (tapeX x T) (a : Int), 0)) ∧
    (outO b (2 ^ k) t (x % (2 ^ k) ^ t) = none → drawF (b : Int) t (setAt (tapeX x T) ((T - k * t : Nat) : Int)) = (0, setAt (tapeX x T) (T : Int), 9))
  | 0, _ => ⟨fun v h => by simp [outO] at h, fun _ => rfl⟩
  | t + 1, ht => by
    rw [Nat.mul_add, Nat.mul_one] at ht
    obtain ⟨i1, i2⟩ := draw_tape (x := x) hk hk4 hT t (by omega)
    have hr := tapeX_right x (T := T) (a := T - k * (t + 1)) (by omega)
    have hTa : T - (T - k * (t + 1)) = k * t + k := by rw [Nat.mul_add, Nat.mul_one]; omega
    have htk : takeR (setAt (tapeX x T) ((T - k * (t + 1) : Nat) : Int)) (needS (b : Int)) = (((x / (2 ^ k) ^ t % 2 ^ k : Nat) : Int), setAt (tapeX x T) ((T - k * t : Nat) : Int), 0) := by
      rw [hk, takeR_ok hr.1 hk4 (by rw [hr.2, hTa]; omega), atS_set, takeV_set, take_tape k (T - k * (t + 1)) (by rw [Nat.mul_add, Nat.mul_one]; omega), setAt_set, hTa, Nat.add_sub_cancel, ← Nat.pow_mul]
      congr 3
      rw [Nat.mul_add, Nat.mul_one]
      omega
    have hp : 0 < (2 ^ k) ^ t := Nat.pow_pos (Nat.pow_pos (by omega))
    have e1 : x % (2 ^ k) ^ (t + 1) / (2 ^ k) ^ t = x / (2 ^ k) ^ t % 2 ^ k := by
      rw [Nat.pow_succ, Nat.mod_mul_right_div_self]
    have e2 : x % (2 ^ k) ^ (t + 1) % (2 ^ k) ^ t = x % (2 ^ k) ^ t := by
      rw [Nat.pow_succ, Nat.mod_mul_right_mod]
    simp only [outO, e1, e2, drawF, htk]
    generalize x / (2 ^ k) ^ t % 2 ^ k = d at *
    by_cases hd : d < b
    · have hd' : (d : Int) < (b : Int) := by omega
      rw [if_pos hd]
      simp only [hd', if_true]
      refine ⟨fun v h => ?_, fun h => by cases h⟩
      cases h
      exact ⟨hd, T - k * t, by omega, rfl⟩
    · have hd' : ¬ (d : Int) < (b : Int) := by omega
      rw [if_neg hd]
      simp only [hd', if_true, if_false]
      exact ⟨i1, i2⟩
def gotS (b B t x : Nat) : List Int := (List.range 16).map fun v => ((cnt (fun y => outO b B t y == some v) x : Nat) : Int)
theorem cntX_le (p : Nat → Bool) (n : Nat) : cnt p n ≤ n := by
  unfold cnt
  have := List.countP_le_length (p := p) (l := List.range n)
  simpa using this
theorem gotS_get {b B t x v : Nat} (hv : v < 16) : (gotS b B t x).getD v 0 = ((cnt (fun y => outO b B t y == some v) x : Nat) : Int) := by
  unfold gotS
  simp [hv]
theorem gotS_some {b B t x v : Nat} (h : outO b B t x = some v) (hv : v < 16) : gotS b B t (x + 1) = (gotS b B t x).set v (((cnt (fun y => outO b B t y == some v) x : Nat) : Int) + 1) := by
  unfold gotS
  apply List.ext_getElem?
  intro q
  rw [List.getElem?_set, List.getElem?_map, List.getElem?_map]
  simp only [List.length_map, List.length_range]
  by_cases hq : q < 16
  · rw [List.getElem?_range hq]
    by_cases e : v = q
    · subst e
      rw [if_pos rfl, if_pos hq]
      simp only [Option.map_some]
      rw [cnt_succ]
      simp [h]
    · rw [if_neg e]
      simp only [Option.map_some]
      rw [cnt_succ]
      have : (outO b B t x == some q) = false := by rw [h]; simp [e]
      rw [this]
      simp
  · rw [List.getElem?_eq_none (by simp; omega), if_neg (by omega)]
    rfl
theorem gotS_none {b B t x : Nat} (h : outO b B t x = none) : gotS b B t (x + 1) = gotS b B t x := by
  unfold gotS
  refine List.map_congr_left (fun v _ => ?_)
  rw [cnt_succ]
  have : (outO b B t x == some v) = false := by rw [h]; rfl
  rw [this]
  simp
theorem gotS_zero (b B t : Nat) : gotS b B t 0 = List.replicate 16 0 := by
  unfold gotS cnt
  simp
  rfl
theorem G18_10_eq (R : Type) {b k t : Nat} (hb0 : 0 < b) (hb : b ≤ 16) (hk : needS (b : Int) = k) (hk4 : k ≤ 4) (ht0 : 0 < t) (ht : t ≤ 4) (hT : k * t ≤ 12) (k0 : Bool → Option R) (k1 : Int → Int → Int → Int → List Int → Option R) :
    ∀ (m x : Nat), x ≤ 2 ^ (k * t) → 2 ^ (k * t) - x < m → G18_10 m R (b : Int) (t : Int) (k : Int) ((cnt (fun y => outO b (2 ^ k) t y == none) x : Nat) : Int) (x : Int) (gotS b (2 ^ k) t x) k0 k1 =
      k1 (b : Int) (t : Int) (k : Int) ((cnt (fun y => outO b (2 ^ k) t y == none) (2 ^ (k * t)) : Nat) : Int) (gotS b (2 ^ k) t (2 ^ (k * t)))
  | 0, x, _, h => by omega
  | m + 1, x, h1, h2 => by
    simp only [G18_10, p18_10]
    have h12 : 2 ^ (k * t) ≤ 2 ^ 12 := Nat.pow_le_pow_right (by omega) hT
    have ekt : IntKind.i64.wrap ((k : Int) * (t : Int)) = ((k * t : Nat) : Int) := by
      rw [← Int.natCast_mul]
      exact wrap_i64 (by omega) (by omega)
    rw [ekt, F66_eq R (n := k * t) (by omega) (two_pow_ok (by omega))]
    have ep : (2 : Int) ^ (k * t) = ((2 ^ (k * t) : Nat) : Int) := by simp
    rw [ep]
    by_cases hx : x < 2 ^ (k * t)
    · have hd : decide ((x : Int) < ((2 ^ (k * t) : Nat) : Int)) = true := decide_eq_true (by omega)
      simp only [hd]
      rw [F67_eq R hT hx, wrap_u64 (n := ((k * t : Nat) : Int)) (by omega) (by omega), F59_eq R (by rw [tapeX_len]; omega)]
      have etr : tapeR (bytesX x (k * t) (k * t)) ((k * t : Nat) : Int) = (tapeX x (k * t), 0) := by
        unfold tapeR
        rw [if_pos (by rw [tapeX_len]; omega)]
        rfl
      simp only [etr]
      rw [F62_eq R (tapeX_ok x hT) (by unfold U64; omega)]
      have hs0 : tapeX x (k * t) = setAt (tapeX x (k * t)) ((k * t - k * t : Nat) : Int) := by rw [Nat.sub_self]; rfl
      have hr0 : rightS' (tapeX x (k * t)) = true := by rw [hs0, Nat.sub_self]; exact (tapeX_right x (Nat.zero_le _)).1
      have edr : drawR (tapeX x (k * t)) (b : Int) (t : Int) = drawF (b : Int) t (setAt (tapeX x (k * t)) ((k * t - k * t : Nat) : Int)) := by
        rw [← hs0]
        unfold drawR
        rw [if_pos ⟨hr0, by omega, by omega, by omega, by omega⟩, Int.toNat_natCast]
      have hxm : x % (2 ^ k) ^ t = x := Nat.mod_eq_of_lt (by rw [← Nat.pow_mul]; exact hx)
      obtain ⟨d1, d2⟩ := draw_tape (x := x) hk (by omega) hT t (Nat.le_refl _)
      rw [hxm] at d1 d2
      rw [edr]
      have ebits : (tapeX x (k * t)).2.2.1 = ((k * t : Nat) : Int) := rfl
      have hat : ∀ a : Int, (setAt (tapeX x (k * t)) a).2.2.2.2.2.1 = a := fun _ => rfl
      cases ho : outO b (2 ^ k) t x with
      | some v =>
        obtain ⟨hv, a, ha, hdr⟩ := d1 v ho
        have g1 : decide ((a : Int) > ((k * t : Nat) : Int)) = false := decide_eq_false (by omega)
        have g2 : decide ((v : Int) < (b : Int)) = true := decide_eq_true (by omega)
        have g3 : bnd (v : Int) 16 = true := by unfold bnd; simp; omega
        simp only [hdr, ebits, hat, g1, beq_self_eq_true, g2, g3, Int.toNat_natCast]
        rw [gotS_get (by omega)]
        have hc := cntX_le (fun y => outO b (2 ^ k) t y == some v) x
        rw [wrap_u64 (n := ((cnt (fun y => outO b (2 ^ k) t y == some v) x : Nat) : Int) + 1) (by omega) (by omega), ← gotS_some ho (by omega), wrap_u64 (n := (x : Int) + 1) (by omega) (by omega)]
        have e : cnt (fun y => outO b (2 ^ k) t y == none) x = cnt (fun y => outO b (2 ^ k) t y == none) (x + 1) := by
          rw [cnt_succ]
          have : (outO b (2 ^ k) t x == none) = false := by rw [ho]; rfl
          rw [this]; simp
        rw [e]
        exact G18_10_eq R hb0 hb hk hk4 ht0 ht hT k0 k1 m (x + 1) (by omega) (by omega)
      | none =>
        have hdr := d2 ho
        have g1 : decide (((k * t : Nat) : Int) > ((k * t : Nat) : Int)) = false := decide_eq_false (by omega)
        have g2 : ((9 : Int) == 0) = false := rfl
        simp only [hdr, ebits, hat, g1, beq_self_eq_true, g2]
        have hc := cntX_le (fun y => outO b (2 ^ k) t y == none) x
        rw [wrap_u64 (n := ((cnt (fun y => outO b (2 ^ k) t y == none) x : Nat) : Int) + 1) (by omega) (by omega), wrap_u64 (n := (x : Int) + 1) (by omega) (by omega), ← gotS_none ho]
        have e : ((cnt (fun y => outO b (2 ^ k) t y == none) x : Nat) : Int) + 1 = ((cnt (fun y => outO b (2 ^ k) t y == none) (x + 1) : Nat) : Int) := by
          rw [cnt_succ]
          have : (outO b (2 ^ k) t x == none) = true := by rw [ho]; rfl
          rw [this]; simp
        rw [e]
        exact G18_10_eq R hb0 hb hk hk4 ht0 ht hT k0 k1 m (x + 1) (by omega) (by omega)
    · have : x = 2 ^ (k * t) := by omega
      have hd : decide ((x : Int) < ((2 ^ (k * t) : Nat) : Int)) = false := decide_eq_false (by omega)
      simp only [hd]
      rw [this]
theorem G18_23_eq (R : Type) {b k t : Nat} (hb : b ≤ 16) (hbB : b ≤ 2 ^ k) (hT : k * t ≤ 12) (x4 : Int) (k0 : Bool → Option R) (k1 : Int → Int → Option R) :
    ∀ (m i : Nat), i ≤ b → b - i < m → G18_23 m R (b : Int) (t : Int) (k : Int) x4 (((2 ^ k - b) ^ t : Nat) : Int) (i : Int) (gotS b (2 ^ k) t (2 ^ (k * t))) k0 k1 = k1 x4 (((2 ^ k - b) ^ t : Nat) : Int)
  | 0, i, _, h => by omega
  | m + 1, i, h1, h2 => by
    simp only [G18_23, p18_23]
    by_cases hi : i < b
    · have hd : decide ((i : Int) < (b : Int)) = true := by simpa using hi
      have h12 : 2 ^ (k * t) ≤ 2 ^ 12 := Nat.pow_le_pow_right (by omega) hT
      have g3 : bnd (i : Int) 16 = true := by unfold bnd; simp; omega
      have ekt : IntKind.i64.wrap ((k : Int) * (t : Int)) = ((k * t : Nat) : Int) := by
        rw [← Int.natCast_mul]
        exact wrap_i64 (by omega) (by omega)
      simp only [hd, g3, Int.toNat_natCast]
      rw [gotS_get (by omega), ekt, F66_eq R (n := k * t) (by omega) (two_pow_ok (by omega))]
      have hcnt := count_some (B := 2 ^ k) (Nat.pow_pos (by omega)) hbB hi t
      rw [← Nat.pow_mul] at hcnt
      have ep : (2 : Int) ^ (k * t) = ((2 ^ (k * t) : Nat) : Int) := by simp
      rw [ep]
      generalize cnt (fun y => outO b (2 ^ k) t y == some i) (2 ^ (k * t)) = c at *
      obtain ⟨l, hl⟩ : ∃ l, l = (2 ^ k - b) ^ t := ⟨_, rfl⟩
      obtain ⟨N, hN⟩ : ∃ N, N = 2 ^ (k * t) := ⟨_, rfl⟩
      rw [← hl, ← hN] at hcnt ⊢
      rw [← hN] at h12
      have e5 : IntKind.u64.wrap ((c : Int) * (b : Int)) = ((c * b : Nat) : Int) := by
        rw [← Int.natCast_mul]
        exact wrap_u64 (by omega) (by omega)
      have e6 : IntKind.u64.wrap ((N : Int) - (l : Int)) = ((c * b : Nat) : Int) := by
        rw [show (N : Int) - (l : Int) = ((c * b : Nat) : Int) by omega]
        exact wrap_u64 (by omega) (by omega)
      have g4 : (((c * b : Nat) : Int) != ((c * b : Nat) : Int)) = false := by simp
      simp only [e5, e6, g4]
      rw [wrap_u64 (n := (i : Int) + 1) (by omega) (by omega)]
      have ih := G18_23_eq R (t := t) hb hbB hT x4 k0 k1 m (i + 1) (by omega) (by omega)
      rw [← hl, ← hN] at ih
      exact ih
    · have : i = b := by omega
      subst this
      have hd : decide ((i : Int) < (i : Int)) = false := by simp
      simp only [hd]
theorem F18_eq (R : Type) {n m : Int} (hn : 0 ≤ n ∧ n ≤ 255) (hm : 0 ≤ m ∧ m ≤ 255) (k : Bool → Option R) : F18 R n m k = k true := by
  simp only [F18, p18]
  rw [F61_eq]
  simp only [Bool.not_true]
  obtain ⟨b, hb, hb0, hb2⟩ : ∃ q : Nat, 1 + n % 16 = q ∧ 0 < q ∧ q ≤ 16 := ⟨(1 + n % 16).toNat, by omega, by omega, by omega⟩
  obtain ⟨t, ht, ht0, ht2⟩ : ∃ q : Nat, 1 + m % 4 = q ∧ 0 < q ∧ q ≤ 4 := ⟨(1 + m % 4).toNat, by omega, by omega, by omega⟩
  rw [Int.tmod_eq_emod_of_nonneg hn.1, Int.tmod_eq_emod_of_nonneg hm.1, wrap_u64 (n := n % 16) (by omega) (by omega), hb, wrap_i64 (n := m % 4) (by omega) (by omega), ht, wrap_u64 (n := (b : Int)) (by omega) (by omega), wrap_i64 (n := (t : Int)) (by omega) (by omega)]
  have hU : U64 (b : Int) := by unfold U64; omega
  rw [F64_eq R hU]
  obtain ⟨s1, s2, s3⟩ := need_spec hU
  generalize hq : needS (b : Int) = q at *
  have hq4 : q ≤ 4 := by
    by_cases h2 : (2 : Int) ≤ b
    · have := (s3 h2).2
      refine Classical.byContradiction fun h => ?_
      have h16 : (2 : Nat) ^ 4 ≤ 2 ^ (q - 1) := Nat.pow_le_pow_right (by omega) (by omega)
      have e : ((2 ^ (q - 1) : Nat) : Int) = (2 : Int) ^ (q - 1) := by simp
      omega
    · have hb1 : b = 1 := by omega
      subst hb1
      have : needS ((1 : Nat) : Int) = 0 := by kernel_rfl
      omega
  have d1 : decide ((q : Int) < 0) = false := decide_eq_false (by omega)
  have d2 : decide ((q : Int) > 4) = false := decide_eq_false (by omega)
  have eqt : IntKind.i64.wrap ((q : Int) * (t : Int)) = ((q * t : Nat) : Int) := by
    rw [← Int.natCast_mul]
    have : q * t ≤ 4 * 4 := Nat.mul_le_mul hq4 ht2
    exact wrap_i64 (by omega) (by omega)
  simp only [d1, d2, eqt]
  by_cases h12 : ((q * t : Nat) : Int) > 12
  · simp only [decide_eq_true h12]
    have d3 : decide ((q : Int) ≥ 0) = true := decide_eq_true (by omega)
    have d4 : decide ((q : Int) ≤ 4) = true := decide_eq_true (by omega)
    simp only [d3, d4]
  · simp only [decide_eq_false h12]
    have hT : q * t ≤ 12 := by omega
    have hbB : b ≤ 2 ^ q := by
      have e : ((2 ^ q : Nat) : Int) = (2 : Int) ^ q := by simp
      omega
    have g := G18_10_eq R hb0 hb2 hq hq4 ht0 ht2 hT (fun x19 => k x19) (fun x20 x21 x22 x23 x24 => F66 R 2 x22 fun y25 => F66 R (IntKind.u64.wrap (y25 - x20)) x21 fun y27 => G18_23 FUEL R x20 x21 x22 x23 y27 0 x24 (fun x28 => k x28) (fun x29 x30 => k (x29 == x30))) FUEL 0 (Nat.zero_le _) (by
      have : 2 ^ (q * t) ≤ 2 ^ 12 := Nat.pow_le_pow_right (by omega) hT
      rw [FUEL_eq]; omega)
    have z1 : cnt (fun y => outO b (2 ^ q) t y == none) 0 = 0 := rfl
    rw [z1, gotS_zero] at g
    refine Eq.trans ?_ (g.trans ?_)
    · rfl
    · rw [F66_eq R (n := q) (by omega) (two_pow_ok (by omega))]
      have e : (2 : Int) ^ q = ((2 ^ q : Nat) : Int) := by simp
      have hB16 : 2 ^ q ≤ 2 ^ 4 := Nat.pow_le_pow_right (by omega) hq4
      rw [e, wrap_u64 (n := ((2 ^ q : Nat) : Int) - (b : Int)) (by omega) (by omega), show ((2 ^ q : Nat) : Int) - (b : Int) = ((2 ^ q - b : Nat) : Int) by omega]
      have hpw : ∀ i ≤ t, 0 ≤ ((2 ^ q - b : Nat) : Int) ^ i ∧ ((2 ^ q - b : Nat) : Int) ^ i < 18446744073709551616 := fun i hi => by
        have h1 : (2 ^ q - b) ^ i ≤ (2 ^ 4) ^ i := Nat.pow_le_pow_left (by omega) i
        have h2 : (2 ^ 4) ^ i ≤ (2 ^ 4) ^ 4 := Nat.pow_le_pow_right (by omega) (by omega)
        rw [← Int.natCast_pow]
        omega
      rw [F66_eq R (n := t) (by omega) hpw, ← Int.natCast_pow]
      refine (G18_23_eq R hb2 hbB hT _ _ _ FUEL 0 (Nat.zero_le _) (by rw [FUEL_eq]; omega)).trans ?_
      rw [Nat.pow_mul, count_none (Nat.pow_pos (by omega))]
      simp
end Go.PG
