/- A part of the proofs over this seat (own work; the framework that reads a Go function as a pure one, or a use of it). No condition of its own. -/
import Derived.Test.YtckdjafnemoloaaPQ19
import Derived.Test.YtckdjafnemoloaaPHI
set_option linter.unusedVariables false
set_option linter.unusedSimpArgs false
namespace Go.PG
open Go.Proofs
abbrev Cfg := Int × Int × Int × Int × Int × Unit
def rightS (c : Cfg) : Bool := decide (1 ≤ c.1 ∧ c.1 ≤ 1024 ∧ 0 ≤ c.2.1 ∧ c.2.1 ≤ c.1 ∧ 0 ≤ c.2.2.1 ∧ c.2.2.1 ≤ c.1 - c.2.1 ∧ 1 ≤ c.2.2.2.1 ∧ c.2.2.2.1 ≤ 64 ∧ 1 ≤ c.2.2.2.2.1 ∧ c.2.2.2.2.1 ≤ 1048576)
theorem rightS_spec {c : Cfg} (h : rightS c = true) : 1 ≤ c.1 ∧ c.1 ≤ 1024 ∧ 0 ≤ c.2.1 ∧ c.2.1 ≤ c.1 ∧ 0 ≤ c.2.2.1 ∧ c.2.2.1 ≤ c.1 - c.2.1 ∧ 1 ≤ c.2.2.2.1 ∧ c.2.2.2.1 ≤ 64 ∧ 1 ≤ c.2.2.2.2.1 ∧ c.2.2.2.2.1 ≤ 1048576 := of_decide_eq_true h

theorem F69_eq (R : Type) (x lo hi : Int) (k : Bool → Option R) : F69 R x lo hi k = k (decide (lo ≤ x ∧ x ≤ hi)) := by
  simp only [F69, p69]
  by_cases h : x ≥ lo
  · by_cases h2 : x ≤ hi <;> simp [h, h2, show lo ≤ x from h]
  · have h3 : ¬ (lo ≤ x) := h
    simp [h3]

theorem F24_eq (R : Type) (c : Cfg) (k : Bool → Option R) : F24 R c k = k (rightS c) := by
  obtain ⟨s, co, re, at_, mo, _⟩ := c
  simp only [F24, p24, F69_eq, rightS]
  by_cases h1 : 1 ≤ s ∧ s ≤ 1024
  · by_cases h2 : 0 ≤ co ∧ co ≤ s
    · rw [wrap_i64 (by omega) (by omega)]
      by_cases h3 : 0 ≤ re ∧ re ≤ s - co
      · by_cases h4 : 1 ≤ at_ ∧ at_ ≤ 64
        · simp [h1, h2, h3, h4]
        · have : ¬ (1 ≤ s ∧ s ≤ 1024 ∧ 0 ≤ co ∧ co ≤ s ∧ 0 ≤ re ∧ re ≤ s - co ∧ 1 ≤ at_ ∧ at_ ≤ 64 ∧ 1 ≤ mo ∧ mo ≤ 1048576) := by omega
          rw [decide_eq_false this]; simp [h1, h2, h3, h4]
      · have : ¬ (1 ≤ s ∧ s ≤ 1024 ∧ 0 ≤ co ∧ co ≤ s ∧ 0 ≤ re ∧ re ≤ s - co ∧ 1 ≤ at_ ∧ at_ ≤ 64 ∧ 1 ≤ mo ∧ mo ≤ 1048576) := by omega
        rw [decide_eq_false this]; simp [h1, h2, h3]
    · have : ¬ (1 ≤ s ∧ s ≤ 1024 ∧ 0 ≤ co ∧ co ≤ s ∧ 0 ≤ re ∧ re ≤ s - co ∧ 1 ≤ at_ ∧ at_ ≤ 64 ∧ 1 ≤ mo ∧ mo ≤ 1048576) := by omega
      rw [decide_eq_false this]; simp [h1, h2]
  · have : ¬ (1 ≤ s ∧ s ≤ 1024 ∧ 0 ≤ co ∧ co ≤ s ∧ 0 ≤ re ∧ re ≤ s - co ∧ 1 ≤ at_ ∧ at_ ≤ 64 ∧ 1 ≤ mo ∧ mo ≤ 1048576) := by omega
    rw [decide_eq_false this]; simp [h1]

theorem F25_eq (R : Type) (c : Cfg) (k : Bool → Option R) : F25 R c k = k (rightS c) := by
  obtain ⟨s, co, re, at_, mo, _⟩ := c
  simp only [F25, p25, rightS]
  by_cases h : 1 ≤ s ∧ s ≤ 1024 ∧ 0 ≤ co ∧ co ≤ s ∧ 0 ≤ re ∧ re ≤ s - co ∧ 1 ≤ at_ ∧ at_ ≤ 64 ∧ 1 ≤ mo ∧ mo ≤ 1048576
  · obtain ⟨a1, a2, a3, a4, a5, a6, a7, a8, a9, a10⟩ := h
    rw [wrap_i64 (n := s - co) (by omega) (by omega)]
    simp [a1, a2, a3, a4, a5, a6, a7, a8, a9, a10]
  · rw [decide_eq_false h]
    repeat' split
    all_goals first | rfl | skip
    all_goals (simp only [decide_eq_true_eq] at *)
    rw [wrap_i64 (n := s - co) (by omega) (by omega)] at *
    congr 1
    rw [decide_eq_false]
    omega

def phS (c : Cfg) (i : Int) : Int := if rightS c = true ∧ 0 ≤ i ∧ i < c.1 then (if i < c.2.1 then 1 else if i < c.2.1 + c.2.2.1 then 2 else 3) else 0

theorem F68_eq (R : Type) (c : Cfg) (i : Int) (k : Bool → Option R) : F68 R c i k = k (decide (rightS c = true ∧ 0 ≤ i ∧ i < c.1)) := by
  simp only [F68, p68, F24_eq]
  cases hr : rightS c with
  | false => simp
  | true =>
    by_cases h : 0 ≤ i
    · simp [h]
    · simp [h]

theorem F26_eq (R : Type) (c : Cfg) (i : Int) (k : Int → Option R) : F26 R c i k = k (phS c i) := by
  simp only [F26, p26, F68_eq, phS]
  by_cases h : rightS c = true ∧ 0 ≤ i ∧ i < c.1
  · have hr := rightS_spec h.1
    rw [wrap_i64 (by omega) (by omega), if_pos h]
    by_cases h2 : i < c.2.1
    · simp [h, h2]
    · by_cases h3 : i < c.2.1 + c.2.2.1 <;> simp [h, h2, h3]
  · simp [h]

theorem F27_eq (R : Type) (c : Cfg) (i : Int) (k : Int → Option R) : F27 R c i k = k (phS c i) := by
  simp only [F27, p27, F25_eq, phS]
  cases hr : rightS c with
  | false => simp
  | true =>
    have hs := rightS_spec hr
    by_cases h1 : i < 0
    · have : ¬ (0 ≤ i) := by omega
      simp [h1, this]
    · by_cases h2 : i ≥ c.1
      · have : ¬ (i < c.1) := by omega
        simp [h1, h2, this]
      · have h1' : 0 ≤ i := by omega
        have h2' : i < c.1 := by omega
        have h2'' : ¬ (c.1 ≤ i) := by omega
        rw [wrap_i64 (by omega) (by omega)]
        by_cases h3 : i < c.2.1
        · simp [h1, h2'', h1', h2', h3]
        · by_cases h4 : i < c.2.1 + c.2.2.1 <;> simp [h1, h2'', h1', h2', h3, h4]

def nextS (c : Cfg) (i : Int) : Int := if phS c i = 0 ∨ i = c.1 - 1 then 0 else i + 1
def endS (c : Cfg) (i : Int) : Bool := decide (phS c i ≠ 0 ∧ i = c.1 - 1)

theorem phS_zero {c : Cfg} {i : Int} : phS c i = 0 ↔ ¬ (rightS c = true ∧ 0 ≤ i ∧ i < c.1) := by
  unfold phS
  constructor
  · intro h hh; rw [if_pos hh] at h; split at h <;> omega
  · intro h; rw [if_neg h]

theorem F22_eq (R : Type) (c : Cfg) (i : Int) (k : Int → Bool → Option R) : F22 R c i k = k (nextS c i) (endS c i) := by
  simp only [F22, p22, F68_eq, nextS, endS]
  by_cases h : rightS c = true ∧ 0 ≤ i ∧ i < c.1
  · have hr := rightS_spec h.1
    have hp : phS c i ≠ 0 := fun e => phS_zero.1 e h
    have hz : (c.1 == 0) = false := by simp; omega
    rw [wrap_i64 (by omega) (by omega)]
    simp only [h, hz, hp]
    by_cases h2 : i = c.1 - 1
    · have : i + 1 = c.1 := by omega
      rw [decide_eq_true (p := phS c i ≠ 0 ∧ i = c.1 - 1) ⟨hp, h2⟩]
      simp [h2]
    · rw [Int.tmod_eq_of_lt (by omega) (by omega)]
      have : (i + 1 == 0) = false := by simp; omega
      simp [h2, this]
  · simp [h, phS_zero.2 h]

theorem F23_eq (R : Type) (c : Cfg) (i : Int) (k : Int → Bool → Option R) : F23 R c i k = k (nextS c i) (endS c i) := by
  simp only [F23, p23, F27_eq, nextS, endS]
  by_cases h : phS c i = 0
  · simp [h]
  · have hh := Classical.not_not.1 (fun hn => h (phS_zero.2 hn))
    have hr := rightS_spec hh.1
    have h' : (phS c i == 0) = false := by simpa using h
    rw [wrap_i64 (n := c.1 - 1) (by omega) (by omega)]
    rw [wrap_i64 (n := i + 1) (by omega) (by omega)]
    by_cases h2 : i = c.1 - 1
    · have hb : (i == c.1 - 1) = true := by simpa using h2
      rw [decide_eq_true (p := phS c i ≠ 0 ∧ i = c.1 - 1) ⟨h, h2⟩]
      simp only [h', hb]
      simp [h2]
    · have hb : (i == c.1 - 1) = false := by simpa using h2
      simp [h, h2, h', hb]

def cntS (c : Cfg) (ph : Int) : Int := if rightS c = true then (if ph = 1 then c.2.1 else if ph = 2 then c.2.2.1 else if ph = 3 then c.1 - c.2.1 - c.2.2.1 else 0) else 0

theorem F28_eq (R : Type) (c : Cfg) (ph : Int) (k : Int → Option R) : F28 R c ph k = k (cntS c ph) := by
  simp only [F28, p28, F24_eq, cntS]
  cases hr : rightS c with
  | false => simp
  | true =>
    have hs := rightS_spec hr
    rw [wrap_i64 (n := c.1 - c.2.1) (by omega) (by omega), wrap_i64 (by omega) (by omega)]
    by_cases h1 : ph = 1
    · simp [h1]
    · have b1 : (ph == 1) = false := by simpa using h1
      by_cases h2 : ph = 2
      · simp [h2]
      · have b2 : (ph == 2) = false := by simpa using h2
        by_cases h3 : ph = 3
        · simp [h3]
        · have b3 : (ph == 3) = false := by simpa using h3
          simp [h1, h2, h3, b1, b2, b3]

/-- How many slots from i on have the phase. -/
def remS (c : Cfg) (ph i : Int) : Int := if ph = 1 then max 0 (c.2.1 - i) else if ph = 2 then max 0 (c.2.1 + c.2.2.1 - max i c.2.1) else if ph = 3 then c.1 - max i (c.2.1 + c.2.2.1) else 0

theorem G29_eq (R : Type) (c : Cfg) (ph : Int) (k : Int → Option R) (hr : rightS c = true) : ∀ (n : Nat) (acc i : Int), 0 ≤ i → i ≤ c.1 → 0 ≤ acc → acc ≤ i → c.1 - i < n → G29_5 n R ph acc i c k = k (acc + remS c ph i)
  | 0, acc, i, h1, h2, _, _, h3 => by omega
  | n + 1, acc, i, h1, h2, h4, h5, h3 => by
    have hs := rightS_spec hr
    simp only [G29_5, p29_5, F27_eq]
    by_cases hi : i < c.1
    · rw [wrap_i64 (n := acc + 1) (by omega) (by omega), wrap_i64 (n := i + 1) (by omega) (by omega)]
      rw [G29_eq R c ph k hr n (acc + 1) (i + 1) (by omega) (by omega) (by omega) (by omega) (by omega), G29_eq R c ph k hr n acc (i + 1) (by omega) (by omega) (by omega) (by omega) (by omega)]
      have hd : decide (i < c.1) = true := by simpa using hi
      have hp : phS c i = if i < c.2.1 then 1 else if i < c.2.1 + c.2.2.1 then 2 else 3 := by unfold phS; rw [if_pos ⟨hr, h1, hi⟩]
      simp only [hd]
      by_cases he : phS c i = ph
      · have hb : (phS c i == ph) = true := by simpa using he
        simp only [hb]
        congr 1
        rw [hp] at he
        unfold remS
        split at he
        · subst he; simp only [if_true]; omega
        · split at he
          · subst he; simp; omega
          · subst he; simp; omega
      · have hb : (phS c i == ph) = false := by simpa using he
        simp only [hb]
        congr 1
        rw [hp] at he
        unfold remS
        by_cases e1 : ph = 1
        · subst e1; simp only [if_true]; split at he
          · exact absurd rfl he
          · omega
        · by_cases e2 : ph = 2
          · subst e2; simp; split at he
            · omega
            · split at he
              · exact absurd rfl he
              · omega
          · by_cases e3 : ph = 3
            · subst e3; simp; split at he
              · omega
              · split at he
                · omega
                · exact absurd rfl he
            · simp [e1, e2, e3]
    · have hd : decide (i < c.1) = false := by simpa using hi
      simp only [hd]
      congr 1
      have : i = c.1 := by omega
      subst this
      unfold remS
      split
      · omega
      · split
        · omega
        · split <;> omega

theorem F29_eq (R : Type) (c : Cfg) (ph : Int) (k : Int → Option R) : F29 R c ph k = k (cntS c ph) := by
  simp only [F29, p29, F25_eq, cntS]
  cases hr : rightS c with
  | false => simp
  | true =>
    have hs := rightS_spec hr
    simp only [Bool.not_true, if_true]
    rw [G29_eq R c ph _ hr FUEL 0 0 (by omega) (by omega) (by omega) (by omega) (by rw [FUEL_eq]; omega)]
    congr 1
    unfold remS
    split
    · omega
    · split
      · omega
      · split <;> omega

theorem F21_eq (R : Type) (k : Bool → Option R) : F21 R k = k true := by
  simp only [F21, p21, F22_eq, F24_eq, F26_eq, F28_eq]
  rfl

theorem F3_eq (R : Type) (c : Cfg) (i ph : Int) (k : Bool → Option R) : F3 R c i ph k = k true := by
  simp only [F3, p3, F21_eq, F22_eq, F23_eq, F24_eq, F25_eq, F26_eq, F27_eq, F28_eq, F29_eq]
  simp

theorem phS_range (c : Cfg) (i : Int) : 0 ≤ phS c i ∧ phS c i ≤ 3 := by
  unfold phS
  split
  · split
    · omega
    · split <;> omega
  · omega

theorem F5_eq (R : Type) (c : Cfg) (i : Int) (k : Bool → Option R) : F5 R c i k = k true := by
  simp only [F5, p5, F21_eq, F25_eq, F26_eq, F28_eq]
  have hp := phS_range c i
  cases hr : rightS c with
  | false =>
    have hc : ∀ ph, cntS c ph = 0 := fun ph => by unfold cntS; rw [hr]; rfl
    have hz : phS c i = 0 := phS_zero.2 (fun h => by rw [hr] at h; cases h.1)
    simp [hc, hz, wrap_i64_def]
  | true =>
    have hs := rightS_spec hr
    have h1 : cntS c 1 = c.2.1 := by unfold cntS; rw [hr]; rfl
    have h2 : cntS c 2 = c.2.2.1 := by unfold cntS; rw [hr]; rfl
    have h3 : cntS c 3 = c.1 - c.2.1 - c.2.2.1 := by unfold cntS; rw [hr]; rfl
    rw [h1, h2, h3, wrap_i64 (n := c.2.1 + c.2.2.1) (by omega) (by omega), wrap_i64 (by omega) (by omega)]
    have e1 : (c.2.1 + c.2.2.1 + (c.1 - c.2.1 - c.2.2.1) == c.1) = true := by simp; omega
    have hz : phS c i = 0 ↔ ¬ (0 ≤ i ∧ i < c.1) := by rw [phS_zero]; simp [hr]
    simp only [Bool.not_true, e1]
    by_cases hi : i < 0
    · have h0 : phS c i = 0 := hz.2 (by omega)
      simp [hi, h0]
    · by_cases hj : i ≥ c.1
      · have h0 : phS c i = 0 := hz.2 (by omega)
        have hj' : decide (i ≥ c.1) = true := by simpa using hj
        have hi' : decide (i < 0) = false := by simpa using hi
        simp only [h0, hj', hi']
        rfl
      · have h0 : phS c i ≠ 0 := fun h => hz.1 h (by omega)
        have hb : (phS c i == 0) = false := by simpa using h0
        have hj' : decide (i ≥ c.1) = false := by simpa using hj
        have hi' : decide (i < 0) = false := by simpa using hi
        simp [hb, hj', hi', hp]

/-- What has been seen ahead of slot i. -/
def seenS (c : Cfg) (i : Int) : List Int := [0, min i c.2.1, max 0 (min (i - c.2.1) c.2.2.1), max 0 (i - c.2.1 - c.2.2.1)]

theorem G4_eq (R : Type) (c : Cfg) (k0 : Bool → Option R) (k1 : Int → Cfg → List Int → Option R) (hr : rightS c = true) : ∀ (n : Nat) (was i : Int), 0 ≤ i → i ≤ c.1 → c.1 - i < n → 0 ≤ was → (i < c.1 → was ≤ phS c i) →
    G4_9 n R (if i = c.1 then 0 else i) was i c (seenS c i) k0 k1 = k1 0 c [0, c.2.1, c.2.2.1, c.1 - c.2.1 - c.2.2.1]
  | 0, was, i, h1, h2, h3, _, _ => by omega
  | n + 1, was, i, h1, h2, h3, h4, h5 => by
    have hs := rightS_spec hr
    simp only [G4_9, p4_9, F26_eq, F22_eq]
    by_cases hi : i < c.1
    · have hd : decide (i < c.1) = true := by simpa using hi
      have hne : ¬ (i = c.1) := by omega
      have hp : phS c i = if i < c.2.1 then 1 else if i < c.2.1 + c.2.2.1 then 2 else 3 := by unfold phS; rw [if_pos ⟨hr, h1, hi⟩]
      have hp1 : 1 ≤ phS c i ∧ phS c i ≤ 3 := by rw [hp]; split <;> (try split) <;> omega
      have hw := h5 hi
      have b1 : (i != i) = false := by simp
      have b2 : decide (phS c i < 1) = false := by simp; omega
      have b3 : decide (phS c i > 3) = false := by simp; omega
      have b4 : decide (phS c i < was) = false := by simp; omega
      have b5 : bnd (phS c i) 4 = true := by unfold bnd; simp; omega
      have b6 : (!(endS c i == (i == IntKind.i64.wrap (c.1 - 1)))) = false := by
        rw [wrap_i64 (by omega) (by omega)]
        unfold endS
        by_cases he : i = c.1 - 1
        · have hq : phS c i ≠ 0 := by omega
          rw [decide_eq_true ⟨hq, he⟩]; simp [he]
        · have : ¬ (phS c i ≠ 0 ∧ i = c.1 - 1) := fun h => he h.2
          rw [decide_eq_false this]
          have : (i == c.1 - 1) = false := by simpa using he
          rw [this]; rfl
      have b7 : nextS c i = if i + 1 = c.1 then 0 else i + 1 := by
        unfold nextS
        by_cases he : i = c.1 - 1
        · rw [if_pos (.inr he), if_pos (by omega)]
        · rw [if_neg (by omega), if_neg (by omega)]
      have b8 : List.set (seenS c i) (phS c i).toNat (IntKind.i64.wrap (List.getD (seenS c i) (phS c i).toNat 0 + 1)) = seenS c (i + 1) := by
        rw [hp]
        unfold seenS
        split
        · simp [wrap_i64_def]; refine ⟨?_, ?_, ?_⟩ <;> omega
        · split
          · simp [wrap_i64_def]; refine ⟨?_, ?_, ?_⟩ <;> omega
          · simp [wrap_i64_def]; refine ⟨?_, ?_, ?_⟩ <;> omega
      simp only [hd, hne, if_false, b1, b2, b3, b4, b5, b6, b7, b8]
      rw [wrap_i64 (n := i + 1) (by omega) (by omega)]
      refine G4_eq R c k0 k1 hr n (phS c i) (i + 1) (by omega) (by omega) (by omega) (by omega) (fun hi' => ?_)
      have hp' : phS c (i + 1) = if i + 1 < c.2.1 then 1 else if i + 1 < c.2.1 + c.2.2.1 then 2 else 3 := by unfold phS; rw [if_pos ⟨hr, by omega, hi'⟩]
      rw [hp, hp']
      split <;> split <;> (try split) <;> (try split) <;> omega
    · have hd : decide (i < c.1) = false := by simpa using hi
      have : i = c.1 := by omega
      subst this
      simp only [hd, if_true]
      congr 1
      unfold seenS
      simp
      refine ⟨?_, ?_, ?_⟩ <;> omega

theorem F4_eq (R : Type) (c : Cfg) (k : Bool → Option R) : F4 R c k = k true := by
  simp only [F4, p4, F21_eq, F22_eq, F24_eq, F25_eq, F28_eq]
  cases hr : rightS c with
  | false =>
    have hz : phS c 0 = 0 := phS_zero.2 (fun h => by rw [hr] at h; cases h.1)
    simp [nextS, endS, hz]
  | true =>
    have hs := rightS_spec hr
    have h1 : cntS c 1 = c.2.1 := by unfold cntS; rw [hr]; rfl
    have h2 : cntS c 2 = c.2.2.1 := by unfold cntS; rw [hr]; rfl
    have h3 : cntS c 3 = c.1 - c.2.1 - c.2.2.1 := by unfold cntS; rw [hr]; rfl
    have h0 : (0 : Int) = if (0 : Int) = c.1 then 0 else 0 := by split <;> rfl
    have hseen : List.replicate 4 (0 : Int) = seenS c 0 := by
      unfold seenS; simp; refine ⟨?_, ?_, ?_⟩ <;> omega
    simp only [Bool.not_true]
    rw [hseen]
    have := G4_eq R c (fun x => k x) (fun x8 x9 x10 => match x8 == 0 with
      | true => match List.getD x10 1 0 == x9.2.1 with
        | true => match List.getD x10 2 0 == x9.2.2.1 with
          | true => match List.getD x10 1 0 == cntS x9 1 with
            | true => match List.getD x10 2 0 == cntS x9 2 with
              | true => k (List.getD x10 3 0 == cntS x9 3)
              | false => k false
            | false => k false
          | false => k false
        | false => k false
      | false => k false) hr FUEL 0 0 (by omega) (by omega) (by rw [FUEL_eq]; omega) (by omega) (fun _ => (phS_range c 0).1)
    rw [← h0] at this
    refine this.trans ?_
    simp [h1, h2, h3]
end Go.PG
