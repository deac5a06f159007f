/- A part of the proof over this seat (own work; the framework that reads a Go function as a pure one, or a use of it). No condition of its own. -/
import Derived.Test.YtapdakmnlclboaaA6
import Derived.KernelRfl
set_option linter.unusedVariables false
set_option linter.unusedSimpArgs false
set_option linter.unusedSectionVars false
namespace Go.PG
noncomputable def schV (a : List Int) (m : Int) (l : List Int) (i : Nat) : Int := if (leaS a (i : Int) m l).2 = 0 then (leaS a (i : Int) m l).1 else -1
noncomputable def schP (a : List Int) (m : Int) (l : List Int) (n : Nat) : List Int := (List.range n).map (schV a m l)
theorem schP_len (a : List Int) (m : Int) (l : List Int) (n : Nat) : (schP a m l n).length = n := by simp [schP]
theorem schP_succ (a : List Int) (m : Int) (l : List Int) (n : Nat) : schP a m l n ++ [schV a m l n] = schP a m l (n + 1) := by simp [schP, List.range_succ]
noncomputable def schL (a : List Int) (n m : Int) (l : List Int) : List Int × Int :=
  if n < 1 then ([], 1) else if mayS m (n - 1) = true then (if totS l < 9223372036854775808 then (schP a m l n.toNat, 0) else ([], 11)) else ([], 1)
theorem may_le {m : Int} {n i : Int} (h : mayS m n = true) (h0 : 0 ≤ i) (h1 : i ≤ n) : mayS m i = true := by
  obtain ⟨a, b, c, d⟩ := may_spec h
  unfold mayS
  simp
  omega
theorem G26_eq (R : Type) {a : List Int} (ha : H32 a) {m : Int} {l : List Int} (h : AllU64 l) (ht : totS l < 9223372036854775808) (hl : l.length ≤ 200) {N : Nat} (hN : N ≤ 1024) (hm : ∀ i : Nat, i < N → mayS m (i : Int) = true) (k0 : List Int → Option R) : ∀ (f i : Nat), i ≤ N → N - i < f →
    G26_9 f R (N : Int) (i : Int) (a, m, ()) (treeS l, ()) (schP a m l i ++ List.replicate (N - i) 0) k0 = k0 (schP a m l N)
  | 0, _, _, hh => by omega
  | f + 1, i, h1, h2 => by
    simp only [G26_9, p26_9]
    have hlen : (schP a m l i ++ List.replicate (N - i) (0 : Int)).length = N := by simp [schP_len]; omega
    by_cases hi : i < N
    · have hd : decide ((i : Int) < (N : Int)) = true := decide_eq_true (by omega)
      simp only [hd]
      rw [F53_eq R ha (by omega) h ht hl]
      have hb : bnd (i : Int) ((schP a m l i ++ List.replicate (N - i) (0 : Int)).length : Int) = true := by rw [hlen]; unfold bnd; simp; omega
      have hle : leaS a (i : Int) m l = ((leadR l (srcS a 1 (i : Int)) m).1, (leadR l (srcS a 1 (i : Int)) m).2.2) := by unfold leaS; rw [if_pos (hm i hi), if_pos ht]
      simp only [hb, Int.toNat_natCast]
      have hset : ∀ v : Int, (schP a m l i ++ List.replicate (N - i) (0 : Int)).set i v = schP a m l i ++ [v] ++ List.replicate (N - (i + 1)) 0 := fun v => by
        rw [show N - i = N - (i + 1) + 1 by omega]
        exact set_app _ _ _ _ (schP_len a m l i)
      rw [wrap_i64 (n := (i : Int) + 1) (by omega) (by omega), show (i : Int) + 1 = ((i + 1 : Nat) : Int) by omega]
      by_cases he : (leadR l (srcS a 1 (i : Int)) m).2.2 = 0
      · have e1 : ((leadR l (srcS a 1 (i : Int)) m).2.2 != 0) = false := by simp [he]
        simp only [e1, hset]
        have hv : (leadR l (srcS a 1 (i : Int)) m).1 = schV a m l i := by unfold schV; rw [hle]; rw [if_pos he]
        rw [hv, schP_succ]
        exact G26_eq R ha h ht hl hN hm k0 f (i + 1) (by omega) (by omega)
      · have e1 : ((leadR l (srcS a 1 (i : Int)) m).2.2 != 0) = true := by simp [he]
        have hb2 : bnd (i : Int) ((schP a m l i ++ [(leadR l (srcS a 1 (i : Int)) m).1] ++ List.replicate (N - (i + 1)) (0 : Int)).length : Int) = true := by
          unfold bnd; simp [schP_len]; omega
        simp only [e1, hset, hb2]
        have hv : (-1 : Int) = schV a m l i := by unfold schV; rw [hle]; rw [if_neg he]
        have hset2 : (schP a m l i ++ [(leadR l (srcS a 1 (i : Int)) m).1] ++ List.replicate (N - (i + 1)) (0 : Int)).set i (-1) = schP a m l i ++ [(-1 : Int)] ++ List.replicate (N - (i + 1)) 0 := by
          rw [List.append_assoc, List.set_append_right _ _ (by rw [schP_len]; exact Nat.le_refl _), schP_len, Nat.sub_self]
          simp
        rw [hset2, hv, schP_succ]
        exact G26_eq R ha h ht hl hN hm k0 f (i + 1) (by omega) (by omega)
    · have : i = N := by omega
      subst this
      have hd : decide ((i : Int) < (i : Int)) = false := by simp
      simp only [hd]
      rw [Nat.sub_self, List.replicate_zero, List.append_nil]
theorem F26_eq (R : Type) {a : List Int} (ha : H32 a) {n : Int} (hn : n ≤ 9223372036854775807) (m : Int) {l : List Int} (h : AllU64 l) (hl : l.length ≤ 200) (k : List Int → Int → Option R) : F26 R a n m l k = k (schL a n m l).1 (schL a n m l).2 := by
  simp only [F26, p26]
  unfold schL
  by_cases h1 : n < 1
  · simp only [decide_eq_true h1, if_pos h1]
  · simp only [decide_eq_false h1, if_neg h1]
    rw [wrap_i64 (n := n - 1) (by omega) (by omega), F52_eq]
    cases hm : mayS m (n - 1) with
    | false => rfl
    | true =>
      obtain ⟨m1, m2, _⟩ := may_spec hm
      simp only [Bool.not_true, if_true]
      rw [F38_eq' R h hl]
      by_cases ht : totS l < 9223372036854775808
      · rw [if_pos ht, if_pos ht]
        have n0 : ((0 : Int) != 0) = false := rfl
        have hc : decide (0 ≤ n ∧ n ≤ n ∧ n ≤ (17592186044416 : Int)) = true := decide_eq_true (by omega)
        simp only [n0, hc, List.length_replicate]
        have := G26_eq R ha h ht hl (N := n.toNat) (by omega) (fun i hi => may_le hm (by omega) (by omega)) (fun x9 => k x9 0) FUEL 0 (by omega) (by rw [FUEL_eq]; omega)
        exact this
      · rw [if_neg ht, if_neg ht]; rfl
def Z32 : List Int := List.replicate 32 0
theorem Z32_ok : H32 Z32 := ⟨rfl, fun y hy => by
  have : y = 0 := List.eq_of_mem_replicate hy
  subst this; unfold U8; omega⟩
theorem al1 : leaS Z32 3 64 [0, 1] = (1, 0) := by kernel_rfl
theorem al2 : schL Z32 3 64 [0, 1] = ([1, 1, 1], 0) := by kernel_rfl
theorem al3 : aliS Z32 3 64 [0, 1] = (1, 0) := by kernel_rfl
theorem al4 : sitS Z32 3 1 64 [0, 9] = ([1], 0) := by kernel_rfl
theorem al5 : leaS Z32 1024 64 [1] = (0, 1) := by kernel_rfl
theorem al6 : schL Z32 2 64 [0] = ([-1, -1], 0) := by kernel_rfl
theorem al7 : leaS Z32 0 64 [0] = (0, 10) := by kernel_rfl
theorem F25_eq (R : Type) (k : Bool → Option R) : F25 R k = k true := by
  have u : ∀ x : Int, 0 ≤ x ∧ x ≤ 9 → U64 x := fun x h => by unfold U64; omega
  have u1 : AllU64 [0, 1] := fun x hx => u x (by simp at hx; omega)
  have u2 : AllU64 [0, 9] := fun x hx => u x (by simp at hx; omega)
  have u3 : AllU64 [1] := fun x hx => u x (by simp at hx; omega)
  have u4 : AllU64 [0] := fun x hx => u x (by simp at hx; omega)
  have hz : List.replicate 32 (0 : Int) = Z32 := rfl
  simp only [F25, p25, hz]
  rw [F27_eq R Z32_ok _ _ u1 (by simp), F26_eq R Z32_ok (by omega) _ u1 (by simp), F50_eq R Z32_ok _ _ u1 (by simp), F51_eq R Z32_ok _ _ _ u2 (by simp), F27_eq R Z32_ok _ _ u3 (by simp), F26_eq R Z32_ok (by omega) _ u4 (by simp), F27_eq R Z32_ok _ _ u4 (by simp), al1, al2, al3, al4, al5, al6, al7]
  have b0 : ((0 : Int) == 0) = true := rfl
  have b1 : ((1 : Int) == 1) = true := rfl
  have b2 : ((10 : Int) == 10) = true := rfl
  simp only [b0, b1, b2]
  rw [F19_eq R _ _ (by simp)]
  simp only [decide_true]
  rw [F19_eq R _ _ (by simp)]
  simp only [decide_true]
  rw [F19_eq R _ _ (by simp)]
  simp only [decide_true]
end Go.PG
namespace Go.PG
theorem schP_get (a : List Int) (m : Int) (l : List Int) {n i : Nat} (h : i < n) : (schP a m l n).getD i 0 = schV a m l i := by simp [schP, h]
theorem schP_take (a : List Int) (m : Int) (l : List Int) {n k : Nat} (h : n ≤ k) : (schP a m l k).take n = schP a m l n := by
  unfold schP
  rw [← List.map_take, List.take_range, Nat.min_eq_left h]
theorem G7_14_eq (R : Type) {a : List Int} (ha : H32 a) {l : List Int} (h : AllU64 l) (ht : totS l < 9223372036854775808) (hl : l.length ≤ 200) {N : Nat} (hN : N ≤ 1000) (k0 : Bool → Option R) (k1 : Option R) : ∀ (f i : Nat), i ≤ N → N - i < f →
    G7_14 f R l (N : Int) (schP a 64 l N) (i : Int) a k0 k1 = k1
  | 0, _, _, hh => by omega
  | f + 1, i, h1, h2 => by
    simp only [G7_14, p7_14, schP_len]
    by_cases hi : i < N
    · have hd : decide ((i : Int) < (N : Int)) = true := decide_eq_true (by omega)
      have hb : bnd (i : Int) (N : Int) = true := by unfold bnd; simp; omega
      have hm : mayS 64 (i : Int) = true := by unfold mayS; simp; omega
      have hs := srcS_ok (a := a) ha (d := 1) (slot := (i : Int)) (by omega) (by omega)
      have hle : leaS a (i : Int) 64 l = ((leadR l (srcS a 1 (i : Int)) 64).1, (leadR l (srcS a 1 (i : Int)) 64).2.2) := by unfold leaS; rw [if_pos hm, if_pos ht]
      simp only [hd]
      rw [F27_eq R ha _ _ h hl, wrap_i64 (n := (i : Int) + 1) (by omega) (by omega), show (i : Int) + 1 = ((i + 1 : Nat) : Int) by omega]
      simp only [hb, Int.toNat_natCast, schP_get a 64 l hi]
      by_cases he : (leaS a (i : Int) 64 l).2 = 0
      · have e1 : ((leaS a (i : Int) 64 l).2 != 0) = false := by simp [he]
        have e2 : ((leaS a (i : Int) 64 l).2 == 0) = true := by simp [he]
        have hv : schV a 64 l i = (leaS a (i : Int) 64 l).1 := by unfold schV; rw [if_pos he]
        have e3 : (schV a 64 l i != (leaS a (i : Int) 64 l).1) = false := by rw [hv]; simp
        simp only [e1, e2, e3]
        rw [hle] at he ⊢
        obtain ⟨_, _, _, j, j1, j2, j3, _⟩ := lead_ok h hl hs he
        have d1 : decide ((j : Int) < 0) = false := decide_eq_false (by omega)
        have d2 : decide ((j : Int) ≥ (l.length : Int)) = false := decide_eq_false (by omega)
        have d3 : bnd (j : Int) (l.length : Int) = true := by unfold bnd; simp; omega
        have d4 : (l.getD j 0 == 0) = false := beq_eq_false_iff_ne.2 (by omega)
        simp only [j3, d1, d2, d3, Int.toNat_natCast, d4]
        exact G7_14_eq R ha h ht hl hN k0 k1 f (i + 1) (by omega) (by omega)
      · have e1 : ((leaS a (i : Int) 64 l).2 != 0) = true := by simp [he]
        have e2 : ((leaS a (i : Int) 64 l).2 == 0) = false := by simp [he]
        have hv : schV a 64 l i = -1 := by unfold schV; rw [if_neg he]
        have e3 : (schV a 64 l i != (-1 : Int)) = false := by rw [hv]; rfl
        simp only [e1, e2, e3]
        exact G7_14_eq R ha h ht hl hN k0 k1 f (i + 1) (by omega) (by omega)
    · have hd : decide ((i : Int) < (N : Int)) = false := decide_eq_false (by omega)
      simp only [hd]
theorem F7_eq' (R : Type) {a : List Int} (ha : H32 a) {p : List Int} (hp0 : 0 ≤ p.getD 0 0 ∧ p.getD 0 0 ≤ 255) (hp1 : 0 ≤ p.getD 1 0 ∧ p.getD 1 0 ≤ 255) {l : List Int} (h : AllU64 l) (k : Bool → Option R) : F7 R a p l k = k true := by
  simp only [F7, p7]
  rw [F25_eq]
  simp only [Bool.not_true]
  by_cases hl : (l.length : Int) > 60
  · simp only [decide_eq_true hl]
  · simp only [decide_eq_false hl]
    obtain ⟨n1, hn1⟩ : ∃ q : Nat, 1 + p.getD 0 0 % 12 = (q : Int) := ⟨(1 + p.getD 0 0 % 12).toNat, by omega⟩
    obtain ⟨n2, hn2⟩ : ∃ q : Nat, (n1 : Int) + p.getD 1 0 % 5 = (q : Int) := ⟨((n1 : Int) + p.getD 1 0 % 5).toNat, by omega⟩
    rw [Int.tmod_eq_emod_of_nonneg hp0.1, Int.tmod_eq_emod_of_nonneg hp1.1, wrap_i64 (n := p.getD 0 0 % 12) (by omega) (by omega), hn1, wrap_i64 (n := (n1 : Int)) (by omega) (by omega), wrap_i64 (n := p.getD 1 0 % 5) (by omega) (by omega), hn2, wrap_i64 (n := (n2 : Int)) (by omega) (by omega)]
    rw [F26_eq R ha (by omega) _ h (by omega), F26_eq R ha (by omega) _ h (by omega)]
    have m1 : mayS 64 ((n1 : Int) - 1) = true := by unfold mayS; simp; omega
    have m2 : mayS 64 ((n2 : Int) - 1) = true := by unfold mayS; simp; omega
    have sch : ∀ q : Nat, 1 ≤ (q : Int) → mayS 64 ((q : Int) - 1) = true → schL a (q : Int) 64 l = (if totS l < 9223372036854775808 then (schP a 64 l (q : Int).toNat, 0) else ([], 11)) := fun q hq hm => by
      unfold schL
      rw [if_neg (show ¬ (q : Int) < 1 by omega), if_pos hm]
    rw [sch n1 (by omega) m1, sch n2 (by omega) m2]
    by_cases ht : totS l < 9223372036854775808
    · rw [if_pos ht, if_pos ht]
      have n0 : ((0 : Int) != 0) = false := rfl
      have e1 : ((n1 : Int) != (n1 : Int)) = false := by simp
      have e2 : ((n2 : Int) != (n2 : Int)) = false := by simp
      have hc : decide (0 ≤ (0 : Int) ∧ (0 : Int) ≤ (n1 : Int) ∧ (n1 : Int) ≤ (n1 : Int) ∧ (n1 : Int) ≤ (n2 : Int)) = true := decide_eq_true (by omega)
      simp only [n0, Int.toNat_natCast, schP_len, e1, e2, hc]
      rw [F19_eq R _ _ (by rw [schP_len]; omega), Int.sub_zero, Int.toNat_natCast, List.drop_zero, schP_take a 64 l (show n1 ≤ n2 by omega)]
      simp only [decide_true, Bool.not_true]
      exact G7_14_eq R ha h ht (by omega) (by omega) (fun x29 => k x29) (k true) FUEL 0 (by omega) (by rw [FUEL_eq]; omega)
    · rw [if_neg ht, if_neg ht]
      rfl
end Go.PG
