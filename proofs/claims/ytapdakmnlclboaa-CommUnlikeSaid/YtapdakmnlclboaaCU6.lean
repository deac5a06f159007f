/- A part of the proof over this seat (own work; the framework that reads a Go function as a pure one, or a use of it). No condition of its own. -/
import Derived.Test.YtapdakmnlclboaaCU5
set_option linter.unusedVariables false
set_option linter.unusedSimpArgs false
set_option linter.unusedSectionVars false
namespace Go.PG
theorem key_eq (a b : Tq1) : Kd.eqv Kq1 a b = decide (a = b) := by
  obtain ⟨a1, a2, _⟩ := a
  obtain ⟨b1, b2, _⟩ := b
  show ((a1 == b1) && ((a2 == b2) && true)) = _
  rw [Bool.and_true]
  by_cases h1 : a1 = b1
  · by_cases h2 : a2 = b2
    · subst h1; subst h2; simp
    · subst h1; simp [h2]
  · simp [h1]
theorem find_app (m : List Tq2) (t : Tq1) (v : List Int) (key : Tq1) : mfind (Kd.eqv Kq1) (m ++ [(t, v)]) key = match mfind (Kd.eqv Kq1) m key with | some u => some u | none => if key = t then some v else none := by
  induction m with
  | nil =>
    simp only [List.nil_append, mfind, key_eq]
    by_cases h : key = t <;> simp [h]
  | cons p m ih =>
    simp only [List.cons_append, mfind, key_eq]
    by_cases h : key = p.1 <;> simp [h, ih, key_eq]
def Known (A : Nat) (ps : List (Nat × Nat × Nat)) (m : List Tq2) : Prop := ∀ (j l : Nat) (v : List Int), j ≤ ps.length → mfind (Kd.eqv Kq1) m ((j : Int), (l : Int), ()) = some v → v = lim (wayN A (ps.drop j) l)
def Old (j : Nat) (m m' : List Tq2) : Prop := ∀ (i l : Int), i < (j : Int) → mfind (Kd.eqv Kq1) m' (i, l, ()) = mfind (Kd.eqv Kq1) m (i, l, ())
theorem Old.refl {j : Nat} {m : List Tq2} : Old j m m := fun _ _ _ => rfl
theorem Old.trans {j : Nat} {m m' m'' : List Tq2} (h : Old j m m') (h' : Old j m' m'') : Old j m m'' := fun i l hi => by rw [h' i l hi, h i l hi]
theorem lt_big {x : Nat} (h : x ≤ p2 1200) : x < LB ^ 256 := by
  refine Nat.lt_of_le_of_lt h ?_
  rw [LB_p2, p2_pow]
  exact p2_lt (by decide)
noncomputable def stkL (ps : List (Nat × Nat × Nat)) : List (List Int) := ps.map fun p => lim p.1
def needL (ps : List (Nat × Nat × Nat)) : List Int := ps.map fun p => (p.2.1 : Int)
noncomputable def lostL (ps : List (Nat × Nat × Nat)) : List (List Int) := ps.map fun p => lim p.2.2
structure Fine (A : Nat) (ps : List (Nat × Nat × Nat)) : Prop where
  a8 : A ≤ 8
  len : ps.length ≤ 16
  all : AllP ps
  need : ∀ p ∈ ps, p.2.1 ≤ 64
theorem Fine.way {A : Nat} {ps : List (Nat × Nat × Nat)} (h : Fine A ps) (j : Nat) {l : Nat} (hl : l ≤ 256) : wayN A (ps.drop j) l ≤ p2 304 := by
  have h1 := wayN_le A (ps := ps.drop j) (fun p hp => h.all p (List.mem_of_mem_drop hp)) l
  have h2 : A ^ (ps.drop j).length ≤ p2 48 := by
    rw [← p2_two]
    refine Nat.le_trans (Nat.pow_le_pow_left h.a8 _) (Nat.le_trans (Nat.pow_le_pow_right (by decide) (show (ps.drop j).length ≤ 16 by have := h.len; simp; omega)) ?_)
    decide
  have h3 : (2 : Nat) ^ l ≤ p2 256 := by rw [p2_two]; exact p2_le hl
  refine Nat.le_trans h1 (Nat.le_trans (Nat.mul_le_mul h2 h3) ?_)
  rw [← p2_add]
  exact Nat.le_refl _
theorem G41_eq {A : Nat} {ps : List (Nat × Nat × Nat)} (hF : Fine A ps) {j l0 : Nat} (hj : j < ps.length) {F : FT41}
    (ih : ∀ (l : Nat) (m : List Tq2), l ≤ 256 → Known A ps m → ∃ m', Known A ps m' ∧ Old (j + 1) m m' ∧ ∀ (R : Type) (k : List Int → Tq22 → List Tq2 → Option R), F R ((A : Int), stkL ps, needL ps, lostL ps, (0 : Int), ()) m (((j + 1 : Nat) : Int), (l : Int), ()) k = k (lim (wayN A (ps.drop (j + 1)) l)) ((A : Int), stkL ps, needL ps, lostL ps, (0 : Int), ()) m') :
    ∀ (d a f left sum mm : Nat) (m : List Tq2), A - a = d → a ≤ A → d < mm → left ≤ 256 → f ≤ p2 (64 * (a + 1)) → sum ≤ a * p2 1000 → Known A ps m →
      ∃ m', Known A ps m' ∧ Old (j + 1) m m' ∧ ∀ (R : Type) (k0 : List Int → Tq22 → List Tq2 → Tq1 → Option R), G41_10 F mm R (lim sum) (lim f) (left : Int) (A : Int) (a : Int) ((A : Int), stkL ps, needL ps, lostL ps, (0 : Int), ()) m ((j : Int), (l0 : Int), ()) k0 =
        k0 (lim (sum + attN (ps.getD j (0, 0, 0)).2.1 (ps.getD j (0, 0, 0)).2.2 (wayN A (ps.drop (j + 1))) d f left)) ((A : Int), stkL ps, needL ps, lostL ps, (0 : Int), ()) m' ((j : Int), (l0 : Int), ()) := by
  intro d
  have hA := hF.a8
  have hlen := hF.len
  induction d with
  | zero =>
    intro a f left sum mm m hd ha hm hl hf hs hK
    refine ⟨m, hK, .refl, fun R k0 => ?_⟩
    obtain ⟨n, rfl⟩ : ∃ n, mm = n + 1 := ⟨mm - 1, by omega⟩
    have h9 : decide ((a : Int) < (A : Int)) = false := decF (by omega)
    simp only [G41_10, p41_10, h9, attN, Nat.add_zero]
  | succ d ihd =>
    intro a f left sum mm m hd ha hm hl hf hs hK
    obtain ⟨n, rfl⟩ : ∃ n, mm = n + 1 := ⟨mm - 1, by omega⟩
    have h9 : decide ((a : Int) < (A : Int)) = true := decT (by omega)
    have hnl : (needL ps).length = ps.length := by simp [needL]
    have hll : (lostL ps).length = ps.length := by simp [lostL]
    have hb1 : bnd (j : Int) ((needL ps).length : Int) = true := bndN (by omega)
    have hb2 : bnd (j : Int) ((lostL ps).length : Int) = true := bndN (by omega)
    generalize hp : ps.getD j (0, 0, 0) = p at *
    have hpm : p ∈ ps := by
      rw [← hp, List.getD_eq_getElem?_getD, List.getElem?_eq_getElem hj]; simp
    have hg1 : (needL ps).getD j 0 = (p.2.1 : Int) := by
      rw [← hp]; simp [needL, List.getD_eq_getElem?_getD, hj]
    have hg2 : (lostL ps).getD j [] = lim p.2.2 := by
      rw [← hp]; simp [lostL, List.getD_eq_getElem?_getD, hj]
    obtain ⟨hp1, hp2⟩ := hF.all p hpm
    have hp64 := hF.need p hpm
    have hq : p.2.2 ≤ p2 64 := Nat.le_trans hp2 (by rw [p2_two]; exact p2_le hp64)
    by_cases hlt : left < p.2.1
    · refine ⟨m, hK, .refl, fun R k0 => ?_⟩
      have h12 : decide ((left : Int) - (p.2.1 : Int) < 0) = true := decT (by omega)
      simp only [G41_10, p41_10, h9, hb1, Int.toNat_natCast, hg1]
      rw [wrap_i64 (n := (left : Int) - (p.2.1 : Int)) (by omega) (by omega)]
      simp only [h12, attN, if_pos hlt, Nat.add_zero]
    · have h12 : decide ((left : Int) - (p.2.1 : Int) < 0) = false := decF (by omega)
      by_cases hf0 : f = 0
      · subst hf0
        refine ⟨m, hK, .refl, fun R k0 => ?_⟩
        simp only [G41_10, p41_10, h9, hb1, Int.toNat_natCast, hg1]
        rw [wrap_i64 (n := (left : Int) - (p.2.1 : Int)) (by omega) (by omega)]
        have h14 : (((lim 0).length : Int) == 0) = true := rfl
        simp only [h12, h14, attN_zero, Nat.add_zero]
      · have h14 : (((lim f).length : Int) == 0) = false := by
          have : (lim f).length ≠ 0 := fun e => hf0 (lim_nil.1 (List.length_eq_zero_iff.1 e))
          simp only [beq_eq_false_iff_ne, ne_eq]; omega
        obtain ⟨m1, hK1, hO1, hF1⟩ := ih (left - p.2.1) m (by omega) hK
        have hfb : f ≤ p2 576 := Nat.le_trans hf (p2_le (by omega))
        have hW : wayN A (ps.drop (j + 1)) (left - p.2.1) ≤ p2 304 := hF.way _ (by omega)
        have hfW : f * wayN A (ps.drop (j + 1)) (left - p.2.1) ≤ p2 1000 := by
          refine Nat.le_trans (Nat.mul_le_mul hfb hW) ?_
          rw [← p2_add]
          exact p2_le (by decide)
        have hfq : f * p.2.2 ≤ p2 (64 * (a + 1 + 1)) := by
          rw [show 64 * (a + 1 + 1) = 64 * (a + 1) + 64 by omega, p2_add]
          exact Nat.mul_le_mul hf hq
        have hfqb : f * p.2.2 ≤ p2 1200 := Nat.le_trans hfq (p2_le (by omega))
        have hs1 : sum + f * wayN A (ps.drop (j + 1)) (left - p.2.1) ≤ (a + 1) * p2 1000 := by
          rw [Nat.succ_mul]; exact Nat.add_le_add hs hfW
        have hs2 : sum + f * wayN A (ps.drop (j + 1)) (left - p.2.1) ≤ p2 1200 := by
          refine Nat.le_trans hs1 (Nat.le_trans (Nat.mul_le_mul_right _ (show a + 1 ≤ p2 8 by rw [← p2_two]; omega)) ?_)
          rw [← p2_add]
          exact p2_le (by decide)
        have w1200 : p2 1000 ≤ p2 1200 := p2_le (by decide)
        obtain ⟨m2, hK2, hO2, hF2⟩ := ihd (a + 1) (f * p.2.2) (left - p.2.1) (sum + f * wayN A (ps.drop (j + 1)) (left - p.2.1)) n m1 (by omega) (by omega) (by omega) (by omega) hfq hs1 hK1
        refine ⟨m2, hK2, hO1.trans hO2, fun R k0 => ?_⟩
        simp only [G41_10, p41_10, h9, hb1, Int.toNat_natCast, hg1]
        rw [wrap_i64 (n := (left : Int) - (p.2.1 : Int)) (by omega) (by omega)]
        simp only [h12, h14]
        rw [wrap_i64 (n := (j : Int) + 1) (by omega) (by omega), show (j : Int) + 1 = ((j + 1 : Nat) : Int) by omega, show (left : Int) - (p.2.1 : Int) = ((left - p.2.1 : Nat) : Int) by omega, hF1]
        rw [F74_eq R (lt_big (Nat.le_trans hfb (p2_le (by decide)))) (lt_big (Nat.le_trans hW (p2_le (by decide)))) (lt_big (Nat.le_trans hfW w1200))]
        have n0 : ((0 : Int) != 0) = false := rfl
        simp only [n0]
        rw [F73_eq R (lt_big hs2)]
        simp only [n0, hb2, hg2]
        rw [F74_eq R (lt_big (Nat.le_trans hfb (p2_le (by decide)))) (lt_big (Nat.le_trans hq (p2_le (by decide)))) (lt_big hfqb)]
        simp only [n0]
        rw [wrap_i64 (n := (a : Int) + 1) (by omega) (by omega), show (a : Int) + 1 = ((a + 1 : Nat) : Int) by omega, hF2]
        simp only [attN, if_neg hlt]
        rw [Nat.add_assoc]
theorem W41_eq {A : Nat} {ps : List (Nat × Nat × Nat)} (hF : Fine A ps) : ∀ (d j n l : Nat) (m : List Tq2), ps.length - j = d → j ≤ ps.length → d < n → l ≤ 256 → Known A ps m →
    ∃ m', Known A ps m' ∧ Old j m m' ∧ ∀ (R : Type) (k : List Int → Tq22 → List Tq2 → Option R), W41 n R ((A : Int), stkL ps, needL ps, lostL ps, (0 : Int), ()) m ((j : Int), (l : Int), ()) k = k (lim (wayN A (ps.drop j) l)) ((A : Int), stkL ps, needL ps, lostL ps, (0 : Int), ()) m' := by
  intro d
  have hA := hF.a8
  have hlen := hF.len
  have hsl : (stkL ps).length = ps.length := by simp [stkL]
  induction d with
  | zero =>
    intro j n l m hd hj hn hl hK
    obtain ⟨n, rfl⟩ : ∃ n', n = n' + 1 := ⟨n - 1, by omega⟩
    have : j = ps.length := by omega
    subst this
    refine ⟨m, hK, .refl, fun R k => ?_⟩
    have h2 : ((ps.length : Int) == ((stkL ps).length : Int)) = true := by rw [hsl]; simp
    simp only [W41, p41, h2]
    rw [F70_eq R (by omega), List.drop_length]
    rfl
  | succ d ih =>
    intro j n l m hd hj hn hl hK
    obtain ⟨n, rfl⟩ : ∃ n', n = n' + 1 := ⟨n - 1, by omega⟩
    have hj' : j < ps.length := by omega
    have h2 : ((j : Int) == ((stkL ps).length : Int)) = false := by
      rw [hsl]; simp only [beq_eq_false_iff_ne, ne_eq]; omega
    cases hfd : mfind (Kd.eqv Kq1) m ((j : Int), (l : Int), ()) with
    | some v =>
      refine ⟨m, hK, .refl, fun R k => ?_⟩
      have hv := hK j l v hj hfd
      simp only [W41, p41, h2, hfd, Option.isSome_some, Option.getD_some]
      rw [hv]
    | none =>
      have hbs : bnd (j : Int) ((stkL ps).length : Int) = true := bndN (by omega)
      generalize hp : ps.getD j (0, 0, 0) = p at *
      have hpm : p ∈ ps := by
        rw [← hp, List.getD_eq_getElem?_getD, List.getElem?_eq_getElem hj']; simp
      have hg1 : (stkL ps).getD j [] = lim p.1 := by
        rw [← hp]; simp [stkL, List.getD_eq_getElem?_getD, hj']
      have hp1 : p.1 ≤ p2 (64 * (0 + 1)) := Nat.le_trans (hF.all p hpm).1 (by rw [p2_two]; exact p2_le (by have := hF.need p hpm; omega))
      obtain ⟨m1, hK1, hO1, hF1⟩ := G41_eq hF (l0 := l) hj' (F := W41 n) (fun l m hl hK => ih (j + 1) n l m (by omega) (by omega) (by omega) hl hK) A 0 p.1 l 0 FUEL m (by omega) (by omega) (by rw [FUEL_eq]; omega) hl hp1 (by simp) hK
      have hdrop : ps.drop j = p :: ps.drop (j + 1) := by
        rw [List.drop_eq_getElem_cons hj']
        congr 1
        rw [← hp, List.getD_eq_getElem?_getD, List.getElem?_eq_getElem hj']; rfl
      have hway : wayN A (ps.drop j) l = attN p.2.1 p.2.2 (wayN A (ps.drop (j + 1))) A p.1 l := by rw [hdrop]; rfl
      rw [hp, Nat.zero_add, ← hway] at hF1
      have hnone : mfind (Kd.eqv Kq1) m1 ((j : Int), (l : Int), ()) = none := by rw [hO1 j l (by omega)]; exact hfd
      refine ⟨m1 ++ [(((j : Int), (l : Int), ()), lim (wayN A (ps.drop j) l))], ?_, ?_, fun R k => ?_⟩
      · intro i l' v hi hv
        rw [find_app] at hv
        cases hc : mfind (Kd.eqv Kq1) m1 ((i : Int), (l' : Int), ()) with
        | some u =>
          rw [hc] at hv
          simp only [Option.some.injEq] at hv
          rw [← hv]
          exact hK1 i l' u hi hc
        | none =>
          rw [hc] at hv
          simp only at hv
          split at hv
          · rename_i he
            simp only [Prod.mk.injEq, Int.natCast_inj, and_true] at he
            obtain ⟨rfl, rfl⟩ := he
            simp only [Option.some.injEq] at hv
            exact hv.symm
          · cases hv
      · intro i l' hi
        rw [find_app, hO1 i l' (by omega)]
        cases hc : mfind (Kd.eqv Kq1) m (i, l', ()) with
        | some u => rfl
        | none =>
          have : ¬ ((i, l', ()) : Tq1) = ((j : Int), (l : Int), ()) := by
            intro he
            simp only [Prod.mk.injEq] at he
            omega
          simp only [if_neg this]
      · simp only [W41, p41, h2, hfd, Option.isSome_none, hbs, Int.toNat_natCast, hg1]
        have hF2 : ∀ k0 : List Int → Tq22 → List Tq2 → Tq1 → Option R, G41_10 (W41 n) FUEL R [] (lim p.1) (l : Int) (A : Int) 0 ((A : Int), stkL ps, needL ps, lostL ps, (0 : Int), ()) m ((j : Int), (l : Int), ()) k0 =
          k0 (lim (wayN A (ps.drop j) l)) ((A : Int), stkL ps, needL ps, lostL ps, (0 : Int), ()) m1 ((j : Int), (l : Int), ()) := fun k0 => hF1 R k0
        rw [hF2]
        simp only [hnone, Option.isNone_none]
theorem F41_eq {A : Nat} {ps : List (Nat × Nat × Nat)} (hF : Fine A ps) {l : Nat} (hl : l ≤ 256) : ∃ m', ∀ (R : Type) (k : List Int → Tq22 → List Tq2 → Option R), F41 R ((A : Int), stkL ps, needL ps, lostL ps, (0 : Int), ()) [] ((0 : Int), (l : Int), ()) k = k (lim (wayN A ps l)) ((A : Int), stkL ps, needL ps, lostL ps, (0 : Int), ()) m' := by
  have hlen := hF.len
  obtain ⟨m', _, _, h⟩ := W41_eq hF ps.length 0 FUEL l [] (by omega) (by omega) (by rw [FUEL_eq]; omega) hl (fun j l v _ hv => by simp [mfind] at hv)
  exact ⟨m', h⟩
end Go.PG
namespace Go.PG
noncomputable def partOf (rest : List Int) (i : Int) : Nat × Nat × Nat := ((rest.getD i.toNat 0).toNat, needS (totS rest), 2 ^ needS (totS rest) - (totS rest).toNat)
noncomputable def partsS : List Int → List Int → Option (List (Nat × Nat × Nat))
  | [], _ => some []
  | i :: ms, rest => if 0 ≤ i ∧ i < (rest.length : Int) ∧ rest.getD i.toNat 0 ≠ 0 then match partsS ms (rest.set i.toNat 0) with
      | some ps => some (partOf rest i :: ps)
      | none => none
    else none
structure LOk (l : List Int) : Prop where
  u : AllU64 l
  t : totS l < 9223372036854775808
  n : l.length ≤ 1000000
theorem LOk.nn {l : List Int} (h : LOk l) : 0 ≤ totS l := sumS_nonneg h.u _
theorem LOk.u64 {l : List Int} (h : LOk l) : U64 (totS l) := by have := h.nn; have := h.t; unfold U64; omega
theorem LOk.set {l : List Int} (h : LOk l) {i : Nat} (hi : i < l.length) : LOk (l.set i 0) := ⟨h.u.set0 i, by have := tot_drop h.u hi; have := h.t; omega, by simpa using h.n⟩
theorem LOk.get {l : List Int} (h : LOk l) {i : Nat} (hi : i < l.length) : 0 ≤ l.getD i 0 ∧ l.getD i 0 ≤ totS l := by
  have h1 := tot_set (l := l) hi
  have h2 := (h.set hi).nn
  have h3 := (getD_all h.u u64_0 i).1
  omega
theorem LOk.need {l : List Int} (h : LOk l) : needS (totS l) ≤ 64 ∧ (totS l).toNat ≤ 2 ^ needS (totS l) := by
  obtain ⟨h1, h2, _⟩ := need_spec h.u64
  refine ⟨h1, ?_⟩
  have hc : ((2 : Int) ^ needS (totS l)) = (((2 : Nat) ^ needS (totS l) : Nat) : Int) := by simp
  rw [hc] at h2
  have := h.nn
  generalize 2 ^ needS (totS l) = q at *
  omega
theorem partsS_fine {A : Nat} (hA : A ≤ 8) : ∀ {ms rest : List Int} {ps : List (Nat × Nat × Nat)}, LOk rest → partsS ms rest = some ps → ms.length ≤ 16 → ps.length = ms.length ∧ AllP ps ∧ ∀ p ∈ ps, p.2.1 ≤ 64
  | [], rest, ps, _, h, _ => by
    simp only [partsS, Option.some.injEq] at h
    subst h
    exact ⟨rfl, fun p hp => (by cases hp), fun p hp => (by cases hp)⟩
  | i :: ms, rest, ps, hr, h, hl => by
    simp only [partsS] at h
    split at h <;> try (cases h; done)
    rename_i hi
    split at h <;> try (cases h; done)
    rename_i ps' hps
    simp only [Option.some.injEq] at h
    subst h
    have hi' : i.toNat < rest.length := by omega
    obtain ⟨q1, q2, q3⟩ := partsS_fine hA (hr.set hi') hps (by simpa using Nat.le_of_succ_le hl)
    obtain ⟨n1, n2⟩ := hr.need
    have hg := hr.get hi'
    refine ⟨by simp [q1], fun p hp => ?_, fun p hp => ?_⟩
    · rcases List.mem_cons.1 hp with rfl | hp
      · refine ⟨?_, Nat.sub_le _ _⟩
        show (rest.getD i.toNat 0).toNat ≤ _
        exact Nat.le_trans (by omega) n2
      · exact q2 p hp
    · rcases List.mem_cons.1 hp with rfl | hp
      · exact n1
      · exact q3 p hp
theorem F66_eq (R : Type) {l : List Int} (hl : l.length ≤ 1000000) (k : List Int → Option R) : F66 R l k = k l := by
  have : decide (List.length ([] : List Int) + l.length ≤ 17592186044416) = true := decT (by simp; omega)
  simp only [F66, this]
theorem F39_eq (R : Type) {l : List Int} (h : AllU64 l) (hl : l.length ≤ 1000000) (k : Int → Int → Option R) : F39 R l k = if totS l < 9223372036854775808 then k (totS l) 0 else k 0 11 := by
  simp only [F39, p39]
  rw [F65_eq R h hl]
  by_cases ht : totS l < 9223372036854775808
  · rw [if_pos ht, if_pos ht]; rfl
  · rw [if_neg ht, if_neg ht]; rfl
theorem F68_eq (R : Type) {l : List Int} (hl : l.length ≤ 1000000) (i : Int) (k : List Int → Int → Option R) : F68 R i l k = if 0 ≤ i ∧ i < (l.length : Int) then k (l.set i.toNat 0) 0 else k [] 3 := by
  simp only [F68, p68]
  by_cases h1 : i < 0
  · have : ¬ (0 ≤ i ∧ i < (l.length : Int)) := by omega
    rw [if_neg this]
    simp only [decT h1]
  · simp only [decF h1]
    by_cases h2 : i ≥ (l.length : Int)
    · have : ¬ (0 ≤ i ∧ i < (l.length : Int)) := by omega
      rw [if_neg this]
      simp only [decT h2]
    · rw [if_pos (by omega)]
      simp only [decF h2]
      rw [F66_eq R hl]
      have hb : bnd i (l.length : Int) = true := by unfold bnd; simp; omega
      simp only [hb]
theorem G20_eq (R : Type) {A : Int} (bits : Int) (ms : List Int) (hms : ms.length ≤ 16) (k0 : Int → Option R) (k1 : Int → List Tq2 → List (List Int) → List Int → List (List Int) → Tq1 → Option R) :
    ∀ (m i : Nat) (rest : List Int) (done : List (Nat × Nat × Nat)), i ≤ ms.length → ms.length - i < m → done.length = i → LOk rest →
      G20_9 m R bits rest ms (ms.length : Int) (i : Int) [] (stkL done) (needL done) (lostL done) (A, (0 : Int), ()) k0 k1 = match partsS (ms.drop i) rest with
        | some ps => k1 bits [] (stkL (done ++ ps)) (needL (done ++ ps)) (lostL (done ++ ps)) (A, (0 : Int), ())
        | none => k0 0
  | 0, i, rest, done, _, h, _, _ => by omega
  | m + 1, i, rest, done, h1, h2, h3, hr => by
    simp only [G20_9, p20_9]
    by_cases hi : i < ms.length
    · have hd : decide ((i : Int) < (ms.length : Int)) = true := decT (by omega)
      simp only [hd, bndN hi, Int.toNat_natCast]
      have hdrop : ms.drop i = ms.getD i 0 :: ms.drop (i + 1) := by
        rw [List.drop_eq_getElem_cons hi]
        congr 1
        rw [List.getD_eq_getElem?_getD, List.getElem?_eq_getElem hi]; rfl
      rw [hdrop]
      generalize ms.getD i 0 = x
      rw [F39_eq R hr.u hr.n, if_pos hr.t, F68_eq R hr.n]
      simp only [partsS]
      by_cases hx : 0 ≤ x ∧ x < (rest.length : Int)
      · rw [if_pos hx]
        have n0 : ((0 : Int) != 0) = false := rfl
        have hb : bnd x (rest.length : Int) = true := by unfold bnd; simp; omega
        simp only [n0, hb]
        have hx' : x.toNat < rest.length := by omega
        by_cases hz : rest.getD x.toNat 0 = 0
        · have hb0 : (rest.getD x.toNat 0 == 0) = true := by simp only [beq_iff_eq]; exact hz
          rw [if_neg (fun h => h.2.2 hz)]
          simp only [hb0]
        · have hb0 : (rest.getD x.toNat 0 == 0) = false := by simp only [beq_eq_false_iff_ne, ne_eq]; exact hz
          rw [if_pos ⟨hx.1, hx.2, hz⟩]
          simp only [hb0]
          obtain ⟨n1, n2⟩ := hr.need
          have hg := hr.get hx'
          have ht := hr.t
          have hnn := hr.nn
          rw [F60_eq R hr.u64, F70_eq R (by omega)]
          simp only [n0]
          have e1 : rest.getD x.toNat 0 = (((rest.getD x.toNat 0).toNat : Nat) : Int) := by omega
          have e2 : totS rest = (((totS rest).toNat : Nat) : Int) := by omega
          have hF1 : ∀ k : List Int → Option R, F71 R (rest.getD x.toNat 0) k = k (lim (rest.getD x.toNat 0).toNat) := fun k => by
            have := F71_eq R (n := (rest.getD x.toNat 0).toNat) (by omega) k
            rwa [← e1] at this
          have hF2 : ∀ k : List Int → Option R, F71 R (totS rest) k = k (lim (totS rest).toNat) := fun k => by
            have := F71_eq R (n := (totS rest).toNat) (by omega) k
            rwa [← e2] at this
          rw [hF1]
          have hls : (stkL done).length = i := by simp [stkL, h3]
          have hln : (needL done).length = i := by simp [needL, h3]
          have hll : (lostL done).length = i := by simp [lostL, h3]
          have c1 : ∀ y : List Int, decide ((stkL done).length + [y].length ≤ 5864062014805) = true := fun y => decT (by simp [hls]; omega)
          have c2 : ∀ y : Int, decide ((needL done).length + [y].length ≤ 17592186044416) = true := fun y => decT (by simp [hln]; omega)
          have c3 : ∀ y : List Int, decide ((lostL done).length + [y].length ≤ 5864062014805) = true := fun y => decT (by simp [hll]; omega)
          simp only [c1, c2]
          rw [hF2]
          have hp2 : 2 ^ needS (totS rest) ≤ p2 64 := by rw [p2_two]; exact p2_le n1
          rw [F72_eq R (lt_big (Nat.le_trans hp2 (p2_le (by decide)))) n2]
          simp only [n0, c3]
          rw [wrap_i64 (n := (i : Int) + 1) (by omega) (by omega), show (i : Int) + 1 = ((i + 1 : Nat) : Int) by omega]
          have s1 : stkL done ++ [lim (rest.getD x.toNat 0).toNat] = stkL (done ++ [partOf rest x]) := by simp [stkL, partOf]
          have s2 : needL done ++ [(needS (totS rest) : Int)] = needL (done ++ [partOf rest x]) := by simp [needL, partOf]
          have s3 : lostL done ++ [lim (2 ^ needS (totS rest) - (totS rest).toNat)] = lostL (done ++ [partOf rest x]) := by simp [lostL, partOf]
          rw [s1, s2, s3, G20_eq R bits ms hms k0 k1 m (i + 1) _ _ (by omega) (by omega) (by simp [h3]) (hr.set hx')]
          cases partsS (ms.drop (i + 1)) (rest.set x.toNat 0) with
          | none => rfl
          | some ps => simp only [List.append_assoc, List.singleton_append]
      · rw [if_neg hx, if_neg (fun h => hx ⟨h.1, h.2.1⟩)]
        rfl
    · have : i = ms.length := by omega
      subst this
      have hd : decide ((ms.length : Int) < (ms.length : Int)) = false := by simp
      simp only [hd, List.drop_length, partsS, List.append_nil]
noncomputable def waysS (ms : List Int) (bits a : Int) (l : List Int) : List Int × Int :=
  if (ms.length : Int) > 16 ∨ bits < 0 ∨ bits > 256 ∨ a < 1 ∨ a > 8 then ([], 1) else if totS l < 9223372036854775808 then match partsS ms l with
    | some ps => (lim (wayN a.toNat ps bits.toNat), 0)
    | none => ([], 0)
  else ([], 11)
theorem F20_eq (R : Type) {l : List Int} (h : AllU64 l) (hl : l.length ≤ 1000000) (ms : List Int) (bits a : Int) (k : List Int → Int → Option R) : F20 R ms bits a l k = k (waysS ms bits a l).1 (waysS ms bits a l).2 := by
  simp only [F20, p20]
  unfold waysS
  by_cases h1 : (ms.length : Int) > 16
  · rw [if_pos (.inl h1)]; simp only [decT h1]
  · simp only [decF h1]
    by_cases h2 : bits < 0
    · rw [if_pos (.inr (.inl h2))]; simp only [decT h2]
    · simp only [decF h2]
      by_cases h3 : bits > 256
      · rw [if_pos (.inr (.inr (.inl h3)))]; simp only [decT h3]
      · simp only [decF h3]
        by_cases h4 : a < 1
        · rw [if_pos (.inr (.inr (.inr (.inl h4))))]; simp only [decT h4]
        · simp only [decF h4]
          by_cases h5 : a > 8
          · rw [if_pos (.inr (.inr (.inr (.inr h5))))]; simp only [decT h5]
          · simp only [decF h5]
            rw [if_neg (by omega), F39_eq R h hl]
            by_cases ht : totS l < 9223372036854775808
            · rw [if_pos ht, if_pos ht]
              have n0 : ((0 : Int) != 0) = false := rfl
              simp only [n0]
              have := G20_eq R (A := a) bits ms (by omega) (fun x11 => k [] x11) (fun x12 x13 x14 x15 x16 x17 => F41 R (x17.1, x14, x15, x16, x17.2.1, ()) x13 ((0 : Int), x12, ()) fun y18 s19 m20 => k y18 s19.2.2.2.2.1) FUEL 0 l [] (by omega) (by rw [FUEL_eq]; omega) rfl ⟨h, ht, hl⟩
              refine this.trans ?_
              rw [List.drop_zero]
              cases hp : partsS ms l with
              | none => rfl
              | some ps =>
                obtain ⟨q1, q2, q3⟩ := partsS_fine (A := a.toNat) (by omega) ⟨h, ht, hl⟩ hp (by omega)
                obtain ⟨m', hw⟩ := F41_eq (A := a.toNat) (ps := ps) ⟨by omega, by omega, q2, q3⟩ (l := bits.toNat) (by omega)
                have hw' := hw R (fun y18 s19 m20 => k y18 s19.2.2.2.2.1)
                rw [show ((a.toNat : Nat) : Int) = a by omega, show ((bits.toNat : Nat) : Int) = bits by omega] at hw'
                simp only [List.nil_append]
                rw [hw']
            · rw [if_neg ht, if_neg ht]; rfl
end Go.PG
namespace Go.PG
end Go.PG
namespace Go.PG
end Go.PG
namespace Go.PG
end Go.PG
namespace Go.PG
end Go.PG
namespace Go.PG
theorem G19_eq' (R : Type) (l r : List Int) (hl : l.length ≤ 1000000) (hr : l.length = r.length) (k0 : Bool → Option R) (k1 : Option R) : ∀ (m i : Nat), i ≤ l.length → l.length - i < m → l.take i = r.take i →
    G19_4 m R l r (i : Int) k0 k1 = if l = r then k1 else k0 false
  | 0, i, _, h, _ => by omega
  | m + 1, i, h1, h2, h3 => by
    simp only [G19_4, p19_4]
    by_cases hi : i < l.length
    · have hd : decide ((i : Int) < (l.length : Int)) = true := decide_eq_true (by omega)
      have hbn : bnd (i : Int) (l.length : Int) = true := by unfold bnd; simp; omega
      have hbr : bnd (i : Int) (r.length : Int) = true := by unfold bnd; simp; omega
      simp only [hd, hbn, hbr, Int.toNat_natCast]
      by_cases he : l.getD i 0 = r.getD i 0
      · have e1 : (l.getD i 0 != r.getD i 0) = false := by rw [he]; simp
        simp only [e1]
        rw [wrap_i64 (n := (i : Int) + 1) (by omega) (by omega)]
        refine G19_eq' R l r hl hr k0 k1 m (i + 1) (by omega) (by omega) ?_
        rw [List.take_succ_eq_append_getElem hi, List.take_succ_eq_append_getElem (by omega), h3]
        congr 2
        simpa [hi, show i < r.length by omega] using he
      · have e1 : (l.getD i 0 != r.getD i 0) = true := by simpa using he
        simp only [e1]
        rw [if_neg (fun e => he (by rw [e]))]
    · have : i = l.length := by omega
      subst this
      have hd : decide ((l.length : Int) < (l.length : Int)) = false := by simp
      simp only [hd]
      rw [List.take_length, hr, List.take_length] at h3
      rw [if_pos h3]
theorem F19_eq (R : Type) (l r : List Int) (hl : l.length ≤ 1000000) (k : Bool → Option R) : F19 R l r k = k (decide (l = r)) := by
  simp only [F19, p19]
  by_cases hr : l.length = r.length
  · have e : ((l.length : Int) != (r.length : Int)) = false := by rw [hr]; simp
    simp only [e]
    have := G19_eq' R l r hl hr (fun x4 => k x4) (k true) FUEL 0 (by omega) (by rw [FUEL_eq]; omega) (by simp)
    refine Eq.trans ?_ (this.trans ?_)
    · rfl
    by_cases h : l = r
    · rw [if_pos h, decide_eq_true h]
    · rw [if_neg h, decide_eq_false h]
  · have e : ((l.length : Int) != (r.length : Int)) = true := by
      have : ¬ (l.length : Int) = (r.length : Int) := by omega
      simpa using this
    simp only [e]
    rw [decide_eq_false (fun h => hr (by rw [h]))]
theorem G23_eq' (R : Type) (l r : List Int) (hl : l.length ≤ 1000000) (hr : l.length = r.length) (k0 : Bool → Option R) (k1 : Option R) : ∀ (m i : Nat), i ≤ l.length → l.length - i < m → l.take i = r.take i →
    G23_4 m R l r (i : Int) k0 k1 = if l = r then k1 else k0 false
  | 0, i, _, h, _ => by omega
  | m + 1, i, h1, h2, h3 => by
    simp only [G23_4, p23_4]
    by_cases hi : i < l.length
    · have hd : decide ((i : Int) < (l.length : Int)) = true := decide_eq_true (by omega)
      have hbn : bnd (i : Int) (l.length : Int) = true := by unfold bnd; simp; omega
      have hbr : bnd (i : Int) (r.length : Int) = true := by unfold bnd; simp; omega
      simp only [hd, hbn, hbr, Int.toNat_natCast]
      by_cases he : l.getD i 0 = r.getD i 0
      · have e1 : (l.getD i 0 != r.getD i 0) = false := by rw [he]; simp
        simp only [e1]
        rw [wrap_i64 (n := (i : Int) + 1) (by omega) (by omega)]
        refine G23_eq' R l r hl hr k0 k1 m (i + 1) (by omega) (by omega) ?_
        rw [List.take_succ_eq_append_getElem hi, List.take_succ_eq_append_getElem (by omega), h3]
        congr 2
        simpa [hi, show i < r.length by omega] using he
      · have e1 : (l.getD i 0 != r.getD i 0) = true := by simpa using he
        simp only [e1]
        rw [if_neg (fun e => he (by rw [e]))]
    · have : i = l.length := by omega
      subst this
      have hd : decide ((l.length : Int) < (l.length : Int)) = false := by simp
      simp only [hd]
      rw [List.take_length, hr, List.take_length] at h3
      rw [if_pos h3]
theorem F23_eq (R : Type) (l r : List Int) (hl : l.length ≤ 1000000) (k : Bool → Option R) : F23 R l r k = k (decide (l = r)) := by
  simp only [F23, p23]
  by_cases hr : l.length = r.length
  · have e : ((l.length : Int) != (r.length : Int)) = false := by rw [hr]; simp
    simp only [e]
    have := G23_eq' R l r hl hr (fun x4 => k x4) (k true) FUEL 0 (by omega) (by rw [FUEL_eq]; omega) (by simp)
    refine Eq.trans ?_ (this.trans ?_)
    · rfl
    by_cases h : l = r
    · rw [if_pos h, decide_eq_true h]
    · rw [if_neg h, decide_eq_false h]
  · have e : ((l.length : Int) != (r.length : Int)) = true := by
      have : ¬ (l.length : Int) = (r.length : Int) := by omega
      simpa using this
    simp only [e]
    rw [decide_eq_false (fun h => hr (by rw [h]))]
theorem al17a : partsS [2, 0] [1, 0, 1] = some [(1, 1, 0), (1, 0, 0)] := by kernel_rfl
theorem al17b : partsS [0, 0] [1, 0, 1] = none := by kernel_rfl
theorem al17w : waysS [2, 0] 3 1 [1, 0, 1] = ([4], 0) := by
  unfold waysS
  rw [if_neg (by decide), if_pos (by decide), al17a]
  have : wayN (Int.toNat 1) [(1, 1, 0), (1, 0, 0)] (Int.toNat 3) = 4 := by decide
  simp only [this]
  have hL := LB_eq
  rw [lim_pos (by decide), Nat.mod_eq_of_lt (by omega), Nat.div_eq_of_lt (by omega)]; rfl
theorem al17v : waysS [0, 0] 3 1 [1, 0, 1] = ([], 0) := by
  unfold waysS
  rw [if_neg (by decide), if_pos (by decide), al17b]
theorem F17_eq (R : Type) (k : Bool → Option R) : F17 R k = k true := by
  have u128 : AllU8 [128] := by unfold AllU8 U8; decide
  have n8 : U64 8 := by unfold U64; decide
  have a1 : AllU64 [1, 0, 1] := by unfold AllU64 U64; decide
  have s1 := tapeSrc_ok u128 (by simp) n8
  have ht1 : totS [1, 0, 1] < 9223372036854775808 := by decide
  simp only [F17, p17]
  rw [F12_eq R (by simp)]
  have t1 : tapeR [128] 8 = (tapeSrc [128] 8, 0) := by kernel_rfl
  simp only [t1]
  have c1 : comR [1, 0, 1] 2 (tapeSrc [128] 8) 1 = ([2, 0], setAt (tapeSrc [128] 8) 1, 0) := by kernel_rfl
  have c2 : comL [1, 0, 1] 2 (tapeSrc [128] 8) 1 = ([2, 0], setAt (tapeSrc [128] 8) 1, 0) := by kernel_rfl
  have c3 : comR [1, 0, 1] 3 (tapeSrc [128] 8) 1 = ([], tapeSrc [128] 8, 12) := by kernel_rfl
  have c4 : comR [1, 0, 1] 257 (tapeSrc [128] 8) 1 = ([], tapeSrc [128] 8, 1) := by kernel_rfl
  have c5 : comR [1, 0, 1] 0 (tapeSrc [128] 8) 1 = ([], tapeSrc [128] 8, 0) := by kernel_rfl
  rw [F21_eq R a1 ht1 (by simp), F22_eq R a1 ht1 (by simp) s1, c1]
  simp only []
  rw [F18_eq R a1 (by simp) s1, c2]
  simp only []
  rw [F22_eq R a1 ht1 (by simp) s1, c3]
  simp only []
  rw [F22_eq R a1 ht1 (by simp) s1, c4]
  simp only []
  rw [F20_eq R a1 (by simp), al17w]
  simp only []
  rw [F20_eq R a1 (by simp), al17v]
  simp only []
  rw [F22_eq R a1 ht1 (by simp) s1, c5]
  have e1 : ((0 : Int) == 0) = true := rfl
  have e2 : ((12 : Int) == 12) = true := rfl
  have e3 : ((1 : Int) == 1) = true := rfl
  simp only [e1, e2, e3]
  rw [F19_eq R _ _ (by simp)]
  simp only [decide_true]
  rw [F19_eq R _ _ (by simp)]
  simp only [decide_true]
  have e4 : ((setAt (tapeSrc [128] 8) 1).2.2.2.2.2.1 == 1) = true := rfl
  have e5 : ((tapeSrc [128] 8).2.2.2.2.2.1 == 0) = true := rfl
  simp only [e4, e5]
  rw [F23_eq R _ _ (by simp)]
  simp only [decide_true]
  rfl
end Go.PG
namespace Go.PG
theorem lead_src {l : List Int} (h : AllU64 l) (hlen : l.length ≤ 200) {s : Src} (hs : SOK s) {m : Int} (he : (leadR l s m).2.2 = 0) : ∃ i : Nat, i < l.length ∧ 0 < l.getD i 0 ∧ (leadR l s m).1 = (i : Int) ∧ SOK (leadR l s m).2.1 ∧ atS s ≤ atS (leadR l s m).2.1 := by
  obtain ⟨_, _, _, i, h1, h2, h3, _, _, h4, h5⟩ := lead_ok h hlen hs he
  exact ⟨i, h1, h2, h3, h4, h5⟩
theorem comF_facts (m : Int) : ∀ (n : Nat) (l : List Int) (s : Src) (acc : List Int), AllU64 l → l.length ≤ 200 → SOK s → (comF m n l s acc).2.2 = 0 →
    ∃ new : List Int, (comF m n l s acc).1 = acc ++ new ∧ new.length = n ∧ atS s ≤ atS (comF m n l s acc).2.1 ∧ (∀ x ∈ new, ∃ i : Nat, x = (i : Int) ∧ i < l.length ∧ 0 < l.getD i 0) ∧ new.Nodup
  | 0, l, s, acc, _, _, _, _ => ⟨[], by simp [comF], rfl, Int.le_refl _, fun x hx => (by cases hx), List.nodup_nil⟩
  | n + 1, l, s, acc, h, hl, hs, he => by
    simp only [comF] at he ⊢
    by_cases hle : (leadR l s m).2.2 = 0
    · rw [if_pos hle] at he ⊢
      obtain ⟨i, h1, h2, h3, h4, h5⟩ := lead_src h hl hs hle
      rw [h3] at he ⊢
      rw [Int.toNat_natCast] at he ⊢
      obtain ⟨new, g1, g2, g3, g4, g5⟩ := comF_facts m n (l.set i 0) _ _ (h.set0 i) (by simpa using hl) h4 he
      have hget : ∀ j : Nat, 0 < (l.set i 0).getD j 0 → j ≠ i ∧ 0 < l.getD j 0 := fun j hj => by
        by_cases e : j = i
        · subst e
          rw [set_getD_self _ h1] at hj
          exact absurd hj (by decide)
        · rw [set_getD _ e] at hj
          exact ⟨e, hj⟩
      refine ⟨(i : Int) :: new, by rw [g1]; simp, by simp [g2], Int.le_trans h5 g3, fun x hx => ?_, ?_⟩
      · rcases List.mem_cons.1 hx with rfl | hx
        · exact ⟨i, rfl, h1, h2⟩
        · obtain ⟨j, q1, q2, q3⟩ := g4 x hx
          exact ⟨j, q1, by simpa using q2, (hget j q3).2⟩
      · rw [List.nodup_cons]
        refine ⟨fun hx => ?_, g5⟩
        obtain ⟨j, q1, _, q3⟩ := g4 _ hx
        exact (hget j q3).1 (by omega)
    · rw [if_neg hle] at he
      exact absurd he hle
theorem comF_pre (m : Int) : ∀ (n : Nat) (l : List Int) (s : Src) (acc : List Int), AllU64 l → l.length ≤ 200 → SOK s → (comF m (n + 1) l s acc).2.2 = 0 →
    (comF m n l s acc).2.2 = 0 ∧ (comF m n l s acc).1 = (comF m (n + 1) l s acc).1.dropLast ∧ atS (comF m n l s acc).2.1 ≤ atS (comF m (n + 1) l s acc).2.1
  | 0, l, s, acc, h, hl, hs, he => by
    rw [comF] at he ⊢
    by_cases hle : (leadR l s m).2.2 = 0
    · rw [if_pos hle] at he ⊢
      obtain ⟨i, h1, h2, h3, h4, h5⟩ := lead_src h hl hs hle
      simp only [comF]
      refine ⟨trivial, by simp, h5⟩
    · rw [if_neg hle] at he
      exact absurd he hle
  | n + 1, l, s, acc, h, hl, hs, he => by
    rw [comF] at he
    by_cases hle : (leadR l s m).2.2 = 0
    · rw [if_pos hle] at he
      obtain ⟨i, h1, h2, h3, h4, h5⟩ := lead_src h hl hs hle
      have e1 : comF m (n + 1) l s acc = comF m n (l.set (leadR l s m).1.toNat 0) (leadR l s m).2.1 (acc ++ [(leadR l s m).1]) := by rw [comF, if_pos hle]
      have e2 : comF m (n + 1 + 1) l s acc = comF m (n + 1) (l.set (leadR l s m).1.toNat 0) (leadR l s m).2.1 (acc ++ [(leadR l s m).1]) := by rw [comF, if_pos hle]
      rw [e1, e2]
      exact comF_pre m n _ _ _ (h.set0 _) (by simpa using hl) h4 he
    · rw [if_neg hle] at he
      exact absurd he hle
theorem comF_err (m : Int) : ∀ (n : Nat) (l : List Int) (s : Src) (acc : List Int), (comF m n l s acc).2.2 ≠ 0 → (comF m n l s acc).1 = []
  | 0, l, s, acc, h => by simp [comF] at h
  | n + 1, l, s, acc, h => by
    simp only [comF] at h ⊢
    split
    · rename_i hle
      rw [if_pos hle] at h
      exact comF_err m n _ _ _ h
    · rfl
theorem comL_err {l : List Int} {c : Int} {s : Src} {m : Int} (h : (comL l c s m).2.2 ≠ 0) : (comL l c s m).1 = [] := by
  unfold comL comR at *
  split
  · rename_i h1
    rw [if_pos h1] at h
    split
    · rename_i h2
      rw [if_pos h2] at h
      split
      · rfl
      · rename_i h3
        rw [if_neg h3] at h
        exact comF_err _ _ _ _ _ h
    · rfl
  · rfl
theorem comL_ok {l : List Int} {c : Int} {s : Src} {m : Int} (h : (comL l c s m).2.2 = 0) : totS l < 9223372036854775808 ∧ (0 ≤ c ∧ c ≤ 256 ∧ rightS' s = true ∧ 0 < m ∧ m ≤ 64) ∧ c ≤ posS l ∧ comL l c s m = comF m c.toNat l s [] := by
  unfold comL comR at *
  by_cases h1 : totS l < 9223372036854775808
  · rw [if_pos h1] at h ⊢
    by_cases h2 : 0 ≤ c ∧ c ≤ 256 ∧ rightS' s = true ∧ 0 < m ∧ m ≤ 64
    · rw [if_pos h2] at h ⊢
      by_cases h3 : posS l < c
      · rw [if_pos h3] at h
        exact absurd h (by show ¬ ((12 : Int) = 0); decide)
      · rw [if_neg h3]
        exact ⟨h1, h2, by omega, rfl⟩
    · rw [if_neg h2] at h
      exact absurd h (by show ¬ ((1 : Int) = 0); decide)
  · rw [if_neg h1] at h
    exact absurd h (by show ¬ ((11 : Int) = 0); decide)
theorem G5_16_eq (R : Type) (l : List Int) (c : Int) {mem : List Int} (hlen : mem.length ≤ 1000) (hnd : mem.Nodup) {i : Nat} (hi : i < mem.length) (s t : Src) (k0 : Bool → Option R) (k1 : List Int → Int → List Int → Int → Src → Src → Option R) :
    ∀ (m j : Nat), j ≤ i → i - j < m → G5_16 m R l c mem (i : Int) (j : Int) s t k0 k1 = k1 l c mem (i : Int) s t
  | 0, j, _, h => by omega
  | m + 1, j, h1, h2 => by
    simp only [G5_16, p5_16]
    by_cases hj : j < i
    · have hd : decide ((j : Int) < (i : Int)) = true := decT (by omega)
      have hjm : j < mem.length := by omega
      simp only [hd, bndN hjm, bndN hi, Int.toNat_natCast]
      have hne : (mem.getD j 0 == mem.getD i 0) = false := by
        simp only [beq_eq_false_iff_ne, ne_eq]
        rw [List.getD_eq_getElem?_getD, List.getD_eq_getElem?_getD, List.getElem?_eq_getElem hjm, List.getElem?_eq_getElem hi]
        have := List.pairwise_iff_getElem.1 hnd j i hjm hi hj
        simpa using this
      simp only [hne]
      rw [wrap_i64 (n := (j : Int) + 1) (by omega) (by omega), show (j : Int) + 1 = ((j + 1 : Nat) : Int) by omega]
      exact G5_16_eq R l c hlen hnd hi s t k0 k1 m (j + 1) (by omega) (by omega)
    · have : j = i := by omega
      subst this
      have hd : decide ((j : Int) < (j : Int)) = false := by simp
      simp only [hd]
theorem G5_11_eq (R : Type) (l : List Int) (c : Int) {mem : List Int} (hlen : mem.length ≤ 1000) (hnd : mem.Nodup) (hm : ∀ x ∈ mem, ∃ i : Nat, x = (i : Int) ∧ i < l.length ∧ 0 < l.getD i 0) (s t : Src) (k0 : Bool → Option R) (k1 : List Int → Int → List Int → Src → Src → Option R) :
    ∀ (m i : Nat), i ≤ mem.length → mem.length - i < m → G5_11 m R l c mem (i : Int) s t k0 k1 = k1 l c mem s t
  | 0, i, _, h => by omega
  | m + 1, i, h1, h2 => by
    simp only [G5_11, p5_11]
    by_cases hi : i < mem.length
    · have hd : decide ((i : Int) < (mem.length : Int)) = true := decT (by omega)
      obtain ⟨x, e1, e2, e3⟩ := hm (mem.getD i 0) (by rw [List.getD_eq_getElem?_getD, List.getElem?_eq_getElem hi]; simp)
      have d1 : decide ((x : Int) < 0) = false := decF (by omega)
      have d2 : decide ((x : Int) ≥ (l.length : Int)) = false := decF (by omega)
      have d3 : (l.getD x 0 == 0) = false := by simp only [beq_eq_false_iff_ne, ne_eq]; omega
      simp only [hd, bndN hi, Int.toNat_natCast, e1, d1, d2, bndN e2, d3]
      rw [show (0 : Int) = ((0 : Nat) : Int) from rfl, G5_16_eq R l c hlen hnd hi s t _ _ FUEL 0 (by omega) (by rw [FUEL_eq]; omega), wrap_i64 (n := (i : Int) + 1) (by omega) (by omega), show (i : Int) + 1 = ((i + 1 : Nat) : Int) by omega]
      exact G5_11_eq R l c hlen hnd hm s t k0 k1 m (i + 1) (by omega) (by omega)
    · have : i = mem.length := by omega
      subst this
      have hd : decide ((mem.length : Int) < (mem.length : Int)) = false := by simp
      simp only [hd]
theorem F5_eq (R : Type) {l : List Int} (h : AllU64 l) {c : Int} (hc : 0 ≤ c ∧ c ≤ 255) {s : Src} (hs : SFit s) (k : Bool → Option R) : F5 R l c s k = k true := by
  simp only [F5, p5]
  rw [F17_eq]
  simp only [Bool.not_true]
  rw [F15_eq']
  by_cases hg : (l.length : Int) > 200 ∨ (s.2.1.length : Int) > 500
  · simp only [decide_eq_true hg]
  · simp only [decide_eq_false hg]
    have ho := hs.ok (by omega)
    have hl : l.length ≤ 200 := by omega
    rw [wrap_i64 (n := c) (by omega) (by omega), F18_eq R h hl ho]
    by_cases he : (comL l c s 64).2.2 = 0
    · obtain ⟨q1, q2, q3, q4⟩ := comL_ok he
      rw [q4] at he ⊢
      obtain ⟨new, f1, f2, f3, f4, f5⟩ := comF_facts 64 c.toNat l s [] h hl ho he
      rw [List.nil_append] at f1
      have b0 : ((comF 64 c.toNat l s []).2.2 != 0) = false := by rw [he]; rfl
      simp only [b0, f1]
      have hnl : (new.length : Int) = c := by omega
      have b1 : ((new.length : Int) != c) = false := by rw [hnl]; simp
      have b2 : decide ((comF 64 c.toNat l s []).2.1.2.2.2.2.2.1 < s.2.2.2.2.2.1) = false := decF (by unfold atS at f3; omega)
      simp only [b1, b2]
      rw [show (0 : Int) = ((0 : Nat) : Int) from rfl, G5_11_eq R l c (by omega) f5 f4 s _ _ _ FUEL 0 (by omega) (by rw [FUEL_eq]; omega)]
      by_cases hz : new.length = 0
      · have b3 : ((new.length : Int) == ((0 : Nat) : Int)) = true := by rw [hz]; rfl
        simp only [b3]
      · have b3 : ((new.length : Int) == ((0 : Nat) : Int)) = false := by simp only [beq_eq_false_iff_ne, ne_eq]; omega
        simp only [b3]
        obtain ⟨n, hn⟩ : ∃ n : Nat, c.toNat = n + 1 := ⟨c.toNat - 1, by omega⟩
        rw [hn] at he f1 f3 ⊢
        obtain ⟨p1, p2, p3⟩ := comF_pre 64 n l s [] h hl ho he
        have hpre : comL l (c - 1) s 64 = comF 64 n l s [] := by
          unfold comL comR
          rw [if_pos q1, if_pos ⟨by omega, by omega, q2.2.2.1, by decide, by decide⟩, if_neg (by omega), show (c - 1).toNat = n by omega]
        rw [wrap_i64 (n := c) (by omega) (by omega), wrap_i64 (n := c - 1) (by omega) (by omega), F18_eq R h hl ho, hpre]
        have b4 : ((comF 64 n l s []).2.2 == ((0 : Nat) : Int)) = true := by rw [p1]; rfl
        simp only [b4]
        rw [wrap_i64 (n := (new.length : Int) - 1) (by omega) (by omega)]
        have b5 : decide (((0 : Nat) : Int) ≤ ((0 : Nat) : Int) ∧ ((0 : Nat) : Int) ≤ (new.length : Int) - 1 ∧ (new.length : Int) - 1 ≤ (new.length : Int) - 1 ∧ (new.length : Int) - 1 ≤ (new.length : Int)) = true := decT (by omega)
        simp only [b5]
        rw [F19_eq R _ _ (by rw [p2, f1]; simp; omega)]
        have e5 : (comF 64 n l s []).1 = List.take (Int.toNat ((new.length : Int) - 1 - ((0 : Nat) : Int))) (List.drop 0 new) := by
          rw [p2, f1, List.drop_zero, List.dropLast_eq_take]
          congr 1
          omega
        rw [decT e5]
        simp only []
        rw [decT (show (comF 64 n l s []).2.1.2.2.2.2.2.1 ≤ (comF 64 (n + 1) l s []).2.1.2.2.2.2.2.1 from p3)]
    · have b0 : ((comL l c s 64).2.2 != 0) = true := by simp only [bne_iff_ne, ne_eq]; exact he
      simp only [b0]
      rw [comL_err he]
      rfl
end Go.PG
