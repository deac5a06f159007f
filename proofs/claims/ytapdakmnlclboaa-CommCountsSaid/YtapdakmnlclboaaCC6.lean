/- A part of the proof over this seat (own work; the framework that reads a Go function as a pure one, or a use of it). No condition of its own. -/
import Derived.Test.YtapdakmnlclboaaCC5
set_option linter.unusedVariables false
set_option linter.unusedSimpArgs false
set_option linter.unusedSectionVars false
namespace Go.PG
theorem prod_step {p b : List Int} {i k c x P t : Nat} (hp : Ok32 p) (hb : Ok32 b) (hi : i + k < p.length) (hc : c < LB) (hx : x < LB) (hv : nv p + c * LB ^ (i + k) = P + x * nv (b.take k) * LB ^ i) (ht : t = c + x * ln b k + ln p (i + k)) :
    Ok32 (p.set (i + k) ((t % LB : Nat) : Int)) ∧ nv (p.set (i + k) ((t % LB : Nat) : Int)) + t / LB * LB ^ (i + (k + 1)) = P + x * nv (b.take (k + 1)) * LB ^ i ∧ t / LB < LB ∧ t < 18446744073709551616 ∧ x * ln b k ≤ 18446744065119617025 := by
  have h1 := nv_carry hi t
  have hL := LB_eq
  have lb := ln_lt hb k
  have lp := ln_lt hp (i + k)
  have hxy : x * ln b k ≤ 4294967295 * 4294967295 := Nat.mul_le_mul (by omega) (by omega)
  have htl : t < 18446744073709551616 := by omega
  refine ⟨hp.set (U32.mod t) _, ?_, ?_, htl, hxy⟩
  · rw [nv_take]
    have e : t * LB ^ (i + k) = c * LB ^ (i + k) + x * ln b k * LB ^ (i + k) + ln p (i + k) * LB ^ (i + k) := by rw [ht, Nat.add_mul, Nat.add_mul]
    have e2 : x * (nv (b.take k) + (b.getD k 0).toNat * LB ^ k) * LB ^ i = x * nv (b.take k) * LB ^ i + x * ln b k * LB ^ (i + k) := by
      rw [Nat.mul_add, Nat.add_mul, Nat.pow_add, Nat.mul_comm (LB ^ i) (LB ^ k), ← Nat.mul_assoc x, Nat.mul_assoc (x * _) (LB ^ k) (LB ^ i)]
      rfl
    rw [e2, show i + (k + 1) = i + k + 1 from rfl]
    have key : ∀ A A2 A3 A4 A5 A6 N Q : Nat, A + A2 + A6 = N + A3 → N + A4 = Q → A3 = A4 + A5 + A6 → A + A2 = Q + A5 := by intros; omega
    rw [← Nat.add_assoc]
    exact key _ _ _ _ _ _ _ _ h1 hv e
  · rw [Nat.div_lt_iff_lt_mul LB_pos, hL]; exact htl
theorem G94_7_eq (R : Type) {a b : List Int} {i x P : Nat} (hb : Ok32 b) (hx : x < LB) (la1 : a.length ≤ 900000) (lb1 : b.length ≤ 900000) (hia : i < a.length) (X5 : List Int) (X6 X7 : Int) {k0 : List Int → Int → Int → List Int → Int → Int → List Int → Option R} {r : Option R}
    (hk : ∀ (p : List Int) (c : Nat), Ok32 p → p.length = a.length + b.length → (∀ j, i + b.length ≤ j → p.getD j 0 = 0) → nv p + c * LB ^ (i + b.length) = P + x * nv b * LB ^ i → c < LB → k0 b (i : Int) (c : Int) X5 X6 X7 p = r) :
    ∀ (m k : Nat) (p : List Int) (c : Nat), k ≤ b.length → b.length - k < m → Ok32 p → p.length = a.length + b.length → (∀ j, i + b.length ≤ j → p.getD j 0 = 0) → nv p + c * LB ^ (i + k) = P + x * nv (b.take k) * LB ^ i → c < LB →
      G94_7 m R b (i : Int) (x : Int) (c : Int) X5 X6 X7 b (b.length : Int) (k : Int) p k0 = r
  | 0, k, p, c, _, h, _, _, _, _, _ => by omega
  | m + 1, k, p, c, h1, h2, hp, hpl, hz, hv, hc => by
    simp only [G94_7, p94_7]
    by_cases hi : k < b.length
    · have hd : decide ((k : Int) < (b.length : Int)) = true := decT (by omega)
      have hik : i + k < p.length := by omega
      obtain ⟨q1, q2, q3, q4, q5⟩ := prod_step hp hb hik hc hx hv rfl
      have hL := LB_eq
      have lb := ln_lt hb k
      have lp := ln_lt hp (i + k)
      simp only [hd, bndN hi, Int.toNat_natCast]
      rw [ln_eq hb k, wrap_i64 (n := (i : Int) + (k : Int)) (by omega) (by omega), show (i : Int) + (k : Int) = ((i + k : Nat) : Int) by omega]
      simp only [bndN hik, Int.toNat_natCast]
      rw [ln_eq hp (i + k), wrap_u64 (n := (x : Int)) (by omega) (by omega), wrap_u64 (n := (ln b k : Int)) (by omega) (by omega), show (x : Int) * (ln b k : Int) = ((x * ln b k : Nat) : Int) by simp, wrap_u64 (n := ((x * ln b k : Nat) : Int)) (by omega) (by omega),
        wrap_u64 (n := (ln p (i + k) : Int)) (by omega) (by omega), show ((x * ln b k : Nat) : Int) + (ln p (i + k) : Int) = ((x * ln b k + ln p (i + k) : Nat) : Int) by omega, wrap_u64 (n := ((x * ln b k + ln p (i + k) : Nat) : Int)) (by omega) (by omega),
        show (c : Int) + ((x * ln b k + ln p (i + k) : Nat) : Int) = ((c + x * ln b k + ln p (i + k) : Nat) : Int) by omega, wrap_u64 (n := ((c + x * ln b k + ln p (i + k) : Nat) : Int)) (by omega) (by omega), wrap32, shr32,
        wrap_i64 (n := (k : Int) + 1) (by omega) (by omega), show (k : Int) + 1 = ((k + 1 : Nat) : Int) by omega]
      exact G94_7_eq R hb hx la1 lb1 hia X5 X6 X7 hk m (k + 1) _ _ (by omega) (by omega) q1 (by simp [hpl]) (fun j hj => by rw [set_getD _ (by omega)]; exact hz j hj) q2 q3
    · have hkb : k = b.length := by omega
      subst hkb
      have hd : decide ((b.length : Int) < (b.length : Int)) = false := by simp
      simp only [hd]
      rw [nv_take_all (Nat.le_refl _)] at hv
      exact hk p c hp hpl hz hv hc
theorem G94_3_eq (R : Type) {a b : List Int} (ha : Ok32 a) (hb : Ok32 b) (la1 : a.length ≤ 900000) (lb1 : b.length ≤ 900000) {k0 : List Int → Option R} {r : Option R}
    (hk : ∀ (p : List Int), Ok32 p → p.length = a.length + b.length → nv p = nv a * nv b → k0 p = r) :
    ∀ (m i : Nat) (p : List Int), i ≤ a.length → a.length - i < m → Ok32 p → p.length = a.length + b.length → (∀ j, i + b.length ≤ j → p.getD j 0 = 0) → nv p = nv (a.take i) * nv b →
      G94_3 m R b a (a.length : Int) (i : Int) p k0 = r
  | 0, i, p, _, h, _, _, _, _ => by omega
  | m + 1, i, p, h1, h2, hp, hpl, hz, hv => by
    simp only [G94_3, p94_3]
    by_cases hi : i < a.length
    · have hd : decide ((i : Int) < (a.length : Int)) = true := decT (by omega)
      simp only [hd, bndN hi, Int.toNat_natCast]
      rw [ln_eq ha i]
      refine G94_7_eq R (a := a) (P := nv p) hb (ln_lt ha i) la1 lb1 hi a (a.length : Int) (i : Int) (fun q c hq hql hqz hqv hc => ?_) FUEL 0 p 0 (by omega) (by rw [FUEL_eq]; omega) hp hpl hz (by simp [nv]) LB_pos
      rw [wrap_i64 (n := (i : Int) + (b.length : Int)) (by omega) (by omega), show (i : Int) + (b.length : Int) = ((i + b.length : Nat) : Int) by omega, wrap_i64 (n := (i : Int) + 1) (by omega) (by omega), show (i : Int) + 1 = ((i + 1 : Nat) : Int) by omega]
      have hib : i + b.length < q.length := by omega
      simp only [bndN hib, Int.toNat_natCast]
      rw [wrap32, Nat.mod_eq_of_lt hc]
      have hs := nv_set (l := q) (i := i + b.length) (c : Int) hib
      rw [hqz _ (Nat.le_refl _), Int.toNat_natCast] at hs
      simp only [Int.toNat_zero, Nat.zero_mul, Nat.add_zero] at hs
      refine G94_3_eq R ha hb la1 lb1 hk m (i + 1) _ (by omega) (by omega) (hq.set ?_ _) (by simp [hql]) (fun j hj => by rw [set_getD _ (by omega)]; exact hqz j (by omega)) ?_
      · have := U32.mod c; rwa [Nat.mod_eq_of_lt hc] at this
      · rw [hs, hqv, hv, nv_take, Nat.add_mul]
        congr 1
        rw [Nat.mul_right_comm]; rfl
    · have hia : i = a.length := by omega
      subst hia
      have hd : decide ((a.length : Int) < (a.length : Int)) = false := by simp
      simp only [hd]
      rw [nv_take_all (Nat.le_refl _)] at hv
      exact hk p hp hpl hv
theorem zeros_get (n j : Nat) : (List.replicate n (0 : Int)).getD j 0 = 0 := by
  rw [List.getD_eq_getElem?_getD, List.getElem?_replicate]; split <;> rfl
theorem F94_eq (R : Type) {a b : List Int} (ha : Ok32 a) (hb : Ok32 b) (la1 : a.length ≤ 400000) (lb1 : b.length ≤ 400000) (k : List Int → Option R) : F94 R a b k = k (lim (nv a * nv b)) := by
  simp only [F94, p94]
  rw [wrap_i64 (n := (a.length : Int) + (b.length : Int)) (by omega) (by omega), show (a.length : Int) + (b.length : Int) = ((a.length + b.length : Nat) : Int) by omega]
  have h3 : decide ((0 : Int) ≤ ((a.length + b.length : Nat) : Int) ∧ ((a.length + b.length : Nat) : Int) ≤ ((a.length + b.length : Nat) : Int) ∧ ((a.length + b.length : Nat) : Int) ≤ 35184372088832) = true := decT (by omega)
  simp only [h3, Int.toNat_natCast]
  refine G94_3_eq R ha hb (by omega) (by omega) (fun p hp hpl hv => ?_) FUEL 0 _ (by omega) (by rw [FUEL_eq]; omega) (Ok32.zeros _) (by simp) (fun j _ => zeros_get _ _) (by simp [nv_zeros, nv])
  rw [F89_eq R hp (by omega), hv]
end Go.PG
namespace Go.PG
theorem F105_eq (R : Type) {n : Nat} (hn : n < LB ^ 256) (k : Bool → Option R) : F105 R (lim n) k = k true := by
  have hl := lim_len hn
  simp only [F105, p105]
  have hd : decide (((lim n).length : Int) ≤ 256) = true := decT (by omega)
  simp only [hd]
  rw [F89_eq R (lim_ok n) (by omega), nv_lim]
  simp
theorem F104_eq (R : Type) {n : Nat} (hn : n < LB ^ 256) (k : Bool → Option R) : F104 R (lim n) k = k false := by
  simp only [F104, p104]
  rw [F105_eq R hn]; rfl
theorem two_get (x y : List Int) : ∀ i, i < 2 → List.getD [x, y] i [] = if i = 0 then x else y
  | 0, _ => rfl
  | 1, _ => rfl
  | i + 2, h => by omega
theorem G108104_eq (R : Type) {x y : Nat} (hx : x < LB ^ 256) (hy : y < LB ^ 256) (k0 : Int → Option R) (k1 : Option R) : ∀ (m i : Nat), i ≤ 2 → 2 - i < m → G108104_2 m R [lim x, lim y] (2 : Int) (i : Int) k0 k1 = k1
  | 0, i, _, h => by omega
  | m + 1, i, h1, h2 => by
    simp only [G108104_2, p108104_2]
    by_cases hi : i < 2
    · have hd : decide ((i : Int) < 2) = true := decT (by omega)
      have hb : bnd (i : Int) (([lim x, lim y] : List (List Int)).length : Int) = true := bndN (by simpa using hi)
      simp only [hd, hb, Int.toNat_natCast]
      rw [two_get _ _ _ hi, wrap_i64 (n := (i : Int) + 1) (by omega) (by omega), show (i : Int) + 1 = ((i + 1 : Nat) : Int) by omega]
      by_cases h0 : i = 0
      · rw [if_pos h0, F104_eq R hx]
        exact G108104_eq R hx hy k0 k1 m (i + 1) (by omega) (by omega)
      · rw [if_neg h0, F104_eq R hy]
        exact G108104_eq R hx hy k0 k1 m (i + 1) (by omega) (by omega)
    · have : i = 2 := by omega
      subst this
      rfl
theorem F90_eq (R : Type) {x y : Nat} (hx : x < LB ^ 256) (hy : y < LB ^ 256) (k : Bool → Option R) : F90 R [lim x, lim y] k = k true := by
  simp only [F90, p90, F104104, p104104, F108104, p108104]
  have := G108104_eq R hx hy (fun x2 => k !decide (x2 ≥ 0)) (k !decide ((-1 : Int) ≥ 0)) FUEL 0 (by omega) (by rw [FUEL_eq]; omega)
  rw [show (([lim x, lim y] : List (List Int)).length : Int) = 2 from rfl]
  exact this
theorem fuel3 : ∃ f, FUEL = f + 3 := ⟨FUEL - 3, by rw [FUEL_eq]⟩
theorem F73_eq (R : Type) {x y : Nat} (h : x + y < LB ^ 256) (k : List Int → Int → Option R) : F73 R [lim x, lim y] k = k (lim (x + y)) 0 := by
  have hx : x < LB ^ 256 := Nat.lt_of_le_of_lt (Nat.le_add_right _ _) h
  have hy : y < LB ^ 256 := Nat.lt_of_le_of_lt (Nat.le_add_left _ _) h
  have lx := lim_len hx
  have ly := lim_len hy
  have lxy := lim_len h
  simp only [F73, p73, F93093, p93093]
  rw [F90_eq R hx hy]
  obtain ⟨f, hf⟩ := fuel3
  rw [hf, show (([lim x, lim y] : List (List Int)).length : Int) = 2 from rfl]
  have d0 : decide ((0 : Int) < 2) = true := rfl
  have d1 : decide ((1 : Int) < 2) = true := rfl
  have d2 : decide ((2 : Int) < 2) = false := rfl
  have b0 : bnd (0 : Int) (([lim x, lim y] : List (List Int)).length : Int) = true := rfl
  have b1 : bnd (1 : Int) (([lim x, lim y] : List (List Int)).length : Int) = true := rfl
  have g0 : List.getD [lim x, lim y] (Int.toNat 0) [] = lim x := rfl
  have g1 : List.getD [lim x, lim y] (Int.toNat 1) [] = lim y := rfl
  have w0 : IntKind.i64.wrap ((0 : Int) + 1) = 1 := by decide
  have w1 : IntKind.i64.wrap ((1 : Int) + 1) = 2 := by decide
  have e0 : decide (((lim x).length : Int) > 256) = false := decF (by omega)
  have e1 : decide (((lim (x + y)).length : Int) > 256) = false := decF (by omega)
  simp only [G93093_4, p93093_4, Bool.not_true, d0, b0, g0]
  rw [F93_eq R Ok32.nil (lim_ok x) (by simp) (by omega), show nv [] + nv (lim x) = x by rw [nv_lim]; simp [nv]]
  simp only [e0, w0, d1, b1, g1]
  rw [F93_eq R (lim_ok x) (lim_ok y) (by omega) (by omega), nv_lim, nv_lim]
  simp only [e1, w1, d2]
theorem F74_eq (R : Type) {x y : Nat} (hx : x < LB ^ 256) (hy : y < LB ^ 256) (h : x * y < LB ^ 256) (k : List Int → Int → Option R) : F74 R [lim x, lim y] k = k (lim (x * y)) 0 := by
  have lx := lim_len hx
  have ly := lim_len hy
  have lxy := lim_len h
  simp only [F74, p74, F93094, p93094]
  have h1 := F71_eq R (n := 1) (by omega)
  rw [show ((1 : Nat) : Int) = 1 from rfl] at h1
  rw [h1, F90_eq R hx hy]
  obtain ⟨f, hf⟩ := fuel3
  rw [hf, show (([lim x, lim y] : List (List Int)).length : Int) = 2 from rfl]
  have d0 : decide ((0 : Int) < 2) = true := rfl
  have d1 : decide ((1 : Int) < 2) = true := rfl
  have d2 : decide ((2 : Int) < 2) = false := rfl
  have b0 : bnd (0 : Int) (([lim x, lim y] : List (List Int)).length : Int) = true := rfl
  have b1 : bnd (1 : Int) (([lim x, lim y] : List (List Int)).length : Int) = true := rfl
  have g0 : List.getD [lim x, lim y] (Int.toNat 0) [] = lim x := rfl
  have g1 : List.getD [lim x, lim y] (Int.toNat 1) [] = lim y := rfl
  have w0 : IntKind.i64.wrap ((0 : Int) + 1) = 1 := by decide
  have w1 : IntKind.i64.wrap ((1 : Int) + 1) = 2 := by decide
  have e0 : decide (((lim x).length : Int) > 256) = false := decF (by omega)
  have e1 : decide (((lim (x * y)).length : Int) > 256) = false := decF (by omega)
  have l1 : (lim 1).length ≤ 1 := lim_len (by rw [Nat.pow_one]; exact LB_one)
  simp only [G93094_4, p93094_4, Bool.not_true, d0, b0, g0]
  rw [F94_eq R (lim_ok 1) (lim_ok x) (by omega) (by omega), nv_lim, nv_lim, Nat.one_mul]
  simp only [e0, w0, d1, b1, g1]
  rw [F94_eq R (lim_ok x) (lim_ok y) (by omega) (by omega), nv_lim, nv_lim]
  simp only [e1, w1, d2]
end Go.PG
namespace Go.PG
theorem lim_ge {n : Nat} : ∀ {k : Nat}, (lim n).length = k + 1 → LB ^ k ≤ n := by
  induction n using Nat.strongRecOn with
  | ind n ih =>
    intro k h
    by_cases h0 : n = 0
    · subst h0; rw [lim_zero] at h; simp at h
    · rw [lim_pos h0, List.length_cons] at h
      cases k with
      | zero => rw [Nat.pow_zero]; omega
      | succ k =>
        have := ih (n / LB) (Nat.div_lt_self (by omega) LB_one) (k := k) (by omega)
        rw [Nat.pow_succ]
        exact Nat.le_trans (Nat.mul_le_mul_right _ this) (Nat.div_mul_le_self n LB)
theorem lim_len_mono {x y : Nat} (h : x ≤ y) : (lim x).length ≤ (lim y).length := by
  rcases Nat.lt_or_ge (lim y).length (lim x).length with hlt | hge
  · exfalso
    obtain ⟨k, hk⟩ : ∃ k, (lim x).length = k + 1 := ⟨(lim x).length - 1, by omega⟩
    have h1 := lim_ge hk
    have h2 := nv_lt (lim_ok y)
    rw [nv_lim] at h2
    have h3 : LB ^ (lim y).length ≤ LB ^ k := Nat.pow_le_pow_right LB_pos (by omega)
    exact absurd (Nat.lt_of_lt_of_le h2 (Nat.le_trans h3 (Nat.le_trans h1 h))) (Nat.lt_irrefl _)
  · exact hge
theorem nv_split (l : List Int) (i : Nat) (hi : i ≤ l.length) : nv l = nv (l.take i) + LB ^ i * nv (l.drop i) := by
  have := nv_app (l.take i) (l.drop i)
  rw [List.take_append_drop, List.length_take, Nat.min_eq_left hi] at this
  exact this
theorem drop_same {a b : List Int} (hl : a.length = b.length) {i : Nat} (h : ∀ j, i ≤ j → a.getD j 0 = b.getD j 0) : a.drop i = b.drop i := by
  apply List.ext_getElem
  · simp [hl]
  · intro n h1 h2
    have := h (i + n) (by omega)
    rw [List.getD_eq_getElem?_getD, List.getD_eq_getElem?_getD] at this
    simp only [List.length_drop] at h1 h2
    rw [List.getElem?_eq_getElem (by omega), List.getElem?_eq_getElem (by omega)] at this
    simpa using this
theorem top_lt {a b : List Int} (ha : Ok32 a) (hl : a.length = b.length) {i : Nat} (hi : i < a.length) (h : ∀ j, i + 1 ≤ j → a.getD j 0 = b.getD j 0) (hlt : ln a i < ln b i) : nv a < nv b := by
  rw [nv_split a (i + 1) (by omega), nv_split b (i + 1) (by omega), drop_same hl h, nv_take, nv_take]
  have h1 : nv (a.take i) < LB ^ i := by
    have := nv_lt (l := a.take i) (fun x hx => ha x (List.mem_of_mem_take hx))
    rwa [List.length_take, Nat.min_eq_left (by omega)] at this
  have h2 : (ln a i + 1) * LB ^ i ≤ ln b i * LB ^ i := Nat.mul_le_mul_right _ hlt
  rw [Nat.add_mul, Nat.one_mul] at h2
  have key : ∀ A A1 P B B1 D : Nat, A < P → A1 + P ≤ B1 → A + A1 + D < B + B1 + D := by intros; omega
  exact key _ _ _ _ _ _ h1 h2
theorem G91_eq (R : Type) {a b : List Int} (ha : Ok32 a) (hb : Ok32 b) (hl : a.length = b.length) (hla : a.length ≤ 100000) (hge : nv b ≤ nv a) (k0 : Int → Option R) (k1 : Option R) {r : Option R} (hk0 : k0 1 = r) (hk1 : k1 = r) :
    ∀ (m i : Nat), i ≤ a.length → i < m → (∀ j, i ≤ j → a.getD j 0 = b.getD j 0) → G91_6 m R a b ((i : Int) - 1) k0 k1 = r
  | 0, i, _, h, _ => by omega
  | m + 1, 0, h1, h2, h3 => by
    simp only [G91_6, p91_6]
    have hd : decide (((0 : Nat) : Int) - 1 ≥ 0) = false := decF (by omega)
    simp only [hd]
    exact hk1
  | m + 1, i + 1, h1, h2, h3 => by
    simp only [G91_6, p91_6]
    have e : ((i + 1 : Nat) : Int) - 1 = (i : Int) := by omega
    rw [e]
    have hd : decide ((i : Int) ≥ 0) = true := decT (by omega)
    simp only [hd, bndN (show i < a.length by omega), bndN (show i < b.length by omega), Int.toNat_natCast]
    have hnl : ¬ a.getD i 0 < b.getD i 0 := by
      intro hlt
      have := top_lt ha hl (i := i) (by omega) h3 (by have h4 := ln_eq ha i; have h5 := ln_eq hb i; omega)
      omega
    have hd2 : decide (a.getD i 0 < b.getD i 0) = false := decF hnl
    simp only [hd2]
    by_cases hgt : a.getD i 0 > b.getD i 0
    · have hd3 : decide (a.getD i 0 > b.getD i 0) = true := decT hgt
      simp only [hd3]
      exact hk0
    · have hd3 : decide (a.getD i 0 > b.getD i 0) = false := decF hgt
      simp only [hd3]
      rw [wrap_i64 (n := (i : Int) - 1) (by omega) (by omega)]
      refine G91_eq R ha hb hl hla hge k0 k1 hk0 hk1 m i (by omega) (by omega) (fun j hj => ?_)
      by_cases hji : j = i
      · subst hji; omega
      · exact h3 j (by omega)
theorem F91_eq (R : Type) {x y : Nat} (hx : x < LB ^ 256) (hy : y < LB ^ 256) (hge : y ≤ x) {k : Int → Option R} {r : Option R} (hk : ∀ z, 0 ≤ z → k z = r) : F91 R (lim x) (lim y) k = r := by
  have lx := lim_len hx
  have ly := lim_len hy
  have lm := lim_len_mono hge
  simp only [F91, p91]
  rw [F90_eq R hx hy]
  simp only [Bool.not_true]
  by_cases hl : (lim x).length = (lim y).length
  · have hne : (((lim x).length : Int) != ((lim y).length : Int)) = false := by simp [hl]
    simp only [hne]
    rw [wrap_i64 (n := ((lim x).length : Int) - 1) (by omega) (by omega)]
    exact G91_eq R (lim_ok x) (lim_ok y) hl (by omega) (by rw [nv_lim, nv_lim]; exact hge) (fun x13 => k x13) (k 0) (hk 1 (by omega)) (hk 0 (by omega)) FUEL (lim x).length (Nat.le_refl _) (by rw [FUEL_eq]; omega) (fun j hj => by
      rw [getD_lim_over hj, getD_lim_over (by omega)])
  · have hne : (((lim x).length : Int) != ((lim y).length : Int)) = true := by
      simp only [bne_iff_ne, ne_eq]; omega
    simp only [hne]
    rw [wrap_i64 (n := ((lim x).length : Int) - ((lim y).length : Int)) (by omega) (by omega)]
    apply hk
    split <;> split <;> omega
theorem sub_step {a b d : List Int} {i c : Nat} (ha : Ok32 a) (hb : Ok32 b) (hi : i < d.length) (hz : d.getD i 0 = 0) (hv : nv (b.take i) + nv d = nv (a.take i) + c * LB ^ i) {e c' : Nat} (he : c + ln b i + e = ln a i + c' * LB) :
    nv (b.take (i + 1)) + nv (d.set i (e : Int)) = nv (a.take (i + 1)) + c' * LB ^ (i + 1) := by
  have h1 := nv_set (l := d) (i := i) (e : Int) hi
  rw [hz, Int.toNat_natCast] at h1
  simp only [Int.toNat_zero, Nat.zero_mul, Nat.add_zero] at h1
  rw [h1, nv_take, nv_take]
  have h2 : (c + ln b i + e) * LB ^ i = (ln a i + c' * LB) * LB ^ i := by rw [he]
  rw [Nat.add_mul, Nat.add_mul, Nat.add_mul, Nat.mul_assoc c', Nat.mul_comm LB, ← Nat.pow_succ] at h2
  have key : ∀ A B C D E F G H : Nat, A + B = C + D → D + E + F = G + H → A + E + (B + F) = C + G + H := by intros; omega
  exact key _ _ _ _ _ _ _ _ hv h2
theorem G72_eq (R : Type) {a b : List Int} (ha : Ok32 a) (hb : Ok32 b) (hla : a.length ≤ 100000) (hlb : b.length ≤ a.length) {k0 : List Int → Option R} {r : Option R}
    (hk : ∀ (d : List Int) (c : Nat), Ok32 d → d.length = a.length → nv b + nv d = nv a + c * LB ^ a.length → c ≤ 1 → k0 d = r) :
    ∀ (m i : Nat) (d : List Int) (c : Nat), i ≤ a.length → a.length - i < m → Ok32 d → d.length = a.length → (∀ j, i ≤ j → d.getD j 0 = 0) → nv (b.take i) + nv d = nv (a.take i) + c * LB ^ i → c ≤ 1 →
      G72_8 m R b (-(c : Int)) a (a.length : Int) (i : Int) d k0 = r
  | 0, i, d, c, _, h, _, _, _, _, _ => by omega
  | m + 1, i, d, c, h1, h2, hd0, hdl, hz, hv, hc => by
    simp only [G72_8, p72_8]
    by_cases hi : i < a.length
    · have hd : decide ((i : Int) < (a.length : Int)) = true := decT (by omega)
      have hL := LB_eq
      have la := ln_lt ha i
      have lb := ln_lt hb i
      have hid : i < d.length := by omega
      have sh : ∀ z : Int, -4294967296 ≤ z → z < 4294967296 → ishr .i64 z 32 = if z < 0 then -1 else 0 := by
        intro z h1 h2
        unfold ishr
        have e : (2 : Int) ^ (min (Int.toNat 32) IntKind.i64.bits) = 4294967296 := by decide
        rw [e, Int.fdiv_eq_ediv_of_nonneg _ (by decide)]
        split <;> omega
      have fin : ∀ (n : Int), n = (ln a i : Int) - (c : Int) - (ln b i : Int) →
          G72_8 m R b (ishr .i64 n 32) a (a.length : Int) (IntKind.i64.wrap ((i : Int) + 1)) (List.set d i (IntKind.u32.wrap n)) k0 = r := by
        intro n hn
        rw [wrap_i64 (n := (i : Int) + 1) (by omega) (by omega), show (i : Int) + 1 = ((i + 1 : Nat) : Int) by omega, sh n (by omega) (by omega)]
        by_cases hneg : n < 0
        · rw [if_pos hneg]
          obtain ⟨e, he, he2⟩ : ∃ e : Nat, IntKind.u32.wrap n = (e : Int) ∧ (e : Int) = n + 4294967296 := ⟨(n + 4294967296).toNat, by rw [wrap_u32_mod]; omega, by omega⟩
          rw [he, show (-1 : Int) = -((1 : Nat) : Int) from rfl]
          exact G72_eq R ha hb hla hlb hk m (i + 1) _ 1 (by omega) (by omega) (hd0.set (by unfold U32; omega) _) (by simp [hdl]) (fun j hj => by rw [set_getD _ (by omega)]; exact hz j (by omega))
            (sub_step ha hb hid (hz i (Nat.le_refl _)) hv (by omega)) (by omega)
        · rw [if_neg hneg]
          obtain ⟨e, he, he2⟩ : ∃ e : Nat, IntKind.u32.wrap n = (e : Int) ∧ (e : Int) = n := ⟨n.toNat, by rw [wrap_u32_mod]; omega, by omega⟩
          rw [he, show (0 : Int) = -((0 : Nat) : Int) from rfl]
          exact G72_eq R ha hb hla hlb hk m (i + 1) _ 0 (by omega) (by omega) (hd0.set (by unfold U32; omega) _) (by simp [hdl]) (fun j hj => by rw [set_getD _ (by omega)]; exact hz j (by omega))
            (sub_step ha hb hid (hz i (Nat.le_refl _)) hv (by omega)) (by omega)
      simp only [hd, bndN hi, bndN hid, Int.toNat_natCast]
      rw [ln_eq ha i, wrap_i64 (n := (ln a i : Int)) (by omega) (by omega), wrap_i64 (n := (ln a i : Int) + -(c : Int)) (by omega) (by omega)]
      by_cases hib : i < b.length
      · have hd2 : decide ((i : Int) < (b.length : Int)) = true := decT (by omega)
        simp only [hd2, bndN hib]
        rw [ln_eq hb i, wrap_i64 (n := (ln b i : Int)) (by omega) (by omega), wrap_i64 (n := (ln a i : Int) + -(c : Int) - (ln b i : Int)) (by omega) (by omega)]
        exact fin _ (by omega)
      · have hd2 : decide ((i : Int) < (b.length : Int)) = false := decF (by omega)
        have e0 : ln b i = 0 := ln_over (by omega)
        simp only [hd2]
        exact fin _ (by omega)
    · have hia : i = a.length := by omega
      subst hia
      have hd : decide ((a.length : Int) < (a.length : Int)) = false := by simp
      simp only [hd]
      rw [nv_take_all (Nat.le_refl _), nv_take_all hlb] at hv
      exact hk d c hd0 hdl hv hc
theorem F72_eq (R : Type) {x y : Nat} (hx : x < LB ^ 256) (hge : y ≤ x) (k : List Int → Int → Option R) : F72 R (lim x) (lim y) k = k (lim (x - y)) 0 := by
  have hy : y < LB ^ 256 := Nat.lt_of_le_of_lt hge hx
  have lx := lim_len hx
  have lm := lim_len_mono hge
  simp only [F72, p72]
  rw [F90_eq R hx hy]
  simp only [Bool.not_true]
  refine F91_eq R hx hy hge (fun z hz => ?_)
  have hd : decide (z < 0) = false := decF (by omega)
  have h3 : decide ((0 : Int) ≤ ((lim x).length : Int) ∧ ((lim x).length : Int) ≤ ((lim x).length : Int) ∧ ((lim x).length : Int) ≤ 35184372088832) = true := decT (by omega)
  simp only [hd, h3, Int.toNat_natCast]
  refine G72_eq R (lim_ok x) (lim_ok y) (by omega) lm (fun d c hd0 hdl hv hc => ?_) FUEL 0 _ 0 (by omega) (by rw [FUEL_eq]; omega) (Ok32.zeros _) (by simp) (fun j _ => zeros_get _ _) (by simp [nv_zeros, nv]) (by omega)
  rw [nv_lim, nv_lim] at hv
  have hdv := nv_lt hd0
  rw [hdl] at hdv
  have hc0 : c = 0 := by
    rcases Nat.eq_zero_or_pos c with h | h
    · exact h
    · have : c = 1 := by omega
      subst this
      rw [Nat.one_mul] at hv
      omega
  subst hc0
  rw [Nat.zero_mul, Nat.add_zero] at hv
  rw [F89_eq R hd0 (by omega), show nv d = x - y by omega]
end Go.PG
namespace Go.PG
theorem key_eq (a b : Tq1) : Kd.eqv Kq1 a b = decide (a = b) := by
  obtain ⟨a1, a2, _⟩ := a
  obtain ⟨b1, b2, _⟩ := b
  show ((a1 == b1) && ((a2 == b2) && true)) = _
  rw [Bool.and_true]
  by_cases h1 : a1 = b1
  · by_cases h2 : a2 = b2
    · subst h1; subst h2; simp
    · subst h1; simp [h2]
  · simp [h1]
theorem find_app (m : List Tq2) (t : Tq1) (v : List Int) (key : Tq1) : mfind (Kd.eqv Kq1) (m ++ [(t, v)]) key = match mfind (Kd.eqv Kq1) m key with | some u => some u | none => if key = t then some v else none := by
  induction m with
  | nil =>
    simp only [List.nil_append, mfind, key_eq]
    by_cases h : key = t <;> simp [h]
  | cons p m ih =>
    simp only [List.cons_append, mfind, key_eq]
    by_cases h : key = p.1 <;> simp [h, ih, key_eq]
def Known (A : Nat) (ps : List (Nat × Nat × Nat)) (m : List Tq2) : Prop := ∀ (j l : Nat) (v : List Int), j ≤ ps.length → mfind (Kd.eqv Kq1) m ((j : Int), (l : Int), ()) = some v → v = lim (wayN A (ps.drop j) l)
def Old (j : Nat) (m m' : List Tq2) : Prop := ∀ (i l : Int), i < (j : Int) → mfind (Kd.eqv Kq1) m' (i, l, ()) = mfind (Kd.eqv Kq1) m (i, l, ())
theorem Old.refl {j : Nat} {m : List Tq2} : Old j m m := fun _ _ _ => rfl
theorem Old.trans {j : Nat} {m m' m'' : List Tq2} (h : Old j m m') (h' : Old j m' m'') : Old j m m'' := fun i l hi => by rw [h' i l hi, h i l hi]
theorem lt_big {x : Nat} (h : x ≤ p2 1200) : x < LB ^ 256 := by
  refine Nat.lt_of_le_of_lt h ?_
  rw [LB_p2, p2_pow]
  exact p2_lt (by decide)
noncomputable def stkL (ps : List (Nat × Nat × Nat)) : List (List Int) := ps.map fun p => lim p.1
def needL (ps : List (Nat × Nat × Nat)) : List Int := ps.map fun p => (p.2.1 : Int)
noncomputable def lostL (ps : List (Nat × Nat × Nat)) : List (List Int) := ps.map fun p => lim p.2.2
structure Fine (A : Nat) (ps : List (Nat × Nat × Nat)) : Prop where
  a8 : A ≤ 8
  len : ps.length ≤ 16
  all : AllP ps
  need : ∀ p ∈ ps, p.2.1 ≤ 64
theorem Fine.way {A : Nat} {ps : List (Nat × Nat × Nat)} (h : Fine A ps) (j : Nat) {l : Nat} (hl : l ≤ 256) : wayN A (ps.drop j) l ≤ p2 304 := by
  have h1 := wayN_le A (ps := ps.drop j) (fun p hp => h.all p (List.mem_of_mem_drop hp)) l
  have h2 : A ^ (ps.drop j).length ≤ p2 48 := by
    rw [← p2_two]
    refine Nat.le_trans (Nat.pow_le_pow_left h.a8 _) (Nat.le_trans (Nat.pow_le_pow_right (by decide) (show (ps.drop j).length ≤ 16 by have := h.len; simp; omega)) ?_)
    decide
  have h3 : (2 : Nat) ^ l ≤ p2 256 := by rw [p2_two]; exact p2_le hl
  refine Nat.le_trans h1 (Nat.le_trans (Nat.mul_le_mul h2 h3) ?_)
  rw [← p2_add]
  exact Nat.le_refl _
theorem G41_eq {A : Nat} {ps : List (Nat × Nat × Nat)} (hF : Fine A ps) {j l0 : Nat} (hj : j < ps.length) {F : FT41}
    (ih : ∀ (l : Nat) (m : List Tq2), l ≤ 256 → Known A ps m → ∃ m', Known A ps m' ∧ Old (j + 1) m m' ∧ ∀ (R : Type) (k : List Int → Tq22 → List Tq2 → Option R), F R ((A : Int), stkL ps, needL ps, lostL ps, (0 : Int), ()) m (((j + 1 : Nat) : Int), (l : Int), ()) k = k (lim (wayN A (ps.drop (j + 1)) l)) ((A : Int), stkL ps, needL ps, lostL ps, (0 : Int), ()) m') :
    ∀ (d a f left sum mm : Nat) (m : List Tq2), A - a = d → a ≤ A → d < mm → left ≤ 256 → f ≤ p2 (64 * (a + 1)) → sum ≤ a * p2 1000 → Known A ps m →
      ∃ m', Known A ps m' ∧ Old (j + 1) m m' ∧ ∀ (R : Type) (k0 : List Int → Tq22 → List Tq2 → Tq1 → Option R), G41_10 F mm R (lim sum) (lim f) (left : Int) (A : Int) (a : Int) ((A : Int), stkL ps, needL ps, lostL ps, (0 : Int), ()) m ((j : Int), (l0 : Int), ()) k0 =
        k0 (lim (sum + attN (ps.getD j (0, 0, 0)).2.1 (ps.getD j (0, 0, 0)).2.2 (wayN A (ps.drop (j + 1))) d f left)) ((A : Int), stkL ps, needL ps, lostL ps, (0 : Int), ()) m' ((j : Int), (l0 : Int), ()) := by
  intro d
  have hA := hF.a8
  have hlen := hF.len
  induction d with
  | zero =>
    intro a f left sum mm m hd ha hm hl hf hs hK
    refine ⟨m, hK, .refl, fun R k0 => ?_⟩
    obtain ⟨n, rfl⟩ : ∃ n, mm = n + 1 := ⟨mm - 1, by omega⟩
    have h9 : decide ((a : Int) < (A : Int)) = false := decF (by omega)
    simp only [G41_10, p41_10, h9, attN, Nat.add_zero]
  | succ d ihd =>
    intro a f left sum mm m hd ha hm hl hf hs hK
    obtain ⟨n, rfl⟩ : ∃ n, mm = n + 1 := ⟨mm - 1, by omega⟩
    have h9 : decide ((a : Int) < (A : Int)) = true := decT (by omega)
    have hnl : (needL ps).length = ps.length := by simp [needL]
    have hll : (lostL ps).length = ps.length := by simp [lostL]
    have hb1 : bnd (j : Int) ((needL ps).length : Int) = true := bndN (by omega)
    have hb2 : bnd (j : Int) ((lostL ps).length : Int) = true := bndN (by omega)
    generalize hp : ps.getD j (0, 0, 0) = p at *
    have hpm : p ∈ ps := by
      rw [← hp, List.getD_eq_getElem?_getD, List.getElem?_eq_getElem hj]; simp
    have hg1 : (needL ps).getD j 0 = (p.2.1 : Int) := by
      rw [← hp]; simp [needL, List.getD_eq_getElem?_getD, hj]
    have hg2 : (lostL ps).getD j [] = lim p.2.2 := by
      rw [← hp]; simp [lostL, List.getD_eq_getElem?_getD, hj]
    obtain ⟨hp1, hp2⟩ := hF.all p hpm
    have hp64 := hF.need p hpm
    have hq : p.2.2 ≤ p2 64 := Nat.le_trans hp2 (by rw [p2_two]; exact p2_le hp64)
    by_cases hlt : left < p.2.1
    · refine ⟨m, hK, .refl, fun R k0 => ?_⟩
      have h12 : decide ((left : Int) - (p.2.1 : Int) < 0) = true := decT (by omega)
      simp only [G41_10, p41_10, h9, hb1, Int.toNat_natCast, hg1]
      rw [wrap_i64 (n := (left : Int) - (p.2.1 : Int)) (by omega) (by omega)]
      simp only [h12, attN, if_pos hlt, Nat.add_zero]
    · have h12 : decide ((left : Int) - (p.2.1 : Int) < 0) = false := decF (by omega)
      by_cases hf0 : f = 0
      · subst hf0
        refine ⟨m, hK, .refl, fun R k0 => ?_⟩
        simp only [G41_10, p41_10, h9, hb1, Int.toNat_natCast, hg1]
        rw [wrap_i64 (n := (left : Int) - (p.2.1 : Int)) (by omega) (by omega)]
        have h14 : (((lim 0).length : Int) == 0) = true := rfl
        simp only [h12, h14, attN_zero, Nat.add_zero]
      · have h14 : (((lim f).length : Int) == 0) = false := by
          have : (lim f).length ≠ 0 := fun e => hf0 (lim_nil.1 (List.length_eq_zero_iff.1 e))
          simp only [beq_eq_false_iff_ne, ne_eq]; omega
        obtain ⟨m1, hK1, hO1, hF1⟩ := ih (left - p.2.1) m (by omega) hK
        have hfb : f ≤ p2 576 := Nat.le_trans hf (p2_le (by omega))
        have hW : wayN A (ps.drop (j + 1)) (left - p.2.1) ≤ p2 304 := hF.way _ (by omega)
        have hfW : f * wayN A (ps.drop (j + 1)) (left - p.2.1) ≤ p2 1000 := by
          refine Nat.le_trans (Nat.mul_le_mul hfb hW) ?_
          rw [← p2_add]
          exact p2_le (by decide)
        have hfq : f * p.2.2 ≤ p2 (64 * (a + 1 + 1)) := by
          rw [show 64 * (a + 1 + 1) = 64 * (a + 1) + 64 by omega, p2_add]
          exact Nat.mul_le_mul hf hq
        have hfqb : f * p.2.2 ≤ p2 1200 := Nat.le_trans hfq (p2_le (by omega))
        have hs1 : sum + f * wayN A (ps.drop (j + 1)) (left - p.2.1) ≤ (a + 1) * p2 1000 := by
          rw [Nat.succ_mul]; exact Nat.add_le_add hs hfW
        have hs2 : sum + f * wayN A (ps.drop (j + 1)) (left - p.2.1) ≤ p2 1200 := by
          refine Nat.le_trans hs1 (Nat.le_trans (Nat.mul_le_mul_right _ (show a + 1 ≤ p2 8 by rw [← p2_two]; omega)) ?_)
          rw [← p2_add]
          exact p2_le (by decide)
        have w1200 : p2 1000 ≤ p2 1200 := p2_le (by decide)
        obtain ⟨m2, hK2, hO2, hF2⟩ := ihd (a + 1) (f * p.2.2) (left - p.2.1) (sum + f * wayN A (ps.drop (j + 1)) (left - p.2.1)) n m1 (by omega) (by omega) (by omega) (by omega) hfq hs1 hK1
        refine ⟨m2, hK2, hO1.trans hO2, fun R k0 => ?_⟩
        simp only [G41_10, p41_10, h9, hb1, Int.toNat_natCast, hg1]
        rw [wrap_i64 (n := (left : Int) - (p.2.1 : Int)) (by omega) (by omega)]
        simp only [h12, h14]
        rw [wrap_i64 (n := (j : Int) + 1) (by omega) (by omega), show (j : Int) + 1 = ((j + 1 : Nat) : Int) by omega, show (left : Int) - (p.2.1 : Int) = ((left - p.2.1 : Nat) : Int) by omega, hF1]
        rw [F74_eq R (lt_big (Nat.le_trans hfb (p2_le (by decide)))) (lt_big (Nat.le_trans hW (p2_le (by decide)))) (lt_big (Nat.le_trans hfW w1200))]
        have n0 : ((0 : Int) != 0) = false := rfl
        simp only [n0]
        rw [F73_eq R (lt_big hs2)]
        simp only [n0, hb2, hg2]
        rw [F74_eq R (lt_big (Nat.le_trans hfb (p2_le (by decide)))) (lt_big (Nat.le_trans hq (p2_le (by decide)))) (lt_big hfqb)]
        simp only [n0]
        rw [wrap_i64 (n := (a : Int) + 1) (by omega) (by omega), show (a : Int) + 1 = ((a + 1 : Nat) : Int) by omega, hF2]
        simp only [attN, if_neg hlt]
        rw [Nat.add_assoc]
theorem W41_eq {A : Nat} {ps : List (Nat × Nat × Nat)} (hF : Fine A ps) : ∀ (d j n l : Nat) (m : List Tq2), ps.length - j = d → j ≤ ps.length → d < n → l ≤ 256 → Known A ps m →
    ∃ m', Known A ps m' ∧ Old j m m' ∧ ∀ (R : Type) (k : List Int → Tq22 → List Tq2 → Option R), W41 n R ((A : Int), stkL ps, needL ps, lostL ps, (0 : Int), ()) m ((j : Int), (l : Int), ()) k = k (lim (wayN A (ps.drop j) l)) ((A : Int), stkL ps, needL ps, lostL ps, (0 : Int), ()) m' := by
  intro d
  have hA := hF.a8
  have hlen := hF.len
  have hsl : (stkL ps).length = ps.length := by simp [stkL]
  induction d with
  | zero =>
    intro j n l m hd hj hn hl hK
    obtain ⟨n, rfl⟩ : ∃ n', n = n' + 1 := ⟨n - 1, by omega⟩
    have : j = ps.length := by omega
    subst this
    refine ⟨m, hK, .refl, fun R k => ?_⟩
    have h2 : ((ps.length : Int) == ((stkL ps).length : Int)) = true := by rw [hsl]; simp
    simp only [W41, p41, h2]
    rw [F70_eq R (by omega), List.drop_length]
    rfl
  | succ d ih =>
    intro j n l m hd hj hn hl hK
    obtain ⟨n, rfl⟩ : ∃ n', n = n' + 1 := ⟨n - 1, by omega⟩
    have hj' : j < ps.length := by omega
    have h2 : ((j : Int) == ((stkL ps).length : Int)) = false := by
      rw [hsl]; simp only [beq_eq_false_iff_ne, ne_eq]; omega
    cases hfd : mfind (Kd.eqv Kq1) m ((j : Int), (l : Int), ()) with
    | some v =>
      refine ⟨m, hK, .refl, fun R k => ?_⟩
      have hv := hK j l v hj hfd
      simp only [W41, p41, h2, hfd, Option.isSome_some, Option.getD_some]
      rw [hv]
    | none =>
      have hbs : bnd (j : Int) ((stkL ps).length : Int) = true := bndN (by omega)
      generalize hp : ps.getD j (0, 0, 0) = p at *
      have hpm : p ∈ ps := by
        rw [← hp, List.getD_eq_getElem?_getD, List.getElem?_eq_getElem hj']; simp
      have hg1 : (stkL ps).getD j [] = lim p.1 := by
        rw [← hp]; simp [stkL, List.getD_eq_getElem?_getD, hj']
      have hp1 : p.1 ≤ p2 (64 * (0 + 1)) := Nat.le_trans (hF.all p hpm).1 (by rw [p2_two]; exact p2_le (by have := hF.need p hpm; omega))
      obtain ⟨m1, hK1, hO1, hF1⟩ := G41_eq hF (l0 := l) hj' (F := W41 n) (fun l m hl hK => ih (j + 1) n l m (by omega) (by omega) (by omega) hl hK) A 0 p.1 l 0 FUEL m (by omega) (by omega) (by rw [FUEL_eq]; omega) hl hp1 (by simp) hK
      have hdrop : ps.drop j = p :: ps.drop (j + 1) := by
        rw [List.drop_eq_getElem_cons hj']
        congr 1
        rw [← hp, List.getD_eq_getElem?_getD, List.getElem?_eq_getElem hj']; rfl
      have hway : wayN A (ps.drop j) l = attN p.2.1 p.2.2 (wayN A (ps.drop (j + 1))) A p.1 l := by rw [hdrop]; rfl
      rw [hp, Nat.zero_add, ← hway] at hF1
      have hnone : mfind (Kd.eqv Kq1) m1 ((j : Int), (l : Int), ()) = none := by rw [hO1 j l (by omega)]; exact hfd
      refine ⟨m1 ++ [(((j : Int), (l : Int), ()), lim (wayN A (ps.drop j) l))], ?_, ?_, fun R k => ?_⟩
      · intro i l' v hi hv
        rw [find_app] at hv
        cases hc : mfind (Kd.eqv Kq1) m1 ((i : Int), (l' : Int), ()) with
        | some u =>
          rw [hc] at hv
          simp only [Option.some.injEq] at hv
          rw [← hv]
          exact hK1 i l' u hi hc
        | none =>
          rw [hc] at hv
          simp only at hv
          split at hv
          · rename_i he
            simp only [Prod.mk.injEq, Int.natCast_inj, and_true] at he
            obtain ⟨rfl, rfl⟩ := he
            simp only [Option.some.injEq] at hv
            exact hv.symm
          · cases hv
      · intro i l' hi
        rw [find_app, hO1 i l' (by omega)]
        cases hc : mfind (Kd.eqv Kq1) m (i, l', ()) with
        | some u => rfl
        | none =>
          have : ¬ ((i, l', ()) : Tq1) = ((j : Int), (l : Int), ()) := by
            intro he
            simp only [Prod.mk.injEq] at he
            omega
          simp only [if_neg this]
      · simp only [W41, p41, h2, hfd, Option.isSome_none, hbs, Int.toNat_natCast, hg1]
        have hF2 : ∀ k0 : List Int → Tq22 → List Tq2 → Tq1 → Option R, G41_10 (W41 n) FUEL R [] (lim p.1) (l : Int) (A : Int) 0 ((A : Int), stkL ps, needL ps, lostL ps, (0 : Int), ()) m ((j : Int), (l : Int), ()) k0 =
          k0 (lim (wayN A (ps.drop j) l)) ((A : Int), stkL ps, needL ps, lostL ps, (0 : Int), ()) m1 ((j : Int), (l : Int), ()) := fun k0 => hF1 R k0
        rw [hF2]
        simp only [hnone, Option.isNone_none]
theorem F41_eq {A : Nat} {ps : List (Nat × Nat × Nat)} (hF : Fine A ps) {l : Nat} (hl : l ≤ 256) : ∃ m', ∀ (R : Type) (k : List Int → Tq22 → List Tq2 → Option R), F41 R ((A : Int), stkL ps, needL ps, lostL ps, (0 : Int), ()) [] ((0 : Int), (l : Int), ()) k = k (lim (wayN A ps l)) ((A : Int), stkL ps, needL ps, lostL ps, (0 : Int), ()) m' := by
  have hlen := hF.len
  obtain ⟨m', _, _, h⟩ := W41_eq hF ps.length 0 FUEL l [] (by omega) (by omega) (by rw [FUEL_eq]; omega) hl (fun j l v _ hv => by simp [mfind] at hv)
  exact ⟨m', h⟩
end Go.PG
namespace Go.PG
noncomputable def partOf (rest : List Int) (i : Int) : Nat × Nat × Nat := ((rest.getD i.toNat 0).toNat, needS (totS rest), 2 ^ needS (totS rest) - (totS rest).toNat)
noncomputable def partsS : List Int → List Int → Option (List (Nat × Nat × Nat))
  | [], _ => some []
  | i :: ms, rest => if 0 ≤ i ∧ i < (rest.length : Int) ∧ rest.getD i.toNat 0 ≠ 0 then match partsS ms (rest.set i.toNat 0) with
      | some ps => some (partOf rest i :: ps)
      | none => none
    else none
structure LOk (l : List Int) : Prop where
  u : AllU64 l
  t : totS l < 9223372036854775808
  n : l.length ≤ 1000000
theorem LOk.nn {l : List Int} (h : LOk l) : 0 ≤ totS l := sumS_nonneg h.u _
theorem LOk.u64 {l : List Int} (h : LOk l) : U64 (totS l) := by have := h.nn; have := h.t; unfold U64; omega
theorem LOk.set {l : List Int} (h : LOk l) {i : Nat} (hi : i < l.length) : LOk (l.set i 0) := ⟨h.u.set0 i, by have := tot_drop h.u hi; have := h.t; omega, by simpa using h.n⟩
theorem LOk.get {l : List Int} (h : LOk l) {i : Nat} (hi : i < l.length) : 0 ≤ l.getD i 0 ∧ l.getD i 0 ≤ totS l := by
  have h1 := tot_set (l := l) hi
  have h2 := (h.set hi).nn
  have h3 := (getD_all h.u u64_0 i).1
  omega
theorem LOk.need {l : List Int} (h : LOk l) : needS (totS l) ≤ 64 ∧ (totS l).toNat ≤ 2 ^ needS (totS l) := by
  obtain ⟨h1, h2, _⟩ := need_spec h.u64
  refine ⟨h1, ?_⟩
  have hc : ((2 : Int) ^ needS (totS l)) = (((2 : Nat) ^ needS (totS l) : Nat) : Int) := by simp
  rw [hc] at h2
  have := h.nn
  generalize 2 ^ needS (totS l) = q at *
  omega
theorem partsS_fine {A : Nat} (hA : A ≤ 8) : ∀ {ms rest : List Int} {ps : List (Nat × Nat × Nat)}, LOk rest → partsS ms rest = some ps → ms.length ≤ 16 → ps.length = ms.length ∧ AllP ps ∧ ∀ p ∈ ps, p.2.1 ≤ 64
  | [], rest, ps, _, h, _ => by
    simp only [partsS, Option.some.injEq] at h
    subst h
    exact ⟨rfl, fun p hp => (by cases hp), fun p hp => (by cases hp)⟩
  | i :: ms, rest, ps, hr, h, hl => by
    simp only [partsS] at h
    split at h <;> try (cases h; done)
    rename_i hi
    split at h <;> try (cases h; done)
    rename_i ps' hps
    simp only [Option.some.injEq] at h
    subst h
    have hi' : i.toNat < rest.length := by omega
    obtain ⟨q1, q2, q3⟩ := partsS_fine hA (hr.set hi') hps (by simpa using Nat.le_of_succ_le hl)
    obtain ⟨n1, n2⟩ := hr.need
    have hg := hr.get hi'
    refine ⟨by simp [q1], fun p hp => ?_, fun p hp => ?_⟩
    · rcases List.mem_cons.1 hp with rfl | hp
      · refine ⟨?_, Nat.sub_le _ _⟩
        show (rest.getD i.toNat 0).toNat ≤ _
        exact Nat.le_trans (by omega) n2
      · exact q2 p hp
    · rcases List.mem_cons.1 hp with rfl | hp
      · exact n1
      · exact q3 p hp
theorem F66_eq (R : Type) {l : List Int} (hl : l.length ≤ 1000000) (k : List Int → Option R) : F66 R l k = k l := by
  have : decide (List.length ([] : List Int) + l.length ≤ 17592186044416) = true := decT (by simp; omega)
  simp only [F66, this]
theorem F39_eq (R : Type) {l : List Int} (h : AllU64 l) (hl : l.length ≤ 1000000) (k : Int → Int → Option R) : F39 R l k = if totS l < 9223372036854775808 then k (totS l) 0 else k 0 11 := by
  simp only [F39, p39]
  rw [F65_eq R h hl]
  by_cases ht : totS l < 9223372036854775808
  · rw [if_pos ht, if_pos ht]; rfl
  · rw [if_neg ht, if_neg ht]; rfl
theorem F68_eq (R : Type) {l : List Int} (hl : l.length ≤ 1000000) (i : Int) (k : List Int → Int → Option R) : F68 R i l k = if 0 ≤ i ∧ i < (l.length : Int) then k (l.set i.toNat 0) 0 else k [] 3 := by
  simp only [F68, p68]
  by_cases h1 : i < 0
  · have : ¬ (0 ≤ i ∧ i < (l.length : Int)) := by omega
    rw [if_neg this]
    simp only [decT h1]
  · simp only [decF h1]
    by_cases h2 : i ≥ (l.length : Int)
    · have : ¬ (0 ≤ i ∧ i < (l.length : Int)) := by omega
      rw [if_neg this]
      simp only [decT h2]
    · rw [if_pos (by omega)]
      simp only [decF h2]
      rw [F66_eq R hl]
      have hb : bnd i (l.length : Int) = true := by unfold bnd; simp; omega
      simp only [hb]
theorem G20_eq (R : Type) {A : Int} (bits : Int) (ms : List Int) (hms : ms.length ≤ 16) (k0 : Int → Option R) (k1 : Int → List Tq2 → List (List Int) → List Int → List (List Int) → Tq1 → Option R) :
    ∀ (m i : Nat) (rest : List Int) (done : List (Nat × Nat × Nat)), i ≤ ms.length → ms.length - i < m → done.length = i → LOk rest →
      G20_9 m R bits rest ms (ms.length : Int) (i : Int) [] (stkL done) (needL done) (lostL done) (A, (0 : Int), ()) k0 k1 = match partsS (ms.drop i) rest with
        | some ps => k1 bits [] (stkL (done ++ ps)) (needL (done ++ ps)) (lostL (done ++ ps)) (A, (0 : Int), ())
        | none => k0 0
  | 0, i, rest, done, _, h, _, _ => by omega
  | m + 1, i, rest, done, h1, h2, h3, hr => by
    simp only [G20_9, p20_9]
    by_cases hi : i < ms.length
    · have hd : decide ((i : Int) < (ms.length : Int)) = true := decT (by omega)
      simp only [hd, bndN hi, Int.toNat_natCast]
      have hdrop : ms.drop i = ms.getD i 0 :: ms.drop (i + 1) := by
        rw [List.drop_eq_getElem_cons hi]
        congr 1
        rw [List.getD_eq_getElem?_getD, List.getElem?_eq_getElem hi]; rfl
      rw [hdrop]
      generalize ms.getD i 0 = x
      rw [F39_eq R hr.u hr.n, if_pos hr.t, F68_eq R hr.n]
      simp only [partsS]
      by_cases hx : 0 ≤ x ∧ x < (rest.length : Int)
      · rw [if_pos hx]
        have n0 : ((0 : Int) != 0) = false := rfl
        have hb : bnd x (rest.length : Int) = true := by unfold bnd; simp; omega
        simp only [n0, hb]
        have hx' : x.toNat < rest.length := by omega
        by_cases hz : rest.getD x.toNat 0 = 0
        · have hb0 : (rest.getD x.toNat 0 == 0) = true := by simp only [beq_iff_eq]; exact hz
          rw [if_neg (fun h => h.2.2 hz)]
          simp only [hb0]
        · have hb0 : (rest.getD x.toNat 0 == 0) = false := by simp only [beq_eq_false_iff_ne, ne_eq]; exact hz
          rw [if_pos ⟨hx.1, hx.2, hz⟩]
          simp only [hb0]
          obtain ⟨n1, n2⟩ := hr.need
          have hg := hr.get hx'
          have ht := hr.t
          have hnn := hr.nn
          rw [F60_eq R hr.u64, F70_eq R (by omega)]
          simp only [n0]
          have e1 : rest.getD x.toNat 0 = (((rest.getD x.toNat 0).toNat : Nat) : Int) := by omega
          have e2 : totS rest = (((totS rest).toNat : Nat) : Int) := by omega
          have hF1 : ∀ k : List Int → Option R, F71 R (rest.getD x.toNat 0) k = k (lim (rest.getD x.toNat 0).toNat) := fun k => by
            have := F71_eq R (n := (rest.getD x.toNat 0).toNat) (by omega) k
            rwa [← e1] at this
          have hF2 : ∀ k : List Int → Option R, F71 R (totS rest) k = k (lim (totS rest).toNat) := fun k => by
            have := F71_eq R (n := (totS rest).toNat) (by omega) k
            rwa [← e2] at this
          rw [hF1]
          have hls : (stkL done).length = i := by simp [stkL, h3]
          have hln : (needL done).length = i := by simp [needL, h3]
          have hll : (lostL done).length = i := by simp [lostL, h3]
          have c1 : ∀ y : List Int, decide ((stkL done).length + [y].length ≤ 5864062014805) = true := fun y => decT (by simp [hls]; omega)
          have c2 : ∀ y : Int, decide ((needL done).length + [y].length ≤ 17592186044416) = true := fun y => decT (by simp [hln]; omega)
          have c3 : ∀ y : List Int, decide ((lostL done).length + [y].length ≤ 5864062014805) = true := fun y => decT (by simp [hll]; omega)
          simp only [c1, c2]
          rw [hF2]
          have hp2 : 2 ^ needS (totS rest) ≤ p2 64 := by rw [p2_two]; exact p2_le n1
          rw [F72_eq R (lt_big (Nat.le_trans hp2 (p2_le (by decide)))) n2]
          simp only [n0, c3]
          rw [wrap_i64 (n := (i : Int) + 1) (by omega) (by omega), show (i : Int) + 1 = ((i + 1 : Nat) : Int) by omega]
          have s1 : stkL done ++ [lim (rest.getD x.toNat 0).toNat] = stkL (done ++ [partOf rest x]) := by simp [stkL, partOf]
          have s2 : needL done ++ [(needS (totS rest) : Int)] = needL (done ++ [partOf rest x]) := by simp [needL, partOf]
          have s3 : lostL done ++ [lim (2 ^ needS (totS rest) - (totS rest).toNat)] = lostL (done ++ [partOf rest x]) := by simp [lostL, partOf]
          rw [s1, s2, s3, G20_eq R bits ms hms k0 k1 m (i + 1) _ _ (by omega) (by omega) (by simp [h3]) (hr.set hx')]
          cases partsS (ms.drop (i + 1)) (rest.set x.toNat 0) with
          | none => rfl
          | some ps => simp only [List.append_assoc, List.singleton_append]
      · rw [if_neg hx, if_neg (fun h => hx ⟨h.1, h.2.1⟩)]
        rfl
    · have : i = ms.length := by omega
      subst this
      have hd : decide ((ms.length : Int) < (ms.length : Int)) = false := by simp
      simp only [hd, List.drop_length, partsS, List.append_nil]
noncomputable def waysS (ms : List Int) (bits a : Int) (l : List Int) : List Int × Int :=
  if (ms.length : Int) > 16 ∨ bits < 0 ∨ bits > 256 ∨ a < 1 ∨ a > 8 then ([], 1) else if totS l < 9223372036854775808 then match partsS ms l with
    | some ps => (lim (wayN a.toNat ps bits.toNat), 0)
    | none => ([], 0)
  else ([], 11)
theorem F20_eq (R : Type) {l : List Int} (h : AllU64 l) (hl : l.length ≤ 1000000) (ms : List Int) (bits a : Int) (k : List Int → Int → Option R) : F20 R ms bits a l k = k (waysS ms bits a l).1 (waysS ms bits a l).2 := by
  simp only [F20, p20]
  unfold waysS
  by_cases h1 : (ms.length : Int) > 16
  · rw [if_pos (.inl h1)]; simp only [decT h1]
  · simp only [decF h1]
    by_cases h2 : bits < 0
    · rw [if_pos (.inr (.inl h2))]; simp only [decT h2]
    · simp only [decF h2]
      by_cases h3 : bits > 256
      · rw [if_pos (.inr (.inr (.inl h3)))]; simp only [decT h3]
      · simp only [decF h3]
        by_cases h4 : a < 1
        · rw [if_pos (.inr (.inr (.inr (.inl h4))))]; simp only [decT h4]
        · simp only [decF h4]
          by_cases h5 : a > 8
          · rw [if_pos (.inr (.inr (.inr (.inr h5))))]; simp only [decT h5]
          · simp only [decF h5]
            rw [if_neg (by omega), F39_eq R h hl]
            by_cases ht : totS l < 9223372036854775808
            · rw [if_pos ht, if_pos ht]
              have n0 : ((0 : Int) != 0) = false := rfl
              simp only [n0]
              have := G20_eq R (A := a) bits ms (by omega) (fun x11 => k [] x11) (fun x12 x13 x14 x15 x16 x17 => F41 R (x17.1, x14, x15, x16, x17.2.1, ()) x13 ((0 : Int), x12, ()) fun y18 s19 m20 => k y18 s19.2.2.2.2.1) FUEL 0 l [] (by omega) (by rw [FUEL_eq]; omega) rfl ⟨h, ht, hl⟩
              refine this.trans ?_
              rw [List.drop_zero]
              cases hp : partsS ms l with
              | none => rfl
              | some ps =>
                obtain ⟨q1, q2, q3⟩ := partsS_fine (A := a.toNat) (by omega) ⟨h, ht, hl⟩ hp (by omega)
                obtain ⟨m', hw⟩ := F41_eq (A := a.toNat) (ps := ps) ⟨by omega, by omega, q2, q3⟩ (l := bits.toNat) (by omega)
                have hw' := hw R (fun y18 s19 m20 => k y18 s19.2.2.2.2.1)
                rw [show ((a.toNat : Nat) : Int) = a by omega, show ((bits.toNat : Nat) : Int) = bits by omega] at hw'
                simp only [List.nil_append]
                rw [hw']
            · rw [if_neg ht, if_neg ht]; rfl
end Go.PG
namespace Go.PG
theorem G49_eq (R : Type) (k0 : List Int → Option R) : ∀ (m : Nat) (l : List Int), l.length < m → l.length ≤ 1000000 → G49_1 m R l k0 = k0 (trimL l)
  | 0, l, h, _ => by omega
  | m + 1, l, h, hl => by
    rcases List.eq_nil_or_concat l with rfl | ⟨l', x, rfl⟩
    · simp only [G49_1, p49_1, List.length_nil]; rfl
    · rw [List.concat_eq_append] at *
      have hlen : (l' ++ [x]).length = l'.length + 1 := by simp
      simp only [G49_1, p49_1]
      have hd : decide (((l' ++ [x]).length : Int) > 0) = true := decT (by rw [hlen]; omega)
      have hw : IntKind.i64.wrap (((l' ++ [x]).length : Int) - 1) = (l'.length : Int) := by rw [wrap_i64 (by omega) (by omega), hlen]; omega
      have hb : bnd (l'.length : Int) ((l' ++ [x]).length : Int) = true := bndN (by rw [hlen]; omega)
      have hg : (l' ++ [x]).getD l'.length 0 = x := by simp [List.getD_eq_getElem?_getD]
      have h2 : decide ((0 : Int) ≤ (0 : Int) ∧ (0 : Int) ≤ (l'.length : Int) ∧ (l'.length : Int) ≤ (l'.length : Int) ∧ (l'.length : Int) ≤ ((l' ++ [x]).length : Int)) = true := decT (by rw [hlen]; omega)
      have ht : List.take (Int.toNat ((l'.length : Int) - 0)) (List.drop 0 (l' ++ [x])) = l' := by simp
      simp only [hd, hw, hb, Int.toNat_natCast, hg]
      by_cases h0 : x = 0
      · subst h0
        simp only [show ((0 : Int) == 0) = true from rfl, h2, ht]
        rw [trimL_snoc0]
        exact G49_eq R k0 m l' (by omega) (by omega)
      · have : (x == 0) = false := by simp [h0]
        simp only [this]
        rw [trimL_snoc l' h0]
theorem F49_eq (R : Type) {l : List Int} (h : Ok32 l) (hl : l.length ≤ 1000000) (k : List Int → Option R) : F49 R l k = k (lim (nv l)) := by
  simp only [F49, p49]
  rw [G49_eq R _ FUEL l (by rw [FUEL_eq]; omega) hl, trim_lim h]
theorem F24_eq (R : Type) {n : Nat} (hn : n < 18446744073709551616) (k : List Int → Option R) : F24 R (n : Int) k = k (lim n) := by
  simp only [F24, p24]
  have hd : n / LB < LB := by rw [Nat.div_lt_iff_lt_mul LB_pos, LB_eq]; omega
  have hL := LB_eq
  have e1 : IntKind.u32.wrap (Int.tmod (n : Int) 4294967296) = ((n % LB : Nat) : Int) := by
    rw [Int.tmod_eq_emod_of_nonneg (by omega), wrap_u32 (by omega) (by omega), LB_eq]; omega
  have e2 : IntKind.u32.wrap (IntKind.u64.wrap (Int.tdiv (n : Int) 4294967296)) = ((n / LB : Nat) : Int) := by
    rw [Int.tdiv_eq_ediv_of_nonneg (by omega), wrap_u64 (by omega) (by omega), wrap_u32 (by omega) (by omega), LB_eq]; omega
  rw [e1, e2, F49_eq R (l := [((n % LB : Nat) : Int), ((n / LB : Nat) : Int)]) ?_ (by simp)]
  · simp only [nv, Int.toNat_natCast, Nat.mul_zero, Nat.add_zero]
    rw [Nat.mod_add_div]
  · intro x hx
    rcases List.mem_cons.1 hx with rfl | hx
    · exact U32.mod n
    · rcases List.mem_cons.1 hx with rfl | hx
      · have := U32.mod (n / LB); rwa [Nat.mod_eq_of_lt hd] at this
      · cases hx
end Go.PG
namespace Go.PG
end Go.PG
namespace Go.PG
theorem attN_lin (k q : Nat) (W : Nat → Nat) (x : Nat) : ∀ (m f left : Nat), attN k q W m (x * f) left = x * attN k q W m f left
  | 0, _, _ => by simp [attN]
  | m + 1, f, left => by
    simp only [attN]
    split
    · simp
    · rw [Nat.mul_assoc x f q, attN_lin k q W x m, Nat.mul_add, Nat.mul_assoc]
end Go.PG
namespace Go.PG
end Go.PG
namespace Go.PG
theorem G19_eq' (R : Type) (l r : List Int) (hl : l.length ≤ 1000000) (hr : l.length = r.length) (k0 : Bool → Option R) (k1 : Option R) : ∀ (m i : Nat), i ≤ l.length → l.length - i < m → l.take i = r.take i →
    G19_4 m R l r (i : Int) k0 k1 = if l = r then k1 else k0 false
  | 0, i, _, h, _ => by omega
  | m + 1, i, h1, h2, h3 => by
    simp only [G19_4, p19_4]
    by_cases hi : i < l.length
    · have hd : decide ((i : Int) < (l.length : Int)) = true := decide_eq_true (by omega)
      have hbn : bnd (i : Int) (l.length : Int) = true := by unfold bnd; simp; omega
      have hbr : bnd (i : Int) (r.length : Int) = true := by unfold bnd; simp; omega
      simp only [hd, hbn, hbr, Int.toNat_natCast]
      by_cases he : l.getD i 0 = r.getD i 0
      · have e1 : (l.getD i 0 != r.getD i 0) = false := by rw [he]; simp
        simp only [e1]
        rw [wrap_i64 (n := (i : Int) + 1) (by omega) (by omega)]
        refine G19_eq' R l r hl hr k0 k1 m (i + 1) (by omega) (by omega) ?_
        rw [List.take_succ_eq_append_getElem hi, List.take_succ_eq_append_getElem (by omega), h3]
        congr 2
        simpa [hi, show i < r.length by omega] using he
      · have e1 : (l.getD i 0 != r.getD i 0) = true := by simpa using he
        simp only [e1]
        rw [if_neg (fun e => he (by rw [e]))]
    · have : i = l.length := by omega
      subst this
      have hd : decide ((l.length : Int) < (l.length : Int)) = false := by simp
      simp only [hd]
      rw [List.take_length, hr, List.take_length] at h3
      rw [if_pos h3]
theorem F19_eq (R : Type) (l r : List Int) (hl : l.length ≤ 1000000) (k : Bool → Option R) : F19 R l r k = k (decide (l = r)) := by
  simp only [F19, p19]
  by_cases hr : l.length = r.length
  · have e : ((l.length : Int) != (r.length : Int)) = false := by rw [hr]; simp
    simp only [e]
    have := G19_eq' R l r hl hr (fun x4 => k x4) (k true) FUEL 0 (by omega) (by rw [FUEL_eq]; omega) (by simp)
    refine Eq.trans ?_ (this.trans ?_)
    · rfl
    by_cases h : l = r
    · rw [if_pos h, decide_eq_true h]
    · rw [if_neg h, decide_eq_false h]
  · have e : ((l.length : Int) != (r.length : Int)) = true := by
      have : ¬ (l.length : Int) = (r.length : Int) := by omega
      simpa using this
    simp only [e]
    rw [decide_eq_false (fun h => hr (by rw [h]))]
theorem G23_eq' (R : Type) (l r : List Int) (hl : l.length ≤ 1000000) (hr : l.length = r.length) (k0 : Bool → Option R) (k1 : Option R) : ∀ (m i : Nat), i ≤ l.length → l.length - i < m → l.take i = r.take i →
    G23_4 m R l r (i : Int) k0 k1 = if l = r then k1 else k0 false
  | 0, i, _, h, _ => by omega
  | m + 1, i, h1, h2, h3 => by
    simp only [G23_4, p23_4]
    by_cases hi : i < l.length
    · have hd : decide ((i : Int) < (l.length : Int)) = true := decide_eq_true (by omega)
      have hbn : bnd (i : Int) (l.length : Int) = true := by unfold bnd; simp; omega
      have hbr : bnd (i : Int) (r.length : Int) = true := by unfold bnd; simp; omega
      simp only [hd, hbn, hbr, Int.toNat_natCast]
      by_cases he : l.getD i 0 = r.getD i 0
      · have e1 : (l.getD i 0 != r.getD i 0) = false := by rw [he]; simp
        simp only [e1]
        rw [wrap_i64 (n := (i : Int) + 1) (by omega) (by omega)]
        refine G23_eq' R l r hl hr k0 k1 m (i + 1) (by omega) (by omega) ?_
        rw [List.take_succ_eq_append_getElem hi, List.take_succ_eq_append_getElem (by omega), h3]
        congr 2
        simpa [hi, show i < r.length by omega] using he
      · have e1 : (l.getD i 0 != r.getD i 0) = true := by simpa using he
        simp only [e1]
        rw [if_neg (fun e => he (by rw [e]))]
    · have : i = l.length := by omega
      subst this
      have hd : decide ((l.length : Int) < (l.length : Int)) = false := by simp
      simp only [hd]
      rw [List.take_length, hr, List.take_length] at h3
      rw [if_pos h3]
theorem F23_eq (R : Type) (l r : List Int) (hl : l.length ≤ 1000000) (k : Bool → Option R) : F23 R l r k = k (decide (l = r)) := by
  simp only [F23, p23]
  by_cases hr : l.length = r.length
  · have e : ((l.length : Int) != (r.length : Int)) = false := by rw [hr]; simp
    simp only [e]
    have := G23_eq' R l r hl hr (fun x4 => k x4) (k true) FUEL 0 (by omega) (by rw [FUEL_eq]; omega) (by simp)
    refine Eq.trans ?_ (this.trans ?_)
    · rfl
    by_cases h : l = r
    · rw [if_pos h, decide_eq_true h]
    · rw [if_neg h, decide_eq_false h]
  · have e : ((l.length : Int) != (r.length : Int)) = true := by
      have : ¬ (l.length : Int) = (r.length : Int) := by omega
      simpa using this
    simp only [e]
    rw [decide_eq_false (fun h => hr (by rw [h]))]
theorem comF_len (m : Int) : ∀ (n : Nat) (l : List Int) (s : Src) (mem : List Int), (comF m n l s mem).1.length ≤ mem.length + n
  | 0, _, _, _ => by simp [comF]
  | n + 1, l, s, mem => by
    simp only [comF]
    split
    · have := comF_len m n (l.set (leadR l s m).1.toNat 0) (leadR l s m).2.1 (mem ++ [(leadR l s m).1])
      simp at this
      omega
    · simp
theorem comR_len (l : List Int) (c : Int) (s : Src) (m : Int) : (comR l c s m).1.length ≤ 256 := by
  unfold comR
  split
  · split
    · simp
    · have := comF_len m c.toNat l s []
      simp at this
      omega
  · simp
theorem al17a : partsS [2, 0] [1, 0, 1] = some [(1, 1, 0), (1, 0, 0)] := by kernel_rfl
theorem al17b : partsS [0, 0] [1, 0, 1] = none := by kernel_rfl
theorem al17w : waysS [2, 0] 3 1 [1, 0, 1] = ([4], 0) := by
  unfold waysS
  rw [if_neg (by decide), if_pos (by decide), al17a]
  have : wayN (Int.toNat 1) [(1, 1, 0), (1, 0, 0)] (Int.toNat 3) = 4 := by decide
  simp only [this]
  have hL := LB_eq
  rw [lim_pos (by decide), Nat.mod_eq_of_lt (by omega), Nat.div_eq_of_lt (by omega)]; rfl
theorem al17v : waysS [0, 0] 3 1 [1, 0, 1] = ([], 0) := by
  unfold waysS
  rw [if_neg (by decide), if_pos (by decide), al17b]
theorem F17_eq (R : Type) (k : Bool → Option R) : F17 R k = k true := by
  have u128 : AllU8 [128] := by unfold AllU8 U8; decide
  have n8 : U64 8 := by unfold U64; decide
  have a1 : AllU64 [1, 0, 1] := by unfold AllU64 U64; decide
  have s1 := tapeSrc_ok u128 (by simp) n8
  have ht1 : totS [1, 0, 1] < 9223372036854775808 := by decide
  simp only [F17, p17]
  rw [F12_eq R (by simp)]
  have t1 : tapeR [128] 8 = (tapeSrc [128] 8, 0) := by kernel_rfl
  simp only [t1]
  have c1 : comR [1, 0, 1] 2 (tapeSrc [128] 8) 1 = ([2, 0], setAt (tapeSrc [128] 8) 1, 0) := by kernel_rfl
  have c2 : comL [1, 0, 1] 2 (tapeSrc [128] 8) 1 = ([2, 0], setAt (tapeSrc [128] 8) 1, 0) := by kernel_rfl
  have c3 : comR [1, 0, 1] 3 (tapeSrc [128] 8) 1 = ([], tapeSrc [128] 8, 12) := by kernel_rfl
  have c4 : comR [1, 0, 1] 257 (tapeSrc [128] 8) 1 = ([], tapeSrc [128] 8, 1) := by kernel_rfl
  have c5 : comR [1, 0, 1] 0 (tapeSrc [128] 8) 1 = ([], tapeSrc [128] 8, 0) := by kernel_rfl
  rw [F21_eq R a1 ht1 (by simp), F22_eq R a1 ht1 (by simp) s1, c1]
  simp only []
  rw [F18_eq R a1 (by simp) s1, c2]
  simp only []
  rw [F22_eq R a1 ht1 (by simp) s1, c3]
  simp only []
  rw [F22_eq R a1 ht1 (by simp) s1, c4]
  simp only []
  rw [F20_eq R a1 (by simp), al17w]
  simp only []
  rw [F20_eq R a1 (by simp), al17v]
  simp only []
  rw [F22_eq R a1 ht1 (by simp) s1, c5]
  have e1 : ((0 : Int) == 0) = true := rfl
  have e2 : ((12 : Int) == 12) = true := rfl
  have e3 : ((1 : Int) == 1) = true := rfl
  simp only [e1, e2, e3]
  rw [F19_eq R _ _ (by simp)]
  simp only [decide_true]
  rw [F19_eq R _ _ (by simp)]
  simp only [decide_true]
  have e4 : ((setAt (tapeSrc [128] 8) 1).2.2.2.2.2.1 == 1) = true := rfl
  have e5 : ((tapeSrc [128] 8).2.2.2.2.2.1 == 0) = true := rfl
  simp only [e4, e5]
  rw [F23_eq R _ _ (by simp)]
  simp only [decide_true]
  rfl
end Go.PG
namespace Go.PG
theorem lead_src {l : List Int} (h : AllU64 l) (hlen : l.length ≤ 200) {s : Src} (hs : SOK s) {m : Int} (he : (leadR l s m).2.2 = 0) : ∃ i : Nat, i < l.length ∧ 0 < l.getD i 0 ∧ (leadR l s m).1 = (i : Int) ∧ SOK (leadR l s m).2.1 ∧ atS s ≤ atS (leadR l s m).2.1 := by
  obtain ⟨_, _, _, i, h1, h2, h3, _, _, h4, h5⟩ := lead_ok h hlen hs he
  exact ⟨i, h1, h2, h3, h4, h5⟩
theorem comF_facts (m : Int) : ∀ (n : Nat) (l : List Int) (s : Src) (acc : List Int), AllU64 l → l.length ≤ 200 → SOK s → (comF m n l s acc).2.2 = 0 →
    ∃ new : List Int, (comF m n l s acc).1 = acc ++ new ∧ new.length = n ∧ atS s ≤ atS (comF m n l s acc).2.1 ∧ (∀ x ∈ new, ∃ i : Nat, x = (i : Int) ∧ i < l.length ∧ 0 < l.getD i 0) ∧ new.Nodup
  | 0, l, s, acc, _, _, _, _ => ⟨[], by simp [comF], rfl, Int.le_refl _, fun x hx => (by cases hx), List.nodup_nil⟩
  | n + 1, l, s, acc, h, hl, hs, he => by
    simp only [comF] at he ⊢
    by_cases hle : (leadR l s m).2.2 = 0
    · rw [if_pos hle] at he ⊢
      obtain ⟨i, h1, h2, h3, h4, h5⟩ := lead_src h hl hs hle
      rw [h3] at he ⊢
      rw [Int.toNat_natCast] at he ⊢
      obtain ⟨new, g1, g2, g3, g4, g5⟩ := comF_facts m n (l.set i 0) _ _ (h.set0 i) (by simpa using hl) h4 he
      have hget : ∀ j : Nat, 0 < (l.set i 0).getD j 0 → j ≠ i ∧ 0 < l.getD j 0 := fun j hj => by
        by_cases e : j = i
        · subst e
          rw [set_getD_self _ h1] at hj
          exact absurd hj (by decide)
        · rw [set_getD _ e] at hj
          exact ⟨e, hj⟩
      refine ⟨(i : Int) :: new, by rw [g1]; simp, by simp [g2], Int.le_trans h5 g3, fun x hx => ?_, ?_⟩
      · rcases List.mem_cons.1 hx with rfl | hx
        · exact ⟨i, rfl, h1, h2⟩
        · obtain ⟨j, q1, q2, q3⟩ := g4 x hx
          exact ⟨j, q1, by simpa using q2, (hget j q3).2⟩
      · rw [List.nodup_cons]
        refine ⟨fun hx => ?_, g5⟩
        obtain ⟨j, q1, _, q3⟩ := g4 _ hx
        exact (hget j q3).1 (by omega)
    · rw [if_neg hle] at he
      exact absurd he hle
end Go.PG
namespace Go.PG
theorem cnt_interval {a c n : Nat} (h1 : a ≤ c) (h2 : c ≤ n) : cnt (fun v => decide (a ≤ v ∧ v < c)) n = c - a := by
  obtain ⟨d, rfl⟩ : ∃ d, c = a + d := ⟨c - a, by omega⟩
  obtain ⟨e, rfl⟩ : ∃ e, n = a + d + e := ⟨n - (a + d), by omega⟩
  rw [cnt_add, cnt_add]
  have e1 : cnt (fun v => decide (a ≤ v ∧ v < a + d)) a = 0 := by
    rw [cnt_congr (q := fun _ => false) (fun r hr => by simp; omega), cnt_const]; simp
  have e2 : cnt (fun r => decide (a ≤ a + r ∧ a + r < a + d)) d = d := by
    rw [cnt_congr (q := fun _ => true) (fun r hr => by simp; omega), cnt_const]; simp
  have e3 : cnt (fun r => decide (a ≤ a + d + r ∧ a + d + r < a + d)) e = 0 := by
    rw [cnt_congr (q := fun _ => false) (fun r hr => by simp), cnt_const]; simp
  rw [e1, e2, e3]
  omega
end Go.PG
namespace Go.PG
def drawB (b k : Nat) (q : Nat → Bool) (W : Nat → Nat → Bool) : Nat → Nat → Nat → Bool
  | 0, _, _ => false
  | m + 1, r, y => if r < k then false else if y / 2 ^ (r - k) < b then q (y / 2 ^ (r - k)) && W (r - k) (y % 2 ^ (r - k)) else drawB b k q W m (r - k) (y % 2 ^ (r - k))
theorem drawB_zero (k : Nat) (q : Nat → Bool) (W : Nat → Nat → Bool) : ∀ m r y, drawB 0 k q W m r y = false
  | 0, _, _ => rfl
  | m + 1, r, y => by simp only [drawB, Nat.not_lt_zero, if_false, drawB_zero k q W m]; split <;> rfl
theorem drawB_block {b k m r : Nat} (hk : ¬ r < k) (q : Nat → Bool) (W : Nat → Nat → Bool) : ∀ A : Nat, cnt (drawB b k q W (m + 1) r) (A * 2 ^ (r - k)) = cnt q (min A b) * cnt (W (r - k)) (2 ^ (r - k)) + (A - b) * cnt (drawB b k q W m (r - k)) (2 ^ (r - k))
  | 0 => by simp [cnt]
  | A + 1 => by
    have hB : 0 < 2 ^ (r - k) := Nat.pow_pos (by decide)
    rw [Nat.add_mul, Nat.one_mul, cnt_add, drawB_block hk q W A]
    have hs : ∀ z, z < 2 ^ (r - k) → drawB b k q W (m + 1) r (A * 2 ^ (r - k) + z) = if A < b then q A && W (r - k) z else drawB b k q W m (r - k) z := fun z hz => by
      have e1 : (A * 2 ^ (r - k) + z) / 2 ^ (r - k) = A := by
        rw [Nat.mul_comm, Nat.mul_add_div hB, Nat.div_eq_of_lt hz, Nat.add_zero]
      have e2 : (A * 2 ^ (r - k) + z) % 2 ^ (r - k) = z := by
        rw [Nat.mul_comm, Nat.mul_add_mod, Nat.mod_eq_of_lt hz]
      simp only [drawB, if_neg hk, e1, e2]
    by_cases hA : A < b
    · have e : cnt (fun z => drawB b k q W (m + 1) r (A * 2 ^ (r - k) + z)) (2 ^ (r - k)) = if q A then cnt (W (r - k)) (2 ^ (r - k)) else 0 := by
        cases hq : q A with
        | true => rw [cnt_congr (q := W (r - k)) (fun z hz => by rw [hs z hz, if_pos hA, hq, Bool.true_and])]; rfl
        | false => rw [cnt_congr (q := fun _ => false) (fun z hz => by rw [hs z hz, if_pos hA, hq, Bool.false_and]), cnt_const]; rfl
      rw [e, show A - b = 0 by omega, show A + 1 - b = 0 by omega, Nat.zero_mul, Nat.add_zero, Nat.add_zero, show min A b = A by omega, show min (A + 1) b = A + 1 by omega, cnt_succ, Nat.add_mul]
      cases q A <;> simp
    · have e : cnt (fun z => drawB b k q W (m + 1) r (A * 2 ^ (r - k) + z)) (2 ^ (r - k)) = cnt (drawB b k q W m (r - k)) (2 ^ (r - k)) :=
        cnt_congr (fun z hz => by rw [hs z hz, if_neg hA])
      rw [e, show min A b = b by omega, show min (A + 1) b = b by omega, show A + 1 - b = (A - b) + 1 by omega, Nat.add_mul, Nat.one_mul, Nat.add_assoc]
theorem drawB_cnt {b k : Nat} (hb : b ≤ 2 ^ k) (q : Nat → Bool) (W : Nat → Nat → Bool) : ∀ m r, cnt (drawB b k q W m r) (2 ^ r) = attN k (2 ^ k - b) (fun r => cnt (W r) (2 ^ r)) m (cnt q b) r
  | 0, r => by
    rw [cnt_congr (p := drawB b k q W 0 r) (q := fun _ => false) (fun z hz => rfl), cnt_const]; rfl
  | m + 1, r => by
    by_cases hk : r < k
    · rw [cnt_congr (q := fun _ => false) (fun z hz => by simp only [drawB, if_pos hk]), cnt_const]
      simp only [attN, if_pos hk]; rfl
    · have e := drawB_block (b := b) (m := m) hk q W (2 ^ k)
      rw [← Nat.pow_add, show k + (r - k) = r by omega, show min (2 ^ k) b = b by omega] at e
      rw [e, drawB_cnt hb q W m (r - k)]
      simp only [attN, if_neg hk]
      rw [← attN_lin, Nat.mul_comm (2 ^ k - b)]
theorem attN_W0 (k q : Nat) : ∀ m f left, attN k q (fun _ => 0) m f left = 0
  | 0, _, _ => rfl
  | m + 1, f, left => by
    simp only [attN, Nat.mul_zero, Nat.zero_add, attN_W0 k q m]
    split <;> rfl
def comN (m : Nat) : List Int → List Int → Nat → Nat → Bool
  | [], _ => fun _ _ => true
  | i :: ms, l => drawB (totS l).toNat (needS (totS l)) (fun v => decide (((ownN l (v : Int) : Nat) : Int) = i)) (comN m ms (l.set i.toNat 0)) m
theorem own_cnt {l : List Int} (h : LOk l) (hlen : l.length ≤ 200) (i : Int) : cnt (fun v => decide (((ownN l (v : Int) : Nat) : Int) = i)) (totS l).toNat = if 0 ≤ i ∧ i < (l.length : Int) then (l.getD i.toNat 0).toNat else 0 := by
  have htn := h.nn
  have own : ∀ v, v < (totS l).toNat → ∃ j, Owns l (v : Int) j ∧ ownN l (v : Int) = j := fun v hv => own_some h.u hlen h.t (by omega)
  by_cases hi : 0 ≤ i ∧ i < (l.length : Int)
  · rw [if_pos hi]
    obtain ⟨n, rfl⟩ : ∃ n : Nat, i = (n : Int) := ⟨i.toNat, by omega⟩
    rw [Int.toNat_natCast]
    have hin : n < l.length := by omega
    have h1 := sumS_succ hin
    have h2 := sumS_nonneg h.u n
    have h3 := sumS_tot h.u (n + 1)
    have h4 := (getD_all h.u u64_0 n).1
    obtain ⟨a, ha⟩ : ∃ a : Nat, sumS l n = a := ⟨(sumS l n).toNat, by omega⟩
    obtain ⟨c, hc⟩ : ∃ c : Nat, sumS l (n + 1) = c := ⟨(sumS l (n + 1)).toNat, by omega⟩
    have e : cnt (fun v => decide (((ownN l (v : Int) : Nat) : Int) = (n : Int))) (totS l).toNat = cnt (fun v => decide (a ≤ v ∧ v < c)) (totS l).toNat := cnt_congr (fun v hv => by
      obtain ⟨j, hj, ej⟩ := own v hv
      rw [ej]
      by_cases hji : j = n
      · subst hji
        have := hj.2
        have e1 : a ≤ v ∧ v < c := by omega
        simp [e1]
      · have e1 : ¬ (a ≤ v ∧ v < c) := fun hh => hji (hj.uniq h.u ⟨hin, by omega, by omega⟩)
        rw [decF (show ¬ ((j : Int) = (n : Int)) by omega), decF e1])
    rw [e, cnt_interval (by omega) (by omega)]
    omega
  · rw [if_neg hi, cnt_congr (q := fun _ => false) (fun v hv => by
      obtain ⟨j, hj, ej⟩ := own v hv
      rw [ej]
      exact decF (fun e => hi (by have := hj.1; omega))), cnt_const]
    rfl
theorem comN_cnt (m : Nat) : ∀ (ms l : List Int), LOk l → l.length ≤ 200 → ∀ r, cnt (comN m ms l r) (2 ^ r) = match partsS ms l with
    | some ps => wayN m ps r
    | none => 0
  | [], l, _, _, r => by
    have : cnt (comN m [] l r) (2 ^ r) = cnt (fun _ => true) (2 ^ r) := rfl
    rw [this, cnt_const]; rfl
  | i :: ms, l, h, hl, r => by
    obtain ⟨_, n2⟩ := h.need
    have e : cnt (comN m (i :: ms) l r) (2 ^ r) = attN (needS (totS l)) (2 ^ needS (totS l) - (totS l).toNat) (fun r => cnt (comN m ms (l.set i.toNat 0) r) (2 ^ r)) m (cnt (fun v => decide (((ownN l (v : Int) : Nat) : Int) = i)) (totS l).toNat) r :=
      drawB_cnt n2 _ _ m r
    rw [e, own_cnt h hl]
    simp only [partsS]
    by_cases hi : 0 ≤ i ∧ i < (l.length : Int)
    · rw [if_pos hi]
      have hi' : i.toNat < l.length := by omega
      by_cases hz : l.getD i.toNat 0 = 0
      · rw [if_neg (fun hh => hh.2.2 hz), hz]
        exact attN_zero _ _ _ _ _
      · rw [if_pos ⟨hi.1, hi.2, hz⟩]
        have ih := comN_cnt m ms (l.set i.toNat 0) (h.set hi') (by simpa using hl)
        cases hp : partsS ms (l.set i.toNat 0) with
        | none =>
          rw [hp] at ih
          have : (fun r => cnt (comN m ms (l.set i.toNat 0) r) (2 ^ r)) = fun _ => 0 := funext ih
          rw [this]
          exact attN_W0 _ _ _ _ _
        | some ps =>
          rw [hp] at ih
          have : (fun r => cnt (comN m ms (l.set i.toNat 0) r) (2 ^ r)) = wayN m ps := funext ih
          rw [this]
          rfl
    · rw [if_neg hi, if_neg (fun hh => hi ⟨hh.1, hh.2.1⟩)]
      exact attN_zero _ _ _ _ _
theorem drawF_tape {b k x T : Nat} (hk : needS (b : Int) = k) (hk64 : k ≤ 64) (hT : T ≤ 12) : ∀ (m a : Nat), a ≤ T →
    (∃ v a', a ≤ a' ∧ a' ≤ T ∧ v < b ∧ drawF (b : Int) m (setAt (tapeX x T) (a : Int)) = ((v : Int), setAt (tapeX x T) (a' : Int), 0) ∧ ∀ q W, drawB b k q W m (T - a) (x % 2 ^ (T - a)) = (q v && W (T - a') (x % 2 ^ (T - a')))) ∨
    ((drawF (b : Int) m (setAt (tapeX x T) (a : Int))).2.2 ≠ 0 ∧ (∃ a', a' ≤ T ∧ (drawF (b : Int) m (setAt (tapeX x T) (a : Int))).2.1 = setAt (tapeX x T) (a' : Int)) ∧ ∀ q W, drawB b k q W m (T - a) (x % 2 ^ (T - a)) = false)
  | 0, a, ha => .inr ⟨by show (9 : Int) ≠ 0; decide, ⟨a, ha, rfl⟩, fun q W => rfl⟩
  | m + 1, a, ha => by
    have hr := tapeX_right x (T := T) (a := a) ha
    by_cases hlt : T - a < k
    · refine .inr ?_
      have htk : takeR (setAt (tapeX x T) (a : Int)) (needS (b : Int)) = (0, setAt (tapeX x T) (a : Int), 8) := by
        rw [hk]
        unfold takeR
        rw [if_pos ⟨hr.1, by omega, by omega⟩, if_neg (by rw [hr.2]; omega)]
      simp only [drawF, htk]
      refine ⟨by rw [if_neg (by decide)]; show (8 : Int) ≠ 0; decide, ⟨a, ha, by rw [if_neg (by decide)]⟩, fun q W => ?_⟩
      simp only [drawB, if_pos hlt]
    · have htk : takeR (setAt (tapeX x T) (a : Int)) (needS (b : Int)) = (((x / 2 ^ (T - a - k) % 2 ^ k : Nat) : Int), setAt (tapeX x T) ((a + k : Nat) : Int), 0) := by
        rw [hk, takeR_ok hr.1 hk64 (by rw [hr.2]; omega), atS_set, takeV_set, take_tape k a (by omega), setAt_set, show (a : Int) + (k : Int) = ((a + k : Nat) : Int) by omega]
      have ep : 2 ^ (T - a) = 2 ^ (T - a - k) * 2 ^ k := by rw [← Nat.pow_add]; congr 1; omega
      have e1 : x % 2 ^ (T - a) / 2 ^ (T - a - k) = x / 2 ^ (T - a - k) % 2 ^ k := by rw [ep, Nat.mod_mul_right_div_self]
      have e2 : x % 2 ^ (T - a) % 2 ^ (T - a - k) = x % 2 ^ (T - (a + k)) := by rw [ep, Nat.mod_mul_right_mod, show T - (a + k) = T - a - k by omega]
      simp only [drawF, htk]
      rw [if_pos trivial]
      have hB : ∀ q W, drawB b k q W (m + 1) (T - a) (x % 2 ^ (T - a)) = if x / 2 ^ (T - a - k) % 2 ^ k < b then q (x / 2 ^ (T - a - k) % 2 ^ k) && W (T - (a + k)) (x % 2 ^ (T - (a + k))) else drawB b k q W m (T - (a + k)) (x % 2 ^ (T - (a + k))) := fun q W => by
        simp only [drawB, if_neg hlt, e1, e2]
        rw [show T - a - k = T - (a + k) by omega]
      generalize x / 2 ^ (T - a - k) % 2 ^ k = d at *
      by_cases hd : d < b
      · rw [if_pos (show (d : Int) < (b : Int) by omega)]
        exact .inl ⟨d, a + k, by omega, by omega, hd, rfl, fun q W => by rw [hB, if_pos hd]⟩
      · rw [if_neg (show ¬ (d : Int) < (b : Int) by omega)]
        rcases drawF_tape hk hk64 hT m (a + k) (by omega) with ⟨v, a', g1, g2, g3, g4, g5⟩ | ⟨g1, g2, g3⟩
        · exact .inl ⟨v, a', by omega, g2, g3, g4, fun q W => by rw [hB, if_neg hd]; exact g5 q W⟩
        · exact .inr ⟨g1, g2, fun q W => by rw [hB, if_neg hd]; exact g3 q W⟩
theorem tape_ok2 (x : Nat) {T a : Nat} (hT : T ≤ 12) (ha : a ≤ T) : SOK (setAt (tapeX x T) (a : Int)) := (tapeX_ok x hT).set (by unfold U64; omega)
theorem comF_tape {x T m : Nat} (hT : T ≤ 12) (hm0 : 0 < m) (hm : m ≤ 64) : ∀ (ms l : List Int) (a : Nat) (acc : List Int), a ≤ T → LOk l → l.length ≤ 200 →
    (∃ a', a' ≤ T ∧ (comF (m : Int) ms.length l (setAt (tapeX x T) (a : Int)) acc).2.1 = setAt (tapeX x T) (a' : Int)) ∧
    decide ((comF (m : Int) ms.length l (setAt (tapeX x T) (a : Int)) acc).2.2 = 0 ∧ (comF (m : Int) ms.length l (setAt (tapeX x T) (a : Int)) acc).1 = acc ++ ms) = comN m ms l (T - a) (x % 2 ^ (T - a))
  | [], l, a, acc, ha, _, _ => ⟨⟨a, ha, rfl⟩, decT ⟨rfl, by simp [comF]⟩⟩
  | i :: ms, l, a, acc, ha, h, hl => by
    obtain ⟨n1, n2⟩ := h.need
    have hnn := h.nn
    have htt := h.t
    obtain ⟨b, hb⟩ : ∃ b : Nat, totS l = (b : Int) := ⟨(totS l).toNat, by omega⟩
    have hcN : comN m (i :: ms) l (T - a) (x % 2 ^ (T - a)) = drawB b (needS (totS l)) (fun v => decide (((ownN l (v : Int) : Nat) : Int) = i)) (comN m ms (l.set i.toNat 0)) m (T - a) (x % 2 ^ (T - a)) := by
      simp only [comN]
      rw [show (totS l).toNat = b by omega]
    rw [hcN, List.length_cons]
    by_cases h0 : totS l = 0
    · have hle : leadR l (setAt (tapeX x T) (a : Int)) (m : Int) = (0, setAt (tapeX x T) (a : Int), 10) := by
        unfold leadR
        rw [if_pos htt, if_pos h0]
      have hb0 : b = 0 := by omega
      subst hb0
      have hcf : comF (m : Int) (ms.length + 1) l (setAt (tapeX x T) (a : Int)) acc = ([], setAt (tapeX x T) (a : Int), 10) := by
        rw [comF, hle, if_neg (show ¬ ((10 : Int) = 0) by decide)]
      rw [hcf, drawB_zero]
      exact ⟨⟨a, ha, rfl⟩, decF (fun hh => absurd hh.1 (by show ¬ ((10 : Int) = 0); decide))⟩
    · have hr := tapeX_right x (T := T) (a := a) ha
      have hdr : drawR (setAt (tapeX x T) (a : Int)) (totS l) (m : Int) = drawF (b : Int) m (setAt (tapeX x T) (a : Int)) := by
        unfold drawR
        rw [if_pos ⟨hr.1, by omega, htt, by omega, by omega⟩, hb, Int.toNat_natCast]
      rcases drawF_tape (b := b) (x := x) (T := T) rfl (by rw [← hb]; exact n1) hT m a ha with ⟨v, a', g1, g2, g3, g4, g5⟩ | ⟨g1, ⟨a', g2, g2'⟩, g3⟩
      · have hle : leadR l (setAt (tapeX x T) (a : Int)) (m : Int) = (((ownN l (v : Int) : Nat) : Int), setAt (tapeX x T) (a' : Int), 0) := by
          unfold leadR
          rw [if_pos htt, if_neg h0, hdr, g4, if_pos (show ((0 : Int) = 0) from rfl)]
        obtain ⟨j, hj, ej⟩ := own_some h.u hl htt (x := (v : Int)) (by omega)
        rw [ej] at hle
        have hjl := hj.1
        have hcf : comF (m : Int) (ms.length + 1) l (setAt (tapeX x T) (a : Int)) acc = comF (m : Int) ms.length (l.set j 0) (setAt (tapeX x T) (a' : Int)) (acc ++ [(j : Int)]) := by
          rw [comF, hle, if_pos (show ((0 : Int) = 0) from rfl), Int.toNat_natCast]
        obtain ⟨k1, k2⟩ := comF_tape hT hm0 hm ms (l.set j 0) a' (acc ++ [(j : Int)]) g2 (h.set hjl) (by simpa using hl)
        rw [hcf]
        refine ⟨k1, ?_⟩
        rw [hb, g5, ej]
        by_cases hji : (j : Int) = i
        · subst hji
          rw [decT (rfl : (j : Int) = (j : Int)), Bool.true_and, Int.toNat_natCast, ← k2]
          simp only [List.append_assoc, List.singleton_append]
        · rw [decF hji, Bool.false_and]
          refine decF (fun hh => hji ?_)
          obtain ⟨new, f1, _⟩ := comF_facts (m : Int) ms.length (l.set j 0) (setAt (tapeX x T) (a' : Int)) (acc ++ [(j : Int)]) (h.u.set0 j) (by simpa using hl) (tape_ok2 x hT g2) hh.1
          have := hh.2
          rw [f1, List.append_assoc] at this
          have := List.append_cancel_left this
          simp only [List.singleton_append, List.cons.injEq] at this
          exact this.1
      · have hle2 : (leadR l (setAt (tapeX x T) (a : Int)) (m : Int)).2.2 ≠ 0 ∧ (leadR l (setAt (tapeX x T) (a : Int)) (m : Int)).2.1 = setAt (tapeX x T) (a' : Int) := by
          unfold leadR
          rw [if_pos htt, if_neg h0, hdr, if_neg g1]
          exact ⟨g1, g2'⟩
        have hcf : comF (m : Int) (ms.length + 1) l (setAt (tapeX x T) (a : Int)) acc = ([], (leadR l (setAt (tapeX x T) (a : Int)) (m : Int)).2.1, (leadR l (setAt (tapeX x T) (a : Int)) (m : Int)).2.2) := by
          rw [comF, if_neg hle2.1]
        rw [hcf, hb, g3]
        exact ⟨⟨a', g2, hle2.2⟩, decF (fun hh => hle2.1 hh.1)⟩
theorem posN_set {l : List Int} {i : Nat} (hi : i < l.length) (hp : 0 < l.getD i 0) : ∀ n, n ≤ l.length → posN (l.set i 0) n + (if i < n then 1 else 0) = posN l n
  | 0, _ => by simp [posN]
  | n + 1, hn => by
    have ih := posN_set hi hp n (by omega)
    rw [posN_succ (by simp; omega), posN_succ hn]
    by_cases e : n = i
    · subst e
      rw [set_getD_self _ hi]
      rw [if_neg (Nat.lt_irrefl _)] at ih
      rw [if_neg (by decide), if_pos (by omega), if_pos hp]
      omega
    · rw [set_getD _ e]
      by_cases hin : i < n
      · rw [if_pos hin] at ih
        rw [if_pos (show i < n + 1 by omega)]
        omega
      · rw [if_neg hin] at ih
        rw [if_neg (show ¬ i < n + 1 by omega)]
        omega
theorem parts_pos : ∀ {ms l : List Int} {ps : List (Nat × Nat × Nat)}, LOk l → partsS ms l = some ps → (ms.length : Int) ≤ posS l
  | [], l, ps, _, _ => by unfold posS; simp
  | i :: ms, l, ps, h, hp => by
    simp only [partsS] at hp
    split at hp <;> try (cases hp; done)
    rename_i hi
    split at hp <;> try (cases hp; done)
    rename_i ps' hps
    have hi' : i.toNat < l.length := by omega
    have ih := parts_pos (h.set hi') hps
    have hg := h.get hi'
    have := posN_set hi' (by omega) l.length (Nat.le_refl _)
    rw [if_pos hi'] at this
    unfold posS at ih ⊢
    rw [List.length_set] at ih
    simp only [List.length_cons]
    omega
noncomputable def hitX (l ms : List Int) (T m : Nat) (x : Nat) : Bool := decide ((comR l (ms.length : Int) (tapeX x T) (m : Int)).2.2 = 0 ∧ (comR l (ms.length : Int) (tapeX x T) (m : Int)).1 = ms)
theorem comR_tape {l ms : List Int} (h : LOk l) (hl : l.length ≤ 200) (hms : ms.length ≤ 200) {T m : Nat} (hT : T ≤ 12) (hm0 : 0 < m) (hm : m ≤ 64) (x : Nat) :
    (∃ a', a' ≤ T ∧ (comR l (ms.length : Int) (tapeX x T) (m : Int)).2.1 = setAt (tapeX x T) (a' : Int)) ∧ (¬ posS l < (ms.length : Int) → hitX l ms T m x = comN m ms l T (x % 2 ^ T)) ∧ (posS l < (ms.length : Int) → hitX l ms T m x = false) := by
  have hr := (tapeX_right x (T := T) (a := 0) (Nat.zero_le _)).1
  have e0 : setAt (tapeX x T) ((0 : Nat) : Int) = tapeX x T := rfl
  rw [e0] at hr
  unfold hitX
  by_cases hp : posS l < (ms.length : Int)
  · have hc : comR l (ms.length : Int) (tapeX x T) (m : Int) = ([], tapeX x T, 12) := by
      unfold comR
      rw [if_pos ⟨by omega, by omega, hr, by omega, by omega⟩, if_pos hp]
    rw [hc]
    exact ⟨⟨0, Nat.zero_le _, rfl⟩, fun hh => absurd hp hh, fun _ => decF (fun hh => absurd hh.1 (by show ¬ ((12 : Int) = 0); decide))⟩
  · have hc : comR l (ms.length : Int) (tapeX x T) (m : Int) = comF (m : Int) ms.length l (setAt (tapeX x T) ((0 : Nat) : Int)) [] := by
      unfold comR
      rw [if_pos ⟨by omega, by omega, hr, by omega, by omega⟩, if_neg hp, Int.toNat_natCast]; rfl
    rw [hc]
    obtain ⟨k1, k2⟩ := comF_tape (x := x) hT hm0 hm ms l 0 [] (Nat.zero_le _) h hl
    refine ⟨k1, fun _ => ?_, fun hh => absurd hh hp⟩
    rw [Nat.sub_zero, List.nil_append] at k2
    exact k2
theorem hit_cnt {l ms : List Int} (h : LOk l) (hl : l.length ≤ 200) (hms : ms.length ≤ 200) {T m : Nat} (hT : T ≤ 12) (hm0 : 0 < m) (hm : m ≤ 64) : cnt (hitX l ms T m) (2 ^ T) = match partsS ms l with
    | some ps => wayN m ps T
    | none => 0 := by
  by_cases hp : posS l < (ms.length : Int)
  · rw [cnt_congr (q := fun _ => false) (fun x _ => (comR_tape h hl hms hT hm0 hm x).2.2 hp), cnt_const]
    cases hps : partsS ms l with
    | none => rfl
    | some ps =>
      have := parts_pos h hps
      omega
  · rw [cnt_congr (q := comN m ms l T) (fun x hx => by rw [(comR_tape h hl hms hT hm0 hm x).2.1 hp, Nat.mod_eq_of_lt hx])]
    exact comN_cnt m ms l h hl T
end Go.PG
namespace Go.PG
def smallF (l : List Int) : List Int := l.map fun v => v % 5
theorem smallF_len (l : List Int) : (smallF l).length = l.length := by simp [smallF]
theorem smallF_range (l : List Int) : ∀ x ∈ smallF l, 0 ≤ x ∧ x ≤ 4 := fun x hx => by
  unfold smallF at hx
  obtain ⟨v, _, rfl⟩ := List.mem_map.1 hx
  omega
theorem smallF_u64 (l : List Int) : AllU64 (smallF l) := fun x hx => by
  have := smallF_range l x hx
  unfold U64; omega
theorem smallF_tot : ∀ (l : List Int), totS (smallF l) ≤ 4 * (l.length : Int)
  | [] => by simp [totS, sumS, smallF]
  | v :: l => by
    have ih := smallF_tot l
    have e : totS (smallF (v :: l)) = v % 5 + totS (smallF l) := by
      unfold totS sumS smallF
      rw [List.take_length, List.take_length]
      simp
    rw [e]
    simp only [List.length_cons]
    omega
theorem G6_7_eq (R : Type) {l : List Int} (h : AllU64 l) (hlen : l.length ≤ 8) (x1 x4 : List Int) (k0 : List Int → List Int → List Int → Option R) : ∀ (m i : Nat), i ≤ l.length → l.length - i < m →
    G6_7 m R x1 l (i : Int) x4 (smallF (l.take i)) k0 = k0 x1 x4 (smallF l)
  | 0, i, _, h => by omega
  | m + 1, i, h1, h2 => by
    simp only [G6_7, p6_7]
    by_cases hi : i < l.length
    · have hd : decide ((i : Int) < (l.length : Int)) = true := decT (by omega)
      have hc : ∀ y : Int, decide (List.length (smallF (l.take i)) + List.length [y] ≤ 17592186044416) = true := fun y => by rw [smallF_len]; simp; omega
      simp only [hd, bndN hi, hc, Int.toNat_natCast]
      have hv := getD_all h u64_0 i
      unfold U64 at hv
      rw [Int.tmod_eq_emod_of_nonneg hv.1]
      have et : l.take (i + 1) = l.take i ++ [l.getD i 0] := by
        rw [List.take_succ_eq_append_getElem hi]; simp [hi]
      have es : smallF (l.take i) ++ [l.getD i 0 % 5] = smallF (l.take (i + 1)) := by
        rw [et]; simp [smallF]
      rw [es, wrap_i64 (n := (i : Int) + 1) (by omega) (by omega)]
      exact G6_7_eq R h hlen x1 x4 k0 m (i + 1) (by omega) (by omega)
    · have : i = l.length := by omega
      subst this
      have hd : decide ((l.length : Int) < (l.length : Int)) = false := by simp
      simp only [hd]
      rw [List.take_length]
theorem G6_15_eq (R : Type) {l ms : List Int} (h : LOk l) (hl : l.length ≤ 200) (hms : ms.length ≤ 200) {T t : Nat} (hT : T ≤ 9) (ht0 : 0 < t) (ht : t ≤ 64) (x4 : List Int) (x5 : Int) (k0 : Bool → Option R) (k1 : List Int → Int → Int → Option R) :
    ∀ (m x : Nat), x ≤ 2 ^ T → 2 ^ T - x < m → G6_15 m R ms (T : Int) (t : Int) x4 x5 ((cnt (hitX l ms T t) x : Nat) : Int) (x : Int) (treeS l, ()) k0 k1 = k1 x4 x5 ((cnt (hitX l ms T t) (2 ^ T) : Nat) : Int)
  | 0, x, _, hh => by omega
  | m + 1, x, h1, h2 => by
    simp only [G6_15, p6_15]
    have h12 : 2 ^ T ≤ 2 ^ 9 := Nat.pow_le_pow_right (by omega) hT
    rw [F11_eq R (n := T) (by omega) (two_pow_ok (by omega))]
    have ep : (2 : Int) ^ T = ((2 ^ T : Nat) : Int) := by simp
    rw [ep]
    by_cases hx : x < 2 ^ T
    · have hd : decide ((x : Int) < ((2 ^ T : Nat) : Int)) = true := decT (by omega)
      simp only [hd]
      rw [F13_eq R (by omega) hx, wrap_u64 (n := (T : Int)) (by omega) (by omega), F12_eq R (by rw [tapeX_len]; omega)]
      have etr : tapeR (bytesX x T T) (T : Int) = (tapeX x T, 0) := by
        unfold tapeR
        rw [if_pos (by rw [tapeX_len]; omega)]
        rfl
      simp only [etr]
      rw [F22_eq R h.u h.t hl (tapeX_ok x (by omega))]
      obtain ⟨⟨a', g1, g2⟩, _, _⟩ := comR_tape h hl hms (T := T) (m := t) (by omega) ht0 ht x
      have hat : decide ((comR l (ms.length : Int) (tapeX x T) (t : Int)).2.1.2.2.2.2.2.1 > (tapeX x T).2.2.1) = false := by
        rw [g2]
        exact decF (show ¬ ((a' : Int) > (T : Int)) by omega)
      simp only [hat]
      have hcs := cnt_succ (hitX l ms T t) x
      have hcl := cntX_le (hitX l ms T t) x
      have ex : IntKind.u64.wrap ((x : Int) + 1) = ((x + 1 : Nat) : Int) := by rw [wrap_u64 (by omega) (by omega)]; omega
      have hit : hitX l ms T t x = (decide ((comR l (ms.length : Int) (tapeX x T) (t : Int)).2.2 = 0) && decide ((comR l (ms.length : Int) (tapeX x T) (t : Int)).1 = ms)) := by
        unfold hitX; rw [Bool.decide_and]
      by_cases he : (comR l (ms.length : Int) (tapeX x T) (t : Int)).2.2 = 0
      · have hb : ((comR l (ms.length : Int) (tapeX x T) (t : Int)).2.2 == 0) = true := by rw [he]; rfl
        simp only [hb]
        rw [F19_eq R _ _ (by have := comR_len l (ms.length : Int) (tapeX x T) (t : Int); omega)]
        rw [decT he, Bool.true_and] at hit
        by_cases hm : (comR l (ms.length : Int) (tapeX x T) (t : Int)).1 = ms
        · rw [decT hm] at hit ⊢
          rw [hit] at hcs
          simp only [if_true] at hcs
          simp only []
          rw [ex, show IntKind.u64.wrap ((cnt (hitX l ms T t) x : Nat) + 1 : Int) = ((cnt (hitX l ms T t) (x + 1) : Nat) : Int) by rw [hcs, wrap_u64 (by omega) (by omega)]; omega]
          exact G6_15_eq R h hl hms hT ht0 ht x4 x5 k0 k1 m (x + 1) (by omega) (by omega)
        · rw [decF hm] at hit ⊢
          rw [hit] at hcs
          simp only [Bool.false_eq_true, if_false, Nat.add_zero] at hcs
          simp only []
          rw [ex, ← hcs]
          exact G6_15_eq R h hl hms hT ht0 ht x4 x5 k0 k1 m (x + 1) (by omega) (by omega)
      · have hb : ((comR l (ms.length : Int) (tapeX x T) (t : Int)).2.2 == 0) = false := by simp only [beq_eq_false_iff_ne, ne_eq]; exact he
        simp only [hb]
        rw [decF he, Bool.false_and] at hit
        rw [hit] at hcs
        simp only [Bool.false_eq_true, if_false, Nat.add_zero] at hcs
        rw [ex, ← hcs]
        exact G6_15_eq R h hl hms hT ht0 ht x4 x5 k0 k1 m (x + 1) (by omega) (by omega)
    · have : x = 2 ^ T := by omega
      have hd : decide ((x : Int) < ((2 ^ T : Nat) : Int)) = false := decF (by omega)
      simp only [hd]
      rw [this]
theorem F6_eq (R : Type) (ms : List Int) {p : List Int} (hp0 : 0 ≤ p.getD 0 0 ∧ p.getD 0 0 ≤ 255) (hp1 : 0 ≤ p.getD 1 0 ∧ p.getD 1 0 ≤ 255) {l : List Int} (h : AllU64 l) (k : Bool → Option R) : F6 R ms p l k = k true := by
  simp only [F6, p6]
  rw [F17_eq]
  simp only [Bool.not_true]
  by_cases hl : (l.length : Int) > 5
  · simp only [decT hl]
  · simp only [decF hl]
    by_cases hm : (ms.length : Int) > 3
    · simp only [decT hm]
    · simp only [decF hm]
      have hst := smallF_tot l
      have hs : LOk (smallF l) := ⟨smallF_u64 l, by omega, by rw [smallF_len]; omega⟩
      have h7 := G6_7_eq R h (by omega) ms p (fun x6 x7 x8 => F20 R x6 (IntKind.i64.wrap (Int.tmod (List.getD x7 0 0) 10)) (IntKind.i64.wrap (1 + IntKind.i64.wrap (Int.tmod (List.getD x7 1 0) 3))) x8 fun y16 y17 =>
        F21 R x8 fun y18 => G6_15 FUEL R x6 (IntKind.i64.wrap (Int.tmod (List.getD x7 0 0) 10)) (IntKind.i64.wrap (1 + IntKind.i64.wrap (Int.tmod (List.getD x7 1 0) 3))) y16 y17 0 0 y18 (fun x19 => k x19) (fun x20 x21 x22 =>
          match x21 == 0 with
          | true => F24 R x22 fun y24 => F23 R x20 y24 fun y25 => k y25
          | false => k false)) FUEL 0 (by omega) (by rw [FUEL_eq]; omega)
      refine Eq.trans ?_ (h7.trans ?_)
      · rfl
      rw [Int.tmod_eq_emod_of_nonneg hp0.1, Int.tmod_eq_emod_of_nonneg hp1.1, wrap_i64 (n := p.getD 0 0 % 10) (by omega) (by omega), wrap_i64 (n := p.getD 1 0 % 3) (by omega) (by omega), wrap_i64 (n := 1 + p.getD 1 0 % 3) (by omega) (by omega)]
      obtain ⟨T, hT⟩ : ∃ T : Nat, p.getD 0 0 % 10 = (T : Int) := ⟨(p.getD 0 0 % 10).toNat, by omega⟩
      obtain ⟨t, ht⟩ : ∃ t : Nat, 1 + p.getD 1 0 % 3 = (t : Int) := ⟨(1 + p.getD 1 0 % 3).toNat, by omega⟩
      rw [hT, ht, F20_eq R hs.u hs.n, F21_eq R hs.u hs.t (by rw [smallF_len]; omega)]
      have hsl : (smallF l).length ≤ 200 := by rw [smallF_len]; omega
      have h15 := G6_15_eq R hs hsl (ms := ms) (by omega) (T := T) (t := t) (by omega) (by omega) (by omega) (waysS ms (T : Int) (t : Int) (smallF l)).1 (waysS ms (T : Int) (t : Int) (smallF l)).2 (fun x19 => k x19) (fun x20 x21 x22 =>
          match x21 == 0 with
          | true => F24 R x22 fun y24 => F23 R x20 y24 fun y25 => k y25
          | false => k false) FUEL 0 (Nat.zero_le _) (by rw [FUEL_eq]; have h29 : 2 ^ T ≤ 2 ^ 9 := Nat.pow_le_pow_right (by omega) (by omega); omega)
      refine Eq.trans ?_ (h15.trans ?_)
      · rfl
      have hcl := cntX_le (hitX (smallF l) ms T t) (2 ^ T)
      have h29 : 2 ^ T ≤ 2 ^ 9 := Nat.pow_le_pow_right (by omega) (by omega)
      have hc := hit_cnt hs hsl (ms := ms) (by omega) (T := T) (m := t) (by omega) (by omega) (by omega)
      have hw : waysS ms (T : Int) (t : Int) (smallF l) = (lim (cnt (hitX (smallF l) ms T t) (2 ^ T)), 0) := by
        unfold waysS
        rw [if_neg (by omega), if_pos hs.t, hc, Int.toNat_natCast, Int.toNat_natCast]
        cases partsS ms (smallF l) with
        | none => rfl
        | some ps => rfl
      rw [hw]
      simp only [show ((0 : Int) == 0) = true from rfl]
      rw [F24_eq R (by omega), F23_eq R _ _ (by have := lim_len (n := cnt (hitX (smallF l) ms T t) (2 ^ T)) (k := 1) (by rw [Nat.pow_one, LB_eq]; omega); omega)]
      simp only [decide_true]
end Go.PG
