/- A part of the proof over this seat (own work; the framework that reads a Go function as a pure one, or a use of it). No condition of its own. -/
import Derived.Test.YtapdakmnlclboaaGreatCW5
set_option linter.unusedVariables false
set_option linter.unusedSimpArgs false
set_option linter.unusedSectionVars false
namespace Go.PG
structure SFit (s : Src) : Prop where
  tape : AllU8 s.2.1
  bits : U64 s.2.2.1
  seed : H32 s.2.2.2.1
  dom : U64 s.2.2.2.2.1
  at_ : U64 s.2.2.2.2.2.1
theorem SFit.ok {s : Src} (h : SFit s) (hl : s.2.1.length ≤ 1000000) : SOK s := ⟨h.tape, hl, h.bits, h.seed, h.dom, h.at_⟩
def zeroSrc : Src := (0, [], 0, List.replicate 32 0, 0, 0, ())
def tapeSrc (b : List Int) (n : Int) : Src := (1, b, n, List.replicate 32 0, 0, 0, ())
theorem tapeSrc_ok {b : List Int} (hb : AllU8 b) (hl : b.length ≤ 1000000) {n : Int} (hn : U64 n) : SOK (tapeSrc b n) := ⟨hb, hl, hn, zero32_ok, by unfold U64 tapeSrc; simp, by unfold U64 tapeSrc; simp⟩
def tapeR (b : List Int) (n : Int) : Src × Int := if n ≤ 8 * (b.length : Int) then (tapeSrc b n, 0) else (zeroSrc, 1)
theorem F39_eq (R : Type) {b : List Int} (hl : b.length ≤ 1000000) (n : Int) (k : Src → Int → Option R) : F39 R b n k = k (tapeR b n).1 (tapeR b n).2 := by
  simp only [F39, p39]
  have hc : decide (List.length ([] : List Int) + b.length ≤ 140737488355328) = true := by simp; omega
  simp only [hc, List.nil_append]
  rw [wrap_u64 (n := (b.length : Int)) (by omega) (by omega), wrap_u64 (n := 8 * (b.length : Int)) (by omega) (by omega)]
  unfold tapeR
  by_cases h : n ≤ 8 * (b.length : Int)
  · have h' : ¬ n > 8 * (b.length : Int) := by omega
    rw [if_pos h]
    simp only [decide_eq_false h']
    rfl
  · have h' : n > 8 * (b.length : Int) := by omega
    rw [if_neg h]
    simp only [decide_eq_true h']
    rfl
theorem takeR_ok {s : Src} {n : Nat} (hr : rightS' s = true) (h1 : n ≤ 64) (h2 : (n : Int) ≤ leftS s) : takeR s n = (takeV s (atS s) n, setAt s (atS s + n), 0) := by
  unfold takeR
  rw [if_pos ⟨hr, by omega, by omega⟩, if_pos h2, Int.toNat_natCast]
end Go.PG
namespace Go.PG
def blenF : Nat → Nat → Nat
  | 0, _ => 0
  | f + 1, x => if x = 0 then 0 else blenF f (x / 2) + 1
theorem blenF_spec : ∀ (f x : Nat), x < 2 ^ f → x < 2 ^ blenF f x ∧ (x ≠ 0 → 2 ^ (blenF f x - 1) ≤ x) ∧ blenF f x ≤ f
  | 0, x, h => by simp at h; subst h; simp [blenF]
  | f + 1, x, h => by
    rw [Nat.pow_succ] at h
    simp only [blenF]
    by_cases h0 : x = 0
    · subst h0; simp
    · rw [if_neg h0]
      obtain ⟨h1, h2, h3⟩ := blenF_spec f (x / 2) (by omega)
      refine ⟨?_, fun _ => ?_, by omega⟩
      · rw [Nat.pow_succ]; omega
      · rw [Nat.add_sub_cancel]
        by_cases hx : x / 2 = 0
        · have e : blenF f (x / 2) = 0 := by
            rw [hx]
            cases f with
            | zero => rfl
            | succ f => simp [blenF]
          rw [e, Nat.pow_zero]; omega
        · have := h2 hx
          have hb : blenF f (x / 2) ≠ 0 := fun e => by rw [e, Nat.pow_zero] at h1; omega
          obtain ⟨b, hb⟩ : ∃ b, blenF f (x / 2) = b + 1 := ⟨blenF f (x / 2) - 1, by omega⟩
          rw [hb, Nat.add_sub_cancel] at this
          rw [hb, Nat.pow_succ]
          omega
theorem G121_eq (R : Type) (k0 : Int → Option R) : ∀ (f m x c : Nat), x < 2 ^ f → f ≤ 64 → f < m → c + f ≤ 1000 → G121_1 m R (x : Int) (c : Int) k0 = k0 ((c + blenF f x : Nat) : Int)
  | _, 0, _, _, _, _, h, _ => by omega
  | 0, m + 1, x, c, h, _, _, _ => by
    simp at h; subst h
    simp only [G121_1, p121_1, blenF]
    rfl
  | f + 1, m + 1, x, c, h, hf, hm, hc => by
    simp only [G121_1, p121_1, blenF]
    rw [Nat.pow_succ] at h
    by_cases h0 : x = 0
    · subst h0
      simp
    · have e : ((x : Int) != 0) = true := by simp [h0]
      have e2 : ishr .u64 (x : Int) 1 = ((x / 2 : Nat) : Int) := by
        have := shr64 (x := (x : Int)) 1 (by omega)
        refine this.trans ?_
        omega
      simp only [e, if_neg h0]
      have ih := G121_eq R k0 f m (x / 2) (c + 1) (by omega) (by omega) (by omega) (by omega)
      rw [wrap_i64 (n := (c : Int) + 1) (by omega) (by omega), e2, show c + (blenF f (x / 2) + 1) = c + 1 + blenF f (x / 2) by omega]
      exact ih
theorem G108_eq (R : Type) (k0 : Int → Option R) : ∀ (f m x c : Nat), x < 2 ^ f → f ≤ 64 → f < m → c + f ≤ 1000 → G108_2 m R (x : Int) (c : Int) k0 = k0 ((c + blenF f x : Nat) : Int)
  | _, 0, _, _, _, _, h, _ => by omega
  | 0, m + 1, x, c, h, _, _, _ => by
    simp at h; subst h
    simp only [G108_2, p108_2, blenF]
    rfl
  | f + 1, m + 1, x, c, h, hf, hm, hc => by
    simp only [G108_2, p108_2, blenF]
    have hx64 : x < 2 ^ 64 := Nat.lt_of_lt_of_le h (Nat.pow_le_pow_right (by omega) hf)
    rw [Nat.pow_succ] at h
    by_cases h0 : x = 0
    · subst h0
      simp
    · have e : decide ((x : Int) > 0) = true := decide_eq_true (by omega)
      have e2 : IntKind.u64.wrap (Int.tdiv (x : Int) 2) = ((x / 2 : Nat) : Int) := by
        rw [Int.tdiv_eq_ediv_of_nonneg (by omega), wrap_u64 (by omega) (by omega)]
        omega
      simp only [e, if_neg h0, e2]
      have ih := G108_eq R k0 f m (x / 2) (c + 1) (by omega) (by omega) (by omega) (by omega)
      rw [wrap_i64 (n := (c : Int) + 1) (by omega) (by omega), show c + (blenF f (x / 2) + 1) = c + 1 + blenF f (x / 2) by omega]
      exact ih
def needS (n : Int) : Nat := blenF 64 (n - 1).toNat
theorem need_spec {n : Int} (hn : U64 n) : needS n ≤ 64 ∧ n ≤ 2 ^ needS n ∧ (2 ≤ n → 1 ≤ needS n ∧ (2 : Int) ^ (needS n - 1) < n) := by
  unfold U64 at hn
  obtain ⟨h1, h2, h3⟩ := blenF_spec 64 (n - 1).toNat (by omega)
  unfold needS
  generalize blenF 64 (n - 1).toNat = b at *
  have e : ∀ j : Nat, ((2 ^ j : Nat) : Int) = (2 : Int) ^ j := fun j => by simp
  refine ⟨h3, ?_, fun h => ⟨?_, ?_⟩⟩
  · rw [← e]; omega
  · cases b with
    | zero => rw [Nat.pow_zero] at h1; omega
    | succ b => omega
  · have := h2 (by omega)
    rw [← e]; omega
theorem F84_eq (R : Type) {n : Int} (hn : U64 n) (k : Int → Option R) : F84 R n k = k (needS n : Int) := by
  have hn' := hn
  unfold U64 at hn
  simp only [F84, p84, F121, p121]
  have e : IntKind.u64.wrap ((if (1 : Int) > n then (1 : Int) else n) - 1) = ((n - 1).toNat : Int) := by
    split
    · rw [wrap_u64 (by omega) (by omega)]; omega
    · rw [wrap_u64 (by omega) (by omega)]; omega
  rw [e]
  have := G121_eq R (fun x1 => k x1) 64 FUEL (n - 1).toNat 0 (by omega) (by omega) (by rw [FUEL_eq]; omega) (by omega)
  rw [Nat.zero_add] at this
  exact this
theorem F67_eq (R : Type) {n : Int} (hn : U64 n) (k : Int → Option R) : F67 R n k = k (needS n : Int) := by
  have hn' := hn
  unfold U64 at hn
  simp only [F67, p67, F108, p108]
  by_cases h0 : n = 0
  · subst h0; rfl
  · have e0 : (n == 0) = false := by simp [h0]
    simp only [e0]
    have e : IntKind.u64.wrap (n - 1) = ((n - 1).toNat : Int) := by
      rw [wrap_u64 (by omega) (by omega)]; omega
    rw [e]
    have := G108_eq R (fun x1 => k x1) 64 FUEL (n - 1).toNat 0 (by omega) (by omega) (by rw [FUEL_eq]; omega) (by omega)
    rw [Nat.zero_add] at this
    exact this
def drawF (n : Int) : Nat → Src → Int × Src × Int
  | 0, s => (0, s, 9)
  | m + 1, s => if (takeR s (needS n)).2.2 = 0 then (if (takeR s (needS n)).1 < n then ((takeR s (needS n)).1, (takeR s (needS n)).2.1, 0) else drawF n m (takeR s (needS n)).2.1) else (0, s, (takeR s (needS n)).2.2)
theorem takeR_ok1 {s : Src} (hs : SOK s) (k : Int) : SOK (takeR s k).2.1 := by
  unfold takeR
  split
  · rename_i h
    split
    · rename_i h2
      have hl := left_ok hs
      have h0 : 0 ≤ atS s := hs.at_.1
      have := right_room hs h.1 (k := k.toNat) (by omega)
      refine hs.set ?_
      unfold U64
      omega
    · exact hs
  · exact hs
theorem takeR_zero {s : Src} {k : Nat} (h : (takeR s k).2.2 = 0) : rightS' s = true ∧ k ≤ 64 ∧ (k : Int) ≤ leftS s ∧ takeR s k = (takeV s (atS s) k, setAt s (atS s + k), 0) := by
  unfold takeR at h
  split at h
  · rename_i h1
    split at h
    · rename_i h2
      exact ⟨h1.1, by omega, h2, takeR_ok h1.1 (by omega) h2⟩
    · simp at h
  · simp at h
theorem G42_eq (R : Type) {n : Int} (hn : U64 n) (a : Nat) (ha : a ≤ 64) (x5 : Src) (k0 : Int → Int → Src → Option R) (k1 : Src → Src → Option R) :
    ∀ (m i : Nat) (s : Src), i ≤ a → a - i < m → SOK s → (∀ y : Src, k1 y x5 = k0 0 9 y) → G42_4 m R n (a : Int) (i : Int) s x5 k0 k1 = k0 (drawF n (a - i) s).1 (drawF n (a - i) s).2.2 (drawF n (a - i) s).2.1
  | 0, i, _, _, h, _, _ => by omega
  | m + 1, i, s, h1, h2, hs, hk => by
    simp only [G42_4, p42_4]
    by_cases hi : i < a
    · have hd : decide ((i : Int) < (a : Int)) = true := by simpa using hi
      simp only [hd]
      rw [F84_eq R hn, F83_eq R hs, show a - i = (a - (i + 1)) + 1 by omega]
      simp only [drawF]
      have ih := G42_eq R hn a ha x5 k0 k1 m (i + 1) (takeR s (needS n)).2.1 (by omega) (by omega) (takeR_ok1 hs _) hk
      generalize takeR s (needS n) = t at *
      by_cases he : t.2.2 = 0
      · have e1 : (t.2.2 != 0) = false := by simp [he]
        simp only [e1, if_pos he]
        by_cases hx : t.1 < n
        · simp only [decide_eq_true hx, if_pos hx]
        · simp only [decide_eq_false hx, if_neg hx]
          rw [wrap_i64 (n := (i : Int) + 1) (by omega) (by omega)]
          exact ih
      · have e1 : (t.2.2 != 0) = true := by simp [he]
        simp only [e1, if_neg he]
    · have : i = a := by omega
      subst this
      have hd : decide ((i : Int) < (i : Int)) = false := by simp
      simp only [hd, Nat.sub_self, drawF]
      exact hk s
def drawR (s : Src) (n m : Int) : Int × Src × Int := if rightS' s = true ∧ 0 < n ∧ n < 9223372036854775808 ∧ 0 < m ∧ m ≤ 64 then drawF n m.toNat s else (0, s, 1)
theorem F42_eq (R : Type) {s : Src} (hs : SOK s) {n : Int} (hn : U64 n) (m : Int) (k : Int → Src → Int → Option R) : F42 R s n m k = k (drawR s n m).1 (drawR s n m).2.1 (drawR s n m).2.2 := by
  simp only [F42, p42, F82, p82]
  rw [F95_eq R hs]
  unfold drawR
  by_cases hr : rightS' s = true
  · simp only [hr, true_and]
    by_cases h1 : n > 0
    · simp only [decide_eq_true h1]
      by_cases h2 : n < 9223372036854775808
      · simp only [decide_eq_true h2]
        by_cases h3 : m > 0
        · simp only [decide_eq_true h3]
          by_cases h4 : m ≤ 64
          · simp only [decide_eq_true h4, Bool.not_true]
            rw [if_pos ⟨h1, h2, h3, h4⟩]
            obtain ⟨a, rfl⟩ : ∃ a : Nat, m = a := ⟨m.toNat, by omega⟩
            rw [Int.toNat_natCast]
            exact G42_eq R hn a (by omega) (0, [], 0, List.replicate 32 0, 0, 0, ()) (fun x2 x3 x4 => k x2 x4 x3) (fun x5 x6 => k 0 x5 9) FUEL 0 s (by omega) (by rw [FUEL_eq]; omega) hs (fun y => rfl)
          · rw [if_neg (fun h => h4 h.2.2.2)]
            simp only [decide_eq_false h4, Bool.not_false]
        · rw [if_neg (fun h => h3 h.2.2.1)]
          simp only [decide_eq_false h3, Bool.not_false]
      · rw [if_neg (fun h => h2 h.2.1)]
        simp only [decide_eq_false h2, Bool.not_false]
    · rw [if_neg (fun h => h1 h.1)]
      simp only [decide_eq_false h1, Bool.not_false]
  · simp only [Bool.not_eq_true] at hr
    simp [hr]
end Go.PG
namespace Go.PG
theorem drawF_ok {n : Int} : ∀ (m : Nat) (s : Src), (drawF n m s).2.2 = 0 → ∃ j, 1 ≤ j ∧ j ≤ m ∧ (drawF n m s).1 < n ∧ (drawF n m s).2.1 = setAt s (atS s + needS n * j) ∧ (needS n * j : Int) ≤ leftS s ∧ ∀ i < j, drawF n i s = (0, setAt s (atS s + needS n * i), 9)
  | 0, s, h => by simp [drawF] at h
  | m + 1, s, h => by
    simp only [drawF] at h ⊢
    split at h
    · rename_i h1
      obtain ⟨g1, g2, g3, g4⟩ := takeR_zero h1
      rw [if_pos h1]
      split at h
      · rename_i h2
        rw [if_pos h2]
        refine ⟨1, by omega, by omega, h2, ?_, by omega, fun i hi => ?_⟩
        · rw [g4]
          show setAt s (atS s + needS n) = setAt s (atS s + needS n * ((1 : Nat) : Int))
          rw [Int.natCast_one, Int.mul_one]
        · have : i = 0 := by omega
          subst this
          simp only [drawF, Int.natCast_zero, Int.mul_zero, Int.add_zero]
          rfl
      · rename_i h2
        rw [if_neg h2]
        have hmul : ∀ i : Nat, ((needS n : Nat) : Int) * ((i + 1 : Nat) : Int) = needS n + needS n * i := fun i => by
          rw [show ((i + 1 : Nat) : Int) = (i : Int) + 1 by omega, Int.mul_add, Int.mul_one, Int.add_comm]
        obtain ⟨j, j1, j2, j3, j4, j5, j6⟩ := drawF_ok m _ h
        refine ⟨j + 1, by omega, by omega, j3, ?_, ?_, fun i hi => ?_⟩
        · rw [j4, g4]
          show setAt (setAt s (atS s + needS n)) (atS s + needS n + needS n * j) = _
          rw [setAt_set, hmul, Int.add_assoc]
        · rw [g4] at j5
          have hle : leftS (setAt s (atS s + needS n)) ≤ leftS s - needS n := by
            unfold leftS at g3 ⊢
            rw [if_pos g1] at g3 ⊢
            split
            · show endS s - (atS s + needS n) ≤ endS s - atS s - needS n
              omega
            · show 0 ≤ endS s - atS s - needS n
              have : endS s - s.2.2.2.2.2.1 = endS s - atS s := rfl
              omega
          rw [hmul]
          have j5' : (needS n : Int) * j ≤ leftS (setAt s (atS s + needS n)) := j5
          omega
        · cases i with
          | zero =>
            simp only [drawF, Int.natCast_zero, Int.mul_zero, Int.add_zero]
            rfl
          | succ i =>
            have := j6 i (by omega)
            simp only [drawF]
            rw [if_pos h1, if_neg h2, this, g4]
            show (0, setAt (setAt s (atS s + needS n)) (atS s + needS n + needS n * i), 9) = _
            rw [setAt_set, hmul, Int.add_assoc]
    · rename_i h1
      exact absurd h h1
end Go.PG
namespace Go.PG
end Go.PG
namespace Go.PG
end Go.PG
namespace Go.PG
end Go.PG
namespace Go.PG
def sumS (l : List Int) (n : Nat) : Int := (l.take n).sum
theorem sumS_zero (l : List Int) : sumS l 0 = 0 := rfl
theorem sumS_succ {l : List Int} {i : Nat} (h : i < l.length) : sumS l (i + 1) = sumS l i + l.getD i 0 := by
  unfold sumS
  have et : l.take (i + 1) = l.take i ++ [l[i]] := by rw [List.take_succ_eq_append_getElem h]
  rw [et, List.sum_append]
  simp [h]
def AllU64 (l : List Int) : Prop := ∀ x ∈ l, U64 x
theorem u64_0 : U64 0 := by unfold U64; omega
theorem sumS_mono {l : List Int} (h : AllU64 l) {a : Nat} : ∀ d : Nat, sumS l a ≤ sumS l (a + d)
  | 0 => Int.le_refl _
  | d + 1 => by
    have ih := sumS_mono h (a := a) d
    by_cases hd : a + d < l.length
    · have := (getD_all h u64_0 (a + d)).1
      rw [← Nat.add_assoc, sumS_succ hd]
      omega
    · have e : sumS l (a + (d + 1)) = sumS l (a + d) := by
        unfold sumS
        rw [List.take_of_length_le (by omega), List.take_of_length_le (by omega)]
      rw [e]; exact ih
theorem sumS_le {l : List Int} (h : AllU64 l) {a b : Nat} (hab : a ≤ b) : sumS l a ≤ sumS l b := by
  have := sumS_mono h (a := a) (b - a)
  rwa [show a + (b - a) = b by omega] at this
theorem sumS_nonneg {l : List Int} (h : AllU64 l) (n : Nat) : 0 ≤ sumS l n := by
  have := sumS_le h (Nat.zero_le n)
  rwa [sumS_zero] at this
def totS (l : List Int) : Int := sumS l l.length
theorem sumS_tot {l : List Int} (h : AllU64 l) (n : Nat) : sumS l n ≤ totS l := by
  by_cases hn : n ≤ l.length
  · exact sumS_le h hn
  · unfold totS sumS
    rw [List.take_of_length_le (by omega), List.take_length]
    exact Int.le_refl _
def lowF : Nat → Nat → Nat
  | 0, _ => 1
  | f + 1, n => if n % 2 = 0 then 2 * lowF f (n / 2) else 1
def lowN (n : Nat) : Nat := lowF 20 n
def ALLN : List Nat := List.range' 1 1000
theorem low_check : (ALLN.all fun n => decide (iand .i64 (n : Int) (IntKind.i64.wrap (0 - (n : Int))) = (lowN n : Int)) && decide (1 ≤ lowN n ∧ lowN n ≤ n)) = true := by kernel_rfl
theorem low_ok {n : Nat} (h1 : 1 ≤ n) (h2 : n ≤ 1000) : iand .i64 (n : Int) (IntKind.i64.wrap (0 - (n : Int))) = (lowN n : Int) ∧ 1 ≤ lowN n ∧ lowN n ≤ n := by
  have := List.all_eq_true.1 low_check n (by unfold ALLN; rw [List.mem_range']; exact ⟨n - 1, by omega, by omega⟩)
  simp only [Bool.and_eq_true, decide_eq_true_eq] at this
  exact ⟨this.1, this.2⟩
theorem F93_eq (R : Type) {n : Nat} (h1 : 1 ≤ n) (h2 : n ≤ 1000) (k : Int → Option R) : F93 R (n : Int) k = k (lowN n : Int) := by
  simp only [F93, p93]
  rw [(low_ok h1 h2).1]
theorem G63_eq' (R : Type) (k0 : Int → Option R) : ∀ (f m n b : Nat), 1 ≤ n → n < 2 ^ f → f < m → n * b ≤ 1000000 → 1 ≤ b → G63_2 m R (n : Int) (b : Int) k0 = k0 ((b * lowF f n : Nat) : Int)
  | _, 0, _, _, _, _, h, _, _ => by omega
  | 0, m + 1, n, b, h1, h2, _, _, _ => by simp at h2; omega
  | f + 1, m + 1, n, b, h1, h2, h3, h4, h5 => by
    simp only [G63_2, p63_2, lowF]
    rw [Nat.pow_succ] at h2
    rw [Int.tmod_eq_emod_of_nonneg (by omega)]
    have hbn : b ≤ n * b := Nat.le_mul_of_pos_left b (by omega)
    have hnn : n ≤ n * b := Nat.le_mul_of_pos_right n (by omega)
    by_cases h0 : n % 2 = 0
    · have e : ((n : Int) % 2 == 0) = true := by
        have : (n : Int) % 2 = 0 := by omega
        simp [this]
      have hle : n / 2 * (2 * b) ≤ 1000000 := by
        have : n / 2 * (2 * b) = n / 2 * 2 * b := by rw [Nat.mul_assoc]
        rw [this, show n / 2 * 2 = n by omega]; exact h4
      have ih := G63_eq' R k0 f m (n / 2) (2 * b) (by omega) (by omega) (by omega) hle (by omega)
      simp only [e, if_pos h0]
      rw [Int.tdiv_eq_ediv_of_nonneg (by omega), wrap_i64 (n := (n : Int) / 2) (by omega) (by omega), wrap_i64 (n := 2 * (b : Int)) (by omega) (by omega), show (n : Int) / 2 = ((n / 2 : Nat) : Int) by omega, show 2 * (b : Int) = ((2 * b : Nat) : Int) by omega, ih]
      congr 2
      rw [← Nat.mul_assoc, Nat.mul_comm b 2]
    · have e : ((n : Int) % 2 == 0) = false := beq_eq_false_iff_ne.2 (by omega)
      simp only [e, if_neg h0, Nat.mul_one]
theorem F63_eq' (R : Type) {n : Nat} (h1 : 1 ≤ n) (h2 : n ≤ 1000) (k : Int → Option R) : F63 R (n : Int) k = k (lowN n : Int) := by
  simp only [F63, p63]
  have := G63_eq' R (fun x1 => k x1) 20 FUEL n 1 h1 (by omega) (by rw [FUEL_eq]; omega) (by omega) (Nat.le_refl _)
  rw [Nat.one_mul] at this
  exact this
theorem low_even (m : Nat) (h1 : 1 ≤ m) (h2 : m ≤ 500) : lowN (2 * m) = 2 * lowN m := by
  have : (List.range' 1 500).all (fun m => decide (lowN (2 * m) = 2 * lowN m)) = true := by kernel_rfl
  have := List.all_eq_true.1 this m (by rw [List.mem_range']; exact ⟨m - 1, by omega, by omega⟩)
  exact of_decide_eq_true this
theorem low_odd (m : Nat) : lowN (2 * m + 1) = 1 := by
  unfold lowN lowF
  rw [if_neg (by omega)]
theorem low_pow : ∀ (k q : Nat), (2 * q + 1) * 2 ^ k ≤ 1000 → lowN ((2 * q + 1) * 2 ^ k) = 2 ^ k
  | 0, q, _ => by rw [Nat.pow_zero, Nat.mul_one, low_odd]
  | k + 1, q, h => by
    rw [Nat.pow_succ, ← Nat.mul_assoc] at h
    have hp : 0 < (2 * q + 1) * 2 ^ k := Nat.mul_pos (by omega) (Nat.pow_pos (by omega))
    rw [Nat.pow_succ, ← Nat.mul_assoc, Nat.mul_comm _ 2, low_even _ hp (by omega), low_pow k q (by omega), Nat.mul_comm]
def nodeS (l : List Int) (q : Nat) : Int := sumS l (q + 1) - sumS l (q + 1 - lowN (q + 1))
def treeS (l : List Int) : List Int := (List.range l.length).map (nodeS l)
theorem treeS_len (l : List Int) : (treeS l).length = l.length := by simp [treeS]
theorem treeS_get {l : List Int} {q : Nat} (h : q < l.length) : (treeS l).getD q 0 = nodeS l q := by
  simp [treeS, h]
theorem node_range {l : List Int} (h : AllU64 l) (ht : totS l < 9223372036854775808) (q : Nat) : 0 ≤ nodeS l q ∧ nodeS l q < 9223372036854775808 := by
  have h1 := sumS_le h (a := q + 1 - lowN (q + 1)) (b := q + 1) (by omega)
  have h2 := sumS_nonneg h (q + 1 - lowN (q + 1))
  have h3 := sumS_tot h (q + 1)
  unfold nodeS
  omega
theorem G62_eq' (R : Type) {l : List Int} (h : AllU64 l) (ht : totS l < 9223372036854775808) (hlen : l.length ≤ 1000) (b a : Nat) (hb : b ≤ l.length) (k0 : Int → Option R) : ∀ (m i : Nat), a ≤ i → i ≤ b → b - i < m → G62_3 m R l (b : Int) (sumS l i - sumS l a) (i : Int) k0 = k0 (sumS l b - sumS l a)
  | 0, i, _, _, h => by omega
  | m + 1, i, h0, h1, h2 => by
    simp only [G62_3, p62_3]
    by_cases hi : i < b
    · have hd : decide ((i : Int) < (b : Int)) = true := by simpa using hi
      have hbn : bnd (i : Int) (l.length : Int) = true := by unfold bnd; simp; omega
      have q1 := sumS_le h h0
      have q2 := sumS_tot h (i + 1)
      have q3 := sumS_succ (l := l) (i := i) (by omega)
      have q4 := sumS_nonneg h a
      have q5 := (getD_all h u64_0 i).1
      simp only [hd, hbn, Int.toNat_natCast]
      rw [wrap_u64 (n := sumS l i - sumS l a + l.getD i 0) (by omega) (by omega), wrap_i64 (n := (i : Int) + 1) (by omega) (by omega), show sumS l i - sumS l a + l.getD i 0 = sumS l (i + 1) - sumS l a by omega]
      exact G62_eq' R h ht hlen b a hb k0 m (i + 1) (by omega) (by omega) (by omega)
    · have : i = b := by omega
      subst this
      have hd : decide ((i : Int) < (i : Int)) = false := by simp
      simp only [hd]
theorem F62_eq' (R : Type) {l : List Int} (h : AllU64 l) (ht : totS l < 9223372036854775808) (hlen : l.length ≤ 1000) {a b : Nat} (hab : a ≤ b) (hb : b ≤ l.length) (k : Int → Option R) : F62 R l (a : Int) (b : Int) k = k (sumS l b - sumS l a) := by
  simp only [F62, p62]
  have := G62_eq' R h ht hlen b a hb (fun x1 => k x1) FUEL a (Nat.le_refl _) hab (by rw [FUEL_eq]; omega)
  rw [Int.sub_self] at this
  exact this
theorem G26_eq (R : Type) {l : List Int} (h : AllU64 l) (ht : totS l < 9223372036854775808) (hlen : l.length ≤ 500) (x3 : List Int × Unit) (k0 : (List Int × Unit) → List Int → Unit → Option R) : ∀ (m i : Nat), i ≤ l.length → l.length - i < m →
    G26_3 m R l (i : Int) x3 ((List.range i).map (nodeS l)) () k0 = k0 x3 (treeS l) ()
  | 0, i, _, h => by omega
  | m + 1, i, h1, h2 => by
    simp only [G26_3, p26_3]
    by_cases hi : i < l.length
    · have hd : decide ((i : Int) < (l.length : Int)) = true := by simpa using hi
      simp only [hd]
      have hl := low_ok (n := i + 1) (by omega) (by omega)
      rw [wrap_i64 (n := (i : Int) + 1) (by omega) (by omega), show (i : Int) + 1 = ((i + 1 : Nat) : Int) by omega, F63_eq' R (by omega) (by omega), wrap_i64 (n := ((i + 1 : Nat) : Int) - (lowN (i + 1) : Int)) (by omega) (by omega), show ((i + 1 : Nat) : Int) - (lowN (i + 1) : Int) = ((i + 1 - lowN (i + 1) : Nat) : Int) by omega, F62_eq' R h ht (by omega) (by omega) (by omega)]
      have hc : ∀ y : Int, decide (List.length ((List.range i).map (nodeS l)) + List.length [y] ≤ 17592186044416) = true := fun y => by simp; omega
      simp only [hc]
      have e : (List.range i).map (nodeS l) ++ [sumS l (i + 1) - sumS l (i + 1 - lowN (i + 1))] = (List.range (i + 1)).map (nodeS l) := by
        rw [List.range_succ, List.map_append]; rfl
      rw [e]
      exact G26_eq R h ht hlen x3 k0 m (i + 1) (by omega) (by omega)
    · have : i = l.length := by omega
      subst this
      have hd : decide ((l.length : Int) < (l.length : Int)) = false := by simp
      simp only [hd]
      rfl
theorem F26_eq (R : Type) {l : List Int} (h : AllU64 l) (ht : totS l < 9223372036854775808) (hlen : l.length ≤ 500) (k : (List Int × Unit) → Option R) : F26 R l k = k (treeS l, ()) := by
  simp only [F26, p26]
  exact G26_eq R h ht hlen ([], ()) (fun x1 x2 x3 => k (x2, ())) FUEL 0 (by omega) (by rw [FUEL_eq]; omega)
theorem G127_eq (R : Type) {l : List Int} (h : AllU64 l) (ht : totS l < 9223372036854775808) (hlen : l.length ≤ 500) (k0 : Int → Option R) (n0 : Nat) (hn0 : n0 ≤ l.length) : ∀ (m n : Nat), n ≤ n0 → n < m → G127_1 m R (n : Int) (sumS l n0 - sumS l n) (treeS l, ()) k0 = k0 (sumS l n0)
  | 0, n, _, h => by omega
  | m + 1, n, h1, h2 => by
    simp only [G127_1, p127_1]
    by_cases hn : n = 0
    · subst hn
      have hd : decide (((0 : Nat) : Int) > 0) = false := by simp
      simp only [hd, sumS_zero, Int.sub_zero]
    · have hd : decide ((n : Int) > 0) = true := decide_eq_true (by omega)
      have hl := low_ok (n := n) (by omega) (by omega)
      rw [wrap_i64 (n := (n : Int) - 1) (by omega) (by omega), show (n : Int) - 1 = ((n - 1 : Nat) : Int) by omega]
      have hbn : bnd ((n - 1 : Nat) : Int) ((treeS l).length : Int) = true := by rw [treeS_len]; unfold bnd; simp; omega
      simp only [hd, hbn, Int.toNat_natCast]
      rw [treeS_get (by omega), F93_eq R (by omega) (by omega)]
      have e : nodeS l (n - 1) = sumS l n - sumS l (n - lowN n) := by
        unfold nodeS
        rw [show n - 1 + 1 = n by omega]
      have q1 := sumS_le h (a := n - lowN n) (b := n) (by omega)
      have q2 := sumS_nonneg h (n - lowN n)
      have q3 := sumS_tot h n0
      have q4 := sumS_le h h1
      rw [e, wrap_u64 (n := sumS l n0 - sumS l n + (sumS l n - sumS l (n - lowN n))) (by omega) (by omega), wrap_i64 (n := (n : Int) - (lowN n : Int)) (by omega) (by omega), show (n : Int) - (lowN n : Int) = ((n - lowN n : Nat) : Int) by omega, show sumS l n0 - sumS l n + (sumS l n - sumS l (n - lowN n)) = sumS l n0 - sumS l (n - lowN n) by omega]
      exact G127_eq R h ht hlen k0 n0 hn0 m (n - lowN n) (by omega) (by omega)
theorem F96_eq (R : Type) {l : List Int} (h : AllU64 l) (ht : totS l < 9223372036854775808) (hlen : l.length ≤ 500) (k : Int → Option R) : F96 R (treeS l, ()) k = k (totS l) := by
  simp only [F96, p96, F128, p128, F127, p127, treeS_len]
  have := G127_eq R h ht hlen (fun x1 => k x1) l.length (Nat.le_refl _) FUEL l.length (Nat.le_refl _) (by rw [FUEL_eq]; omega)
  rw [Int.sub_self] at this
  exact this
def Owns (l : List Int) (x : Int) (i : Nat) : Prop := i < l.length ∧ sumS l i ≤ x ∧ x < sumS l (i + 1)
theorem Owns.uniq {l : List Int} (h : AllU64 l) {x : Int} {i j : Nat} (hi : Owns l x i) (hj : Owns l x j) : i = j := by
  obtain ⟨a1, a2, a3⟩ := hi
  obtain ⟨b1, b2, b3⟩ := hj
  rcases Nat.lt_trichotomy i j with h1 | h1 | h1
  · have := sumS_le h (a := i + 1) (b := j) (by omega); omega
  · exact h1
  · have := sumS_le h (a := j + 1) (b := i) (by omega); omega
theorem G97_4_eq (R : Type) {n : Nat} (hn : n ≤ 500) (t : List Int × Unit) (htl : t.1.length = n) (x : Int) (k0 : Int → Int → Int → (List Int × Unit) → Option R) : ∀ (m k : Nat), 2 ^ k ≤ n ∨ k = 0 → n + 2 < m + 2 ^ k → ∃ j, n < 2 ^ (j + 1) ∧ (2 ^ j ≤ n ∨ j = 0) ∧ G97_4 m R x 0 ((2 ^ k : Nat) : Int) t k0 = k0 x 0 ((2 ^ j : Nat) : Int) t
  | 0, k, h1, h2 => by
    rcases h1 with h1 | rfl
    · omega
    · rw [Nat.pow_zero] at h2; omega
  | m + 1, k, h1, h2 => by
    simp only [G97_4, p97_4, F128, p128, htl]
    have hpp : 0 < 2 ^ k := Nat.pow_pos (by omega)
    have hp : 2 ^ k ≤ 500 := by
      rcases h1 with h1 | rfl
      · omega
      · rw [Nat.pow_zero]; omega
    have e : ishl .i64 ((2 ^ k : Nat) : Int) 1 = ((2 ^ (k + 1) : Nat) : Int) := by
      unfold ishl
      rw [show (2 : Int) ^ (min (1 : Int).toNat IntKind.i64.bits) = 2 by decide, Nat.pow_succ]
      generalize 2 ^ k = p at *
      rw [wrap_i64 (by omega) (by omega)]; omega
    rw [e]
    by_cases hk : 2 ^ (k + 1) ≤ n
    · have hd : decide (((2 ^ (k + 1) : Nat) : Int) ≤ (n : Int)) = true := decide_eq_true (by omega)
      simp only [hd]
      exact G97_4_eq R hn t htl x k0 m (k + 1) (.inl hk) (by rw [Nat.pow_succ]; omega)
    · have hd : decide (((2 ^ (k + 1) : Nat) : Int) ≤ (n : Int)) = false := decide_eq_false (by omega)
      simp only [hd]
      exact ⟨k, by omega, h1, rfl⟩
theorem G97_6_eq (R : Type) {l : List Int} (h : AllU64 l) (ht : totS l < 9223372036854775808) (hlen : l.length ≤ 400) {x : Int} (hx : 0 ≤ x ∧ x < totS l) (k0 : Int → Option R) : ∀ (m k q : Nat), 2 ^ (k + 1) * q ≤ l.length → 2 ^ k ≤ 500 → sumS l (2 ^ (k + 1) * q) ≤ x → (l.length < 2 ^ (k + 1) * q + 2 ^ (k + 1) ∨ x < sumS l (2 ^ (k + 1) * q + 2 ^ (k + 1))) → k + 1 < m →
    ∃ i, Owns l x i ∧ G97_6 m R (x - sumS l (2 ^ (k + 1) * q)) ((2 ^ (k + 1) * q : Nat) : Int) ((2 ^ k : Nat) : Int) (treeS l, ()) k0 = k0 (i : Int)
  | 0, _, _, _, _, _, _, h => by omega
  | m + 1, k, q, h1, h2, h3, h4, h5 => by
    have hpp : 0 < 2 ^ k := Nat.pow_pos (by omega)
    have e1 : 2 ^ (k + 1) * q = 2 ^ k * (2 * q) := by rw [Nat.pow_succ, Nat.mul_assoc]
    have hlow : 2 ^ (k + 1) * q + 2 ^ k ≤ 1000 → lowN (2 ^ (k + 1) * q + 2 ^ k) = 2 ^ k := fun hh => by
      have e2 : 2 ^ (k + 1) * q + 2 ^ k = (2 * q + 1) * 2 ^ k := by rw [e1, Nat.add_mul, Nat.one_mul, Nat.mul_comm (2 * q)]
      rw [e2] at hh ⊢
      exact low_pow k q hh
    simp only [G97_6, p97_6, F128, p128, treeS_len]
    have hd : decide (((2 ^ k : Nat) : Int) > 0) = true := decide_eq_true (by omega)
    have eshr : ishr .i64 ((2 ^ k : Nat) : Int) 1 = ((2 ^ k / 2 : Nat) : Int) := by
      unfold ishr
      rw [show (2 : Int) ^ (min (1 : Int).toNat IntKind.i64.bits) = 2 by decide, Int.fdiv_eq_ediv_of_nonneg _ (by omega)]
      omega
    simp only [hd, eshr]
    rw [wrap_i64 (n := ((2 ^ (k + 1) * q : Nat) : Int) + ((2 ^ k : Nat) : Int)) (by omega) (by omega), show ((2 ^ (k + 1) * q : Nat) : Int) + ((2 ^ k : Nat) : Int) = ((2 ^ (k + 1) * q + 2 ^ k : Nat) : Int) by omega]
    -- what comes behind, for the next step
    have next : ∀ (q' : Nat) (_ : 2 ^ k * q' ≤ l.length) (_ : sumS l (2 ^ k * q') ≤ x) (_ : l.length < 2 ^ k * q' + 2 ^ k ∨ x < sumS l (2 ^ k * q' + 2 ^ k)),
        ∃ i, Owns l x i ∧ G97_6 m R (x - sumS l (2 ^ k * q')) ((2 ^ k * q' : Nat) : Int) ((2 ^ k / 2 : Nat) : Int) (treeS l, ()) k0 = k0 (i : Int) := by
      intro q' g1 g2 g3
      cases k with
      | zero =>
        rw [Nat.pow_zero, Nat.one_mul] at g1 g2 g3 ⊢
        have hlt : q' < l.length := by
          refine Classical.byContradiction fun hh => ?_
          have : sumS l q' = totS l := by
            unfold totS sumS
            rw [List.take_of_length_le (by omega), List.take_length]
          omega
        refine ⟨q', ⟨hlt, g2, ?_⟩, ?_⟩
        · rcases g3 with g3 | g3
          · have : q' + 1 = l.length := by omega
            rw [this]; exact hx.2
          · exact g3
        · cases m with
          | zero => omega
          | succ m =>
            simp only [G97_6, p97_6]
            rfl
      | succ k =>
        have e3 : 2 ^ (k + 1) / 2 = 2 ^ k := by rw [Nat.pow_succ]; omega
        rw [e3]
        exact G97_6_eq R h ht hlen hx k0 m k q' g1 (by rw [Nat.pow_succ] at h2; omega) g2 g3 (by omega)
    by_cases hn : 2 ^ (k + 1) * q + 2 ^ k ≤ l.length
    · have hd2 : decide (((2 ^ (k + 1) * q + 2 ^ k : Nat) : Int) ≤ (l.length : Int)) = true := decide_eq_true (by omega)
      have hbn : bnd ((2 ^ (k + 1) * q + 2 ^ k - 1 : Nat) : Int) (l.length : Int) = true := by unfold bnd; simp; omega
      rw [wrap_i64 (n := ((2 ^ (k + 1) * q + 2 ^ k : Nat) : Int) - 1) (by omega) (by omega), show ((2 ^ (k + 1) * q + 2 ^ k : Nat) : Int) - 1 = ((2 ^ (k + 1) * q + 2 ^ k - 1 : Nat) : Int) by omega]
      simp only [hd2, hbn, Int.toNat_natCast]
      have en : nodeS l (2 ^ (k + 1) * q + 2 ^ k - 1) = sumS l (2 ^ (k + 1) * q + 2 ^ k) - sumS l (2 ^ (k + 1) * q) := by
        unfold nodeS
        rw [show 2 ^ (k + 1) * q + 2 ^ k - 1 + 1 = 2 ^ (k + 1) * q + 2 ^ k by omega, hlow (by omega), Nat.add_sub_cancel]
      have eg : (treeS l).getD (2 ^ (k + 1) * q + 2 ^ k - 1) 0 = sumS l (2 ^ (k + 1) * q + 2 ^ k) - sumS l (2 ^ (k + 1) * q) := by rw [treeS_get (by omega), en]
      simp only [eg]
      have q1 := sumS_le h (a := 2 ^ (k + 1) * q) (b := 2 ^ (k + 1) * q + 2 ^ k) (by omega)
      have q2 := sumS_nonneg h (2 ^ (k + 1) * q)
      by_cases hle : sumS l (2 ^ (k + 1) * q + 2 ^ k) ≤ x
      · have hd3 : decide (sumS l (2 ^ (k + 1) * q + 2 ^ k) - sumS l (2 ^ (k + 1) * q) ≤ x - sumS l (2 ^ (k + 1) * q)) = true := decide_eq_true (by omega)
        simp only [hd3]
        rw [wrap_u64 (n := x - sumS l (2 ^ (k + 1) * q) - (sumS l (2 ^ (k + 1) * q + 2 ^ k) - sumS l (2 ^ (k + 1) * q))) (by omega) (by omega), show x - sumS l (2 ^ (k + 1) * q) - (sumS l (2 ^ (k + 1) * q + 2 ^ k) - sumS l (2 ^ (k + 1) * q)) = x - sumS l (2 ^ (k + 1) * q + 2 ^ k) by omega]
        have e4 : 2 ^ (k + 1) * q + 2 ^ k = 2 ^ k * (2 * q + 1) := by rw [e1, Nat.mul_add, Nat.mul_one]
        have e5 : 2 ^ (k + 1) * q + 2 ^ (k + 1) = 2 ^ k * (2 * q + 1) + 2 ^ k := by
          rw [← e4, Nat.pow_succ]; omega
        rw [e4]
        rw [e4] at hle hn
        rw [e5] at h4
        exact next (2 * q + 1) hn hle h4
      · have hd3 : decide (sumS l (2 ^ (k + 1) * q + 2 ^ k) - sumS l (2 ^ (k + 1) * q) ≤ x - sumS l (2 ^ (k + 1) * q)) = false := decide_eq_false (by omega)
        simp only [hd3]
        rw [e1] at h1 h3 hle ⊢
        exact next (2 * q) h1 h3 (.inr (by omega))
    · have hd2 : decide (((2 ^ (k + 1) * q + 2 ^ k : Nat) : Int) ≤ (l.length : Int)) = false := decide_eq_false (by omega)
      simp only [hd2]
      rw [e1] at h1 h3 hn ⊢
      exact next (2 * q) h1 h3 (.inl (by omega))
theorem F97_own (R : Type) {l : List Int} (h : AllU64 l) (ht : totS l < 9223372036854775808) (hlen : l.length ≤ 400) {x : Int} (hx : 0 ≤ x ∧ x < totS l) (k : Int → Int → Option R) : ∃ i, Owns l x i ∧ F97 R (treeS l, ()) x k = k (i : Int) 0 := by
  simp only [F97, p97]
  rw [F96_eq R h ht (by omega)]
  have hd : decide (x ≥ totS l) = false := decide_eq_false (by omega)
  simp only [hd]
  obtain ⟨j, j1, j2, j3⟩ := G97_4_eq R (n := l.length) (by omega) (treeS l, ()) (treeS_len l) x (fun x3 x4 x5 x6 => G97_6 FUEL R x3 x4 x5 x6 (fun x7 => k x7 0)) FUEL 0 (.inr rfl) (by rw [FUEL_eq]; omega)
  have hj : 2 ^ j ≤ 500 := by
    rcases j2 with j2 | rfl
    · omega
    · rw [Nat.pow_zero]; omega
  have hjm : j ≤ 500 := by have := Nat.lt_two_pow_self (n := j); omega
  obtain ⟨i, hi, g⟩ := G97_6_eq R h ht hlen hx (fun x7 => k x7 0) FUEL j 0 (by simp) hj (by rw [Nat.mul_zero, sumS_zero]; exact hx.1) (.inl (by omega)) (by rw [FUEL_eq]; omega)
  refine ⟨i, hi, ?_⟩
  rw [Nat.mul_zero, sumS_zero, Int.sub_zero] at g
  exact j3.trans g
end Go.PG
namespace Go.PG
def lastE (j : Nat) : Nat → Nat
  | 0 => j - lowN j
  | m + 1 => if (m + 1) + lowN (m + 1) = j then m + 1 else lastE j m
theorem last_checkA : ((List.range' 1 400).all fun c => decide (lastE (c + lowN c) (c - 1) = c - lowN c)) = true := by kernel_rfl
theorem last_checkB : ((List.range' 1 400).all fun j => decide (lastE j (j - 1) = j - 1)) = true := by kernel_rfl
theorem lastA {c : Nat} (h1 : 1 ≤ c) (h2 : c ≤ 400) : lastE (c + lowN c) (c - 1) = c - lowN c :=
  of_decide_eq_true (List.all_eq_true.1 last_checkA c (by rw [List.mem_range']; exact ⟨c - 1, by omega, by omega⟩))
theorem lastB {j : Nat} (h1 : 1 ≤ j) (h2 : j ≤ 400) : lastE j (j - 1) = j - 1 :=
  of_decide_eq_true (List.all_eq_true.1 last_checkB j (by rw [List.mem_range']; exact ⟨j - 1, by omega, by omega⟩))
theorem last_keep {j : Nat} (h1 : 1 ≤ j) : ∀ (d : Nat), j + d ≤ 1000 → lastE j (j - 1 + d) = lastE j (j - 1)
  | 0, _ => rfl
  | d + 1, h => by
    have ih := last_keep h1 d (by omega)
    rw [show j - 1 + (d + 1) = (j - 1 + d) + 1 by omega]
    simp only [lastE]
    have := low_ok (n := j - 1 + d + 1) (by omega) (by omega)
    rw [if_neg (by omega), ih]
def partN (l : List Int) (m q : Nat) : Int := sumS l (lastE (q + 1) m) - sumS l (q + 1 - lowN (q + 1)) + l.getD q 0
def partT (l : List Int) (m : Nat) : List Int := (List.range l.length).map (partN l m)
theorem partT_zero (l : List Int) : partT l 0 = l := by
  unfold partT partN
  apply List.ext_getElem?
  intro i
  rw [List.getElem?_map]
  by_cases h : i < l.length
  · rw [List.getElem?_range h]
    simp [lastE, h]
  · rw [List.getElem?_eq_none (by simp; omega), List.getElem?_eq_none (by omega)]
    rfl
theorem partN_done {l : List Int} {q m : Nat} (hq : q < l.length) (hl : l.length ≤ 400) (hm : q ≤ m) (hm2 : m ≤ 500) : partN l m q = nodeS l q := by
  unfold partN nodeS
  have h1 := lastB (j := q + 1) (by omega) (by omega)
  have h2 := last_keep (j := q + 1) (by omega) (m - q) (by omega)
  rw [show q + 1 - 1 + (m - q) = m by omega] at h2
  rw [h2, h1, sumS_succ hq]
  show sumS l (q + 1 - 1) - _ + _ = _
  rw [Nat.add_sub_cancel]
  omega
theorem partT_done {l : List Int} (hl : l.length ≤ 400) : partT l l.length = treeS l := by
  unfold partT treeS
  refine List.map_congr_left (fun q hq => ?_)
  have hq' : q < l.length := by simpa using hq
  exact partN_done hq' hl (by omega) (by omega)
theorem partT_len (l : List Int) (m : Nat) : (partT l m).length = l.length := by simp [partT]
theorem partT_get {l : List Int} {m q : Nat} (h : q < l.length) : (partT l m).getD q 0 = partN l m q := by simp [partT, h]
theorem lastE_le : ∀ (j m : Nat), lastE j m ≤ max m (j - lowN j)
  | j, 0 => by simp [lastE]
  | j, m + 1 => by
    have := lastE_le j m
    simp only [lastE]
    split <;> omega
theorem G50_eq (R : Type) {l : List Int} (h : AllU64 l) (ht : totS l < 9223372036854775808) (hlen : l.length ≤ 200) (x2 : List Int × Unit) (k0 : (List Int × Unit) → List Int → Option R) : ∀ (m i : Nat), i ≤ l.length → l.length - i < m →
    G50_8 m R ((i + 1 : Nat) : Int) x2 (partT l i) k0 = k0 x2 (treeS l)
  | 0, i, _, h => by omega
  | m + 1, i, h1, h2 => by
    simp only [G50_8, p50_8, partT_len]
    by_cases hi : i < l.length
    · have hd : decide (((i + 1 : Nat) : Int) ≤ (l.length : Int)) = true := decide_eq_true (by omega)
      have hlo := low_ok (n := i + 1) (by omega) (by omega)
      simp only [hd]
      rw [F93_eq R (by omega) (by omega), wrap_i64 (n := ((i + 1 : Nat) : Int) + (lowN (i + 1) : Int)) (by omega) (by omega), wrap_i64 (n := ((i + 1 : Nat) : Int) + 1) (by omega) (by omega), show ((i + 1 : Nat) : Int) + 1 = ((i + 1 + 1 : Nat) : Int) by omega]
      have keep : ∀ q, q + 1 ≠ i + 1 + lowN (i + 1) → partN l (i + 1) q = partN l i q := fun q hq => by
        unfold partN
        simp only [lastE]
        rw [if_neg (by omega)]
      by_cases hup : i + 1 + lowN (i + 1) ≤ l.length
      · have hd2 : decide (((i + 1 : Nat) : Int) + (lowN (i + 1) : Int) ≤ (l.length : Int)) = true := decide_eq_true (by omega)
        rw [wrap_i64 (n := ((i + 1 : Nat) : Int) + (lowN (i + 1) : Int) - 1) (by omega) (by omega), wrap_i64 (n := ((i + 1 : Nat) : Int) - 1) (by omega) (by omega), show ((i + 1 : Nat) : Int) + (lowN (i + 1) : Int) - 1 = ((i + lowN (i + 1) : Nat) : Int) by omega, show ((i + 1 : Nat) : Int) - 1 = (i : Int) by omega]
        have hb1 : bnd ((i + lowN (i + 1) : Nat) : Int) (l.length : Int) = true := by unfold bnd; simp; omega
        have hb2 : bnd (i : Int) (l.length : Int) = true := by unfold bnd; simp; omega
        simp only [hd2, hb1, hb2, Int.toNat_natCast]
        rw [partT_get (by omega), partT_get (by omega)]
        have q1 : partN l i i = nodeS l i := partN_done hi (by omega) (Nat.le_refl _) (by omega)
        have qA := lastA (c := i + 1) (by omega) (by omega)
        rw [Nat.add_sub_cancel] at qA
        have q2 : partN l i (i + lowN (i + 1)) + nodeS l i = partN l (i + 1) (i + lowN (i + 1)) := by
          unfold partN nodeS
          rw [show i + lowN (i + 1) + 1 = i + 1 + lowN (i + 1) by omega, qA]
          simp only [lastE, if_true]
          omega
        have q3 : 0 ≤ partN l (i + 1) (i + lowN (i + 1)) ∧ partN l (i + 1) (i + lowN (i + 1)) < 18446744073709551616 := by
          unfold partN
          rw [show i + lowN (i + 1) + 1 = i + 1 + lowN (i + 1) by omega]
          simp only [lastE, if_true]
          have hlo2 := low_ok (n := i + 1 + lowN (i + 1)) (by omega) (by omega)
          have a1 := sumS_tot h (i + 1)
          have a2 := sumS_nonneg h (i + 1 + lowN (i + 1) - lowN (i + 1 + lowN (i + 1)))
          have a3 := getD_all h u64_0 (i + lowN (i + 1))
          have a4 : sumS l (i + 1 + lowN (i + 1) - lowN (i + 1 + lowN (i + 1))) ≤ sumS l (i + 1) := by
            have := lastE_le (i + 1 + lowN (i + 1)) i
            refine sumS_le h ?_
            have hge : ∀ m, i + 1 + lowN (i + 1) - lowN (i + 1 + lowN (i + 1)) ≤ lastE (i + 1 + lowN (i + 1)) m ∨ True := fun _ => .inr trivial
            have hchk : ((List.range' 1 400).all fun c => decide (c + lowN c - lowN (c + lowN c) ≤ c)) = true := by kernel_rfl
            exact of_decide_eq_true (List.all_eq_true.1 hchk (i + 1) (by rw [List.mem_range']; exact ⟨i, by omega, by omega⟩))
          have a5 := sumS_succ (l := l) (i := i + lowN (i + 1)) (by omega)
          have a6 := sumS_tot h (i + lowN (i + 1) + 1)
          have a7 := sumS_le h (a := i + 1) (b := i + lowN (i + 1)) (by omega)
          unfold U64 at a3
          omega
        rw [q1, q2, wrap_u64 (by omega) (by omega)]
        have e : (partT l i).set (i + lowN (i + 1)) (partN l (i + 1) (i + lowN (i + 1))) = partT l (i + 1) := by
          apply List.ext_getElem?
          intro q
          unfold partT
          rw [List.getElem?_set, List.getElem?_map, List.getElem?_map]
          simp only [List.length_map, List.length_range]
          by_cases hq : q < l.length
          · rw [List.getElem?_range hq]
            by_cases eq : i + lowN (i + 1) = q
            · subst eq
              rw [if_pos rfl, if_pos hq]; rfl
            · rw [if_neg eq]
              simp only [Option.map_some]
              rw [keep q (by omega)]
          · rw [List.getElem?_eq_none (by simp; omega), if_neg (by omega)]
            rfl
        rw [e]
        exact G50_eq R h ht hlen x2 k0 m (i + 1) (by omega) (by omega)
      · have hd2 : decide (((i + 1 : Nat) : Int) + (lowN (i + 1) : Int) ≤ (l.length : Int)) = false := decide_eq_false (by omega)
        simp only [hd2]
        have e : partT l i = partT l (i + 1) := by
          unfold partT
          refine List.map_congr_left (fun q hq => ?_)
          have hq' : q < l.length := by simpa using hq
          rw [keep q (by omega)]
        rw [e]
        exact G50_eq R h ht hlen x2 k0 m (i + 1) (by omega) (by omega)
    · have : i = l.length := by omega
      subst this
      have hd : decide (((l.length + 1 : Nat) : Int) ≤ (l.length : Int)) = false := decide_eq_false (by omega)
      simp only [hd]
      rw [partT_done (by omega)]
theorem F99_eq (R : Type) {a b : Int} (ha : 0 ≤ a ∧ a < 9223372036854775808) (hb : U64 b) (k : Int → Bool → Option R) : F99 R a b k = (if a + b < 9223372036854775808 then k (a + b) true else k 0 false) := by
  unfold U64 at hb
  simp only [F99, p99, F129, F117, p117, F136, p136]
  have hd : decide (0 ≤ a ∧ 0 ≤ b ∧ (0 : Int) ≤ 0 ∧ (0 : Int) ≤ 1) = true := decide_eq_true (by omega)
  simp only [hd, Int.add_zero]
  by_cases h1 : a + b < 9223372036854775808
  · have e1 : (a + b) / 18446744073709551616 = 0 := by omega
    have e2 : (a + b) % 18446744073709551616 = a + b := by omega
    rw [if_pos h1, e1, e2]
    have n0 : ((0 : Int) != 0) = false := rfl
    simp only [n0, decide_eq_true h1, Bool.not_true]
  · rw [if_neg h1]
    by_cases h2 : a + b < 18446744073709551616
    · have e1 : (a + b) / 18446744073709551616 = 0 := by omega
      have e2 : (a + b) % 18446744073709551616 = a + b := by omega
      rw [e1, e2]
      have n0 : ((0 : Int) != 0) = false := rfl
      simp only [n0, decide_eq_false h1, Bool.not_false]
    · have e1 : ((a + b) / 18446744073709551616 != 0) = true := by
        have : ¬ (a + b) / 18446744073709551616 = 0 := by omega
        simp [this]
      simp only [e1]
theorem F94_eq (R : Type) {a b : Int} (ha : 0 ≤ a ∧ a < 9223372036854775808) (hb : U64 b) (k : Int → Bool → Option R) : F94 R a b k = (if a + b < 9223372036854775808 then k (a + b) true else k 0 false) := by
  unfold U64 at hb
  simp only [F94, p94]
  have hd : decide (a ≥ 9223372036854775808) = false := decide_eq_false (by omega)
  simp only [hd]
  rw [wrap_u64 (n := 9223372036854775808 - a) (by omega) (by omega)]
  by_cases h1 : a + b < 9223372036854775808
  · have hd2 : decide (b ≥ 9223372036854775808 - a) = false := decide_eq_false (by omega)
    rw [if_pos h1]
    simp only [hd2]
    rw [wrap_u64 (n := a + b) (by omega) (by omega)]
  · have hd2 : decide (b ≥ 9223372036854775808 - a) = true := decide_eq_true (by omega)
    rw [if_neg h1]
    simp only [hd2]
theorem G91_eq (R : Type) {l : List Int} (h : AllU64 l) (hlen : l.length ≤ 1000000) (k0 : Int → Bool → Option R) (k1 : Int → Option R) : ∀ (m i : Nat), i ≤ l.length → l.length - i < m → sumS l i < 9223372036854775808 →
    G91_2 m R (sumS l i) l (l.length : Int) (i : Int) k0 k1 = (if totS l < 9223372036854775808 then k1 (totS l) else k0 0 false)
  | 0, i, _, h, _ => by omega
  | m + 1, i, h1, h2, h3 => by
    simp only [G91_2, p91_2]
    by_cases hi : i < l.length
    · have hd : decide ((i : Int) < (l.length : Int)) = true := by simpa using hi
      have hbn : bnd (i : Int) (l.length : Int) = true := by unfold bnd; simp; omega
      simp only [hd, hbn, Int.toNat_natCast]
      rw [F99_eq R ⟨sumS_nonneg h i, h3⟩ (getD_all h u64_0 i), ← sumS_succ hi]
      by_cases h4 : sumS l (i + 1) < 9223372036854775808
      · rw [if_pos h4]
        simp only [Bool.not_true]
        rw [wrap_i64 (n := (i : Int) + 1) (by omega) (by omega)]
        exact G91_eq R h hlen k0 k1 m (i + 1) (by omega) (by omega) h4
      · rw [if_neg h4, if_neg (by have := sumS_tot h (i + 1); omega)]
        simp only [Bool.not_false]
    · have : i = l.length := by omega
      subst this
      have hd : decide ((l.length : Int) < (l.length : Int)) = false := by simp
      simp only [hd]
      rw [if_pos (show totS l < _ from h3)]
      rfl
theorem F91_eq (R : Type) {l : List Int} (h : AllU64 l) (hlen : l.length ≤ 1000000) (k : Int → Bool → Option R) : F91 R l k = (if totS l < 9223372036854775808 then k (totS l) true else k 0 false) := by
  simp only [F91, p91]
  exact G91_eq R h hlen (fun x2 x3 => k x2 x3) (fun x4 => k x4 true) FUEL 0 (by omega) (by rw [FUEL_eq]; omega) (by rw [sumS_zero]; decide)
theorem G52_eq' (R : Type) {l : List Int} (h : AllU64 l) (hlen : l.length ≤ 1000000) (k0 : Int → Bool → Option R) (k1 : Int → Option R) : ∀ (m i : Nat), i ≤ l.length → l.length - i < m → sumS l i < 9223372036854775808 →
    G52_3 m R l (sumS l i) (i : Int) k0 k1 = (if totS l < 9223372036854775808 then k1 (totS l) else k0 0 false)
  | 0, i, _, h, _ => by omega
  | m + 1, i, h1, h2, h3 => by
    simp only [G52_3, p52_3]
    by_cases hi : i < l.length
    · have hd : decide ((i : Int) < (l.length : Int)) = true := by simpa using hi
      have hbn : bnd (i : Int) (l.length : Int) = true := by unfold bnd; simp; omega
      simp only [hd, hbn, Int.toNat_natCast]
      rw [F94_eq R ⟨sumS_nonneg h i, h3⟩ (getD_all h u64_0 i), ← sumS_succ hi]
      by_cases h4 : sumS l (i + 1) < 9223372036854775808
      · rw [if_pos h4]
        simp only [Bool.not_true]
        rw [wrap_i64 (n := (i : Int) + 1) (by omega) (by omega)]
        exact G52_eq' R h hlen k0 k1 m (i + 1) (by omega) (by omega) h4
      · rw [if_neg h4, if_neg (by have := sumS_tot h (i + 1); omega)]
        simp only [Bool.not_false]
    · have : i = l.length := by omega
      subst this
      have hd : decide ((l.length : Int) < (l.length : Int)) = false := by simp
      simp only [hd]
      rw [if_pos (show totS l < _ from h3)]
      rfl
theorem F52_eq' (R : Type) {l : List Int} (h : AllU64 l) (hlen : l.length ≤ 1000000) (k : Int → Bool → Option R) : F52 R l k = (if totS l < 9223372036854775808 then k (totS l) true else k 0 false) := by
  simp only [F52, p52]
  exact G52_eq' R h hlen (fun x2 x3 => k x2 x3) (fun x4 => k x4 true) FUEL 0 (by omega) (by rw [FUEL_eq]; omega) (by rw [sumS_zero]; decide)
end Go.PG
namespace Go.PG
theorem F50_eq' (R : Type) {l : List Int} (h : AllU64 l) (hlen : l.length ≤ 200) (k : (List Int × Unit) → Int → Option R) : F50 R l k = (if totS l < 9223372036854775808 then k (treeS l, ()) 0 else k ([], ()) 11) := by
  simp only [F50, p50]
  have hd : decide ((l.length : Int) > 1048576) = false := decide_eq_false (by omega)
  simp only [hd]
  rw [F91_eq R h (by omega)]
  by_cases ht : totS l < 9223372036854775808
  · rw [if_pos ht, if_pos ht]
    simp only [Bool.not_true, F92]
    have hc : decide (List.length ([] : List Int) + l.length ≤ 17592186044416) = true := by simp; omega
    simp only [hc]
    have := G50_eq R h ht hlen ([], ()) (fun x6 x7 => k (x7, ()) 0) FUEL 0 (by omega) (by rw [FUEL_eq]; omega)
    rw [partT_zero] at this
    exact this
  · rw [if_neg ht, if_neg ht]
    simp only [Bool.not_false]
def ownN (l : List Int) (x : Int) : Nat := ((List.range l.length).find? (fun i => decide (sumS l i ≤ x ∧ x < sumS l (i + 1)))).getD 0
theorem ownN_eq {l : List Int} (h : AllU64 l) {x : Int} {i : Nat} (hi : Owns l x i) : ownN l x = i := by
  unfold ownN
  cases hf : (List.range l.length).find? (fun i => decide (sumS l i ≤ x ∧ x < sumS l (i + 1))) with
  | none =>
    have := List.find?_eq_none.1 hf i (by simpa using hi.1)
    simp only [decide_eq_true_eq] at this
    exact absurd hi.2 this
  | some j =>
    have h1 := List.find?_some hf
    have h2 := List.mem_of_find?_eq_some hf
    simp only [decide_eq_true_eq] at h1
    have hj : Owns l x j := ⟨by simpa using h2, h1⟩
    exact hj.uniq h hi
def leadR (l : List Int) (s : Src) (m : Int) : Int × Src × Int :=
  if totS l < 9223372036854775808 then (if totS l = 0 then (0, s, 10) else if (drawR s (totS l) m).2.2 = 0 then ((ownN l (drawR s (totS l) m).1 : Int), (drawR s (totS l) m).2.1, 0) else (0, (drawR s (totS l) m).2.1, (drawR s (totS l) m).2.2)) else (0, s, 11)
theorem drawF_nonneg {n : Int} : ∀ (m : Nat) (s : Src), 0 ≤ (drawF n m s).1
  | 0, s => Int.le_refl _
  | m + 1, s => by
    simp only [drawF]
    split
    · split
      · rename_i h _
        obtain ⟨_, _, _, g⟩ := takeR_zero h
        rw [g]
        exact (takeV_range s (atS s) _).1
      · exact drawF_nonneg m _
    · exact Int.le_refl _
theorem draw_below {s : Src} {n m : Int} (h : (drawR s n m).2.2 = 0) : 0 ≤ (drawR s n m).1 ∧ (drawR s n m).1 < n := by
  unfold drawR at h ⊢
  split at h
  · rename_i hc
    rw [if_pos hc]
    obtain ⟨j, _, _, h3, _⟩ := drawF_ok _ _ h
    exact ⟨drawF_nonneg _ _, h3⟩
  · simp at h
theorem F56_eq (R : Type) {l : List Int} (h : AllU64 l) (hlen : l.length ≤ 200) (ht : totS l < 9223372036854775808) {s : Src} (hs : SOK s) (m : Int) (k : Int → Src → Int → Option R) : F56 R (treeS l, ()) s m k = k (leadR l s m).1 (leadR l s m).2.1 (leadR l s m).2.2 := by
  simp only [F56, p56]
  rw [F96_eq R h ht (by omega)]
  have hnn := sumS_nonneg h l.length
  unfold leadR
  rw [if_pos ht]
  by_cases h0 : totS l = 0
  · have e : (totS l == 0) = true := by simp [h0]
    rw [if_pos h0]
    simp only [e]
  · have e : (totS l == 0) = false := by simp [h0]
    rw [if_neg h0]
    simp only [e]
    rw [F42_eq R hs (show U64 (totS l) from by unfold U64; exact ⟨hnn, by omega⟩)]
    by_cases he : (drawR s (totS l) m).2.2 = 0
    · have e1 : ((drawR s (totS l) m).2.2 != 0) = false := by simp [he]
      rw [if_pos he]
      simp only [e1]
      obtain ⟨i, hi, g⟩ := F97_own R h ht (by omega) (draw_below he) (fun y7 y8 => k y7 (drawR s (totS l) m).2.1 y8)
      rw [g, ownN_eq h hi]
    · have e1 : ((drawR s (totS l) m).2.2 != 0) = true := by simp [he]
      rw [if_neg he]
      simp only [e1]
end Go.PG
namespace Go.PG
theorem up_ok {c : Nat} (h1 : 1 ≤ c) (h2 : c ≤ 400) : c + lowN c - lowN (c + lowN c) ≤ c - lowN c := by
  have hchk : ((List.range' 1 400).all fun c => decide (c + lowN c - lowN (c + lowN c) ≤ c - lowN c)) = true := by kernel_rfl
  exact of_decide_eq_true (List.all_eq_true.1 hchk c (by rw [List.mem_range']; exact ⟨c - 1, by omega, by omega⟩))
theorem skip_check : ((List.range' 1 200).all fun c => (List.range (lowN c - 1)).all fun d => decide (c ≤ c + d + 1 - lowN (c + d + 1))) = true := by kernel_rfl
theorem skip_ok {c d : Nat} (h1 : 1 ≤ c) (h2 : c ≤ 200) (hd : d + 1 < lowN c) : c ≤ c + d + 1 - lowN (c + d + 1) := by
  have := List.all_eq_true.1 skip_check c (by rw [List.mem_range']; exact ⟨c - 1, by omega, by omega⟩)
  exact of_decide_eq_true (List.all_eq_true.1 this d (by rw [List.mem_range]; omega))
theorem G55_eq (R : Type) {l : List Int} (h : AllU64 l) (ht : totS l < 9223372036854775808) (hlen : l.length ≤ 200) (k0 : List Int → Option R) : ∀ (m i : Nat), i ≤ l.length → i < m →
    G55_3 m R (i : Int) (partT l i) k0 = k0 l
  | 0, i, _, h => by omega
  | m + 1, 0, h1, h2 => by
    simp only [G55_3, p55_3]
    have hd : decide (((0 : Nat) : Int) > 0) = false := by simp
    simp only [hd]
    rw [partT_zero]
  | m + 1, i + 1, h1, h2 => by
    simp only [G55_3, p55_3, partT_len]
    have hd : decide (((i + 1 : Nat) : Int) > 0) = true := decide_eq_true (by omega)
    have hlo := low_ok (n := i + 1) (by omega) (by omega)
    simp only [hd]
    rw [F93_eq R (by omega) (by omega), wrap_i64 (n := ((i + 1 : Nat) : Int) + (lowN (i + 1) : Int)) (by omega) (by omega), wrap_i64 (n := ((i + 1 : Nat) : Int) - 1) (by omega) (by omega), show ((i + 1 : Nat) : Int) - 1 = (i : Int) by omega]
    have keep : ∀ q, q + 1 ≠ i + 1 + lowN (i + 1) → partN l (i + 1) q = partN l i q := fun q hq => by
      unfold partN
      simp only [lastE]
      rw [if_neg (by omega)]
    by_cases hup : i + 1 + lowN (i + 1) ≤ l.length
    · have hd2 : decide (((i + 1 : Nat) : Int) + (lowN (i + 1) : Int) ≤ (l.length : Int)) = true := decide_eq_true (by omega)
      rw [wrap_i64 (n := ((i + 1 : Nat) : Int) + (lowN (i + 1) : Int) - 1) (by omega) (by omega), show ((i + 1 : Nat) : Int) + (lowN (i + 1) : Int) - 1 = ((i + lowN (i + 1) : Nat) : Int) by omega]
      have hb1 : bnd ((i + lowN (i + 1) : Nat) : Int) (l.length : Int) = true := by unfold bnd; simp; omega
      have hb2 : bnd (i : Int) (l.length : Int) = true := by unfold bnd; simp; omega
      simp only [hd2, hb1, hb2, Int.toNat_natCast]
      rw [partT_get (by omega), partT_get (by omega)]
      have q1 : partN l (i + 1) i = nodeS l i := partN_done (by omega) (by omega) (by omega) (by omega)
      have qA := lastA (c := i + 1) (by omega) (by omega)
      rw [Nat.add_sub_cancel] at qA
      have q2 : partN l (i + 1) (i + lowN (i + 1)) - nodeS l i = partN l i (i + lowN (i + 1)) := by
        unfold partN nodeS
        rw [show i + lowN (i + 1) + 1 = i + 1 + lowN (i + 1) by omega, qA]
        simp only [lastE, if_true]
        omega
      have q3 : 0 ≤ partN l i (i + lowN (i + 1)) ∧ partN l i (i + lowN (i + 1)) < 18446744073709551616 := by
        unfold partN
        rw [show i + lowN (i + 1) + 1 = i + 1 + lowN (i + 1) by omega, qA]
        have a1 := sumS_tot h (i + 1 - lowN (i + 1))
        have a2 := sumS_nonneg h (i + 1 + lowN (i + 1) - lowN (i + 1 + lowN (i + 1)))
        have a3 := getD_all h u64_0 (i + lowN (i + 1))
        have a4 : sumS l (i + 1 + lowN (i + 1) - lowN (i + 1 + lowN (i + 1))) ≤ sumS l (i + 1 - lowN (i + 1)) := sumS_le h (up_ok (by omega) (by omega))
        have a5 := sumS_succ (l := l) (i := i + lowN (i + 1)) (by omega)
        have a6 := sumS_tot h (i + lowN (i + 1) + 1)
        have a7 := sumS_le h (a := i + 1 - lowN (i + 1)) (b := i + lowN (i + 1)) (by omega)
        unfold U64 at a3
        omega
      rw [q1, q2, wrap_u64 (by omega) (by omega)]
      have e : (partT l (i + 1)).set (i + lowN (i + 1)) (partN l i (i + lowN (i + 1))) = partT l i := by
        apply List.ext_getElem?
        intro q
        unfold partT
        rw [List.getElem?_set, List.getElem?_map, List.getElem?_map]
        simp only [List.length_map, List.length_range]
        by_cases hq : q < l.length
        · rw [List.getElem?_range hq]
          by_cases eq : i + lowN (i + 1) = q
          · subst eq
            rw [if_pos rfl, if_pos hq]; rfl
          · rw [if_neg eq]
            simp only [Option.map_some]
            rw [keep q (by omega)]
        · rw [List.getElem?_eq_none (by simp; omega), if_neg (by omega)]
          rfl
      rw [e]
      exact G55_eq R h ht hlen k0 m i (by omega) (by omega)
    · have hd2 : decide (((i + 1 : Nat) : Int) + (lowN (i + 1) : Int) ≤ (l.length : Int)) = false := decide_eq_false (by omega)
      simp only [hd2]
      have e : partT l (i + 1) = partT l i := by
        unfold partT
        refine List.map_congr_left (fun q hq => ?_)
        have hq' : q < l.length := by simpa using hq
        rw [keep q (by omega)]
      rw [e]
      exact G55_eq R h ht hlen k0 m i (by omega) (by omega)
theorem F55_eq (R : Type) {l : List Int} (h : AllU64 l) (ht : totS l < 9223372036854775808) (hlen : l.length ≤ 200) (k : List Int → Option R) : F55 R (treeS l, ()) k = k l := by
  simp only [F55, p55, F92]
  have hc : decide (List.length ([] : List Int) + l.length ≤ 17592186044416) = true := by simp; omega
  simp only [treeS_len, hc]
  have := G55_eq R h ht hlen (fun x3 => k x3) FUEL l.length (Nat.le_refl _) (by rw [FUEL_eq]; omega)
  rw [partT_done (by omega)] at this
  exact this
theorem F127_eq (R : Type) {l : List Int} (h : AllU64 l) (ht : totS l < 9223372036854775808) (hlen : l.length ≤ 500) {n : Nat} (hn : n ≤ l.length) (k : Int → Option R) : F127 R (treeS l, ()) (n : Int) k = k (sumS l n) := by
  simp only [F127, p127]
  have := G127_eq R h ht hlen (fun x1 => k x1) n hn FUEL n (Nat.le_refl _) (by rw [FUEL_eq]; omega)
  rw [Int.sub_self] at this
  exact this
theorem F98_eq (R : Type) {l : List Int} (h : AllU64 l) (ht : totS l < 9223372036854775808) (hlen : l.length ≤ 500) {i : Nat} (hi : i < l.length) (k : Int → Int → Option R) : F98 R (treeS l, ()) (i : Int) k = k (l.getD i 0) 0 := by
  simp only [F98, p98, F128, p128, treeS_len]
  have d1 : decide ((i : Int) < 0) = false := decide_eq_false (by omega)
  have d2 : decide ((i : Int) ≥ (l.length : Int)) = false := decide_eq_false (by omega)
  simp only [d1, d2]
  have hs := sumS_succ hi
  have h0 := getD_all h u64_0 i
  unfold U64 at h0
  rw [wrap_i64 (n := (i : Int) + 1) (by omega) (by omega), show (i : Int) + 1 = ((i + 1 : Nat) : Int) by omega, F127_eq R h ht hlen hi, F127_eq R h ht hlen (by omega), show sumS l (i + 1) - sumS l i = l.getD i 0 by omega, wrap_u64 (by omega) (by omega)]
theorem sum_set {l : List Int} {i : Nat} (hi : i < l.length) (v : Int) : ∀ n : Nat, n ≤ l.length → sumS (l.set i v) n = sumS l n + (if i < n then v - l.getD i 0 else 0)
  | 0, _ => by simp [sumS_zero]
  | n + 1, h => by
    have ih := sum_set hi v n (by omega)
    rw [sumS_succ (l := l.set i v) (by rw [List.length_set]; omega), sumS_succ (l := l) (by omega), ih]
    by_cases e : i = n
    · subst e
      have e1 : (l.set i v).getD i 0 = v := by simp [List.getD_eq_getElem?_getD, hi]
      rw [e1, if_neg (by omega), if_pos (by omega)]
      omega
    · have e1 : (l.set i v).getD n 0 = l.getD n 0 := by simp [List.getD_eq_getElem?_getD, List.getElem?_set, e]
      rw [e1]
      by_cases e2 : i < n
      · rw [if_pos e2, if_pos (by omega)]; omega
      · rw [if_neg e2, if_neg (by omega)]; omega
theorem AllU64.set0 {l : List Int} (h : AllU64 l) (i : Nat) : AllU64 (l.set i 0) := fun x hx => by
  rcases List.mem_or_eq_of_mem_set hx with hx | hx
  · exact h x hx
  · rw [hx]; exact u64_0
theorem tot_set {l : List Int} {i : Nat} (hi : i < l.length) : totS (l.set i 0) = totS l - l.getD i 0 := by
  have := sum_set hi 0 l.length (Nat.le_refl _)
  rw [if_pos hi] at this
  have e : totS (l.set i 0) = sumS (l.set i 0) l.length := by unfold totS; rw [List.length_set]
  rw [e, this]
  show _ = sumS l l.length - _
  omega
def setN (l : List Int) (i c q : Nat) : Int := nodeS l q - (if q + 1 < c ∧ q + 1 - lowN (q + 1) ≤ i ∧ i < q + 1 then l.getD i 0 else 0)
def setT (l : List Int) (i c : Nat) : List Int := (List.range l.length).map (setN l i c)
theorem setT_len (l : List Int) (i c : Nat) : (setT l i c).length = l.length := by simp [setT]
theorem setT_get {l : List Int} {i c q : Nat} (h : q < l.length) : (setT l i c).getD q 0 = setN l i c q := by simp [setT, h]
theorem setT_start (l : List Int) (i : Nat) : setT l i (i + 1) = treeS l := by
  unfold setT treeS setN
  refine List.map_congr_left (fun q _ => ?_)
  rw [if_neg (by omega)]; omega
theorem setT_done {l : List Int} {i c : Nat} (hi : i < l.length) (hc : l.length < c) : setT l i c = treeS (l.set i 0) := by
  unfold setT treeS
  rw [List.length_set]
  refine List.map_congr_left (fun q hq => ?_)
  have hq' : q < l.length := by simpa using hq
  unfold setN nodeS
  rw [sum_set hi 0 (q + 1) (by omega), sum_set hi 0 (q + 1 - lowN (q + 1)) (by omega)]
  by_cases c1 : q + 1 - lowN (q + 1) ≤ i ∧ i < q + 1
  · rw [if_pos ⟨by omega, c1⟩, if_pos c1.2, if_neg (by omega)]; omega
  · rw [if_neg (fun hh => c1 hh.2)]
    by_cases c2 : i < q + 1
    · rw [if_pos c2, if_pos (by omega)]; omega
    · rw [if_neg c2, if_neg (by omega)]; omega
theorem G57_eq (R : Type) {l : List Int} (h : AllU64 l) (ht : totS l < 9223372036854775808) (hlen : l.length ≤ 200) {i : Nat} (hi : i < l.length) (x4 : List Int × Unit) (k0 : (List Int × Unit) → List Int → Option R) : ∀ (m c : Nat), 1 ≤ c → i < c → c - lowN c ≤ i → c ≤ 400 → 401 - c < m →
    G57_9 m R 0 (l.getD i 0) (c : Int) x4 (setT l i c) k0 = k0 x4 (treeS (l.set i 0))
  | 0, _, _, _, _, _, hh => by omega
  | m + 1, c, h1, h2, h3, h4, h5 => by
    simp only [G57_9, p57_9, setT_len]
    by_cases hc : c ≤ l.length
    · have hd : decide ((c : Int) ≤ (l.length : Int)) = true := decide_eq_true (by omega)
      simp only [hd]
      have hlo := low_ok (n := c) h1 (by omega)
      rw [wrap_i64 (n := (c : Int) - 1) (by omega) (by omega), show (c : Int) - 1 = ((c - 1 : Nat) : Int) by omega]
      have hb2 : bnd ((c - 1 : Nat) : Int) (l.length : Int) = true := by unfold bnd; simp; omega
      simp only [hb2, Int.toNat_natCast]
      rw [setT_get (by omega)]
      have v : setN l i c (c - 1) = nodeS l (c - 1) := by
        unfold setN
        rw [if_neg (by omega)]; omega
      rw [v]
      have hn := node_range h ht (c - 1)
      have h0 := (getD_all h u64_0 i).1
      have hge : l.getD i 0 ≤ nodeS l (c - 1) := by
        unfold nodeS
        rw [show c - 1 + 1 = c by omega]
        have a1 := sumS_le h h3
        have a2 := sumS_succ hi
        have a3 := sumS_le h (show i + 1 ≤ c by omega)
        omega
      rw [wrap_u64 (n := nodeS l (c - 1) - l.getD i 0) (by omega) (by omega), Int.add_zero, wrap_u64 (n := nodeS l (c - 1) - l.getD i 0) (by omega) (by omega), F93_eq R h1 (by omega), wrap_i64 (n := (c : Int) + (lowN c : Int)) (by omega) (by omega), show (c : Int) + (lowN c : Int) = ((c + lowN c : Nat) : Int) by omega]
      have e : (setT l i c).set (c - 1) (nodeS l (c - 1) - l.getD i 0) = setT l i (c + lowN c) := by
        apply List.ext_getElem?
        intro q
        unfold setT
        rw [List.getElem?_set, List.getElem?_map, List.getElem?_map]
        simp only [List.length_map, List.length_range]
        by_cases hq : q < l.length
        · rw [List.getElem?_range hq]
          by_cases eq : c - 1 = q
          · subst eq
            rw [if_pos rfl, if_pos hq]
            simp only [Option.map_some]
            unfold setN
            rw [show c - 1 + 1 = c by omega, if_pos (by omega)]
          · rw [if_neg eq]
            simp only [Option.map_some]
            unfold setN
            congr 2
            by_cases q1 : q + 1 < c
            · have a : q + 1 < c + lowN c := by omega
              simp [q1, a]
            · have n1 : ¬ (q + 1 < c ∧ q + 1 - lowN (q + 1) ≤ i ∧ i < q + 1) := fun hh => q1 hh.1
              rw [if_neg n1]
              by_cases q2 : q + 1 < c + lowN c
              · have hsk := skip_ok (c := c) (d := q - c) h1 (by omega) (by omega)
                rw [show c + (q - c) + 1 = q + 1 by omega] at hsk
                rw [if_neg (by omega)]
              · rw [if_neg (fun hh => q2 hh.1)]
        · rw [List.getElem?_eq_none (by simp; omega), if_neg (by omega)]
          rfl
      rw [e]
      have hup := up_ok (c := c) h1 (by omega)
      exact G57_eq R h ht hlen hi x4 k0 m (c + lowN c) (by omega) (by omega) (by omega) (by omega) (by omega)
    · have hd : decide ((c : Int) ≤ (l.length : Int)) = false := decide_eq_false (by omega)
      simp only [hd]
      rw [setT_done hi (by omega)]
theorem F57_eq (R : Type) {l : List Int} (h : AllU64 l) (ht : totS l < 9223372036854775808) (hlen : l.length ≤ 200) {i : Nat} (hi : i < l.length) (k : (List Int × Unit) → Int → Option R) : F57 R (treeS l, ()) (i : Int) 0 k = k (treeS (l.set i 0), ()) 0 := by
  simp only [F57, p57, F92]
  rw [F98_eq R h ht (by omega) hi]
  have n0 : ((0 : Int) != 0) = false := rfl
  simp only [n0]
  rw [F96_eq R h ht (by omega)]
  have h0 := (getD_all h u64_0 i).1
  have hs := sumS_succ hi
  have ha := sumS_tot h (i + 1)
  have hz := sumS_nonneg h i
  rw [wrap_u64 (n := totS l - l.getD i 0) (by omega) (by omega), F99_eq R (by omega) u64_0, if_pos (by omega)]
  simp only [Bool.not_true]
  have hc : decide (List.length ([] : List Int) + (treeS l).length ≤ 17592186044416) = true := by rw [treeS_len]; simp; omega
  simp only [hc]
  rw [wrap_i64 (n := (i : Int) + 1) (by omega) (by omega), show (i : Int) + 1 = ((i + 1 : Nat) : Int) by omega]
  have hlo := low_ok (n := i + 1) (by omega) (by omega)
  have := G57_eq R h ht hlen hi ([], ()) (fun x10 x11 => k (x11, ()) 0) FUEL (i + 1) (by omega) (by omega) (by omega) (by omega) (by rw [FUEL_eq]; omega)
  rw [setT_start] at this
  exact this
end Go.PG
namespace Go.PG
def posN (l : List Int) (i : Nat) : Nat := ((l.take i).filter fun x => decide (x > 0)).length
def posS (l : List Int) : Int := (posN l l.length : Int)
theorem posN_succ {l : List Int} {i : Nat} (h : i < l.length) : posN l (i + 1) = posN l i + (if l.getD i 0 > 0 then 1 else 0) := by
  unfold posN
  rw [List.take_succ_eq_append_getElem h, List.filter_append, List.length_append]
  have : l.getD i 0 = l[i] := by simp [h]
  rw [this]
  by_cases e : l[i] > 0
  · rw [if_pos e]; simp [List.filter, e]
  · rw [if_neg e]; simp [List.filter, e]
theorem posN_le (l : List Int) (i : Nat) : posN l i ≤ l.length := by
  unfold posN
  have := List.length_filter_le (fun x => decide (x > 0)) (l.take i)
  have : (l.take i).length ≤ l.length := by simp; omega
  omega
theorem G54_eq' (R : Type) {l : List Int} (hlen : l.length ≤ 1000000) (k0 : Int → Option R) : ∀ (m i : Nat), i ≤ l.length → l.length - i < m →
    G54_2 m R (posN l i : Int) l (l.length : Int) (i : Int) k0 = k0 (posS l)
  | 0, i, _, h => by omega
  | m + 1, i, h1, h2 => by
    simp only [G54_2, p54_2]
    by_cases hi : i < l.length
    · have hd : decide ((i : Int) < (l.length : Int)) = true := decide_eq_true (by omega)
      have hbn : bnd (i : Int) (l.length : Int) = true := by unfold bnd; simp; omega
      simp only [hd, hbn, Int.toNat_natCast]
      have hs := posN_succ hi
      have hle := posN_le l i
      have e : (i : Int) + 1 = ((i + 1 : Nat) : Int) := by omega
      by_cases hp : l.getD i 0 > 0
      · simp only [decide_eq_true hp]
        rw [if_pos hp] at hs
        rw [wrap_i64 (n := (posN l i : Int) + 1) (by omega) (by omega), wrap_i64 (n := (i : Int) + 1) (by omega) (by omega), e, show (posN l i : Int) + 1 = ((posN l (i + 1) : Nat) : Int) by omega]
        exact G54_eq' R hlen k0 m (i + 1) (by omega) (by omega)
      · simp only [decide_eq_false hp]
        rw [if_neg hp] at hs
        rw [wrap_i64 (n := (i : Int) + 1) (by omega) (by omega), e, show posN l i = posN l (i + 1) by omega]
        exact G54_eq' R hlen k0 m (i + 1) (by omega) (by omega)
    · have : i = l.length := by omega
      subst this
      have hd : decide ((l.length : Int) < (l.length : Int)) = false := by simp
      simp only [hd]
      rfl
theorem F54_eq' (R : Type) {l : List Int} (hlen : l.length ≤ 1000000) (k : Int → Option R) : F54 R l k = k (posS l) := by
  simp only [F54, p54]
  exact G54_eq' R hlen (fun x1 => k x1) FUEL 0 (by omega) (by rw [FUEL_eq]; omega)
theorem own_some {l : List Int} (h : AllU64 l) (hlen : l.length ≤ 200) (ht : totS l < 9223372036854775808) {x : Int} (hx : 0 ≤ x ∧ x < totS l) : ∃ i, Owns l x i ∧ ownN l x = i := by
  obtain ⟨i, hi, _⟩ := F97_own Unit h ht (by omega) hx (fun _ _ => none)
  exact ⟨i, hi, ownN_eq h hi⟩
theorem draw_src {s : Src} (hs : SOK s) {n m : Int} (h : (drawR s n m).2.2 = 0) : SOK (drawR s n m).2.1 ∧ atS s ≤ atS (drawR s n m).2.1 ∧ ∃ a, (drawR s n m).2.1 = setAt s a := by
  unfold drawR at h ⊢
  split at h
  · rename_i hc
    rw [if_pos hc]
    obtain ⟨j, _, _, _, j4, j5, _⟩ := drawF_ok _ _ h
    rw [j4]
    obtain ⟨_, _, l3⟩ := left_ok hs
    have l4 := l3 hc.1
    have hb := hs.bits
    have h5 : (0 : Int) ≤ (needS n : Int) * j := Int.mul_nonneg (by omega) (by omega)
    have h0 := hs.at_
    have hend : endS s < 18446744073709551616 := by
      rcases right_spec hc.1 with ⟨_, _, _, r⟩ | ⟨_, _, r⟩
      · rw [r]; unfold U64 at hb; exact hb.2
      · rw [r]; omega
    change U64 (atS s) at h0
    change atS s + leftS s = endS s at l4
    unfold U64 at h0
    exact ⟨hs.set (by unfold U64; omega), by rw [atS_set]; omega, _, rfl⟩
  · simp at h
theorem lead_ok {l : List Int} (h : AllU64 l) (hlen : l.length ≤ 200) {s : Src} (hs : SOK s) {m : Int} (he : (leadR l s m).2.2 = 0) : totS l < 9223372036854775808 ∧ totS l ≠ 0 ∧ (drawR s (totS l) m).2.2 = 0 ∧
    ∃ i : Nat, i < l.length ∧ 0 < l.getD i 0 ∧ (leadR l s m).1 = (i : Int) ∧ ownN l (drawR s (totS l) m).1 = i ∧ (leadR l s m).2.1 = (drawR s (totS l) m).2.1 ∧ SOK (leadR l s m).2.1 ∧ atS s ≤ atS (leadR l s m).2.1 := by
  unfold leadR at he ⊢
  by_cases ht : totS l < 9223372036854775808
  · rw [if_pos ht] at he ⊢
    by_cases h0 : totS l = 0
    · rw [if_pos h0] at he; exact absurd he (by show ¬ ((10 : Int) = 0); decide)
    · rw [if_neg h0] at he ⊢
      by_cases hd : (drawR s (totS l) m).2.2 = 0
      · rw [if_pos hd] at he ⊢
        obtain ⟨i, hi, e⟩ := own_some h hlen ht (draw_below hd)
        have h1 := sumS_succ hi.1
        have h2 := hi.2
        obtain ⟨s1, s2, _⟩ := draw_src hs hd
        exact ⟨ht, h0, hd, i, hi.1, by omega, by rw [e], e, rfl, s1, s2⟩
      · rw [if_neg hd] at he; exact absurd he hd
  · rw [if_neg ht] at he; exact absurd he (by show ¬ ((11 : Int) = 0); decide)
noncomputable def comF (m : Int) : Nat → List Int → Src → List Int → List Int × Src × Int
  | 0, _, s, mem => (mem, s, 0)
  | n + 1, l, s, mem => if (leadR l s m).2.2 = 0 then comF m n (l.set (leadR l s m).1.toNat 0) (leadR l s m).2.1 (mem ++ [(leadR l s m).1]) else ([], (leadR l s m).2.1, (leadR l s m).2.2)
theorem tot_drop {l : List Int} (h : AllU64 l) {i : Nat} (hi : i < l.length) : totS (l.set i 0) ≤ totS l := by
  rw [tot_set hi]
  have := (getD_all h u64_0 i).1
  omega
theorem G23_eq (R : Type) {c m : Int} (x6 : Src) (k0 : Int → Src → Option R) (k1 : Src → List Int → Src → Option R) (K : List Int → Src → Int → Option R) (h0 : ∀ e s, k0 e s = K [] s e) (h1 : ∀ s l, k1 s l x6 = K l s 0) :
    ∀ (n f : Nat) (l : List Int) (s : Src) (mem : List Int), AllU64 l → totS l < 9223372036854775808 → l.length ≤ 200 → SOK s → (mem.length : Int) + n = c → c ≤ 1000 → n < f → G23_5 f R c m (treeS l, ()) s mem x6 k0 k1 = K (comF m n l s mem).1 (comF m n l s mem).2.1 (comF m n l s mem).2.2
  | _, 0, _, _, _, _, _, _, _, _, _, hf => by omega
  | 0, f + 1, l, s, mem, h, ht, hl, hs, hc, hc1, hf => by
    simp only [G23_5, p23_5]
    have hd : decide ((mem.length : Int) < c) = false := decide_eq_false (by omega)
    simp only [hd]
    rw [h1]
    rfl
  | n + 1, f + 1, l, s, mem, h, ht, hl, hs, hc, hc1, hf => by
    simp only [G23_5, p23_5]
    have hd : decide ((mem.length : Int) < c) = true := decide_eq_true (by omega)
    simp only [hd]
    rw [F56_eq R h hl ht hs]
    by_cases he : (leadR l s m).2.2 = 0
    · obtain ⟨_, _, _, i, i1, _, i3, _, _, i6, _⟩ := lead_ok h hl hs he
      have e1 : ((leadR l s m).2.2 != 0) = false := by simp [he]
      have hcap : ∀ y : Int, decide (mem.length + List.length [y] ≤ 17592186044416) = true := fun y => by simp; omega
      simp only [e1, hcap]
      simp only [comF]
      rw [if_pos he, i3, F57_eq R h ht hl i1, Int.toNat_natCast]
      have n0 : ((0 : Int) != 0) = false := rfl
      simp only [n0]
      have hd := tot_drop h i1
      exact G23_eq R x6 k0 k1 K h0 h1 n f (l.set i 0) (leadR l s m).2.1 (mem ++ [(i : Int)]) (h.set0 i) (by omega) (by simpa using hl) i6 (by simp; omega) hc1 (by omega)
    · have e1 : ((leadR l s m).2.2 != 0) = true := by simp [he]
      simp only [e1, comF]
      rw [if_neg he, h0]
noncomputable def comR (l : List Int) (c : Int) (s : Src) (m : Int) : List Int × Src × Int :=
  if 0 ≤ c ∧ c ≤ 256 ∧ rightS' s = true ∧ 0 < m ∧ m ≤ 64 then (if posS l < c then ([], s, 12) else comF m c.toNat l s []) else ([], s, 1)
theorem F53_eq (R : Type) {c m : Int} {s : Src} (hs : SOK s) (k : Bool → Option R) : F53 R c s m k = k (decide (0 ≤ c ∧ c ≤ 256 ∧ rightS' s = true ∧ 0 < m ∧ m ≤ 64)) := by
  simp only [F53, p53]
  rw [F95_eq R hs]
  by_cases h1 : c ≥ 0
  · simp only [decide_eq_true h1]
    by_cases h2 : c ≤ 256
    · simp only [decide_eq_true h2]
      cases h3 : rightS' s with
      | true =>
        by_cases h4 : m > 0
        · simp only [decide_eq_true h4]
          by_cases h5 : m ≤ 64
          · simp [h1, h2, h4, h5]
          · simp [h5]
        · have h4' : ¬ (0 < m) := h4
          simp [h4']
      | false => simp
    · simp [h2]
  · have h1' : ¬ (0 ≤ c) := h1
    simp [h1']
theorem F23_eq (R : Type) {l : List Int} (h : AllU64 l) (ht : totS l < 9223372036854775808) (hl : l.length ≤ 200) {s : Src} (hs : SOK s) (c m : Int) (k : List Int → Src → Int → Option R) : F23 R (treeS l, ()) c s m k = k (comR l c s m).1 (comR l c s m).2.1 (comR l c s m).2.2 := by
  simp only [F23, p23]
  rw [F53_eq R hs]
  unfold comR
  by_cases hm : 0 ≤ c ∧ c ≤ 256 ∧ rightS' s = true ∧ 0 < m ∧ m ≤ 64
  · rw [if_pos hm]
    simp only [decide_eq_true hm, Bool.not_true]
    rw [F55_eq R h ht hl, F54_eq' R (by omega)]
    by_cases hp : posS l < c
    · simp only [decide_eq_true hp, if_pos hp]
    · simp only [decide_eq_false hp, if_neg hp]
      exact G23_eq R _ _ _ k (fun e s => rfl) (fun s l => rfl) c.toNat FUEL l s [] h ht hl hs (by simp; omega) (by omega) (by rw [FUEL_eq]; omega)
  · rw [if_neg hm]
    simp only [decide_eq_false hm, Bool.not_false]
noncomputable def comL (l : List Int) (c : Int) (s : Src) (m : Int) : List Int × Src × Int := if totS l < 9223372036854775808 then comR l c s m else ([], s, 11)
theorem F19_eq (R : Type) {l : List Int} (h : AllU64 l) (hl : l.length ≤ 200) {s : Src} (hs : SOK s) (c m : Int) (k : List Int → Src → Int → Option R) : F19 R c s m l k = k (comL l c s m).1 (comL l c s m).2.1 (comL l c s m).2.2 := by
  simp only [F19, p19]
  rw [F50_eq' R h hl]
  unfold comL
  by_cases ht : totS l < 9223372036854775808
  · rw [if_pos ht, if_pos ht]
    have n0 : ((0 : Int) != 0) = false := rfl
    simp only [n0]
    rw [F23_eq R h ht hl hs]
  · rw [if_neg ht, if_neg ht]
    rfl
end Go.PG
namespace Go.PG
theorem bndN {i n : Nat} (h : i < n) : bnd (i : Int) (n : Int) = true := by unfold bnd; simp; omega
noncomputable def ln (l : List Int) (i : Nat) : Nat := (l.getD i 0).toNat
theorem ln_eq {l : List Int} (h : Ok32 l) (i : Nat) : l.getD i 0 = (ln l i : Int) := by
  have := h.get i
  unfold U32 at this
  unfold ln; omega
theorem ln_lt {l : List Int} (h : Ok32 l) (i : Nat) : ln l i < LB := by
  have := h.get i
  unfold U32 at this
  have e := LB_eq
  unfold ln; omega
theorem ln_over {l : List Int} {i : Nat} (h : l.length ≤ i) : ln l i = 0 := by unfold ln; rw [getD_lim_over h]; rfl
theorem wrap32 (t : Nat) : IntKind.u32.wrap (t : Int) = ((t % LB : Nat) : Int) := by rw [wrap_u32_mod, LB_eq]; omega
theorem shr32 (t : Nat) : ishr .u64 (t : Int) 32 = ((t / LB : Nat) : Int) := by
  unfold ishr
  have e : (2 : Int) ^ (min (Int.toNat 32) IntKind.u64.bits) = 4294967296 := by decide
  rw [e, Int.fdiv_eq_ediv_of_nonneg _ (by decide), LB_eq]; omega
theorem decT {p : Prop} [Decidable p] (h : p) : decide p = true := decide_eq_true h
theorem decF {p : Prop} [Decidable p] (h : ¬ p) : decide p = false := decide_eq_false h
theorem G130_eq (R : Type) (k0 : List Int → Option R) : ∀ (m : Nat) (l : List Int), l.length < m → l.length ≤ 1000000 → G130_1 m R l k0 = k0 (trimL l)
  | 0, l, h, _ => by omega
  | m + 1, l, h, hl => by
    rcases List.eq_nil_or_concat l with rfl | ⟨l', x, rfl⟩
    · simp only [G130_1, p130_1, List.length_nil]; rfl
    · rw [List.concat_eq_append] at *
      have hlen : (l' ++ [x]).length = l'.length + 1 := by simp
      simp only [G130_1, p130_1]
      have hd : decide (((l' ++ [x]).length : Int) > 0) = true := decT (by rw [hlen]; omega)
      have hw : IntKind.i64.wrap (((l' ++ [x]).length : Int) - 1) = (l'.length : Int) := by rw [wrap_i64 (by omega) (by omega), hlen]; omega
      have hb : bnd (l'.length : Int) ((l' ++ [x]).length : Int) = true := bndN (by rw [hlen]; omega)
      have hg : (l' ++ [x]).getD l'.length 0 = x := by simp [List.getD_eq_getElem?_getD]
      have h2 : decide ((0 : Int) ≤ (0 : Int) ∧ (0 : Int) ≤ (l'.length : Int) ∧ (l'.length : Int) ≤ (l'.length : Int) ∧ (l'.length : Int) ≤ ((l' ++ [x]).length : Int)) = true := decT (by rw [hlen]; omega)
      have ht : List.take (Int.toNat ((l'.length : Int) - 0)) (List.drop 0 (l' ++ [x])) = l' := by simp
      simp only [hd, hw, hb, Int.toNat_natCast, hg]
      by_cases h0 : x = 0
      · subst h0
        simp only [show ((0 : Int) == 0) = true from rfl, h2, ht]
        rw [trimL_snoc0]
        exact G130_eq R k0 m l' (by omega) (by omega)
      · have : (x == 0) = false := by simp [h0]
        simp only [this]
        rw [trimL_snoc l' h0]
theorem F130_eq (R : Type) {l : List Int} (h : Ok32 l) (hl : l.length ≤ 1000000) (k : List Int → Option R) : F130 R l k = k (lim (nv l)) := by
  simp only [F130, p130]
  rw [G130_eq R _ FUEL l (by rw [FUEL_eq]; omega) hl, trim_lim h]
theorem F104_eq (R : Type) {n : Nat} (hn : n < 18446744073709551616) (k : List Int → Option R) : F104 R (n : Int) k = k (lim n) := by
  simp only [F104, p104]
  rw [wrap32, shr32, wrap32]
  have hd : n / LB < LB := by rw [Nat.div_lt_iff_lt_mul LB_pos, LB_eq]; omega
  rw [Nat.mod_eq_of_lt hd, F130_eq R (l := [((n % LB : Nat) : Int), ((n / LB : Nat) : Int)]) ?_ (by simp)]
  · simp only [nv, Int.toNat_natCast, Nat.mul_zero, Nat.add_zero]
    rw [Nat.mod_add_div]
  · intro x hx
    rcases List.mem_cons.1 hx with rfl | hx
    · exact U32.mod n
    · rcases List.mem_cons.1 hx with rfl | hx
      · have := U32.mod (n / LB); rwa [Nat.mod_eq_of_lt hd] at this
      · cases hx
theorem nv_two (a b : Nat) : nv ((List.replicate (a + 1) 0).set a (((2 : Nat) ^ b : Nat) : Int)) = 2 ^ b * LB ^ a := by
  have := nv_set (l := List.replicate (a + 1) 0) (i := a) (((2 : Nat) ^ b : Nat) : Int) (by simp)
  rw [nv_zeros, Int.toNat_natCast] at this
  have e : (List.replicate (a + 1) (0 : Int)).getD a 0 = 0 := by simp [List.getD_eq_getElem?_getD]
  rw [e] at this
  simpa using this
theorem two_last (a b : Nat) : (List.replicate (a + 1) (0 : Int)).set a (((2 : Nat) ^ b : Nat) : Int) = List.replicate a 0 ++ [(((2 : Nat) ^ b : Nat) : Int)] := by
  rw [List.replicate_succ', List.set_append_right _ _ (by simp)]
  simp
theorem pow_32 (a b : Nat) : 2 ^ b * LB ^ a = 2 ^ (32 * a + b) := by
  rw [LB_eq, show (4294967296 : Nat) = 2 ^ 32 by decide, ← Nat.pow_mul, ← Nat.pow_add, Nat.add_comm]
theorem lim_two {k : Nat} : (List.replicate (k / 32 + 1) (0 : Int)).set (k / 32) (((2 : Nat) ^ (k % 32) : Nat) : Int) = lim (2 ^ k) := by
  have hb : 2 ^ (k % 32) < LB := by
    rw [LB_eq, show (4294967296 : Nat) = 2 ^ 32 by decide]
    exact Nat.pow_lt_pow_right (by decide) (Nat.mod_lt _ (by decide))
  have ho : Ok32 ((List.replicate (k / 32 + 1) (0 : Int)).set (k / 32) (((2 : Nat) ^ (k % 32) : Nat) : Int)) := by
    refine (Ok32.zeros _).set ?_ _
    have := U32.mod (2 ^ (k % 32)); rwa [Nat.mod_eq_of_lt hb] at this
  have ht := trim_lim ho
  rw [nv_two, pow_32, show 32 * (k / 32) + k % 32 = k by omega] at ht
  rw [← ht, two_last]
  symm
  refine trimL_snoc _ ?_
  have : 0 < 2 ^ (k % 32) := Nat.pow_pos (by decide)
  omega
theorem F103_eq (R : Type) {n : Nat} (hn : n < 8192) (k : List Int → Int → Option R) : F103 R (n : Int) k = k (lim (2 ^ n)) 0 := by
  simp only [F103, p103]
  have h1 : decide ((n : Int) < 0) = false := decF (by omega)
  have h2 : decide ((n : Int) ≥ 8192) = false := decF (by omega)
  have e1 : IntKind.i64.wrap (Int.tdiv (n : Int) 32) = ((n / 32 : Nat) : Int) := by
    rw [Int.tdiv_eq_ediv_of_nonneg (by omega), wrap_i64 (by omega) (by omega)]; omega
  have e2 : Int.tmod (n : Int) 32 = ((n % 32 : Nat) : Int) := by
    rw [Int.tmod_eq_emod_of_nonneg (by omega)]; omega
  simp only [h1, h2, e1, e2]
  rw [wrap_i64 (n := ((n / 32 : Nat) : Int) + 1) (by omega) (by omega), show ((n / 32 : Nat) : Int) + 1 = ((n / 32 + 1 : Nat) : Int) by omega]
  have h3 : decide ((0 : Int) ≤ ((n / 32 + 1 : Nat) : Int) ∧ ((n / 32 + 1 : Nat) : Int) ≤ ((n / 32 + 1 : Nat) : Int) ∧ ((n / 32 + 1 : Nat) : Int) ≤ 35184372088832) = true := decT (by omega)
  have h4 : decide ((0 : Int) ≤ ((n % 32 : Nat) : Int)) = true := decT (by omega)
  have h5 : bnd ((n / 32 : Nat) : Int) ((List.replicate (n / 32 + 1) (0 : Int)).length : Int) = true := bndN (by simp)
  simp only [h3, h4, h5, Int.toNat_natCast]
  have e3 : ishl .u32 1 ((n % 32 : Nat) : Int) = (((2 : Nat) ^ (n % 32) : Nat) : Int) := by
    unfold ishl
    have hm : min (n % 32) IntKind.u32.bits = n % 32 := Nat.min_eq_left (by have := Nat.mod_lt n (show 0 < 32 by decide); show n % 32 ≤ 32; omega)
    rw [Int.toNat_natCast, hm, Int.one_mul]
    have hb : 2 ^ (n % 32) < 4294967296 := by
      rw [show (4294967296 : Nat) = 2 ^ 32 by decide]
      exact Nat.pow_lt_pow_right (by decide) (Nat.mod_lt _ (by decide))
    have : ((2 : Int) ^ (n % 32)) = (((2 : Nat) ^ (n % 32) : Nat) : Int) := by simp
    rw [this]
    have hq : ∀ q : Nat, q < 4294967296 → IntKind.u32.wrap (q : Int) = (q : Int) := fun q h => wrap_u32 (by omega) (by omega)
    exact hq _ hb
  rw [e3, lim_two]
theorem G134_eq (R : Type) {a b : List Int} (ha : Ok32 a) (hb : Ok32 b) (hl : a.length ≤ 1000000) (hlb : b.length ≤ a.length) {k0 : List Int → Int → List Int → Option R} {r : Option R}
    (hk : ∀ (s : List Int) (c : Nat), Ok32 s → s.length = a.length + 1 → (∀ j, a.length ≤ j → s.getD j 0 = 0) → nv s + c * LB ^ a.length = nv a + nv b → c ≤ 1 → k0 a (c : Int) s = r) :
    ∀ (m i : Nat) (s : List Int) (c : Nat), i ≤ a.length → a.length - i < m → Ok32 s → s.length = a.length + 1 → (∀ j, i ≤ j → s.getD j 0 = 0) → nv s + c * LB ^ i = nv (a.take i) + nv (b.take i) → c ≤ 1 →
      G134_6 m R a b (c : Int) a (a.length : Int) (i : Int) s k0 = r
  | 0, i, s, c, _, h, _, _, _, _, _ => by omega
  | m + 1, i, s, c, h1, h2, hs, hsl, hz, hv, hc => by
    simp only [G134_6, p134_6]
    by_cases hi : i < a.length
    · have hd : decide ((i : Int) < (a.length : Int)) = true := decT (by omega)
      obtain ⟨q1, q2, q3, q4, q5⟩ := sum_step (t := c + ln a i + ln b i) ha hb hs (by omega) hz hv hc rfl
      have hL := LB_eq
      have la := ln_lt ha i
      have lb := ln_lt hb i
      simp only [hd, bndN hi, Int.toNat_natCast]
      rw [ln_eq ha i, wrap_u64 (n := (ln a i : Int)) (by omega) (by omega), show (c : Int) + (ln a i : Int) = ((c + ln a i : Nat) : Int) by omega, wrap_u64 (n := ((c + ln a i : Nat) : Int)) (by omega) (by omega),
        wrap_i64 (n := (i : Int) + 1) (by omega) (by omega), show (i : Int) + 1 = ((i + 1 : Nat) : Int) by omega]
      have hbs : bnd (i : Int) (s.length : Int) = true := bndN (by omega)
      by_cases hib : i < b.length
      · have hd2 : decide ((i : Int) < (b.length : Int)) = true := decT (by omega)
        simp only [hd2, bndN hib, hbs]
        rw [ln_eq hb i, wrap_u64 (n := (ln b i : Int)) (by omega) (by omega), show ((c + ln a i : Nat) : Int) + (ln b i : Int) = ((c + ln a i + ln b i : Nat) : Int) by omega, wrap_u64 (n := ((c + ln a i + ln b i : Nat) : Int)) (by omega) (by omega), wrap32, shr32]
        exact G134_eq R ha hb hl hlb hk m (i + 1) _ _ (by omega) (by omega) q1 (by simp [hsl]) q2 q3 q4
      · have hd2 : decide ((i : Int) < (b.length : Int)) = false := decF (by omega)
        have e0 : ln b i = 0 := ln_over (by omega)
        rw [e0, Nat.add_zero] at q1 q2 q3 q4
        simp only [hd2, hbs]
        rw [wrap32, shr32]
        exact G134_eq R ha hb hl hlb hk m (i + 1) _ _ (by omega) (by omega) q1 (by simp [hsl]) q2 q3 q4
    · have hia : i = a.length := by omega
      subst hia
      have hd : decide ((a.length : Int) < (a.length : Int)) = false := by simp
      simp only [hd]
      rw [nv_take_all (Nat.le_refl _), nv_take_all hlb] at hv
      exact hk s c hs hsl hz hv hc
theorem sum_end {a b s : List Int} {c : Nat} (hs : Ok32 s) (hsl : s.length = a.length + 1) (hz : ∀ j, a.length ≤ j → s.getD j 0 = 0) (hv : nv s + c * LB ^ a.length = nv a + nv b) (hc : c ≤ 1) :
    Ok32 (s.set a.length ((c : Nat) : Int)) ∧ nv (s.set a.length ((c : Nat) : Int)) = nv a + nv b := by
  refine ⟨hs.set (by unfold U32; omega) _, ?_⟩
  have := nv_set (l := s) (i := a.length) (c : Int) (by omega)
  rw [hz _ (Nat.le_refl _), Int.toNat_natCast] at this
  simp only [Int.toNat_zero, Nat.zero_mul, Nat.add_zero] at this
  rw [this, hv]
theorem F134_eq (R : Type) {a b : List Int} (ha : Ok32 a) (hb : Ok32 b) (hla : a.length ≤ 900000) (hlb : b.length ≤ 900000) (k : List Int → Option R) : F134 R a b k = k (lim (nv a + nv b)) := by
  simp only [F134, p134]
  have key : ∀ {a b : List Int}, Ok32 a → Ok32 b → a.length ≤ 900000 → b.length ≤ a.length →
      G134_6 FUEL R a b (0 : Int) a (a.length : Int) (0 : Int) (List.replicate (a.length + 1) (0 : Int)) (fun x19 x20 x21 => match bnd (x19.length : Int) (x21.length : Int) with
        | true => F130 R (List.set x21 (Int.toNat (x19.length : Int)) (IntKind.u32.wrap x20)) fun y25 => k y25
        | false => none) = k (lim (nv a + nv b)) := by
    intro a b ha hb hla hlb
    refine G134_eq R ha hb (by omega) hlb (fun s c hs hsl hz hv hc => ?_) FUEL 0 _ 0 (by omega) (by rw [FUEL_eq]; omega) (Ok32.zeros _) (by simp) (fun j _ => ?_) (by simp [nv_zeros, nv]) (by omega)
    · obtain ⟨g1, g2⟩ := sum_end (b := b) hs hsl hz hv hc
      simp only [bndN (show a.length < s.length by omega), Int.toNat_natCast]
      have hL := LB_eq
      rw [wrap32, Nat.mod_eq_of_lt (by omega), F130_eq R g1 (by simp; omega), g2]
    · rw [List.getD_eq_getElem?_getD, List.getElem?_replicate]; split <;> rfl
  by_cases h : a.length < b.length
  · have hd : decide ((a.length : Int) < (b.length : Int)) = true := decT (by omega)
    simp only [hd]
    rw [wrap_i64 (n := (b.length : Int) + 1) (by omega) (by omega), show (b.length : Int) + 1 = ((b.length + 1 : Nat) : Int) by omega]
    have h3 : decide ((0 : Int) ≤ ((b.length + 1 : Nat) : Int) ∧ ((b.length + 1 : Nat) : Int) ≤ ((b.length + 1 : Nat) : Int) ∧ ((b.length + 1 : Nat) : Int) ≤ 35184372088832) = true := decT (by omega)
    simp only [h3]
    rw [show Int.toNat ((b.length + 1 : Nat) : Int) = b.length + 1 from Int.toNat_natCast _, Nat.add_comm (nv a)]
    exact key hb ha hlb (by omega)
  · have hd : decide ((a.length : Int) < (b.length : Int)) = false := decF (by omega)
    simp only [hd]
    rw [wrap_i64 (n := (a.length : Int) + 1) (by omega) (by omega), show (a.length : Int) + 1 = ((a.length + 1 : Nat) : Int) by omega]
    have h3 : decide ((0 : Int) ≤ ((a.length + 1 : Nat) : Int) ∧ ((a.length + 1 : Nat) : Int) ≤ ((a.length + 1 : Nat) : Int) ∧ ((a.length + 1 : Nat) : Int) ≤ 35184372088832) = true := decT (by omega)
    simp only [h3]
    rw [show Int.toNat ((a.length + 1 : Nat) : Int) = a.length + 1 from Int.toNat_natCast _]
    exact key ha hb hla (by omega)
end Go.PG
namespace Go.PG
theorem prod_step {p b : List Int} {i k c x P t : Nat} (hp : Ok32 p) (hb : Ok32 b) (hi : i + k < p.length) (hc : c < LB) (hx : x < LB) (hv : nv p + c * LB ^ (i + k) = P + x * nv (b.take k) * LB ^ i) (ht : t = c + x * ln b k + ln p (i + k)) :
    Ok32 (p.set (i + k) ((t % LB : Nat) : Int)) ∧ nv (p.set (i + k) ((t % LB : Nat) : Int)) + t / LB * LB ^ (i + (k + 1)) = P + x * nv (b.take (k + 1)) * LB ^ i ∧ t / LB < LB ∧ t < 18446744073709551616 ∧ x * ln b k ≤ 18446744065119617025 := by
  have h1 := nv_carry hi t
  have hL := LB_eq
  have lb := ln_lt hb k
  have lp := ln_lt hp (i + k)
  have hxy : x * ln b k ≤ 4294967295 * 4294967295 := Nat.mul_le_mul (by omega) (by omega)
  have htl : t < 18446744073709551616 := by omega
  refine ⟨hp.set (U32.mod t) _, ?_, ?_, htl, hxy⟩
  · rw [nv_take]
    have e : t * LB ^ (i + k) = c * LB ^ (i + k) + x * ln b k * LB ^ (i + k) + ln p (i + k) * LB ^ (i + k) := by rw [ht, Nat.add_mul, Nat.add_mul]
    have e2 : x * (nv (b.take k) + (b.getD k 0).toNat * LB ^ k) * LB ^ i = x * nv (b.take k) * LB ^ i + x * ln b k * LB ^ (i + k) := by
      rw [Nat.mul_add, Nat.add_mul, Nat.pow_add, Nat.mul_comm (LB ^ i) (LB ^ k), ← Nat.mul_assoc x, Nat.mul_assoc (x * _) (LB ^ k) (LB ^ i)]
      rfl
    rw [e2, show i + (k + 1) = i + k + 1 from rfl]
    have key : ∀ A A2 A3 A4 A5 A6 N Q : Nat, A + A2 + A6 = N + A3 → N + A4 = Q → A3 = A4 + A5 + A6 → A + A2 = Q + A5 := by intros; omega
    rw [← Nat.add_assoc]
    exact key _ _ _ _ _ _ _ _ h1 hv e
  · rw [Nat.div_lt_iff_lt_mul LB_pos, hL]; exact htl
theorem G135_7_eq (R : Type) {a b : List Int} {i x P : Nat} (hb : Ok32 b) (hx : x < LB) (la1 : a.length ≤ 900000) (lb1 : b.length ≤ 900000) (hia : i < a.length) (X5 : List Int) (X6 X7 : Int) {k0 : List Int → Int → Int → List Int → Int → Int → List Int → Option R} {r : Option R}
    (hk : ∀ (p : List Int) (c : Nat), Ok32 p → p.length = a.length + b.length → (∀ j, i + b.length ≤ j → p.getD j 0 = 0) → nv p + c * LB ^ (i + b.length) = P + x * nv b * LB ^ i → c < LB → k0 b (i : Int) (c : Int) X5 X6 X7 p = r) :
    ∀ (m k : Nat) (p : List Int) (c : Nat), k ≤ b.length → b.length - k < m → Ok32 p → p.length = a.length + b.length → (∀ j, i + b.length ≤ j → p.getD j 0 = 0) → nv p + c * LB ^ (i + k) = P + x * nv (b.take k) * LB ^ i → c < LB →
      G135_7 m R b (i : Int) (x : Int) (c : Int) X5 X6 X7 b (b.length : Int) (k : Int) p k0 = r
  | 0, k, p, c, _, h, _, _, _, _, _ => by omega
  | m + 1, k, p, c, h1, h2, hp, hpl, hz, hv, hc => by
    simp only [G135_7, p135_7]
    by_cases hi : k < b.length
    · have hd : decide ((k : Int) < (b.length : Int)) = true := decT (by omega)
      have hik : i + k < p.length := by omega
      obtain ⟨q1, q2, q3, q4, q5⟩ := prod_step hp hb hik hc hx hv rfl
      have hL := LB_eq
      have lb := ln_lt hb k
      have lp := ln_lt hp (i + k)
      simp only [hd, bndN hi, Int.toNat_natCast]
      rw [ln_eq hb k, wrap_i64 (n := (i : Int) + (k : Int)) (by omega) (by omega), show (i : Int) + (k : Int) = ((i + k : Nat) : Int) by omega]
      simp only [bndN hik, Int.toNat_natCast]
      rw [ln_eq hp (i + k), wrap_u64 (n := (x : Int)) (by omega) (by omega), wrap_u64 (n := (ln b k : Int)) (by omega) (by omega), show (x : Int) * (ln b k : Int) = ((x * ln b k : Nat) : Int) by simp, wrap_u64 (n := ((x * ln b k : Nat) : Int)) (by omega) (by omega),
        wrap_u64 (n := (ln p (i + k) : Int)) (by omega) (by omega), show ((x * ln b k : Nat) : Int) + (ln p (i + k) : Int) = ((x * ln b k + ln p (i + k) : Nat) : Int) by omega, wrap_u64 (n := ((x * ln b k + ln p (i + k) : Nat) : Int)) (by omega) (by omega),
        show (c : Int) + ((x * ln b k + ln p (i + k) : Nat) : Int) = ((c + x * ln b k + ln p (i + k) : Nat) : Int) by omega, wrap_u64 (n := ((c + x * ln b k + ln p (i + k) : Nat) : Int)) (by omega) (by omega), wrap32, shr32,
        wrap_i64 (n := (k : Int) + 1) (by omega) (by omega), show (k : Int) + 1 = ((k + 1 : Nat) : Int) by omega]
      exact G135_7_eq R hb hx la1 lb1 hia X5 X6 X7 hk m (k + 1) _ _ (by omega) (by omega) q1 (by simp [hpl]) (fun j hj => by rw [set_getD _ (by omega)]; exact hz j hj) q2 q3
    · have hkb : k = b.length := by omega
      subst hkb
      have hd : decide ((b.length : Int) < (b.length : Int)) = false := by simp
      simp only [hd]
      rw [nv_take_all (Nat.le_refl _)] at hv
      exact hk p c hp hpl hz hv hc
theorem G135_3_eq (R : Type) {a b : List Int} (ha : Ok32 a) (hb : Ok32 b) (la1 : a.length ≤ 900000) (lb1 : b.length ≤ 900000) {k0 : List Int → Option R} {r : Option R}
    (hk : ∀ (p : List Int), Ok32 p → p.length = a.length + b.length → nv p = nv a * nv b → k0 p = r) :
    ∀ (m i : Nat) (p : List Int), i ≤ a.length → a.length - i < m → Ok32 p → p.length = a.length + b.length → (∀ j, i + b.length ≤ j → p.getD j 0 = 0) → nv p = nv (a.take i) * nv b →
      G135_3 m R b a (a.length : Int) (i : Int) p k0 = r
  | 0, i, p, _, h, _, _, _, _ => by omega
  | m + 1, i, p, h1, h2, hp, hpl, hz, hv => by
    simp only [G135_3, p135_3]
    by_cases hi : i < a.length
    · have hd : decide ((i : Int) < (a.length : Int)) = true := decT (by omega)
      simp only [hd, bndN hi, Int.toNat_natCast]
      rw [ln_eq ha i]
      refine G135_7_eq R (a := a) (P := nv p) hb (ln_lt ha i) la1 lb1 hi a (a.length : Int) (i : Int) (fun q c hq hql hqz hqv hc => ?_) FUEL 0 p 0 (by omega) (by rw [FUEL_eq]; omega) hp hpl hz (by simp [nv]) LB_pos
      rw [wrap_i64 (n := (i : Int) + (b.length : Int)) (by omega) (by omega), show (i : Int) + (b.length : Int) = ((i + b.length : Nat) : Int) by omega, wrap_i64 (n := (i : Int) + 1) (by omega) (by omega), show (i : Int) + 1 = ((i + 1 : Nat) : Int) by omega]
      have hib : i + b.length < q.length := by omega
      simp only [bndN hib, Int.toNat_natCast]
      rw [wrap32, Nat.mod_eq_of_lt hc]
      have hs := nv_set (l := q) (i := i + b.length) (c : Int) hib
      rw [hqz _ (Nat.le_refl _), Int.toNat_natCast] at hs
      simp only [Int.toNat_zero, Nat.zero_mul, Nat.add_zero] at hs
      refine G135_3_eq R ha hb la1 lb1 hk m (i + 1) _ (by omega) (by omega) (hq.set ?_ _) (by simp [hql]) (fun j hj => by rw [set_getD _ (by omega)]; exact hqz j (by omega)) ?_
      · have := U32.mod c; rwa [Nat.mod_eq_of_lt hc] at this
      · rw [hs, hqv, hv, nv_take, Nat.add_mul]
        congr 1
        rw [Nat.mul_right_comm]; rfl
    · have hia : i = a.length := by omega
      subst hia
      have hd : decide ((a.length : Int) < (a.length : Int)) = false := by simp
      simp only [hd]
      rw [nv_take_all (Nat.le_refl _)] at hv
      exact hk p hp hpl hv
theorem zeros_get (n j : Nat) : (List.replicate n (0 : Int)).getD j 0 = 0 := by
  rw [List.getD_eq_getElem?_getD, List.getElem?_replicate]; split <;> rfl
theorem F135_eq (R : Type) {a b : List Int} (ha : Ok32 a) (hb : Ok32 b) (la1 : a.length ≤ 400000) (lb1 : b.length ≤ 400000) (k : List Int → Option R) : F135 R a b k = k (lim (nv a * nv b)) := by
  simp only [F135, p135]
  rw [wrap_i64 (n := (a.length : Int) + (b.length : Int)) (by omega) (by omega), show (a.length : Int) + (b.length : Int) = ((a.length + b.length : Nat) : Int) by omega]
  have h3 : decide ((0 : Int) ≤ ((a.length + b.length : Nat) : Int) ∧ ((a.length + b.length : Nat) : Int) ≤ ((a.length + b.length : Nat) : Int) ∧ ((a.length + b.length : Nat) : Int) ≤ 35184372088832) = true := decT (by omega)
  simp only [h3, Int.toNat_natCast]
  refine G135_3_eq R ha hb (by omega) (by omega) (fun p hp hpl hv => ?_) FUEL 0 _ (by omega) (by rw [FUEL_eq]; omega) (Ok32.zeros _) (by simp) (fun j _ => zeros_get _ _) (by simp [nv_zeros, nv])
  rw [F130_eq R hp (by omega), hv]
end Go.PG
namespace Go.PG
theorem F142_eq (R : Type) {n : Nat} (hn : n < LB ^ 256) (k : Bool → Option R) : F142 R (lim n) k = k true := by
  have hl := lim_len hn
  simp only [F142, p142]
  have hd : decide (((lim n).length : Int) ≤ 256) = true := decT (by omega)
  simp only [hd]
  rw [F130_eq R (lim_ok n) (by omega), nv_lim]
  simp
theorem F141_eq (R : Type) {n : Nat} (hn : n < LB ^ 256) (k : Bool → Option R) : F141 R (lim n) k = k false := by
  simp only [F141, p141]
  rw [F142_eq R hn]; rfl
theorem two_get (x y : List Int) : ∀ i, i < 2 → List.getD [x, y] i [] = if i = 0 then x else y
  | 0, _ => rfl
  | 1, _ => rfl
  | i + 2, h => by omega
theorem G147141_eq (R : Type) {x y : Nat} (hx : x < LB ^ 256) (hy : y < LB ^ 256) (k0 : Int → Option R) (k1 : Option R) : ∀ (m i : Nat), i ≤ 2 → 2 - i < m → G147141_2 m R [lim x, lim y] (2 : Int) (i : Int) k0 k1 = k1
  | 0, i, _, h => by omega
  | m + 1, i, h1, h2 => by
    simp only [G147141_2, p147141_2]
    by_cases hi : i < 2
    · have hd : decide ((i : Int) < 2) = true := decT (by omega)
      have hb : bnd (i : Int) (([lim x, lim y] : List (List Int)).length : Int) = true := bndN (by simpa using hi)
      simp only [hd, hb, Int.toNat_natCast]
      rw [two_get _ _ _ hi, wrap_i64 (n := (i : Int) + 1) (by omega) (by omega), show (i : Int) + 1 = ((i + 1 : Nat) : Int) by omega]
      by_cases h0 : i = 0
      · rw [if_pos h0, F141_eq R hx]
        exact G147141_eq R hx hy k0 k1 m (i + 1) (by omega) (by omega)
      · rw [if_neg h0, F141_eq R hy]
        exact G147141_eq R hx hy k0 k1 m (i + 1) (by omega) (by omega)
    · have : i = 2 := by omega
      subst this
      rfl
theorem F131_eq (R : Type) {x y : Nat} (hx : x < LB ^ 256) (hy : y < LB ^ 256) (k : Bool → Option R) : F131 R [lim x, lim y] k = k true := by
  simp only [F131, p131, F141141, p141141, F147141, p147141]
  have := G147141_eq R hx hy (fun x2 => k !decide (x2 ≥ 0)) (k !decide ((-1 : Int) ≥ 0)) FUEL 0 (by omega) (by rw [FUEL_eq]; omega)
  rw [show (([lim x, lim y] : List (List Int)).length : Int) = 2 from rfl]
  exact this
theorem fuel3 : ∃ f, FUEL = f + 3 := ⟨FUEL - 3, by rw [FUEL_eq]⟩
theorem F106_eq (R : Type) {x y : Nat} (h : x + y < LB ^ 256) (k : List Int → Int → Option R) : F106 R [lim x, lim y] k = k (lim (x + y)) 0 := by
  have hx : x < LB ^ 256 := Nat.lt_of_le_of_lt (Nat.le_add_right _ _) h
  have hy : y < LB ^ 256 := Nat.lt_of_le_of_lt (Nat.le_add_left _ _) h
  have lx := lim_len hx
  have ly := lim_len hy
  have lxy := lim_len h
  simp only [F106, p106, F134134, p134134]
  rw [F131_eq R hx hy]
  obtain ⟨f, hf⟩ := fuel3
  rw [hf, show (([lim x, lim y] : List (List Int)).length : Int) = 2 from rfl]
  have d0 : decide ((0 : Int) < 2) = true := rfl
  have d1 : decide ((1 : Int) < 2) = true := rfl
  have d2 : decide ((2 : Int) < 2) = false := rfl
  have b0 : bnd (0 : Int) (([lim x, lim y] : List (List Int)).length : Int) = true := rfl
  have b1 : bnd (1 : Int) (([lim x, lim y] : List (List Int)).length : Int) = true := rfl
  have g0 : List.getD [lim x, lim y] (Int.toNat 0) [] = lim x := rfl
  have g1 : List.getD [lim x, lim y] (Int.toNat 1) [] = lim y := rfl
  have w0 : IntKind.i64.wrap ((0 : Int) + 1) = 1 := by decide
  have w1 : IntKind.i64.wrap ((1 : Int) + 1) = 2 := by decide
  have e0 : decide (((lim x).length : Int) > 256) = false := decF (by omega)
  have e1 : decide (((lim (x + y)).length : Int) > 256) = false := decF (by omega)
  simp only [G134134_4, p134134_4, Bool.not_true, d0, b0, g0]
  rw [F134_eq R Ok32.nil (lim_ok x) (by simp) (by omega), show nv [] + nv (lim x) = x by rw [nv_lim]; simp [nv]]
  simp only [e0, w0, d1, b1, g1]
  rw [F134_eq R (lim_ok x) (lim_ok y) (by omega) (by omega), nv_lim, nv_lim]
  simp only [e1, w1, d2]
theorem F107_eq (R : Type) {x y : Nat} (hx : x < LB ^ 256) (hy : y < LB ^ 256) (h : x * y < LB ^ 256) (k : List Int → Int → Option R) : F107 R [lim x, lim y] k = k (lim (x * y)) 0 := by
  have lx := lim_len hx
  have ly := lim_len hy
  have lxy := lim_len h
  simp only [F107, p107, F134135, p134135]
  have h1 := F104_eq R (n := 1) (by omega)
  rw [show ((1 : Nat) : Int) = 1 from rfl] at h1
  rw [h1, F131_eq R hx hy]
  obtain ⟨f, hf⟩ := fuel3
  rw [hf, show (([lim x, lim y] : List (List Int)).length : Int) = 2 from rfl]
  have d0 : decide ((0 : Int) < 2) = true := rfl
  have d1 : decide ((1 : Int) < 2) = true := rfl
  have d2 : decide ((2 : Int) < 2) = false := rfl
  have b0 : bnd (0 : Int) (([lim x, lim y] : List (List Int)).length : Int) = true := rfl
  have b1 : bnd (1 : Int) (([lim x, lim y] : List (List Int)).length : Int) = true := rfl
  have g0 : List.getD [lim x, lim y] (Int.toNat 0) [] = lim x := rfl
  have g1 : List.getD [lim x, lim y] (Int.toNat 1) [] = lim y := rfl
  have w0 : IntKind.i64.wrap ((0 : Int) + 1) = 1 := by decide
  have w1 : IntKind.i64.wrap ((1 : Int) + 1) = 2 := by decide
  have e0 : decide (((lim x).length : Int) > 256) = false := decF (by omega)
  have e1 : decide (((lim (x * y)).length : Int) > 256) = false := decF (by omega)
  have l1 : (lim 1).length ≤ 1 := lim_len (by rw [Nat.pow_one]; exact LB_one)
  simp only [G134135_4, p134135_4, Bool.not_true, d0, b0, g0]
  rw [F135_eq R (lim_ok 1) (lim_ok x) (by omega) (by omega), nv_lim, nv_lim, Nat.one_mul]
  simp only [e0, w0, d1, b1, g1]
  rw [F135_eq R (lim_ok x) (lim_ok y) (by omega) (by omega), nv_lim, nv_lim]
  simp only [e1, w1, d2]
end Go.PG
namespace Go.PG
theorem lim_ge {n : Nat} : ∀ {k : Nat}, (lim n).length = k + 1 → LB ^ k ≤ n := by
  induction n using Nat.strongRecOn with
  | ind n ih =>
    intro k h
    by_cases h0 : n = 0
    · subst h0; rw [lim_zero] at h; simp at h
    · rw [lim_pos h0, List.length_cons] at h
      cases k with
      | zero => rw [Nat.pow_zero]; omega
      | succ k =>
        have := ih (n / LB) (Nat.div_lt_self (by omega) LB_one) (k := k) (by omega)
        rw [Nat.pow_succ]
        exact Nat.le_trans (Nat.mul_le_mul_right _ this) (Nat.div_mul_le_self n LB)
theorem lim_len_mono {x y : Nat} (h : x ≤ y) : (lim x).length ≤ (lim y).length := by
  rcases Nat.lt_or_ge (lim y).length (lim x).length with hlt | hge
  · exfalso
    obtain ⟨k, hk⟩ : ∃ k, (lim x).length = k + 1 := ⟨(lim x).length - 1, by omega⟩
    have h1 := lim_ge hk
    have h2 := nv_lt (lim_ok y)
    rw [nv_lim] at h2
    have h3 : LB ^ (lim y).length ≤ LB ^ k := Nat.pow_le_pow_right LB_pos (by omega)
    exact absurd (Nat.lt_of_lt_of_le h2 (Nat.le_trans h3 (Nat.le_trans h1 h))) (Nat.lt_irrefl _)
  · exact hge
theorem nv_split (l : List Int) (i : Nat) (hi : i ≤ l.length) : nv l = nv (l.take i) + LB ^ i * nv (l.drop i) := by
  have := nv_app (l.take i) (l.drop i)
  rw [List.take_append_drop, List.length_take, Nat.min_eq_left hi] at this
  exact this
theorem drop_same {a b : List Int} (hl : a.length = b.length) {i : Nat} (h : ∀ j, i ≤ j → a.getD j 0 = b.getD j 0) : a.drop i = b.drop i := by
  apply List.ext_getElem
  · simp [hl]
  · intro n h1 h2
    have := h (i + n) (by omega)
    rw [List.getD_eq_getElem?_getD, List.getD_eq_getElem?_getD] at this
    simp only [List.length_drop] at h1 h2
    rw [List.getElem?_eq_getElem (by omega), List.getElem?_eq_getElem (by omega)] at this
    simpa using this
theorem top_lt {a b : List Int} (ha : Ok32 a) (hl : a.length = b.length) {i : Nat} (hi : i < a.length) (h : ∀ j, i + 1 ≤ j → a.getD j 0 = b.getD j 0) (hlt : ln a i < ln b i) : nv a < nv b := by
  rw [nv_split a (i + 1) (by omega), nv_split b (i + 1) (by omega), drop_same hl h, nv_take, nv_take]
  have h1 : nv (a.take i) < LB ^ i := by
    have := nv_lt (l := a.take i) (fun x hx => ha x (List.mem_of_mem_take hx))
    rwa [List.length_take, Nat.min_eq_left (by omega)] at this
  have h2 : (ln a i + 1) * LB ^ i ≤ ln b i * LB ^ i := Nat.mul_le_mul_right _ hlt
  rw [Nat.add_mul, Nat.one_mul] at h2
  have key : ∀ A A1 P B B1 D : Nat, A < P → A1 + P ≤ B1 → A + A1 + D < B + B1 + D := by intros; omega
  exact key _ _ _ _ _ _ h1 h2
theorem G132_eq (R : Type) {a b : List Int} (ha : Ok32 a) (hb : Ok32 b) (hl : a.length = b.length) (hla : a.length ≤ 100000) (hge : nv b ≤ nv a) (k0 : Int → Option R) (k1 : Option R) {r : Option R} (hk0 : k0 1 = r) (hk1 : k1 = r) :
    ∀ (m i : Nat), i ≤ a.length → i < m → (∀ j, i ≤ j → a.getD j 0 = b.getD j 0) → G132_6 m R a b ((i : Int) - 1) k0 k1 = r
  | 0, i, _, h, _ => by omega
  | m + 1, 0, h1, h2, h3 => by
    simp only [G132_6, p132_6]
    have hd : decide (((0 : Nat) : Int) - 1 ≥ 0) = false := decF (by omega)
    simp only [hd]
    exact hk1
  | m + 1, i + 1, h1, h2, h3 => by
    simp only [G132_6, p132_6]
    have e : ((i + 1 : Nat) : Int) - 1 = (i : Int) := by omega
    rw [e]
    have hd : decide ((i : Int) ≥ 0) = true := decT (by omega)
    simp only [hd, bndN (show i < a.length by omega), bndN (show i < b.length by omega), Int.toNat_natCast]
    have hnl : ¬ a.getD i 0 < b.getD i 0 := by
      intro hlt
      have := top_lt ha hl (i := i) (by omega) h3 (by have h4 := ln_eq ha i; have h5 := ln_eq hb i; omega)
      omega
    have hd2 : decide (a.getD i 0 < b.getD i 0) = false := decF hnl
    simp only [hd2]
    by_cases hgt : a.getD i 0 > b.getD i 0
    · have hd3 : decide (a.getD i 0 > b.getD i 0) = true := decT hgt
      simp only [hd3]
      exact hk0
    · have hd3 : decide (a.getD i 0 > b.getD i 0) = false := decF hgt
      simp only [hd3]
      rw [wrap_i64 (n := (i : Int) - 1) (by omega) (by omega)]
      refine G132_eq R ha hb hl hla hge k0 k1 hk0 hk1 m i (by omega) (by omega) (fun j hj => ?_)
      by_cases hji : j = i
      · subst hji; omega
      · exact h3 j (by omega)
theorem F132_eq (R : Type) {x y : Nat} (hx : x < LB ^ 256) (hy : y < LB ^ 256) (hge : y ≤ x) {k : Int → Option R} {r : Option R} (hk : ∀ z, 0 ≤ z → k z = r) : F132 R (lim x) (lim y) k = r := by
  have lx := lim_len hx
  have ly := lim_len hy
  have lm := lim_len_mono hge
  simp only [F132, p132]
  rw [F131_eq R hx hy]
  simp only [Bool.not_true]
  by_cases hl : (lim x).length = (lim y).length
  · have hne : (((lim x).length : Int) != ((lim y).length : Int)) = false := by simp [hl]
    simp only [hne]
    rw [wrap_i64 (n := ((lim x).length : Int) - 1) (by omega) (by omega)]
    exact G132_eq R (lim_ok x) (lim_ok y) hl (by omega) (by rw [nv_lim, nv_lim]; exact hge) (fun x13 => k x13) (k 0) (hk 1 (by omega)) (hk 0 (by omega)) FUEL (lim x).length (Nat.le_refl _) (by rw [FUEL_eq]; omega) (fun j hj => by
      rw [getD_lim_over hj, getD_lim_over (by omega)])
  · have hne : (((lim x).length : Int) != ((lim y).length : Int)) = true := by
      simp only [bne_iff_ne, ne_eq]; omega
    simp only [hne]
    rw [wrap_i64 (n := ((lim x).length : Int) - ((lim y).length : Int)) (by omega) (by omega)]
    apply hk
    split <;> split <;> omega
theorem sub_step {a b d : List Int} {i c : Nat} (ha : Ok32 a) (hb : Ok32 b) (hi : i < d.length) (hz : d.getD i 0 = 0) (hv : nv (b.take i) + nv d = nv (a.take i) + c * LB ^ i) {e c' : Nat} (he : c + ln b i + e = ln a i + c' * LB) :
    nv (b.take (i + 1)) + nv (d.set i (e : Int)) = nv (a.take (i + 1)) + c' * LB ^ (i + 1) := by
  have h1 := nv_set (l := d) (i := i) (e : Int) hi
  rw [hz, Int.toNat_natCast] at h1
  simp only [Int.toNat_zero, Nat.zero_mul, Nat.add_zero] at h1
  rw [h1, nv_take, nv_take]
  have h2 : (c + ln b i + e) * LB ^ i = (ln a i + c' * LB) * LB ^ i := by rw [he]
  rw [Nat.add_mul, Nat.add_mul, Nat.add_mul, Nat.mul_assoc c', Nat.mul_comm LB, ← Nat.pow_succ] at h2
  have key : ∀ A B C D E F G H : Nat, A + B = C + D → D + E + F = G + H → A + E + (B + F) = C + G + H := by intros; omega
  exact key _ _ _ _ _ _ _ _ hv h2
theorem G105_eq (R : Type) {a b : List Int} (ha : Ok32 a) (hb : Ok32 b) (hla : a.length ≤ 100000) (hlb : b.length ≤ a.length) {k0 : List Int → Option R} {r : Option R}
    (hk : ∀ (d : List Int) (c : Nat), Ok32 d → d.length = a.length → nv b + nv d = nv a + c * LB ^ a.length → c ≤ 1 → k0 d = r) :
    ∀ (m i : Nat) (d : List Int) (c : Nat), i ≤ a.length → a.length - i < m → Ok32 d → d.length = a.length → (∀ j, i ≤ j → d.getD j 0 = 0) → nv (b.take i) + nv d = nv (a.take i) + c * LB ^ i → c ≤ 1 →
      G105_8 m R b (-(c : Int)) a (a.length : Int) (i : Int) d k0 = r
  | 0, i, d, c, _, h, _, _, _, _, _ => by omega
  | m + 1, i, d, c, h1, h2, hd0, hdl, hz, hv, hc => by
    simp only [G105_8, p105_8]
    by_cases hi : i < a.length
    · have hd : decide ((i : Int) < (a.length : Int)) = true := decT (by omega)
      have hL := LB_eq
      have la := ln_lt ha i
      have lb := ln_lt hb i
      have hid : i < d.length := by omega
      have sh : ∀ z : Int, -4294967296 ≤ z → z < 4294967296 → ishr .i64 z 32 = if z < 0 then -1 else 0 := by
        intro z h1 h2
        unfold ishr
        have e : (2 : Int) ^ (min (Int.toNat 32) IntKind.i64.bits) = 4294967296 := by decide
        rw [e, Int.fdiv_eq_ediv_of_nonneg _ (by decide)]
        split <;> omega
      have fin : ∀ (n : Int), n = (ln a i : Int) - (c : Int) - (ln b i : Int) →
          G105_8 m R b (ishr .i64 n 32) a (a.length : Int) (IntKind.i64.wrap ((i : Int) + 1)) (List.set d i (IntKind.u32.wrap n)) k0 = r := by
        intro n hn
        rw [wrap_i64 (n := (i : Int) + 1) (by omega) (by omega), show (i : Int) + 1 = ((i + 1 : Nat) : Int) by omega, sh n (by omega) (by omega)]
        by_cases hneg : n < 0
        · rw [if_pos hneg]
          obtain ⟨e, he, he2⟩ : ∃ e : Nat, IntKind.u32.wrap n = (e : Int) ∧ (e : Int) = n + 4294967296 := ⟨(n + 4294967296).toNat, by rw [wrap_u32_mod]; omega, by omega⟩
          rw [he, show (-1 : Int) = -((1 : Nat) : Int) from rfl]
          exact G105_eq R ha hb hla hlb hk m (i + 1) _ 1 (by omega) (by omega) (hd0.set (by unfold U32; omega) _) (by simp [hdl]) (fun j hj => by rw [set_getD _ (by omega)]; exact hz j (by omega))
            (sub_step ha hb hid (hz i (Nat.le_refl _)) hv (by omega)) (by omega)
        · rw [if_neg hneg]
          obtain ⟨e, he, he2⟩ : ∃ e : Nat, IntKind.u32.wrap n = (e : Int) ∧ (e : Int) = n := ⟨n.toNat, by rw [wrap_u32_mod]; omega, by omega⟩
          rw [he, show (0 : Int) = -((0 : Nat) : Int) from rfl]
          exact G105_eq R ha hb hla hlb hk m (i + 1) _ 0 (by omega) (by omega) (hd0.set (by unfold U32; omega) _) (by simp [hdl]) (fun j hj => by rw [set_getD _ (by omega)]; exact hz j (by omega))
            (sub_step ha hb hid (hz i (Nat.le_refl _)) hv (by omega)) (by omega)
      simp only [hd, bndN hi, bndN hid, Int.toNat_natCast]
      rw [ln_eq ha i, wrap_i64 (n := (ln a i : Int)) (by omega) (by omega), wrap_i64 (n := (ln a i : Int) + -(c : Int)) (by omega) (by omega)]
      by_cases hib : i < b.length
      · have hd2 : decide ((i : Int) < (b.length : Int)) = true := decT (by omega)
        simp only [hd2, bndN hib]
        rw [ln_eq hb i, wrap_i64 (n := (ln b i : Int)) (by omega) (by omega), wrap_i64 (n := (ln a i : Int) + -(c : Int) - (ln b i : Int)) (by omega) (by omega)]
        exact fin _ (by omega)
      · have hd2 : decide ((i : Int) < (b.length : Int)) = false := decF (by omega)
        have e0 : ln b i = 0 := ln_over (by omega)
        simp only [hd2]
        exact fin _ (by omega)
    · have hia : i = a.length := by omega
      subst hia
      have hd : decide ((a.length : Int) < (a.length : Int)) = false := by simp
      simp only [hd]
      rw [nv_take_all (Nat.le_refl _), nv_take_all hlb] at hv
      exact hk d c hd0 hdl hv hc
theorem F105_eq (R : Type) {x y : Nat} (hx : x < LB ^ 256) (hge : y ≤ x) (k : List Int → Int → Option R) : F105 R (lim x) (lim y) k = k (lim (x - y)) 0 := by
  have hy : y < LB ^ 256 := Nat.lt_of_le_of_lt hge hx
  have lx := lim_len hx
  have lm := lim_len_mono hge
  simp only [F105, p105]
  rw [F131_eq R hx hy]
  simp only [Bool.not_true]
  refine F132_eq R hx hy hge (fun z hz => ?_)
  have hd : decide (z < 0) = false := decF (by omega)
  have h3 : decide ((0 : Int) ≤ ((lim x).length : Int) ∧ ((lim x).length : Int) ≤ ((lim x).length : Int) ∧ ((lim x).length : Int) ≤ 35184372088832) = true := decT (by omega)
  simp only [hd, h3, Int.toNat_natCast]
  refine G105_eq R (lim_ok x) (lim_ok y) (by omega) lm (fun d c hd0 hdl hv hc => ?_) FUEL 0 _ 0 (by omega) (by rw [FUEL_eq]; omega) (Ok32.zeros _) (by simp) (fun j _ => zeros_get _ _) (by simp [nv_zeros, nv]) (by omega)
  rw [nv_lim, nv_lim] at hv
  have hdv := nv_lt hd0
  rw [hdl] at hdv
  have hc0 : c = 0 := by
    rcases Nat.eq_zero_or_pos c with h | h
    · exact h
    · have : c = 1 := by omega
      subst this
      rw [Nat.one_mul] at hv
      omega
  subst hc0
  rw [Nat.zero_mul, Nat.add_zero] at hv
  rw [F130_eq R hd0 (by omega), show nv d = x - y by omega]
end Go.PG
namespace Go.PG
theorem key_eq (a b : Tq1) : Kd.eqv Kq1 a b = decide (a = b) := by
  obtain ⟨a1, a2, _⟩ := a
  obtain ⟨b1, b2, _⟩ := b
  show ((a1 == b1) && ((a2 == b2) && true)) = _
  rw [Bool.and_true]
  by_cases h1 : a1 = b1
  · by_cases h2 : a2 = b2
    · subst h1; subst h2; simp
    · subst h1; simp [h2]
  · simp [h1]
theorem find_app (m : List Tq2) (t : Tq1) (v : List Int) (key : Tq1) : mfind (Kd.eqv Kq1) (m ++ [(t, v)]) key = match mfind (Kd.eqv Kq1) m key with | some u => some u | none => if key = t then some v else none := by
  induction m with
  | nil =>
    simp only [List.nil_append, mfind, key_eq]
    by_cases h : key = t <;> simp [h]
  | cons p m ih =>
    simp only [List.cons_append, mfind, key_eq]
    by_cases h : key = p.1 <;> simp [h, ih, key_eq]
def Known (A : Nat) (ps : List (Nat × Nat × Nat)) (m : List Tq2) : Prop := ∀ (j l : Nat) (v : List Int), j ≤ ps.length → mfind (Kd.eqv Kq1) m ((j : Int), (l : Int), ()) = some v → v = lim (wayN A (ps.drop j) l)
def Old (j : Nat) (m m' : List Tq2) : Prop := ∀ (i l : Int), i < (j : Int) → mfind (Kd.eqv Kq1) m' (i, l, ()) = mfind (Kd.eqv Kq1) m (i, l, ())
theorem Old.refl {j : Nat} {m : List Tq2} : Old j m m := fun _ _ _ => rfl
theorem Old.trans {j : Nat} {m m' m'' : List Tq2} (h : Old j m m') (h' : Old j m' m'') : Old j m m'' := fun i l hi => by rw [h' i l hi, h i l hi]
theorem lt_big {x : Nat} (h : x ≤ p2 1200) : x < LB ^ 256 := by
  refine Nat.lt_of_le_of_lt h ?_
  rw [LB_p2, p2_pow]
  exact p2_lt (by decide)
noncomputable def stkL (ps : List (Nat × Nat × Nat)) : List (List Int) := ps.map fun p => lim p.1
def needL (ps : List (Nat × Nat × Nat)) : List Int := ps.map fun p => (p.2.1 : Int)
noncomputable def lostL (ps : List (Nat × Nat × Nat)) : List (List Int) := ps.map fun p => lim p.2.2
structure Fine (A : Nat) (ps : List (Nat × Nat × Nat)) : Prop where
  a8 : A ≤ 8
  len : ps.length ≤ 16
  all : AllP ps
  need : ∀ p ∈ ps, p.2.1 ≤ 64
theorem Fine.way {A : Nat} {ps : List (Nat × Nat × Nat)} (h : Fine A ps) (j : Nat) {l : Nat} (hl : l ≤ 256) : wayN A (ps.drop j) l ≤ p2 304 := by
  have h1 := wayN_le A (ps := ps.drop j) (fun p hp => h.all p (List.mem_of_mem_drop hp)) l
  have h2 : A ^ (ps.drop j).length ≤ p2 48 := by
    rw [← p2_two]
    refine Nat.le_trans (Nat.pow_le_pow_left h.a8 _) (Nat.le_trans (Nat.pow_le_pow_right (by decide) (show (ps.drop j).length ≤ 16 by have := h.len; simp; omega)) ?_)
    decide
  have h3 : (2 : Nat) ^ l ≤ p2 256 := by rw [p2_two]; exact p2_le hl
  refine Nat.le_trans h1 (Nat.le_trans (Nat.mul_le_mul h2 h3) ?_)
  rw [← p2_add]
  exact Nat.le_refl _
theorem G66_eq {A : Nat} {ps : List (Nat × Nat × Nat)} (hF : Fine A ps) {j l0 : Nat} (hj : j < ps.length) {F : FT66}
    (ih : ∀ (l : Nat) (m : List Tq2), l ≤ 256 → Known A ps m → ∃ m', Known A ps m' ∧ Old (j + 1) m m' ∧ ∀ (R : Type) (k : List Int → Tq22 → List Tq2 → Option R), F R ((A : Int), stkL ps, needL ps, lostL ps, (0 : Int), ()) m (((j + 1 : Nat) : Int), (l : Int), ()) k = k (lim (wayN A (ps.drop (j + 1)) l)) ((A : Int), stkL ps, needL ps, lostL ps, (0 : Int), ()) m') :
    ∀ (d a f left sum mm : Nat) (m : List Tq2), A - a = d → a ≤ A → d < mm → left ≤ 256 → f ≤ p2 (64 * (a + 1)) → sum ≤ a * p2 1000 → Known A ps m →
      ∃ m', Known A ps m' ∧ Old (j + 1) m m' ∧ ∀ (R : Type) (k0 : List Int → Tq22 → List Tq2 → Tq1 → Option R), G66_10 F mm R (lim sum) (lim f) (left : Int) (A : Int) (a : Int) ((A : Int), stkL ps, needL ps, lostL ps, (0 : Int), ()) m ((j : Int), (l0 : Int), ()) k0 =
        k0 (lim (sum + attN (ps.getD j (0, 0, 0)).2.1 (ps.getD j (0, 0, 0)).2.2 (wayN A (ps.drop (j + 1))) d f left)) ((A : Int), stkL ps, needL ps, lostL ps, (0 : Int), ()) m' ((j : Int), (l0 : Int), ()) := by
  intro d
  have hA := hF.a8
  have hlen := hF.len
  induction d with
  | zero =>
    intro a f left sum mm m hd ha hm hl hf hs hK
    refine ⟨m, hK, .refl, fun R k0 => ?_⟩
    obtain ⟨n, rfl⟩ : ∃ n, mm = n + 1 := ⟨mm - 1, by omega⟩
    have h9 : decide ((a : Int) < (A : Int)) = false := decF (by omega)
    simp only [G66_10, p66_10, h9, attN, Nat.add_zero]
  | succ d ihd =>
    intro a f left sum mm m hd ha hm hl hf hs hK
    obtain ⟨n, rfl⟩ : ∃ n, mm = n + 1 := ⟨mm - 1, by omega⟩
    have h9 : decide ((a : Int) < (A : Int)) = true := decT (by omega)
    have hnl : (needL ps).length = ps.length := by simp [needL]
    have hll : (lostL ps).length = ps.length := by simp [lostL]
    have hb1 : bnd (j : Int) ((needL ps).length : Int) = true := bndN (by omega)
    have hb2 : bnd (j : Int) ((lostL ps).length : Int) = true := bndN (by omega)
    generalize hp : ps.getD j (0, 0, 0) = p at *
    have hpm : p ∈ ps := by
      rw [← hp, List.getD_eq_getElem?_getD, List.getElem?_eq_getElem hj]; simp
    have hg1 : (needL ps).getD j 0 = (p.2.1 : Int) := by
      rw [← hp]; simp [needL, List.getD_eq_getElem?_getD, hj]
    have hg2 : (lostL ps).getD j [] = lim p.2.2 := by
      rw [← hp]; simp [lostL, List.getD_eq_getElem?_getD, hj]
    obtain ⟨hp1, hp2⟩ := hF.all p hpm
    have hp64 := hF.need p hpm
    have hq : p.2.2 ≤ p2 64 := Nat.le_trans hp2 (by rw [p2_two]; exact p2_le hp64)
    by_cases hlt : left < p.2.1
    · refine ⟨m, hK, .refl, fun R k0 => ?_⟩
      have h12 : decide ((left : Int) - (p.2.1 : Int) < 0) = true := decT (by omega)
      simp only [G66_10, p66_10, h9, hb1, Int.toNat_natCast, hg1]
      rw [wrap_i64 (n := (left : Int) - (p.2.1 : Int)) (by omega) (by omega)]
      simp only [h12, attN, if_pos hlt, Nat.add_zero]
    · have h12 : decide ((left : Int) - (p.2.1 : Int) < 0) = false := decF (by omega)
      by_cases hf0 : f = 0
      · subst hf0
        refine ⟨m, hK, .refl, fun R k0 => ?_⟩
        simp only [G66_10, p66_10, h9, hb1, Int.toNat_natCast, hg1]
        rw [wrap_i64 (n := (left : Int) - (p.2.1 : Int)) (by omega) (by omega)]
        have h14 : (((lim 0).length : Int) == 0) = true := rfl
        simp only [h12, h14, attN_zero, Nat.add_zero]
      · have h14 : (((lim f).length : Int) == 0) = false := by
          have : (lim f).length ≠ 0 := fun e => hf0 (lim_nil.1 (List.length_eq_zero_iff.1 e))
          simp only [beq_eq_false_iff_ne, ne_eq]; omega
        obtain ⟨m1, hK1, hO1, hF1⟩ := ih (left - p.2.1) m (by omega) hK
        have hfb : f ≤ p2 576 := Nat.le_trans hf (p2_le (by omega))
        have hW : wayN A (ps.drop (j + 1)) (left - p.2.1) ≤ p2 304 := hF.way _ (by omega)
        have hfW : f * wayN A (ps.drop (j + 1)) (left - p.2.1) ≤ p2 1000 := by
          refine Nat.le_trans (Nat.mul_le_mul hfb hW) ?_
          rw [← p2_add]
          exact p2_le (by decide)
        have hfq : f * p.2.2 ≤ p2 (64 * (a + 1 + 1)) := by
          rw [show 64 * (a + 1 + 1) = 64 * (a + 1) + 64 by omega, p2_add]
          exact Nat.mul_le_mul hf hq
        have hfqb : f * p.2.2 ≤ p2 1200 := Nat.le_trans hfq (p2_le (by omega))
        have hs1 : sum + f * wayN A (ps.drop (j + 1)) (left - p.2.1) ≤ (a + 1) * p2 1000 := by
          rw [Nat.succ_mul]; exact Nat.add_le_add hs hfW
        have hs2 : sum + f * wayN A (ps.drop (j + 1)) (left - p.2.1) ≤ p2 1200 := by
          refine Nat.le_trans hs1 (Nat.le_trans (Nat.mul_le_mul_right _ (show a + 1 ≤ p2 8 by rw [← p2_two]; omega)) ?_)
          rw [← p2_add]
          exact p2_le (by decide)
        have w1200 : p2 1000 ≤ p2 1200 := p2_le (by decide)
        obtain ⟨m2, hK2, hO2, hF2⟩ := ihd (a + 1) (f * p.2.2) (left - p.2.1) (sum + f * wayN A (ps.drop (j + 1)) (left - p.2.1)) n m1 (by omega) (by omega) (by omega) (by omega) hfq hs1 hK1
        refine ⟨m2, hK2, hO1.trans hO2, fun R k0 => ?_⟩
        simp only [G66_10, p66_10, h9, hb1, Int.toNat_natCast, hg1]
        rw [wrap_i64 (n := (left : Int) - (p.2.1 : Int)) (by omega) (by omega)]
        simp only [h12, h14]
        rw [wrap_i64 (n := (j : Int) + 1) (by omega) (by omega), show (j : Int) + 1 = ((j + 1 : Nat) : Int) by omega, show (left : Int) - (p.2.1 : Int) = ((left - p.2.1 : Nat) : Int) by omega, hF1]
        rw [F107_eq R (lt_big (Nat.le_trans hfb (p2_le (by decide)))) (lt_big (Nat.le_trans hW (p2_le (by decide)))) (lt_big (Nat.le_trans hfW w1200))]
        have n0 : ((0 : Int) != 0) = false := rfl
        simp only [n0]
        rw [F106_eq R (lt_big hs2)]
        simp only [n0, hb2, hg2]
        rw [F107_eq R (lt_big (Nat.le_trans hfb (p2_le (by decide)))) (lt_big (Nat.le_trans hq (p2_le (by decide)))) (lt_big hfqb)]
        simp only [n0]
        rw [wrap_i64 (n := (a : Int) + 1) (by omega) (by omega), show (a : Int) + 1 = ((a + 1 : Nat) : Int) by omega, hF2]
        simp only [attN, if_neg hlt]
        rw [Nat.add_assoc]
theorem W66_eq {A : Nat} {ps : List (Nat × Nat × Nat)} (hF : Fine A ps) : ∀ (d j n l : Nat) (m : List Tq2), ps.length - j = d → j ≤ ps.length → d < n → l ≤ 256 → Known A ps m →
    ∃ m', Known A ps m' ∧ Old j m m' ∧ ∀ (R : Type) (k : List Int → Tq22 → List Tq2 → Option R), W66 n R ((A : Int), stkL ps, needL ps, lostL ps, (0 : Int), ()) m ((j : Int), (l : Int), ()) k = k (lim (wayN A (ps.drop j) l)) ((A : Int), stkL ps, needL ps, lostL ps, (0 : Int), ()) m' := by
  intro d
  have hA := hF.a8
  have hlen := hF.len
  have hsl : (stkL ps).length = ps.length := by simp [stkL]
  induction d with
  | zero =>
    intro j n l m hd hj hn hl hK
    obtain ⟨n, rfl⟩ : ∃ n', n = n' + 1 := ⟨n - 1, by omega⟩
    have : j = ps.length := by omega
    subst this
    refine ⟨m, hK, .refl, fun R k => ?_⟩
    have h2 : ((ps.length : Int) == ((stkL ps).length : Int)) = true := by rw [hsl]; simp
    simp only [W66, p66, h2]
    rw [F103_eq R (by omega), List.drop_length]
    rfl
  | succ d ih =>
    intro j n l m hd hj hn hl hK
    obtain ⟨n, rfl⟩ : ∃ n', n = n' + 1 := ⟨n - 1, by omega⟩
    have hj' : j < ps.length := by omega
    have h2 : ((j : Int) == ((stkL ps).length : Int)) = false := by
      rw [hsl]; simp only [beq_eq_false_iff_ne, ne_eq]; omega
    cases hfd : mfind (Kd.eqv Kq1) m ((j : Int), (l : Int), ()) with
    | some v =>
      refine ⟨m, hK, .refl, fun R k => ?_⟩
      have hv := hK j l v hj hfd
      simp only [W66, p66, h2, hfd, Option.isSome_some, Option.getD_some]
      rw [hv]
    | none =>
      have hbs : bnd (j : Int) ((stkL ps).length : Int) = true := bndN (by omega)
      generalize hp : ps.getD j (0, 0, 0) = p at *
      have hpm : p ∈ ps := by
        rw [← hp, List.getD_eq_getElem?_getD, List.getElem?_eq_getElem hj']; simp
      have hg1 : (stkL ps).getD j [] = lim p.1 := by
        rw [← hp]; simp [stkL, List.getD_eq_getElem?_getD, hj']
      have hp1 : p.1 ≤ p2 (64 * (0 + 1)) := Nat.le_trans (hF.all p hpm).1 (by rw [p2_two]; exact p2_le (by have := hF.need p hpm; omega))
      obtain ⟨m1, hK1, hO1, hF1⟩ := G66_eq hF (l0 := l) hj' (F := W66 n) (fun l m hl hK => ih (j + 1) n l m (by omega) (by omega) (by omega) hl hK) A 0 p.1 l 0 FUEL m (by omega) (by omega) (by rw [FUEL_eq]; omega) hl hp1 (by simp) hK
      have hdrop : ps.drop j = p :: ps.drop (j + 1) := by
        rw [List.drop_eq_getElem_cons hj']
        congr 1
        rw [← hp, List.getD_eq_getElem?_getD, List.getElem?_eq_getElem hj']; rfl
      have hway : wayN A (ps.drop j) l = attN p.2.1 p.2.2 (wayN A (ps.drop (j + 1))) A p.1 l := by rw [hdrop]; rfl
      rw [hp, Nat.zero_add, ← hway] at hF1
      have hnone : mfind (Kd.eqv Kq1) m1 ((j : Int), (l : Int), ()) = none := by rw [hO1 j l (by omega)]; exact hfd
      refine ⟨m1 ++ [(((j : Int), (l : Int), ()), lim (wayN A (ps.drop j) l))], ?_, ?_, fun R k => ?_⟩
      · intro i l' v hi hv
        rw [find_app] at hv
        cases hc : mfind (Kd.eqv Kq1) m1 ((i : Int), (l' : Int), ()) with
        | some u =>
          rw [hc] at hv
          simp only [Option.some.injEq] at hv
          rw [← hv]
          exact hK1 i l' u hi hc
        | none =>
          rw [hc] at hv
          simp only at hv
          split at hv
          · rename_i he
            simp only [Prod.mk.injEq, Int.natCast_inj, and_true] at he
            obtain ⟨rfl, rfl⟩ := he
            simp only [Option.some.injEq] at hv
            exact hv.symm
          · cases hv
      · intro i l' hi
        rw [find_app, hO1 i l' (by omega)]
        cases hc : mfind (Kd.eqv Kq1) m (i, l', ()) with
        | some u => rfl
        | none =>
          have : ¬ ((i, l', ()) : Tq1) = ((j : Int), (l : Int), ()) := by
            intro he
            simp only [Prod.mk.injEq] at he
            omega
          simp only [if_neg this]
      · simp only [W66, p66, h2, hfd, Option.isSome_none, hbs, Int.toNat_natCast, hg1]
        have hF2 : ∀ k0 : List Int → Tq22 → List Tq2 → Tq1 → Option R, G66_10 (W66 n) FUEL R [] (lim p.1) (l : Int) (A : Int) 0 ((A : Int), stkL ps, needL ps, lostL ps, (0 : Int), ()) m ((j : Int), (l : Int), ()) k0 =
          k0 (lim (wayN A (ps.drop j) l)) ((A : Int), stkL ps, needL ps, lostL ps, (0 : Int), ()) m1 ((j : Int), (l : Int), ()) := fun k0 => hF1 R k0
        rw [hF2]
        simp only [hnone, Option.isNone_none]
theorem F66_eq {A : Nat} {ps : List (Nat × Nat × Nat)} (hF : Fine A ps) {l : Nat} (hl : l ≤ 256) : ∃ m', ∀ (R : Type) (k : List Int → Tq22 → List Tq2 → Option R), F66 R ((A : Int), stkL ps, needL ps, lostL ps, (0 : Int), ()) [] ((0 : Int), (l : Int), ()) k = k (lim (wayN A ps l)) ((A : Int), stkL ps, needL ps, lostL ps, (0 : Int), ()) m' := by
  have hlen := hF.len
  obtain ⟨m', _, _, h⟩ := W66_eq hF ps.length 0 FUEL l [] (by omega) (by omega) (by rw [FUEL_eq]; omega) hl (fun j l v _ hv => by simp [mfind] at hv)
  exact ⟨m', h⟩
end Go.PG
namespace Go.PG
noncomputable def partOf (rest : List Int) (i : Int) : Nat × Nat × Nat := ((rest.getD i.toNat 0).toNat, needS (totS rest), 2 ^ needS (totS rest) - (totS rest).toNat)
noncomputable def partsS : List Int → List Int → Option (List (Nat × Nat × Nat))
  | [], _ => some []
  | i :: ms, rest => if 0 ≤ i ∧ i < (rest.length : Int) ∧ rest.getD i.toNat 0 ≠ 0 then match partsS ms (rest.set i.toNat 0) with
      | some ps => some (partOf rest i :: ps)
      | none => none
    else none
structure LOk (l : List Int) : Prop where
  u : AllU64 l
  t : totS l < 9223372036854775808
  n : l.length ≤ 1000000
theorem LOk.nn {l : List Int} (h : LOk l) : 0 ≤ totS l := sumS_nonneg h.u _
theorem LOk.u64 {l : List Int} (h : LOk l) : U64 (totS l) := by have := h.nn; have := h.t; unfold U64; omega
theorem LOk.set {l : List Int} (h : LOk l) {i : Nat} (hi : i < l.length) : LOk (l.set i 0) := ⟨h.u.set0 i, by have := tot_drop h.u hi; have := h.t; omega, by simpa using h.n⟩
theorem LOk.get {l : List Int} (h : LOk l) {i : Nat} (hi : i < l.length) : 0 ≤ l.getD i 0 ∧ l.getD i 0 ≤ totS l := by
  have h1 := tot_set (l := l) hi
  have h2 := (h.set hi).nn
  have h3 := (getD_all h.u u64_0 i).1
  omega
theorem LOk.need {l : List Int} (h : LOk l) : needS (totS l) ≤ 64 ∧ (totS l).toNat ≤ 2 ^ needS (totS l) := by
  obtain ⟨h1, h2, _⟩ := need_spec h.u64
  refine ⟨h1, ?_⟩
  have hc : ((2 : Int) ^ needS (totS l)) = (((2 : Nat) ^ needS (totS l) : Nat) : Int) := by simp
  rw [hc] at h2
  have := h.nn
  generalize 2 ^ needS (totS l) = q at *
  omega
theorem partsS_fine {A : Nat} (hA : A ≤ 8) : ∀ {ms rest : List Int} {ps : List (Nat × Nat × Nat)}, LOk rest → partsS ms rest = some ps → ms.length ≤ 16 → ps.length = ms.length ∧ AllP ps ∧ ∀ p ∈ ps, p.2.1 ≤ 64
  | [], rest, ps, _, h, _ => by
    simp only [partsS, Option.some.injEq] at h
    subst h
    exact ⟨rfl, fun p hp => (by cases hp), fun p hp => (by cases hp)⟩
  | i :: ms, rest, ps, hr, h, hl => by
    simp only [partsS] at h
    split at h <;> try (cases h; done)
    rename_i hi
    split at h <;> try (cases h; done)
    rename_i ps' hps
    simp only [Option.some.injEq] at h
    subst h
    have hi' : i.toNat < rest.length := by omega
    obtain ⟨q1, q2, q3⟩ := partsS_fine hA (hr.set hi') hps (by simpa using Nat.le_of_succ_le hl)
    obtain ⟨n1, n2⟩ := hr.need
    have hg := hr.get hi'
    refine ⟨by simp [q1], fun p hp => ?_, fun p hp => ?_⟩
    · rcases List.mem_cons.1 hp with rfl | hp
      · refine ⟨?_, Nat.sub_le _ _⟩
        show (rest.getD i.toNat 0).toNat ≤ _
        exact Nat.le_trans (by omega) n2
      · exact q2 p hp
    · rcases List.mem_cons.1 hp with rfl | hp
      · exact n1
      · exact q3 p hp
theorem F92_eq (R : Type) {l : List Int} (hl : l.length ≤ 1000000) (k : List Int → Option R) : F92 R l k = k l := by
  have : decide (List.length ([] : List Int) + l.length ≤ 17592186044416) = true := decT (by simp; omega)
  simp only [F92, this]
theorem F64_eq (R : Type) {l : List Int} (h : AllU64 l) (hl : l.length ≤ 1000000) (k : Int → Int → Option R) : F64 R l k = if totS l < 9223372036854775808 then k (totS l) 0 else k 0 11 := by
  simp only [F64, p64]
  rw [F91_eq R h hl]
  by_cases ht : totS l < 9223372036854775808
  · rw [if_pos ht, if_pos ht]; rfl
  · rw [if_neg ht, if_neg ht]; rfl
theorem F101_eq (R : Type) {l : List Int} (hl : l.length ≤ 1000000) (i : Int) (k : List Int → Int → Option R) : F101 R i l k = if 0 ≤ i ∧ i < (l.length : Int) then k (l.set i.toNat 0) 0 else k [] 3 := by
  simp only [F101, p101]
  by_cases h1 : i < 0
  · have : ¬ (0 ≤ i ∧ i < (l.length : Int)) := by omega
    rw [if_neg this]
    simp only [decT h1]
  · simp only [decF h1]
    by_cases h2 : i ≥ (l.length : Int)
    · have : ¬ (0 ≤ i ∧ i < (l.length : Int)) := by omega
      rw [if_neg this]
      simp only [decT h2]
    · rw [if_pos (by omega)]
      simp only [decF h2]
      rw [F92_eq R hl]
      have hb : bnd i (l.length : Int) = true := by unfold bnd; simp; omega
      simp only [hb]
theorem G27_eq (R : Type) {A : Int} (bits : Int) (ms : List Int) (hms : ms.length ≤ 16) (k0 : Int → Option R) (k1 : Int → List Tq2 → List (List Int) → List Int → List (List Int) → Tq1 → Option R) :
    ∀ (m i : Nat) (rest : List Int) (done : List (Nat × Nat × Nat)), i ≤ ms.length → ms.length - i < m → done.length = i → LOk rest →
      G27_9 m R bits rest ms (ms.length : Int) (i : Int) [] (stkL done) (needL done) (lostL done) (A, (0 : Int), ()) k0 k1 = match partsS (ms.drop i) rest with
        | some ps => k1 bits [] (stkL (done ++ ps)) (needL (done ++ ps)) (lostL (done ++ ps)) (A, (0 : Int), ())
        | none => k0 0
  | 0, i, rest, done, _, h, _, _ => by omega
  | m + 1, i, rest, done, h1, h2, h3, hr => by
    simp only [G27_9, p27_9]
    by_cases hi : i < ms.length
    · have hd : decide ((i : Int) < (ms.length : Int)) = true := decT (by omega)
      simp only [hd, bndN hi, Int.toNat_natCast]
      have hdrop : ms.drop i = ms.getD i 0 :: ms.drop (i + 1) := by
        rw [List.drop_eq_getElem_cons hi]
        congr 1
        rw [List.getD_eq_getElem?_getD, List.getElem?_eq_getElem hi]; rfl
      rw [hdrop]
      generalize ms.getD i 0 = x
      rw [F64_eq R hr.u hr.n, if_pos hr.t, F101_eq R hr.n]
      simp only [partsS]
      by_cases hx : 0 ≤ x ∧ x < (rest.length : Int)
      · rw [if_pos hx]
        have n0 : ((0 : Int) != 0) = false := rfl
        have hb : bnd x (rest.length : Int) = true := by unfold bnd; simp; omega
        simp only [n0, hb]
        have hx' : x.toNat < rest.length := by omega
        by_cases hz : rest.getD x.toNat 0 = 0
        · have hb0 : (rest.getD x.toNat 0 == 0) = true := by simp only [beq_iff_eq]; exact hz
          rw [if_neg (fun h => h.2.2 hz)]
          simp only [hb0]
        · have hb0 : (rest.getD x.toNat 0 == 0) = false := by simp only [beq_eq_false_iff_ne, ne_eq]; exact hz
          rw [if_pos ⟨hx.1, hx.2, hz⟩]
          simp only [hb0]
          obtain ⟨n1, n2⟩ := hr.need
          have hg := hr.get hx'
          have ht := hr.t
          have hnn := hr.nn
          rw [F84_eq R hr.u64, F103_eq R (by omega)]
          simp only [n0]
          have e1 : rest.getD x.toNat 0 = (((rest.getD x.toNat 0).toNat : Nat) : Int) := by omega
          have e2 : totS rest = (((totS rest).toNat : Nat) : Int) := by omega
          have hF1 : ∀ k : List Int → Option R, F104 R (rest.getD x.toNat 0) k = k (lim (rest.getD x.toNat 0).toNat) := fun k => by
            have := F104_eq R (n := (rest.getD x.toNat 0).toNat) (by omega) k
            rwa [← e1] at this
          have hF2 : ∀ k : List Int → Option R, F104 R (totS rest) k = k (lim (totS rest).toNat) := fun k => by
            have := F104_eq R (n := (totS rest).toNat) (by omega) k
            rwa [← e2] at this
          rw [hF1]
          have hls : (stkL done).length = i := by simp [stkL, h3]
          have hln : (needL done).length = i := by simp [needL, h3]
          have hll : (lostL done).length = i := by simp [lostL, h3]
          have c1 : ∀ y : List Int, decide ((stkL done).length + [y].length ≤ 5864062014805) = true := fun y => decT (by simp [hls]; omega)
          have c2 : ∀ y : Int, decide ((needL done).length + [y].length ≤ 17592186044416) = true := fun y => decT (by simp [hln]; omega)
          have c3 : ∀ y : List Int, decide ((lostL done).length + [y].length ≤ 5864062014805) = true := fun y => decT (by simp [hll]; omega)
          simp only [c1, c2]
          rw [hF2]
          have hp2 : 2 ^ needS (totS rest) ≤ p2 64 := by rw [p2_two]; exact p2_le n1
          rw [F105_eq R (lt_big (Nat.le_trans hp2 (p2_le (by decide)))) n2]
          simp only [n0, c3]
          rw [wrap_i64 (n := (i : Int) + 1) (by omega) (by omega), show (i : Int) + 1 = ((i + 1 : Nat) : Int) by omega]
          have s1 : stkL done ++ [lim (rest.getD x.toNat 0).toNat] = stkL (done ++ [partOf rest x]) := by simp [stkL, partOf]
          have s2 : needL done ++ [(needS (totS rest) : Int)] = needL (done ++ [partOf rest x]) := by simp [needL, partOf]
          have s3 : lostL done ++ [lim (2 ^ needS (totS rest) - (totS rest).toNat)] = lostL (done ++ [partOf rest x]) := by simp [lostL, partOf]
          rw [s1, s2, s3, G27_eq R bits ms hms k0 k1 m (i + 1) _ _ (by omega) (by omega) (by simp [h3]) (hr.set hx')]
          cases partsS (ms.drop (i + 1)) (rest.set x.toNat 0) with
          | none => rfl
          | some ps => simp only [List.append_assoc, List.singleton_append]
      · rw [if_neg hx, if_neg (fun h => hx ⟨h.1, h.2.1⟩)]
        rfl
    · have : i = ms.length := by omega
      subst this
      have hd : decide ((ms.length : Int) < (ms.length : Int)) = false := by simp
      simp only [hd, List.drop_length, partsS, List.append_nil]
noncomputable def waysS (ms : List Int) (bits a : Int) (l : List Int) : List Int × Int :=
  if (ms.length : Int) > 16 ∨ bits < 0 ∨ bits > 256 ∨ a < 1 ∨ a > 8 then ([], 1) else if totS l < 9223372036854775808 then match partsS ms l with
    | some ps => (lim (wayN a.toNat ps bits.toNat), 0)
    | none => ([], 0)
  else ([], 11)
theorem F27_eq (R : Type) {l : List Int} (h : AllU64 l) (hl : l.length ≤ 1000000) (ms : List Int) (bits a : Int) (k : List Int → Int → Option R) : F27 R ms bits a l k = k (waysS ms bits a l).1 (waysS ms bits a l).2 := by
  simp only [F27, p27]
  unfold waysS
  by_cases h1 : (ms.length : Int) > 16
  · rw [if_pos (.inl h1)]; simp only [decT h1]
  · simp only [decF h1]
    by_cases h2 : bits < 0
    · rw [if_pos (.inr (.inl h2))]; simp only [decT h2]
    · simp only [decF h2]
      by_cases h3 : bits > 256
      · rw [if_pos (.inr (.inr (.inl h3)))]; simp only [decT h3]
      · simp only [decF h3]
        by_cases h4 : a < 1
        · rw [if_pos (.inr (.inr (.inr (.inl h4))))]; simp only [decT h4]
        · simp only [decF h4]
          by_cases h5 : a > 8
          · rw [if_pos (.inr (.inr (.inr (.inr h5))))]; simp only [decT h5]
          · simp only [decF h5]
            rw [if_neg (by omega), F64_eq R h hl]
            by_cases ht : totS l < 9223372036854775808
            · rw [if_pos ht, if_pos ht]
              have n0 : ((0 : Int) != 0) = false := rfl
              simp only [n0]
              have := G27_eq R (A := a) bits ms (by omega) (fun x11 => k [] x11) (fun x12 x13 x14 x15 x16 x17 => F66 R (x17.1, x14, x15, x16, x17.2.1, ()) x13 ((0 : Int), x12, ()) fun y18 s19 m20 => k y18 s19.2.2.2.2.1) FUEL 0 l [] (by omega) (by rw [FUEL_eq]; omega) rfl ⟨h, ht, hl⟩
              refine this.trans ?_
              rw [List.drop_zero]
              cases hp : partsS ms l with
              | none => rfl
              | some ps =>
                obtain ⟨q1, q2, q3⟩ := partsS_fine (A := a.toNat) (by omega) ⟨h, ht, hl⟩ hp (by omega)
                obtain ⟨m', hw⟩ := F66_eq (A := a.toNat) (ps := ps) ⟨by omega, by omega, q2, q3⟩ (l := bits.toNat) (by omega)
                have hw' := hw R (fun y18 s19 m20 => k y18 s19.2.2.2.2.1)
                rw [show ((a.toNat : Nat) : Int) = a by omega, show ((bits.toNat : Nat) : Int) = bits by omega] at hw'
                simp only [List.nil_append]
                rw [hw']
            · rw [if_neg ht, if_neg ht]; rfl
end Go.PG
namespace Go.PG
theorem G112_eq (R : Type) (k0 : List Int → Option R) : ∀ (m : Nat) (l : List Int), l.length < m → l.length ≤ 1000000 → G112_1 m R l k0 = k0 (trimL l)
  | 0, l, h, _ => by omega
  | m + 1, l, h, hl => by
    rcases List.eq_nil_or_concat l with rfl | ⟨l', x, rfl⟩
    · simp only [G112_1, p112_1, List.length_nil]; rfl
    · rw [List.concat_eq_append] at *
      have hlen : (l' ++ [x]).length = l'.length + 1 := by simp
      simp only [G112_1, p112_1]
      have hd : decide (((l' ++ [x]).length : Int) > 0) = true := decT (by rw [hlen]; omega)
      have hw : IntKind.i64.wrap (((l' ++ [x]).length : Int) - 1) = (l'.length : Int) := by rw [wrap_i64 (by omega) (by omega), hlen]; omega
      have hb : bnd (l'.length : Int) ((l' ++ [x]).length : Int) = true := bndN (by rw [hlen]; omega)
      have hg : (l' ++ [x]).getD l'.length 0 = x := by simp [List.getD_eq_getElem?_getD]
      have h2 : decide ((0 : Int) ≤ (0 : Int) ∧ (0 : Int) ≤ (l'.length : Int) ∧ (l'.length : Int) ≤ (l'.length : Int) ∧ (l'.length : Int) ≤ ((l' ++ [x]).length : Int)) = true := decT (by rw [hlen]; omega)
      have ht : List.take (Int.toNat ((l'.length : Int) - 0)) (List.drop 0 (l' ++ [x])) = l' := by simp
      simp only [hd, hw, hb, Int.toNat_natCast, hg]
      by_cases h0 : x = 0
      · subst h0
        simp only [show ((0 : Int) == 0) = true from rfl, h2, ht]
        rw [trimL_snoc0]
        exact G112_eq R k0 m l' (by omega) (by omega)
      · have : (x == 0) = false := by simp [h0]
        simp only [this]
        rw [trimL_snoc l' h0]
theorem F112_eq (R : Type) {l : List Int} (h : Ok32 l) (hl : l.length ≤ 1000000) (k : List Int → Option R) : F112 R l k = k (lim (nv l)) := by
  simp only [F112, p112]
  rw [G112_eq R _ FUEL l (by rw [FUEL_eq]; omega) hl, trim_lim h]
theorem F70_eq (R : Type) {n : Nat} (hn : n < 18446744073709551616) (k : List Int → Option R) : F70 R (n : Int) k = k (lim n) := by
  simp only [F70, p70]
  have hd : n / LB < LB := by rw [Nat.div_lt_iff_lt_mul LB_pos, LB_eq]; omega
  have hL := LB_eq
  have e1 : IntKind.u32.wrap (Int.tmod (n : Int) 4294967296) = ((n % LB : Nat) : Int) := by
    rw [Int.tmod_eq_emod_of_nonneg (by omega), wrap_u32 (by omega) (by omega), LB_eq]; omega
  have e2 : IntKind.u32.wrap (IntKind.u64.wrap (Int.tdiv (n : Int) 4294967296)) = ((n / LB : Nat) : Int) := by
    rw [Int.tdiv_eq_ediv_of_nonneg (by omega), wrap_u64 (by omega) (by omega), wrap_u32 (by omega) (by omega), LB_eq]; omega
  rw [e1, e2, F112_eq R (l := [((n % LB : Nat) : Int), ((n / LB : Nat) : Int)]) ?_ (by simp)]
  · simp only [nv, Int.toNat_natCast, Nat.mul_zero, Nat.add_zero]
    rw [Nat.mod_add_div]
  · intro x hx
    rcases List.mem_cons.1 hx with rfl | hx
    · exact U32.mod n
    · rcases List.mem_cons.1 hx with rfl | hx
      · have := U32.mod (n / LB); rwa [Nat.mod_eq_of_lt hd] at this
      · cases hx
theorem F109_eq (R : Type) {n : Nat} (hn : n < LB ^ 256) (k : Bool → Option R) : F109 R (lim n) k = k true := by
  have hl := lim_len hn
  simp only [F109, p109]
  have hd : decide (((lim n).length : Int) ≤ 256) = true := decT (by omega)
  simp only [hd]
  by_cases h0 : n = 0
  · subst h0; rfl
  · have hne : (lim n).length ≠ 0 := fun e => h0 (lim_nil.1 (List.length_eq_zero_iff.1 e))
    have h1 : (((lim n).length : Int) == 0) = false := by simp only [beq_eq_false_iff_ne, ne_eq]; omega
    simp only [h1]
    rw [wrap_i64 (n := ((lim n).length : Int) - 1) (by omega) (by omega), show ((lim n).length : Int) - 1 = (((lim n).length - 1 : Nat) : Int) by omega]
    simp only [bndN (show (lim n).length - 1 < (lim n).length by omega), Int.toNat_natCast]
    have : ((lim n).getD ((lim n).length - 1) 0 != 0) = true := by simp only [bne_iff_ne, ne_eq]; exact lim_last h0
    rw [this]
theorem F111_eq (R : Type) {a : List Int} (ha : Ok32 a) (i : Nat) (k : Int → Option R) : F111 R a (i : Int) k = k (ln a i : Int) := by
  simp only [F111, p111]
  by_cases hi : i < a.length
  · have hd : decide ((i : Int) < (a.length : Int)) = true := decT (by omega)
    simp only [hd, bndN hi, Int.toNat_natCast]
    have := ln_lt ha i
    have hL := LB_eq
    rw [ln_eq ha i, wrap_u64 (by omega) (by omega)]
  · have hd : decide ((i : Int) < (a.length : Int)) = false := decF (by omega)
    simp only [hd]
    rw [ln_over (by omega)]; rfl
theorem nv_snoc (l : List Int) (x : Int) : nv (l ++ [x]) = nv l + x.toNat * LB ^ l.length := by
  rw [nv_app]; simp [nv, Nat.mul_comm]
theorem sum_app {a b s : List Int} {i c t : Nat} (ha : Ok32 a) (hb : Ok32 b) (hs : Ok32 s) (hi : s.length = i) (hv : nv s + c * LB ^ i = nv (a.take i) + nv (b.take i)) (hc : c ≤ 1) (ht0 : t = ln a i + ln b i + c) :
    Ok32 (s ++ [((t % LB : Nat) : Int)]) ∧ nv (s ++ [((t % LB : Nat) : Int)]) + t / LB * LB ^ (i + 1) = nv (a.take (i + 1)) + nv (b.take (i + 1)) ∧ t / LB ≤ 1 ∧ t < 2 * LB := by
  have la := ln_lt ha i
  have lb := ln_lt hb i
  have ht : t < 2 * LB := by omega
  refine ⟨hs.app (fun x hx => by rw [List.mem_singleton.1 hx]; exact U32.mod t), ?_, ?_, ht⟩
  · rw [nv_snoc, nv_take, nv_take, hi, Int.toNat_natCast]
    have e : t * LB ^ i = ln a i * LB ^ i + ln b i * LB ^ i + c * LB ^ i := by rw [ht0, Nat.add_mul, Nat.add_mul]
    have e2 : t * LB ^ i = (t % LB) * LB ^ i + t / LB * LB ^ (i + 1) := by
      rw [Nat.pow_succ, Nat.mul_comm (LB ^ i) LB, ← Nat.mul_assoc, ← Nat.add_mul]
      congr 1
      have := Nat.mod_add_div t LB
      rw [Nat.mul_comm]; omega
    have key : ∀ N M Q T A B C X Y : Nat, N + C = X + Y → T = A + B + C → T = M + Q → N + M + Q = X + A + (Y + B) := by intros; omega
    exact key _ _ _ _ _ _ _ _ _ hv e e2
  · exact Nat.le_of_lt_succ ((Nat.div_lt_iff_lt_mul LB_pos).2 ht)
theorem G72_eq (R : Type) {a b : List Int} (ha : Ok32 a) (hb : Ok32 b) (hla : a.length ≤ 900000) (hlb : b.length ≤ 900000) {k0 : List Int → Option R} {r : Option R}
    (hk : ∀ s : List Int, Ok32 s → s.length ≤ 900001 → nv s = nv a + nv b → k0 s = r) :
    ∀ (m i : Nat) (s : List Int) (c : Nat), i ≤ 900001 → 900001 - i < m → Ok32 s → s.length = i → nv s + c * LB ^ i = nv (a.take i) + nv (b.take i) → c ≤ 1 → (i = 900001 → c = 0) →
      G72_4 m R a b (c : Int) (i : Int) s k0 = r
  | 0, i, s, c, _, h, _, _, _, _, _ => by omega
  | m + 1, i, s, c, h1, h2, hs, hsl, hv, hc, hl => by
    have hL := LB_eq
    have la := ln_lt ha i
    have lb := ln_lt hb i
    obtain ⟨q1, q3, q4, q5⟩ := sum_app (t := ln a i + ln b i + c) ha hb hs hsl hv hc rfl
    have go : i < 900001 → G72_4 m R a b (IntKind.u64.wrap (Int.tdiv (IntKind.u64.wrap (IntKind.u64.wrap ((ln a i : Int) + (ln b i : Int)) + (c : Int))) 4294967296)) (IntKind.i64.wrap ((i : Int) + 1)) (s ++ [IntKind.u32.wrap (Int.tmod (IntKind.u64.wrap (IntKind.u64.wrap ((ln a i : Int) + (ln b i : Int)) + (c : Int))) 4294967296)]) k0 = r := by
      intro hi
      rw [show (ln a i : Int) + (ln b i : Int) = ((ln a i + ln b i : Nat) : Int) by omega, wrap_u64 (n := ((ln a i + ln b i : Nat) : Int)) (by omega) (by omega), show ((ln a i + ln b i : Nat) : Int) + (c : Int) = ((ln a i + ln b i + c : Nat) : Int) by omega, wrap_u64 (n := ((ln a i + ln b i + c : Nat) : Int)) (by omega) (by omega)]
      have hz : i + 1 = 900001 → (ln a i + ln b i + c) / LB = 0 := fun e => by rw [ln_over (by omega), ln_over (by omega)]; exact Nat.div_eq_of_lt (by omega)
      generalize ln a i + ln b i + c = t at *
      have e1 : IntKind.u32.wrap (Int.tmod (t : Int) 4294967296) = ((t % LB : Nat) : Int) := by
        rw [Int.tmod_eq_emod_of_nonneg (by omega), wrap_u32 (by omega) (by omega), LB_eq]; omega
      have e2 : IntKind.u64.wrap (Int.tdiv (t : Int) 4294967296) = ((t / LB : Nat) : Int) := by
        rw [Int.tdiv_eq_ediv_of_nonneg (by omega), wrap_u64 (by omega) (by omega), LB_eq]; omega
      rw [e1, e2, wrap_i64 (n := (i : Int) + 1) (by omega) (by omega), show (i : Int) + 1 = ((i + 1 : Nat) : Int) by omega]
      refine G72_eq R ha hb hla hlb hk m (i + 1) _ _ (by omega) (by omega) q1 (by simp [hsl]) q3 q4 hz
    have capD : ∀ x : Int, i < 900001 → decide (s.length + [x].length ≤ 35184372088832) = true := fun x hi => decT (by simp [hsl]; omega)
    simp only [G72_4, p72_4]
    by_cases hia : i < a.length
    · have hd : decide ((i : Int) < (a.length : Int)) = true := decT (by omega)
      simp only [hd]
      rw [F111_eq R ha, F111_eq R hb]
      simp only [capD _ (by omega)]
      exact go (by omega)
    · have hd : decide ((i : Int) < (a.length : Int)) = false := decF (by omega)
      simp only [hd]
      by_cases hib : i < b.length
      · have hd2 : decide ((i : Int) < (b.length : Int)) = true := decT (by omega)
        simp only [hd2]
        rw [F111_eq R ha, F111_eq R hb]
        simp only [capD _ (by omega)]
        exact go (by omega)
      · have hd2 : decide ((i : Int) < (b.length : Int)) = false := decF (by omega)
        simp only [hd2]
        by_cases hc0 : c = 0
        · subst hc0
          have hd3 : decide (((0 : Nat) : Int) > 0) = false := rfl
          simp only [hd3]
          rw [nv_take_all (by omega), nv_take_all (by omega), Nat.zero_mul, Nat.add_zero] at hv
          exact hk s hs (by omega) hv
        · have hd3 : decide ((c : Int) > 0) = true := decT (by omega)
          simp only [hd3]
          rw [F111_eq R ha, F111_eq R hb]
          have hi9 : i < 900001 := by
            rcases Nat.lt_or_ge i 900001 with h | h
            · exact h
            · exact absurd (hl (by omega)) hc0
          simp only [capD _ hi9]
          exact go hi9
theorem F72_eq (R : Type) {a b : List Int} (ha : Ok32 a) (hb : Ok32 b) (hla : a.length ≤ 900000) (hlb : b.length ≤ 900000) (k : List Int → Option R) : F72 R a b k = k (lim (nv a + nv b)) := by
  simp only [F72, p72]
  refine G72_eq R ha hb hla hlb (fun s hs hsl hv => ?_) FUEL 0 [] 0 (by omega) (by rw [FUEL_eq]; omega) Ok32.nil rfl (by simp [nv]) (by omega) (by omega)
  rw [F112_eq R hs (by omega), hv]
theorem G71_7_eq (R : Type) {a b : List Int} {i P : Nat} (ha : Ok32 a) (hb : Ok32 b) (la1 : a.length ≤ 400000) (lb1 : b.length ≤ 400000) (hia : i < a.length) {k0 : List Int → List Int → Int → List Int → Option R} {r : Option R}
    (hk : ∀ (p : List Int), Ok32 p → p.length = a.length + b.length → (∀ j, i + 1 + b.length ≤ j → p.getD j 0 = 0) → nv p = P + ln a i * nv b * LB ^ i → k0 a b (i : Int) p = r) :
    ∀ (m k : Nat) (p : List Int) (c : Nat), k ≤ b.length + 1 → b.length + 1 - k < m → Ok32 p → p.length = a.length + b.length → (∀ j, i + max k b.length ≤ j → p.getD j 0 = 0) → nv p + c * LB ^ (i + k) = P + ln a i * nv (b.take k) * LB ^ i → c < LB → (k = b.length + 1 → c = 0) →
      G71_7 m R a b (i : Int) (c : Int) (k : Int) p k0 = r
  | 0, k, p, c, _, h, _, _, _, _, _, _ => by omega
  | m + 1, k, p, c, h1, h2, hp, hpl, hz, hv, hc, hl => by
    have hL := LB_eq
    have lb := ln_lt hb k
    have la := ln_lt ha i
    have go : k ≤ b.length → ∀ f : Option R, (match bnd ((i + k : Nat) : Int) (p.length : Int) with
        | true => G71_7 m R a b (i : Int) (IntKind.u64.wrap (Int.tdiv (IntKind.u64.wrap (IntKind.u64.wrap (IntKind.u64.wrap (p.getD (i + k) 0) + IntKind.u64.wrap (IntKind.u64.wrap (ln a i : Int) * (ln b k : Int))) + (c : Int))) 4294967296)) (IntKind.i64.wrap ((k : Int) + 1)) (List.set p (i + k) (IntKind.u32.wrap (Int.tmod (IntKind.u64.wrap (IntKind.u64.wrap (IntKind.u64.wrap (p.getD (i + k) 0) + IntKind.u64.wrap (IntKind.u64.wrap (ln a i : Int) * (ln b k : Int))) + (c : Int))) 4294967296))) k0
        | false => f) = r := by
      intro hkb f
      have hik : i + k < p.length := by omega
      obtain ⟨q1, q2, q3, q4, q5⟩ := prod_step (P := P) hp hb hik hc la hv rfl
      have lp := ln_lt hp (i + k)
      have hzz : k + 1 = b.length + 1 → (c + ln a i * ln b k + ln p (i + k)) / LB = 0 := fun e => by
        have : k = b.length := by omega
        subst this
        have e1 : ln b b.length = 0 := ln_over (Nat.le_refl _)
        have e2 : ln p (i + b.length) = 0 := by unfold ln; rw [hz _ (by omega)]; rfl
        rw [e1, e2, Nat.mul_zero, Nat.add_zero]
        exact Nat.div_eq_of_lt hc
      simp only [bndN hik]
      rw [ln_eq hp (i + k), wrap_u64 (n := (ln p (i + k) : Int)) (by omega) (by omega), wrap_u64 (n := (ln a i : Int)) (by omega) (by omega), show (ln a i : Int) * (ln b k : Int) = ((ln a i * ln b k : Nat) : Int) by simp, wrap_u64 (n := ((ln a i * ln b k : Nat) : Int)) (by omega) (by omega),
        show (ln p (i + k) : Int) + ((ln a i * ln b k : Nat) : Int) = ((ln p (i + k) + ln a i * ln b k : Nat) : Int) by omega, wrap_u64 (n := ((ln p (i + k) + ln a i * ln b k : Nat) : Int)) (by omega) (by omega),
        show ((ln p (i + k) + ln a i * ln b k : Nat) : Int) + (c : Int) = ((c + ln a i * ln b k + ln p (i + k) : Nat) : Int) by omega, wrap_u64 (n := ((c + ln a i * ln b k + ln p (i + k) : Nat) : Int)) (by omega) (by omega)]
      generalize hT : c + ln a i * ln b k + ln p (i + k) = t at *
      have e1 : IntKind.u32.wrap (Int.tmod (t : Int) 4294967296) = ((t % LB : Nat) : Int) := by
        rw [Int.tmod_eq_emod_of_nonneg (by omega), wrap_u32 (by omega) (by omega), LB_eq]; omega
      have e2 : IntKind.u64.wrap (Int.tdiv (t : Int) 4294967296) = ((t / LB : Nat) : Int) := by
        rw [Int.tdiv_eq_ediv_of_nonneg (by omega), wrap_u64 (by omega) (by omega), LB_eq]; omega
      rw [e1, e2, wrap_i64 (n := (k : Int) + 1) (by omega) (by omega), show (k : Int) + 1 = ((k + 1 : Nat) : Int) by omega]
      exact G71_7_eq R ha hb la1 lb1 hia hk m (k + 1) _ _ (by omega) (by omega) q1 (by simp [hpl]) (fun j hj => by rw [set_getD _ (by omega)]; exact hz j (by omega)) q2 q3 hzz
    simp only [G71_7, p71_7]
    by_cases hkb : k < b.length
    · have hd : decide ((k : Int) < (b.length : Int)) = true := decT (by omega)
      simp only [hd]
      rw [wrap_i64 (n := (i : Int) + (k : Int)) (by omega) (by omega), show (i : Int) + (k : Int) = ((i + k : Nat) : Int) by omega]
      have hik : i + k < p.length := by omega
      simp only [bndN hik, bndN hia, Int.toNat_natCast]
      rw [F111_eq R hb, ln_eq ha i]
      have := go (by omega) none
      simp only [bndN hik] at this
      exact this
    · have hd : decide ((k : Int) < (b.length : Int)) = false := decF (by omega)
      simp only [hd]
      by_cases hc0 : c = 0
      · subst hc0
        have hd3 : decide (((0 : Nat) : Int) > 0) = false := rfl
        simp only [hd3]
        rw [nv_take_all (by omega), Nat.zero_mul, Nat.add_zero] at hv
        exact hk p hp hpl (fun j hj => hz j (by omega)) hv
      · have hd3 : decide ((c : Int) > 0) = true := decT (by omega)
        have hkl : k ≤ b.length := by
          rcases Nat.lt_or_ge b.length k with h | h
          · exact absurd (hl (by omega)) hc0
          · exact h
        simp only [hd3]
        rw [wrap_i64 (n := (i : Int) + (k : Int)) (by omega) (by omega), show (i : Int) + (k : Int) = ((i + k : Nat) : Int) by omega]
        have hik : i + k < p.length := by omega
        simp only [bndN hik, bndN hia, Int.toNat_natCast]
        rw [F111_eq R hb, ln_eq ha i]
        have := go hkl none
        simp only [bndN hik] at this
        exact this
theorem G71_3_eq (R : Type) {a b : List Int} (ha : Ok32 a) (hb : Ok32 b) (la1 : a.length ≤ 400000) (lb1 : b.length ≤ 400000) {k0 : List Int → Option R} {r : Option R}
    (hk : ∀ (p : List Int), Ok32 p → p.length = a.length + b.length → nv p = nv a * nv b → k0 p = r) :
    ∀ (m i : Nat) (p : List Int), i ≤ a.length → a.length - i < m → Ok32 p → p.length = a.length + b.length → (∀ j, i + b.length ≤ j → p.getD j 0 = 0) → nv p = nv (a.take i) * nv b →
      G71_3 m R a b (i : Int) p k0 = r
  | 0, i, p, _, h, _, _, _, _ => by omega
  | m + 1, i, p, h1, h2, hp, hpl, hz, hv => by
    simp only [G71_3, p71_3]
    by_cases hi : i < a.length
    · have hd : decide ((i : Int) < (a.length : Int)) = true := decT (by omega)
      simp only [hd]
      refine G71_7_eq R (P := nv p) ha hb la1 lb1 hi (fun q hq hql hqz hqv => ?_) FUEL 0 p 0 (by omega) (by rw [FUEL_eq]; omega) hp hpl (fun j hj => hz j (by omega)) (by simp [nv]) LB_pos (by omega)
      rw [wrap_i64 (n := (i : Int) + 1) (by omega) (by omega), show (i : Int) + 1 = ((i + 1 : Nat) : Int) by omega]
      refine G71_3_eq R ha hb la1 lb1 hk m (i + 1) _ (by omega) (by omega) hq hql hqz ?_
      rw [hqv, hv, nv_take, Nat.add_mul]
      congr 1
      rw [Nat.mul_right_comm]; rfl
    · have hia : i = a.length := by omega
      subst hia
      have hd : decide ((a.length : Int) < (a.length : Int)) = false := by simp
      simp only [hd]
      rw [nv_take_all (Nat.le_refl _)] at hv
      exact hk p hp hpl hv
theorem F71_eq (R : Type) {a b : List Int} (ha : Ok32 a) (hb : Ok32 b) (la1 : a.length ≤ 400000) (lb1 : b.length ≤ 400000) (k : List Int → Option R) : F71 R a b k = k (lim (nv a * nv b)) := by
  simp only [F71, p71]
  rw [wrap_i64 (n := (a.length : Int) + (b.length : Int)) (by omega) (by omega), show (a.length : Int) + (b.length : Int) = ((a.length + b.length : Nat) : Int) by omega]
  have h3 : decide ((0 : Int) ≤ ((a.length + b.length : Nat) : Int) ∧ ((a.length + b.length : Nat) : Int) ≤ ((a.length + b.length : Nat) : Int) ∧ ((a.length + b.length : Nat) : Int) ≤ 35184372088832) = true := decT (by omega)
  simp only [h3, Int.toNat_natCast]
  refine G71_3_eq R ha hb la1 lb1 (fun p hp hpl hv => ?_) FUEL 0 _ (by omega) (by rw [FUEL_eq]; omega) (Ok32.zeros _) (by simp) (fun j _ => zeros_get _ _) (by simp [nv_zeros, nv])
  rw [F112_eq R hp (by omega), hv]
end Go.PG
namespace Go.PG
theorem G110_eq (R : Type) {a b : List Int} (ha : Ok32 a) (hb : Ok32 b) (hl : a.length = b.length) (hla : a.length ≤ 100000) (hge : nv b ≤ nv a) (k0 : Int → Option R) (k1 : Option R) {r : Option R} (hk0 : k0 1 = r) (hk1 : k1 = r) :
    ∀ (m i : Nat), i ≤ a.length → i < m → (∀ j, i ≤ j → a.getD j 0 = b.getD j 0) → G110_8 m R a b ((i : Int) - 1) k0 k1 = r
  | 0, i, _, h, _ => by omega
  | m + 1, 0, h1, h2, h3 => by
    simp only [G110_8, p110_8]
    have hd : decide (((0 : Nat) : Int) - 1 ≥ 0) = false := decF (by omega)
    simp only [hd]
    exact hk1
  | m + 1, i + 1, h1, h2, h3 => by
    simp only [G110_8, p110_8]
    have e : ((i + 1 : Nat) : Int) - 1 = (i : Int) := by omega
    rw [e]
    have hd : decide ((i : Int) ≥ 0) = true := decT (by omega)
    simp only [hd, bndN (show i < a.length by omega), bndN (show i < b.length by omega), Int.toNat_natCast]
    have hnl : ¬ a.getD i 0 < b.getD i 0 := by
      intro hlt
      have := top_lt ha hl (i := i) (by omega) h3 (by have h4 := ln_eq ha i; have h5 := ln_eq hb i; omega)
      omega
    have hd2 : decide (a.getD i 0 < b.getD i 0) = false := decF hnl
    simp only [hd2]
    by_cases hgt : a.getD i 0 > b.getD i 0
    · have hd3 : decide (a.getD i 0 > b.getD i 0) = true := decT hgt
      simp only [hd3]
      exact hk0
    · have hd3 : decide (a.getD i 0 > b.getD i 0) = false := decF hgt
      simp only [hd3]
      rw [wrap_i64 (n := (i : Int) - 1) (by omega) (by omega)]
      refine G110_eq R ha hb hl hla hge k0 k1 hk0 hk1 m i (by omega) (by omega) (fun j hj => ?_)
      by_cases hji : j = i
      · subst hji; omega
      · exact h3 j (by omega)
theorem F110_eq (R : Type) {x y : Nat} (hx : x < LB ^ 256) (hy : y < LB ^ 256) (hge : y ≤ x) {k : Int → Option R} {r : Option R} (hk : ∀ z, 0 ≤ z → k z = r) : F110 R (lim x) (lim y) k = r := by
  have lx := lim_len hx
  have ly := lim_len hy
  have lm := lim_len_mono hge
  simp only [F110, p110]
  rw [F109_eq R hx]
  simp only [Bool.not_true]
  rw [F109_eq R hy]
  simp only [Bool.not_true]
  by_cases hl : (lim x).length = (lim y).length
  · have hne : (((lim x).length : Int) != ((lim y).length : Int)) = false := by simp [hl]
    simp only [hne]
    rw [wrap_i64 (n := ((lim x).length : Int) - 1) (by omega) (by omega)]
    exact G110_eq R (lim_ok x) (lim_ok y) hl (by omega) (by rw [nv_lim, nv_lim]; exact hge) (fun x13 => k x13) (k 0) (hk 1 (by omega)) (hk 0 (by omega)) FUEL (lim x).length (Nat.le_refl _) (by rw [FUEL_eq]; omega) (fun j hj => by
      rw [getD_lim_over hj, getD_lim_over (by omega)])
  · have hne : (((lim x).length : Int) != ((lim y).length : Int)) = true := by
      simp only [bne_iff_ne, ne_eq]; omega
    have hd : decide (((lim x).length : Int) < ((lim y).length : Int)) = false := decF (by omega)
    simp only [hne, hd]
    exact hk 1 (by omega)
theorem sub_app {a b d : List Int} {i c : Nat} (ha : Ok32 a) (hb : Ok32 b) (hi : d.length = i) (hv : nv (b.take i) + nv d = nv (a.take i) + c * LB ^ i) {e c' : Nat} (he : c + ln b i + e = ln a i + c' * LB) :
    nv (b.take (i + 1)) + nv (d ++ [(e : Int)]) = nv (a.take (i + 1)) + c' * LB ^ (i + 1) := by
  rw [nv_snoc, nv_take, nv_take, hi, Int.toNat_natCast]
  have h2 : (c + ln b i + e) * LB ^ i = (ln a i + c' * LB) * LB ^ i := by rw [he]
  rw [Nat.add_mul, Nat.add_mul, Nat.add_mul, Nat.mul_assoc c', Nat.mul_comm LB, ← Nat.pow_succ] at h2
  have key : ∀ A B C D E F G H : Nat, A + B = C + D → D + E + F = G + H → A + E + (B + F) = C + G + H := by intros; omega
  exact key _ _ _ _ _ _ _ _ hv h2
theorem G69_eq (R : Type) {a b : List Int} (ha : Ok32 a) (hb : Ok32 b) (hla : a.length ≤ 100000) (hlb : b.length ≤ a.length) {k0 : List Int → Option R} {r : Option R}
    (hk : ∀ (d : List Int) (c : Nat), Ok32 d → d.length = a.length → nv b + nv d = nv a + c * LB ^ a.length → c ≤ 1 → k0 d = r) :
    ∀ (m i : Nat) (d : List Int) (c : Nat), i ≤ a.length → a.length - i < m → Ok32 d → d.length = i → nv (b.take i) + nv d = nv (a.take i) + c * LB ^ i → c ≤ 1 →
      G69_8 m R a b (c : Int) (i : Int) d k0 = r
  | 0, i, d, c, _, h, _, _, _, _ => by omega
  | m + 1, i, d, c, h1, h2, hd0, hdl, hv, hc => by
    simp only [G69_8, p69_8]
    by_cases hi : i < a.length
    · have hd : decide ((i : Int) < (a.length : Int)) = true := decT (by omega)
      have hL := LB_eq
      have la := ln_lt ha i
      have lb := ln_lt hb i
      simp only [hd]
      rw [F111_eq R ha, F111_eq R hb, wrap_u64 (n := (ln b i : Int) + (c : Int)) (by omega) (by omega), wrap_i64 (n := (i : Int) + 1) (by omega) (by omega), show (i : Int) + 1 = ((i + 1 : Nat) : Int) by omega]
      have cap : ∀ x : Int, decide (d.length + [x].length ≤ 35184372088832) = true := fun x => decT (by simp [hdl]; omega)
      have ok1 : ∀ {e : Nat}, e < 4294967296 → Ok32 (d ++ [(e : Int)]) := fun he => hd0.app (fun x hx => by rw [List.mem_singleton.1 hx]; unfold U32; omega)
      by_cases hlt : (ln b i : Int) + (c : Int) > (ln a i : Int)
      · have hd2 : decide ((ln b i : Int) + (c : Int) > (ln a i : Int)) = true := decT hlt
        obtain ⟨e, he⟩ : ∃ e : Nat, e = ln a i + 4294967296 - (ln b i + c) := ⟨_, rfl⟩
        simp only [hd2]
        rw [wrap_u64 (n := (ln a i : Int) + 4294967296) (by omega) (by omega), wrap_u64 (n := (ln a i : Int) + 4294967296 - ((ln b i : Int) + (c : Int))) (by omega) (by omega), show (ln a i : Int) + 4294967296 - ((ln b i : Int) + (c : Int)) = (e : Int) by omega, wrap_u32 (n := (e : Int)) (by omega) (by omega)]
        simp only [cap]
        exact G69_eq R ha hb hla hlb hk m (i + 1) _ 1 (by omega) (by omega) (ok1 (by omega)) (by simp [hdl]) (sub_app ha hb hdl hv (by omega)) (by omega)
      · have hd2 : decide ((ln b i : Int) + (c : Int) > (ln a i : Int)) = false := decF hlt
        obtain ⟨e, he⟩ : ∃ e : Nat, e = ln a i - (ln b i + c) := ⟨_, rfl⟩
        simp only [hd2]
        rw [wrap_u64 (n := (ln a i : Int) - ((ln b i : Int) + (c : Int))) (by omega) (by omega), show (ln a i : Int) - ((ln b i : Int) + (c : Int)) = (e : Int) by omega, wrap_u32 (n := (e : Int)) (by omega) (by omega)]
        simp only [cap]
        exact G69_eq R ha hb hla hlb hk m (i + 1) _ 0 (by omega) (by omega) (ok1 (by omega)) (by simp [hdl]) (sub_app ha hb hdl hv (by omega)) (by omega)
    · have hia : i = a.length := by omega
      subst hia
      have hd : decide ((a.length : Int) < (a.length : Int)) = false := by simp
      simp only [hd]
      rw [nv_take_all (Nat.le_refl _), nv_take_all hlb] at hv
      exact hk d c hd0 hdl hv hc
theorem F69_eq (R : Type) {x y : Nat} (hx : x < LB ^ 256) (hge : y ≤ x) (k : List Int → Int → Option R) : F69 R (lim x) (lim y) k = k (lim (x - y)) 0 := by
  have hy : y < LB ^ 256 := Nat.lt_of_le_of_lt hge hx
  have lx := lim_len hx
  have lm := lim_len_mono hge
  simp only [F69, p69]
  rw [F109_eq R hx]
  simp only [Bool.not_true]
  rw [F109_eq R hy]
  simp only [Bool.not_true]
  refine F110_eq R hx hy hge (fun z hz => ?_)
  have hd : decide (z < 0) = false := decF (by omega)
  simp only [hd]
  refine G69_eq R (lim_ok x) (lim_ok y) (by omega) lm (fun d c hd0 hdl hv hc => ?_) FUEL 0 [] 0 (by omega) (by rw [FUEL_eq]; omega) Ok32.nil rfl (by simp [nv]) (by omega)
  rw [nv_lim, nv_lim] at hv
  have hdv := nv_lt hd0
  rw [hdl] at hdv
  have hc0 : c = 0 := by
    rcases Nat.eq_zero_or_pos c with h | h
    · exact h
    · have : c = 1 := by omega
      subst this
      rw [Nat.one_mul] at hv
      omega
  subst hc0
  rw [Nat.zero_mul, Nat.add_zero] at hv
  rw [F112_eq R hd0 (by omega), show nv d = x - y by omega]
theorem G68_eq2 (R : Type) {n : Nat} (hn : n < 8192) (X : List Int) {k0 : Int → Int → List Int → Option R} : ∀ (m i : Nat), i ≤ n % 32 → n % 32 - i < m → G68_6 m R (n : Int) (((2 : Nat) ^ i : Nat) : Int) (i : Int) X k0 = k0 (n : Int) (((2 : Nat) ^ (n % 32) : Nat) : Int) X
  | 0, i, _, h => by omega
  | m + 1, i, h1, h2 => by
    simp only [G68_6, p68_6]
    have e2 : Int.tmod (n : Int) 32 = ((n % 32 : Nat) : Int) := by
      rw [Int.tmod_eq_emod_of_nonneg (by omega)]; omega
    rw [e2]
    have hm := Nat.mod_lt n (show 0 < 32 by decide)
    by_cases hi : i < n % 32
    · have hd : decide ((i : Int) < ((n % 32 : Nat) : Int)) = true := decT (by omega)
      simp only [hd]
      have hb : 2 ^ (i + 1) < 4294967296 := by
        rw [show (4294967296 : Nat) = 2 ^ 32 by decide]
        exact Nat.pow_lt_pow_right (by decide) (by omega)
      have e3 : IntKind.u32.wrap (2 * (((2 : Nat) ^ i : Nat) : Int)) = (((2 : Nat) ^ (i + 1) : Nat) : Int) := by
        rw [Nat.pow_succ] at hb ⊢
        generalize 2 ^ i = q at *
        rw [wrap_u32 (by omega) (by omega)]; omega
      rw [e3, wrap_i64 (n := (i : Int) + 1) (by omega) (by omega), show (i : Int) + 1 = ((i + 1 : Nat) : Int) by omega]
      exact G68_eq2 R hn X m (i + 1) (by omega) (by omega)
    · have : i = n % 32 := by omega
      have hd : decide ((i : Int) < ((n % 32 : Nat) : Int)) = false := decF (by omega)
      simp only [hd]
      rw [this]
theorem F68_eq (R : Type) {n : Nat} (hn : n < 8192) (k : List Int → Int → Option R) : F68 R (n : Int) k = k (lim (2 ^ n)) 0 := by
  simp only [F68, p68]
  have h1 : decide ((n : Int) < 0) = false := decF (by omega)
  have h2 : decide ((n : Int) > 8191) = false := decF (by omega)
  have e1 : IntKind.i64.wrap (Int.tdiv (n : Int) 32) = ((n / 32 : Nat) : Int) := by
    rw [Int.tdiv_eq_ediv_of_nonneg (by omega), wrap_i64 (by omega) (by omega)]; omega
  simp only [h1, h2, e1]
  rw [wrap_i64 (n := ((n / 32 : Nat) : Int) + 1) (by omega) (by omega), show ((n / 32 : Nat) : Int) + 1 = ((n / 32 + 1 : Nat) : Int) by omega]
  have h3 : decide ((0 : Int) ≤ ((n / 32 + 1 : Nat) : Int) ∧ ((n / 32 + 1 : Nat) : Int) ≤ ((n / 32 + 1 : Nat) : Int) ∧ ((n / 32 + 1 : Nat) : Int) ≤ 35184372088832) = true := decT (by omega)
  simp only [h3, Int.toNat_natCast]
  have := G68_eq2 R hn (List.replicate (n / 32 + 1) (0 : Int)) (k0 := fun x6 x7 x8 => match bnd (IntKind.i64.wrap (Int.tdiv x6 32)) (x8.length : Int) with
    | true => k (List.set x8 (Int.toNat (IntKind.i64.wrap (Int.tdiv x6 32))) x7) 0
    | false => none) FUEL 0 (by omega) (by rw [FUEL_eq]; omega)
  refine this.trans ?_
  have h5 : bnd ((n / 32 : Nat) : Int) ((List.replicate (n / 32 + 1) (0 : Int)).length : Int) = true := bndN (by simp)
  simp only [e1, h5, Int.toNat_natCast]
  rw [lim_two]
end Go.PG
namespace Go.PG
theorem lim_len_p2 {n k : Nat} (h : n < p2 (32 * k)) : (lim n).length ≤ k := lim_len (by rw [LB_p2, p2_pow]; exact h)
theorem len_big {x : Nat} (h : x ≤ p2 30000) : (lim x).length ≤ 1000 := lim_len_p2 (Nat.lt_of_le_of_lt h (p2_lt (by decide)))
theorem map_get {ns : List Nat} {i : Nat} (h : i < ns.length) : (ns.map lim).getD i [] = lim (ns.getD i 0) := by
  simp [List.getD_eq_getElem?_getD, h]
theorem map_set (ns : List Nat) (i x : Nat) : (ns.map lim).set i (lim x) = (ns.set i x).map lim := by rw [List.map_set]
theorem dotN_get {V : Nat → Nat} : ∀ {l : List Nat} {j i : Nat}, j < l.length → l.getD j 0 * V (i + j) ≤ dotN V l i
  | [], _, _, h => by simp at h
  | x :: l, 0, i, _ => by simp [dotN]
  | x :: l, j + 1, i, h => by
    have := dotN_get (V := V) (l := l) (j := j) (i := i + 1) (by simpa using h)
    simp only [List.getD_cons_succ, dotN]
    rw [show i + (j + 1) = i + 1 + j by omega]
    exact Nat.le_trans this (Nat.le_add_left _ _)
theorem dotN_le {V U : Nat → Nat} {C : Nat} : ∀ {l : List Nat} {i : Nat}, (∀ j, V j ≤ C * U j) → dotN V l i ≤ C * dotN U l i
  | [], _, _ => by simp [dotN]
  | x :: l, i, h => by
    simp only [dotN, Nat.mul_add]
    refine Nat.add_le_add ?_ (dotN_le h)
    rw [Nat.mul_left_comm]
    exact Nat.mul_le_mul_left _ (h i)
theorem attN_lin (k q : Nat) (W : Nat → Nat) (x : Nat) : ∀ (m f left : Nat), attN k q W m (x * f) left = x * attN k q W m f left
  | 0, _, _ => by simp [attN]
  | m + 1, f, left => by
    simp only [attN]
    split
    · simp
    · rw [Nat.mul_assoc x f q, attN_lin k q W x m, Nat.mul_add, Nat.mul_assoc]
theorem G28_25_eq {A B k q b : Nat} (hq : q ≤ p2 64) (hA : A ≤ 8) (hB : B ≤ 256) (hk64 : k ≤ 64) (hb : b ≤ B) :
    ∀ (d a w : Nat) (nx : List Nat) (mm : Nat), A + 1 - a = d → 1 ≤ a → a ≤ A + 1 → d < mm → w ≤ p2 (20000 + 64 * a) → nx.length = B + 1 →
      dotN (fun _ => 1) nx 0 + attN k q (fun _ => 1) d w (B - b - k * (a - 1)) ≤ p2 20000 → b + k * (a - 1) ≤ B →
      ∃ nx', nx'.length = B + 1 ∧ (∀ W : Nat → Nat, dotN (fun i => W (B - i)) nx' 0 = dotN (fun i => W (B - i)) nx 0 + attN k q W d w (B - b - k * (a - 1))) ∧
        ∀ (R : Type) (x1 : List Int) (x4 : List (List Int)) (x5 x6 : Int) (x12 : List Int) (k0 : List Int → Int → Int → List (List Int) → Int → Int → Int → List Int → Int → List Int → List (List Int) → Option R),
          G28_25 mm R x1 (B : Int) (A : Int) x4 x5 x6 (k : Int) (lim q) (b : Int) (lim w) (a : Int) x12 (nx.map lim) k0 = k0 x1 (B : Int) (A : Int) x4 x5 x6 (k : Int) (lim q) (b : Int) x12 (nx'.map lim) := by
  intro d
  induction d with
  | zero =>
    intro a w nx mm hd h1 ha hm hw hn ht hle
    obtain ⟨n, rfl⟩ : ∃ n, mm = n + 1 := ⟨mm - 1, by omega⟩
    refine ⟨nx, hn, fun W => by simp [attN], fun R x1 x4 x5 x6 x12 k0 => ?_⟩
    have hd : decide ((a : Int) ≤ (A : Int)) = false := decF (by omega)
    simp only [G28_25, p28_25, hd]
  | succ d ih =>
    intro a w nx mm hd h1 ha hm hw hn ht hle
    obtain ⟨n, rfl⟩ : ∃ n, mm = n + 1 := ⟨mm - 1, by omega⟩
    obtain ⟨a', rfl⟩ : ∃ a', a = a' + 1 := ⟨a - 1, by omega⟩
    rw [Nat.add_sub_cancel] at *
    have hka : k * (a' + 1) = k * a' + k := Nat.mul_succ k a'
    have hkle : k * (a' + 1) ≤ 64 * 9 := Nat.mul_le_mul hk64 (by omega)
    have hdA : decide (((a' + 1 : Nat) : Int) ≤ (A : Int)) = true := decT (by omega)
    have hc : (k : Int) * ((a' + 1 : Nat) : Int) = ((k * (a' + 1) : Nat) : Int) := by simp
    by_cases hin : b + k * (a' + 1) ≤ B
    · have hnl : ¬ (B - b - k * a' < k) := by omega
      have hat : ∀ W : Nat → Nat, attN k q W (d + 1) w (B - b - k * a') = w * W (B - (b + k * (a' + 1))) + attN k q W d (w * q) (B - b - k * (a' + 1)) := fun W => by
        simp only [attN, if_neg hnl]
        rw [show B - b - k * a' - k = B - (b + k * (a' + 1)) by omega, show B - b - k * (a' + 1) = B - (b + k * (a' + 1)) by omega]
      have hlt : b + k * (a' + 1) < nx.length := by omega
      have hset : ∀ W : Nat → Nat, dotN (fun i => W (B - i)) (nx.set (b + k * (a' + 1)) (nx.getD (b + k * (a' + 1)) 0 + w)) 0 = dotN (fun i => W (B - i)) nx 0 + w * W (B - (b + k * (a' + 1))) := fun W => by
        have := dotN_set (V := fun i => W (B - i)) (w := w) (l := nx) (i := 0) hlt
        rwa [Nat.zero_add] at this
      have ht2 : dotN (fun _ => 1) (nx.set (b + k * (a' + 1)) (nx.getD (b + k * (a' + 1)) 0 + w)) 0 + attN k q (fun _ => 1) d (w * q) (B - b - k * (a' + 1)) ≤ p2 20000 := by
        have e1 := hset (fun _ => 1)
        have e2 := hat (fun _ => 1)
        rw [e1, Nat.add_assoc]
        rw [e2] at ht
        exact ht
      have hwq : w * q ≤ p2 (20000 + 64 * (a' + 1 + 1)) := by
        rw [show 20000 + 64 * (a' + 1 + 1) = 20000 + 64 * (a' + 1) + 64 by omega, p2_add _ 64]
        exact Nat.mul_le_mul hw hq
      obtain ⟨nx', g1, g2, g3⟩ := ih (a' + 1 + 1) (w * q) (nx.set (b + k * (a' + 1)) (nx.getD (b + k * (a' + 1)) 0 + w)) n (by omega) (by omega) (by omega) (by omega) hwq (by simp [hn]) (by rw [Nat.add_sub_cancel]; exact ht2) (by rw [Nat.add_sub_cancel]; exact hin)
      rw [Nat.add_sub_cancel] at g2
      refine ⟨nx', g1, fun W => by rw [g2, hset, hat, Nat.add_assoc], fun R x1 x4 x5 x6 x12 k0 => ?_⟩
      have hd2 : decide (((b + k * (a' + 1) : Nat) : Int) ≤ (B : Int)) = true := decT (by omega)
      have hbn : bnd ((b + k * (a' + 1) : Nat) : Int) ((nx.map lim).length : Int) = true := bndN (by simpa using hlt)
      have hgl : nx.getD (b + k * (a' + 1)) 0 ≤ p2 20000 := by
        have := dotN_get (V := fun _ => 1) (l := nx) (i := 0) hlt
        rw [Nat.mul_one] at this
        exact Nat.le_trans this (Nat.le_trans (Nat.le_add_right _ _) ht)
      have hw3 : w ≤ p2 30000 := Nat.le_trans hw (p2_le (by omega))
      have hg3 : nx.getD (b + k * (a' + 1)) 0 ≤ p2 30000 := Nat.le_trans hgl (p2_le (by omega))
      have hq3 : q ≤ p2 30000 := Nat.le_trans hq (p2_le (by omega))
      have lw := len_big hw3
      have lg := len_big hg3
      have lq := len_big hq3
      simp only [G28_25, p28_25, hdA, hc]
      rw [wrap_i64 (n := ((k * (a' + 1) : Nat) : Int)) (by omega) (by omega), show (b : Int) + ((k * (a' + 1) : Nat) : Int) = ((b + k * (a' + 1) : Nat) : Int) by omega, wrap_i64 (n := ((b + k * (a' + 1) : Nat) : Int)) (by omega) (by omega)]
      simp only [hd2, hbn, Int.toNat_natCast]
      rw [map_get hlt, F72_eq R (lim_ok _) (lim_ok _) (by omega) (by omega), nv_lim, nv_lim, map_set, F71_eq R (lim_ok _) (lim_ok _) (by omega) (by omega), nv_lim, nv_lim, wrap_i64 (n := ((a' + 1 : Nat) : Int) + 1) (by omega) (by omega), show ((a' + 1 : Nat) : Int) + 1 = ((a' + 1 + 1 : Nat) : Int) by omega]
      exact g3 R x1 x4 x5 x6 x12 k0
    · have hlt : B - b - k * a' < k := by omega
      have hd2 : decide (((b + k * (a' + 1) : Nat) : Int) ≤ (B : Int)) = false := decF (by omega)
      refine ⟨nx, hn, fun W => by simp only [attN, if_pos hlt, Nat.add_zero], fun R x1 x4 x5 x6 x12 k0 => ?_⟩
      simp only [G28_25, p28_25, hdA, hc]
      rw [wrap_i64 (n := ((k * (a' + 1) : Nat) : Int)) (by omega) (by omega), show (b : Int) + ((k * (a' + 1) : Nat) : Int) = ((b + k * (a' + 1) : Nat) : Int) by omega, wrap_i64 (n := ((b + k * (a' + 1) : Nat) : Int)) (by omega) (by omega)]
      simp only [hd2]
theorem G28_21_eq {A B k q s : Nat} (hq : q ≤ p2 64) (hA : A ≤ 8) (hB : B ≤ 256) (hk64 : k ≤ 64) (hs0 : s < 18446744073709551616) {ns : List Nat} (hns : ns.length = B + 1) (hn0 : ∀ j, ns.getD j 0 ≤ p2 20000) {rest : List Int} {x : Nat} (hx : x < rest.length) (hsx : rest.getD x 0 = (s : Int)) :
    ∀ (d b : Nat) (nx : List Nat) (mm : Nat), B + 1 - b = d → b ≤ B + 1 → d < mm → nx.length = B + 1 →
      dotN (fun _ => 1) nx 0 + dotN (fun i => attN k q (fun _ => 1) A s (B - i)) (ns.drop b) b ≤ p2 20000 →
      ∃ nx', nx'.length = B + 1 ∧ (∀ W : Nat → Nat, dotN (fun i => W (B - i)) nx' 0 = dotN (fun i => W (B - i)) nx 0 + dotN (fun i => attN k q W A s (B - i)) (ns.drop b) b) ∧
        ∀ (R : Type) (x1 : List Int) (x5 : Int) (k0 : List Int → Int → Int → Int → Int → List Int → List (List Int) → Option R),
          G28_21 mm R x1 (B : Int) (A : Int) (ns.map lim) x5 (x : Int) (k : Int) (lim q) (b : Int) rest (nx.map lim) k0 = k0 x1 (B : Int) (A : Int) x5 (x : Int) rest (nx'.map lim) := by
  intro d
  have hs : s ≤ p2 64 := Nat.le_of_lt (by rw [← p2_two]; exact hs0)
  induction d with
  | zero =>
    intro b nx mm hd hb hm hn ht
    obtain ⟨n, rfl⟩ : ∃ n, mm = n + 1 := ⟨mm - 1, by omega⟩
    refine ⟨nx, hn, fun W => by rw [List.drop_of_length_le (by omega)]; rfl, fun R x1 x5 k0 => ?_⟩
    have hd : decide ((b : Int) ≤ (B : Int)) = false := decF (by omega)
    simp only [G28_21, p28_21, hd]
  | succ d ih =>
    intro b nx mm hd hb hm hn ht
    obtain ⟨n, rfl⟩ : ∃ n, mm = n + 1 := ⟨mm - 1, by omega⟩
    have hbn : b < ns.length := by omega
    have hdr : ns.drop b = ns.getD b 0 :: ns.drop (b + 1) := by
      rw [List.drop_eq_getElem_cons hbn]
      congr 1
      rw [List.getD_eq_getElem?_getD, List.getElem?_eq_getElem hbn]; rfl
    have hw : ns.getD b 0 * s ≤ p2 (20000 + 64 * 1) := by
      rw [show 20000 + 64 * 1 = 20000 + 64 by omega, p2_add]
      exact Nat.mul_le_mul (hn0 b) hs
    have hat : ∀ W : Nat → Nat, dotN (fun i => attN k q W A s (B - i)) (ns.drop b) b = attN k q W A (ns.getD b 0 * s) (B - b) + dotN (fun i => attN k q W A s (B - i)) (ns.drop (b + 1)) (b + 1) := fun W => by
      rw [hdr]
      simp only [dotN]
      rw [attN_lin]
    have h0 : B - b - k * (1 - 1) = B - b := by simp
    obtain ⟨nx1, g1, g2, g3⟩ := G28_25_eq (A := A) (B := B) (k := k) (q := q) (b := b) hq hA hB hk64 (by omega) A 1 (ns.getD b 0 * s) nx FUEL (by omega) (by omega) (by omega) (by rw [FUEL_eq]; omega) hw hn
      (by rw [h0]; rw [hat] at ht; exact Nat.le_trans (by rw [← Nat.add_assoc]; exact Nat.le_add_right _ _) ht) (by simp; omega)
    rw [h0] at g2
    obtain ⟨nx2, e1, e2, e3⟩ := ih (b + 1) nx1 n (by omega) (by omega) (by omega) g1 (by
      have := g2 (fun _ => 1)
      rw [this]
      rw [hat] at ht
      rw [Nat.add_assoc]; exact ht)
    refine ⟨nx2, e1, fun W => by rw [e2, g2, hat, Nat.add_assoc], fun R x1 x5 k0 => ?_⟩
    have hdB : decide ((b : Int) ≤ (B : Int)) = true := decT (by omega)
    have hb2 : bnd (b : Int) ((ns.map lim).length : Int) = true := bndN (by simpa using hbn)
    have hb3 : bnd (x : Int) (rest.length : Int) = true := bndN hx
    have l1 := len_big (Nat.le_trans (hn0 b) (p2_le (by decide)))
    have l2 := len_big (Nat.le_trans hs (p2_le (by decide)))
    simp only [G28_21, p28_21, hdB, hb2, hb3, Int.toNat_natCast]
    rw [hsx, F70_eq R hs0, map_get hbn, F71_eq R (lim_ok _) (lim_ok _) (by omega) (by omega), nv_lim, nv_lim]
    have hg3 := g3 R x1 (ns.map lim) x5 (x : Int) rest (fun x17 x18 x19 x20 x21 x22 x23 x24 x25 x26 x27 => G28_21 n R x17 x18 x19 x20 x21 x22 x23 x24 (IntKind.i64.wrap (x25 + (1 : Int))) x26 x27 k0)
    refine hg3.trans ?_
    rw [wrap_i64 (n := (b : Int) + 1) (by omega) (by omega), show (b : Int) + 1 = ((b + 1 : Nat) : Int) by omega]
    exact e3 R x1 x5 k0
end Go.PG
namespace Go.PG
theorem F51_eq (R : Type) {l : List Int} (h : LOk l) (k : Int → Int → Option R) : F51 R l k = k (totS l) 0 := by
  simp only [F51, p51]
  rw [F52_eq' R h.u h.n, if_pos h.t]; rfl
theorem zmap (n : Nat) : List.replicate n ([] : List Int) = (List.replicate n 0).map lim := by simp [lim_zero]
theorem one_le {B : Nat} : ∀ x : Nat, (1 : Nat) ≤ 1 * 2 ^ x := fun x => by rw [Nat.one_mul]; exact Nat.pow_pos (by decide)
theorem G28_10_eq {A B : Nat} (hA : A ≤ 8) (hB : B ≤ 256) (ms : List Int) (hms : ms.length ≤ 16) : ∀ (m j : Nat) (ns : List Nat) (rest : List Int), j ≤ ms.length → ms.length - j < m → ns.length = B + 1 → dotN (fun _ => 1) ns 0 ≤ p2 (300 * j) → LOk rest →
    match partsS (ms.drop j) rest with
    | none => ∀ (R : Type) (k0 : Int → Option R) (k1 : Int → List (List Int) → Option R), G28_10 m R ms (B : Int) (A : Int) (ns.map lim) (j : Int) rest k0 k1 = k0 0
    | some ps => ∃ nx : List Nat, nx.length = B + 1 ∧ dotN (fun _ => 1) nx 0 ≤ p2 5000 ∧ dotN (fun i => 2 ^ (B - i)) nx 0 = dotN (fun i => wayN A ps (B - i)) ns 0 ∧
        ∀ (R : Type) (k0 : Int → Option R) (k1 : Int → List (List Int) → Option R), G28_10 m R ms (B : Int) (A : Int) (ns.map lim) (j : Int) rest k0 k1 = k1 (B : Int) (nx.map lim)
  | 0, j, ns, rest, _, h, _, _, _ => by omega
  | m + 1, j, ns, rest, h1, h2, hn, ht, hr => by
    by_cases hj : j < ms.length
    · have hd : decide ((j : Int) < (ms.length : Int)) = true := decT (by omega)
      have hdrop : ms.drop j = ms.getD j 0 :: ms.drop (j + 1) := by
        rw [List.drop_eq_getElem_cons hj]
        congr 1
        rw [List.getD_eq_getElem?_getD, List.getElem?_eq_getElem hj]; rfl
      rw [hdrop]
      generalize hx0 : ms.getD j 0 = x
      simp only [partsS]
      by_cases hx : 0 ≤ x ∧ x < (rest.length : Int) ∧ rest.getD x.toNat 0 ≠ 0
      · rw [if_pos hx]
        have hx' : x.toNat < rest.length := by omega
        obtain ⟨n1, n2⟩ := hr.need
        have hg := hr.get hx'
        have htt := hr.t
        have hnn := hr.nn
        obtain ⟨s, hs⟩ : ∃ s : Nat, s = (rest.getD x.toNat 0).toNat := ⟨_, rfl⟩
        obtain ⟨k, hk⟩ : ∃ k, k = needS (totS rest) := ⟨_, rfl⟩
        obtain ⟨q, hqd⟩ : ∃ q : Nat, q = 2 ^ k - (totS rest).toNat := ⟨_, rfl⟩
        rw [← hk] at n1 n2
        have hqk : q ≤ 2 ^ k := by rw [hqd]; exact Nat.sub_le _ _
        have hsk : s ≤ 2 ^ (k + 0) := by rw [Nat.add_zero]; exact Nat.le_trans (by omega) n2
        have hq64 : q ≤ p2 64 := Nat.le_trans hqk (by rw [p2_two]; exact p2_le n1)
        have hsx : rest.getD x.toNat 0 = (s : Int) := by omega
        have hone : ∀ i, attN k q (fun _ => 1) A s (B - i) ≤ p2 259 * (fun _ => 1) i := fun i => by
          have := attN_le (C := 1) (W := fun _ => 1) (fun x => one_le (B := B) x) hqk A s (B - i) 0 hsk
          rw [Nat.mul_one, Nat.add_zero, Nat.one_mul] at *
          refine Nat.le_trans this (Nat.le_trans (Nat.mul_le_mul (show A ≤ p2 3 by rw [← p2_two]; exact hA) (show 2 ^ (B - i) ≤ p2 256 by rw [p2_two]; exact p2_le (by omega))) ?_)
          rw [← p2_add]
          exact Nat.le_refl _
        have htot : dotN (fun i => attN k q (fun _ => 1) A s (B - i)) ns 0 ≤ p2 (300 * (j + 1)) := by
          refine Nat.le_trans (dotN_le hone) (Nat.le_trans (Nat.mul_le_mul_left _ ht) ?_)
          rw [← p2_add]
          exact p2_le (by omega)
        have hn0 : ∀ i, ns.getD i 0 ≤ p2 20000 := fun i => by
          rcases Nat.lt_or_ge i ns.length with h | h
          · have := dotN_get (V := fun _ => 1) (l := ns) (i := 0) h
            rw [Nat.mul_one] at this
            exact Nat.le_trans this (Nat.le_trans ht (p2_le (by omega)))
          · rw [List.getD_eq_getElem?_getD, List.getElem?_eq_none h]; exact Nat.zero_le _
        obtain ⟨nx, g1, g2, g3⟩ := G28_21_eq (A := A) (B := B) (k := k) (q := q) (s := s) hq64 hA hB n1 (by omega) hn hn0 hx' hsx (B + 1) 0 (List.replicate (B + 1) 0) FUEL (by omega) (by omega) (by rw [FUEL_eq]; omega) (by simp)
          (by rw [dotN_zeros, Nat.zero_add, List.drop_zero]; exact Nat.le_trans htot (p2_le (by omega)))
        rw [List.drop_zero] at g2
        have hb1 : dotN (fun _ => 1) nx 0 ≤ p2 (300 * (j + 1)) := by
          have := g2 (fun _ => 1)
          rw [dotN_zeros, Nat.zero_add] at this
          rw [this]; exact htot
        have ih := G28_10_eq hA hB ms hms m (j + 1) nx (rest.set x.toNat 0) (by omega) (by omega) g1 hb1 (hr.set hx')
        have step : ∀ (R : Type) (k0 : Int → Option R) (k1 : Int → List (List Int) → Option R), G28_10 (m + 1) R ms (B : Int) (A : Int) (ns.map lim) (j : Int) rest k0 k1 = G28_10 m R ms (B : Int) (A : Int) (nx.map lim) ((j + 1 : Nat) : Int) (rest.set x.toNat 0) k0 k1 := by
          intro R k0 k1
          simp only [G28_10, p28_10, hd, bndN hj, Int.toNat_natCast]
          simp only [hx0]
          have d1 : decide (x < 0) = false := decF (by omega)
          have d2 : decide (x ≥ (rest.length : Int)) = false := decF (by omega)
          have b1 : bnd x (rest.length : Int) = true := by unfold bnd; simp; omega
          have b0 : (rest.getD x.toNat 0 == 0) = false := by simp only [beq_eq_false_iff_ne, ne_eq]; exact hx.2.2
          simp only [d1, d2, b1, b0]
          have e2 : totS rest = (((totS rest).toNat : Nat) : Int) := by omega
          have hF2 : ∀ k : List Int → Option R, F70 R (totS rest) k = k (lim (totS rest).toNat) := fun k => by
            have := F70_eq R (n := (totS rest).toNat) (by omega) k
            rwa [← e2] at this
          rw [F51_eq R hr, F67_eq R hr.u64, ← hk, F68_eq R (by omega), hF2, F69_eq R (lt_big (Nat.le_trans (by rw [p2_two]; exact p2_le n1) (p2_le (show 64 ≤ 1200 by decide)))) n2, ← hqd, wrap_i64 (n := (B : Int) + 1) (by omega) (by omega), show (B : Int) + 1 = ((B + 1 : Nat) : Int) by omega]
          have h3 : decide ((0 : Int) ≤ ((B + 1 : Nat) : Int) ∧ ((B + 1 : Nat) : Int) ≤ ((B + 1 : Nat) : Int) ∧ ((B + 1 : Nat) : Int) ≤ 5864062014805) = true := decT (by omega)
          simp only [h3, Int.toNat_natCast]
          rw [zmap]
          have hxx : ((x.toNat : Nat) : Int) = x := by omega
          have := g3 R ms (j : Int) (fun x25 x26 x27 x28 x29 x30 x31 => match bnd x29 (x30.length : Int) with
            | true => G28_10 m R x25 x26 x27 x31 (IntKind.i64.wrap (x28 + 1)) (List.set x30 (Int.toNat x29) 0) k0 k1
            | false => none)
          rw [hxx] at this
          refine this.trans ?_
          simp only [b1]
          rw [wrap_i64 (n := (j : Int) + 1) (by omega) (by omega), show (j : Int) + 1 = ((j + 1 : Nat) : Int) by omega]
        cases hp : partsS (ms.drop (j + 1)) (rest.set x.toNat 0) with
        | none =>
          rw [hp] at ih
          simp only at ih ⊢
          intro R k0 k1
          rw [step, ih]
        | some ps =>
          rw [hp] at ih
          simp only at ih ⊢
          obtain ⟨nx2, e1, e2, e3, e4⟩ := ih
          refine ⟨nx2, e1, e2, ?_, fun R k0 k1 => by rw [step, e4]⟩
          rw [e3]
          have hW : dotN (fun i => wayN A (partOf rest x :: ps) (B - i)) ns 0 = dotN (fun i => attN k q (wayN A ps) A s (B - i)) ns 0 := by
            rw [hqd, hs, hk]; rfl
          rw [hW]
          have h7 := g2 (wayN A ps)
          rw [dotN_zeros, Nat.zero_add] at h7
          exact h7
      · rw [if_neg hx]
        intro R k0 k1
        simp only [G28_10, p28_10, hd, bndN hj, Int.toNat_natCast]
        simp only [hx0]
        by_cases c1 : x < 0
        · simp only [decT c1]
        · simp only [decF c1]
          by_cases c2 : x ≥ (rest.length : Int)
          · simp only [decT c2]
          · have b1 : bnd x (rest.length : Int) = true := by unfold bnd; simp; omega
            have b0 : (rest.getD x.toNat 0 == 0) = true := by
              simp only [beq_iff_eq]
              exact Classical.byContradiction fun h => hx ⟨by omega, by omega, h⟩
            simp only [decF c2, b1, b0]
    · have : j = ms.length := by omega
      subst this
      rw [List.drop_length]
      simp only [partsS]
      refine ⟨ns, hn, Nat.le_trans ht (p2_le (by omega)), rfl, fun R k0 k1 => ?_⟩
      have hd : decide ((ms.length : Int) < (ms.length : Int)) = false := by simp
      simp only [G28_10, p28_10, hd]
theorem G28_32_eq (R : Type) {B : Nat} (hB : B ≤ 256) {ns : List Nat} (hn : ns.length = B + 1) {k0 : List Int → Option R} : ∀ (d b sum mm : Nat), B + 1 - b = d → b ≤ B + 1 → d < mm → sum + dotN (fun i => 2 ^ (B - i)) (ns.drop b) b ≤ p2 20000 →
    G28_32 mm R (B : Int) (ns.map lim) (lim sum) (b : Int) k0 = k0 (lim (sum + dotN (fun i => 2 ^ (B - i)) (ns.drop b) b)) := by
  intro d
  induction d with
  | zero =>
    intro b sum mm hd hb hm ht
    obtain ⟨n, rfl⟩ : ∃ n, mm = n + 1 := ⟨mm - 1, by omega⟩
    have hd : decide ((b : Int) ≤ (B : Int)) = false := decF (by omega)
    simp only [G28_32, p28_32, hd]
    rw [List.drop_of_length_le (by omega)]; rfl
  | succ d ih =>
    intro b sum mm hd hb hm ht
    obtain ⟨n, rfl⟩ : ∃ n, mm = n + 1 := ⟨mm - 1, by omega⟩
    have hbn : b < ns.length := by omega
    have hdr : ns.drop b = ns.getD b 0 :: ns.drop (b + 1) := by
      rw [List.drop_eq_getElem_cons hbn]
      congr 1
      rw [List.getD_eq_getElem?_getD, List.getElem?_eq_getElem hbn]; rfl
    have hdB : decide ((b : Int) ≤ (B : Int)) = true := decT (by omega)
    have hb2 : bnd (b : Int) ((ns.map lim).length : Int) = true := bndN (by simpa using hbn)
    rw [hdr] at ht ⊢
    simp only [dotN] at ht ⊢
    rw [← Nat.add_assoc] at ht ⊢
    have t1 : sum + ns.getD b 0 * 2 ^ (B - b) ≤ p2 20000 := Nat.le_trans (Nat.le_add_right _ _) ht
    have t2 : sum ≤ p2 20000 := Nat.le_trans (Nat.le_add_right _ _) t1
    have t3 : ns.getD b 0 * 2 ^ (B - b) ≤ p2 20000 := Nat.le_trans (Nat.le_add_left _ _) t1
    have t4 : ns.getD b 0 ≤ p2 20000 := Nat.le_trans (Nat.le_mul_of_pos_right _ (Nat.pow_pos (by decide))) t3
    have t5 : 2 ^ (B - b) ≤ p2 20000 := by rw [p2_two]; exact p2_le (by omega)
    have w := p2_le (show 20000 ≤ 30000 by decide)
    have l2 := len_big (Nat.le_trans t2 w)
    have l3 := len_big (Nat.le_trans t3 w)
    have l4 := len_big (Nat.le_trans t4 w)
    have l5 := len_big (Nat.le_trans t5 w)
    simp only [G28_32, p28_32, hdB]
    rw [wrap_i64 (n := (B : Int) - (b : Int)) (by omega) (by omega), show (B : Int) - (b : Int) = ((B - b : Nat) : Int) by omega, F68_eq R (by omega)]
    simp only [hb2, Int.toNat_natCast]
    rw [map_get hbn, F71_eq R (lim_ok _) (lim_ok _) (by omega) (by omega), nv_lim, nv_lim, F72_eq R (lim_ok _) (lim_ok _) (by omega) (by omega), nv_lim, nv_lim, wrap_i64 (n := (b : Int) + 1) (by omega) (by omega), show (b : Int) + 1 = ((b + 1 : Nat) : Int) by omega]
    exact ih (b + 1) _ n (by omega) (by omega) (by omega) ht
theorem lim_one : lim 1 = [1] := by
  rw [lim_pos (by decide), Nat.mod_eq_of_lt LB_one, Nat.div_eq_of_lt LB_one]; rfl
theorem F28_eq (R : Type) {l : List Int} (h : AllU64 l) (hl : l.length ≤ 1000000) (ms : List Int) (bits a : Int) (k : List Int → Int → Option R) : F28 R ms bits a l k = k (waysS ms bits a l).1 (waysS ms bits a l).2 := by
  simp only [F28, p28]
  unfold waysS
  by_cases h1 : (ms.length : Int) > 16
  · rw [if_pos (.inl h1)]; simp only [decT h1]
  · simp only [decF h1]
    by_cases h2 : bits < 0
    · rw [if_pos (.inr (.inl h2))]; simp only [decT h2]
    · simp only [decF h2]
      by_cases h3 : bits > 256
      · rw [if_pos (.inr (.inr (.inl h3)))]; simp only [decT h3]
      · simp only [decF h3]
        by_cases h4 : a < 1
        · rw [if_pos (.inr (.inr (.inr (.inl h4))))]; simp only [decT h4]
        · simp only [decF h4]
          by_cases h5 : a > 8
          · rw [if_pos (.inr (.inr (.inr (.inr h5))))]; simp only [decT h5]
          · simp only [decF h5]
            rw [if_neg (by omega)]
            by_cases ht : totS l < 9223372036854775808
            · rw [if_pos ht, F51_eq R ⟨h, ht, hl⟩]
              have n0 : ((0 : Int) != 0) = false := rfl
              obtain ⟨B, hB⟩ : ∃ B : Nat, bits = (B : Int) := ⟨bits.toNat, by omega⟩
              obtain ⟨A, hA⟩ : ∃ A : Nat, a = (A : Int) := ⟨a.toNat, by omega⟩
              subst hB hA
              rw [wrap_i64 (n := (B : Int) + 1) (by omega) (by omega), show (B : Int) + 1 = ((B + 1 : Nat) : Int) by omega]
              have c1 : decide (([] : List Int).length + l.length ≤ 17592186044416) = true := decT (by simp; omega)
              have c2 : decide ((0 : Int) ≤ ((B + 1 : Nat) : Int) ∧ ((B + 1 : Nat) : Int) ≤ ((B + 1 : Nat) : Int) ∧ ((B + 1 : Nat) : Int) ≤ 5864062014805) = true := decT (by omega)
              simp only [n0, c1, c2, Int.toNat_natCast, List.nil_append]
              have c3 : bnd (0 : Int) ((List.replicate (B + 1) ([] : List Int)).length : Int) = true := by
                have := bndN (i := 0) (n := (List.replicate (B + 1) ([] : List Int)).length) (by simp)
                exact this
              simp only [c3]
              have c4 : (List.replicate (B + 1) ([] : List Int)).set 0 [1] = ((List.replicate (B + 1) 0).set 0 1).map lim := by
                rw [zmap, ← lim_one, map_set]
              rw [c4]
              have hdv : ∀ V : Nat → Nat, dotN V ((List.replicate (B + 1) 0).set 0 1) 0 = V 0 := fun V => by
                rw [List.replicate_succ, List.set_cons_zero]
                simp [dotN, dotN_zeros]
              have key := G28_10_eq (A := A) (B := B) (by omega) (by omega) ms (by omega) FUEL 0 ((List.replicate (B + 1) 0).set 0 1) l (by omega) (by rw [FUEL_eq]; omega) (by simp) (by rw [hdv, ← p2_two]; simp) ⟨h, ht, hl⟩
              rw [List.drop_zero] at key
              cases hp : partsS ms l with
              | none =>
                rw [hp] at key
                exact key R _ _
              | some ps =>
                rw [hp] at key
                obtain ⟨nx, g1, g2, g3, g4⟩ := key
                refine (g4 R _ _).trans ?_
                rw [hdv] at g3
                have hlast := G28_32_eq R (B := B) (by omega) g1 (k0 := fun x19 => k x19 0) (B + 1) 0 0 FUEL (by omega) (by omega) (by rw [FUEL_eq]; omega) (by
                  rw [Nat.zero_add, List.drop_zero]
                  refine Nat.le_trans (dotN_le (U := fun _ => 1) (C := p2 256) (fun j => by rw [Nat.mul_one, p2_two]; exact p2_le (by omega))) (Nat.le_trans (Nat.mul_le_mul_left _ g2) ?_)
                  rw [← p2_add]
                  exact p2_le (by decide))
                refine hlast.trans ?_
                rw [List.drop_zero, g3, Nat.zero_add]
                rfl
            · rw [if_neg ht]
              simp only [F51, p51]
              rw [F52_eq' R h hl, if_neg ht]; rfl
end Go.PG
namespace Go.PG
theorem G21_eq' (R : Type) (l r : List Int) (hl : l.length ≤ 1000000) (hr : l.length = r.length) (k0 : Bool → Option R) (k1 : Option R) : ∀ (m i : Nat), i ≤ l.length → l.length - i < m → l.take i = r.take i →
    G21_4 m R l r (i : Int) k0 k1 = if l = r then k1 else k0 false
  | 0, i, _, h, _ => by omega
  | m + 1, i, h1, h2, h3 => by
    simp only [G21_4, p21_4]
    by_cases hi : i < l.length
    · have hd : decide ((i : Int) < (l.length : Int)) = true := decide_eq_true (by omega)
      have hbn : bnd (i : Int) (l.length : Int) = true := by unfold bnd; simp; omega
      have hbr : bnd (i : Int) (r.length : Int) = true := by unfold bnd; simp; omega
      simp only [hd, hbn, hbr, Int.toNat_natCast]
      by_cases he : l.getD i 0 = r.getD i 0
      · have e1 : (l.getD i 0 != r.getD i 0) = false := by rw [he]; simp
        simp only [e1]
        rw [wrap_i64 (n := (i : Int) + 1) (by omega) (by omega)]
        refine G21_eq' R l r hl hr k0 k1 m (i + 1) (by omega) (by omega) ?_
        rw [List.take_succ_eq_append_getElem hi, List.take_succ_eq_append_getElem (by omega), h3]
        congr 2
        simpa [hi, show i < r.length by omega] using he
      · have e1 : (l.getD i 0 != r.getD i 0) = true := by simpa using he
        simp only [e1]
        rw [if_neg (fun e => he (by rw [e]))]
    · have : i = l.length := by omega
      subst this
      have hd : decide ((l.length : Int) < (l.length : Int)) = false := by simp
      simp only [hd]
      rw [List.take_length, hr, List.take_length] at h3
      rw [if_pos h3]
theorem F21_eq (R : Type) (l r : List Int) (hl : l.length ≤ 1000000) (k : Bool → Option R) : F21 R l r k = k (decide (l = r)) := by
  simp only [F21, p21]
  by_cases hr : l.length = r.length
  · have e : ((l.length : Int) != (r.length : Int)) = false := by rw [hr]; simp
    simp only [e]
    have := G21_eq' R l r hl hr (fun x4 => k x4) (k true) FUEL 0 (by omega) (by rw [FUEL_eq]; omega) (by simp)
    refine Eq.trans ?_ (this.trans ?_)
    · rfl
    by_cases h : l = r
    · rw [if_pos h, decide_eq_true h]
    · rw [if_neg h, decide_eq_false h]
  · have e : ((l.length : Int) != (r.length : Int)) = true := by
      have : ¬ (l.length : Int) = (r.length : Int) := by omega
      simpa using this
    simp only [e]
    rw [decide_eq_false (fun h => hr (by rw [h]))]
theorem G29_eq' (R : Type) (l r : List Int) (hl : l.length ≤ 1000000) (hr : l.length = r.length) (k0 : Bool → Option R) (k1 : Option R) : ∀ (m i : Nat), i ≤ l.length → l.length - i < m → l.take i = r.take i →
    G29_4 m R l r (i : Int) k0 k1 = if l = r then k1 else k0 false
  | 0, i, _, h, _ => by omega
  | m + 1, i, h1, h2, h3 => by
    simp only [G29_4, p29_4]
    by_cases hi : i < l.length
    · have hd : decide ((i : Int) < (l.length : Int)) = true := decide_eq_true (by omega)
      have hbn : bnd (i : Int) (l.length : Int) = true := by unfold bnd; simp; omega
      have hbr : bnd (i : Int) (r.length : Int) = true := by unfold bnd; simp; omega
      simp only [hd, hbn, hbr, Int.toNat_natCast]
      by_cases he : l.getD i 0 = r.getD i 0
      · have e1 : (l.getD i 0 != r.getD i 0) = false := by rw [he]; simp
        simp only [e1]
        rw [wrap_i64 (n := (i : Int) + 1) (by omega) (by omega)]
        refine G29_eq' R l r hl hr k0 k1 m (i + 1) (by omega) (by omega) ?_
        rw [List.take_succ_eq_append_getElem hi, List.take_succ_eq_append_getElem (by omega), h3]
        congr 2
        simpa [hi, show i < r.length by omega] using he
      · have e1 : (l.getD i 0 != r.getD i 0) = true := by simpa using he
        simp only [e1]
        rw [if_neg (fun e => he (by rw [e]))]
    · have : i = l.length := by omega
      subst this
      have hd : decide ((l.length : Int) < (l.length : Int)) = false := by simp
      simp only [hd]
      rw [List.take_length, hr, List.take_length] at h3
      rw [if_pos h3]
theorem F29_eq (R : Type) (l r : List Int) (hl : l.length ≤ 1000000) (k : Bool → Option R) : F29 R l r k = k (decide (l = r)) := by
  simp only [F29, p29]
  by_cases hr : l.length = r.length
  · have e : ((l.length : Int) != (r.length : Int)) = false := by rw [hr]; simp
    simp only [e]
    have := G29_eq' R l r hl hr (fun x4 => k x4) (k true) FUEL 0 (by omega) (by rw [FUEL_eq]; omega) (by simp)
    refine Eq.trans ?_ (this.trans ?_)
    · rfl
    by_cases h : l = r
    · rw [if_pos h, decide_eq_true h]
    · rw [if_neg h, decide_eq_false h]
  · have e : ((l.length : Int) != (r.length : Int)) = true := by
      have : ¬ (l.length : Int) = (r.length : Int) := by omega
      simpa using this
    simp only [e]
    rw [decide_eq_false (fun h => hr (by rw [h]))]
theorem ways_len (ms : List Int) (bits a : Int) {l : List Int} (hu : AllU64 l) (hn : l.length ≤ 1000000) : (waysS ms bits a l).1.length ≤ 1000000 := by
  unfold waysS
  split
  · simp
  · rename_i h
    split
    · rename_i ht
      split
      · rename_i ps hps
        obtain ⟨q1, q2, q3⟩ := partsS_fine (A := a.toNat) (by omega) ⟨hu, ht, hn⟩ hps (by omega)
        have hw := Fine.way (A := a.toNat) (ps := ps) ⟨by omega, by omega, q2, q3⟩ 0 (l := bits.toNat) (by omega)
        rw [List.drop_zero] at hw
        have := len_big (Nat.le_trans hw (p2_le (by decide)))
        show (lim _).length ≤ _
        omega
      · simp
    · simp
theorem al17a : partsS [2, 0] [1, 0, 1] = some [(1, 1, 0), (1, 0, 0)] := by kernel_rfl
theorem al17b : partsS [0, 0] [1, 0, 1] = none := by kernel_rfl
theorem al17w : waysS [2, 0] 3 1 [1, 0, 1] = ([4], 0) := by
  unfold waysS
  rw [if_neg (by decide), if_pos (by decide), al17a]
  have : wayN (Int.toNat 1) [(1, 1, 0), (1, 0, 0)] (Int.toNat 3) = 4 := by decide
  simp only [this]
  have hL := LB_eq
  rw [lim_pos (by decide), Nat.mod_eq_of_lt (by omega), Nat.div_eq_of_lt (by omega)]; rfl
theorem al17v : waysS [0, 0] 3 1 [1, 0, 1] = ([], 0) := by
  unfold waysS
  rw [if_neg (by decide), if_pos (by decide), al17b]
theorem F18_eq (R : Type) (k : Bool → Option R) : F18 R k = k true := by
  have u128 : AllU8 [128] := by unfold AllU8 U8; decide
  have n8 : U64 8 := by unfold U64; decide
  have a1 : AllU64 [1, 0, 1] := by unfold AllU64 U64; decide
  have s1 := tapeSrc_ok u128 (by simp) n8
  have ht1 : totS [1, 0, 1] < 9223372036854775808 := by decide
  simp only [F18, p18]
  rw [F39_eq R (by simp)]
  have t1 : tapeR [128] 8 = (tapeSrc [128] 8, 0) := by kernel_rfl
  simp only [t1]
  have c1 : comR [1, 0, 1] 2 (tapeSrc [128] 8) 1 = ([2, 0], setAt (tapeSrc [128] 8) 1, 0) := by kernel_rfl
  have c2 : comL [1, 0, 1] 2 (tapeSrc [128] 8) 1 = ([2, 0], setAt (tapeSrc [128] 8) 1, 0) := by kernel_rfl
  have c3 : comR [1, 0, 1] 3 (tapeSrc [128] 8) 1 = ([], tapeSrc [128] 8, 12) := by kernel_rfl
  have c4 : comR [1, 0, 1] 257 (tapeSrc [128] 8) 1 = ([], tapeSrc [128] 8, 1) := by kernel_rfl
  have c5 : comR [1, 0, 1] 0 (tapeSrc [128] 8) 1 = ([], tapeSrc [128] 8, 0) := by kernel_rfl
  rw [F26_eq R a1 ht1 (by simp), F23_eq R a1 ht1 (by simp) s1, c1]
  simp only []
  rw [F19_eq R a1 (by simp) s1, c2]
  simp only []
  rw [F23_eq R a1 ht1 (by simp) s1, c3]
  simp only []
  rw [F23_eq R a1 ht1 (by simp) s1, c4]
  simp only []
  rw [F27_eq R a1 (by simp), al17w]
  simp only []
  rw [F27_eq R a1 (by simp), al17v]
  simp only []
  rw [F23_eq R a1 ht1 (by simp) s1, c5]
  have e1 : ((0 : Int) == 0) = true := rfl
  have e2 : ((12 : Int) == 12) = true := rfl
  have e3 : ((1 : Int) == 1) = true := rfl
  simp only [e1, e2, e3]
  rw [F21_eq R _ _ (by simp)]
  simp only [decide_true]
  rw [F21_eq R _ _ (by simp)]
  simp only [decide_true]
  have e4 : ((setAt (tapeSrc [128] 8) 1).2.2.2.2.2.1 == 1) = true := rfl
  have e5 : ((tapeSrc [128] 8).2.2.2.2.2.1 == 0) = true := rfl
  simp only [e4, e5]
  rw [F29_eq R _ _ (by simp)]
  simp only [decide_true]
  rfl
theorem F7_eq (R : Type) (ms p : List Int) {l : List Int} (h : AllU64 l) (k : Bool → Option R) : F7 R ms p l k = k true := by
  simp only [F7, p7]
  rw [F18_eq]
  simp only [Bool.not_true]
  by_cases hl : (l.length : Int) > 60
  · simp only [decT hl]
  · simp only [decF hl]
    by_cases hm : (ms.length : Int) > 30
    · simp only [decT hm]
    · simp only [decF hm]
      have hc : decide (List.length ([] : List Int) + ms.length ≤ 17592186044416) = true := by simp; omega
      simp only [hc, List.nil_append]
      rw [F27_eq R h (by omega), F28_eq R h (by omega), F29_eq R _ _ (ways_len _ _ _ h (by omega))]
      simp only [decide_true, beq_self_eq_true]
      rw [F21_eq R _ _ (by omega)]
      simp only [decide_true]
end Go.PG
