/- A part of the proof over this seat (own work; the framework that reads a Go function as a pure one, or a use of it). No condition of its own. -/
import Derived.Test.YtapdakmnlclboaaGreatA6
import Derived.KernelRfl
set_option linter.unusedVariables false
set_option linter.unusedSimpArgs false
set_option linter.unusedSectionVars false
namespace Go.PG
theorem F193_eq (R : Type) {x : Int} (hx : U32 x) {r : Nat} (h0 : 0 < r) (hr : r < 32) (k : Int → Option R) : F193 R x (r : Int) k = k (rotS x r) := by
  simp only [F193, p193]
  rw [wrap_u64 (n := (r : Int)) (by omega) (by omega), Int.tmod_eq_of_lt (by omega) (by omega), wrap_u64 (by omega) (by omega)]
  rw [show decide (0 ≤ (r : Int)) = true by simp, show decide (0 ≤ (32 : Int) - r) = true by simp; omega]
  simp only
  rw [rot_or hx h0 hr]
theorem G190_eq (R : Type) {x : Int} (hx : U32 x) {r : Nat} (hr : r ≤ 32) (k : Int → Option R) : ∀ (m i : Nat), i ≤ r → r - i < m → G190_5 m R (rotS x i) (r : Int) (i : Int) k = k (rotS x r)
  | 0, i, _, h => by omega
  | m + 1, i, h1, h2 => by
    simp only [G190_5, p190_5]
    by_cases hi : i < r
    · have hd : decide ((i : Int) < (r : Int)) = true := by simpa using hi
      have hu := rotS_lt hx (r := i) (by omega)
      have hs := rotS_step hx (r := i) (by omega)
      simp only [hd]
      have ih := G190_eq R hx hr k m (i + 1) (by omega) (by omega)
      rw [hs] at ih
      rw [← ih]
      unfold U32 at hu
      rw [Int.tdiv_eq_ediv_of_nonneg hu.1, Int.tmod_eq_emod_of_nonneg hu.1]
      rw [wrap_u32 (n := rotS x i / 2) (by omega) (by omega), wrap_u32 (n := rotS x i % 2 * 2147483648) (by omega) (by omega), wrap_u32 (by omega) (by omega), wrap_i64 (by omega) (by omega)]
      rfl
    · have hd : decide ((i : Int) < (r : Int)) = false := by simpa using hi
      have : i = r := by omega
      subst this
      simp only [hd]
theorem F190_eq (R : Type) {x : Int} (hx : U32 x) {r : Nat} (hr : r < 32) (k : Int → Option R) : F190 R x (r : Int) k = k (rotS x r) := by
  simp only [F190, p190]
  rw [Int.tmod_eq_of_lt (by omega) (by omega)]
  have hd : decide ((r : Int) < 0) = false := by simp
  simp only [hd]
  have := G190_eq R hx (r := r) (by omega) k FUEL 0 (by omega) (by rw [FUEL_eq]; omega)
  rw [rotS_zero] at this
  exact this
def shrS (x : Int) (r : Nat) : Int := x / 2 ^ r
theorem shr_eq {x : Int} (hx : U32 x) {r : Nat} (hr : r ≤ 32) : ishr .u32 x r = shrS x r := by
  unfold ishr shrS
  rw [show IntKind.u32.bits = 32 from rfl, show ((r : Int).toNat) = r by simp, Nat.min_eq_left hr, Int.fdiv_eq_ediv_of_nonneg _ (by have := two_pow_pos r; omega)]
theorem F194_eq (R : Type) {x : Int} (hx : U32 x) {r : Nat} (hr : r ≤ 32) (k : Int → Option R) : F194 R x (r : Int) k = k (shrS x r) := by
  simp only [F194, p194]
  have e : (if (0 : Int) > (r : Int) then (0 : Int) else (r : Int)) = r := by split <;> omega
  rw [e, wrap_u64 (by omega) (by omega), shr_eq hx hr]
  have hd : decide ((0 : Int) ≤ (r : Int)) = true := by simp
  simp only [hd]
theorem shrS_lt {x : Int} (hx : U32 x) (r : Nat) : U32 (shrS x r) := by
  unfold shrS U32 at *
  have hp := two_pow_pos r
  exact ⟨Int.ediv_nonneg hx.1 (by omega), Int.lt_of_le_of_lt (Int.ediv_le_self _ hx.1) hx.2⟩
theorem shrS_step (x : Int) (r : Nat) : shrS x (r + 1) = shrS x r / 2 := by
  unfold shrS
  rw [Int.pow_succ, Int.ediv_ediv_of_nonneg (by have := two_pow_pos r; omega)]
theorem G139_eq (R : Type) {x : Int} (hx : U32 x) {r : Nat} (hr : r ≤ 32) (k : Int → Option R) : ∀ (m i : Nat), i ≤ r → r - i < m → G139_4 m R (shrS x i) (r : Int) (i : Int) k = k (shrS x r)
  | 0, i, _, h => by omega
  | m + 1, i, h1, h2 => by
    simp only [G139_4, p139_4]
    by_cases hi : i < r
    · have hd : decide ((i : Int) < (r : Int)) = true := by simpa using hi
      have hu := shrS_lt hx i
      simp only [hd]
      have ih := G139_eq R hx hr k m (i + 1) (by omega) (by omega)
      rw [shrS_step] at ih
      rw [← ih]
      unfold U32 at hu
      rw [Int.tdiv_eq_ediv_of_nonneg hu.1, wrap_u32 (by omega) (by omega), wrap_i64 (by omega) (by omega)]
      rfl
    · have hd : decide ((i : Int) < (r : Int)) = false := by simpa using hi
      have : i = r := by omega
      subst this
      simp only [hd]
theorem F139_eq (R : Type) {x : Int} (hx : U32 x) {r : Nat} (hr : r < 32) (k : Int → Option R) : F139 R x (r : Int) k = k (shrS x r) := by
  simp only [F139, p139]
  have hd : decide ((r : Int) > 31) = false := by simp; omega
  simp only [hd]
  have := G139_eq R hx (r := r) (by omega) k FUEL 0 (by omega) (by rw [FUEL_eq]; omega)
  rw [show shrS x 0 = x by simp [shrS]] at this
  exact this
theorem F193_lit (R : Type) {x : Int} (hx : U32 x) {n : Int} (r : Nat) (e : n = (r : Int)) (h0 : 0 < r) (hr : r < 32) (k : Int → Option R) : F193 R x n k = k (rotS x r) := by rw [e]; exact F193_eq R hx h0 hr k
theorem F190_lit (R : Type) {x : Int} (hx : U32 x) {n : Int} (r : Nat) (e : n = (r : Int)) (hr : r < 32) (k : Int → Option R) : F190 R x n k = k (rotS x r) := by rw [e]; exact F190_eq R hx hr k
theorem F194_lit (R : Type) {x : Int} (hx : U32 x) {n : Int} (r : Nat) (e : n = (r : Int)) (hr : r ≤ 32) (k : Int → Option R) : F194 R x n k = k (shrS x r) := by rw [e]; exact F194_eq R hx hr k
theorem F139_lit (R : Type) {x : Int} (hx : U32 x) {n : Int} (r : Nat) (e : n = (r : Int)) (hr : r < 32) (k : Int → Option R) : F139 R x n k = k (shrS x r) := by rw [e]; exact F139_eq R hx hr k
def sig3 (x : Int) (a b c : Nat) : Int := ixor .u32 (ixor .u32 (rotS x a) (rotS x b)) (rotS x c)
def sig2 (x : Int) (a b c : Nat) : Int := ixor .u32 (ixor .u32 (rotS x a) (rotS x b)) (shrS x c)
theorem F186_eq (R : Type) {x : Int} (hx : U32 x) (k : Int → Option R) : F186 R x k = k (sig2 x 17 19 10) := by
  simp only [F186, p186, F191, p191]
  rw [F193_lit R hx (n := 17) 17 rfl (by omega) (by omega), F193_lit R hx (n := 19) 19 rfl (by omega) (by omega), F194_lit R hx (n := 10) 10 rfl (by omega)]
  simp only [sig2]
theorem F187_eq (R : Type) {x : Int} (hx : U32 x) (k : Int → Option R) : F187 R x k = k (sig2 x 7 18 3) := by
  simp only [F187, p187, F191, p191]
  rw [F193_lit R hx (n := 7) 7 rfl (by omega) (by omega), F193_lit R hx (n := 18) 18 rfl (by omega) (by omega), F194_lit R hx (n := 3) 3 rfl (by omega)]
  simp only [sig2]
theorem F180_eq (R : Type) {x : Int} (hx : U32 x) (k : Int → Option R) : F180 R x k = k (sig2 x 17 19 10) := by
  have h1 := F190_lit R hx (n := 17) 17 rfl (by omega)
  have h2 := F190_lit R hx (n := 19) 19 rfl (by omega)
  have h3 := F139_lit R hx (n := 10) 10 rfl (by omega)
  show p180 F139 F190 R x k = _
  generalize F190 = f at *
  generalize F139 = g at *
  simp only [p180, h1, h2, h3, sig2]
theorem F181_eq (R : Type) {x : Int} (hx : U32 x) (k : Int → Option R) : F181 R x k = k (sig2 x 7 18 3) := by
  have h1 := F190_lit R hx (n := 7) 7 rfl (by omega)
  have h2 := F190_lit R hx (n := 18) 18 rfl (by omega)
  have h3 := F139_lit R hx (n := 3) 3 rfl (by omega)
  show p181 F139 F190 R x k = _
  generalize F190 = f at *
  generalize F139 = g at *
  simp only [p181, h1, h2, h3, sig2]
def chS (a b c : Int) : Int := ior .u32 (iand .u32 a b) (iand .u32 (IntKind.u32.wrap (4294967295 - a)) c)
def majS (a b c : Int) : Int := ior .u32 (ior .u32 (iand .u32 a b) (iand .u32 a c)) (iand .u32 b c)
theorem F188_eq (R : Type) {a : Int} (ha : U32 a) (b c : Int) (k : Int → Option R) : F188 R a b c k = k (IntKind.u32.wrap (sig3 a 6 11 25 + chS a b c)) := by
  simp only [F188, p188, F192, p192]
  rw [F193_lit R ha (n := 6) 6 rfl (by omega) (by omega), F193_lit R ha (n := 11) 11 rfl (by omega) (by omega), F193_lit R ha (n := 25) 25 rfl (by omega) (by omega)]
  simp only [sig3, chS, choice_eq b c ha]
theorem F189_eq (R : Type) {a : Int} (ha : U32 a) (b c : Int) (k : Int → Option R) : F189 R a b c k = k (IntKind.u32.wrap (sig3 a 2 13 22 + majS a b c)) := by
  simp only [F189, p189, F192, p192]
  rw [F193_lit R ha (n := 2) 2 rfl (by omega) (by omega), F193_lit R ha (n := 13) 13 rfl (by omega) (by omega), F193_lit R ha (n := 22) 22 rfl (by omega) (by omega)]
  simp only [sig3, majS, majority_eq]
theorem F182_eq (R : Type) {x : Int} (hx : U32 x) {a b c : Int} (p q r : Nat) (ea : a = (p : Int)) (eb : b = (q : Int)) (ec : c = (r : Int)) (hp : p < 32) (hq : q < 32) (hr : r < 32) (k : Int → Option R) : F182 R x a b c k = k (sig3 x p q r) := by
  simp only [F182, p182]
  rw [F190_lit R hx p ea hp, F190_lit R hx q eb hq, F190_lit R hx r ec hr]
  simp only [sig3]
def roundS (s : List Int) (w c : Int) : List Int :=
  let t := IntKind.u32.wrap (s.getD 7 0 + sig3 (s.getD 4 0) 6 11 25 + chS (s.getD 4 0) (s.getD 5 0) (s.getD 6 0) + c + w)
  [IntKind.u32.wrap (t + (sig3 (s.getD 0 0) 2 13 22 + majS (s.getD 0 0) (s.getD 1 0) (s.getD 2 0))), s.getD 0 0, s.getD 1 0, s.getD 2 0, IntKind.u32.wrap (s.getD 3 0 + t), s.getD 4 0, s.getD 5 0, s.getD 6 0]
theorem F174_eq (R : Type) {s : List Int} (h0 : U32 (s.getD 0 0)) (h4 : U32 (s.getD 4 0)) (w c : Int) (k : List Int → Option R) : F174 R s w c k = k (roundS s w c) := by
  have e1 := F182_eq R h4 (a := 6) (b := 11) (c := 25) 6 11 25 rfl rfl rfl (by omega) (by omega) (by omega)
  have e2 := F182_eq R h0 (a := 2) (b := 13) (c := 22) 2 13 22 rfl rfl rfl (by omega) (by omega) (by omega)
  show p174 F182 F183 F184 R s w c k = _
  generalize F182 = f at *
  simp only [p174, e1, e2, F183, p183, F184, p184]
  congr 1
  simp only [roundS, chS, majS, List.replicate, List.set]
  simp only [wrap_u32_mod]
  congr 1
  · omega
  · congr 4
    omega
theorem F178_eq (R : Type) {a0 a1 a2 a3 a4 a5 a6 a7 : Int} (h0 : U32 a0) (h4 : U32 a4) (w c : Int) (k : List Int → Option R) : F178 R [a0, a1, a2, a3, a4, a5, a6, a7] w c k = k (roundS [a0, a1, a2, a3, a4, a5, a6, a7] w c) := by
  simp only [F178, p178, List.getD_cons_zero, List.getD_cons_succ]
  rw [F188_eq R h4, F189_eq R h0]
  congr 1
  simp [roundS, lay, List.replicate]
  simp only [wrap_u32_mod]
  refine ⟨?_, ?_⟩ <;> omega
end Go.PG
namespace Go.PG
theorem list8 {l : List Int} (h : l.length = 8) : ∃ a b c d e f g i, l = [a, b, c, d, e, f, g, i] := by
  match l, h with
  | [a, b, c, d, e, f, g, i], _ => exact ⟨a, b, c, d, e, f, g, i, rfl⟩
def AllU8 (l : List Int) : Prop := ∀ x ∈ l, U8 x
def AllU32 (l : List Int) : Prop := ∀ x ∈ l, U32 x
def get32S (a b c d : Int) : Int := ((a * 256 + b) * 256 + c) * 256 + d
theorem FUEL_succ (n : Nat) (h : n ≤ 1000) : ∃ m, FUEL = m + n := ⟨FUEL - n, by rw [FUEL_eq]; omega⟩
theorem F179_eq (R : Type) {a b c d : Int} (ha : U8 a) (hb : U8 b) (hc : U8 c) (hd : U8 d) (k : Int → Option R) : F179 R [a, b, c, d] k = k (get32S a b c d) := by
  obtain ⟨m, hm⟩ := FUEL_succ 5 (by omega)
  unfold U8 at *
  simp only [F179, p179, hm, G179_3, p179_3]
  simp [bnd, wrap_i64_def, wrap_u32_mod, get32S]
  congr 1
  omega
theorem ior_shl8 {x b : Int} (hx : 0 ≤ x ∧ x < 16777216) (hb : U8 b) : ior .u32 (ishl .u32 x 8) b = x * 256 + b := by
  unfold U8 at hb
  obtain ⟨n, rfl⟩ : ∃ n : Nat, x = n := ⟨x.toNat, by omega⟩
  obtain ⟨c, rfl⟩ : ∃ c : Nat, b = c := ⟨b.toNat, by omega⟩
  have e2 : ishl .u32 (n : Int) 8 = ((n * 256 : Nat) : Int) := by
    unfold ishl
    rw [show (2 : Int) ^ (min (8 : Int).toNat IntKind.u32.bits) = 256 by decide, wrap_u32 (by omega) (by omega)]
    simp
  rw [e2, ior_u32, BitVec.ofInt_natCast, BitVec.ofInt_natCast, BitVec.toNat_or, BitVec.toNat_ofNat, BitVec.toNat_ofNat, Nat.mod_eq_of_lt (by omega), Nat.mod_eq_of_lt (by omega)]
  have h6 := Nat.shiftLeft_add_eq_or_of_lt (i := 8) (b := c) (by omega) n
  rw [Nat.shiftLeft_eq] at h6
  rw [show n * 256 = n * 2 ^ 8 by rfl, ← h6]
  simp
theorem F185_eq (R : Type) {a b c d : Int} (ha : U8 a) (hb : U8 b) (hc : U8 c) (hd : U8 d) (k : Int → Option R) : F185 R [a, b, c, d] k = k (get32S a b c d) := by
  obtain ⟨m, hm⟩ := FUEL_succ 5 (by omega)
  simp only [F185, p185, hm, G185_2, p185_2]
  have w : ∀ x, U8 x → IntKind.u32.wrap x = x := fun x h => wrap_u32 h.1 (by unfold U8 at h; omega)
  simp [bnd, wrap_i64_def, w a ha, w b hb, w c hc, w d hd]
  have u := ha; have v := hb; have y := hc; have z := hd
  unfold U8 at u v y z
  rw [ior_shl8 (x := 0) (by omega) ha, ior_shl8 (by omega) hb, ior_shl8 (by omega) hc, ior_shl8 (by omega) hd]
  simp [get32S]
theorem get32S_lt {a b c d : Int} (ha : U8 a) (hb : U8 b) (hc : U8 c) (hd : U8 d) : U32 (get32S a b c d) := by
  unfold U8 U32 get32S at *; omega
def word4 (blk : List Int) (i : Nat) : Int := get32S (blk.getD (4 * i) 0) (blk.getD (4 * i + 1) 0) (blk.getD (4 * i + 2) 0) (blk.getD (4 * i + 3) 0)
def planW (l : List Int) (i : Nat) : Int := IntKind.u32.wrap (IntKind.u32.wrap (IntKind.u32.wrap (sig2 (l.getD (i - 2) 0) 17 19 10 + l.getD (i - 7) 0) + sig2 (l.getD (i - 15) 0) 7 18 3) + l.getD (i - 16) 0)
def planStep (blk l : List Int) (i : Nat) : List Int := l.set i (if i < 16 then word4 blk i else planW l i)
def planS (blk : List Int) : List Int := (List.range' 0 64).foldl (planStep blk) (List.replicate 64 0)
theorem getD_all {p : Int → Prop} {l : List Int} (h : ∀ x ∈ l, p x) (h0 : p 0) (i : Nat) : p (l.getD i 0) := by
  rw [List.getD_eq_getElem?_getD]
  cases hi : l[i]? with
  | none => exact h0
  | some x => exact h x (List.mem_of_getElem? hi)
theorem u8_0 : U8 0 := by unfold U8; omega
theorem u32_0 : U32 0 := by unfold U32; omega
theorem AllU32.set {l : List Int} (h : AllU32 l) {i : Nat} {x : Int} (hx : U32 x) : AllU32 (l.set i x) := fun y hy => by
  rcases List.mem_or_eq_of_mem_set hy with h1 | h1
  · exact h y h1
  · rw [h1]; exact hx
theorem AllU32.rep (n : Nat) : AllU32 (List.replicate n 0) := fun y hy => by rw [List.eq_of_mem_replicate hy]; exact u32_0
theorem word4_lt {blk : List Int} (h : AllU8 blk) (i : Nat) : U32 (word4 blk i) := get32S_lt (getD_all h u8_0 _) (getD_all h u8_0 _) (getD_all h u8_0 _) (getD_all h u8_0 _)
theorem planStep_ok {blk l : List Int} (hb : AllU8 blk) (hl : l.length = 64) (h : AllU32 l) (i : Nat) : (planStep blk l i).length = 64 ∧ AllU32 (planStep blk l i) := by
  unfold planStep
  refine ⟨by simpa using hl, h.set ?_⟩
  split
  · exact word4_lt hb i
  · exact wrap_lt32 _
theorem take4 {l : List Int} {i : Nat} (h : i + 4 ≤ l.length) : List.take 4 (List.drop i l) = [l.getD i 0, l.getD (i + 1) 0, l.getD (i + 2) 0, l.getD (i + 3) 0] := by
  have e0 : List.drop i l = l[i] :: List.drop (i + 1) l := List.drop_eq_getElem_cons (by omega)
  have e1 : List.drop (i + 1) l = l[i + 1] :: List.drop (i + 1 + 1) l := List.drop_eq_getElem_cons (by omega)
  have e2 : List.drop (i + 1 + 1) l = l[i + 1 + 1] :: List.drop (i + 1 + 1 + 1) l := List.drop_eq_getElem_cons (by omega)
  have e3 : List.drop (i + 1 + 1 + 1) l = l[i + 1 + 1 + 1] :: List.drop (i + 1 + 1 + 1 + 1) l := List.drop_eq_getElem_cons (by omega)
  rw [e0, e1, e2, e3]
  show [l[i], l[i + 1], l[i + 1 + 1], l[i + 1 + 1 + 1]] = _
  simp [show i < l.length by omega, show i + 1 < l.length by omega, show i + 2 < l.length by omega, show i + 3 < l.length by omega]
theorem range'_step {i n : Nat} (h : i < n) : List.range' i (n - i) = i :: List.range' (i + 1) (n - (i + 1)) := by
  rw [show n - i = (n - (i + 1)) + 1 by omega, List.range'_succ]
theorem G177_eq (R : Type) {blk : List Int} (hb : blk.length = 64) (h8 : AllU8 blk) (k0 : List Int → Option R) : ∀ (m i : Nat) (l : List Int), i ≤ 64 → 64 - i < m → l.length = 64 → AllU32 l →
    G177_2 m R (i : Int) blk l k0 = k0 ((List.range' i (64 - i)).foldl (planStep blk) l)
  | 0, i, l, _, h, _, _ => by omega
  | m + 1, i, l, h1, h2, hl, hu => by
    simp only [G177_2, p177_2]
    by_cases hi : i < 64
    · have ok := planStep_ok h8 hl hu i
      have ih := G177_eq R hb h8 k0 m (i + 1) (planStep blk l i) (by omega) (by omega) ok.1 ok.2
      rw [range'_step hi, List.foldl_cons, ← ih]
      rw [wrap_i64 (n := 4 * (i : Int)) (by omega) (by omega), wrap_i64 (n := (i : Int) + 1) (by omega) (by omega), wrap_i64 (n := 4 * (i : Int) + 4) (by omega) (by omega)]
      have hd : decide ((i : Int) < 64) = true := by simp; omega
      have hbn : bnd (i : Int) 64 = true := by unfold bnd; simp; omega
      by_cases h16 : i < 16
      · have c1 : decide (4 * (i : Int) < 64) = true := by simp; omega
        have c2 : decide (0 ≤ 4 * (i : Int) ∧ 4 * (i : Int) ≤ 4 * (i : Int) + 4 ∧ 4 * (i : Int) + 4 ≤ 64) = true := by simp; omega
        have c3 : decide ((4 : Int) ≤ ((Int.toNat (4 * (i : Int) + 4 - 4 * (i : Int)) : Nat) : Int)) = true := by simp; omega
        have e1 : (4 * (i : Int)).toNat = 4 * i := by omega
        simp only [hd, c1, c2, c3, e1, hbn]
        rw [take4 (by omega), F185_eq R (getD_all h8 u8_0 _) (getD_all h8 u8_0 _) (getD_all h8 u8_0 _) (getD_all h8 u8_0 _)]
        simp only [planStep, if_pos h16, word4, Int.toNat_natCast]
        rfl
      · have c1 : decide (4 * (i : Int) < 64) = false := by simp; omega
        rw [wrap_i64 (n := (i : Int) - 2) (by omega) (by omega), wrap_i64 (n := (i : Int) - 7) (by omega) (by omega), wrap_i64 (n := (i : Int) - 15) (by omega) (by omega), wrap_i64 (n := (i : Int) - 16) (by omega) (by omega)]
        have b2 : bnd ((i : Int) - 2) 64 = true := by unfold bnd; simp; omega
        have b7 : bnd ((i : Int) - 7) 64 = true := by unfold bnd; simp; omega
        have b15 : bnd ((i : Int) - 15) 64 = true := by unfold bnd; simp; omega
        have b16 : bnd ((i : Int) - 16) 64 = true := by unfold bnd; simp; omega
        have n2 : ((i : Int) - 2).toNat = i - 2 := by omega
        have n7 : ((i : Int) - 7).toNat = i - 7 := by omega
        have n15 : ((i : Int) - 15).toNat = i - 15 := by omega
        have n16 : ((i : Int) - 16).toNat = i - 16 := by omega
        simp only [hd, c1, hbn, b2, b7, b15, b16, n2, n7, n15, n16]
        rw [F186_eq R (getD_all hu u32_0 _), F187_eq R (getD_all hu u32_0 _)]
        simp only [planStep, if_neg h16, planW, Int.toNat_natCast]
        rfl
    · have : i = 64 := by omega
      subst this
      rfl
theorem F177_eq (R : Type) {blk : List Int} (hb : blk.length = 64) (h8 : AllU8 blk) (k : List Int → Option R) : F177 R blk k = k (planS blk) := by
  simp only [F177, p177]
  exact G177_eq R hb h8 _ FUEL 0 (List.replicate 64 0) (by omega) (by rw [FUEL_eq]; omega) (by simp) (AllU32.rep 64)
theorem G173_3_eq (R : Type) {blk : List Int} (hb : blk.length = 64) (h8 : AllU8 blk) (x3 : List Int) (k0 : List Int → List Int → Option R) : ∀ (m i : Nat) (l : List Int), i ≤ 16 → 16 - i < m → l.length = 64 → AllU32 l →
    G173_3 m R (i : Int) blk x3 l k0 = k0 x3 ((List.range' i (16 - i)).foldl (planStep blk) l)
  | 0, i, l, _, h, _, _ => by omega
  | m + 1, i, l, h1, h2, hl, hu => by
    simp only [G173_3, p173_3]
    by_cases hi : i < 16
    · have ok := planStep_ok h8 hl hu i
      have ih := G173_3_eq R hb h8 x3 k0 m (i + 1) (planStep blk l i) (by omega) (by omega) ok.1 ok.2
      rw [range'_step hi, List.foldl_cons, ← ih]
      rw [wrap_i64 (n := 4 * (i : Int)) (by omega) (by omega), wrap_i64 (n := (i : Int) + 1) (by omega) (by omega), wrap_i64 (n := 4 * (i : Int) + 1) (by omega) (by omega), wrap_i64 (n := 4 * (i : Int) + 2) (by omega) (by omega), wrap_i64 (n := 4 * (i : Int) + 3) (by omega) (by omega)]
      have hd : decide ((i : Int) < 16) = true := by simp; omega
      have hbn : bnd (i : Int) 64 = true := by unfold bnd; simp; omega
      have b0 : bnd (4 * (i : Int)) 64 = true := by unfold bnd; simp; omega
      have b1 : bnd (4 * (i : Int) + 1) 64 = true := by unfold bnd; simp; omega
      have b2 : bnd (4 * (i : Int) + 2) 64 = true := by unfold bnd; simp; omega
      have b3 : bnd (4 * (i : Int) + 3) 64 = true := by unfold bnd; simp; omega
      have n0 : (4 * (i : Int)).toNat = 4 * i := by omega
      have n1 : (4 * (i : Int) + 1).toNat = 4 * i + 1 := by omega
      have n2 : (4 * (i : Int) + 2).toNat = 4 * i + 2 := by omega
      have n3 : (4 * (i : Int) + 3).toNat = 4 * i + 3 := by omega
      simp only [hd, hbn, b0, b1, b2, b3, n0, n1, n2, n3, List.replicate, List.set]
      rw [F179_eq R (getD_all h8 u8_0 _) (getD_all h8 u8_0 _) (getD_all h8 u8_0 _) (getD_all h8 u8_0 _)]
      simp only [planStep, if_pos hi, word4, Int.toNat_natCast]
      rfl
    · have : i = 16 := by omega
      subst this
      rfl
theorem G173_7_eq (R : Type) {blk : List Int} (h8 : AllU8 blk) (x2 : List Int) (k0 : List Int → List Int → Option R) : ∀ (m i : Nat) (l : List Int), 16 ≤ i → i ≤ 64 → 64 - i < m → l.length = 64 → AllU32 l →
    G173_7 m R (i : Int) x2 l k0 = k0 x2 ((List.range' i (64 - i)).foldl (planStep blk) l)
  | 0, i, l, _, _, h, _, _ => by omega
  | m + 1, i, l, h16, h1, h2, hl, hu => by
    simp only [G173_7, p173_7]
    by_cases hi : i < 64
    · have ok := planStep_ok h8 hl hu i
      have ih := G173_7_eq R h8 x2 k0 m (i + 1) (planStep blk l i) (by omega) (by omega) (by omega) ok.1 ok.2
      rw [range'_step hi, List.foldl_cons, ← ih]
      rw [wrap_i64 (n := (i : Int) + 1) (by omega) (by omega), wrap_i64 (n := (i : Int) - 2) (by omega) (by omega), wrap_i64 (n := (i : Int) - 7) (by omega) (by omega), wrap_i64 (n := (i : Int) - 15) (by omega) (by omega), wrap_i64 (n := (i : Int) - 16) (by omega) (by omega)]
      have hd : decide ((i : Int) < 64) = true := by simp; omega
      have hbn : bnd (i : Int) 64 = true := by unfold bnd; simp; omega
      have b2 : bnd ((i : Int) - 2) 64 = true := by unfold bnd; simp; omega
      have b7 : bnd ((i : Int) - 7) 64 = true := by unfold bnd; simp; omega
      have b15 : bnd ((i : Int) - 15) 64 = true := by unfold bnd; simp; omega
      have b16 : bnd ((i : Int) - 16) 64 = true := by unfold bnd; simp; omega
      have n2 : ((i : Int) - 2).toNat = i - 2 := by omega
      have n7 : ((i : Int) - 7).toNat = i - 7 := by omega
      have n15 : ((i : Int) - 15).toNat = i - 15 := by omega
      have n16 : ((i : Int) - 16).toNat = i - 16 := by omega
      simp only [hd, hbn, b2, b7, b15, b16, n2, n7, n15, n16]
      rw [F180_eq R (getD_all hu u32_0 _), F181_eq R (getD_all hu u32_0 _)]
      simp only [planStep, if_neg (show ¬ i < 16 by omega), planW, Int.toNat_natCast]
      rfl
    · have : i = 64 := by omega
      subst this
      rfl
theorem planFold_ok {blk : List Int} (h8 : AllU8 blk) : ∀ (is : List Nat) (l : List Int), l.length = 64 → AllU32 l → (is.foldl (planStep blk) l).length = 64 ∧ AllU32 (is.foldl (planStep blk) l)
  | [], l, h1, h2 => ⟨h1, h2⟩
  | i :: is, l, h1, h2 => by
    have ok := planStep_ok h8 h1 h2 i
    exact planFold_ok h8 is _ ok.1 ok.2
theorem F173_eq (R : Type) {blk : List Int} (hb : blk.length = 64) (h8 : AllU8 blk) (k : List Int → Option R) : F173 R blk k = k (planS blk) := by
  simp only [F173, p173]
  have g1 := G173_3_eq R hb h8 (List.replicate 64 0) (fun x1 x2 => G173_7 FUEL R 16 x1 x2 fun x3 x4 => k x4) FUEL 0 (List.replicate 64 0) (by omega) (by rw [FUEL_eq]; omega) (by simp) (AllU32.rep 64)
  refine g1.trans ?_
  have ok := planFold_ok h8 (List.range' 0 (16 - 0)) (List.replicate 64 0) (by simp) (AllU32.rep 64)
  have g2 := G173_7_eq R h8 (List.replicate 64 0) (fun _ x4 => k x4) FUEL 16 _ (by omega) (by omega) (by rw [FUEL_eq]; omega) ok.1 ok.2
  refine g2.trans ?_
  rw [← List.foldl_append]
  rfl
end Go.PG
namespace Go.PG
def KS : List Int := [1116352408, 1899447441, 3049323471, 3921009573, 961987163, 1508970993, 2453635748, 2870763221, 3624381080, 310598401, 607225278, 1426881987, 1925078388, 2162078206, 2614888103, 3248222580, 3835390401, 4022224774, 264347078, 604807628, 770255983, 1249150122, 1555081692, 1996064986, 2554220882, 2821834349, 2952996808, 3210313671, 3336571891, 3584528711, 113926993, 338241895, 666307205, 773529912, 1294757372, 1396182291, 1695183700, 1986661051, 2177026350, 2456956037, 2730485921, 2820302411, 3259730800, 3345764771, 3516065817, 3600352804, 4094571909, 275423344, 430227734, 506948616, 659060556, 883997877, 958139571, 1322822218, 1537002063, 1747873779, 1955562222, 2024104815, 2227730452, 2361852424, 2428436474, 2756734187, 3204031479, 3329325298]
theorem F176_eq (R : Type) (k : List Int → Option R) : F176 R k = k KS := by kernel_rfl
theorem F175_form (R : Type) (a : Int) (k : Int → Option R) : F175 R a k = (match decide (a < 0) with | true => k 0 | false => match decide (a > 63) with | true => k 0 | false => match bnd a 64 with | true => k (List.getD KS a.toNat 0) | false => none) := by kernel_rfl
theorem F175_eq (R : Type) {i : Nat} (h : i < 64) (k : Int → Option R) : F175 R (i : Int) k = k (KS.getD i 0) := by
  rw [F175_form]
  have h1 : decide ((i : Int) < 0) = false := by simp
  have h2 : decide ((i : Int) > 63) = false := by simp; omega
  have h3 : bnd (i : Int) 64 = true := by unfold bnd; simp; omega
  simp only [h1, h2, h3, Int.toNat_natCast]
def roundsStep (plan s : List Int) (i : Nat) : List Int := roundS s (plan.getD i 0) (KS.getD i 0)
theorem roundS_ok {s : List Int} (h : AllU32 s) (w c : Int) : (roundS s w c).length = 8 ∧ AllU32 (roundS s w c) := by
  refine ⟨rfl, fun x hx => ?_⟩
  have g := fun i => getD_all h u32_0 i
  simp only [roundS, List.mem_cons, List.not_mem_nil, or_false] at hx
  rcases hx with rfl | rfl | rfl | rfl | rfl | rfl | rfl | rfl
  · exact wrap_lt32 _
  · exact g 0
  · exact g 1
  · exact g 2
  · exact wrap_lt32 _
  · exact g 4
  · exact g 5
  · exact g 6
theorem F178_eq' (R : Type) {s : List Int} (hl : s.length = 8) (h : AllU32 s) (w c : Int) (k : List Int → Option R) : F178 R s w c k = k (roundS s w c) := by
  obtain ⟨a0, a1, a2, a3, a4, a5, a6, a7, rfl⟩ := list8 hl
  exact F178_eq R (h a0 (by simp)) (h a4 (by simp)) w c k
theorem G171_3_eq (R : Type) (plan : List Int) (x3 x4 : List Int) (k0 : List Int → List Int → List Int → Option R) : ∀ (m i : Nat) (s : List Int), i ≤ 64 → 64 - i < m → s.length = 8 → AllU32 s →
    G171_3 m R plan (i : Int) x3 x4 s KS k0 = k0 x3 x4 ((List.range' i (64 - i)).foldl (roundsStep plan) s)
  | 0, i, s, _, h, _, _ => by omega
  | m + 1, i, s, h1, h2, hl, hu => by
    simp only [G171_3, p171_3]
    by_cases hi : i < 64
    · have ok := roundS_ok hu (plan.getD i 0) (KS.getD i 0)
      have ih := G171_3_eq R plan x3 x4 k0 m (i + 1) (roundsStep plan s i) (by omega) (by omega) ok.1 ok.2
      rw [range'_step hi, List.foldl_cons, ← ih, wrap_i64 (n := (i : Int) + 1) (by omega) (by omega)]
      have hd : decide ((i : Int) < 64) = true := by simp; omega
      have hbn : bnd (i : Int) 64 = true := by unfold bnd; simp; omega
      simp only [hd, hbn, Int.toNat_natCast]
      rw [F178_eq' R hl hu]
      rfl
    · have : i = 64 := by omega
      subst this
      rfl
theorem G167_4_eq (R : Type) (plan : List Int) (x2 x3 : List Int) (k0 : List Int → List Int → List Int → Option R) : ∀ (m i : Nat) (s : List Int), i ≤ 64 → 64 - i < m → s.length = 8 → AllU32 s →
    G167_4 m R (i : Int) x2 x3 plan s k0 = k0 x2 x3 ((List.range' i (64 - i)).foldl (roundsStep plan) s)
  | 0, i, s, _, h, _, _ => by omega
  | m + 1, i, s, h1, h2, hl, hu => by
    simp only [G167_4, p167_4]
    by_cases hi : i < 64
    · have ok := roundS_ok hu (plan.getD i 0) (KS.getD i 0)
      have ih := G167_4_eq R plan x2 x3 k0 m (i + 1) (roundsStep plan s i) (by omega) (by omega) ok.1 ok.2
      rw [range'_step hi, List.foldl_cons, ← ih, wrap_i64 (n := (i : Int) + 1) (by omega) (by omega)]
      have hd : decide ((i : Int) < 64) = true := by simp; omega
      have hbn : bnd (i : Int) 64 = true := by unfold bnd; simp; omega
      simp only [hd, hbn, Int.toNat_natCast]
      rw [F175_eq R hi, F174_eq R (getD_all hu u32_0 _) (getD_all hu u32_0 _)]
      rfl
    · have : i = 64 := by omega
      subst this
      rfl
def addStep (a l : List Int) (i : Nat) : List Int := l.set i (IntKind.u32.wrap (l.getD i 0 + a.getD i 0))
theorem addStep_ok {a l : List Int} (hl : l.length = 8) (h : AllU32 l) (i : Nat) : (addStep a l i).length = 8 ∧ AllU32 (addStep a l i) := ⟨by simpa [addStep] using hl, h.set (wrap_lt32 _)⟩
theorem G171_8_eq (R : Type) (a x3 : List Int) (k0 : List Int → List Int → Option R) : ∀ (m i : Nat) (l : List Int), i ≤ 8 → 8 - i < m → G171_8 m R (i : Int) a x3 l k0 = k0 x3 ((List.range' i (8 - i)).foldl (addStep a) l)
  | 0, i, l, _, h => by omega
  | m + 1, i, l, h1, h2 => by
    simp only [G171_8, p171_8]
    by_cases hi : i < 8
    · have ih := G171_8_eq R a x3 k0 m (i + 1) (addStep a l i) (by omega) (by omega)
      rw [range'_step hi, List.foldl_cons, ← ih, wrap_i64 (n := (i : Int) + 1) (by omega) (by omega)]
      have hd : decide ((i : Int) < 8) = true := by simp; omega
      have hbn : bnd (i : Int) 8 = true := by unfold bnd; simp; omega
      simp only [hd, hbn, Int.toNat_natCast]
      rfl
    · have : i = 8 := by omega
      subst this
      rfl
theorem G167_8_eq (R : Type) (a x3 : List Int) (k0 : List Int → List Int → Option R) : ∀ (m i : Nat) (l : List Int), i ≤ 8 → 8 - i < m → G167_8 m R (i : Int) a x3 l k0 = k0 x3 ((List.range' i (8 - i)).foldl (addStep a) l)
  | 0, i, l, _, h => by omega
  | m + 1, i, l, h1, h2 => by
    simp only [G167_8, p167_8]
    by_cases hi : i < 8
    · have ih := G167_8_eq R a x3 k0 m (i + 1) (addStep a l i) (by omega) (by omega)
      rw [range'_step hi, List.foldl_cons, ← ih, wrap_i64 (n := (i : Int) + 1) (by omega) (by omega)]
      have hd : decide ((i : Int) < 8) = true := by simp; omega
      have hbn : bnd (i : Int) 8 = true := by unfold bnd; simp; omega
      simp only [hd, hbn, Int.toNat_natCast]
      rfl
    · have : i = 8 := by omega
      subst this
      rfl
def takeS (st blk : List Int) : List Int := (List.range' 0 8).foldl (addStep st) ((List.range' 0 64).foldl (roundsStep (planS blk)) st)
theorem F171_eq (R : Type) {st blk : List Int} (hl : st.length = 8) (hu : AllU32 st) (hb : blk.length = 64) (h8 : AllU8 blk) (k : List Int → Option R) : F171 R st blk k = k (takeS st blk) := by
  simp only [F171, p171]
  rw [F176_eq, F177_eq R hb h8]
  refine (G171_3_eq R (planS blk) st (List.replicate 8 0) (fun x3 x4 x5 => G171_8 FUEL R 0 x3 x4 x5 fun x6 x7 => k x7) FUEL 0 st (by omega) (by rw [FUEL_eq]; omega) hl hu).trans ?_
  exact G171_8_eq R st (List.replicate 8 0) (fun _ x7 => k x7) FUEL 0 _ (by omega) (by rw [FUEL_eq]; omega)
theorem F167_eq (R : Type) {st blk : List Int} (hl : st.length = 8) (hu : AllU32 st) (hb : blk.length = 64) (h8 : AllU8 blk) (k : List Int → Option R) : F167 R st blk k = k (takeS st blk) := by
  simp only [F167, p167]
  rw [F173_eq R hb h8]
  refine (G167_4_eq R (planS blk) st (List.replicate 8 0) (fun x3 x4 x5 => G167_8 FUEL R 0 x3 x4 x5 fun x6 x7 => k x7) FUEL 0 st (by omega) (by rw [FUEL_eq]; omega) hl hu).trans ?_
  exact G167_8_eq R st (List.replicate 8 0) (fun _ x7 => k x7) FUEL 0 _ (by omega) (by rw [FUEL_eq]; omega)
theorem roundsFold_ok (plan : List Int) : ∀ (is : List Nat) (s : List Int), s.length = 8 → AllU32 s → (is.foldl (roundsStep plan) s).length = 8 ∧ AllU32 (is.foldl (roundsStep plan) s)
  | [], s, h1, h2 => ⟨h1, h2⟩
  | i :: is, s, h1, h2 => by
    have ok := roundS_ok h2 (plan.getD i 0) (KS.getD i 0)
    exact roundsFold_ok plan is _ ok.1 ok.2
theorem addFold_ok (a : List Int) : ∀ (is : List Nat) (s : List Int), s.length = 8 → AllU32 s → (is.foldl (addStep a) s).length = 8 ∧ AllU32 (is.foldl (addStep a) s)
  | [], s, h1, h2 => ⟨h1, h2⟩
  | i :: is, s, h1, h2 => by
    have ok := addStep_ok (a := a) h1 h2 i
    exact addFold_ok a is _ ok.1 ok.2
theorem takeS_ok {st : List Int} (blk : List Int) (hl : st.length = 8) (hu : AllU32 st) : (takeS st blk).length = 8 ∧ AllU32 (takeS st blk) := by
  have h := roundsFold_ok (planS blk) (List.range' 0 64) st hl hu
  exact addFold_ok st _ _ h.1 h.2
end Go.PG
namespace Go.PG
def blkF : Nat → List Int → List (List Int)
  | 0, _ => []
  | n + 1, b => if 64 ≤ b.length then b.take 64 :: blkF n (b.drop 64) else []
def tailF : Nat → List Int → List Int
  | 0, b => b
  | n + 1, b => if 64 ≤ b.length then tailF n (b.drop 64) else b
def blkS (b : List Int) : List (List Int) := blkF (b.length / 64 + 1) b
def tailS (b : List Int) : List Int := tailF (b.length / 64 + 1) b
theorem blkF_big : ∀ (n m : Nat) (b : List Int), b.length / 64 < n → b.length / 64 < m → blkF n b = blkF m b
  | 0, _, _, h, _ => by omega
  | _, 0, _, _, h => by omega
  | n + 1, m + 1, b, h1, h2 => by
    simp only [blkF]
    by_cases h : 64 ≤ b.length
    · rw [if_pos h, if_pos h, blkF_big n m (b.drop 64) (by rw [List.length_drop]; omega) (by rw [List.length_drop]; omega)]
    · rw [if_neg h, if_neg h]
theorem tailF_big : ∀ (n m : Nat) (b : List Int), b.length / 64 < n → b.length / 64 < m → tailF n b = tailF m b
  | 0, _, _, h, _ => by omega
  | _, 0, _, _, h => by omega
  | n + 1, m + 1, b, h1, h2 => by
    simp only [tailF]
    by_cases h : 64 ≤ b.length
    · rw [if_pos h, if_pos h, tailF_big n m (b.drop 64) (by rw [List.length_drop]; omega) (by rw [List.length_drop]; omega)]
    · rw [if_neg h, if_neg h]
theorem blkS_step {b : List Int} (h : 64 ≤ b.length) : blkS b = b.take 64 :: blkS (b.drop 64) := by
  unfold blkS
  rw [show blkF (b.length / 64 + 1) b = b.take 64 :: blkF (b.length / 64) (b.drop 64) by simp only [blkF, if_pos h]]
  rw [blkF_big (b.length / 64) ((b.drop 64).length / 64 + 1) (b.drop 64) (by rw [List.length_drop]; omega) (by omega)]
theorem blkS_end {b : List Int} (h : b.length < 64) : blkS b = [] := by
  unfold blkS; simp only [blkF, if_neg (show ¬ 64 ≤ b.length by omega)]
theorem tailS_step {b : List Int} (h : 64 ≤ b.length) : tailS b = tailS (b.drop 64) := by
  unfold tailS
  rw [show tailF (b.length / 64 + 1) b = tailF (b.length / 64) (b.drop 64) by simp only [tailF, if_pos h]]
  rw [tailF_big (b.length / 64) ((b.drop 64).length / 64 + 1) (b.drop 64) (by rw [List.length_drop]; omega) (by omega)]
theorem tailS_end {b : List Int} (h : b.length < 64) : tailS b = b := by
  unfold tailS; simp only [tailF, if_neg (show ¬ 64 ≤ b.length by omega)]
theorem tailS_len : ∀ (n : Nat) (b : List Int), b.length ≤ n → (tailS b).length = b.length % 64 ∧ (blkS b).length = b.length / 64
  | 0, b, h => by
    rw [tailS_end (by omega), blkS_end (by omega)]
    simp; omega
  | n + 1, b, h => by
    by_cases h6 : 64 ≤ b.length
    · have ih := tailS_len n (b.drop 64) (by rw [List.length_drop]; omega)
      rw [tailS_step h6, blkS_step h6, ih.1, List.length_cons, ih.2, List.length_drop]
      omega
    · rw [tailS_end (by omega), blkS_end (by omega)]
      simp; omega
theorem blk_append : ∀ (n : Nat) (a b : List Int), a.length ≤ n → blkS (a ++ b) = blkS a ++ blkS (tailS a ++ b) ∧ tailS (a ++ b) = tailS (tailS a ++ b)
  | 0, a, b, h => by
    rw [blkS_end (show a.length < 64 by omega), tailS_end (show a.length < 64 by omega)]
    exact ⟨rfl, rfl⟩
  | n + 1, a, b, h => by
    by_cases h6 : 64 ≤ a.length
    · have ih := blk_append n (a.drop 64) b (by rw [List.length_drop]; omega)
      have hl : 64 ≤ (a ++ b).length := by rw [List.length_append]; omega
      rw [blkS_step hl, blkS_step h6, tailS_step hl, tailS_step h6, List.take_append_of_le_length h6, List.drop_append_of_le_length h6, ih.1, ih.2]
      exact ⟨rfl, rfl⟩
    · rw [blkS_end (show a.length < 64 by omega), tailS_end (show a.length < 64 by omega)]
      exact ⟨rfl, rfl⟩
theorem G170_eq (R : Type) (k0 : List Int → List (List Int) → Option R) : ∀ (m : Nat) (b : List Int) (acc : List (List Int)), b.length / 64 < m → acc.length + b.length / 64 ≤ 1000000000 → b.length ≤ 100000000000 →
    G170_1 m R b acc k0 = k0 (tailS b) (acc ++ blkS b)
  | 0, b, acc, h, _, _ => by omega
  | m + 1, b, acc, h1, h2, h3 => by
    simp only [G170_1, p170_1]
    by_cases h6 : 64 ≤ b.length
    · have ih := G170_eq R k0 m (b.drop 64) (acc ++ [b.take 64]) (by rw [List.length_drop]; omega) (by rw [List.length_drop, List.length_append]; simp; omega) (by rw [List.length_drop]; omega)
      have c1 : decide ((b.length : Int) ≥ 64) = true := by simp; omega
      have c2 : decide ((64 : Int) ≤ (b.length : Int)) = true := by simp; omega
      have c3 : decide (acc.length + [b.take 64].length ≤ 2199023255552) = true := by simp; omega
      have c4 : decide (0 ≤ (64 : Int) ∧ (64 : Int) ≤ (b.length : Int) ∧ (b.length : Int) ≤ (b.length : Int) ∧ (b.length : Int) ≤ (b.length : Int)) = true := by simp; omega
      have e1 : List.take (Int.toNat ((b.length : Int) - 64)) (List.drop 64 b) = List.drop 64 b := List.take_of_length_le (by rw [List.length_drop]; omega)
      simp only [c1, c2, c3, c4, e1]
      rw [ih, blkS_step h6, tailS_step h6, List.append_assoc]
      rfl
    · have c1 : decide ((b.length : Int) ≥ 64) = false := by simp; omega
      simp only [c1]
      rw [blkS_end (by omega), tailS_end (by omega), List.append_nil]
theorem F170_eq (R : Type) {b : List Int} (h : b.length ≤ 1000000000) (k : List (List Int) → List Int → Option R) : F170 R b k = k (blkS b) (tailS b) := by
  simp only [F170, p170]
  refine (G170_eq R (fun x1 x2 => k x2 x1) FUEL b [] (by rw [FUEL_eq]; omega) (by simp; omega) (by omega)).trans ?_
  rw [List.nil_append]
end Go.PG
namespace Go.PG
abbrev Wr := List Int × List Int × Int × Unit
def foldB (st : List Int) (bs : List (List Int)) : List Int := bs.foldl takeS st
theorem blkS_ok : ∀ (n : Nat) (b : List Int), b.length ≤ n → AllU8 b → (∀ x ∈ blkS b, x.length = 64 ∧ AllU8 x) ∧ AllU8 (tailS b)
  | 0, b, h, h8 => by
    rw [blkS_end (by omega), tailS_end (by omega)]
    exact ⟨fun x hx => (by cases hx), h8⟩
  | n + 1, b, h, h8 => by
    by_cases h6 : 64 ≤ b.length
    · have ih := blkS_ok n (b.drop 64) (by rw [List.length_drop]; omega) (fun x hx => h8 x (List.mem_of_mem_drop hx))
      rw [blkS_step h6, tailS_step h6]
      refine ⟨fun x hx => ?_, ih.2⟩
      rcases List.mem_cons.1 hx with rfl | hx
      · exact ⟨by rw [List.length_take]; omega, fun y hy => h8 y (List.mem_of_mem_take hy)⟩
      · exact ih.1 x hx
    · rw [blkS_end (by omega), tailS_end (by omega)]
      exact ⟨fun x hx => (by cases hx), h8⟩
theorem foldB_ok : ∀ (bs : List (List Int)) {st : List Int}, st.length = 8 → AllU32 st → (foldB st bs).length = 8 ∧ AllU32 (foldB st bs)
  | [], st, h1, h2 => ⟨h1, h2⟩
  | b :: bs, st, h1, h2 => by
    have ok := takeS_ok b h1 h2
    exact foldB_ok bs ok.1 ok.2
theorem G163_eq (R : Type) (rest : List Int) (bs : List (List Int)) (hb : ∀ x ∈ bs, x.length = 64 ∧ AllU8 x) (hn : bs.length ≤ 1000000000) (u : List Int × Int × Unit) (k0 : List Int → (Wr × Unit) → Option R) :
    ∀ (m i : Nat) (st : List Int), i ≤ bs.length → bs.length - i < m → st.length = 8 → AllU32 st → G163_3 m R rest bs (bs.length : Int) (i : Int) ((st, u), ()) k0 = k0 rest ((foldB st (bs.drop i), u), ())
  | 0, i, st, _, h, _, _ => by omega
  | m + 1, i, st, h1, h2, hl, hu => by
    simp only [G163_3, p163_3]
    by_cases hi : i < bs.length
    · have hd : decide ((i : Int) < (bs.length : Int)) = true := by simpa using hi
      have hbn : bnd (i : Int) (bs.length : Int) = true := by unfold bnd; simp; omega
      have hx := hb bs[i] (List.getElem_mem hi)
      have hg : List.getD bs i (List.replicate 64 0) = bs[i] := by simp [hi]
      simp only [hd, hbn, Int.toNat_natCast, hg]
      rw [F171_eq R hl hu hx.1 hx.2, wrap_i64 (by omega) (by omega)]
      have ok := takeS_ok bs[i] hl hu
      have ih := G163_eq R rest bs hb hn u k0 m (i + 1) (takeS st bs[i]) (by omega) (by omega) ok.1 ok.2
      rw [List.drop_eq_getElem_cons hi]
      exact ih
    · have : i = bs.length := by omega
      subst this
      have hd : decide ((bs.length : Int) < (bs.length : Int)) = false := by simp
      simp only [hd]
      rw [List.drop_of_length_le (Nat.le_refl _)]
      rfl
theorem F163_eq (R : Type) {st : List Int} (u : List Int × Int × Unit) {b : List Int} (hl : st.length = 8) (hu : AllU32 st) (h8 : AllU8 b) (hn : b.length ≤ 1000000000) (k : List Int → (Wr × Unit) → Option R) :
    F163 R ((st, u), ()) b k = k (tailS b) ((foldB st (blkS b), u), ()) := by
  simp only [F163, p163]
  rw [F170_eq R hn]
  have ok := blkS_ok b.length b (Nat.le_refl _) h8
  have hlen := (tailS_len b.length b (Nat.le_refl _)).2
  exact G163_eq R (tailS b) (blkS b) ok.1 (by omega) u (fun x4 x5 => k x4 x5) FUEL 0 st (by omega) (by rw [FUEL_eq]; omega) hl hu
theorem F160_eq (R : Type) {st rest part : List Int} {n : Nat} (hl : st.length = 8) (hu : AllU32 st) (hr : AllU8 rest) (hp : AllU8 part) (hlen : rest.length + part.length ≤ 1000000000) (hn : n + part.length ≤ 1000000000) (k : (Wr × Unit) → Option R) :
    F160 R ((st, rest, (n : Int), ()), ()) part k = k ((foldB st (blkS (rest ++ part)), tailS (rest ++ part), ((n + part.length : Nat) : Int), ()), ()) := by
  simp only [F160, p160, F168]
  rw [wrap_u64 (n := (part.length : Int)) (by omega) (by omega), wrap_u64 (by omega) (by omega)]
  have c1 : decide (([] : List Int).length + rest.length ≤ 140737488355328) = true := by simp; omega
  have c2 : decide (rest.length + part.length ≤ 140737488355328) = true := by simp; omega
  simp only [c1, c2]
  have h8 : AllU8 (rest ++ part) := fun x hx => by
    rcases List.mem_append.1 hx with h | h
    · exact hr x h
    · exact hp x h
  rw [F163_eq R _ hl hu h8 (by rw [List.length_append]; omega)]
  congr 1
def wrS (st m : List Int) : Wr := (foldB st (blkS m), tailS m, (m.length : Int), ())
theorem AllU8.append {a b : List Int} (ha : AllU8 a) (hb : AllU8 b) : AllU8 (a ++ b) := fun x hx => by
  rcases List.mem_append.1 hx with h | h
  · exact ha x h
  · exact hb x h
theorem wrS_append (st m p : List Int) : foldB (foldB st (blkS m)) (blkS (tailS m ++ p)) = foldB st (blkS (m ++ p)) ∧ tailS (tailS m ++ p) = tailS (m ++ p) := by
  obtain ⟨h1, h2⟩ := blk_append m.length m p (Nat.le_refl _)
  rw [h1, h2]
  refine ⟨?_, rfl⟩
  unfold foldB
  rw [List.foldl_append]
theorem G151_eq (R : Type) {st : List Int} (hl : st.length = 8) (hu : AllU32 st) (x4 : Wr) (k0 : Int → Wr → Option R) (k1 : Wr → (Wr × Unit) → Option R) : ∀ (n : Nat) (ps done : List (List Int)) (m : List Int), m = done.flatten → AllU8 m → (∀ p ∈ ps, AllU8 p) →
    m.length + ps.flatten.length ≤ 500000000 → (done ++ ps).length ≤ 1000000000 → ps.length < n → G151_5 n R (done ++ ps) ((done ++ ps).length : Int) (done.length : Int) x4 (wrS st m, ()) k0 k1 = k1 x4 (wrS st (m ++ ps.flatten), ())
  | 0, ps, done, m, _, _, _, _, _, h => by omega
  | n + 1, [], done, m, hm, h8, hps, hlen, hnum, h => by
    simp only [G151_5, p151_5]
    have hd : decide ((done.length : Int) < ((done ++ []).length : Int)) = false := by simp
    simp only [hd]
    simp
  | n + 1, p :: ps, done, m, hm, h8, hps, hlen, hnum, h => by
    simp only [G151_5, p151_5]
    have hlt : done.length < (done ++ p :: ps).length := by simp
    have hd : decide ((done.length : Int) < ((done ++ p :: ps).length : Int)) = true := by simp; omega
    have hbn : bnd (done.length : Int) ((done ++ p :: ps).length : Int) = true := by unfold bnd; simp; omega
    have hg : List.getD (done ++ p :: ps) done.length [] = p := by simp
    have hp8 := hps p (by simp)
    have hfl : (p :: ps).flatten = p ++ ps.flatten := by simp
    rw [hfl, List.length_append] at hlen
    have ok := foldB_ok (blkS m) hl hu
    have ok2 := blkS_ok m.length m (Nat.le_refl _) h8
    have tl := (tailS_len m.length m (Nat.le_refl _)).1
    simp only [hd, hbn, Int.toNat_natCast, hg]
    unfold wrS
    rw [F160_eq R ok.1 ok.2 ok2.2 hp8 (by omega) (by omega)]
    obtain ⟨a1, a2⟩ := wrS_append st m p
    rw [a1, a2, ← List.length_append]
    have hb : decide (((m ++ p).length : Int) ≥ 2305843009213693952) = false := by simp; omega
    simp only [hb]
    rw [wrap_i64 (by omega) (by simp at hnum; omega)]
    have ih := G151_eq R hl hu x4 k0 k1 n ps (done ++ [p]) (m ++ p) (by rw [hm]; simp) (h8.append hp8) (fun q hq => hps q (by simp [hq])) (by rw [List.length_append]; omega) (by simpa using hnum) (by simp at h; omega)
    unfold wrS at ih
    rw [hfl, ← List.append_assoc]
    have e1 : done ++ [p] ++ ps = done ++ p :: ps := by simp
    have e2 : (((done ++ [p]).length : Nat) : Int) = (done.length : Int) + 1 := by simp
    rw [e1, e2] at ih
    exact ih
theorem F151_eq (R : Type) {st : List Int} (hl : st.length = 8) (hu : AllU32 st) {ps : List (List Int)} (h8 : ∀ p ∈ ps, AllU8 p) (hlen : ps.flatten.length ≤ 500000000) (hnum : ps.length ≤ 1000000000) (k : Wr → Int → Option R) :
    F151 R (st, [], (0 : Int), ()) ps k = k (wrS st ps.flatten) 0 := by
  have hr : F159 R (st, [], (0 : Int), ()) = fun k => k true := by
    funext k
    simp only [F159, p159]
    rfl
  simp only [F151, p151]
  rw [hr]
  have := G151_eq R hl hu (List.replicate 8 0, [], 0, ()) (fun x3 x4 => k x4 x3) (fun _ x6 => k x6.1 0) FUEL ps [] [] rfl (fun x hx => by cases hx) h8 (by simpa using hlen) (by simpa using hnum) (by rw [FUEL_eq]; omega)
  rw [List.nil_append] at this
  refine Eq.trans ?_ this
  unfold wrS
  rw [blkS_end (by simp), tailS_end (by simp)]
  rfl
end Go.PG
namespace Go.PG
def putS (x : Int) : List Int := [x / 72057594037927936 % 256, x / 281474976710656 % 256, x / 1099511627776 % 256, x / 4294967296 % 256, x / 16777216 % 256, x / 65536 % 256, x / 256 % 256, x % 256]
theorem shr64 {x : Int} (r : Nat) (hr : r ≤ 64) : ishr .u64 x (r : Int) = x / 2 ^ r := by
  unfold ishr
  rw [show IntKind.u64.bits = 64 from rfl, show ((r : Int).toNat) = r by simp, Nat.min_eq_left hr, Int.fdiv_eq_ediv_of_nonneg _ (by have := two_pow_pos r; omega)]
theorem G147_eq (R : Type) (x : Int) (k0 : List Int → Option R) : ∀ (m i : Nat) (l : List Int), i ≤ 8 → 8 - i < m → G147_2 m R x (i : Int) l k0 = k0 ((List.range' i (8 - i)).foldl (fun l i => l.set i (x / 2 ^ (8 * (7 - i)) % 256)) l)
  | 0, i, l, _, h => by omega
  | m + 1, i, l, h1, h2 => by
    simp only [G147_2, p147_2]
    by_cases hi : i < 8
    · have ih := G147_eq R x k0 m (i + 1) (l.set i (x / 2 ^ (8 * (7 - i)) % 256)) (by omega) (by omega)
      rw [range'_step hi, List.foldl_cons, ← ih]
      have hd : decide ((i : Int) < 8) = true := by simp; omega
      have hbn : bnd (i : Int) 8 = true := by unfold bnd; simp; omega
      rw [wrap_i64 (n := 7 - (i : Int)) (by omega) (by omega), wrap_i64 (n := 8 * (7 - (i : Int))) (by omega) (by omega), wrap_u64 (n := 8 * (7 - (i : Int))) (by omega) (by omega), wrap_i64 (n := (i : Int) + 1) (by omega) (by omega)]
      have e1 : 8 * (7 - (i : Int)) = ((8 * (7 - i) : Nat) : Int) := by omega
      have hp : decide ((0 : Int) ≤ ((8 * (7 - i) : Nat) : Int)) = true := decide_eq_true (by omega)
      rw [e1, shr64 _ (by omega), wrap_u8_mod]
      simp only [hd, hbn, hp, Int.toNat_natCast]
      rfl
    · have : i = 8 := by omega
      subst this
      rfl
theorem F147_eq (R : Type) (x : Int) (k : List Int → Option R) : F147 R x k = k (putS x) := by
  simp only [F147, p147]
  refine (G147_eq R x (fun x1 => k x1) FUEL 0 (List.replicate 8 0) (by omega) (by rw [FUEL_eq]; omega)).trans ?_
  congr 1
  simp [List.range'_succ, putS, List.replicate]
theorem G149_eq (R : Type) {x : Int} (hx : 0 ≤ x ∧ x < 18446744073709551616) (x3 : List Int) (k0 : List Int → List Int → Option R) : ∀ (i m : Nat) (l : List Int), i ≤ 8 → i < m → G149_3 m R (x / 2 ^ (8 * (8 - i))) ((i : Int) - 1) x3 l k0 = k0 x3 ((List.range i).reverse.foldl (fun l j => l.set j (x / 2 ^ (8 * (7 - j)) % 256)) l)
  | i, 0, l, _, h => by omega
  | 0, m + 1, l, h1, h2 => by
    simp only [G149_3, p149_3]
    have hd : decide (((0 : Nat) : Int) - 1 ≥ 0) = false := by simp
    simp only [hd]
    rfl
  | i + 1, m + 1, l, h1, h2 => by
    simp only [G149_3, p149_3]
    have ih := G149_eq R hx x3 k0 i m (l.set i (x / 2 ^ (8 * (7 - i)) % 256)) (by omega) (by omega)
    rw [List.range_succ, List.reverse_append, List.reverse_singleton, List.singleton_append, List.foldl_cons, ← ih]
    have e0 : (((i + 1 : Nat) : Int) - 1) = (i : Int) := by omega
    rw [e0]
    have hd : decide ((i : Int) ≥ 0) = true := by simp
    have hbn : bnd (i : Int) 8 = true := by unfold bnd; simp; omega
    have e1 : 8 - (i + 1) = 7 - i := by omega
    rw [e1]
    have hp := two_pow_pos (8 * (7 - i))
    have hge : 0 ≤ x / 2 ^ (8 * (7 - i)) := Int.ediv_nonneg hx.1 (by omega)
    have hle : x / 2 ^ (8 * (7 - i)) ≤ x := Int.ediv_le_self _ hx.1
    have hstep : x / 2 ^ (8 * (8 - i)) = x / 2 ^ (8 * (7 - i)) / 256 := by
      rw [show 8 * (8 - i) = 8 * (7 - i) + 8 by omega, Int.pow_add, ← Int.ediv_ediv_of_nonneg (by omega)]
      rfl
    rw [hstep]
    generalize x / 2 ^ (8 * (7 - i)) = q at *
    rw [Int.tmod_eq_emod_of_nonneg hge, Int.tdiv_eq_ediv_of_nonneg hge, wrap_u8 (by omega) (by omega), wrap_u64 (by omega) (by omega), wrap_i64 (by omega) (by omega)]
    simp only [hd, hbn, Int.toNat_natCast]
theorem F149_eq (R : Type) {x : Int} (hx : 0 ≤ x ∧ x < 18446744073709551616) (k : List Int → Option R) : F149 R x k = k (putS x) := by
  simp only [F149, p149]
  have := G149_eq R hx (List.replicate 8 0) (fun _ x2 => k x2) 8 FUEL (List.replicate 8 0) (by omega) (by rw [FUEL_eq]; omega)
  rw [show x / 2 ^ (8 * (8 - 8)) = x by simp] at this
  refine Eq.trans this ?_
  congr 1
  simp [List.range_succ, putS, List.replicate]
end Go.PG
namespace Go.PG
def zerosN (n : Nat) : Nat := (119 - n % 64) % 64
def padT (rest : List Int) (n : Nat) : List Int := rest ++ 128 :: (List.replicate (zerosN n) 0 ++ putS (8 * (n : Int)))
theorem G165_4_eq (R : Type) (x : Int) (k0 : Int → List Int → Option R) : ∀ (z m : Nat) (l : List Int), z < 64 → (l.length + z) % 64 = 56 → (∀ y, y < z → (l.length + y) % 64 ≠ 56) → z < m → l.length + z ≤ 100000 → G165_4 m R x l k0 = k0 x (l ++ List.replicate z 0)
  | z, 0, l, _, _, _, h, _ => by omega
  | 0, m + 1, l, h1, h2, _, h3, h4 => by
    simp only [G165_4, p165_4]
    have hm : Int.tmod (l.length : Int) 64 = 56 := by rw [Int.tmod_eq_emod_of_nonneg (by omega)]; omega
    rw [hm]
    have : ((56 : Int) != 56) = false := by simp
    simp only [this]
    simp
  | z + 1, m + 1, l, h1, h2, h5, h3, h4 => by
    simp only [G165_4, p165_4]
    have hne : (Int.tmod (l.length : Int) 64 != 56) = true := by
      rw [Int.tmod_eq_emod_of_nonneg (by omega)]
      have := h5 0 (by omega)
      simp; omega
    have hc : decide (l.length + [(0 : Int)].length ≤ 140737488355328) = true := by simp; omega
    have ih := G165_4_eq R x k0 z m (l ++ [0]) (by omega) (by rw [List.length_append]; simp; omega) (fun y hy => by rw [List.length_append]; have := h5 (y + 1) (by omega); simp; omega) (by omega) (by rw [List.length_append]; simp; omega)
    simp only [hne, hc]
    rw [ih, List.append_assoc]
    rfl
theorem G165_8_eq (R : Type) (ds : List Int) (k0 : List Int → Option R) : ∀ (m i : Nat) (l : List Int), i ≤ 8 → 8 - i < m → ds.length = 8 → l.length ≤ 100000 + i → G165_8 m R (i : Int) l ds k0 = k0 (l ++ ds.drop i)
  | 0, i, l, _, h, _, _ => by omega
  | m + 1, i, l, h1, h2, hd8, hl => by
    simp only [G165_8, p165_8]
    by_cases hi : i < 8
    · have hd : decide ((i : Int) < 8) = true := by simp; omega
      have hbn : bnd (i : Int) 8 = true := by unfold bnd; simp; omega
      have hg : List.getD ds i 0 = ds[i] := by simp [show i < ds.length by omega]
      have hc : decide (l.length + [ds[i]].length ≤ 140737488355328) = true := by simp; omega
      have ih := G165_8_eq R ds k0 m (i + 1) (l ++ [ds[i]]) (by omega) (by omega) hd8 (by rw [List.length_append]; simp; omega)
      simp only [hd, hbn, Int.toNat_natCast, hg, hc]
      rw [wrap_i64 (by omega) (by omega), List.drop_eq_getElem_cons (show i < ds.length by omega)]
      rw [List.append_assoc] at ih
      exact ih
    · have : i = 8 := by omega
      subst this
      have hd : decide (((8 : Nat) : Int) < 8) = false := by simp
      simp only [hd]
      rw [List.drop_of_length_le (by omega), List.append_nil]
theorem F165_eq (R : Type) {rest : List Int} {n : Nat} (hr : rest.length = n % 64) (hn : n ≤ 1000000000) (k : List Int → Bool → Option R) : F165 R rest (n : Int) k = k (padT rest n) true := by
  simp only [F165, p165]
  have c0 : decide ((n : Int) ≥ 2305843009213693952) = false := by simp; omega
  have c1 : (IntKind.u64.wrap (rest.length : Int) != Int.tmod (n : Int) 64) = false := by
    rw [wrap_u64 (by omega) (by omega), Int.tmod_eq_emod_of_nonneg (by omega)]
    simp; omega
  have c2 : decide (([] : List Int).length + rest.length ≤ 140737488355328) = true := by simp; omega
  have c3 : decide (([] ++ rest).length + [(128 : Int)].length ≤ 140737488355328) = true := by simp; omega
  simp only [c0, c1, c2, c3]
  have g := G165_4_eq R (n : Int) (fun x10 x11 => F149 R (IntKind.u64.wrap (8 * x10)) fun y13 => G165_8 FUEL R 0 x11 y13 fun x14 => k x14 true) (zerosN n) FUEL ([] ++ rest ++ [128]) (by unfold zerosN; omega) (by simp; unfold zerosN; omega) (fun y hy => by simp; unfold zerosN at hy; omega) (by rw [FUEL_eq]; unfold zerosN; omega) (by simp; unfold zerosN; omega)
  refine g.trans ?_
  rw [wrap_u64 (by omega) (by omega), F149_eq R (by omega)]
  refine (G165_8_eq R (putS (8 * (n : Int))) (fun x14 => k x14 true) FUEL 0 _ (by omega) (by rw [FUEL_eq]; omega) rfl (by simp; unfold zerosN; omega)).trans ?_
  congr 1
  simp [padT]
theorem F169_eq (R : Type) {n : Nat} (hn : n ≤ 1000000000) (k : Int → Option R) : F169 R (n : Int) k = k (((n + 72) / 64 : Nat) : Int) := by
  simp only [F169, p169]
  have c0 : decide ((n : Int) ≥ 2305843009213693952) = false := by simp; omega
  simp only [c0]
  rw [wrap_u64 (n := (n : Int) + 8) (by omega) (by omega), wrap_u64 (n := (n : Int) + 8 + 64) (by omega) (by omega), Int.tdiv_eq_ediv_of_nonneg (by omega), wrap_u64 (by omega) (by omega)]
  congr 1
theorem lay_mid {a b c xs : List Int} (h : xs.length = b.length) : lay (a ++ b ++ c) a.length xs = a ++ xs ++ c := by
  unfold lay
  have e1 : List.take a.length (a ++ b ++ c) = a := by rw [List.append_assoc, List.take_left]
  have e2 : List.drop (a.length + xs.length) (a ++ b ++ c) = c := by
    rw [h, show a.length + b.length = (a ++ b).length by simp, List.drop_left]
  rw [e1, e2]
theorem F162_eq (R : Type) {rest : List Int} {n : Nat} (hr : rest.length = n % 64) (hn : n ≤ 1000000000) (k : List Int → Bool → Option R) : F162 R rest (n : Int) k = k (padT rest n) true := by
  simp only [F162, p162]
  have c0 : decide ((n : Int) ≥ 2305843009213693952) = false := by simp; omega
  have c1 : (IntKind.u64.wrap (rest.length : Int) != Int.tmod (n : Int) 64) = false := by
    rw [wrap_u64 (by omega) (by omega), Int.tmod_eq_emod_of_nonneg (by omega)]
    simp; omega
  simp only [c0, c1]
  rw [F169_eq R hn, Int.tdiv_eq_ediv_of_nonneg (by omega), wrap_u64 (n := (n : Int) / 64) (by omega) (by omega), wrap_u64 (by omega) (by omega), wrap_i64 (n := (((n + 72) / 64 : Nat) : Int) - (n : Int) / 64) (by omega) (by omega), wrap_i64 (n := _ * 64) (by omega) (by omega)]
  obtain ⟨sz, hsz⟩ : ∃ sz : Nat, ((((n + 72) / 64 : Nat) : Int) - (n : Int) / 64) * 64 = sz := ⟨((n + 72) / 64 - n / 64) * 64, by omega⟩
  have hz : sz = rest.length + 1 + zerosN n + 8 := by unfold zerosN; omega
  rw [hsz]
  have l1 : lay (List.replicate sz (0 : Int)) 0 (List.take (List.replicate sz (0 : Int)).length rest) = rest ++ List.replicate (1 + zerosN n + 8) 0 := by
    unfold lay
    rw [List.take_of_length_le (l := rest) (by simp; omega)]
    simp
    omega
  have l2 : List.set (rest ++ List.replicate (1 + zerosN n + 8) 0) rest.length 128 = (rest ++ 128 :: List.replicate (zerosN n) 0) ++ List.replicate 8 0 ++ [] := by
    rw [List.set_append_right _ _ (Nat.le_refl _), Nat.sub_self, show 1 + zerosN n + 8 = (zerosN n + 8) + 1 by omega, List.replicate_succ, List.set_cons_zero, ← List.replicate_append_replicate]
    simp
  have sh : ishl .u64 (n : Int) 3 = 8 * (n : Int) := by
    unfold ishl
    rw [show (2 : Int) ^ (min (3 : Int).toNat IntKind.u64.bits) = 8 by decide, wrap_u64 (by omega) (by omega)]
    omega
  have hl3 : ((rest ++ 128 :: List.replicate (zerosN n) 0) ++ List.replicate 8 (0 : Int) ++ []).length = sz := by simp; omega
  have d1 : decide (0 ≤ (sz : Int) ∧ (sz : Int) ≤ (sz : Int) ∧ (sz : Int) ≤ 140737488355328) = true := decide_eq_true (by omega)
  have d2 : bnd (rest.length : Int) ((rest ++ List.replicate (1 + zerosN n + 8) (0 : Int)).length : Int) = true := by unfold bnd; simp; omega
  have d3 : decide (0 ≤ (sz : Int) - 8 ∧ (sz : Int) - 8 ≤ (sz : Int) ∧ (sz : Int) ≤ (sz : Int) ∧ (sz : Int) ≤ (sz : Int)) = true := decide_eq_true (by omega)
  have e8 : ((sz : Int) - 8).toNat = (rest ++ 128 :: List.replicate (zerosN n) 0).length := by simp; omega
  have e9 : List.take ((sz : Int) - ((sz : Int) - 8)).toNat (List.take 8 (List.drop 0 (putS (8 * (n : Int))))) = putS (8 * (n : Int)) := by
    rw [show ((sz : Int) - ((sz : Int) - 8)).toNat = 8 by omega]; rfl
  simp only [d1, Int.toNat_natCast, l1, d2, l2, sh]
  rw [F147_eq, wrap_i64 (by omega) (by omega)]
  simp only [hl3, d3, e9, e8]
  rw [lay_mid (by rfl)]
  congr 1
  simp [padT]
end Go.PG
namespace Go.PG
def put32S (a : Int) : List Int := [a / 16777216 % 256, a / 65536 % 256, a / 256 % 256, a % 256]
theorem F172_eq (R : Type) {a : Int} (ha : U32 a) (k : List Int → Option R) : F172 R a k = k (put32S a) := by
  have e24 : ishr .u32 a 24 = a / 16777216 := shr_eq ha (r := 24) (by omega)
  have e16 : ishr .u32 a 16 = a / 65536 := shr_eq ha (r := 16) (by omega)
  have e8 : ishr .u32 a 8 = a / 256 := shr_eq ha (r := 8) (by omega)
  simp only [F172, p172, e24, e16, e8, wrap_u8_mod]
  rfl
theorem F166_eq (R : Type) {a : Int} (ha : U32 a) (k : List Int → Option R) : F166 R a k = k (put32S a) := by
  have h := ha
  unfold U32 at h
  simp only [F166, p166]
  rw [Int.tdiv_eq_ediv_of_nonneg h.1, Int.tdiv_eq_ediv_of_nonneg h.1, Int.tdiv_eq_ediv_of_nonneg h.1, wrap_u32 (n := a / 16777216) (by omega) (by omega), wrap_u32 (n := a / 65536) (by omega) (by omega), wrap_u32 (n := a / 256) (by omega) (by omega)]
  rw [Int.tmod_eq_emod_of_nonneg (a := a / 65536) (by omega), Int.tmod_eq_emod_of_nonneg (a := a / 256) (by omega), Int.tmod_eq_emod_of_nonneg h.1]
  simp only [wrap_u8_mod, Int.emod_emod]
  rfl
theorem G157_eq (R : Type) (bs : List (List Int)) (hb : ∀ x ∈ bs, x.length = 64 ∧ AllU8 x) (hn : bs.length ≤ 1000000000) (x4 : List Int) (k0 : List Int → List Int → Option R) :
    ∀ (m i : Nat) (st : List Int), i ≤ bs.length → bs.length - i < m → st.length = 8 → AllU32 st → G157_2 m R bs (i : Int) st x4 k0 = k0 (foldB st (bs.drop i)) x4
  | 0, i, st, _, h, _, _ => by omega
  | m + 1, i, st, h1, h2, hl, hu => by
    simp only [G157_2, p157_2]
    by_cases hi : i < bs.length
    · have hd : decide ((i : Int) < (bs.length : Int)) = true := by simpa using hi
      have hbn : bnd (i : Int) (bs.length : Int) = true := by unfold bnd; simp; omega
      have hx := hb bs[i] (List.getElem_mem hi)
      have hg : List.getD bs i (List.replicate 64 0) = bs[i] := by simp [hi]
      simp only [hd, hbn, Int.toNat_natCast, hg]
      rw [F167_eq R hl hu hx.1 hx.2, wrap_i64 (by omega) (by omega)]
      have ok := takeS_ok bs[i] hl hu
      have ih := G157_eq R bs hb hn x4 k0 m (i + 1) (takeS st bs[i]) (by omega) (by omega) ok.1 ok.2
      rw [List.drop_eq_getElem_cons hi]
      exact ih
    · have : i = bs.length := by omega
      subst this
      have hd : decide ((bs.length : Int) < (bs.length : Int)) = false := by simp
      simp only [hd]
      rw [List.drop_of_length_le (Nat.le_refl _)]
      rfl
theorem F157_eq (R : Type) {st : List Int} {bs : List (List Int)} (hl : st.length = 8) (hu : AllU32 st) (hb : ∀ x ∈ bs, x.length = 64 ∧ AllU8 x) (hn : bs.length ≤ 1000000000) (k : List Int → Option R) : F157 R st bs k = k (foldB st bs) := by
  simp only [F157, p157]
  exact G157_eq R bs hb hn (List.replicate 8 0) (fun x1 _ => k x1) FUEL 0 st (by omega) (by rw [FUEL_eq]; omega) hl hu
def H0 : List Int := [1779033703, 3144134277, 1013904242, 2773480762, 1359893119, 2600822924, 528734635, 1541459225]
theorem F158_eq (R : Type) (k : List Int → Option R) : F158 R k = k H0 := by kernel_rfl
theorem F152_eq (R : Type) (k : Wr → Option R) : F152 R k = k (H0, [], 0, ()) := by kernel_rfl
theorem H0_ok : H0.length = 8 ∧ AllU32 H0 := ⟨rfl, fun x hx => by
  simp only [H0, List.mem_cons, List.not_mem_nil, or_false] at hx
  unfold U32
  omega⟩
def layStep (st l : List Int) (i : Nat) : List Int := lay l (4 * i) (put32S (st.getD i 0))
theorem lay_len {l xs : List Int} {lo : Nat} (h : lo + xs.length ≤ l.length) : (lay l lo xs).length = l.length := by
  unfold lay; simp; omega
theorem G164_eq (R : Type) {st : List Int} (hu : AllU32 st) (w : Wr × Unit) (k0 : (Wr × Unit) → List Int → Option R) : ∀ (m i : Nat) (l : List Int), i ≤ 8 → 8 - i < m → G164_2 m R st (i : Int) w l k0 = k0 w ((List.range' i (8 - i)).foldl (layStep st) l)
  | 0, i, l, _, h => by omega
  | m + 1, i, l, h1, h2 => by
    simp only [G164_2, p164_2]
    by_cases hi : i < 8
    · have ih := G164_eq R hu w k0 m (i + 1) (layStep st l i) (by omega) (by omega)
      rw [range'_step hi, List.foldl_cons, ← ih]
      have hd : decide ((i : Int) < 8) = true := by simp; omega
      have hbn : bnd (i : Int) 8 = true := by unfold bnd; simp; omega
      rw [wrap_i64 (n := 4 * (i : Int)) (by omega) (by omega), wrap_i64 (n := (i : Int) + 1) (by omega) (by omega)]
      have c : decide (0 ≤ 4 * (i : Int) ∧ 4 * (i : Int) ≤ 32 ∧ (32 : Int) ≤ 32) = true := decide_eq_true (by omega)
      have e1 : (4 * (i : Int)).toNat = 4 * i := by omega
      have e2 : ∀ a, List.take (Int.toNat (32 - 4 * (i : Int))) (List.take 4 (List.drop 0 (put32S a))) = put32S a := fun a => by
        rw [List.take_of_length_le (l := List.take 4 (List.drop 0 (put32S a))) (by simp [put32S]; omega)]
        rfl
      simp only [hd, hbn, c, Int.toNat_natCast]
      rw [F172_eq R (getD_all hu u32_0 _)]
      simp only [c, e1, e2]
      rfl
    · have : i = 8 := by omega
      subst this
      rfl
end Go.PG
namespace Go.PG
theorem G154_6_eq (R : Type) {b : List Int} {o : Nat} (ho : o + 64 ≤ b.length) (hb : b.length ≤ 1000000000) (acc : List (List Int)) (k0 : List Int → Int → List (List Int) → List Int → Option R) : ∀ (m i : Nat), i ≤ 64 → 64 - i < m →
    G154_6 m R b (o : Int) (i : Int) acc ((b.drop o).take i ++ List.replicate (64 - i) 0) k0 = k0 b (o : Int) acc ((b.drop o).take 64)
  | 0, i, _, h => by omega
  | m + 1, i, h1, h2 => by
    simp only [G154_6, p154_6]
    by_cases hi : i < 64
    · have ih := G154_6_eq R ho hb acc k0 m (i + 1) (by omega) (by omega)
      have hd : decide ((i : Int) < 64) = true := by simp; omega
      have hbn : bnd (i : Int) 64 = true := by unfold bnd; simp; omega
      have hb2 : bnd ((o : Int) + (i : Int)) (b.length : Int) = true := by unfold bnd; simp; omega
      have e1 : ((o : Int) + (i : Int)).toNat = o + i := by omega
      have hl : ((b.drop o).take i).length = i := by rw [List.length_take, List.length_drop]; omega
      have hs : List.set ((b.drop o).take i ++ List.replicate (64 - i) 0) i (List.getD b (o + i) 0) = (b.drop o).take (i + 1) ++ List.replicate (64 - (i + 1)) 0 := by
        rw [List.set_append_right _ _ (by omega), hl, Nat.sub_self, show 64 - i = (64 - (i + 1)) + 1 by omega, List.replicate_succ, List.set_cons_zero]
        rw [List.take_succ_eq_append_getElem (by rw [List.length_drop]; omega), List.append_assoc]
        simp [show o + i < b.length by omega]
      rw [wrap_i64 (n := (o : Int) + (i : Int)) (by omega) (by omega), wrap_i64 (n := (i : Int) + 1) (by omega) (by omega)]
      simp only [hd, hbn, hb2, e1, Int.toNat_natCast, hs]
      exact ih
    · have : i = 64 := by omega
      subst this
      have hd : decide (((64 : Nat) : Int) < 64) = false := by simp
      simp only [hd]
      simp
theorem G154_3_eq (R : Type) {b : List Int} (hb : b.length ≤ 1000000000) (k0 : List Int → Int → List (List Int) → Option R) : ∀ (m o : Nat) (acc : List (List Int)), o ≤ b.length → (b.length - o) / 64 < m → acc.length + (b.length - o) / 64 ≤ 1000000000 →
    ∃ o' : Nat, o' ≤ b.length ∧ b.drop o' = tailS (b.drop o) ∧ G154_3 m R b (o : Int) acc k0 = k0 b (o' : Int) (acc ++ blkS (b.drop o))
  | 0, o, acc, _, h, _ => by omega
  | m + 1, o, acc, h0, h1, h2 => by
    simp only [G154_3, p154_3]
    rw [wrap_i64 (n := (o : Int) + 64) (by omega) (by omega)]
    by_cases hi : o + 64 ≤ b.length
    · have hd : decide ((o : Int) + 64 ≤ (b.length : Int)) = true := by simp; omega
      obtain ⟨o', g1, g2, g3⟩ := G154_3_eq R hb k0 m (o + 64) (acc ++ [(b.drop o).take 64]) (by omega) (by omega) (by rw [List.length_append]; simp; omega)
      have hl : 64 ≤ (b.drop o).length := by rw [List.length_drop]; omega
      refine ⟨o', g1, ?_, ?_⟩
      · rw [g2, tailS_step hl, List.drop_drop]
      · have g := G154_6_eq R hi hb acc (fun x7 x8 x9 x10 => match decide (x9.length + [x10].length ≤ 2199023255552) with | true => G154_3 m R x7 (IntKind.i64.wrap (x8 + 64)) (x9 ++ [x10]) k0 | false => none) FUEL 0 (by omega) (by rw [FUEL_eq]; omega)
        have hc : decide (acc.length + [(b.drop o).take 64].length ≤ 2199023255552) = true := by simp; omega
        simp only [hd]
        refine Eq.trans ?_ (g.trans ?_)
        · rfl
        · simp only [hc]
          rw [wrap_i64 (by omega) (by omega), blkS_step hl, List.drop_drop]
          rw [List.append_assoc] at g3
          exact g3
    · have hd : decide ((o : Int) + 64 ≤ (b.length : Int)) = false := by simp; omega
      simp only [hd]
      have hl : (b.drop o).length < 64 := by rw [List.length_drop]; omega
      exact ⟨o, h0, by rw [tailS_end hl], by rw [blkS_end hl, List.append_nil]⟩
theorem F154_eq (R : Type) {b : List Int} (hb : b.length ≤ 1000000000) (k : List (List Int) → List Int → Option R) : F154 R b k = k (blkS b) (tailS b) := by
  simp only [F154, p154]
  obtain ⟨o', g1, g2, g3⟩ := G154_3_eq R hb (fun x1 x2 x3 => match decide (0 ≤ x2 ∧ x2 ≤ (x1.length : Int) ∧ (x1.length : Int) ≤ (x1.length : Int) ∧ (x1.length : Int) ≤ (x1.length : Int)) with | true => k x3 (List.take (Int.toNat ((x1.length : Int) - x2)) (List.drop (Int.toNat x2) x1)) | false => none) FUEL 0 [] (by omega) (by rw [FUEL_eq]; omega) (by simp; omega)
  refine g3.trans ?_
  have c : decide (0 ≤ (o' : Int) ∧ (o' : Int) ≤ (b.length : Int) ∧ (b.length : Int) ≤ (b.length : Int) ∧ (b.length : Int) ≤ (b.length : Int)) = true := decide_eq_true (by omega)
  simp only [c, Int.toNat_natCast]
  rw [List.take_of_length_le (by rw [List.length_drop]; omega), g2]
  rfl
def padM (m : List Int) : List Int := m ++ 128 :: (List.replicate (zerosN m.length) 0 ++ putS (8 * (m.length : Int)))
theorem F155_eq (R : Type) {m : List Int} (hm : m.length ≤ 500000000) (k : List Int → Option R) : F155 R m k = k (padM m) := by
  simp only [F155, p155]
  rw [Int.tmod_eq_emod_of_nonneg (by omega), wrap_i64 (by omega) (by omega), wrap_u64 (n := (m.length : Int)) (by omega) (by omega)]
  obtain ⟨q, hq⟩ : ∃ q : Nat, (m.length : Int) - (m.length : Int) % 64 = q := ⟨m.length - m.length % 64, by omega⟩
  have hq' : q = m.length - m.length % 64 := by omega
  rw [hq]
  have c1 : decide (0 ≤ (q : Int) ∧ (q : Int) ≤ (m.length : Int) ∧ (m.length : Int) ≤ (m.length : Int) ∧ (m.length : Int) ≤ (m.length : Int)) = true := decide_eq_true (by omega)
  have c2 : decide (0 ≤ (0 : Int) ∧ (0 : Int) ≤ (q : Int) ∧ (q : Int) ≤ (q : Int) ∧ (q : Int) ≤ (m.length : Int)) = true := decide_eq_true (by omega)
  have e1 : List.take (Int.toNat ((m.length : Int) - (q : Int))) (List.drop q m) = List.drop q m := List.take_of_length_le (by rw [List.length_drop]; omega)
  have e2 : List.take (Int.toNat ((q : Int) - 0)) (List.drop 0 m) = List.take q m := by simp
  simp only [c1, Int.toNat_natCast, e1]
  rw [F165_eq R (by rw [List.length_drop]; omega) (by omega)]
  have c3 : decide (([] : List Int).length + (List.take q m).length ≤ 140737488355328) = true := decide_eq_true (by simp; omega)
  have c4 : decide (([] ++ List.take q m).length + (padT (List.drop q m) m.length).length ≤ 140737488355328) = true := decide_eq_true (by simp [padT, putS]; unfold zerosN; omega)
  simp only [c2, e2, c3, c4]
  congr 1
  simp only [padT, padM, List.nil_append]
  rw [← List.append_assoc, List.take_append_drop]
end Go.PG
namespace Go.PG
def hashS (st : List Int) : List Int := (List.range' 0 8).foldl (layStep st) (List.replicate 32 0)
theorem F164_eq (R : Type) {st : List Int} (u : List Int × Int × Unit) (hu : AllU32 st) (k : List Int → (Wr × Unit) → Option R) : F164 R ((st, u), ()) k = k (hashS st) ((st, u), ()) := by
  simp only [F164, p164]
  exact G164_eq R hu ((st, u), ()) (fun x1 x2 => k x2 x1) FUEL 0 (List.replicate 32 0) (by omega) (by rw [FUEL_eq]; omega)
def SHA (m : List Int) : List Int := hashS (foldB H0 (blkS (padM m)))
theorem putS_u8 (x : Int) : AllU8 (putS x) := fun y hy => by
  simp only [putS, List.mem_cons, List.not_mem_nil, or_false] at hy
  unfold U8
  omega
theorem padT_u8 {rest : List Int} (h : AllU8 rest) (n : Nat) : AllU8 (padT rest n) := fun y hy => by
  unfold padT at hy
  rcases List.mem_append.1 hy with h1 | h1
  · exact h y h1
  · rcases List.mem_cons.1 h1 with rfl | h1
    · unfold U8; omega
    · rcases List.mem_append.1 h1 with h1 | h1
      · rw [List.eq_of_mem_replicate h1]; exact u8_0
      · exact putS_u8 _ y h1
theorem padM_blk (m : List Int) : blkS (padM m) = blkS m ++ blkS (padT (tailS m) m.length) := (blk_append m.length m _ (Nat.le_refl _)).1
theorem F153_eq (R : Type) {m : List Int} (h8 : AllU8 m) (hm : m.length ≤ 500000000) (k : List Int → Int → Option R) : F153 R (wrS H0 m) k = k (SHA m) 0 := by
  have tl := (tailS_len m.length m (Nat.le_refl _)).1
  have ok := blkS_ok m.length m (Nat.le_refl _) h8
  have hf := foldB_ok (blkS m) H0_ok.1 H0_ok.2
  have hp := padT_u8 ok.2 m.length
  simp only [F153, p153, wrS]
  rw [F162_eq R tl (by omega)]
  simp only [Bool.not_true]
  rw [F163_eq R (tailS m, (m.length : Int), ()) hf.1 hf.2 hp (by simp [padT, putS]; unfold zerosN; omega)]
  have hf2 := foldB_ok (blkS (padT (tailS m) m.length)) hf.1 hf.2
  rw [F164_eq R _ hf2.2]
  unfold SHA
  rw [padM_blk]
  unfold foldB
  rw [List.foldl_append]
theorem F148_eq (R : Type) {ps : List (List Int)} (h8 : ∀ p ∈ ps, AllU8 p) (hlen : ps.flatten.length ≤ 500000000) (hnum : ps.length ≤ 1000000000) (k : List Int → Option R) : F148 R ps k = k (SHA ps.flatten) := by
  simp only [F148, p148]
  rw [F152_eq, F151_eq R H0_ok.1 H0_ok.2 h8 hlen hnum]
  refine F153_eq R (fun x hx => ?_) hlen _
  obtain ⟨p, h1, h2⟩ := List.mem_flatten.1 hx
  exact h8 p h1 x h2
end Go.PG
namespace Go.PG
theorem G156_7_eq (R : Type) (x1 : Nat) (h : x1 < 8) (x3 x4 ys : List Int) (hy : ys.length = 4) (k0 : Int → List Int → List Int → List Int → Option R) : ∀ (m j : Nat) (l : List Int), j ≤ 4 → 4 - j < m → G156_7 m R (x1 : Int) (j : Int) x3 x4 l ys k0 = k0 (x1 : Int) x3 x4 ((List.range' j (4 - j)).foldl (fun l j => l.set (4 * x1 + j) (ys.getD j 0)) l)
  | 0, j, l, _, h => by omega
  | m + 1, j, l, h1, h2 => by
    simp only [G156_7, p156_7]
    by_cases hi : j < 4
    · have ih := G156_7_eq R x1 h x3 x4 ys hy k0 m (j + 1) (l.set (4 * x1 + j) (ys.getD j 0)) (by omega) (by omega)
      rw [range'_step hi, List.foldl_cons, ← ih]
      have hd : decide ((j : Int) < 4) = true := by simp; omega
      have hbn : bnd (j : Int) 4 = true := by unfold bnd; simp; omega
      rw [wrap_i64 (n := 4 * (x1 : Int)) (by omega) (by omega), wrap_i64 (n := 4 * (x1 : Int) + (j : Int)) (by omega) (by omega), wrap_i64 (n := (j : Int) + 1) (by omega) (by omega)]
      have hb2 : bnd (4 * (x1 : Int) + (j : Int)) 32 = true := by unfold bnd; simp; omega
      have e1 : (4 * (x1 : Int) + (j : Int)).toNat = 4 * x1 + j := by omega
      simp only [hd, hbn, hb2, e1, Int.toNat_natCast]
      rfl
    · have : j = 4 := by omega
      subst this
      rfl
end Go.PG
namespace Go.PG
theorem set4_lay (l : List Int) (p : Nat) (h : p + 4 ≤ l.length) (a b c d : Int) :
    (List.range' 0 4).foldl (fun l j => l.set (p + j) (List.getD [a, b, c, d] j 0)) l = lay l p [a, b, c, d] := by
  have e : (List.range' 0 4).foldl (fun l j => l.set (p + j) (List.getD [a, b, c, d] j 0)) l = (((l.set p a).set (p + 1) b).set (p + 2) c).set (p + 3) d := rfl
  rw [e]
  apply List.ext_getElem?
  intro i
  unfold lay
  simp only [List.getElem?_set, List.getElem?_append, List.length_take, List.length_set, List.getElem?_drop, List.length_append, List.length_cons, List.length_nil, List.getElem?_take]
  have hm : min p l.length = p := by omega
  have hx : [a, b, c, d].length = 4 := rfl
  by_cases h1 : i < p
  · have n1 : ¬ p + 3 = i := by omega
    have n2 : ¬ p + 2 = i := by omega
    have n3 : ¬ p + 1 = i := by omega
    have n4 : ¬ p = i := by omega
    simp only [n1, n2, n3, n4, if_false, hm]
    rw [if_pos (by omega), if_pos (by omega), if_pos h1]
  · by_cases h2 : i < p + 4
    · obtain ⟨q, rfl⟩ : ∃ q, i = p + q := ⟨i - p, by omega⟩
      have hq : q = 0 ∨ q = 1 ∨ q = 2 ∨ q = 3 := by omega
      rcases hq with rfl | rfl | rfl | rfl
      · simp [hm, show ¬ p + 3 = p from by omega, show p < l.length from by omega]
      · simp [hm, show p + 1 < l.length from by omega, show ¬ p + 1 < p from by omega]
      · simp [hm, show p + 2 < l.length from by omega, show ¬ p + 2 < p from by omega]
      · simp [hm, show p + 3 < l.length from by omega, show ¬ p + 3 < p from by omega]
    · have n1 : ¬ p + 3 = i := by omega
      have n2 : ¬ p + 2 = i := by omega
      have n3 : ¬ p + 1 = i := by omega
      have n4 : ¬ p = i := by omega
      simp only [n1, n2, n3, n4, if_false, hm]
      rw [if_neg (by omega)]
      congr 1
      omega
theorem G156_3_eq (R : Type) {st : List Int} (hu : AllU32 st) (x3 : List Int) (k0 : List Int → List Int → Option R) : ∀ (m i : Nat) (l : List Int), i ≤ 8 → 8 - i < m → l.length = 32 → G156_3 m R (i : Int) st x3 l k0 = k0 x3 ((List.range' i (8 - i)).foldl (layStep st) l)
  | 0, i, l, _, h, _ => by omega
  | m + 1, i, l, h1, h2, hl => by
    simp only [G156_3, p156_3]
    by_cases hi : i < 8
    · have hs : lay l (4 * i) (put32S (st.getD i 0)) = layStep st l i := rfl
      have ih := G156_3_eq R hu x3 k0 m (i + 1) (layStep st l i) (by omega) (by omega) (by rw [← hs, lay_len (by simp [put32S]; omega)]; exact hl)
      rw [range'_step hi, List.foldl_cons, ← ih]
      have hd : decide ((i : Int) < 8) = true := by simp; omega
      have hbn : bnd (i : Int) 8 = true := by unfold bnd; simp; omega
      simp only [hd, hbn, Int.toNat_natCast]
      rw [F166_eq R (getD_all hu u32_0 _)]
      refine (G156_7_eq R i hi st x3 _ rfl _ FUEL 0 l (by omega) (by rw [FUEL_eq]; omega)).trans ?_
      have e4 := set4_lay l (4 * i) (by omega) (st.getD i 0 / 16777216 % 256) (st.getD i 0 / 65536 % 256) (st.getD i 0 / 256 % 256) (st.getD i 0 % 256)
      rw [wrap_i64 (n := (i : Int) + 1) (by omega) (by omega)]
      show G156_3 m R ((i : Int) + 1) st x3 _ k0 = G156_3 m R ((i + 1 : Nat) : Int) st x3 _ k0
      rw [← hs]
      show G156_3 m R ((i : Int) + 1) st x3 _ k0 = G156_3 m R ((i : Int) + 1) st x3 _ k0
      congr 1
    · have : i = 8 := by omega
      subst this
      rfl
theorem F156_eq (R : Type) {st : List Int} (hu : AllU32 st) (k : List Int → Option R) : F156 R st k = k (hashS st) := by
  simp only [F156, p156]
  exact G156_3_eq R hu _ (fun x1 x2 => k x2) FUEL 0 (List.replicate 32 0) (by omega) (by rw [FUEL_eq]; omega) rfl
theorem padM_u8 {m : List Int} (h : AllU8 m) : AllU8 (padM m) := fun x hx => by
  unfold padM at hx
  rcases List.mem_append.1 hx with h1 | h1
  · exact h x h1
  · exact padT_u8 (rest := []) (fun y hy => absurd hy (by simp)) m.length x h1
theorem padM_len (m : List Int) : (padM m).length ≤ m.length + 72 := by
  simp [padM, putS, zerosN]; omega
theorem blkF_len : ∀ (n : Nat) (b : List Int), (blkF n b).length ≤ n
  | 0, b => by simp [blkF]
  | n + 1, b => by
    simp only [blkF]
    split
    · simp only [List.length_cons]
      have := blkF_len n (b.drop 64)
      omega
    · simp
theorem F150_eq (R : Type) {m : List Int} (h8 : AllU8 m) (hm : m.length ≤ 500000000) (k : List Int → Option R) : F150 R m k = k (SHA m) := by
  simp only [F150, p150]
  have hp := padM_len m
  rw [F155_eq R hm, F154_eq R (by omega), F158_eq]
  have ok := blkS_ok (padM m).length (padM m) (Nat.le_refl _) (padM_u8 h8)
  rw [F157_eq R H0_ok.1 H0_ok.2 ok.1 (by have := blkF_len ((padM m).length / 64 + 1) (padM m); unfold blkS; omega), F156_eq R (foldB_ok (blkS (padM m)) H0_ok.1 H0_ok.2).2]
  rfl
end Go.PG
namespace Go.PG
theorem wrap_bv8 (b : BitVec 8) : IntKind.u8.wrap ((b.toNat : Nat) : Int) = (b.toNat : Int) := by
  have := b.isLt
  exact wrap_u8 (by omega) (by omega)
def zero32 : List Int := List.replicate 32 0
def H32 (l : List Int) : Prop := l.length = 32 ∧ AllU8 l
theorem zero32_ok : H32 zero32 := ⟨by simp [zero32], fun x hx => by rw [List.eq_of_mem_replicate hx]; exact u8_0⟩
end Go.PG
namespace Go.PG
theorem putS_len (x : Int) : (putS x).length = 8 := rfl
theorem take32 {l : List Int} (h : H32 l) : List.take 32 (List.drop 0 l) = l := by
  rw [List.drop_zero, List.take_of_length_le (by rw [h.1]; omega)]
theorem take8 (x : Int) : List.take 8 (List.drop 0 (putS x)) = putS x := rfl
theorem drop_step {l : List Int} {i : Nat} (h : i < l.length) : l.drop i = l.getD i 0 :: l.drop (i + 1) := by
  rw [List.drop_eq_getElem_cons h]
  simp [h]
theorem AllU8.app {a b : List Int} (ha : AllU8 a) (hb : AllU8 b) : AllU8 (a ++ b) := fun x hx => (List.mem_append.1 hx).elim (ha x) (hb x)
theorem fit_h32 {x : List Int} (h : Fit (.arr 32 (.int .u8)) x) : H32 x := ⟨h.1, fun y hy => by have := fit_u8 (h.2 y hy); unfold U8; omega⟩
end Go.PG
namespace Go.PG
end Go.PG
namespace Go.PG
theorem layStep_ok {st l : List Int} (hl : H32 l) {i : Nat} (hi : i < 8) : H32 (layStep st l i) := by
  refine ⟨by unfold layStep; rw [lay_len (by simp [put32S, hl.1]; omega)]; exact hl.1, ?_⟩
  unfold layStep lay
  refine AllU8.app (AllU8.app (fun x hx => hl.2 x (List.mem_of_mem_take hx)) ?_) (fun x hx => hl.2 x (List.mem_of_mem_drop hx))
  intro y hy
  simp only [put32S, List.mem_cons, List.not_mem_nil, or_false] at hy
  unfold U8
  omega
theorem layFold_ok (st : List Int) : ∀ (is : List Nat) {l : List Int}, (∀ i ∈ is, i < 8) → H32 l → H32 (is.foldl (layStep st) l)
  | [], _, _, hl => hl
  | i :: is, _, h, hl => layFold_ok st is (fun j hj => h j (List.mem_cons_of_mem _ hj)) (layStep_ok hl (h i List.mem_cons_self))
theorem SHA_ok (m : List Int) : H32 (SHA m) := by
  unfold SHA hashS
  refine layFold_ok _ _ (fun i hi => ?_) zero32_ok
  rw [List.mem_range'] at hi
  obtain ⟨j, hj, rfl⟩ := hi
  omega
def blockS (a : List Int) (d i : Int) : List Int := SHA (a ++ (putS d ++ putS i))
theorem blockS_ok (a : List Int) (d i : Int) : H32 (blockS a d i) := SHA_ok _
theorem F143_eq (R : Type) {a : List Int} (ha : H32 a) (d i : Int) (k : List Int → Option R) : F143 R a d i k = k (blockS a d i) := by
  simp only [F143, p143]
  rw [F147_eq, F147_eq]
  simp only [take32 ha, take8]
  rw [F148_eq R (fun p hp => by
    simp only [List.mem_cons, List.not_mem_nil, or_false] at hp
    rcases hp with rfl | rfl | rfl
    · exact ha.2
    · exact putS_u8 d
    · exact putS_u8 i) (by simp [ha.1, putS_len]) (by simp)]
  simp [blockS]
theorem G144_3_eq (R : Type) {a : List Int} (ha : a.length = 32) (x1 x2 : Int) (x5 : List Int) (k0 : Int → Int → List Int → List Int → Option R) : ∀ (m i : Nat) (o : List Int), i ≤ 32 → 32 - i < m → o.length ≤ 1000000 + i → G144_3 m R x1 x2 (i : Int) a x5 o k0 = k0 x1 x2 x5 (o ++ a.drop i)
  | 0, i, _, _, h, _ => by omega
  | m + 1, i, o, h1, h2, h3 => by
    simp only [G144_3, p144_3]
    by_cases hi : i < 32
    · have ih := G144_3_eq R ha x1 x2 x5 k0 m (i + 1) (o ++ [a.getD i 0]) (by omega) (by omega) (by simp; omega)
      have hd : decide ((i : Int) < 32) = true := by simp; omega
      have hbn : bnd (i : Int) 32 = true := by unfold bnd; simp; omega
      have hc : ∀ y : Int, decide (List.length o + List.length [y] ≤ 140737488355328) = true := fun y => by simp; omega
      simp only [hd, hbn, Int.toNat_natCast, hc]
      rw [wrap_i64 (n := (i : Int) + 1) (by omega) (by omega), drop_step (by omega)]
      simp only [List.append_assoc, List.cons_append, List.nil_append] at ih
      exact ih
    · have : i = 32 := by omega
      subst this
      rw [List.drop_of_length_le (by omega), List.append_nil]
      rfl
theorem G144_8_eq (R : Type) {a : List Int} (ha : a.length = 8) (x2 x5 : List Int) (k0 : List Int → List Int → List Int → Option R) : ∀ (m i : Nat) (o : List Int), i ≤ 8 → 8 - i < m → o.length ≤ 1000000 + i → G144_8 m R (i : Int) x2 o a x5 k0 = k0 x2 (o ++ a.drop i) x5
  | 0, i, _, _, h, _ => by omega
  | m + 1, i, o, h1, h2, h3 => by
    simp only [G144_8, p144_8]
    by_cases hi : i < 8
    · have ih := G144_8_eq R ha x2 x5 k0 m (i + 1) (o ++ [a.getD i 0]) (by omega) (by omega) (by simp; omega)
      have hd : decide ((i : Int) < 8) = true := by simp; omega
      have hbn : bnd (i : Int) 8 = true := by unfold bnd; simp; omega
      have hc : ∀ y : Int, decide (List.length o + List.length [y] ≤ 140737488355328) = true := fun y => by simp; omega
      simp only [hd, hbn, Int.toNat_natCast, hc]
      rw [wrap_i64 (n := (i : Int) + 1) (by omega) (by omega), drop_step (by omega)]
      simp only [List.append_assoc, List.cons_append, List.nil_append] at ih
      exact ih
    · have : i = 8 := by omega
      subst this
      rw [List.drop_of_length_le (by omega), List.append_nil]
      rfl
theorem G144_12_eq (R : Type) {a : List Int} (ha : a.length = 8) (x2 : List Int) (k0 : List Int → List Int → Option R) : ∀ (m i : Nat) (o : List Int), i ≤ 8 → 8 - i < m → o.length ≤ 1000000 + i → G144_12 m R (i : Int) x2 o a k0 = k0 x2 (o ++ a.drop i)
  | 0, i, _, _, h, _ => by omega
  | m + 1, i, o, h1, h2, h3 => by
    simp only [G144_12, p144_12]
    by_cases hi : i < 8
    · have ih := G144_12_eq R ha x2 k0 m (i + 1) (o ++ [a.getD i 0]) (by omega) (by omega) (by simp; omega)
      have hd : decide ((i : Int) < 8) = true := by simp; omega
      have hbn : bnd (i : Int) 8 = true := by unfold bnd; simp; omega
      have hc : ∀ y : Int, decide (List.length o + List.length [y] ≤ 140737488355328) = true := fun y => by simp; omega
      simp only [hd, hbn, Int.toNat_natCast, hc]
      rw [wrap_i64 (n := (i : Int) + 1) (by omega) (by omega), drop_step (by omega)]
      simp only [List.append_assoc, List.cons_append, List.nil_append] at ih
      exact ih
    · have : i = 8 := by omega
      subst this
      rw [List.drop_of_length_le (by omega), List.append_nil]
      rfl
def U64 (x : Int) : Prop := 0 ≤ x ∧ x < 18446744073709551616
theorem F144_eq (R : Type) {a : List Int} (ha : H32 a) {d i : Int} (hd : U64 d) (hi : U64 i) (k : List Int → Option R) : F144 R a d i k = k (blockS a d i) := by
  simp only [F144, p144]
  refine (G144_3_eq R ha.1 d i _ _ FUEL 0 [] (by omega) (by rw [FUEL_eq]; omega) (by simp)).trans ?_
  simp only [List.drop_zero, List.nil_append]
  rw [F149_eq R hd, F149_eq R hi]
  refine (G144_8_eq R (putS_len d) _ _ _ FUEL 0 a (by omega) (by rw [FUEL_eq]; omega) (by rw [ha.1]; omega)).trans ?_
  simp only [List.drop_zero]
  refine (G144_12_eq R (putS_len i) _ _ FUEL 0 (a ++ putS d) (by omega) (by rw [FUEL_eq]; omega) (by simp [ha.1, putS_len])).trans ?_
  simp only [List.drop_zero]
  rw [F150_eq R ((ha.2.app (putS_u8 d)).app (putS_u8 i)) (by simp [ha.1, putS_len]), List.append_assoc]
  rfl
theorem wrap_bv64 (b : BitVec 64) : IntKind.u64.wrap ((b.toNat : Nat) : Int) = (b.toNat : Int) := by
  have := b.isLt
  exact wrap_u64 (by omega) (by omega)
theorem iand_u64 (a b : Int) : iand .u64 a b = ((BitVec.ofInt 64 a &&& BitVec.ofInt 64 b).toNat : Int) := wrap_bv64 _
theorem ior_u64 (a b : Int) : ior .u64 a b = ((BitVec.ofInt 64 a ||| BitVec.ofInt 64 b).toNat : Int) := wrap_bv64 _
theorem iand_mask {x : Int} (hx : U64 x) (n : Nat) (hn : n < 64) : iand .u64 x ((2 ^ n - 1 : Nat) : Int) = x % 2 ^ n := by
  unfold U64 at hx
  obtain ⟨y, rfl⟩ : ∃ y : Nat, x = y := ⟨x.toNat, by omega⟩
  have h1 : (2 : Nat) ^ n < 2 ^ 64 := Nat.pow_lt_pow_right (by omega) hn
  have h0 : 0 < (2 : Nat) ^ n := Nat.pow_pos (by omega)
  rw [iand_u64, BitVec.ofInt_natCast, BitVec.ofInt_natCast, BitVec.toNat_and, BitVec.toNat_ofNat, BitVec.toNat_ofNat, Nat.mod_eq_of_lt (by omega), Nat.mod_eq_of_lt (by omega), Nat.and_two_pow_sub_one_eq_mod]
  simp
def bitS (a : List Int) (d n : Int) : Int := (blockS a d (n / 256)).getD (n % 256 / 8).toNat 0 / 2 ^ (7 - n % 8).toNat % 2
theorem G145_eq (R : Type) {n : Nat} (hn : n ≤ 7) (k0 : Int → Option R) : ∀ (m i : Nat), i ≤ n → n - i < m → G145_3 m R (n : Int) (2 ^ i) (i : Int) k0 = k0 (2 ^ n)
  | 0, i, _, h => by omega
  | m + 1, i, h1, h2 => by
    simp only [G145_3, p145_3]
    by_cases hi : i < n
    · have hd : decide ((i : Int) < (n : Int)) = true := by simpa using hi
      have ih := G145_eq R hn k0 m (i + 1) (by omega) (by omega)
      have hp : (2 : Int) ^ i ≤ 128 := by
        have : (2 : Nat) ^ i ≤ 2 ^ 7 := Nat.pow_le_pow_right (by omega) (by omega)
        have e : ((2 ^ i : Nat) : Int) = (2 : Int) ^ i := by simp
        omega
      have hq : (0 : Int) < 2 ^ i := Int.pow_pos (by decide)
      simp only [hd]
      rw [wrap_u64 (n := 2 * 2 ^ i) (by omega) (by omega), wrap_u64 (n := (i : Int) + 1) (by omega) (by omega), show (2 : Int) * 2 ^ i = 2 ^ (i + 1) by rw [Int.pow_succ, Int.mul_comm]]
      exact ih
    · have : i = n := by omega
      subst this
      have hd : decide ((i : Int) < (i : Int)) = false := by simp
      simp only [hd]
theorem F145_eq (R : Type) {n : Nat} (hn : n ≤ 7) (k : Int → Option R) : F145 R (n : Int) k = k (2 ^ n) := by
  simp only [F145, p145]
  exact G145_eq R hn (fun x => k x) FUEL 0 (by omega) (by rw [FUEL_eq]; omega)
theorem F138_eq (R : Type) {a : List Int} (ha : H32 a) {d n : Int} (hd : U64 d) (hn : U64 n) (k : Int → Option R) : F138 R a d n k = k (bitS a d n) := by
  have hn' := hn
  unfold U64 at hn
  simp only [F138, p138]
  rw [Int.tdiv_eq_ediv_of_nonneg hn.1, Int.tmod_eq_emod_of_nonneg hn.1, Int.tmod_eq_emod_of_nonneg hn.1, wrap_u64 (n := n / 256) (by omega) (by omega), F144_eq R ha hd (by unfold U64; omega), Int.tdiv_eq_ediv_of_nonneg (a := n % 256) (by omega), wrap_u64 (n := n % 256 / 8) (by omega) (by omega), wrap_u64 (n := 7 - n % 8) (by omega) (by omega)]
  have hbn : bnd (n % 256 / 8) 32 = true := by unfold bnd; simp; omega
  simp only [hbn]
  have hb : U8 ((blockS a d (n / 256)).getD (n % 256 / 8).toNat 0) := getD_all (blockS_ok a d _).2 u8_0 _
  obtain ⟨r, hr⟩ : ∃ r : Nat, 7 - n % 8 = r := ⟨(7 - n % 8).toNat, by omega⟩
  unfold bitS
  rw [hr, F145_eq R (by omega)]
  generalize (blockS a d (n / 256)).getD (n % 256 / 8).toNat 0 = b at *
  unfold U8 at hb
  have hp : (0 : Int) < 2 ^ r := Int.pow_pos (by decide)
  have hq : 0 ≤ b / 2 ^ r ∧ b / 2 ^ r ≤ b := ⟨Int.ediv_nonneg hb.1 (by omega), Int.ediv_le_self _ hb.1⟩
  have hz : ((2 : Int) ^ r == 0) = false := by simp; omega
  simp only [hz, Bool.not_false]
  rw [wrap_u64 (n := b) (by omega) (by omega), Int.tdiv_eq_ediv_of_nonneg (by omega), wrap_u64 (n := b / 2 ^ r) (by omega) (by omega), Int.tmod_eq_emod_of_nonneg hq.1, Int.toNat_natCast]
end Go.PG
namespace Go.PG
theorem ior_shl32 {x b : Int} (hx : U32 x) (hb : U32 b) : ior .u64 (ishl .u64 x 32) b = x * 4294967296 + b := by
  unfold U32 at hx hb
  obtain ⟨n, rfl⟩ : ∃ n : Nat, x = n := ⟨x.toNat, by omega⟩
  obtain ⟨c, rfl⟩ : ∃ c : Nat, b = c := ⟨b.toNat, by omega⟩
  have e2 : ishl .u64 (n : Int) 32 = ((n * 4294967296 : Nat) : Int) := by
    unfold ishl
    rw [show (2 : Int) ^ (min (32 : Int).toNat IntKind.u64.bits) = 4294967296 by decide, wrap_u64 (by omega) (by omega)]
    simp
  rw [e2, ior_u64, BitVec.ofInt_natCast, BitVec.ofInt_natCast, BitVec.toNat_or, BitVec.toNat_ofNat, BitVec.toNat_ofNat, Nat.mod_eq_of_lt (by omega), Nat.mod_eq_of_lt (by omega)]
  have h6 := Nat.shiftLeft_add_eq_or_of_lt (i := 32) (b := c) (by omega) n
  rw [Nat.shiftLeft_eq] at h6
  rw [show n * 4294967296 = n * 2 ^ 32 by rfl, ← h6]
  simp
theorem F115_eq (R : Type) {a b : Int} (ha : U32 a) (hb : U32 b) (k : Int → Option R) : F115 R a b k = k (a * 4294967296 + b) := by
  have u := ha; have v := hb
  unfold U32 at u v
  simp only [F115, p115]
  rw [wrap_u64 (n := a) (by omega) (by omega), wrap_u64 (n := b) (by omega) (by omega), ior_shl32 ha hb]
theorem F113_eq (R : Type) {a b : Int} (ha : U32 a) (hb : U32 b) (k : Int → Option R) : F113 R a b k = k (a * 4294967296 + b) := by
  have u := ha; have v := hb
  unfold U32 at u v
  simp only [F113, p113]
  rw [wrap_u64 (n := a) (by omega) (by omega), wrap_u64 (n := b) (by omega) (by omega), wrap_u64 (n := a * 4294967296) (by omega) (by omega), wrap_u64 (by omega) (by omega)]
end Go.PG
namespace Go.PG
abbrev Src := Int × (List Int × (Int × (List Int × (Int × (Int × Unit)))))
abbrev Rdr := Src × (List Int × (Int × (Bool × Unit)))
def atS (s : Src) : Int := s.2.2.2.2.2.1
def setAt (s : Src) (n : Int) : Src := (s.1, s.2.1, s.2.2.1, s.2.2.2.1, s.2.2.2.2.1, n, ())
structure SOK (s : Src) : Prop where
  tape : AllU8 s.2.1
  len : s.2.1.length ≤ 1000000
  bits : U64 s.2.2.1
  seed : H32 s.2.2.2.1
  dom : U64 s.2.2.2.2.1
  at_ : U64 s.2.2.2.2.2.1
theorem SOK.set {s : Src} (h : SOK s) {n : Int} (hn : U64 n) : SOK (setAt s n) := ⟨h.tape, h.len, h.bits, h.seed, h.dom, hn⟩
def rightS' (s : Src) : Bool := if s.1 = 1 then decide (s.2.2.1 ≤ 8 * (s.2.1.length : Int) ∧ s.2.2.2.2.2.1 ≤ s.2.2.1) else decide (s.1 = 2 ∧ s.2.2.2.2.2.1 ≤ 4611686018427387904)
def endS (s : Src) : Int := if s.1 = 1 then s.2.2.1 else 4611686018427387904
def leftS (s : Src) : Int := if rightS' s = true then endS s - s.2.2.2.2.2.1 else 0
def bitAt (s : Src) (n : Int) : Int := if s.1 = 1 then s.2.1.getD (n / 8).toNat 0 / 2 ^ (7 - n % 8).toNat % 2 else bitS s.2.2.2.1 s.2.2.2.2.1 n
theorem F126_eq (R : Type) {s : Src} (h : SOK s) (k : Int → Bool → Option R) : F126 R s k = (if s.1 = 1 then k s.2.2.1 (decide (s.2.2.1 ≤ 8 * (s.2.1.length : Int))) else if s.1 = 2 then k 4611686018427387904 true else k 0 false) := by
  have hl := h.len
  simp only [F126, p126]
  rw [wrap_u64 (n := (s.2.1.length : Int)) (by omega) (by omega), wrap_u64 (n := (s.2.1.length : Int) * 8) (by omega) (by omega), Int.mul_comm]
  by_cases h1 : s.1 = 1
  · simp [h1]
  · by_cases h2 : s.1 = 2
    · simp [h2]
    · simp only [beq_eq_false_iff_ne.2 h1, beq_eq_false_iff_ne.2 h2, if_neg h1, if_neg h2]
theorem F95_eq (R : Type) {s : Src} (h : SOK s) (k : Bool → Option R) : F95 R s k = k (rightS' s) := by
  simp only [F95, p95]
  rw [F126_eq R h]
  unfold rightS'
  by_cases h1 : s.1 = 1
  · simp only [h1, if_true]
    by_cases h2 : s.2.2.1 ≤ 8 * (s.2.1.length : Int)
    · simp [h2]
    · simp [h2]
  · simp only [h1, if_false]
    by_cases h2 : s.1 = 2
    · simp [h2]
    · simp [h2]
theorem F58_eq (R : Type) {s : Src} (h : SOK s) (k : Bool → Option R) : F58 R s k = k (rightS' s) := by
  have hl := h.len
  simp only [F58, p58]
  rw [wrap_u64 (n := (s.2.1.length : Int)) (by omega) (by omega), wrap_u64 (n := 8 * (s.2.1.length : Int)) (by omega) (by omega)]
  unfold rightS'
  by_cases h1 : s.1 = 1
  · simp only [h1, if_true]
    by_cases h2 : s.2.2.1 ≤ 8 * (s.2.1.length : Int)
    · simp [h2]
    · simp [h2]
  · simp only [h1, if_false]
    by_cases h2 : s.1 = 2
    · simp [h2]
    · simp only [beq_eq_false_iff_ne.2 h1, beq_eq_false_iff_ne.2 h2]
      simp [h2]
theorem right_spec {s : Src} (h : rightS' s = true) : (s.1 = 1 ∧ s.2.2.1 ≤ 8 * (s.2.1.length : Int) ∧ s.2.2.2.2.2.1 ≤ s.2.2.1 ∧ endS s = s.2.2.1) ∨ (s.1 = 2 ∧ s.2.2.2.2.2.1 ≤ 4611686018427387904 ∧ endS s = 4611686018427387904) := by
  unfold rightS' at h
  unfold endS
  by_cases h1 : s.1 = 1
  · rw [if_pos h1] at h ⊢
    have := of_decide_eq_true h
    exact .inl ⟨h1, this.1, this.2, rfl⟩
  · rw [if_neg h1] at h ⊢
    have := of_decide_eq_true h
    exact .inr ⟨this.1, this.2, rfl⟩
theorem left_ok {s : Src} (hs : SOK s) : 0 ≤ leftS s ∧ leftS s ≤ 4611686018427387904 ∧ (rightS' s = true → s.2.2.2.2.2.1 + leftS s = endS s) := by
  have h1 := hs.at_; have h2 := hs.bits; have h3 := hs.len
  unfold U64 at h1 h2
  unfold leftS
  by_cases h : rightS' s = true
  · rw [if_pos h]
    rcases right_spec h with ⟨_, a2, a3, a4⟩ | ⟨_, a2, a3⟩
    · rw [a4]; omega
    · rw [a3]; omega
  · rw [if_neg h]
    exact ⟨by omega, by omega, fun e => absurd e h⟩
theorem F119_eq (R : Type) {s : Src} (h : SOK s) (k : Int → Option R) : F119 R s k = k (leftS s) := by
  have hl := left_ok h
  simp only [F119, p119]
  rw [F95_eq R h, F126_eq R h]
  unfold leftS at *
  by_cases hr : rightS' s = true
  · have hr' := hr
    simp only [hr, Bool.not_true, if_true] at hl ⊢
    rcases right_spec hr' with ⟨a1, a2, a3, a4⟩ | ⟨a1, a2, a3⟩
    · rw [if_pos a1, a4, wrap_u64 (by rw [a4] at hl; omega) (by rw [a4] at hl; omega)]
    · rw [if_neg (by omega), if_pos a1, a3, wrap_u64 (by rw [a3] at hl; omega) (by rw [a3] at hl; omega)]
  · simp only [Bool.not_eq_true] at hr
    simp [hr]
theorem F123_eq (R : Type) {s : Src} (h : SOK s) (k : Int → Option R) : F123 R s k = k (leftS s) := by
  have hl := left_ok h
  simp only [F123, p123]
  rw [F58_eq R h]
  unfold leftS at *
  by_cases hr : rightS' s = true
  · have hr' := hr
    simp only [hr, Bool.not_true, if_true] at hl ⊢
    rcases right_spec hr' with ⟨a1, a2, a3, a4⟩ | ⟨a1, a2, a3⟩
    · have e1 : (s.1 == 1) = true := by simp [a1]
      rw [e1, a4, wrap_u64 (by rw [a4] at hl; omega) (by rw [a4] at hl; omega)]
    · have e1 : (s.1 == 1) = false := by simp [a1]
      rw [e1, a3]
      simp only []
      rw [wrap_u64 (n := 4611686018427387904 - s.2.2.2.2.2.1) (by rw [a3] at hl; omega) (by rw [a3] at hl; omega)]
  · simp only [Bool.not_eq_true] at hr
    simp [hr]
theorem bit_range (s : Src) (n : Int) : 0 ≤ bitAt s n ∧ bitAt s n ≤ 1 := by
  unfold bitAt bitS
  split <;> omega
theorem F124_eq (R : Type) {s : Src} (h : SOK s) {n : Int} (hn : U64 n) (hk : (s.1 = 1 ∧ n < 8 * (s.2.1.length : Int)) ∨ s.1 = 2) (k : Int → Option R) : F124 R s n k = k (bitAt s n) := by
  have hl := h.len
  have hn' := hn
  unfold U64 at hn
  simp only [F124, p124]
  unfold bitAt
  rcases hk with ⟨a1, a2⟩ | a1
  · have e1 : (s.1 == 2) = false := by simp [a1]
    rw [e1, if_pos a1, Int.tdiv_eq_ediv_of_nonneg hn.1, wrap_u64 (n := n / 8) (by omega) (by omega)]
    have hb : bnd (n / 8) (s.2.1.length : Int) = true := by unfold bnd; simp; omega
    simp only [hb]
    have hu : U8 (s.2.1.getD (n / 8).toNat 0) := getD_all h.tape u8_0 _
    generalize s.2.1.getD (n / 8).toNat 0 = x at *
    unfold U8 at hu
    rw [wrap_u32 (n := x) (by omega) (by omega), Int.tmod_eq_emod_of_nonneg hn.1, wrap_i64 (n := n % 8) (by omega) (by omega), wrap_i64 (n := 7 - n % 8) (by omega) (by omega),
      F139_lit R (x := x) (by unfold U32; omega) (7 - n % 8).toNat (by omega) (by omega)]
    unfold shrS
    have hq : 0 ≤ x / 2 ^ (7 - n % 8).toNat := Int.ediv_nonneg hu.1 (Int.le_of_lt (Int.pow_pos (by decide)))
    rw [Int.tmod_eq_emod_of_nonneg hq, wrap_u64 (by omega) (by omega)]
  · have e1 : (s.1 == 2) = true := by simp [a1]
    rw [e1, if_neg (by omega)]
    simp only []
    rw [F138_eq R h.seed h.dom hn']
def RI (r : Rdr) : Prop := r.2.2.2.1 = true → r.2.1 = blockS r.1.2.2.2.1 r.1.2.2.2.2.1 r.2.2.1
theorem iand_u8_1 {x : Int} (hx : U8 x) : iand .u8 x 1 = x % 2 := by
  unfold U8 at hx
  obtain ⟨y, rfl⟩ : ∃ y : Nat, x = y := ⟨x.toNat, by omega⟩
  have e : iand .u8 (y : Int) 1 = ((BitVec.ofInt 8 (y : Int) &&& BitVec.ofInt 8 ((1 : Nat) : Int)).toNat : Int) := wrap_bv8 _
  rw [e, BitVec.ofInt_natCast, BitVec.ofInt_natCast, BitVec.toNat_and, BitVec.toNat_ofNat, BitVec.toNat_ofNat, Nat.mod_eq_of_lt (by omega), Nat.mod_eq_of_lt (by omega), show (1 : Nat) = 2 ^ 1 - 1 by rfl, Nat.and_two_pow_sub_one_eq_mod]
  simp
theorem u120_eq (R : Type) (r : Rdr) {y : Int} (hy : U8 y) (hat : 0 ≤ atS r.1 ∧ atS r.1 < 9000000000000000000) (q : List Int × (Int × (Bool × Unit))) (k : Int → Rdr → Option R) :
    u120 R r y q k = k (y / 2 ^ (7 - atS r.1 % 8).toNat % 2) (setAt r.1 (atS r.1 + 1), q) := by
  unfold atS at *
  simp only [u120]
  unfold setAt
  generalize r.1.2.2.2.2.2.1 = n at *
  rw [Int.tmod_eq_emod_of_nonneg hat.1, wrap_u64 (n := 7 - n % 8) (by omega) (by omega), wrap_u64 (n := n + 1) (by omega) (by omega)]
  obtain ⟨m, hm⟩ : ∃ m : Nat, 7 - n % 8 = m := ⟨(7 - n % 8).toNat, by omega⟩
  rw [hm, Int.toNat_natCast]
  have e8 : ishr .u8 y (m : Int) = y / 2 ^ m := by
    unfold ishr
    rw [show IntKind.u8.bits = 8 from rfl, Int.toNat_natCast, Nat.min_eq_left (by omega), Int.fdiv_eq_ediv_of_nonneg _ (by have := two_pow_pos m; omega)]
  unfold U8 at hy
  have hp : (0 : Int) < 2 ^ m := Int.pow_pos (by decide)
  have hq : 0 ≤ y / 2 ^ m ∧ y / 2 ^ m ≤ y := ⟨Int.ediv_nonneg hy.1 (by omega), Int.ediv_le_self _ hy.1⟩
  rw [e8, iand_u8_1 (by unfold U8; omega), wrap_u64 (by omega) (by omega)]
theorem F120_eq (R : Type) {r : Rdr} (h : SOK r.1) (hi : RI r) (hk : (r.1.1 = 1 ∧ atS r.1 < 8 * (r.1.2.1.length : Int)) ∨ r.1.1 = 2) (hat : atS r.1 < 9000000000000000000) (k : Int → Rdr → Option R) :
    ∃ q, RI (setAt r.1 (atS r.1 + 1), q) ∧ F120 R r k = k (bitAt r.1 (atS r.1)) (setAt r.1 (atS r.1 + 1), q) := by
  have hl := h.len
  have ha := h.at_
  have hat' : 0 ≤ atS r.1 ∧ atS r.1 < 9000000000000000000 := ⟨ha.1, hat⟩
  simp only [F120]
  show ∃ q, RI (setAt r.1 (atS r.1 + 1), q) ∧ (F137 R r (IntKind.u64.wrap (Int.tdiv (atS r.1) 8)) fun y2 p3 => match decide (0 ≤ IntKind.u64.wrap (7 - Int.tmod (atS r.1) 8)) with | true => u120 R r y2 p3.2 k | false => none) = _
  have hdc : decide (0 ≤ IntKind.u64.wrap (7 - Int.tmod (atS r.1) 8)) = true := by
    rw [wrap_u64_mod]; exact decide_eq_true (by omega)
  simp only [hdc]
  rw [Int.tdiv_eq_ediv_of_nonneg hat'.1, wrap_u64 (n := atS r.1 / 8) (by omega) (by omega)]
  simp only [F137, p137]
  generalize hn : atS r.1 = n at *
  unfold bitAt
  rcases hk with ⟨a1, a2⟩ | a1
  · have e1 : (r.1.1 == 1) = true := by simp [a1]
    have hb : bnd (n / 8) (r.1.2.1.length : Int) = true := by unfold bnd; simp; omega
    simp only [e1, hb]
    refine ⟨r.2, hi, ?_⟩
    rw [if_pos a1, u120_eq R r (getD_all h.tape u8_0 _) (by rw [hn]; exact hat'), hn]
  · have e1 : (r.1.1 == 1) = false := by simp [a1]
    simp only [e1]
    rw [if_neg (by omega), Int.tdiv_eq_ediv_of_nonneg (by omega), wrap_u64 (n := n / 8 / 32) (by omega) (by omega), Int.tmod_eq_emod_of_nonneg (by omega)]
    have hb : bnd (n / 8 % 32) 32 = true := by unfold bnd; simp; omega
    have hbit : (blockS r.1.2.2.2.1 r.1.2.2.2.2.1 (n / 8 / 32)).getD (n / 8 % 32).toNat 0 / 2 ^ (7 - n % 8).toNat % 2 = bitS r.1.2.2.2.1 r.1.2.2.2.2.1 n := by
      unfold bitS
      rw [show n / 8 / 32 = n / 256 by omega, show n / 8 % 32 = n % 256 / 8 by omega]
    have hu := fun i => getD_all (blockS_ok r.1.2.2.2.1 r.1.2.2.2.2.1 (n / 8 / 32)).2 u8_0 i
    have go : ∀ q, u120 R r ((blockS r.1.2.2.2.1 r.1.2.2.2.2.1 (n / 8 / 32)).getD (n / 8 % 32).toNat 0) q k = k (bitS r.1.2.2.2.1 r.1.2.2.2.2.1 n) (setAt r.1 (n + 1), q) := fun q => by
      rw [u120_eq R r (hu _) (by rw [hn]; exact hat'), hn, hbit]
    have fresh : (F143 R r.1.2.2.2.1 r.1.2.2.2.2.1 (n / 8 / 32) fun y5 => match bnd (n / 8 % 32) 32 with
        | true => u120 R r (y5.getD (n / 8 % 32).toNat 0) (r.1, y5, n / 8 / 32, true, r.2.2.2.2).2 k
        | false => none) = k (bitS r.1.2.2.2.1 r.1.2.2.2.2.1 n) (setAt r.1 (n + 1), (blockS r.1.2.2.2.1 r.1.2.2.2.2.1 (n / 8 / 32), n / 8 / 32, true, ())) := by
      rw [F143_eq R h.seed]
      simp only [hb]
      exact go _
    cases hs : r.2.2.2.1 with
    | false =>
      simp only [Bool.not_false]
      exact ⟨_, fun _ => rfl, fresh⟩
    | true =>
      simp only [Bool.not_true]
      by_cases hne : n / 8 / 32 = r.2.2.1
      · have e2 : (n / 8 / 32 != r.2.2.1) = false := by simp [hne]
        simp only [e2, hb]
        refine ⟨r.2, fun e => hi e, ?_⟩
        have := hi hs
        rw [← hne] at this
        rw [this]
        exact go _
      · have e2 : (n / 8 / 32 != r.2.2.1) = true := by simp [hne]
        simp only [e2]
        exact ⟨_, fun _ => rfl, fresh⟩
end Go.PG
namespace Go.PG
def takeV (s : Src) (a : Int) : Nat → Int
  | 0 => 0
  | n + 1 => 2 * takeV s a n + bitAt s (a + n)
theorem takeV_range (s : Src) (a : Int) : ∀ n : Nat, 0 ≤ takeV s a n ∧ takeV s a n < 2 ^ n
  | 0 => by simp [takeV]
  | n + 1 => by
    have ih := takeV_range s a n
    have hb := bit_range s (a + n)
    simp only [takeV]
    rw [Int.pow_succ]
    omega
theorem ior_shl1 {x b : Int} (hx : 0 ≤ x ∧ x < 9223372036854775808) (hb : 0 ≤ b ∧ b ≤ 1) : ior .u64 (ishl .u64 x 1) b = 2 * x + b := by
  obtain ⟨n, rfl⟩ : ∃ n : Nat, x = n := ⟨x.toNat, by omega⟩
  obtain ⟨c, rfl⟩ : ∃ c : Nat, b = c := ⟨b.toNat, by omega⟩
  have e2 : ishl .u64 (n : Int) 1 = ((n * 2 : Nat) : Int) := by
    unfold ishl
    rw [show (2 : Int) ^ (min (1 : Int).toNat IntKind.u64.bits) = 2 by decide, wrap_u64 (by omega) (by omega)]
    simp
  rw [e2, ior_u64, BitVec.ofInt_natCast, BitVec.ofInt_natCast, BitVec.toNat_or, BitVec.toNat_ofNat, BitVec.toNat_ofNat, Nat.mod_eq_of_lt (by omega), Nat.mod_eq_of_lt (by omega)]
  have h6 := Nat.shiftLeft_add_eq_or_of_lt (i := 1) (b := c) (by omega) n
  rw [Nat.shiftLeft_eq] at h6
  rw [show n * 2 = n * 2 ^ 1 by rfl, ← h6]
  simp; omega
theorem setAt_set (s : Src) (x y : Int) : setAt (setAt s x) y = setAt s y := rfl
theorem atS_set (s : Src) (x : Int) : atS (setAt s x) = x := rfl
theorem bitAt_set (s : Src) (x n : Int) : bitAt (setAt s x) n = bitAt s n := rfl
theorem G83_eq (R : Type) {s : Src} (h : SOK s) {K : Nat} (hK : K ≤ 64) (hk : (s.1 = 1 ∧ atS s + K ≤ 8 * (s.2.1.length : Int)) ∨ s.1 = 2) (hat : atS s + K < 9000000000000000000) (x4 : Src) (k0 : Int → Src → Rdr → Option R) :
    ∀ (m i : Nat) (r : Rdr), i ≤ K → K - i < m → r.1 = setAt s (atS s + i) → RI r → ∃ q, G83_7 m R (takeV s (atS s) i) (K : Int) (i : Int) x4 r k0 = k0 (takeV s (atS s) K) x4 (setAt s (atS s + K), q)
  | 0, i, _, _, h, _, _ => by omega
  | m + 1, i, r, h1, h2, hr, hi => by
    simp only [G83_7, p83_7]
    have h0 := h.at_
    unfold U64 at h0
    have h0' : 0 ≤ atS s := h0.1
    by_cases hlt : i < K
    · have hd : decide ((i : Int) < (K : Int)) = true := by simpa using hlt
      simp only [hd]
      have hra : atS r.1 = atS s + i := by rw [hr]; rfl
      have hlen : r.1.2.1 = s.2.1 := by rw [hr]; rfl
      have hknd : r.1.1 = s.1 := by rw [hr]; rfl
      obtain ⟨q, g1, g2⟩ := F120_eq R (r := r) (by rw [hr]; exact h.set (by unfold U64; omega)) hi (by
        rw [hra, hlen, hknd]
        rcases hk with ⟨b1, b2⟩ | b1
        · exact .inl ⟨b1, by omega⟩
        · exact .inr b1) (by rw [hra]; omega) (fun y8 p9 => G83_7 m R (ior .u64 (ishl .u64 (takeV s (atS s) i) 1) y8) (K : Int) (IntKind.i64.wrap ((i : Int) + 1)) x4 p9 k0)
      have hv := takeV_range s (atS s) i
      have hp : (2 : Int) ^ i ≤ 9223372036854775808 := by
        have : (2 : Nat) ^ i ≤ 2 ^ 63 := Nat.pow_le_pow_right (by omega) (by omega)
        have e : ((2 ^ i : Nat) : Int) = (2 : Int) ^ i := by simp
        omega
      have hbt : bitAt r.1 (atS r.1) = bitAt s (atS s + i) := by rw [hra, hr]; rfl
      obtain ⟨q2, g3⟩ := G83_eq R h hK hk hat x4 k0 m (i + 1) (setAt r.1 (atS r.1 + 1), q) (by omega) (by omega) (by
        show setAt r.1 (atS r.1 + 1) = _
        rw [hra, hr, setAt_set]
        congr 1
        omega) g1
      refine ⟨q2, ?_⟩
      rw [g2, ior_shl1 ⟨hv.1, by omega⟩ (bit_range _ _), hbt, wrap_i64 (n := (i : Int) + 1) (by omega) (by omega)]
      exact g3
    · have : i = K := by omega
      subst this
      have hd : decide ((i : Int) < (i : Int)) = false := by simp
      simp only [hd]
      refine ⟨r.2, ?_⟩
      rw [← hr]
def takeR (s : Src) (k : Int) : Int × Src × Int :=
  if rightS' s = true ∧ 0 ≤ k ∧ k ≤ 64 then (if k ≤ leftS s then (takeV s (atS s) k.toNat, setAt s (atS s + k), 0) else (0, s, 8)) else (0, s, 1)
theorem right_room {s : Src} (hs : SOK s) (hr : rightS' s = true) {k : Nat} (hk : (k : Int) ≤ leftS s) : ((s.1 = 1 ∧ atS s + k ≤ 8 * (s.2.1.length : Int)) ∨ s.1 = 2) ∧ atS s + k < 9000000000000000000 := by
  have hl := left_ok hs
  have := hl.2.2 hr
  have hln := hs.len
  unfold atS
  rcases right_spec hr with ⟨a1, a2, a3, a4⟩ | ⟨a1, a2, a3⟩
  · rw [a4] at this
    exact ⟨.inl ⟨a1, by omega⟩, by omega⟩
  · exact ⟨.inr a1, by omega⟩
theorem F83_eq (R : Type) {s : Src} (hs : SOK s) {n : Int} (k : Int → Src → Int → Option R) : F83 R s n k = k (takeR s n).1 (takeR s n).2.1 (takeR s n).2.2 := by
  simp only [F83, p83]
  rw [F95_eq R hs]
  unfold takeR
  by_cases hr : rightS' s = true
  · simp only [hr, Bool.not_true, true_and]
    by_cases h1 : n < 0
    · rw [if_neg (by omega)]
      simp only [decide_eq_true h1]
    · simp only [decide_eq_false h1]
      by_cases h2 : n > 64
      · rw [if_neg (by omega)]
        simp only [decide_eq_true h2]
      · rw [if_pos (by omega)]
        simp only [decide_eq_false h2]
        rw [wrap_u64 (n := n) (by omega) (by omega), F119_eq R hs]
        by_cases h3 : n > leftS s
        · rw [if_neg (by omega)]
          simp only [decide_eq_true h3]
        · rw [if_pos (by omega)]
          simp only [decide_eq_false h3]
          obtain ⟨m, rfl⟩ : ∃ m : Nat, n = m := ⟨n.toNat, by omega⟩
          have hroom := right_room hs hr (k := m) (by omega)
          obtain ⟨q, g⟩ := G83_eq R hs (K := m) (by omega) hroom.1 hroom.2 (0, [], 0, List.replicate 32 0, 0, 0, ()) (fun x7 x8 x9 => k x7 x9.1 0) FUEL 0 (s, List.replicate 32 0, 0, false, ()) (by omega) (by rw [FUEL_eq]; omega) (by simp only [Int.natCast_zero, Int.add_zero]; rfl) (fun e => by cases e)
          refine g.trans ?_
          rw [Int.toNat_natCast]
  · simp only [Bool.not_eq_true] at hr
    simp [hr]
theorem G86_eq (R : Type) {s : Src} (h : SOK s) {K : Nat} (hK : K ≤ 64) (hk : (s.1 = 1 ∧ atS s + K ≤ 8 * (s.2.1.length : Int)) ∨ s.1 = 2) (hat : atS s + K < 9000000000000000000) (x5 : Src) (k0 : Int → Src → Src → Option R) :
    ∀ (m i : Nat), i ≤ K → K - i < m → G86_7 m R (K : Int) (takeV s (atS s) i) (i : Int) (setAt s (atS s + i)) x5 k0 = k0 (takeV s (atS s) K) (setAt s (atS s + K)) x5
  | 0, i, _, h => by omega
  | m + 1, i, h1, h2 => by
    simp only [G86_7, p86_7]
    have h0 := h.at_
    unfold U64 at h0
    have h0' : 0 ≤ atS s := h0.1
    by_cases hlt : i < K
    · have hd : decide ((i : Int) < (K : Int)) = true := by simpa using hlt
      have ih := G86_eq R h hK hk hat x5 k0 m (i + 1) (by omega) (by omega)
      simp only [hd]
      have hsi : SOK (setAt s (atS s + i)) := h.set (by unfold U64; omega)
      show (F124 R (setAt s (atS s + i)) (atS s + i) fun y8 => G86_7 m R (K : Int) (IntKind.u64.wrap (IntKind.u64.wrap (2 * takeV s (atS s) i) + y8)) (IntKind.i64.wrap ((i : Int) + 1)) (setAt (setAt s (atS s + i)) (IntKind.u64.wrap (atS s + i + 1))) x5 k0) = _
      rw [F124_eq R hsi (by unfold U64; omega) (by
        rcases hk with ⟨b1, b2⟩ | b1
        · exact .inl ⟨b1, by
            show atS s + i < 8 * (s.2.1.length : Int)
            omega⟩
        · exact .inr b1), bitAt_set, setAt_set]
      have hv := takeV_range s (atS s) i
      have hp : (2 : Int) ^ i ≤ 9223372036854775808 := by
        have : (2 : Nat) ^ i ≤ 2 ^ 63 := Nat.pow_le_pow_right (by omega) (by omega)
        have e : ((2 ^ i : Nat) : Int) = (2 : Int) ^ i := by simp
        omega
      have hb := bit_range s (atS s + i)
      rw [wrap_u64 (n := 2 * takeV s (atS s) i) (by omega) (by omega), wrap_u64 (n := 2 * takeV s (atS s) i + bitAt s (atS s + i)) (by omega) (by omega), wrap_i64 (n := (i : Int) + 1) (by omega) (by omega), wrap_u64 (n := atS s + i + 1) (by omega) (by omega), show atS s + (i : Int) + 1 = atS s + ((i + 1 : Nat) : Int) by omega]
      exact ih
    · have : i = K := by omega
      subst this
      have hd : decide ((i : Int) < (i : Int)) = false := by simp
      simp only [hd]
theorem F86_eq (R : Type) {s : Src} (hs : SOK s) {n : Int} (k : Int → Src → Int → Option R) : F86 R s n k = k (takeR s n).1 (takeR s n).2.1 (takeR s n).2.2 := by
  simp only [F86, p86]
  rw [F58_eq R hs]
  unfold takeR
  by_cases hr : rightS' s = true
  · simp only [hr, Bool.not_true, true_and]
    by_cases h1 : n < 0
    · rw [if_neg (by omega)]
      simp only [decide_eq_true h1]
    · simp only [decide_eq_false h1]
      by_cases h2 : n > 64
      · rw [if_neg (by omega)]
        simp only [decide_eq_true h2]
      · rw [if_pos (by omega)]
        simp only [decide_eq_false h2]
        rw [wrap_u64 (n := n) (by omega) (by omega), F123_eq R hs]
        by_cases h3 : n > leftS s
        · rw [if_neg (by omega)]
          simp only [decide_eq_true h3]
        · rw [if_pos (by omega)]
          simp only [decide_eq_false h3]
          obtain ⟨m, rfl⟩ : ∃ m : Nat, n = m := ⟨n.toNat, by omega⟩
          have hroom := right_room hs hr (k := m) (by omega)
          have g := G86_eq R hs (K := m) (by omega) hroom.1 hroom.2 (0, [], 0, List.replicate 32 0, 0, 0, ()) (fun x7 x8 x9 => k x7 x8 0) FUEL 0 (by omega) (by rw [FUEL_eq]; omega)
          have e0 : setAt s (atS s + ((0 : Nat) : Int)) = s := by rw [Int.natCast_zero, Int.add_zero]; rfl
          rw [e0] at g
          refine Eq.trans ?_ (g.trans ?_)
          · rfl
          · rw [Int.toNat_natCast]
  · simp only [Bool.not_eq_true] at hr
    simp [hr]
end Go.PG
namespace Go.PG
structure SFit (s : Src) : Prop where
  tape : AllU8 s.2.1
  bits : U64 s.2.2.1
  seed : H32 s.2.2.2.1
  dom : U64 s.2.2.2.2.1
  at_ : U64 s.2.2.2.2.2.1
theorem SFit.ok {s : Src} (h : SFit s) (hl : s.2.1.length ≤ 1000000) : SOK s := ⟨h.tape, hl, h.bits, h.seed, h.dom, h.at_⟩
def streamSrc (a : List Int) (d : Int) : Src := (2, [], 0, a, d, 0, ())
theorem streamSrc_ok {a : List Int} (ha : H32 a) {d : Int} (hd : U64 d) : SOK (streamSrc a d) := ⟨fun y hy => by simp [streamSrc] at hy, by simp [streamSrc], by unfold U64 streamSrc; simp, ha, hd, by unfold U64 streamSrc; simp⟩
theorem F114_eq (R : Type) (a : List Int) (d : Int) (k : Src → Option R) : F114 R a d k = k (streamSrc a d) := by
  simp only [F114, p114]; rfl
theorem takeR_ok {s : Src} {n : Nat} (hr : rightS' s = true) (h1 : n ≤ 64) (h2 : (n : Int) ≤ leftS s) : takeR s n = (takeV s (atS s) n, setAt s (atS s + n), 0) := by
  unfold takeR
  rw [if_pos ⟨hr, by omega, by omega⟩, if_pos h2, Int.toNat_natCast]
end Go.PG
namespace Go.PG
def blenF : Nat → Nat → Nat
  | 0, _ => 0
  | f + 1, x => if x = 0 then 0 else blenF f (x / 2) + 1
theorem G121_eq (R : Type) (k0 : Int → Option R) : ∀ (f m x c : Nat), x < 2 ^ f → f ≤ 64 → f < m → c + f ≤ 1000 → G121_1 m R (x : Int) (c : Int) k0 = k0 ((c + blenF f x : Nat) : Int)
  | _, 0, _, _, _, _, h, _ => by omega
  | 0, m + 1, x, c, h, _, _, _ => by
    simp at h; subst h
    simp only [G121_1, p121_1, blenF]
    rfl
  | f + 1, m + 1, x, c, h, hf, hm, hc => by
    simp only [G121_1, p121_1, blenF]
    rw [Nat.pow_succ] at h
    by_cases h0 : x = 0
    · subst h0
      simp
    · have e : ((x : Int) != 0) = true := by simp [h0]
      have e2 : ishr .u64 (x : Int) 1 = ((x / 2 : Nat) : Int) := by
        have := shr64 (x := (x : Int)) 1 (by omega)
        refine this.trans ?_
        omega
      simp only [e, if_neg h0]
      have ih := G121_eq R k0 f m (x / 2) (c + 1) (by omega) (by omega) (by omega) (by omega)
      rw [wrap_i64 (n := (c : Int) + 1) (by omega) (by omega), e2, show c + (blenF f (x / 2) + 1) = c + 1 + blenF f (x / 2) by omega]
      exact ih
theorem G108_eq (R : Type) (k0 : Int → Option R) : ∀ (f m x c : Nat), x < 2 ^ f → f ≤ 64 → f < m → c + f ≤ 1000 → G108_2 m R (x : Int) (c : Int) k0 = k0 ((c + blenF f x : Nat) : Int)
  | _, 0, _, _, _, _, h, _ => by omega
  | 0, m + 1, x, c, h, _, _, _ => by
    simp at h; subst h
    simp only [G108_2, p108_2, blenF]
    rfl
  | f + 1, m + 1, x, c, h, hf, hm, hc => by
    simp only [G108_2, p108_2, blenF]
    have hx64 : x < 2 ^ 64 := Nat.lt_of_lt_of_le h (Nat.pow_le_pow_right (by omega) hf)
    rw [Nat.pow_succ] at h
    by_cases h0 : x = 0
    · subst h0
      simp
    · have e : decide ((x : Int) > 0) = true := decide_eq_true (by omega)
      have e2 : IntKind.u64.wrap (Int.tdiv (x : Int) 2) = ((x / 2 : Nat) : Int) := by
        rw [Int.tdiv_eq_ediv_of_nonneg (by omega), wrap_u64 (by omega) (by omega)]
        omega
      simp only [e, if_neg h0, e2]
      have ih := G108_eq R k0 f m (x / 2) (c + 1) (by omega) (by omega) (by omega) (by omega)
      rw [wrap_i64 (n := (c : Int) + 1) (by omega) (by omega), show c + (blenF f (x / 2) + 1) = c + 1 + blenF f (x / 2) by omega]
      exact ih
def needS (n : Int) : Nat := blenF 64 (n - 1).toNat
theorem F84_eq (R : Type) {n : Int} (hn : U64 n) (k : Int → Option R) : F84 R n k = k (needS n : Int) := by
  have hn' := hn
  unfold U64 at hn
  simp only [F84, p84, F121, p121]
  have e : IntKind.u64.wrap ((if (1 : Int) > n then (1 : Int) else n) - 1) = ((n - 1).toNat : Int) := by
    split
    · rw [wrap_u64 (by omega) (by omega)]; omega
    · rw [wrap_u64 (by omega) (by omega)]; omega
  rw [e]
  have := G121_eq R (fun x1 => k x1) 64 FUEL (n - 1).toNat 0 (by omega) (by omega) (by rw [FUEL_eq]; omega) (by omega)
  rw [Nat.zero_add] at this
  exact this
theorem F67_eq (R : Type) {n : Int} (hn : U64 n) (k : Int → Option R) : F67 R n k = k (needS n : Int) := by
  have hn' := hn
  unfold U64 at hn
  simp only [F67, p67, F108, p108]
  by_cases h0 : n = 0
  · subst h0; rfl
  · have e0 : (n == 0) = false := by simp [h0]
    simp only [e0]
    have e : IntKind.u64.wrap (n - 1) = ((n - 1).toNat : Int) := by
      rw [wrap_u64 (by omega) (by omega)]; omega
    rw [e]
    have := G108_eq R (fun x1 => k x1) 64 FUEL (n - 1).toNat 0 (by omega) (by omega) (by rw [FUEL_eq]; omega) (by omega)
    rw [Nat.zero_add] at this
    exact this
def drawF (n : Int) : Nat → Src → Int × Src × Int
  | 0, s => (0, s, 9)
  | m + 1, s => if (takeR s (needS n)).2.2 = 0 then (if (takeR s (needS n)).1 < n then ((takeR s (needS n)).1, (takeR s (needS n)).2.1, 0) else drawF n m (takeR s (needS n)).2.1) else (0, s, (takeR s (needS n)).2.2)
theorem takeR_ok1 {s : Src} (hs : SOK s) (k : Int) : SOK (takeR s k).2.1 := by
  unfold takeR
  split
  · rename_i h
    split
    · rename_i h2
      have hl := left_ok hs
      have h0 : 0 ≤ atS s := hs.at_.1
      have := right_room hs h.1 (k := k.toNat) (by omega)
      refine hs.set ?_
      unfold U64
      omega
    · exact hs
  · exact hs
theorem takeR_zero {s : Src} {k : Nat} (h : (takeR s k).2.2 = 0) : rightS' s = true ∧ k ≤ 64 ∧ (k : Int) ≤ leftS s ∧ takeR s k = (takeV s (atS s) k, setAt s (atS s + k), 0) := by
  unfold takeR at h
  split at h
  · rename_i h1
    split at h
    · rename_i h2
      exact ⟨h1.1, by omega, h2, takeR_ok h1.1 (by omega) h2⟩
    · simp at h
  · simp at h
theorem G42_eq (R : Type) {n : Int} (hn : U64 n) (a : Nat) (ha : a ≤ 64) (x5 : Src) (k0 : Int → Int → Src → Option R) (k1 : Src → Src → Option R) :
    ∀ (m i : Nat) (s : Src), i ≤ a → a - i < m → SOK s → (∀ y : Src, k1 y x5 = k0 0 9 y) → G42_4 m R n (a : Int) (i : Int) s x5 k0 k1 = k0 (drawF n (a - i) s).1 (drawF n (a - i) s).2.2 (drawF n (a - i) s).2.1
  | 0, i, _, _, h, _, _ => by omega
  | m + 1, i, s, h1, h2, hs, hk => by
    simp only [G42_4, p42_4]
    by_cases hi : i < a
    · have hd : decide ((i : Int) < (a : Int)) = true := by simpa using hi
      simp only [hd]
      rw [F84_eq R hn, F83_eq R hs, show a - i = (a - (i + 1)) + 1 by omega]
      simp only [drawF]
      have ih := G42_eq R hn a ha x5 k0 k1 m (i + 1) (takeR s (needS n)).2.1 (by omega) (by omega) (takeR_ok1 hs _) hk
      generalize takeR s (needS n) = t at *
      by_cases he : t.2.2 = 0
      · have e1 : (t.2.2 != 0) = false := by simp [he]
        simp only [e1, if_pos he]
        by_cases hx : t.1 < n
        · simp only [decide_eq_true hx, if_pos hx]
        · simp only [decide_eq_false hx, if_neg hx]
          rw [wrap_i64 (n := (i : Int) + 1) (by omega) (by omega)]
          exact ih
      · have e1 : (t.2.2 != 0) = true := by simp [he]
        simp only [e1, if_neg he]
    · have : i = a := by omega
      subst this
      have hd : decide ((i : Int) < (i : Int)) = false := by simp
      simp only [hd, Nat.sub_self, drawF]
      exact hk s
theorem G46_eq (R : Type) {n : Int} (hn : U64 n) (a : Nat) (ha : a ≤ 64) (x5 : Src) (k0 : Int → Int → Src → Option R) (k1 : Src → Src → Option R) :
    ∀ (m i : Nat) (s : Src), i ≤ a → a - i < m → SOK s → (∀ y : Src, k1 y x5 = k0 0 9 y) → G46_4 m R n (a : Int) (i : Int) s x5 k0 k1 = k0 (drawF n (a - i) s).1 (drawF n (a - i) s).2.2 (drawF n (a - i) s).2.1
  | 0, i, _, _, h, _, _ => by omega
  | m + 1, i, s, h1, h2, hs, hk => by
    simp only [G46_4, p46_4]
    by_cases hi : i < a
    · have hd : decide ((i : Int) < (a : Int)) = true := by simpa using hi
      simp only [hd]
      rw [F67_eq R hn, F86_eq R hs, show a - i = (a - (i + 1)) + 1 by omega]
      simp only [drawF]
      have ih := G46_eq R hn a ha x5 k0 k1 m (i + 1) (takeR s (needS n)).2.1 (by omega) (by omega) (takeR_ok1 hs _) hk
      generalize takeR s (needS n) = t at *
      by_cases he : t.2.2 = 0
      · have e1 : (t.2.2 != 0) = false := by simp [he]
        simp only [e1, if_pos he]
        by_cases hx : t.1 < n
        · simp only [decide_eq_true hx, if_pos hx]
        · simp only [decide_eq_false hx, if_neg hx]
          rw [wrap_i64 (n := (i : Int) + 1) (by omega) (by omega)]
          exact ih
      · have e1 : (t.2.2 != 0) = true := by simp [he]
        simp only [e1, if_neg he]
    · have : i = a := by omega
      subst this
      have hd : decide ((i : Int) < (i : Int)) = false := by simp
      simp only [hd, Nat.sub_self, drawF]
      exact hk s
def drawR (s : Src) (n m : Int) : Int × Src × Int := if rightS' s = true ∧ 0 < n ∧ n < 9223372036854775808 ∧ 0 < m ∧ m ≤ 64 then drawF n m.toNat s else (0, s, 1)
theorem F42_eq (R : Type) {s : Src} (hs : SOK s) {n : Int} (hn : U64 n) (m : Int) (k : Int → Src → Int → Option R) : F42 R s n m k = k (drawR s n m).1 (drawR s n m).2.1 (drawR s n m).2.2 := by
  simp only [F42, p42, F82, p82]
  rw [F95_eq R hs]
  unfold drawR
  by_cases hr : rightS' s = true
  · simp only [hr, true_and]
    by_cases h1 : n > 0
    · simp only [decide_eq_true h1]
      by_cases h2 : n < 9223372036854775808
      · simp only [decide_eq_true h2]
        by_cases h3 : m > 0
        · simp only [decide_eq_true h3]
          by_cases h4 : m ≤ 64
          · simp only [decide_eq_true h4, Bool.not_true]
            rw [if_pos ⟨h1, h2, h3, h4⟩]
            obtain ⟨a, rfl⟩ : ∃ a : Nat, m = a := ⟨m.toNat, by omega⟩
            rw [Int.toNat_natCast]
            exact G42_eq R hn a (by omega) (0, [], 0, List.replicate 32 0, 0, 0, ()) (fun x2 x3 x4 => k x2 x4 x3) (fun x5 x6 => k 0 x5 9) FUEL 0 s (by omega) (by rw [FUEL_eq]; omega) hs (fun y => rfl)
          · rw [if_neg (fun h => h4 h.2.2.2)]
            simp only [decide_eq_false h4, Bool.not_false]
        · rw [if_neg (fun h => h3 h.2.2.1)]
          simp only [decide_eq_false h3, Bool.not_false]
      · rw [if_neg (fun h => h2 h.2.1)]
        simp only [decide_eq_false h2, Bool.not_false]
    · rw [if_neg (fun h => h1 h.1)]
      simp only [decide_eq_false h1, Bool.not_false]
  · simp only [Bool.not_eq_true] at hr
    simp [hr]
theorem F46_eq (R : Type) {s : Src} (hs : SOK s) {n : Int} (hn : U64 n) (m : Int) (k : Int → Src → Int → Option R) : F46 R s n m k = k (drawR s n m).1 (drawR s n m).2.1 (drawR s n m).2.2 := by
  simp only [F46, p46]
  rw [F58_eq R hs]
  unfold drawR
  by_cases hr : rightS' s = true
  · simp only [hr, true_and, Bool.not_true]
    by_cases h1 : n < 1
    · rw [if_neg (by omega)]
      simp only [decide_eq_true h1]
    · simp only [decide_eq_false h1]
      by_cases h2 : n ≥ 9223372036854775808
      · rw [if_neg (by omega)]
        simp only [decide_eq_true h2]
      · simp only [decide_eq_false h2]
        by_cases h3 : m < 1
        · rw [if_neg (by omega)]
          simp only [decide_eq_true h3]
        · simp only [decide_eq_false h3]
          by_cases h4 : m > 64
          · rw [if_neg (by omega)]
            simp only [decide_eq_true h4]
          · rw [if_pos (by omega)]
            simp only [decide_eq_false h4]
            obtain ⟨a, rfl⟩ : ∃ a : Nat, m = a := ⟨m.toNat, by omega⟩
            rw [Int.toNat_natCast]
            exact G46_eq R hn a (by omega) (0, [], 0, List.replicate 32 0, 0, 0, ()) (fun x2 x3 x4 => k x2 x4 x3) (fun x5 x6 => k 0 x5 9) FUEL 0 s (by omega) (by rw [FUEL_eq]; omega) hs (fun y => rfl)
  · simp only [Bool.not_eq_true] at hr
    simp [hr]
end Go.PG
namespace Go.PG
theorem drawF_ok {n : Int} : ∀ (m : Nat) (s : Src), (drawF n m s).2.2 = 0 → ∃ j, 1 ≤ j ∧ j ≤ m ∧ (drawF n m s).1 < n ∧ (drawF n m s).2.1 = setAt s (atS s + needS n * j) ∧ (needS n * j : Int) ≤ leftS s ∧ ∀ i < j, drawF n i s = (0, setAt s (atS s + needS n * i), 9)
  | 0, s, h => by simp [drawF] at h
  | m + 1, s, h => by
    simp only [drawF] at h ⊢
    split at h
    · rename_i h1
      obtain ⟨g1, g2, g3, g4⟩ := takeR_zero h1
      rw [if_pos h1]
      split at h
      · rename_i h2
        rw [if_pos h2]
        refine ⟨1, by omega, by omega, h2, ?_, by omega, fun i hi => ?_⟩
        · rw [g4]
          show setAt s (atS s + needS n) = setAt s (atS s + needS n * ((1 : Nat) : Int))
          rw [Int.natCast_one, Int.mul_one]
        · have : i = 0 := by omega
          subst this
          simp only [drawF, Int.natCast_zero, Int.mul_zero, Int.add_zero]
          rfl
      · rename_i h2
        rw [if_neg h2]
        have hmul : ∀ i : Nat, ((needS n : Nat) : Int) * ((i + 1 : Nat) : Int) = needS n + needS n * i := fun i => by
          rw [show ((i + 1 : Nat) : Int) = (i : Int) + 1 by omega, Int.mul_add, Int.mul_one, Int.add_comm]
        obtain ⟨j, j1, j2, j3, j4, j5, j6⟩ := drawF_ok m _ h
        refine ⟨j + 1, by omega, by omega, j3, ?_, ?_, fun i hi => ?_⟩
        · rw [j4, g4]
          show setAt (setAt s (atS s + needS n)) (atS s + needS n + needS n * j) = _
          rw [setAt_set, hmul, Int.add_assoc]
        · rw [g4] at j5
          have hle : leftS (setAt s (atS s + needS n)) ≤ leftS s - needS n := by
            unfold leftS at g3 ⊢
            rw [if_pos g1] at g3 ⊢
            split
            · show endS s - (atS s + needS n) ≤ endS s - atS s - needS n
              omega
            · show 0 ≤ endS s - atS s - needS n
              have : endS s - s.2.2.2.2.2.1 = endS s - atS s := rfl
              omega
          rw [hmul]
          have j5' : (needS n : Int) * j ≤ leftS (setAt s (atS s + needS n)) := j5
          omega
        · cases i with
          | zero =>
            simp only [drawF, Int.natCast_zero, Int.mul_zero, Int.add_zero]
            rfl
          | succ i =>
            have := j6 i (by omega)
            simp only [drawF]
            rw [if_pos h1, if_neg h2, this, g4]
            show (0, setAt (setAt s (atS s + needS n)) (atS s + needS n + needS n * i), 9) = _
            rw [setAt_set, hmul, Int.add_assoc]
    · rename_i h1
      exact absurd h h1
end Go.PG
namespace Go.PG
end Go.PG
namespace Go.PG
end Go.PG
namespace Go.PG
end Go.PG
namespace Go.PG
def sumS (l : List Int) (n : Nat) : Int := (l.take n).sum
theorem sumS_zero (l : List Int) : sumS l 0 = 0 := rfl
theorem sumS_succ {l : List Int} {i : Nat} (h : i < l.length) : sumS l (i + 1) = sumS l i + l.getD i 0 := by
  unfold sumS
  have et : l.take (i + 1) = l.take i ++ [l[i]] := by rw [List.take_succ_eq_append_getElem h]
  rw [et, List.sum_append]
  simp [h]
def AllU64 (l : List Int) : Prop := ∀ x ∈ l, U64 x
theorem u64_0 : U64 0 := by unfold U64; omega
theorem sumS_mono {l : List Int} (h : AllU64 l) {a : Nat} : ∀ d : Nat, sumS l a ≤ sumS l (a + d)
  | 0 => Int.le_refl _
  | d + 1 => by
    have ih := sumS_mono h (a := a) d
    by_cases hd : a + d < l.length
    · have := (getD_all h u64_0 (a + d)).1
      rw [← Nat.add_assoc, sumS_succ hd]
      omega
    · have e : sumS l (a + (d + 1)) = sumS l (a + d) := by
        unfold sumS
        rw [List.take_of_length_le (by omega), List.take_of_length_le (by omega)]
      rw [e]; exact ih
theorem sumS_le {l : List Int} (h : AllU64 l) {a b : Nat} (hab : a ≤ b) : sumS l a ≤ sumS l b := by
  have := sumS_mono h (a := a) (b - a)
  rwa [show a + (b - a) = b by omega] at this
theorem sumS_nonneg {l : List Int} (h : AllU64 l) (n : Nat) : 0 ≤ sumS l n := by
  have := sumS_le h (Nat.zero_le n)
  rwa [sumS_zero] at this
def totS (l : List Int) : Int := sumS l l.length
theorem sumS_tot {l : List Int} (h : AllU64 l) (n : Nat) : sumS l n ≤ totS l := by
  by_cases hn : n ≤ l.length
  · exact sumS_le h hn
  · unfold totS sumS
    rw [List.take_of_length_le (by omega), List.take_length]
    exact Int.le_refl _
def lowF : Nat → Nat → Nat
  | 0, _ => 1
  | f + 1, n => if n % 2 = 0 then 2 * lowF f (n / 2) else 1
def lowN (n : Nat) : Nat := lowF 20 n
def ALLN : List Nat := List.range' 1 1000
theorem low_check : (ALLN.all fun n => decide (iand .i64 (n : Int) (IntKind.i64.wrap (0 - (n : Int))) = (lowN n : Int)) && decide (1 ≤ lowN n ∧ lowN n ≤ n)) = true := by kernel_rfl
theorem low_ok {n : Nat} (h1 : 1 ≤ n) (h2 : n ≤ 1000) : iand .i64 (n : Int) (IntKind.i64.wrap (0 - (n : Int))) = (lowN n : Int) ∧ 1 ≤ lowN n ∧ lowN n ≤ n := by
  have := List.all_eq_true.1 low_check n (by unfold ALLN; rw [List.mem_range']; exact ⟨n - 1, by omega, by omega⟩)
  simp only [Bool.and_eq_true, decide_eq_true_eq] at this
  exact ⟨this.1, this.2⟩
theorem F93_eq (R : Type) {n : Nat} (h1 : 1 ≤ n) (h2 : n ≤ 1000) (k : Int → Option R) : F93 R (n : Int) k = k (lowN n : Int) := by
  simp only [F93, p93]
  rw [(low_ok h1 h2).1]
theorem G63_eq' (R : Type) (k0 : Int → Option R) : ∀ (f m n b : Nat), 1 ≤ n → n < 2 ^ f → f < m → n * b ≤ 1000000 → 1 ≤ b → G63_2 m R (n : Int) (b : Int) k0 = k0 ((b * lowF f n : Nat) : Int)
  | _, 0, _, _, _, _, h, _, _ => by omega
  | 0, m + 1, n, b, h1, h2, _, _, _ => by simp at h2; omega
  | f + 1, m + 1, n, b, h1, h2, h3, h4, h5 => by
    simp only [G63_2, p63_2, lowF]
    rw [Nat.pow_succ] at h2
    rw [Int.tmod_eq_emod_of_nonneg (by omega)]
    have hbn : b ≤ n * b := Nat.le_mul_of_pos_left b (by omega)
    have hnn : n ≤ n * b := Nat.le_mul_of_pos_right n (by omega)
    by_cases h0 : n % 2 = 0
    · have e : ((n : Int) % 2 == 0) = true := by
        have : (n : Int) % 2 = 0 := by omega
        simp [this]
      have hle : n / 2 * (2 * b) ≤ 1000000 := by
        have : n / 2 * (2 * b) = n / 2 * 2 * b := by rw [Nat.mul_assoc]
        rw [this, show n / 2 * 2 = n by omega]; exact h4
      have ih := G63_eq' R k0 f m (n / 2) (2 * b) (by omega) (by omega) (by omega) hle (by omega)
      simp only [e, if_pos h0]
      rw [Int.tdiv_eq_ediv_of_nonneg (by omega), wrap_i64 (n := (n : Int) / 2) (by omega) (by omega), wrap_i64 (n := 2 * (b : Int)) (by omega) (by omega), show (n : Int) / 2 = ((n / 2 : Nat) : Int) by omega, show 2 * (b : Int) = ((2 * b : Nat) : Int) by omega, ih]
      congr 2
      rw [← Nat.mul_assoc, Nat.mul_comm b 2]
    · have e : ((n : Int) % 2 == 0) = false := beq_eq_false_iff_ne.2 (by omega)
      simp only [e, if_neg h0, Nat.mul_one]
theorem F63_eq' (R : Type) {n : Nat} (h1 : 1 ≤ n) (h2 : n ≤ 1000) (k : Int → Option R) : F63 R (n : Int) k = k (lowN n : Int) := by
  simp only [F63, p63]
  have := G63_eq' R (fun x1 => k x1) 20 FUEL n 1 h1 (by omega) (by rw [FUEL_eq]; omega) (by omega) (Nat.le_refl _)
  rw [Nat.one_mul] at this
  exact this
theorem low_even (m : Nat) (h1 : 1 ≤ m) (h2 : m ≤ 500) : lowN (2 * m) = 2 * lowN m := by
  have : (List.range' 1 500).all (fun m => decide (lowN (2 * m) = 2 * lowN m)) = true := by kernel_rfl
  have := List.all_eq_true.1 this m (by rw [List.mem_range']; exact ⟨m - 1, by omega, by omega⟩)
  exact of_decide_eq_true this
theorem low_odd (m : Nat) : lowN (2 * m + 1) = 1 := by
  unfold lowN lowF
  rw [if_neg (by omega)]
theorem low_pow : ∀ (k q : Nat), (2 * q + 1) * 2 ^ k ≤ 1000 → lowN ((2 * q + 1) * 2 ^ k) = 2 ^ k
  | 0, q, _ => by rw [Nat.pow_zero, Nat.mul_one, low_odd]
  | k + 1, q, h => by
    rw [Nat.pow_succ, ← Nat.mul_assoc] at h
    have hp : 0 < (2 * q + 1) * 2 ^ k := Nat.mul_pos (by omega) (Nat.pow_pos (by omega))
    rw [Nat.pow_succ, ← Nat.mul_assoc, Nat.mul_comm _ 2, low_even _ hp (by omega), low_pow k q (by omega), Nat.mul_comm]
def nodeS (l : List Int) (q : Nat) : Int := sumS l (q + 1) - sumS l (q + 1 - lowN (q + 1))
def treeS (l : List Int) : List Int := (List.range l.length).map (nodeS l)
theorem treeS_len (l : List Int) : (treeS l).length = l.length := by simp [treeS]
theorem treeS_get {l : List Int} {q : Nat} (h : q < l.length) : (treeS l).getD q 0 = nodeS l q := by
  simp [treeS, h]
theorem node_range {l : List Int} (h : AllU64 l) (ht : totS l < 9223372036854775808) (q : Nat) : 0 ≤ nodeS l q ∧ nodeS l q < 9223372036854775808 := by
  have h1 := sumS_le h (a := q + 1 - lowN (q + 1)) (b := q + 1) (by omega)
  have h2 := sumS_nonneg h (q + 1 - lowN (q + 1))
  have h3 := sumS_tot h (q + 1)
  unfold nodeS
  omega
theorem G62_eq' (R : Type) {l : List Int} (h : AllU64 l) (ht : totS l < 9223372036854775808) (hlen : l.length ≤ 1000) (b a : Nat) (hb : b ≤ l.length) (k0 : Int → Option R) : ∀ (m i : Nat), a ≤ i → i ≤ b → b - i < m → G62_3 m R l (b : Int) (sumS l i - sumS l a) (i : Int) k0 = k0 (sumS l b - sumS l a)
  | 0, i, _, _, h => by omega
  | m + 1, i, h0, h1, h2 => by
    simp only [G62_3, p62_3]
    by_cases hi : i < b
    · have hd : decide ((i : Int) < (b : Int)) = true := by simpa using hi
      have hbn : bnd (i : Int) (l.length : Int) = true := by unfold bnd; simp; omega
      have q1 := sumS_le h h0
      have q2 := sumS_tot h (i + 1)
      have q3 := sumS_succ (l := l) (i := i) (by omega)
      have q4 := sumS_nonneg h a
      have q5 := (getD_all h u64_0 i).1
      simp only [hd, hbn, Int.toNat_natCast]
      rw [wrap_u64 (n := sumS l i - sumS l a + l.getD i 0) (by omega) (by omega), wrap_i64 (n := (i : Int) + 1) (by omega) (by omega), show sumS l i - sumS l a + l.getD i 0 = sumS l (i + 1) - sumS l a by omega]
      exact G62_eq' R h ht hlen b a hb k0 m (i + 1) (by omega) (by omega) (by omega)
    · have : i = b := by omega
      subst this
      have hd : decide ((i : Int) < (i : Int)) = false := by simp
      simp only [hd]
theorem F62_eq' (R : Type) {l : List Int} (h : AllU64 l) (ht : totS l < 9223372036854775808) (hlen : l.length ≤ 1000) {a b : Nat} (hab : a ≤ b) (hb : b ≤ l.length) (k : Int → Option R) : F62 R l (a : Int) (b : Int) k = k (sumS l b - sumS l a) := by
  simp only [F62, p62]
  have := G62_eq' R h ht hlen b a hb (fun x1 => k x1) FUEL a (Nat.le_refl _) hab (by rw [FUEL_eq]; omega)
  rw [Int.sub_self] at this
  exact this
theorem G26_eq (R : Type) {l : List Int} (h : AllU64 l) (ht : totS l < 9223372036854775808) (hlen : l.length ≤ 500) (x3 : List Int × Unit) (k0 : (List Int × Unit) → List Int → Unit → Option R) : ∀ (m i : Nat), i ≤ l.length → l.length - i < m →
    G26_3 m R l (i : Int) x3 ((List.range i).map (nodeS l)) () k0 = k0 x3 (treeS l) ()
  | 0, i, _, h => by omega
  | m + 1, i, h1, h2 => by
    simp only [G26_3, p26_3]
    by_cases hi : i < l.length
    · have hd : decide ((i : Int) < (l.length : Int)) = true := by simpa using hi
      simp only [hd]
      have hl := low_ok (n := i + 1) (by omega) (by omega)
      rw [wrap_i64 (n := (i : Int) + 1) (by omega) (by omega), show (i : Int) + 1 = ((i + 1 : Nat) : Int) by omega, F63_eq' R (by omega) (by omega), wrap_i64 (n := ((i + 1 : Nat) : Int) - (lowN (i + 1) : Int)) (by omega) (by omega), show ((i + 1 : Nat) : Int) - (lowN (i + 1) : Int) = ((i + 1 - lowN (i + 1) : Nat) : Int) by omega, F62_eq' R h ht (by omega) (by omega) (by omega)]
      have hc : ∀ y : Int, decide (List.length ((List.range i).map (nodeS l)) + List.length [y] ≤ 17592186044416) = true := fun y => by simp; omega
      simp only [hc]
      have e : (List.range i).map (nodeS l) ++ [sumS l (i + 1) - sumS l (i + 1 - lowN (i + 1))] = (List.range (i + 1)).map (nodeS l) := by
        rw [List.range_succ, List.map_append]; rfl
      rw [e]
      exact G26_eq R h ht hlen x3 k0 m (i + 1) (by omega) (by omega)
    · have : i = l.length := by omega
      subst this
      have hd : decide ((l.length : Int) < (l.length : Int)) = false := by simp
      simp only [hd]
      rfl
theorem F26_eq (R : Type) {l : List Int} (h : AllU64 l) (ht : totS l < 9223372036854775808) (hlen : l.length ≤ 500) (k : (List Int × Unit) → Option R) : F26 R l k = k (treeS l, ()) := by
  simp only [F26, p26]
  exact G26_eq R h ht hlen ([], ()) (fun x1 x2 x3 => k (x2, ())) FUEL 0 (by omega) (by rw [FUEL_eq]; omega)
theorem G127_eq (R : Type) {l : List Int} (h : AllU64 l) (ht : totS l < 9223372036854775808) (hlen : l.length ≤ 500) (k0 : Int → Option R) (n0 : Nat) (hn0 : n0 ≤ l.length) : ∀ (m n : Nat), n ≤ n0 → n < m → G127_1 m R (n : Int) (sumS l n0 - sumS l n) (treeS l, ()) k0 = k0 (sumS l n0)
  | 0, n, _, h => by omega
  | m + 1, n, h1, h2 => by
    simp only [G127_1, p127_1]
    by_cases hn : n = 0
    · subst hn
      have hd : decide (((0 : Nat) : Int) > 0) = false := by simp
      simp only [hd, sumS_zero, Int.sub_zero]
    · have hd : decide ((n : Int) > 0) = true := decide_eq_true (by omega)
      have hl := low_ok (n := n) (by omega) (by omega)
      rw [wrap_i64 (n := (n : Int) - 1) (by omega) (by omega), show (n : Int) - 1 = ((n - 1 : Nat) : Int) by omega]
      have hbn : bnd ((n - 1 : Nat) : Int) ((treeS l).length : Int) = true := by rw [treeS_len]; unfold bnd; simp; omega
      simp only [hd, hbn, Int.toNat_natCast]
      rw [treeS_get (by omega), F93_eq R (by omega) (by omega)]
      have e : nodeS l (n - 1) = sumS l n - sumS l (n - lowN n) := by
        unfold nodeS
        rw [show n - 1 + 1 = n by omega]
      have q1 := sumS_le h (a := n - lowN n) (b := n) (by omega)
      have q2 := sumS_nonneg h (n - lowN n)
      have q3 := sumS_tot h n0
      have q4 := sumS_le h h1
      rw [e, wrap_u64 (n := sumS l n0 - sumS l n + (sumS l n - sumS l (n - lowN n))) (by omega) (by omega), wrap_i64 (n := (n : Int) - (lowN n : Int)) (by omega) (by omega), show (n : Int) - (lowN n : Int) = ((n - lowN n : Nat) : Int) by omega, show sumS l n0 - sumS l n + (sumS l n - sumS l (n - lowN n)) = sumS l n0 - sumS l (n - lowN n) by omega]
      exact G127_eq R h ht hlen k0 n0 hn0 m (n - lowN n) (by omega) (by omega)
theorem F96_eq (R : Type) {l : List Int} (h : AllU64 l) (ht : totS l < 9223372036854775808) (hlen : l.length ≤ 500) (k : Int → Option R) : F96 R (treeS l, ()) k = k (totS l) := by
  simp only [F96, p96, F128, p128, F127, p127, treeS_len]
  have := G127_eq R h ht hlen (fun x1 => k x1) l.length (Nat.le_refl _) FUEL l.length (Nat.le_refl _) (by rw [FUEL_eq]; omega)
  rw [Int.sub_self] at this
  exact this
def Owns (l : List Int) (x : Int) (i : Nat) : Prop := i < l.length ∧ sumS l i ≤ x ∧ x < sumS l (i + 1)
theorem Owns.uniq {l : List Int} (h : AllU64 l) {x : Int} {i j : Nat} (hi : Owns l x i) (hj : Owns l x j) : i = j := by
  obtain ⟨a1, a2, a3⟩ := hi
  obtain ⟨b1, b2, b3⟩ := hj
  rcases Nat.lt_trichotomy i j with h1 | h1 | h1
  · have := sumS_le h (a := i + 1) (b := j) (by omega); omega
  · exact h1
  · have := sumS_le h (a := j + 1) (b := i) (by omega); omega
theorem G97_4_eq (R : Type) {n : Nat} (hn : n ≤ 500) (t : List Int × Unit) (htl : t.1.length = n) (x : Int) (k0 : Int → Int → Int → (List Int × Unit) → Option R) : ∀ (m k : Nat), 2 ^ k ≤ n ∨ k = 0 → n + 2 < m + 2 ^ k → ∃ j, n < 2 ^ (j + 1) ∧ (2 ^ j ≤ n ∨ j = 0) ∧ G97_4 m R x 0 ((2 ^ k : Nat) : Int) t k0 = k0 x 0 ((2 ^ j : Nat) : Int) t
  | 0, k, h1, h2 => by
    rcases h1 with h1 | rfl
    · omega
    · rw [Nat.pow_zero] at h2; omega
  | m + 1, k, h1, h2 => by
    simp only [G97_4, p97_4, F128, p128, htl]
    have hpp : 0 < 2 ^ k := Nat.pow_pos (by omega)
    have hp : 2 ^ k ≤ 500 := by
      rcases h1 with h1 | rfl
      · omega
      · rw [Nat.pow_zero]; omega
    have e : ishl .i64 ((2 ^ k : Nat) : Int) 1 = ((2 ^ (k + 1) : Nat) : Int) := by
      unfold ishl
      rw [show (2 : Int) ^ (min (1 : Int).toNat IntKind.i64.bits) = 2 by decide, Nat.pow_succ]
      generalize 2 ^ k = p at *
      rw [wrap_i64 (by omega) (by omega)]; omega
    rw [e]
    by_cases hk : 2 ^ (k + 1) ≤ n
    · have hd : decide (((2 ^ (k + 1) : Nat) : Int) ≤ (n : Int)) = true := decide_eq_true (by omega)
      simp only [hd]
      exact G97_4_eq R hn t htl x k0 m (k + 1) (.inl hk) (by rw [Nat.pow_succ]; omega)
    · have hd : decide (((2 ^ (k + 1) : Nat) : Int) ≤ (n : Int)) = false := decide_eq_false (by omega)
      simp only [hd]
      exact ⟨k, by omega, h1, rfl⟩
theorem G97_6_eq (R : Type) {l : List Int} (h : AllU64 l) (ht : totS l < 9223372036854775808) (hlen : l.length ≤ 400) {x : Int} (hx : 0 ≤ x ∧ x < totS l) (k0 : Int → Option R) : ∀ (m k q : Nat), 2 ^ (k + 1) * q ≤ l.length → 2 ^ k ≤ 500 → sumS l (2 ^ (k + 1) * q) ≤ x → (l.length < 2 ^ (k + 1) * q + 2 ^ (k + 1) ∨ x < sumS l (2 ^ (k + 1) * q + 2 ^ (k + 1))) → k + 1 < m →
    ∃ i, Owns l x i ∧ G97_6 m R (x - sumS l (2 ^ (k + 1) * q)) ((2 ^ (k + 1) * q : Nat) : Int) ((2 ^ k : Nat) : Int) (treeS l, ()) k0 = k0 (i : Int)
  | 0, _, _, _, _, _, _, h => by omega
  | m + 1, k, q, h1, h2, h3, h4, h5 => by
    have hpp : 0 < 2 ^ k := Nat.pow_pos (by omega)
    have e1 : 2 ^ (k + 1) * q = 2 ^ k * (2 * q) := by rw [Nat.pow_succ, Nat.mul_assoc]
    have hlow : 2 ^ (k + 1) * q + 2 ^ k ≤ 1000 → lowN (2 ^ (k + 1) * q + 2 ^ k) = 2 ^ k := fun hh => by
      have e2 : 2 ^ (k + 1) * q + 2 ^ k = (2 * q + 1) * 2 ^ k := by rw [e1, Nat.add_mul, Nat.one_mul, Nat.mul_comm (2 * q)]
      rw [e2] at hh ⊢
      exact low_pow k q hh
    simp only [G97_6, p97_6, F128, p128, treeS_len]
    have hd : decide (((2 ^ k : Nat) : Int) > 0) = true := decide_eq_true (by omega)
    have eshr : ishr .i64 ((2 ^ k : Nat) : Int) 1 = ((2 ^ k / 2 : Nat) : Int) := by
      unfold ishr
      rw [show (2 : Int) ^ (min (1 : Int).toNat IntKind.i64.bits) = 2 by decide, Int.fdiv_eq_ediv_of_nonneg _ (by omega)]
      omega
    simp only [hd, eshr]
    rw [wrap_i64 (n := ((2 ^ (k + 1) * q : Nat) : Int) + ((2 ^ k : Nat) : Int)) (by omega) (by omega), show ((2 ^ (k + 1) * q : Nat) : Int) + ((2 ^ k : Nat) : Int) = ((2 ^ (k + 1) * q + 2 ^ k : Nat) : Int) by omega]
    -- what comes behind, for the next step
    have next : ∀ (q' : Nat) (_ : 2 ^ k * q' ≤ l.length) (_ : sumS l (2 ^ k * q') ≤ x) (_ : l.length < 2 ^ k * q' + 2 ^ k ∨ x < sumS l (2 ^ k * q' + 2 ^ k)),
        ∃ i, Owns l x i ∧ G97_6 m R (x - sumS l (2 ^ k * q')) ((2 ^ k * q' : Nat) : Int) ((2 ^ k / 2 : Nat) : Int) (treeS l, ()) k0 = k0 (i : Int) := by
      intro q' g1 g2 g3
      cases k with
      | zero =>
        rw [Nat.pow_zero, Nat.one_mul] at g1 g2 g3 ⊢
        have hlt : q' < l.length := by
          refine Classical.byContradiction fun hh => ?_
          have : sumS l q' = totS l := by
            unfold totS sumS
            rw [List.take_of_length_le (by omega), List.take_length]
          omega
        refine ⟨q', ⟨hlt, g2, ?_⟩, ?_⟩
        · rcases g3 with g3 | g3
          · have : q' + 1 = l.length := by omega
            rw [this]; exact hx.2
          · exact g3
        · cases m with
          | zero => omega
          | succ m =>
            simp only [G97_6, p97_6]
            rfl
      | succ k =>
        have e3 : 2 ^ (k + 1) / 2 = 2 ^ k := by rw [Nat.pow_succ]; omega
        rw [e3]
        exact G97_6_eq R h ht hlen hx k0 m k q' g1 (by rw [Nat.pow_succ] at h2; omega) g2 g3 (by omega)
    by_cases hn : 2 ^ (k + 1) * q + 2 ^ k ≤ l.length
    · have hd2 : decide (((2 ^ (k + 1) * q + 2 ^ k : Nat) : Int) ≤ (l.length : Int)) = true := decide_eq_true (by omega)
      have hbn : bnd ((2 ^ (k + 1) * q + 2 ^ k - 1 : Nat) : Int) (l.length : Int) = true := by unfold bnd; simp; omega
      rw [wrap_i64 (n := ((2 ^ (k + 1) * q + 2 ^ k : Nat) : Int) - 1) (by omega) (by omega), show ((2 ^ (k + 1) * q + 2 ^ k : Nat) : Int) - 1 = ((2 ^ (k + 1) * q + 2 ^ k - 1 : Nat) : Int) by omega]
      simp only [hd2, hbn, Int.toNat_natCast]
      have en : nodeS l (2 ^ (k + 1) * q + 2 ^ k - 1) = sumS l (2 ^ (k + 1) * q + 2 ^ k) - sumS l (2 ^ (k + 1) * q) := by
        unfold nodeS
        rw [show 2 ^ (k + 1) * q + 2 ^ k - 1 + 1 = 2 ^ (k + 1) * q + 2 ^ k by omega, hlow (by omega), Nat.add_sub_cancel]
      have eg : (treeS l).getD (2 ^ (k + 1) * q + 2 ^ k - 1) 0 = sumS l (2 ^ (k + 1) * q + 2 ^ k) - sumS l (2 ^ (k + 1) * q) := by rw [treeS_get (by omega), en]
      simp only [eg]
      have q1 := sumS_le h (a := 2 ^ (k + 1) * q) (b := 2 ^ (k + 1) * q + 2 ^ k) (by omega)
      have q2 := sumS_nonneg h (2 ^ (k + 1) * q)
      by_cases hle : sumS l (2 ^ (k + 1) * q + 2 ^ k) ≤ x
      · have hd3 : decide (sumS l (2 ^ (k + 1) * q + 2 ^ k) - sumS l (2 ^ (k + 1) * q) ≤ x - sumS l (2 ^ (k + 1) * q)) = true := decide_eq_true (by omega)
        simp only [hd3]
        rw [wrap_u64 (n := x - sumS l (2 ^ (k + 1) * q) - (sumS l (2 ^ (k + 1) * q + 2 ^ k) - sumS l (2 ^ (k + 1) * q))) (by omega) (by omega), show x - sumS l (2 ^ (k + 1) * q) - (sumS l (2 ^ (k + 1) * q + 2 ^ k) - sumS l (2 ^ (k + 1) * q)) = x - sumS l (2 ^ (k + 1) * q + 2 ^ k) by omega]
        have e4 : 2 ^ (k + 1) * q + 2 ^ k = 2 ^ k * (2 * q + 1) := by rw [e1, Nat.mul_add, Nat.mul_one]
        have e5 : 2 ^ (k + 1) * q + 2 ^ (k + 1) = 2 ^ k * (2 * q + 1) + 2 ^ k := by
          rw [← e4, Nat.pow_succ]; omega
        rw [e4]
        rw [e4] at hle hn
        rw [e5] at h4
        exact next (2 * q + 1) hn hle h4
      · have hd3 : decide (sumS l (2 ^ (k + 1) * q + 2 ^ k) - sumS l (2 ^ (k + 1) * q) ≤ x - sumS l (2 ^ (k + 1) * q)) = false := decide_eq_false (by omega)
        simp only [hd3]
        rw [e1] at h1 h3 hle ⊢
        exact next (2 * q) h1 h3 (.inr (by omega))
    · have hd2 : decide (((2 ^ (k + 1) * q + 2 ^ k : Nat) : Int) ≤ (l.length : Int)) = false := decide_eq_false (by omega)
      simp only [hd2]
      rw [e1] at h1 h3 hn ⊢
      exact next (2 * q) h1 h3 (.inl (by omega))
theorem F97_own (R : Type) {l : List Int} (h : AllU64 l) (ht : totS l < 9223372036854775808) (hlen : l.length ≤ 400) {x : Int} (hx : 0 ≤ x ∧ x < totS l) (k : Int → Int → Option R) : ∃ i, Owns l x i ∧ F97 R (treeS l, ()) x k = k (i : Int) 0 := by
  simp only [F97, p97]
  rw [F96_eq R h ht (by omega)]
  have hd : decide (x ≥ totS l) = false := decide_eq_false (by omega)
  simp only [hd]
  obtain ⟨j, j1, j2, j3⟩ := G97_4_eq R (n := l.length) (by omega) (treeS l, ()) (treeS_len l) x (fun x3 x4 x5 x6 => G97_6 FUEL R x3 x4 x5 x6 (fun x7 => k x7 0)) FUEL 0 (.inr rfl) (by rw [FUEL_eq]; omega)
  have hj : 2 ^ j ≤ 500 := by
    rcases j2 with j2 | rfl
    · omega
    · rw [Nat.pow_zero]; omega
  have hjm : j ≤ 500 := by have := Nat.lt_two_pow_self (n := j); omega
  obtain ⟨i, hi, g⟩ := G97_6_eq R h ht hlen hx (fun x7 => k x7 0) FUEL j 0 (by simp) hj (by rw [Nat.mul_zero, sumS_zero]; exact hx.1) (.inl (by omega)) (by rw [FUEL_eq]; omega)
  refine ⟨i, hi, ?_⟩
  rw [Nat.mul_zero, sumS_zero, Int.sub_zero] at g
  exact j3.trans g
end Go.PG
namespace Go.PG
def lastE (j : Nat) : Nat → Nat
  | 0 => j - lowN j
  | m + 1 => if (m + 1) + lowN (m + 1) = j then m + 1 else lastE j m
theorem last_checkA : ((List.range' 1 400).all fun c => decide (lastE (c + lowN c) (c - 1) = c - lowN c)) = true := by kernel_rfl
theorem last_checkB : ((List.range' 1 400).all fun j => decide (lastE j (j - 1) = j - 1)) = true := by kernel_rfl
theorem lastA {c : Nat} (h1 : 1 ≤ c) (h2 : c ≤ 400) : lastE (c + lowN c) (c - 1) = c - lowN c :=
  of_decide_eq_true (List.all_eq_true.1 last_checkA c (by rw [List.mem_range']; exact ⟨c - 1, by omega, by omega⟩))
theorem lastB {j : Nat} (h1 : 1 ≤ j) (h2 : j ≤ 400) : lastE j (j - 1) = j - 1 :=
  of_decide_eq_true (List.all_eq_true.1 last_checkB j (by rw [List.mem_range']; exact ⟨j - 1, by omega, by omega⟩))
theorem last_keep {j : Nat} (h1 : 1 ≤ j) : ∀ (d : Nat), j + d ≤ 1000 → lastE j (j - 1 + d) = lastE j (j - 1)
  | 0, _ => rfl
  | d + 1, h => by
    have ih := last_keep h1 d (by omega)
    rw [show j - 1 + (d + 1) = (j - 1 + d) + 1 by omega]
    simp only [lastE]
    have := low_ok (n := j - 1 + d + 1) (by omega) (by omega)
    rw [if_neg (by omega), ih]
def partN (l : List Int) (m q : Nat) : Int := sumS l (lastE (q + 1) m) - sumS l (q + 1 - lowN (q + 1)) + l.getD q 0
def partT (l : List Int) (m : Nat) : List Int := (List.range l.length).map (partN l m)
theorem partT_zero (l : List Int) : partT l 0 = l := by
  unfold partT partN
  apply List.ext_getElem?
  intro i
  rw [List.getElem?_map]
  by_cases h : i < l.length
  · rw [List.getElem?_range h]
    simp [lastE, h]
  · rw [List.getElem?_eq_none (by simp; omega), List.getElem?_eq_none (by omega)]
    rfl
theorem partN_done {l : List Int} {q m : Nat} (hq : q < l.length) (hl : l.length ≤ 400) (hm : q ≤ m) (hm2 : m ≤ 500) : partN l m q = nodeS l q := by
  unfold partN nodeS
  have h1 := lastB (j := q + 1) (by omega) (by omega)
  have h2 := last_keep (j := q + 1) (by omega) (m - q) (by omega)
  rw [show q + 1 - 1 + (m - q) = m by omega] at h2
  rw [h2, h1, sumS_succ hq]
  show sumS l (q + 1 - 1) - _ + _ = _
  rw [Nat.add_sub_cancel]
  omega
theorem partT_done {l : List Int} (hl : l.length ≤ 400) : partT l l.length = treeS l := by
  unfold partT treeS
  refine List.map_congr_left (fun q hq => ?_)
  have hq' : q < l.length := by simpa using hq
  exact partN_done hq' hl (by omega) (by omega)
theorem partT_len (l : List Int) (m : Nat) : (partT l m).length = l.length := by simp [partT]
theorem partT_get {l : List Int} {m q : Nat} (h : q < l.length) : (partT l m).getD q 0 = partN l m q := by simp [partT, h]
theorem lastE_le : ∀ (j m : Nat), lastE j m ≤ max m (j - lowN j)
  | j, 0 => by simp [lastE]
  | j, m + 1 => by
    have := lastE_le j m
    simp only [lastE]
    split <;> omega
theorem G50_eq (R : Type) {l : List Int} (h : AllU64 l) (ht : totS l < 9223372036854775808) (hlen : l.length ≤ 200) (x2 : List Int × Unit) (k0 : (List Int × Unit) → List Int → Option R) : ∀ (m i : Nat), i ≤ l.length → l.length - i < m →
    G50_8 m R ((i + 1 : Nat) : Int) x2 (partT l i) k0 = k0 x2 (treeS l)
  | 0, i, _, h => by omega
  | m + 1, i, h1, h2 => by
    simp only [G50_8, p50_8, partT_len]
    by_cases hi : i < l.length
    · have hd : decide (((i + 1 : Nat) : Int) ≤ (l.length : Int)) = true := decide_eq_true (by omega)
      have hlo := low_ok (n := i + 1) (by omega) (by omega)
      simp only [hd]
      rw [F93_eq R (by omega) (by omega), wrap_i64 (n := ((i + 1 : Nat) : Int) + (lowN (i + 1) : Int)) (by omega) (by omega), wrap_i64 (n := ((i + 1 : Nat) : Int) + 1) (by omega) (by omega), show ((i + 1 : Nat) : Int) + 1 = ((i + 1 + 1 : Nat) : Int) by omega]
      have keep : ∀ q, q + 1 ≠ i + 1 + lowN (i + 1) → partN l (i + 1) q = partN l i q := fun q hq => by
        unfold partN
        simp only [lastE]
        rw [if_neg (by omega)]
      by_cases hup : i + 1 + lowN (i + 1) ≤ l.length
      · have hd2 : decide (((i + 1 : Nat) : Int) + (lowN (i + 1) : Int) ≤ (l.length : Int)) = true := decide_eq_true (by omega)
        rw [wrap_i64 (n := ((i + 1 : Nat) : Int) + (lowN (i + 1) : Int) - 1) (by omega) (by omega), wrap_i64 (n := ((i + 1 : Nat) : Int) - 1) (by omega) (by omega), show ((i + 1 : Nat) : Int) + (lowN (i + 1) : Int) - 1 = ((i + lowN (i + 1) : Nat) : Int) by omega, show ((i + 1 : Nat) : Int) - 1 = (i : Int) by omega]
        have hb1 : bnd ((i + lowN (i + 1) : Nat) : Int) (l.length : Int) = true := by unfold bnd; simp; omega
        have hb2 : bnd (i : Int) (l.length : Int) = true := by unfold bnd; simp; omega
        simp only [hd2, hb1, hb2, Int.toNat_natCast]
        rw [partT_get (by omega), partT_get (by omega)]
        have q1 : partN l i i = nodeS l i := partN_done hi (by omega) (Nat.le_refl _) (by omega)
        have qA := lastA (c := i + 1) (by omega) (by omega)
        rw [Nat.add_sub_cancel] at qA
        have q2 : partN l i (i + lowN (i + 1)) + nodeS l i = partN l (i + 1) (i + lowN (i + 1)) := by
          unfold partN nodeS
          rw [show i + lowN (i + 1) + 1 = i + 1 + lowN (i + 1) by omega, qA]
          simp only [lastE, if_true]
          omega
        have q3 : 0 ≤ partN l (i + 1) (i + lowN (i + 1)) ∧ partN l (i + 1) (i + lowN (i + 1)) < 18446744073709551616 := by
          unfold partN
          rw [show i + lowN (i + 1) + 1 = i + 1 + lowN (i + 1) by omega]
          simp only [lastE, if_true]
          have hlo2 := low_ok (n := i + 1 + lowN (i + 1)) (by omega) (by omega)
          have a1 := sumS_tot h (i + 1)
          have a2 := sumS_nonneg h (i + 1 + lowN (i + 1) - lowN (i + 1 + lowN (i + 1)))
          have a3 := getD_all h u64_0 (i + lowN (i + 1))
          have a4 : sumS l (i + 1 + lowN (i + 1) - lowN (i + 1 + lowN (i + 1))) ≤ sumS l (i + 1) := by
            have := lastE_le (i + 1 + lowN (i + 1)) i
            refine sumS_le h ?_
            have hge : ∀ m, i + 1 + lowN (i + 1) - lowN (i + 1 + lowN (i + 1)) ≤ lastE (i + 1 + lowN (i + 1)) m ∨ True := fun _ => .inr trivial
            have hchk : ((List.range' 1 400).all fun c => decide (c + lowN c - lowN (c + lowN c) ≤ c)) = true := by kernel_rfl
            exact of_decide_eq_true (List.all_eq_true.1 hchk (i + 1) (by rw [List.mem_range']; exact ⟨i, by omega, by omega⟩))
          have a5 := sumS_succ (l := l) (i := i + lowN (i + 1)) (by omega)
          have a6 := sumS_tot h (i + lowN (i + 1) + 1)
          have a7 := sumS_le h (a := i + 1) (b := i + lowN (i + 1)) (by omega)
          unfold U64 at a3
          omega
        rw [q1, q2, wrap_u64 (by omega) (by omega)]
        have e : (partT l i).set (i + lowN (i + 1)) (partN l (i + 1) (i + lowN (i + 1))) = partT l (i + 1) := by
          apply List.ext_getElem?
          intro q
          unfold partT
          rw [List.getElem?_set, List.getElem?_map, List.getElem?_map]
          simp only [List.length_map, List.length_range]
          by_cases hq : q < l.length
          · rw [List.getElem?_range hq]
            by_cases eq : i + lowN (i + 1) = q
            · subst eq
              rw [if_pos rfl, if_pos hq]; rfl
            · rw [if_neg eq]
              simp only [Option.map_some]
              rw [keep q (by omega)]
          · rw [List.getElem?_eq_none (by simp; omega), if_neg (by omega)]
            rfl
        rw [e]
        exact G50_eq R h ht hlen x2 k0 m (i + 1) (by omega) (by omega)
      · have hd2 : decide (((i + 1 : Nat) : Int) + (lowN (i + 1) : Int) ≤ (l.length : Int)) = false := decide_eq_false (by omega)
        simp only [hd2]
        have e : partT l i = partT l (i + 1) := by
          unfold partT
          refine List.map_congr_left (fun q hq => ?_)
          have hq' : q < l.length := by simpa using hq
          rw [keep q (by omega)]
        rw [e]
        exact G50_eq R h ht hlen x2 k0 m (i + 1) (by omega) (by omega)
    · have : i = l.length := by omega
      subst this
      have hd : decide (((l.length + 1 : Nat) : Int) ≤ (l.length : Int)) = false := decide_eq_false (by omega)
      simp only [hd]
      rw [partT_done (by omega)]
theorem F99_eq (R : Type) {a b : Int} (ha : 0 ≤ a ∧ a < 9223372036854775808) (hb : U64 b) (k : Int → Bool → Option R) : F99 R a b k = (if a + b < 9223372036854775808 then k (a + b) true else k 0 false) := by
  unfold U64 at hb
  simp only [F99, p99, F129, F117, p117, F136, p136]
  have hd : decide (0 ≤ a ∧ 0 ≤ b ∧ (0 : Int) ≤ 0 ∧ (0 : Int) ≤ 1) = true := decide_eq_true (by omega)
  simp only [hd, Int.add_zero]
  by_cases h1 : a + b < 9223372036854775808
  · have e1 : (a + b) / 18446744073709551616 = 0 := by omega
    have e2 : (a + b) % 18446744073709551616 = a + b := by omega
    rw [if_pos h1, e1, e2]
    have n0 : ((0 : Int) != 0) = false := rfl
    simp only [n0, decide_eq_true h1, Bool.not_true]
  · rw [if_neg h1]
    by_cases h2 : a + b < 18446744073709551616
    · have e1 : (a + b) / 18446744073709551616 = 0 := by omega
      have e2 : (a + b) % 18446744073709551616 = a + b := by omega
      rw [e1, e2]
      have n0 : ((0 : Int) != 0) = false := rfl
      simp only [n0, decide_eq_false h1, Bool.not_false]
    · have e1 : ((a + b) / 18446744073709551616 != 0) = true := by
        have : ¬ (a + b) / 18446744073709551616 = 0 := by omega
        simp [this]
      simp only [e1]
theorem F94_eq (R : Type) {a b : Int} (ha : 0 ≤ a ∧ a < 9223372036854775808) (hb : U64 b) (k : Int → Bool → Option R) : F94 R a b k = (if a + b < 9223372036854775808 then k (a + b) true else k 0 false) := by
  unfold U64 at hb
  simp only [F94, p94]
  have hd : decide (a ≥ 9223372036854775808) = false := decide_eq_false (by omega)
  simp only [hd]
  rw [wrap_u64 (n := 9223372036854775808 - a) (by omega) (by omega)]
  by_cases h1 : a + b < 9223372036854775808
  · have hd2 : decide (b ≥ 9223372036854775808 - a) = false := decide_eq_false (by omega)
    rw [if_pos h1]
    simp only [hd2]
    rw [wrap_u64 (n := a + b) (by omega) (by omega)]
  · have hd2 : decide (b ≥ 9223372036854775808 - a) = true := decide_eq_true (by omega)
    rw [if_neg h1]
    simp only [hd2]
theorem G91_eq (R : Type) {l : List Int} (h : AllU64 l) (hlen : l.length ≤ 1000000) (k0 : Int → Bool → Option R) (k1 : Int → Option R) : ∀ (m i : Nat), i ≤ l.length → l.length - i < m → sumS l i < 9223372036854775808 →
    G91_2 m R (sumS l i) l (l.length : Int) (i : Int) k0 k1 = (if totS l < 9223372036854775808 then k1 (totS l) else k0 0 false)
  | 0, i, _, h, _ => by omega
  | m + 1, i, h1, h2, h3 => by
    simp only [G91_2, p91_2]
    by_cases hi : i < l.length
    · have hd : decide ((i : Int) < (l.length : Int)) = true := by simpa using hi
      have hbn : bnd (i : Int) (l.length : Int) = true := by unfold bnd; simp; omega
      simp only [hd, hbn, Int.toNat_natCast]
      rw [F99_eq R ⟨sumS_nonneg h i, h3⟩ (getD_all h u64_0 i), ← sumS_succ hi]
      by_cases h4 : sumS l (i + 1) < 9223372036854775808
      · rw [if_pos h4]
        simp only [Bool.not_true]
        rw [wrap_i64 (n := (i : Int) + 1) (by omega) (by omega)]
        exact G91_eq R h hlen k0 k1 m (i + 1) (by omega) (by omega) h4
      · rw [if_neg h4, if_neg (by have := sumS_tot h (i + 1); omega)]
        simp only [Bool.not_false]
    · have : i = l.length := by omega
      subst this
      have hd : decide ((l.length : Int) < (l.length : Int)) = false := by simp
      simp only [hd]
      rw [if_pos (show totS l < _ from h3)]
      rfl
theorem F91_eq (R : Type) {l : List Int} (h : AllU64 l) (hlen : l.length ≤ 1000000) (k : Int → Bool → Option R) : F91 R l k = (if totS l < 9223372036854775808 then k (totS l) true else k 0 false) := by
  simp only [F91, p91]
  exact G91_eq R h hlen (fun x2 x3 => k x2 x3) (fun x4 => k x4 true) FUEL 0 (by omega) (by rw [FUEL_eq]; omega) (by rw [sumS_zero]; decide)
theorem G52_eq' (R : Type) {l : List Int} (h : AllU64 l) (hlen : l.length ≤ 1000000) (k0 : Int → Bool → Option R) (k1 : Int → Option R) : ∀ (m i : Nat), i ≤ l.length → l.length - i < m → sumS l i < 9223372036854775808 →
    G52_3 m R l (sumS l i) (i : Int) k0 k1 = (if totS l < 9223372036854775808 then k1 (totS l) else k0 0 false)
  | 0, i, _, h, _ => by omega
  | m + 1, i, h1, h2, h3 => by
    simp only [G52_3, p52_3]
    by_cases hi : i < l.length
    · have hd : decide ((i : Int) < (l.length : Int)) = true := by simpa using hi
      have hbn : bnd (i : Int) (l.length : Int) = true := by unfold bnd; simp; omega
      simp only [hd, hbn, Int.toNat_natCast]
      rw [F94_eq R ⟨sumS_nonneg h i, h3⟩ (getD_all h u64_0 i), ← sumS_succ hi]
      by_cases h4 : sumS l (i + 1) < 9223372036854775808
      · rw [if_pos h4]
        simp only [Bool.not_true]
        rw [wrap_i64 (n := (i : Int) + 1) (by omega) (by omega)]
        exact G52_eq' R h hlen k0 k1 m (i + 1) (by omega) (by omega) h4
      · rw [if_neg h4, if_neg (by have := sumS_tot h (i + 1); omega)]
        simp only [Bool.not_false]
    · have : i = l.length := by omega
      subst this
      have hd : decide ((l.length : Int) < (l.length : Int)) = false := by simp
      simp only [hd]
      rw [if_pos (show totS l < _ from h3)]
      rfl
theorem F52_eq' (R : Type) {l : List Int} (h : AllU64 l) (hlen : l.length ≤ 1000000) (k : Int → Bool → Option R) : F52 R l k = (if totS l < 9223372036854775808 then k (totS l) true else k 0 false) := by
  simp only [F52, p52]
  exact G52_eq' R h hlen (fun x2 x3 => k x2 x3) (fun x4 => k x4 true) FUEL 0 (by omega) (by rw [FUEL_eq]; omega) (by rw [sumS_zero]; decide)
end Go.PG
namespace Go.PG
theorem F50_eq' (R : Type) {l : List Int} (h : AllU64 l) (hlen : l.length ≤ 200) (k : (List Int × Unit) → Int → Option R) : F50 R l k = (if totS l < 9223372036854775808 then k (treeS l, ()) 0 else k ([], ()) 11) := by
  simp only [F50, p50]
  have hd : decide ((l.length : Int) > 1048576) = false := decide_eq_false (by omega)
  simp only [hd]
  rw [F91_eq R h (by omega)]
  by_cases ht : totS l < 9223372036854775808
  · rw [if_pos ht, if_pos ht]
    simp only [Bool.not_true, F92]
    have hc : decide (List.length ([] : List Int) + l.length ≤ 17592186044416) = true := by simp; omega
    simp only [hc]
    have := G50_eq R h ht hlen ([], ()) (fun x6 x7 => k (x7, ()) 0) FUEL 0 (by omega) (by rw [FUEL_eq]; omega)
    rw [partT_zero] at this
    exact this
  · rw [if_neg ht, if_neg ht]
    simp only [Bool.not_false]
theorem F22_eq (R : Type) {l : List Int} (h : AllU64 l) (hlen : l.length ≤ 200) (k : (List Int × Unit) → Int → Option R) : F22 R l k = (if totS l < 9223372036854775808 then k (treeS l, ()) 0 else k ([], ()) 11) := by
  simp only [F22, p22]
  have hd : decide ((l.length : Int) > 1048576) = false := decide_eq_false (by omega)
  simp only [hd]
  rw [F52_eq' R h (by omega)]
  by_cases ht : totS l < 9223372036854775808
  · rw [if_pos ht, if_pos ht]
    simp only [Bool.not_true]
    rw [F26_eq R h ht (by omega)]
  · rw [if_neg ht, if_neg ht]
    simp only [Bool.not_false]
theorem G100_eq' (R : Type) {l : List Int} (h : AllU64 l) (hlen : l.length ≤ 1000000) {x : Int} (hx : x < totS l) (htt : totS l < 9223372036854775808) (k0 : Int → Int → Option R) (k1 : Option R) : ∀ (m i : Nat), i ≤ l.length → l.length - i < m → sumS l i ≤ x → ∃ j, Owns l x j ∧ G100_2 m R l (x - sumS l i) (i : Int) k0 k1 = k0 (j : Int) 0
  | 0, i, _, h, _ => by omega
  | m + 1, i, h1, h2, h3 => by
    simp only [G100_2, p100_2]
    by_cases hi : i < l.length
    · have hd : decide ((i : Int) < (l.length : Int)) = true := by simpa using hi
      have hbn : bnd (i : Int) (l.length : Int) = true := by unfold bnd; simp; omega
      have hs := sumS_succ hi
      have hn := sumS_nonneg h i
      simp only [hd, hbn, Int.toNat_natCast]
      by_cases hlt : x - sumS l i < l.getD i 0
      · simp only [decide_eq_true hlt]
        exact ⟨i, ⟨hi, h3, by omega⟩, rfl⟩
      · simp only [decide_eq_false hlt]
        have q := (getD_all h u64_0 i).1
        rw [wrap_u64 (n := x - sumS l i - l.getD i 0) (by omega) (by omega), wrap_i64 (n := (i : Int) + 1) (by omega) (by omega), show x - sumS l i - l.getD i 0 = x - sumS l (i + 1) by omega]
        exact G100_eq' R h hlen hx htt k0 k1 m (i + 1) (by omega) (by omega) (by omega)
    · have : i = l.length := by omega
      subst this
      have : sumS l l.length = totS l := rfl
      omega
theorem F100_own (R : Type) {l : List Int} (h : AllU64 l) (hlen : l.length ≤ 1000000) {x : Int} (hx : 0 ≤ x ∧ x < totS l) (htt : totS l < 9223372036854775808) (k : Int → Int → Option R) : ∃ i, Owns l x i ∧ F100 R l x k = k (i : Int) 0 := by
  simp only [F100, p100]
  have := G100_eq' R h hlen hx.2 htt (fun x1 x2 => k x1 x2) (k 0 3) FUEL 0 (by omega) (by rw [FUEL_eq]; omega) (by rw [sumS_zero]; exact hx.1)
  rw [sumS_zero, Int.sub_zero] at this
  exact this
def ownN (l : List Int) (x : Int) : Nat := ((List.range l.length).find? (fun i => decide (sumS l i ≤ x ∧ x < sumS l (i + 1)))).getD 0
theorem ownN_eq {l : List Int} (h : AllU64 l) {x : Int} {i : Nat} (hi : Owns l x i) : ownN l x = i := by
  unfold ownN
  cases hf : (List.range l.length).find? (fun i => decide (sumS l i ≤ x ∧ x < sumS l (i + 1))) with
  | none =>
    have := List.find?_eq_none.1 hf i (by simpa using hi.1)
    simp only [decide_eq_true_eq] at this
    exact absurd hi.2 this
  | some j =>
    have h1 := List.find?_some hf
    have h2 := List.mem_of_find?_eq_some hf
    simp only [decide_eq_true_eq] at h1
    have hj : Owns l x j := ⟨by simpa using h2, h1⟩
    exact hj.uniq h hi
def leadR (l : List Int) (s : Src) (m : Int) : Int × Src × Int :=
  if totS l < 9223372036854775808 then (if totS l = 0 then (0, s, 10) else if (drawR s (totS l) m).2.2 = 0 then ((ownN l (drawR s (totS l) m).1 : Int), (drawR s (totS l) m).2.1, 0) else (0, (drawR s (totS l) m).2.1, (drawR s (totS l) m).2.2)) else (0, s, 11)
theorem drawF_nonneg {n : Int} : ∀ (m : Nat) (s : Src), 0 ≤ (drawF n m s).1
  | 0, s => Int.le_refl _
  | m + 1, s => by
    simp only [drawF]
    split
    · split
      · rename_i h _
        obtain ⟨_, _, _, g⟩ := takeR_zero h
        rw [g]
        exact (takeV_range s (atS s) _).1
      · exact drawF_nonneg m _
    · exact Int.le_refl _
theorem draw_below {s : Src} {n m : Int} (h : (drawR s n m).2.2 = 0) : 0 ≤ (drawR s n m).1 ∧ (drawR s n m).1 < n := by
  unfold drawR at h ⊢
  split at h
  · rename_i hc
    rw [if_pos hc]
    obtain ⟨j, _, _, h3, _⟩ := drawF_ok _ _ h
    exact ⟨drawF_nonneg _ _, h3⟩
  · simp at h
theorem F56_eq (R : Type) {l : List Int} (h : AllU64 l) (hlen : l.length ≤ 200) (ht : totS l < 9223372036854775808) {s : Src} (hs : SOK s) (m : Int) (k : Int → Src → Int → Option R) : F56 R (treeS l, ()) s m k = k (leadR l s m).1 (leadR l s m).2.1 (leadR l s m).2.2 := by
  simp only [F56, p56]
  rw [F96_eq R h ht (by omega)]
  have hnn := sumS_nonneg h l.length
  unfold leadR
  rw [if_pos ht]
  by_cases h0 : totS l = 0
  · have e : (totS l == 0) = true := by simp [h0]
    rw [if_pos h0]
    simp only [e]
  · have e : (totS l == 0) = false := by simp [h0]
    rw [if_neg h0]
    simp only [e]
    rw [F42_eq R hs (show U64 (totS l) from by unfold U64; exact ⟨hnn, by omega⟩)]
    by_cases he : (drawR s (totS l) m).2.2 = 0
    · have e1 : ((drawR s (totS l) m).2.2 != 0) = false := by simp [he]
      rw [if_pos he]
      simp only [e1]
      obtain ⟨i, hi, g⟩ := F97_own R h ht (by omega) (draw_below he) (fun y7 y8 => k y7 (drawR s (totS l) m).2.1 y8)
      rw [g, ownN_eq h hi]
    · have e1 : ((drawR s (totS l) m).2.2 != 0) = true := by simp [he]
      rw [if_neg he]
      simp only [e1]
theorem F60_eq' (R : Type) {l : List Int} (h : AllU64 l) (hlen : l.length ≤ 200) {s : Src} (hs : SOK s) (m : Int) (k : Int → Src → Int → Option R) : F60 R l s m k = k (leadR l s m).1 (leadR l s m).2.1 (leadR l s m).2.2 := by
  simp only [F60, p60]
  rw [F52_eq' R h (by omega)]
  have hnn := sumS_nonneg h l.length
  unfold leadR
  by_cases ht : totS l < 9223372036854775808
  · rw [if_pos ht, if_pos ht]
    simp only [Bool.not_true]
    by_cases h0 : totS l = 0
    · have e : (totS l == 0) = true := by simp [h0]
      rw [if_pos h0]
      simp only [e]
    · have e : (totS l == 0) = false := by simp [h0]
      rw [if_neg h0]
      simp only [e]
      rw [F46_eq R hs (show U64 (totS l) from by unfold U64; exact ⟨hnn, by omega⟩)]
      by_cases he : (drawR s (totS l) m).2.2 = 0
      · have e1 : ((drawR s (totS l) m).2.2 != 0) = false := by simp [he]
        rw [if_pos he]
        simp only [e1]
        obtain ⟨i, hi, g⟩ := F100_own R h (by omega) (draw_below he) ht (fun y8 _ => k y8 (drawR s (totS l) m).2.1 0)
        rw [g, ownN_eq h hi]
      · have e1 : ((drawR s (totS l) m).2.2 != 0) = true := by simp [he]
        rw [if_neg he]
        simp only [e1]
  · rw [if_neg ht, if_neg ht]
    simp only [Bool.not_false]
end Go.PG
namespace Go.PG
theorem up_ok {c : Nat} (h1 : 1 ≤ c) (h2 : c ≤ 400) : c + lowN c - lowN (c + lowN c) ≤ c - lowN c := by
  have hchk : ((List.range' 1 400).all fun c => decide (c + lowN c - lowN (c + lowN c) ≤ c - lowN c)) = true := by kernel_rfl
  exact of_decide_eq_true (List.all_eq_true.1 hchk c (by rw [List.mem_range']; exact ⟨c - 1, by omega, by omega⟩))
theorem skip_check : ((List.range' 1 200).all fun c => (List.range (lowN c - 1)).all fun d => decide (c ≤ c + d + 1 - lowN (c + d + 1))) = true := by kernel_rfl
theorem skip_ok {c d : Nat} (h1 : 1 ≤ c) (h2 : c ≤ 200) (hd : d + 1 < lowN c) : c ≤ c + d + 1 - lowN (c + d + 1) := by
  have := List.all_eq_true.1 skip_check c (by rw [List.mem_range']; exact ⟨c - 1, by omega, by omega⟩)
  exact of_decide_eq_true (List.all_eq_true.1 this d (by rw [List.mem_range]; omega))
theorem G55_eq (R : Type) {l : List Int} (h : AllU64 l) (ht : totS l < 9223372036854775808) (hlen : l.length ≤ 200) (k0 : List Int → Option R) : ∀ (m i : Nat), i ≤ l.length → i < m →
    G55_3 m R (i : Int) (partT l i) k0 = k0 l
  | 0, i, _, h => by omega
  | m + 1, 0, h1, h2 => by
    simp only [G55_3, p55_3]
    have hd : decide (((0 : Nat) : Int) > 0) = false := by simp
    simp only [hd]
    rw [partT_zero]
  | m + 1, i + 1, h1, h2 => by
    simp only [G55_3, p55_3, partT_len]
    have hd : decide (((i + 1 : Nat) : Int) > 0) = true := decide_eq_true (by omega)
    have hlo := low_ok (n := i + 1) (by omega) (by omega)
    simp only [hd]
    rw [F93_eq R (by omega) (by omega), wrap_i64 (n := ((i + 1 : Nat) : Int) + (lowN (i + 1) : Int)) (by omega) (by omega), wrap_i64 (n := ((i + 1 : Nat) : Int) - 1) (by omega) (by omega), show ((i + 1 : Nat) : Int) - 1 = (i : Int) by omega]
    have keep : ∀ q, q + 1 ≠ i + 1 + lowN (i + 1) → partN l (i + 1) q = partN l i q := fun q hq => by
      unfold partN
      simp only [lastE]
      rw [if_neg (by omega)]
    by_cases hup : i + 1 + lowN (i + 1) ≤ l.length
    · have hd2 : decide (((i + 1 : Nat) : Int) + (lowN (i + 1) : Int) ≤ (l.length : Int)) = true := decide_eq_true (by omega)
      rw [wrap_i64 (n := ((i + 1 : Nat) : Int) + (lowN (i + 1) : Int) - 1) (by omega) (by omega), show ((i + 1 : Nat) : Int) + (lowN (i + 1) : Int) - 1 = ((i + lowN (i + 1) : Nat) : Int) by omega]
      have hb1 : bnd ((i + lowN (i + 1) : Nat) : Int) (l.length : Int) = true := by unfold bnd; simp; omega
      have hb2 : bnd (i : Int) (l.length : Int) = true := by unfold bnd; simp; omega
      simp only [hd2, hb1, hb2, Int.toNat_natCast]
      rw [partT_get (by omega), partT_get (by omega)]
      have q1 : partN l (i + 1) i = nodeS l i := partN_done (by omega) (by omega) (by omega) (by omega)
      have qA := lastA (c := i + 1) (by omega) (by omega)
      rw [Nat.add_sub_cancel] at qA
      have q2 : partN l (i + 1) (i + lowN (i + 1)) - nodeS l i = partN l i (i + lowN (i + 1)) := by
        unfold partN nodeS
        rw [show i + lowN (i + 1) + 1 = i + 1 + lowN (i + 1) by omega, qA]
        simp only [lastE, if_true]
        omega
      have q3 : 0 ≤ partN l i (i + lowN (i + 1)) ∧ partN l i (i + lowN (i + 1)) < 18446744073709551616 := by
        unfold partN
        rw [show i + lowN (i + 1) + 1 = i + 1 + lowN (i + 1) by omega, qA]
        have a1 := sumS_tot h (i + 1 - lowN (i + 1))
        have a2 := sumS_nonneg h (i + 1 + lowN (i + 1) - lowN (i + 1 + lowN (i + 1)))
        have a3 := getD_all h u64_0 (i + lowN (i + 1))
        have a4 : sumS l (i + 1 + lowN (i + 1) - lowN (i + 1 + lowN (i + 1))) ≤ sumS l (i + 1 - lowN (i + 1)) := sumS_le h (up_ok (by omega) (by omega))
        have a5 := sumS_succ (l := l) (i := i + lowN (i + 1)) (by omega)
        have a6 := sumS_tot h (i + lowN (i + 1) + 1)
        have a7 := sumS_le h (a := i + 1 - lowN (i + 1)) (b := i + lowN (i + 1)) (by omega)
        unfold U64 at a3
        omega
      rw [q1, q2, wrap_u64 (by omega) (by omega)]
      have e : (partT l (i + 1)).set (i + lowN (i + 1)) (partN l i (i + lowN (i + 1))) = partT l i := by
        apply List.ext_getElem?
        intro q
        unfold partT
        rw [List.getElem?_set, List.getElem?_map, List.getElem?_map]
        simp only [List.length_map, List.length_range]
        by_cases hq : q < l.length
        · rw [List.getElem?_range hq]
          by_cases eq : i + lowN (i + 1) = q
          · subst eq
            rw [if_pos rfl, if_pos hq]; rfl
          · rw [if_neg eq]
            simp only [Option.map_some]
            rw [keep q (by omega)]
        · rw [List.getElem?_eq_none (by simp; omega), if_neg (by omega)]
          rfl
      rw [e]
      exact G55_eq R h ht hlen k0 m i (by omega) (by omega)
    · have hd2 : decide (((i + 1 : Nat) : Int) + (lowN (i + 1) : Int) ≤ (l.length : Int)) = false := decide_eq_false (by omega)
      simp only [hd2]
      have e : partT l (i + 1) = partT l i := by
        unfold partT
        refine List.map_congr_left (fun q hq => ?_)
        have hq' : q < l.length := by simpa using hq
        rw [keep q (by omega)]
      rw [e]
      exact G55_eq R h ht hlen k0 m i (by omega) (by omega)
theorem F55_eq (R : Type) {l : List Int} (h : AllU64 l) (ht : totS l < 9223372036854775808) (hlen : l.length ≤ 200) (k : List Int → Option R) : F55 R (treeS l, ()) k = k l := by
  simp only [F55, p55, F92]
  have hc : decide (List.length ([] : List Int) + l.length ≤ 17592186044416) = true := by simp; omega
  simp only [treeS_len, hc]
  have := G55_eq R h ht hlen (fun x3 => k x3) FUEL l.length (Nat.le_refl _) (by rw [FUEL_eq]; omega)
  rw [partT_done (by omega)] at this
  exact this
theorem F127_eq (R : Type) {l : List Int} (h : AllU64 l) (ht : totS l < 9223372036854775808) (hlen : l.length ≤ 500) {n : Nat} (hn : n ≤ l.length) (k : Int → Option R) : F127 R (treeS l, ()) (n : Int) k = k (sumS l n) := by
  simp only [F127, p127]
  have := G127_eq R h ht hlen (fun x1 => k x1) n hn FUEL n (Nat.le_refl _) (by rw [FUEL_eq]; omega)
  rw [Int.sub_self] at this
  exact this
theorem F98_eq (R : Type) {l : List Int} (h : AllU64 l) (ht : totS l < 9223372036854775808) (hlen : l.length ≤ 500) {i : Nat} (hi : i < l.length) (k : Int → Int → Option R) : F98 R (treeS l, ()) (i : Int) k = k (l.getD i 0) 0 := by
  simp only [F98, p98, F128, p128, treeS_len]
  have d1 : decide ((i : Int) < 0) = false := decide_eq_false (by omega)
  have d2 : decide ((i : Int) ≥ (l.length : Int)) = false := decide_eq_false (by omega)
  simp only [d1, d2]
  have hs := sumS_succ hi
  have h0 := getD_all h u64_0 i
  unfold U64 at h0
  rw [wrap_i64 (n := (i : Int) + 1) (by omega) (by omega), show (i : Int) + 1 = ((i + 1 : Nat) : Int) by omega, F127_eq R h ht hlen hi, F127_eq R h ht hlen (by omega), show sumS l (i + 1) - sumS l i = l.getD i 0 by omega, wrap_u64 (by omega) (by omega)]
theorem sum_set {l : List Int} {i : Nat} (hi : i < l.length) (v : Int) : ∀ n : Nat, n ≤ l.length → sumS (l.set i v) n = sumS l n + (if i < n then v - l.getD i 0 else 0)
  | 0, _ => by simp [sumS_zero]
  | n + 1, h => by
    have ih := sum_set hi v n (by omega)
    rw [sumS_succ (l := l.set i v) (by rw [List.length_set]; omega), sumS_succ (l := l) (by omega), ih]
    by_cases e : i = n
    · subst e
      have e1 : (l.set i v).getD i 0 = v := by simp [List.getD_eq_getElem?_getD, hi]
      rw [e1, if_neg (by omega), if_pos (by omega)]
      omega
    · have e1 : (l.set i v).getD n 0 = l.getD n 0 := by simp [List.getD_eq_getElem?_getD, List.getElem?_set, e]
      rw [e1]
      by_cases e2 : i < n
      · rw [if_pos e2, if_pos (by omega)]; omega
      · rw [if_neg e2, if_neg (by omega)]; omega
theorem AllU64.set0 {l : List Int} (h : AllU64 l) (i : Nat) : AllU64 (l.set i 0) := fun x hx => by
  rcases List.mem_or_eq_of_mem_set hx with hx | hx
  · exact h x hx
  · rw [hx]; exact u64_0
theorem tot_set {l : List Int} {i : Nat} (hi : i < l.length) : totS (l.set i 0) = totS l - l.getD i 0 := by
  have := sum_set hi 0 l.length (Nat.le_refl _)
  rw [if_pos hi] at this
  have e : totS (l.set i 0) = sumS (l.set i 0) l.length := by unfold totS; rw [List.length_set]
  rw [e, this]
  show _ = sumS l l.length - _
  omega
def setN (l : List Int) (i c q : Nat) : Int := nodeS l q - (if q + 1 < c ∧ q + 1 - lowN (q + 1) ≤ i ∧ i < q + 1 then l.getD i 0 else 0)
def setT (l : List Int) (i c : Nat) : List Int := (List.range l.length).map (setN l i c)
theorem setT_len (l : List Int) (i c : Nat) : (setT l i c).length = l.length := by simp [setT]
theorem setT_get {l : List Int} {i c q : Nat} (h : q < l.length) : (setT l i c).getD q 0 = setN l i c q := by simp [setT, h]
theorem setT_start (l : List Int) (i : Nat) : setT l i (i + 1) = treeS l := by
  unfold setT treeS setN
  refine List.map_congr_left (fun q _ => ?_)
  rw [if_neg (by omega)]; omega
theorem setT_done {l : List Int} {i c : Nat} (hi : i < l.length) (hc : l.length < c) : setT l i c = treeS (l.set i 0) := by
  unfold setT treeS
  rw [List.length_set]
  refine List.map_congr_left (fun q hq => ?_)
  have hq' : q < l.length := by simpa using hq
  unfold setN nodeS
  rw [sum_set hi 0 (q + 1) (by omega), sum_set hi 0 (q + 1 - lowN (q + 1)) (by omega)]
  by_cases c1 : q + 1 - lowN (q + 1) ≤ i ∧ i < q + 1
  · rw [if_pos ⟨by omega, c1⟩, if_pos c1.2, if_neg (by omega)]; omega
  · rw [if_neg (fun hh => c1 hh.2)]
    by_cases c2 : i < q + 1
    · rw [if_pos c2, if_pos (by omega)]; omega
    · rw [if_neg c2, if_neg (by omega)]; omega
theorem G57_eq (R : Type) {l : List Int} (h : AllU64 l) (ht : totS l < 9223372036854775808) (hlen : l.length ≤ 200) {i : Nat} (hi : i < l.length) (x4 : List Int × Unit) (k0 : (List Int × Unit) → List Int → Option R) : ∀ (m c : Nat), 1 ≤ c → i < c → c - lowN c ≤ i → c ≤ 400 → 401 - c < m →
    G57_9 m R 0 (l.getD i 0) (c : Int) x4 (setT l i c) k0 = k0 x4 (treeS (l.set i 0))
  | 0, _, _, _, _, _, hh => by omega
  | m + 1, c, h1, h2, h3, h4, h5 => by
    simp only [G57_9, p57_9, setT_len]
    by_cases hc : c ≤ l.length
    · have hd : decide ((c : Int) ≤ (l.length : Int)) = true := decide_eq_true (by omega)
      simp only [hd]
      have hlo := low_ok (n := c) h1 (by omega)
      rw [wrap_i64 (n := (c : Int) - 1) (by omega) (by omega), show (c : Int) - 1 = ((c - 1 : Nat) : Int) by omega]
      have hb2 : bnd ((c - 1 : Nat) : Int) (l.length : Int) = true := by unfold bnd; simp; omega
      simp only [hb2, Int.toNat_natCast]
      rw [setT_get (by omega)]
      have v : setN l i c (c - 1) = nodeS l (c - 1) := by
        unfold setN
        rw [if_neg (by omega)]; omega
      rw [v]
      have hn := node_range h ht (c - 1)
      have h0 := (getD_all h u64_0 i).1
      have hge : l.getD i 0 ≤ nodeS l (c - 1) := by
        unfold nodeS
        rw [show c - 1 + 1 = c by omega]
        have a1 := sumS_le h h3
        have a2 := sumS_succ hi
        have a3 := sumS_le h (show i + 1 ≤ c by omega)
        omega
      rw [wrap_u64 (n := nodeS l (c - 1) - l.getD i 0) (by omega) (by omega), Int.add_zero, wrap_u64 (n := nodeS l (c - 1) - l.getD i 0) (by omega) (by omega), F93_eq R h1 (by omega), wrap_i64 (n := (c : Int) + (lowN c : Int)) (by omega) (by omega), show (c : Int) + (lowN c : Int) = ((c + lowN c : Nat) : Int) by omega]
      have e : (setT l i c).set (c - 1) (nodeS l (c - 1) - l.getD i 0) = setT l i (c + lowN c) := by
        apply List.ext_getElem?
        intro q
        unfold setT
        rw [List.getElem?_set, List.getElem?_map, List.getElem?_map]
        simp only [List.length_map, List.length_range]
        by_cases hq : q < l.length
        · rw [List.getElem?_range hq]
          by_cases eq : c - 1 = q
          · subst eq
            rw [if_pos rfl, if_pos hq]
            simp only [Option.map_some]
            unfold setN
            rw [show c - 1 + 1 = c by omega, if_pos (by omega)]
          · rw [if_neg eq]
            simp only [Option.map_some]
            unfold setN
            congr 2
            by_cases q1 : q + 1 < c
            · have a : q + 1 < c + lowN c := by omega
              simp [q1, a]
            · have n1 : ¬ (q + 1 < c ∧ q + 1 - lowN (q + 1) ≤ i ∧ i < q + 1) := fun hh => q1 hh.1
              rw [if_neg n1]
              by_cases q2 : q + 1 < c + lowN c
              · have hsk := skip_ok (c := c) (d := q - c) h1 (by omega) (by omega)
                rw [show c + (q - c) + 1 = q + 1 by omega] at hsk
                rw [if_neg (by omega)]
              · rw [if_neg (fun hh => q2 hh.1)]
        · rw [List.getElem?_eq_none (by simp; omega), if_neg (by omega)]
          rfl
      rw [e]
      have hup := up_ok (c := c) h1 (by omega)
      exact G57_eq R h ht hlen hi x4 k0 m (c + lowN c) (by omega) (by omega) (by omega) (by omega) (by omega)
    · have hd : decide ((c : Int) ≤ (l.length : Int)) = false := decide_eq_false (by omega)
      simp only [hd]
      rw [setT_done hi (by omega)]
theorem F57_eq (R : Type) {l : List Int} (h : AllU64 l) (ht : totS l < 9223372036854775808) (hlen : l.length ≤ 200) {i : Nat} (hi : i < l.length) (k : (List Int × Unit) → Int → Option R) : F57 R (treeS l, ()) (i : Int) 0 k = k (treeS (l.set i 0), ()) 0 := by
  simp only [F57, p57, F92]
  rw [F98_eq R h ht (by omega) hi]
  have n0 : ((0 : Int) != 0) = false := rfl
  simp only [n0]
  rw [F96_eq R h ht (by omega)]
  have h0 := (getD_all h u64_0 i).1
  have hs := sumS_succ hi
  have ha := sumS_tot h (i + 1)
  have hz := sumS_nonneg h i
  rw [wrap_u64 (n := totS l - l.getD i 0) (by omega) (by omega), F99_eq R (by omega) u64_0, if_pos (by omega)]
  simp only [Bool.not_true]
  have hc : decide (List.length ([] : List Int) + (treeS l).length ≤ 17592186044416) = true := by rw [treeS_len]; simp; omega
  simp only [hc]
  rw [wrap_i64 (n := (i : Int) + 1) (by omega) (by omega), show (i : Int) + 1 = ((i + 1 : Nat) : Int) by omega]
  have hlo := low_ok (n := i + 1) (by omega) (by omega)
  have := G57_eq R h ht hlen hi ([], ()) (fun x10 x11 => k (x11, ()) 0) FUEL (i + 1) (by omega) (by omega) (by omega) (by omega) (by rw [FUEL_eq]; omega)
  rw [setT_start] at this
  exact this
end Go.PG
namespace Go.PG
def posN (l : List Int) (i : Nat) : Nat := ((l.take i).filter fun x => decide (x > 0)).length
def posS (l : List Int) : Int := (posN l l.length : Int)
theorem posN_succ {l : List Int} {i : Nat} (h : i < l.length) : posN l (i + 1) = posN l i + (if l.getD i 0 > 0 then 1 else 0) := by
  unfold posN
  rw [List.take_succ_eq_append_getElem h, List.filter_append, List.length_append]
  have : l.getD i 0 = l[i] := by simp [h]
  rw [this]
  by_cases e : l[i] > 0
  · rw [if_pos e]; simp [List.filter, e]
  · rw [if_neg e]; simp [List.filter, e]
theorem posN_le (l : List Int) (i : Nat) : posN l i ≤ l.length := by
  unfold posN
  have := List.length_filter_le (fun x => decide (x > 0)) (l.take i)
  have : (l.take i).length ≤ l.length := by simp; omega
  omega
theorem G59_eq' (R : Type) {l : List Int} (hlen : l.length ≤ 1000000) (k0 : Int → Option R) : ∀ (m i : Nat), i ≤ l.length → l.length - i < m →
    G59_3 m R l (posN l i : Int) (i : Int) k0 = k0 (posS l)
  | 0, i, _, h => by omega
  | m + 1, i, h1, h2 => by
    simp only [G59_3, p59_3]
    by_cases hi : i < l.length
    · have hd : decide ((i : Int) < (l.length : Int)) = true := decide_eq_true (by omega)
      have hbn : bnd (i : Int) (l.length : Int) = true := by unfold bnd; simp; omega
      simp only [hd, hbn, Int.toNat_natCast]
      have hs := posN_succ hi
      have hle := posN_le l i
      have e : (i : Int) + 1 = ((i + 1 : Nat) : Int) := by omega
      by_cases hp : l.getD i 0 > 0
      · simp only [decide_eq_true hp]
        rw [if_pos hp] at hs
        rw [wrap_i64 (n := (posN l i : Int) + 1) (by omega) (by omega), wrap_i64 (n := (i : Int) + 1) (by omega) (by omega), e, show (posN l i : Int) + 1 = ((posN l (i + 1) : Nat) : Int) by omega]
        exact G59_eq' R hlen k0 m (i + 1) (by omega) (by omega)
      · simp only [decide_eq_false hp]
        rw [if_neg hp] at hs
        rw [wrap_i64 (n := (i : Int) + 1) (by omega) (by omega), e, show posN l i = posN l (i + 1) by omega]
        exact G59_eq' R hlen k0 m (i + 1) (by omega) (by omega)
    · have : i = l.length := by omega
      subst this
      have hd : decide ((l.length : Int) < (l.length : Int)) = false := by simp
      simp only [hd]
      rfl
theorem F59_eq' (R : Type) {l : List Int} (hlen : l.length ≤ 1000000) (k : Int → Option R) : F59 R l k = k (posS l) := by
  simp only [F59, p59]
  exact G59_eq' R hlen (fun x1 => k x1) FUEL 0 (by omega) (by rw [FUEL_eq]; omega)
theorem G54_eq' (R : Type) {l : List Int} (hlen : l.length ≤ 1000000) (k0 : Int → Option R) : ∀ (m i : Nat), i ≤ l.length → l.length - i < m →
    G54_2 m R (posN l i : Int) l (l.length : Int) (i : Int) k0 = k0 (posS l)
  | 0, i, _, h => by omega
  | m + 1, i, h1, h2 => by
    simp only [G54_2, p54_2]
    by_cases hi : i < l.length
    · have hd : decide ((i : Int) < (l.length : Int)) = true := decide_eq_true (by omega)
      have hbn : bnd (i : Int) (l.length : Int) = true := by unfold bnd; simp; omega
      simp only [hd, hbn, Int.toNat_natCast]
      have hs := posN_succ hi
      have hle := posN_le l i
      have e : (i : Int) + 1 = ((i + 1 : Nat) : Int) := by omega
      by_cases hp : l.getD i 0 > 0
      · simp only [decide_eq_true hp]
        rw [if_pos hp] at hs
        rw [wrap_i64 (n := (posN l i : Int) + 1) (by omega) (by omega), wrap_i64 (n := (i : Int) + 1) (by omega) (by omega), e, show (posN l i : Int) + 1 = ((posN l (i + 1) : Nat) : Int) by omega]
        exact G54_eq' R hlen k0 m (i + 1) (by omega) (by omega)
      · simp only [decide_eq_false hp]
        rw [if_neg hp] at hs
        rw [wrap_i64 (n := (i : Int) + 1) (by omega) (by omega), e, show posN l i = posN l (i + 1) by omega]
        exact G54_eq' R hlen k0 m (i + 1) (by omega) (by omega)
    · have : i = l.length := by omega
      subst this
      have hd : decide ((l.length : Int) < (l.length : Int)) = false := by simp
      simp only [hd]
      rfl
theorem F54_eq' (R : Type) {l : List Int} (hlen : l.length ≤ 1000000) (k : Int → Option R) : F54 R l k = k (posS l) := by
  simp only [F54, p54]
  exact G54_eq' R hlen (fun x1 => k x1) FUEL 0 (by omega) (by rw [FUEL_eq]; omega)
theorem own_some {l : List Int} (h : AllU64 l) (hlen : l.length ≤ 200) (ht : totS l < 9223372036854775808) {x : Int} (hx : 0 ≤ x ∧ x < totS l) : ∃ i, Owns l x i ∧ ownN l x = i := by
  obtain ⟨i, hi, _⟩ := F97_own Unit h ht (by omega) hx (fun _ _ => none)
  exact ⟨i, hi, ownN_eq h hi⟩
theorem draw_src {s : Src} (hs : SOK s) {n m : Int} (h : (drawR s n m).2.2 = 0) : SOK (drawR s n m).2.1 ∧ atS s ≤ atS (drawR s n m).2.1 ∧ ∃ a, (drawR s n m).2.1 = setAt s a := by
  unfold drawR at h ⊢
  split at h
  · rename_i hc
    rw [if_pos hc]
    obtain ⟨j, _, _, _, j4, j5, _⟩ := drawF_ok _ _ h
    rw [j4]
    obtain ⟨_, _, l3⟩ := left_ok hs
    have l4 := l3 hc.1
    have hb := hs.bits
    have h5 : (0 : Int) ≤ (needS n : Int) * j := Int.mul_nonneg (by omega) (by omega)
    have h0 := hs.at_
    have hend : endS s < 18446744073709551616 := by
      rcases right_spec hc.1 with ⟨_, _, _, r⟩ | ⟨_, _, r⟩
      · rw [r]; unfold U64 at hb; exact hb.2
      · rw [r]; omega
    change U64 (atS s) at h0
    change atS s + leftS s = endS s at l4
    unfold U64 at h0
    exact ⟨hs.set (by unfold U64; omega), by rw [atS_set]; omega, _, rfl⟩
  · simp at h
theorem lead_ok {l : List Int} (h : AllU64 l) (hlen : l.length ≤ 200) {s : Src} (hs : SOK s) {m : Int} (he : (leadR l s m).2.2 = 0) : totS l < 9223372036854775808 ∧ totS l ≠ 0 ∧ (drawR s (totS l) m).2.2 = 0 ∧
    ∃ i : Nat, i < l.length ∧ 0 < l.getD i 0 ∧ (leadR l s m).1 = (i : Int) ∧ ownN l (drawR s (totS l) m).1 = i ∧ (leadR l s m).2.1 = (drawR s (totS l) m).2.1 ∧ SOK (leadR l s m).2.1 ∧ atS s ≤ atS (leadR l s m).2.1 := by
  unfold leadR at he ⊢
  by_cases ht : totS l < 9223372036854775808
  · rw [if_pos ht] at he ⊢
    by_cases h0 : totS l = 0
    · rw [if_pos h0] at he; exact absurd he (by show ¬ ((10 : Int) = 0); decide)
    · rw [if_neg h0] at he ⊢
      by_cases hd : (drawR s (totS l) m).2.2 = 0
      · rw [if_pos hd] at he ⊢
        obtain ⟨i, hi, e⟩ := own_some h hlen ht (draw_below hd)
        have h1 := sumS_succ hi.1
        have h2 := hi.2
        obtain ⟨s1, s2, _⟩ := draw_src hs hd
        exact ⟨ht, h0, hd, i, hi.1, by omega, by rw [e], e, rfl, s1, s2⟩
      · rw [if_neg hd] at he; exact absurd he hd
  · rw [if_neg ht] at he; exact absurd he (by show ¬ ((11 : Int) = 0); decide)
noncomputable def comF (m : Int) : Nat → List Int → Src → List Int → List Int × Src × Int
  | 0, _, s, mem => (mem, s, 0)
  | n + 1, l, s, mem => if (leadR l s m).2.2 = 0 then comF m n (l.set (leadR l s m).1.toNat 0) (leadR l s m).2.1 (mem ++ [(leadR l s m).1]) else ([], (leadR l s m).2.1, (leadR l s m).2.2)
theorem tot_drop {l : List Int} (h : AllU64 l) {i : Nat} (hi : i < l.length) : totS (l.set i 0) ≤ totS l := by
  rw [tot_set hi]
  have := (getD_all h u64_0 i).1
  omega
theorem G23_eq (R : Type) {c m : Int} (x6 : Src) (k0 : Int → Src → Option R) (k1 : Src → List Int → Src → Option R) (K : List Int → Src → Int → Option R) (h0 : ∀ e s, k0 e s = K [] s e) (h1 : ∀ s l, k1 s l x6 = K l s 0) :
    ∀ (n f : Nat) (l : List Int) (s : Src) (mem : List Int), AllU64 l → totS l < 9223372036854775808 → l.length ≤ 200 → SOK s → (mem.length : Int) + n = c → c ≤ 1000 → n < f → G23_5 f R c m (treeS l, ()) s mem x6 k0 k1 = K (comF m n l s mem).1 (comF m n l s mem).2.1 (comF m n l s mem).2.2
  | _, 0, _, _, _, _, _, _, _, _, _, hf => by omega
  | 0, f + 1, l, s, mem, h, ht, hl, hs, hc, hc1, hf => by
    simp only [G23_5, p23_5]
    have hd : decide ((mem.length : Int) < c) = false := decide_eq_false (by omega)
    simp only [hd]
    rw [h1]
    rfl
  | n + 1, f + 1, l, s, mem, h, ht, hl, hs, hc, hc1, hf => by
    simp only [G23_5, p23_5]
    have hd : decide ((mem.length : Int) < c) = true := decide_eq_true (by omega)
    simp only [hd]
    rw [F56_eq R h hl ht hs]
    by_cases he : (leadR l s m).2.2 = 0
    · obtain ⟨_, _, _, i, i1, _, i3, _, _, i6, _⟩ := lead_ok h hl hs he
      have e1 : ((leadR l s m).2.2 != 0) = false := by simp [he]
      have hcap : ∀ y : Int, decide (mem.length + List.length [y] ≤ 17592186044416) = true := fun y => by simp; omega
      simp only [e1, hcap]
      simp only [comF]
      rw [if_pos he, i3, F57_eq R h ht hl i1, Int.toNat_natCast]
      have n0 : ((0 : Int) != 0) = false := rfl
      simp only [n0]
      have hd := tot_drop h i1
      exact G23_eq R x6 k0 k1 K h0 h1 n f (l.set i 0) (leadR l s m).2.1 (mem ++ [(i : Int)]) (h.set0 i) (by omega) (by simpa using hl) i6 (by simp; omega) hc1 (by omega)
    · have e1 : ((leadR l s m).2.2 != 0) = true := by simp [he]
      simp only [e1, comF]
      rw [if_neg he, h0]
theorem G24_eq (R : Type) {c m : Int} (x4 : Src) (k0 : Int → Src → Option R) (k1 : Src → Src → List Int → Option R) (K : List Int → Src → Int → Option R) (h0 : ∀ e s, k0 e s = K [] s e) (h1 : ∀ s l, k1 s x4 l = K l s 0) :
    ∀ (n f : Nat) (l : List Int) (s : Src) (mem : List Int), AllU64 l → totS l < 9223372036854775808 → l.length ≤ 200 → SOK s → (mem.length : Int) + n = c → c ≤ 1000 → n < f → G24_7 f R c m s x4 l mem k0 k1 = K (comF m n l s mem).1 (comF m n l s mem).2.1 (comF m n l s mem).2.2
  | _, 0, _, _, _, _, _, _, _, _, _, hf => by omega
  | 0, f + 1, l, s, mem, h, ht, hl, hs, hc, hc1, hf => by
    simp only [G24_7, p24_7]
    have hd : decide ((mem.length : Int) < c) = false := decide_eq_false (by omega)
    simp only [hd]
    rw [h1]
    rfl
  | n + 1, f + 1, l, s, mem, h, ht, hl, hs, hc, hc1, hf => by
    simp only [G24_7, p24_7]
    have hd : decide ((mem.length : Int) < c) = true := decide_eq_true (by omega)
    simp only [hd]
    rw [F52_eq' R h (by omega), if_pos ht]
    simp only [Bool.not_true]
    have hnn : 0 ≤ totS l := sumS_nonneg h l.length
    by_cases hz : totS l = 0
    · have e : (totS l == 0) = true := by simp [hz]
      simp only [e]
      have hr : leadR l s m = (0, s, 10) := by unfold leadR; rw [if_pos ht, if_pos hz]
      simp only [comF, hr]
      rw [if_neg (by decide), h0]
    · have e : (totS l == 0) = false := by simp [hz]
      simp only [e]
      rw [F46_eq R hs (show U64 (totS l) from by unfold U64; exact ⟨hnn, by omega⟩)]
      by_cases he : (drawR s (totS l) m).2.2 = 0
      · have hle : leadR l s m = ((ownN l (drawR s (totS l) m).1 : Int), (drawR s (totS l) m).2.1, 0) := by unfold leadR; rw [if_pos ht, if_neg hz, if_pos he]
        have he' : (leadR l s m).2.2 = 0 := by rw [hle]
        obtain ⟨_, _, _, i, i1, _, i3, i4, i5, i6, _⟩ := lead_ok h hl hs he'
        have e1 : ((drawR s (totS l) m).2.2 != 0) = false := by simp [he]
        have hcap : ∀ y : Int, decide (mem.length + List.length [y] ≤ 17592186044416) = true := fun y => by simp; omega
        simp only [e1, hcap]
        obtain ⟨j, hj, g⟩ := F100_own R h (by omega) (draw_below he) ht (fun y20 y21 => (match (bnd y20 (List.length l : Int)) with
            | true => G24_7 f R c m (drawR s (totS l) m).2.1 x4 (List.set l (Int.toNat y20) (0 : Int)) (mem ++ [y20]) k0 k1
            | false => none))
        have ej : j = i := by rw [← ownN_eq h hj]; exact i4
        subst ej
        refine Eq.trans ?_ (g.trans ?_)
        · rfl
        have hb : bnd (j : Int) (l.length : Int) = true := by unfold bnd; simp; omega
        simp only [hb, Int.toNat_natCast, comF]
        rw [if_pos he', i3, Int.toNat_natCast, i5]
        have hd := tot_drop h i1
        rw [i5] at i6
        exact G24_eq R x4 k0 k1 K h0 h1 n f (l.set j 0) (drawR s (totS l) m).2.1 (mem ++ [(j : Int)]) (h.set0 j) (by omega) (by simpa using hl) i6 (by simp; omega) hc1 (by omega)
      · have hle : leadR l s m = (0, (drawR s (totS l) m).2.1, (drawR s (totS l) m).2.2) := by unfold leadR; rw [if_pos ht, if_neg hz, if_neg he]
        have e1 : ((drawR s (totS l) m).2.2 != 0) = true := by simp [he]
        simp only [e1, comF, hle]
        rw [if_neg he, h0]
noncomputable def comR (l : List Int) (c : Int) (s : Src) (m : Int) : List Int × Src × Int :=
  if 0 ≤ c ∧ c ≤ 256 ∧ rightS' s = true ∧ 0 < m ∧ m ≤ 64 then (if posS l < c then ([], s, 12) else comF m c.toNat l s []) else ([], s, 1)
theorem F53_eq (R : Type) {c m : Int} {s : Src} (hs : SOK s) (k : Bool → Option R) : F53 R c s m k = k (decide (0 ≤ c ∧ c ≤ 256 ∧ rightS' s = true ∧ 0 < m ∧ m ≤ 64)) := by
  simp only [F53, p53]
  rw [F95_eq R hs]
  by_cases h1 : c ≥ 0
  · simp only [decide_eq_true h1]
    by_cases h2 : c ≤ 256
    · simp only [decide_eq_true h2]
      cases h3 : rightS' s with
      | true =>
        by_cases h4 : m > 0
        · simp only [decide_eq_true h4]
          by_cases h5 : m ≤ 64
          · simp [h1, h2, h4, h5]
          · simp [h5]
        · have h4' : ¬ (0 < m) := h4
          simp [h4']
      | false => simp
    · simp [h2]
  · have h1' : ¬ (0 ≤ c) := h1
    simp [h1']
theorem F23_eq (R : Type) {l : List Int} (h : AllU64 l) (ht : totS l < 9223372036854775808) (hl : l.length ≤ 200) {s : Src} (hs : SOK s) (c m : Int) (k : List Int → Src → Int → Option R) : F23 R (treeS l, ()) c s m k = k (comR l c s m).1 (comR l c s m).2.1 (comR l c s m).2.2 := by
  simp only [F23, p23]
  rw [F53_eq R hs]
  unfold comR
  by_cases hm : 0 ≤ c ∧ c ≤ 256 ∧ rightS' s = true ∧ 0 < m ∧ m ≤ 64
  · rw [if_pos hm]
    simp only [decide_eq_true hm, Bool.not_true]
    rw [F55_eq R h ht hl, F54_eq' R (by omega)]
    by_cases hp : posS l < c
    · simp only [decide_eq_true hp, if_pos hp]
    · simp only [decide_eq_false hp, if_neg hp]
      exact G23_eq R _ _ _ k (fun e s => rfl) (fun s l => rfl) c.toNat FUEL l s [] h ht hl hs (by simp; omega) (by omega) (by rw [FUEL_eq]; omega)
  · rw [if_neg hm]
    simp only [decide_eq_false hm, Bool.not_false]
theorem F24_eq (R : Type) {l : List Int} (h : AllU64 l) (ht : totS l < 9223372036854775808) (hl : l.length ≤ 200) {s : Src} (hs : SOK s) (c m : Int) (k : List Int → Src → Int → Option R) : F24 R l c s m k = k (comR l c s m).1 (comR l c s m).2.1 (comR l c s m).2.2 := by
  simp only [F24, p24]
  unfold comR
  by_cases h1 : c < 0
  · simp only [decide_eq_true h1]; rw [if_neg (by omega)]
  simp only [decide_eq_false h1]
  by_cases h2 : c > 256
  · simp only [decide_eq_true h2]; rw [if_neg (by omega)]
  simp only [decide_eq_false h2]
  rw [F58_eq R hs]
  cases h3 : rightS' s with
  | false => simp only [Bool.not_false]; rw [if_neg (by simp)]
  | true =>
    simp only [Bool.not_true]
    by_cases h4 : m < 1
    · simp only [decide_eq_true h4]; rw [if_neg (by omega)]
    simp only [decide_eq_false h4]
    by_cases h5 : m > 64
    · simp only [decide_eq_true h5]; rw [if_neg (by omega)]
    simp only [decide_eq_false h5]
    rw [if_pos ⟨by omega, by omega, trivial, by omega, by omega⟩, F59_eq' R (by omega)]
    by_cases hp : posS l < c
    · simp only [decide_eq_true hp, if_pos hp]
    · simp only [decide_eq_false hp, if_neg hp]
      have hc : decide (List.length ([] : List Int) + l.length ≤ 17592186044416) = true := by simp; omega
      simp only [hc, List.nil_append]
      exact G24_eq R _ _ _ k (fun e s => rfl) (fun s l => rfl) c.toNat FUEL l s [] h ht hl hs (by simp; omega) (by omega) (by rw [FUEL_eq]; omega)
noncomputable def comL (l : List Int) (c : Int) (s : Src) (m : Int) : List Int × Src × Int := if totS l < 9223372036854775808 then comR l c s m else ([], s, 11)
theorem F19_eq (R : Type) {l : List Int} (h : AllU64 l) (hl : l.length ≤ 200) {s : Src} (hs : SOK s) (c m : Int) (k : List Int → Src → Int → Option R) : F19 R c s m l k = k (comL l c s m).1 (comL l c s m).2.1 (comL l c s m).2.2 := by
  simp only [F19, p19]
  rw [F50_eq' R h hl]
  unfold comL
  by_cases ht : totS l < 9223372036854775808
  · rw [if_pos ht, if_pos ht]
    have n0 : ((0 : Int) != 0) = false := rfl
    simp only [n0]
    rw [F23_eq R h ht hl hs]
  · rw [if_neg ht, if_neg ht]
    rfl
end Go.PG
namespace Go.PG
end Go.PG
namespace Go.PG
end Go.PG
namespace Go.PG
theorem and32 {x : Int} (hx : U64 x) : iand .u64 x 4294967295 = x % 4294967296 := by
  have := iand_mask hx 32 (by omega)
  simpa using this
theorem shr32 (x : Int) : ishr .u64 x 32 = x / 4294967296 := by
  unfold ishr
  rw [show (2 : Int) ^ (min (32 : Int).toNat IntKind.u64.bits) = 4294967296 by decide, Int.fdiv_eq_ediv_of_nonneg _ (by omega)]
theorem prod32 {a b : Int} (ha : 0 ≤ a ∧ a < 4294967296) (hb : 0 ≤ b ∧ b < 4294967296) : 0 ≤ a * b ∧ a * b ≤ 18446744065119617025 := by
  refine ⟨Int.mul_nonneg ha.1 hb.1, ?_⟩
  have : a * b ≤ 4294967295 * 4294967295 := Int.mul_le_mul (by omega) (by omega) hb.1 (by omega)
  omega
theorem F116_eq (R : Type) {a b : Int} (ha : U64 a) (hb : U64 b) (k : Int → Int → Option R) : F116 R a b k = k (a * b / 18446744073709551616) (IntKind.u64.wrap (a * b)) := by
  simp only [F116, p116]
  simp only [shr32]
  rw [and32 ha, and32 hb]
  unfold U64 at ha hb
  have hx0 : 0 ≤ a % 4294967296 ∧ a % 4294967296 < 4294967296 := by omega
  have hx1 : 0 ≤ a / 4294967296 ∧ a / 4294967296 < 4294967296 := by omega
  have hy0 : 0 ≤ b % 4294967296 ∧ b % 4294967296 < 4294967296 := by omega
  have hy1 : 0 ≤ b / 4294967296 ∧ b / 4294967296 < 4294967296 := by omega
  have h00 := prod32 hx0 hy0
  have h10 := prod32 hx1 hy0
  have h01 := prod32 hx0 hy1
  have h11 := prod32 hx1 hy1
  have hab : a * b = (a / 4294967296) * (b / 4294967296) * 18446744073709551616 + ((a / 4294967296) * (b % 4294967296) + (a % 4294967296) * (b / 4294967296)) * 4294967296 + (a % 4294967296) * (b % 4294967296) := by
    have e1 : a = a % 4294967296 + 4294967296 * (a / 4294967296) := (Int.emod_add_mul_ediv a 4294967296).symm
    have e2 : b = b % 4294967296 + 4294967296 * (b / 4294967296) := (Int.emod_add_mul_ediv b 4294967296).symm
    generalize a % 4294967296 = x0 at *
    generalize a / 4294967296 = x1 at *
    generalize b % 4294967296 = y0 at *
    generalize b / 4294967296 = y1 at *
    subst e1 e2
    rw [Int.mul_add, Int.add_mul, Int.add_mul, Int.mul_assoc 4294967296 x1 y0, Int.mul_left_comm x0 4294967296 y1, Int.mul_assoc 4294967296 x1, Int.mul_left_comm x1 4294967296 y1]
    omega
  generalize (a % 4294967296) * (b % 4294967296) = p00 at *
  generalize (a / 4294967296) * (b % 4294967296) = p10 at *
  generalize (a % 4294967296) * (b / 4294967296) = p01 at *
  generalize (a / 4294967296) * (b / 4294967296) = p11 at *
  rw [wrap_u64 (n := p00) (by omega) (by omega), wrap_u64 (n := p10) (by omega) (by omega), wrap_u64 (n := p01) (by omega) (by omega), wrap_u64 (n := p11) (by omega) (by omega)]
  rw [wrap_u64 (n := p10 + p00 / 4294967296) (by omega) (by omega), and32 (by unfold U64; omega)]
  rw [wrap_u64 (n := (p10 + p00 / 4294967296) % 4294967296 + p01) (by omega) (by omega)]
  rw [wrap_u64 (n := p11 + (p10 + p00 / 4294967296) / 4294967296) (by omega) (by omega)]
  rw [wrap_u64 (n := p11 + (p10 + p00 / 4294967296) / 4294967296 + ((p10 + p00 / 4294967296) % 4294967296 + p01) / 4294967296) (by omega) (by omega)]
  congr 1
  rw [hab]
  omega
theorem F79_eq (R : Type) {a b : Int} (ha : U64 a) (hb : U64 b) (k : Int → Bool → Option R) : F79 R a b k = (if a * b < 9223372036854775808 then k (a * b) true else k 0 false) := by
  simp only [F79, p79]
  rw [F116_eq R ha hb]
  simp only [F117, p117, F136, p136]
  have h0 : 0 ≤ a * b := Int.mul_nonneg ha.1 hb.1
  generalize a * b = p at *
  by_cases h1 : p < 9223372036854775808
  · have e1 : p / 18446744073709551616 = 0 := by omega
    have n0 : ((0 : Int) != 0) = false := rfl
    rw [if_pos h1, e1, wrap_u64 (by omega) (by omega)]
    simp only [n0, decide_eq_true h1, Bool.not_true]
  · rw [if_neg h1]
    by_cases h2 : p < 18446744073709551616
    · have e1 : p / 18446744073709551616 = 0 := by omega
      have n0 : ((0 : Int) != 0) = false := rfl
      rw [e1, wrap_u64 (by omega) (by omega)]
      simp only [n0, decide_eq_false h1, Bool.not_false]
    · have e1 : (p / 18446744073709551616 != 0) = true := by
        have : ¬ p / 18446744073709551616 = 0 := by omega
        simp [this]
      simp only [e1]
theorem F78_eq (R : Type) {a b : Int} (ha : U64 a) (hb : U64 b) (k : Int → Bool → Option R) : F78 R a b k = (if a * b < 9223372036854775808 then k (a * b) true else k 0 false) := by
  unfold U64 at ha hb
  simp only [F78, p78]
  by_cases h1 : a = 0
  · subst h1; simp
  have e1 : (a == 0) = false := by simp [h1]
  by_cases h2 : b = 0
  · subst h2; simp only [e1]; simp
  have e2 : (b == 0) = false := by simp [h2]
  have hq : (9223372036854775807 : Int).tdiv b = 9223372036854775807 / b := Int.tdiv_eq_ediv_of_nonneg (by omega)
  have hq1 : 0 ≤ 9223372036854775807 / b := Int.ediv_nonneg (by omega) (by omega)
  have hq2 : 9223372036854775807 / b ≤ 9223372036854775807 := Int.ediv_le_self _ (by omega)
  simp only [e1, e2, Bool.not_false]
  rw [hq, wrap_u64 hq1 (by omega)]
  have hkey : a ≤ 9223372036854775807 / b ↔ a * b ≤ 9223372036854775807 := Int.le_ediv_iff_mul_le (by omega)
  by_cases h3 : a * b < 9223372036854775808
  · have hd : decide (a > 9223372036854775807 / b) = false := decide_eq_false (by have := hkey.2 (by omega); omega)
    have h0 : 0 ≤ a * b := Int.mul_nonneg ha.1 hb.1
    rw [if_pos h3, wrap_u64 h0 (by omega)]
    simp only [hd]
  · have hd : decide (a > 9223372036854775807 / b) = true := decide_eq_true (by
      refine Classical.byContradiction fun hh => ?_
      have := hkey.1 (by omega)
      omega)
    rw [if_neg h3]
    simp only [hd]
abbrev CellA := Int × (Int × Unit)
abbrev TabA := Int × (List CellA × Unit)
def badC (t : TabA) (c : CellA) : Bool := decide (c.1 > t.1) || (decide (c.2.1 < 0) || decide (c.2.1 ≥ (t.2.1.length : Int)))
def rightT (t : TabA) : Bool := decide ((t.2.1.length : Int) * t.1 < 9223372036854775808) && (!((t.2.1.length : Int) == 0) && (!(t.1 == 0) && !(t.2.1.any (badC t))))
theorem F81_eq (R : Type) (c : CellA) (t : TabA) (k : Bool → TabA → Option R) : F81 R c t k = k (badC t c) t := by
  simp only [F81, p81, badC]
  cases decide (c.1 > t.1) with
  | true => rfl
  | false =>
    cases decide (c.2.1 < 0) with
    | true => rfl
    | false => rfl
theorem G119081_eq (R : Type) (t : TabA) (l : List CellA) (hlen : l.length ≤ 1000000) (k0 : Int → TabA → Option R) (k1 : TabA → Option R) (K : Bool → TabA → Option R) (h0 : ∀ i : Int, 0 ≤ i → k0 i t = K true t) (h1 : k1 t = K false t) :
    ∀ (m i : Nat), i ≤ l.length → l.length - i < m → G119081_2 m R l (l.length : Int) (i : Int) t k0 k1 = K ((l.drop i).any (badC t)) t
  | 0, i, _, h => by omega
  | m + 1, i, h2, h3 => by
    simp only [G119081_2, p119081_2]
    by_cases hi : i < l.length
    · have hd : decide ((i : Int) < (l.length : Int)) = true := by simpa using hi
      have hbn : bnd (i : Int) (l.length : Int) = true := by unfold bnd; simp; omega
      simp only [hd, hbn, Int.toNat_natCast]
      rw [F81_eq, List.drop_eq_getElem_cons hi, List.any_cons]
      have hg : l.getD i ((0 : Int), (0 : Int), ()) = l[i] := by simp [hi]
      rw [hg]
      cases hb : badC t l[i] with
      | true => simpa using h0 (i : Int) (by omega)
      | false =>
        simp only [Bool.false_or]
        rw [wrap_i64 (n := (i : Int) + 1) (by omega) (by omega)]
        exact G119081_eq R t l hlen k0 k1 K h0 h1 m (i + 1) (by omega) (by omega)
    · have : i = l.length := by omega
      subst this
      have hd : decide ((l.length : Int) < (l.length : Int)) = false := by simp
      simp only [hd]
      rw [h1, List.drop_length]
      rfl
theorem F41_eq (R : Type) {t : TabA} (ht : U64 t.1) (hlen : t.2.1.length ≤ 1000) (k : Bool → Option R) : F41 R t k = k (rightT t) := by
  simp only [F41, p41]
  rw [wrap_u64 (n := (t.2.1.length : Int)) (by omega) (by omega), F79_eq R (by unfold U64; omega) ht]
  unfold rightT
  by_cases h1 : (t.2.1.length : Int) * t.1 < 9223372036854775808
  · rw [if_pos h1]
    simp only [decide_eq_true h1, Bool.not_true, Bool.true_and]
    cases e1 : ((t.2.1.length : Int) == 0) with
    | true => rfl
    | false =>
      cases e2 : (t.1 == 0) with
      | true => rfl
      | false =>
        simp only [Bool.not_false, Bool.true_and, F81081, p81081, F119081, p119081]
        have := G119081_eq R t t.2.1 (by omega) (fun x2 x3 => k !decide (x2 ≥ 0)) (fun x4 => k !decide ((-1 : Int) ≥ 0)) (fun b _ => k !b) (fun i hi => by simp [hi]) (by rfl) FUEL 0 (by omega) (by rw [FUEL_eq]; omega)
        simpa using this
  · rw [if_neg h1]
    simp only [decide_eq_false h1, Bool.not_false, Bool.false_and]
theorem G45_eq (R : Type) (t : TabA) (hlen : t.2.1.length ≤ 1000000) (k0 : Bool → Option R) (k1 : Option R) :
    ∀ (m i : Nat), i ≤ t.2.1.length → t.2.1.length - i < m → G45_6 m R (i : Int) t k0 k1 = (if (t.2.1.drop i).any (badC t) = true then k0 false else k1)
  | 0, i, _, h => by omega
  | m + 1, i, h2, h3 => by
    simp only [G45_6, p45_6]
    by_cases hi : i < t.2.1.length
    · have hd : decide ((i : Int) < (t.2.1.length : Int)) = true := by simpa using hi
      have hbn : bnd (i : Int) (t.2.1.length : Int) = true := by unfold bnd; simp; omega
      have hg : t.2.1.getD i ((0 : Int), (0 : Int), ()) = t.2.1[i] := by simp [hi]
      have ih := G45_eq R t hlen k0 k1 m (i + 1) (by omega) (by omega)
      simp only [hd, hbn, Int.toNat_natCast]
      simp only [hg]
      rw [List.drop_eq_getElem_cons hi, List.any_cons]
      rw [wrap_i64 (n := (i : Int) + 1) (by omega) (by omega), show (i : Int) + 1 = ((i + 1 : Nat) : Int) by omega, ih]
      unfold badC
      cases decide (t.2.1[i].1 > t.1) with
      | true => simp
      | false =>
        cases decide (t.2.1[i].2.1 < 0) with
        | true => simp
        | false =>
          cases decide (t.2.1[i].2.1 ≥ (t.2.1.length : Int)) with
          | true => simp
          | false => rfl
    · have : i = t.2.1.length := by omega
      subst this
      have hd : decide ((t.2.1.length : Int) < (t.2.1.length : Int)) = false := by simp
      simp only [hd]
      rw [List.drop_length]
      rfl
theorem F45_eq (R : Type) {t : TabA} (ht : U64 t.1) (hlen : t.2.1.length ≤ 1000) (k : Bool → Option R) : F45 R t k = k (rightT t) := by
  simp only [F45, p45]
  rw [wrap_u64 (n := (t.2.1.length : Int)) (by omega) (by omega), F78_eq R (by unfold U64; omega) ht]
  have hg := G45_eq R t (by omega) (fun x7 => k x7) (k true) FUEL 0 (by omega) (by rw [FUEL_eq]; omega)
  rw [List.drop_zero, show (((0 : Nat) : Int)) = 0 from rfl] at hg
  unfold rightT
  by_cases h1 : (t.2.1.length : Int) * t.1 < 9223372036854775808
  · rw [if_pos h1]
    simp only [decide_eq_true h1, Bool.not_true, Bool.true_and]
    cases e1 : ((t.2.1.length : Int) == 0) with
    | true => rfl
    | false =>
      cases e2 : (t.1 == 0) with
      | true => rfl
      | false =>
        simp only [Bool.not_false, Bool.true_and]
        rw [hg]
        cases t.2.1.any (badC t) <;> rfl
  · rw [if_neg h1]
    simp only [decide_eq_false h1, Bool.not_false, Bool.false_and]
    cases e1 : ((t.2.1.length : Int) == 0) with
    | true => rfl
    | false =>
      cases e2 : (t.1 == 0) with
      | true => rfl
      | false => rfl
theorem right_T {t : TabA} (h : rightT t = true) : (t.2.1.length : Int) * t.1 < 9223372036854775808 ∧ t.2.1.length ≠ 0 ∧ t.1 ≠ 0 ∧ ∀ c ∈ t.2.1, c.1 ≤ t.1 ∧ 0 ≤ c.2.1 ∧ c.2.1 < (t.2.1.length : Int) := by
  simp only [rightT, Bool.and_eq_true, Bool.not_eq_true', decide_eq_true_eq] at h
  obtain ⟨h1, h2, h3, h4⟩ := h
  refine ⟨h1, fun e => by simp [e] at h2, fun e => by simp [e] at h3, fun c hc => ?_⟩
  have := List.any_eq_false.1 h4 c hc
  simp only [badC, Bool.not_eq_true, Bool.or_eq_false_iff, decide_eq_false_iff_not] at this
  omega
theorem F43_eq (R : Type) {t : TabA} (ht : U64 t.1) (hlen : t.2.1.length ≤ 1000) (k : Int → Option R) : F43 R t k = k (if rightT t = true then (t.2.1.length : Int) * t.1 else 0) := by
  simp only [F43, p43]
  rw [F41_eq R ht hlen]
  cases h : rightT t with
  | false => rfl
  | true =>
    obtain ⟨h1, h2, h3, h4⟩ := right_T h
    have h0 : 0 ≤ (t.2.1.length : Int) * t.1 := Int.mul_nonneg (by omega) ht.1
    simp only [Bool.not_true, if_true]
    rw [wrap_u64 (n := (t.2.1.length : Int)) (by omega) (by omega), wrap_u64 h0 (by omega)]
theorem F47_eq (R : Type) {t : TabA} (ht : U64 t.1) (hlen : t.2.1.length ≤ 1000) (k : Int → Option R) : F47 R t k = k (if rightT t = true then (t.2.1.length : Int) * t.1 else 0) := by
  simp only [F47, p47]
  rw [F45_eq R ht hlen]
  cases h : rightT t with
  | false => rfl
  | true =>
    obtain ⟨h1, h2, h3, h4⟩ := right_T h
    have h0 : 0 ≤ (t.2.1.length : Int) * t.1 := Int.mul_nonneg (by omega) ht.1
    simp only [Bool.not_true, if_true]
    rw [wrap_u64 (n := (t.2.1.length : Int)) (by omega) (by omega), wrap_u64 h0 (by omega)]
def ownT (t : TabA) (u : Int) : Int := if u % t.1 < (t.2.1.getD (u / t.1).toNat (0, 0, ())).1 then u / t.1 else (t.2.1.getD (u / t.1).toNat (0, 0, ())).2.1
theorem col_T {t : TabA} (ht : U64 t.1) (h : rightT t = true) {u : Int} (hu : 0 ≤ u ∧ u < (t.2.1.length : Int) * t.1) : 0 ≤ u / t.1 ∧ u / t.1 < (t.2.1.length : Int) ∧ 0 ≤ u % t.1 ∧ u % t.1 < t.1 := by
  obtain ⟨h1, h2, h3, h4⟩ := right_T h
  have hp : 0 < t.1 := by have := ht.1; omega
  exact ⟨Int.ediv_nonneg hu.1 (by omega), Int.ediv_lt_of_lt_mul hp hu.2, Int.emod_nonneg _ h3, Int.emod_lt_of_pos _ hp⟩
theorem F44_eq (R : Type) {t : TabA} (ht : U64 t.1) (hlen : t.2.1.length ≤ 1000) (h : rightT t = true) {u : Int} (hu : 0 ≤ u ∧ u < (t.2.1.length : Int) * t.1) (k : Int → Int → Option R) : F44 R t u k = k (ownT t u) 0 := by
  simp only [F44, p44]
  rw [F41_eq R ht hlen]
  simp only [h, Bool.not_true]
  rw [F43_eq R ht hlen]
  obtain ⟨h1, h2, h3, h4⟩ := right_T h
  obtain ⟨c1, c2, c3, c4⟩ := col_T ht h hu
  have e0 : (t.1 == 0) = false := by simp [h3]
  have ed : decide (u ≥ (t.2.1.length : Int) * t.1) = false := decide_eq_false (by omega)
  simp only [h, if_true, ed, e0, Bool.not_false]
  rw [Int.tdiv_eq_ediv_of_nonneg hu.1, Int.tmod_eq_emod_of_nonneg hu.1, wrap_u64 (n := u / t.1) c1 (by omega), wrap_i64 (n := u / t.1) (by omega) (by omega)]
  simp only [F85, p85, F122, p122]
  rw [F41_eq R ht hlen]
  have d1 : decide (u / t.1 < 0) = false := decide_eq_false (by omega)
  have d2 : decide (u / t.1 ≥ (t.2.1.length : Int)) = false := decide_eq_false (by omega)
  have d3 : decide (u % t.1 ≥ t.1) = false := decide_eq_false (by omega)
  have d4 : bnd (u / t.1) (t.2.1.length : Int) = true := by unfold bnd; simp; omega
  have n0 : ((0 : Int) != 0) = false := rfl
  simp only [h, Bool.not_true, d1, d2, n0, d3, d4]
  unfold ownT
  by_cases hc : u % t.1 < (t.2.1.getD (u / t.1).toNat (0, 0, ())).1
  · rw [if_pos hc]
    simp only [decide_eq_false (show ¬ (u % t.1 ≥ (t.2.1.getD (u / t.1).toNat (0, 0, ())).1) by omega)]
  · rw [if_neg hc]
    simp only [decide_eq_true (show (u % t.1 ≥ (t.2.1.getD (u / t.1).toNat (0, 0, ())).1) by omega)]
theorem F48_eq (R : Type) {t : TabA} (ht : U64 t.1) (hlen : t.2.1.length ≤ 1000) (h : rightT t = true) {u : Int} (hu : 0 ≤ u ∧ u < (t.2.1.length : Int) * t.1) (k : Int → Int → Option R) : F48 R t u k = k (ownT t u) 0 := by
  simp only [F48, p48]
  rw [F45_eq R ht hlen]
  simp only [h, Bool.not_true]
  rw [F47_eq R ht hlen]
  obtain ⟨h1, h2, h3, h4⟩ := right_T h
  obtain ⟨c1, c2, c3, c4⟩ := col_T ht h hu
  have e0 : (t.1 == 0) = false := by simp [h3]
  have ed : decide (u ≥ (t.2.1.length : Int) * t.1) = false := decide_eq_false (by omega)
  simp only [h, if_true, ed, e0, Bool.not_false]
  rw [Int.tdiv_eq_ediv_of_nonneg hu.1, Int.tmod_eq_emod_of_nonneg hu.1, wrap_u64 (n := u / t.1) c1 (by omega), wrap_i64 (n := u / t.1) (by omega) (by omega)]
  simp only [F87, p87]
  rw [F45_eq R ht hlen]
  have d1 : decide (u / t.1 < 0) = false := decide_eq_false (by omega)
  have d2 : decide (u / t.1 ≥ (t.2.1.length : Int)) = false := decide_eq_false (by omega)
  have d3 : decide (u % t.1 ≥ t.1) = false := decide_eq_false (by omega)
  have d4 : bnd (u / t.1) (t.2.1.length : Int) = true := by unfold bnd; simp; omega
  simp only [h, Bool.not_true, d1, d2, d3, d4]
  unfold ownT
  by_cases hc : u % t.1 < (t.2.1.getD (u / t.1).toNat (0, 0, ())).1
  · rw [if_pos hc]
    simp only [decide_eq_true hc]
  · rw [if_neg hc]
    simp only [decide_eq_false hc]
def pickR (t : TabA) (s : Src) (m : Int) : Int × Src × Int :=
  if rightT t = true then (if (drawR s ((t.2.1.length : Int) * t.1) m).2.2 = 0 then (ownT t (drawR s ((t.2.1.length : Int) * t.1) m).1, (drawR s ((t.2.1.length : Int) * t.1) m).2.1, 0)
    else (0, (drawR s ((t.2.1.length : Int) * t.1) m).2.1, (drawR s ((t.2.1.length : Int) * t.1) m).2.2)) else (0, s, 1)
theorem F12_eq (R : Type) {t : TabA} (ht : U64 t.1) (hlen : t.2.1.length ≤ 1000) {s : Src} (hs : SOK s) (m : Int) (k : Int → Src → Int → Option R) : F12 R t s m k = k (pickR t s m).1 (pickR t s m).2.1 (pickR t s m).2.2 := by
  simp only [F12, p12]
  rw [F41_eq R ht hlen]
  unfold pickR
  cases h : rightT t with
  | false => rfl
  | true =>
    obtain ⟨h1, h2, h3, h4⟩ := right_T h
    have h0 : 0 ≤ (t.2.1.length : Int) * t.1 := Int.mul_nonneg (by omega) ht.1
    simp only [Bool.not_true, if_true]
    rw [F43_eq R ht hlen]
    simp only [h, if_true]
    rw [F42_eq R hs (show U64 ((t.2.1.length : Int) * t.1) from by unfold U64; omega)]
    by_cases he : (drawR s ((t.2.1.length : Int) * t.1) m).2.2 = 0
    · have e1 : ((drawR s ((t.2.1.length : Int) * t.1) m).2.2 != 0) = false := by simp [he]
      rw [if_pos he]
      simp only [e1]
      rw [F44_eq R ht hlen h (draw_below he)]
    · have e1 : ((drawR s ((t.2.1.length : Int) * t.1) m).2.2 != 0) = true := by simp [he]
      rw [if_neg he]
      simp only [e1]
theorem F13_eq (R : Type) {t : TabA} (ht : U64 t.1) (hlen : t.2.1.length ≤ 1000) {s : Src} (hs : SOK s) (m : Int) (k : Int → Src → Int → Option R) : F13 R t s m k = k (pickR t s m).1 (pickR t s m).2.1 (pickR t s m).2.2 := by
  simp only [F13, p13]
  rw [F45_eq R ht hlen]
  unfold pickR
  cases h : rightT t with
  | false => rfl
  | true =>
    obtain ⟨h1, h2, h3, h4⟩ := right_T h
    have h0 : 0 ≤ (t.2.1.length : Int) * t.1 := Int.mul_nonneg (by omega) ht.1
    simp only [Bool.not_true, if_true]
    rw [F47_eq R ht hlen]
    simp only [h, if_true]
    rw [F46_eq R hs (show U64 ((t.2.1.length : Int) * t.1) from by unfold U64; omega)]
    by_cases he : (drawR s ((t.2.1.length : Int) * t.1) m).2.2 = 0
    · have e1 : ((drawR s ((t.2.1.length : Int) * t.1) m).2.2 != 0) = false := by simp [he]
      rw [if_pos he]
      simp only [e1]
      rw [F48_eq R ht hlen h (draw_below he)]
    · have e1 : ((drawR s ((t.2.1.length : Int) * t.1) m).2.2 != 0) = true := by simp [he]
      rw [if_neg he]
      simp only [e1]
end Go.PG
namespace Go.PG
def popI (l : List Int) : Int := l.getD (l.length - 1) 0
def cutL (l : List Int) : List Int := l.take (l.length - 1)
theorem pop_snoc (a : List Int) (x : Int) : popI (a ++ [x]) = x := by simp [popI]
theorem cut_snoc (a : List Int) (x : Int) : cutL (a ++ [x]) = a := by simp [cutL]
theorem snoc_of {l : List Int} (h : l.length ≠ 0) : ∃ a x, l = a ++ [x] := by
  rcases List.eq_nil_or_concat l with rfl | ⟨a, x, rfl⟩
  · simp at h
  · exact ⟨a, x, by simp⟩
def stepH (T : Int) (h : List Int) (i k : Int) : List Int := h.set k.toNat (h.getD k.toNat 0 - (T - h.getD i.toNat 0))
def runA (T : Int) : Nat → List Int → List CellA → List Int → List Int → List Int × (List CellA × (List Int × List Int))
  | 0, h, c, sm, la => (h, c, sm, la)
  | f + 1, h, c, sm, la => if sm.length = 0 ∨ la.length = 0 then (h, c, sm, la) else
      if (stepH T h (popI sm) (popI la)).getD (popI la).toNat 0 < T then runA T f (stepH T h (popI sm) (popI la)) (c.set (popI sm).toNat (h.getD (popI sm).toNat 0, popI la, ())) (cutL sm ++ [popI la]) (cutL la)
      else runA T f (stepH T h (popI sm) (popI la)) (c.set (popI sm).toNat (h.getD (popI sm).toNat 0, popI la, ())) (cutL sm) (cutL la ++ [popI la])
structure IA (T : Int) (n : Nat) (h : List Int) (c : List CellA) (sm la : List Int) : Prop where
  hl : h.length = n
  cl : c.length = n
  ix : ∀ x ∈ sm ++ la, 0 ≤ x ∧ x < (n : Int)
  nd : (sm ++ la).Nodup
  sml : ∀ x ∈ sm, 0 ≤ h.getD x.toNat 0 ∧ h.getD x.toNat 0 < T
  lrg : ∀ x ∈ la, T ≤ h.getD x.toNat 0 ∧ h.getD x.toNat 0 < 9223372036854775808
theorem getD_set_ne' (h : List Int) {i j : Nat} (v : Int) (hij : i ≠ j) : (h.set i v).getD j 0 = h.getD j 0 := by
  simp [List.getD_eq_getElem?_getD, List.getElem?_set, hij]
theorem getD_set_eq' (h : List Int) {i : Nat} (v : Int) (hi : i < h.length) : (h.set i v).getD i 0 = v := by
  simp [List.getD_eq_getElem?_getD, hi]
theorem perm1 (s0 l0 : List Int) (i k : Int) : ((s0 ++ [i]) ++ (l0 ++ [k])).Perm (i :: ((s0 ++ [k]) ++ l0)) := by
  rw [List.append_assoc, List.append_assoc]
  refine List.perm_middle.trans (.cons i (List.Perm.append_left s0 ?_))
  exact (List.perm_append_comm : (l0 ++ [k]).Perm ([k] ++ l0))
theorem perm2 (s0 l0 : List Int) (i k : Int) : ((s0 ++ [i]) ++ (l0 ++ [k])).Perm (i :: (s0 ++ (l0 ++ [k]))) := by
  rw [List.append_assoc]
  exact List.perm_middle
theorem IA.facts {T : Int} {n : Nat} {h : List Int} {c : List CellA} {s0 l0 : List Int} {i k : Int} (hI : IA T n h c (s0 ++ [i]) (l0 ++ [k])) :
    (0 ≤ i ∧ i < (n : Int)) ∧ (0 ≤ k ∧ k < (n : Int)) ∧ i ≠ k ∧ (∀ x ∈ s0, x ≠ i ∧ x ≠ k ∧ 0 ≤ x) ∧ (∀ x ∈ l0, x ≠ i ∧ x ≠ k ∧ 0 ≤ x) := by
  have hn := (perm1 s0 l0 i k).nodup_iff.1 hI.nd
  rw [List.nodup_cons] at hn
  obtain ⟨h1, h2⟩ := hn
  have h3 : (k :: (s0 ++ l0)).Nodup := by
    rw [List.append_assoc] at h2
    exact (List.perm_middle (l₁ := s0) (l₂ := l0) (a := k)).nodup_iff.1 h2
  rw [List.nodup_cons] at h3
  have hm : ∀ x, x ∈ s0 ∨ x ∈ l0 → x ≠ i ∧ x ≠ k ∧ 0 ≤ x := fun x hx => by
    refine ⟨fun e => h1 ?_, fun e => h3.1 ?_, (hI.ix x ?_).1⟩
    · subst e; simp; rcases hx with hx | hx <;> simp [hx]
    · subst e; simpa using hx
    · simp; rcases hx with hx | hx <;> simp [hx]
  refine ⟨hI.ix i (by simp), hI.ix k (by simp), fun e => h1 ?_, fun x hx => hm x (.inl hx), fun x hx => hm x (.inr hx)⟩
  subst e; simp
theorem IA.step {T : Int} {n : Nat} {h : List Int} {c : List CellA} {s0 l0 : List Int} {i k : Int} (hI : IA T n h c (s0 ++ [i]) (l0 ++ [k])) :
    (0 ≤ (stepH T h i k).getD k.toNat 0 ∧ (stepH T h i k).getD k.toNat 0 < 9223372036854775808 ∧ (stepH T h i k).getD k.toNat 0 = h.getD k.toNat 0 - (T - h.getD i.toNat 0)) ∧
    ((stepH T h i k).getD k.toNat 0 < T → IA T n (stepH T h i k) (c.set i.toNat (h.getD i.toNat 0, k, ())) (s0 ++ [k]) l0) ∧
    (¬ (stepH T h i k).getD k.toNat 0 < T → IA T n (stepH T h i k) (c.set i.toNat (h.getD i.toNat 0, k, ())) s0 (l0 ++ [k])) := by
  obtain ⟨hi, hk, hik, hs, hl⟩ := hI.facts
  have hkl : k.toNat < h.length := by rw [hI.hl]; omega
  have ek : (stepH T h i k).getD k.toNat 0 = h.getD k.toNat 0 - (T - h.getD i.toNat 0) := getD_set_eq' h _ hkl
  have b1 := hI.sml i (by simp)
  have b2 := hI.lrg k (by simp)
  have same : ∀ x : Int, 0 ≤ x → x ≠ k → (stepH T h i k).getD x.toNat 0 = h.getD x.toNat 0 := fun x h0 hx => getD_set_ne' h _ (by omega)
  have hn1 := ((perm1 s0 l0 i k).nodup_iff.1 hI.nd)
  have hn2 := ((perm2 s0 l0 i k).nodup_iff.1 hI.nd)
  rw [List.nodup_cons] at hn1 hn2
  refine ⟨⟨by omega, by omega, ek⟩, fun hlt => ⟨by simp [stepH, hI.hl], by simp [hI.cl], fun x hx => hI.ix x ?_, hn1.2, fun x hx => ?_, fun x hx => ?_⟩, fun hge => ⟨by simp [stepH, hI.hl], by simp [hI.cl], fun x hx => hI.ix x ?_, hn2.2, fun x hx => ?_, fun x hx => ?_⟩⟩
  · simp at hx ⊢; rcases hx with hx | hx | hx <;> simp [hx]
  · rcases List.mem_append.1 hx with hx | hx
    · have := hs x hx
      rw [same x this.2.2 this.2.1]; exact hI.sml x (by simp [hx])
    · simp at hx; subst hx; omega
  · have := hl x hx
    rw [same x this.2.2 this.2.1]; exact hI.lrg x (by simp [hx])
  · simp at hx ⊢; rcases hx with hx | hx | hx <;> simp [hx]
  · have := hs x hx
    rw [same x this.2.2 this.2.1]; exact hI.sml x (by simp [hx])
  · rcases List.mem_append.1 hx with hx | hx
    · have := hl x hx
      rw [same x this.2.2 this.2.1]; exact hI.lrg x (by simp [hx])
    · simp at hx; subst hx; omega
theorem runA_step {T : Int} {f : Nat} {h : List Int} {c : List CellA} {s0 l0 : List Int} {i k : Int} : runA T (f + 1) h c (s0 ++ [i]) (l0 ++ [k]) =
    if (stepH T h i k).getD k.toNat 0 < T then runA T f (stepH T h i k) (c.set i.toNat (h.getD i.toNat 0, k, ())) (s0 ++ [k]) l0 else runA T f (stepH T h i k) (c.set i.toNat (h.getD i.toNat 0, k, ())) s0 (l0 ++ [k]) := by
  simp only [runA, pop_snoc, cut_snoc]
  rw [if_neg (by simp)]
theorem runA_stop {T : Int} {f : Nat} {h : List Int} {c : List CellA} {sm la : List Int} (hs : sm.length = 0 ∨ la.length = 0) : runA T f h c sm la = (h, c, sm, la) := by
  cases f with
  | zero => rfl
  | succ f => simp only [runA]; rw [if_pos hs]
theorem G49_13_eq (R : Type) {T : Int} {n : Nat} (hT : 0 < T ∧ T < 9223372036854775808) (hn : n ≤ 1000) (x1 : TabA) (k0 : TabA → List Int → List CellA → List Int → List Int → (Int × Unit) → Option R) :
    ∀ (f m : Nat) (h : List Int) (c : List CellA) (sm la : List Int), IA T n h c sm la → sm.length + la.length ≤ f → f ≤ 10000 → f < m →
      G49_13 m R x1 h c sm la (T, ()) k0 = k0 x1 (runA T f h c sm la).1 (runA T f h c sm la).2.1 (runA T f h c sm la).2.2.1 (runA T f h c sm la).2.2.2 (T, ())
  | f, 0, _, _, _, _, _, _, _, hm => by omega
  | f, m + 1, h, c, sm, la, hI, hf, hf2, hm => by
    simp only [G49_13, p49_13]
    by_cases hs : sm.length = 0
    · have hd : decide ((sm.length : Int) > 0) = false := decide_eq_false (by omega)
      simp only [hd]
      rw [runA_stop (.inl hs)]
    · have hd : decide ((sm.length : Int) > 0) = true := decide_eq_true (by omega)
      simp only [hd]
      by_cases hl : la.length = 0
      · have hd : decide ((la.length : Int) > 0) = false := decide_eq_false (by omega)
        simp only [hd]
        rw [runA_stop (.inr hl)]
      · have hd : decide ((la.length : Int) > 0) = true := decide_eq_true (by omega)
        simp only [hd]
        obtain ⟨s0, i, rfl⟩ := snoc_of hs
        obtain ⟨l0, k, rfl⟩ := snoc_of hl
        obtain ⟨hi, hk, hik, hms, hml⟩ := hI.facts
        obtain ⟨⟨e0, e1, e2⟩, st1, st2⟩ := hI.step
        have b1 := hI.sml i (by simp)
        have b2 := hI.lrg k (by simp)
        have ls : ((s0 ++ [i]).length : Int) = (s0.length : Int) + 1 := by simp
        have ll : ((l0 ++ [k]).length : Int) = (l0.length : Int) + 1 := by simp
        simp only [List.length_append, List.length_cons, List.length_nil] at hf
        rw [ls, ll, show (s0.length : Int) + 1 - 1 = (s0.length : Int) by omega, show (l0.length : Int) + 1 - 1 = (l0.length : Int) by omega, wrap_i64 (n := (s0.length : Int)) (by omega) (by omega), wrap_i64 (n := (l0.length : Int)) (by omega) (by omega)]
        have d1 : bnd (s0.length : Int) ((s0.length : Int) + 1) = true := by unfold bnd; simp; omega
        have d2 : bnd (l0.length : Int) ((l0.length : Int) + 1) = true := by unfold bnd; simp; omega
        have d3 : decide (0 ≤ (s0.length : Int) ∧ (s0.length : Int) ≤ (s0.length : Int) + 1) = true := decide_eq_true (by omega)
        have d4 : decide (0 ≤ (l0.length : Int) ∧ (l0.length : Int) ≤ (l0.length : Int) + 1) = true := decide_eq_true (by omega)
        have g1 : (s0 ++ [i]).getD s0.length 0 = i := by simp
        have g2 : (l0 ++ [k]).getD l0.length 0 = k := by simp
        have t1 : (s0 ++ [i]).take s0.length = s0 := by simp
        have t2 : (l0 ++ [k]).take l0.length = l0 := by simp
        have d5 : bnd i (h.length : Int) = true := by rw [hI.hl]; unfold bnd; simp; omega
        have d6 : bnd i (c.length : Int) = true := by rw [hI.cl]; unfold bnd; simp; omega
        have d7 : bnd k (h.length : Int) = true := by rw [hI.hl]; unfold bnd; simp; omega
        simp only [d1, d2, d3, d4, Int.toNat_natCast, g1, g2, t1, t2, d5, d6, d7, List.length_set]
        rw [wrap_u64 (n := T - h.getD i.toNat 0) (by omega) (by omega), wrap_u64 (n := h.getD k.toNat 0 - (T - h.getD i.toNat 0)) (by omega) (by omega)]
        change (match decide ((stepH T h i k).getD k.toNat 0 < T) with
          | true => _
          | false => _) = _
        cases f with
        | zero => omega
        | succ f =>
          rw [runA_step]
          by_cases hlt : (stepH T h i k).getD k.toNat 0 < T
          · have dc : decide (s0.length + [k].length ≤ 17592186044416) = true := decide_eq_true (by simp; omega)
            rw [if_pos hlt]
            simp only [decide_eq_true hlt, dc]
            exact G49_13_eq R hT hn x1 k0 f m _ _ _ _ (st1 hlt) (by simp; omega) (by omega) (by omega)
          · have dc : decide (l0.length + [k].length ≤ 17592186044416) = true := decide_eq_true (by simp; omega)
            rw [if_neg hlt]
            simp only [decide_eq_false hlt, dc]
            exact G49_13_eq R hT hn x1 k0 f m _ _ _ _ (st2 hlt) (by simp; omega) (by omega) (by omega)
theorem G40_23_eq (R : Type) {T : Int} {n : Nat} (hT : 0 < T ∧ T < 9223372036854775808) (hn : n ≤ 1000) (x2 : TabA) (k0 : Int → TabA → List CellA → Option R) :
    ∀ (f m : Nat) (h : List Int) (c : List CellA) (sm la : List Int), IA T n h c sm la → sm.length + la.length ≤ f → f ≤ 10000 → f < m →
      G40_23 m R T x2 h c sm la k0 = k0 T x2 (runA T f h c sm la).2.1
  | f, 0, _, _, _, _, _, _, _, hm => by omega
  | f, m + 1, h, c, sm, la, hI, hf, hf2, hm => by
    simp only [G40_23, p40_23]
    by_cases hs : sm.length = 0
    · have hd : decide ((sm.length : Int) > 0) = false := decide_eq_false (by omega)
      simp only [hd]
      rw [runA_stop (.inl hs)]
    · have hd : decide ((sm.length : Int) > 0) = true := decide_eq_true (by omega)
      simp only [hd]
      by_cases hl : la.length = 0
      · have hd : decide ((la.length : Int) > 0) = false := decide_eq_false (by omega)
        simp only [hd]
        rw [runA_stop (.inr hl)]
      · have hd : decide ((la.length : Int) > 0) = true := decide_eq_true (by omega)
        simp only [hd]
        obtain ⟨s0, i, rfl⟩ := snoc_of hs
        obtain ⟨l0, k, rfl⟩ := snoc_of hl
        obtain ⟨hi, hk, hik, hms, hml⟩ := hI.facts
        obtain ⟨⟨e0, e1, e2⟩, st1, st2⟩ := hI.step
        have b1 := hI.sml i (by simp)
        have b2 := hI.lrg k (by simp)
        have ls : ((s0 ++ [i]).length : Int) = (s0.length : Int) + 1 := by simp
        have ll : ((l0 ++ [k]).length : Int) = (l0.length : Int) + 1 := by simp
        simp only [List.length_append, List.length_cons, List.length_nil] at hf
        rw [ls, ll, show (s0.length : Int) + 1 - 1 = (s0.length : Int) by omega, show (l0.length : Int) + 1 - 1 = (l0.length : Int) by omega, wrap_i64 (n := (s0.length : Int)) (by omega) (by omega), wrap_i64 (n := (l0.length : Int)) (by omega) (by omega)]
        have d1 : bnd (s0.length : Int) ((s0.length : Int) + 1) = true := by unfold bnd; simp; omega
        have d2 : bnd (l0.length : Int) ((l0.length : Int) + 1) = true := by unfold bnd; simp; omega
        have d3 : decide (0 ≤ (s0.length : Int) ∧ (s0.length : Int) ≤ (s0.length : Int) + 1) = true := decide_eq_true (by omega)
        have d4 : decide (0 ≤ (l0.length : Int) ∧ (l0.length : Int) ≤ (l0.length : Int) + 1) = true := decide_eq_true (by omega)
        have g1 : (s0 ++ [i]).getD s0.length 0 = i := by simp
        have g2 : (l0 ++ [k]).getD l0.length 0 = k := by simp
        have t1 : (s0 ++ [i]).take s0.length = s0 := by simp
        have t2 : (l0 ++ [k]).take l0.length = l0 := by simp
        have d5 : bnd i (h.length : Int) = true := by rw [hI.hl]; unfold bnd; simp; omega
        have d6 : bnd i (c.length : Int) = true := by rw [hI.cl]; unfold bnd; simp; omega
        have d7 : bnd k (h.length : Int) = true := by rw [hI.hl]; unfold bnd; simp; omega
        simp only [d1, d2, d3, d4, Int.toNat_natCast, g1, g2, t1, t2, d5, d6, d7, List.length_set]
        rw [wrap_u64 (n := T - h.getD i.toNat 0) (by omega) (by omega), wrap_u64 (n := h.getD k.toNat 0 - (T - h.getD i.toNat 0)) (by omega) (by omega)]
        change (match decide ((stepH T h i k).getD k.toNat 0 < T) with
          | true => _
          | false => _) = _
        cases f with
        | zero => omega
        | succ f =>
          rw [runA_step]
          by_cases hlt : (stepH T h i k).getD k.toNat 0 < T
          · have dc : decide (s0.length + [k].length ≤ 17592186044416) = true := decide_eq_true (by simp; omega)
            rw [if_pos hlt]
            simp only [decide_eq_true hlt, dc]
            exact G40_23_eq R hT hn x2 k0 f m _ _ _ _ (st1 hlt) (by simp; omega) (by omega) (by omega)
          · have dc : decide (l0.length + [k].length ≤ 17592186044416) = true := decide_eq_true (by simp; omega)
            rw [if_neg hlt]
            simp only [decide_eq_false hlt, dc]
            exact G40_23_eq R hT hn x2 k0 f m _ _ _ _ (st2 hlt) (by simp; omega) (by omega) (by omega)
end Go.PG
namespace Go.PG
theorem set_app {α : Type} (A : List α) (z v : α) (m : Nat) {i : Nat} (hi : A.length = i) : (A ++ List.replicate (m + 1) z).set i v = A ++ [v] ++ List.replicate m z := by
  subst hi
  rw [List.set_append_right _ _ (Nat.le_refl _), Nat.sub_self, List.replicate_succ, List.set_cons_zero]
  simp
def hasP (n : Int) (l : List Int) (i : Nat) : List Int := (l.take i).map (fun v => n * v) ++ List.replicate (l.length - i) 0
def ceP (T : Int) (i : Nat) : List CellA := (List.range i).map (fun j : Nat => (T, (j : Int), ()))
def ceQ (T : Int) (N i : Nat) : List CellA := ceP T i ++ List.replicate (N - i) (0, 0, ())
def smP (T n : Int) (l : List Int) (i : Nat) : List Int := ((List.range i).filter (fun j => decide (n * l.getD j 0 < T))).map (fun j : Nat => (j : Int))
def laP (T n : Int) (l : List Int) (i : Nat) : List Int := ((List.range i).filter (fun j => !decide (n * l.getD j 0 < T))).map (fun j : Nat => (j : Int))
theorem hasP_len {n : Int} {l : List Int} {i : Nat} (h : i ≤ l.length) : (hasP n l i).length = l.length := by simp [hasP]; omega
theorem hasP_set {n : Int} {l : List Int} {i : Nat} (h : i < l.length) : (hasP n l i).set i (n * l.getD i 0) = hasP n l (i + 1) := by
  unfold hasP
  rw [show l.length - i = (l.length - (i + 1)) + 1 by omega, set_app _ _ _ _ (by simp; omega), List.take_succ_eq_append_getElem h, List.map_append]
  simp only [List.getD_eq_getElem?_getD, List.getElem?_eq_getElem h, Option.getD_some, List.map_cons, List.map_nil]
theorem ceP_succ (T : Int) (i : Nat) : ceP T i ++ [(T, (i : Int), ())] = ceP T (i + 1) := by simp [ceP, List.range_succ]
theorem ceQ_set {T : Int} {N i : Nat} (h : i < N) : (ceQ T N i).set i (T, (i : Int), ()) = ceQ T N (i + 1) := by
  unfold ceQ
  rw [show N - i = (N - (i + 1)) + 1 by omega, set_app _ _ _ _ (by simp [ceP]), ceP_succ]
theorem smP_lt {T n : Int} {l : List Int} {i : Nat} (h : n * l.getD i 0 < T) : smP T n l i ++ [(i : Int)] = smP T n l (i + 1) ∧ laP T n l i = laP T n l (i + 1) := by
  unfold smP laP
  rw [List.range_succ, List.filter_append, List.filter_append, List.map_append, List.map_append]
  have e1 : [i].filter (fun j => decide (n * l.getD j 0 < T)) = [i] := by rw [List.filter_cons, if_pos (decide_eq_true h)]; rfl
  have e2 : [i].filter (fun j => !decide (n * l.getD j 0 < T)) = [] := by rw [List.filter_cons, if_neg (by simp only [decide_eq_true h]; simp)]; rfl
  rw [e1, e2]
  simp
theorem smP_ge {T n : Int} {l : List Int} {i : Nat} (h : ¬ n * l.getD i 0 < T) : smP T n l i = smP T n l (i + 1) ∧ laP T n l i ++ [(i : Int)] = laP T n l (i + 1) := by
  unfold smP laP
  rw [List.range_succ, List.filter_append, List.filter_append, List.map_append, List.map_append]
  have e1 : [i].filter (fun j => decide (n * l.getD j 0 < T)) = [] := by rw [List.filter_cons, if_neg (by simp only [decide_eq_false h]; simp)]; rfl
  have e2 : [i].filter (fun j => !decide (n * l.getD j 0 < T)) = [i] := by rw [List.filter_cons, if_pos (by simp only [decide_eq_false h]; simp)]; rfl
  rw [e1, e2]
  simp
theorem smP_len (T n : Int) (l : List Int) (i : Nat) : (smP T n l i).length + (laP T n l i).length ≤ i := by
  induction i with
  | zero => simp [smP, laP]
  | succ i ih =>
    by_cases h : n * l.getD i 0 < T
    · obtain ⟨h1, h2⟩ := smP_lt h
      rw [← h1, ← h2]; simp; omega
    · obtain ⟨h1, h2⟩ := smP_ge h
      rw [← h1, ← h2]; simp; omega
theorem get_le_tot {l : List Int} (h : AllU64 l) (i : Nat) : l.getD i 0 ≤ totS l := by
  by_cases hi : i < l.length
  · have h1 := sumS_succ hi
    have h2 := sumS_nonneg h i
    have h3 := sumS_tot h (i + 1)
    omega
  · have : l.getD i 0 = 0 := by simp [List.getD_eq_getElem?_getD, List.getElem?_eq_none (show l.length ≤ i by omega)]
    rw [this]
    exact sumS_nonneg h l.length
theorem prod_ok {l : List Int} (h : AllU64 l) (hb : (l.length : Int) * totS l < 9223372036854775808) (i : Nat) : 0 ≤ (l.length : Int) * l.getD i 0 ∧ (l.length : Int) * l.getD i 0 < 9223372036854775808 := by
  have h1 := (getD_all h u64_0 i).1
  have h2 := get_le_tot h i
  have h3 : (l.length : Int) * l.getD i 0 ≤ (l.length : Int) * totS l := Int.mul_le_mul_of_nonneg_left h2 (by omega)
  exact ⟨Int.mul_nonneg (by omega) h1, by omega⟩
theorem G49_7_eq (R : Type) {l : List Int} (h : AllU64 l) (hlen : l.length ≤ 1000) {T : Int} (hb : (l.length : Int) * totS l < 9223372036854775808) (x6 : TabA) (k0 : TabA → List Int → List CellA → List Int → List Int → (Int × Unit) → Option R) :
    ∀ (m i : Nat), i ≤ l.length → l.length - i < m → G49_7 m R l T l (l.length : Int) (i : Int) x6 (hasP (l.length : Int) l i) (ceP T i) (smP T (l.length : Int) l i) (laP T (l.length : Int) l i) (T, ()) k0 =
      k0 x6 (hasP (l.length : Int) l l.length) (ceP T l.length) (smP T (l.length : Int) l l.length) (laP T (l.length : Int) l l.length) (T, ())
  | 0, i, _, hm => by omega
  | m + 1, i, h1, h2 => by
    simp only [G49_7, p49_7]
    by_cases hi : i < l.length
    · have hd : decide ((i : Int) < (l.length : Int)) = true := by simpa using hi
      have hbn : bnd (i : Int) (l.length : Int) = true := by unfold bnd; simp; omega
      have hp := prod_ok h hb i
      have hsl := smP_len T (l.length : Int) l i
      have cl : (ceP T i).length = i := by simp [ceP]
      have dc : decide ((ceP T i).length + [(T, (i : Int), ())].length ≤ 8796093022208) = true := decide_eq_true (by rw [cl]; simp; omega)
      have ew : IntKind.u64.wrap (l.getD i 0 * IntKind.u64.wrap (l.length : Int)) = (l.length : Int) * l.getD i 0 := by
        rw [wrap_u64 (n := (l.length : Int)) (by omega) (by omega), Int.mul_comm (l.getD i 0), wrap_u64 (n := (l.length : Int) * l.getD i 0) hp.1 (by omega)]
      simp only [hd, hbn, Int.toNat_natCast, hasP_len (n := (l.length : Int)) h1, dc, ew, hasP_set hi, ceP_succ, hasP_len (n := (l.length : Int)) (show i + 1 ≤ l.length by omega)]
      have hg : (hasP (l.length : Int) l (i + 1)).getD i 0 = (l.length : Int) * l.getD i 0 := by
        rw [← hasP_set hi, getD_set_eq' _ _ (by rw [hasP_len h1]; exact hi)]
      simp only [hbn, hg]
      by_cases hlt : (l.length : Int) * l.getD i 0 < T
      · obtain ⟨q1, q2⟩ := smP_lt hlt
        have dd : decide ((smP T (l.length : Int) l i).length + [(i : Int)].length ≤ 17592186044416) = true := decide_eq_true (by simp; omega)
        simp only [decide_eq_true hlt, dd]
        rw [q1, q2, wrap_i64 (n := (i : Int) + 1) (by omega) (by omega)]
        exact G49_7_eq R h hlen hb x6 k0 m (i + 1) (by omega) (by omega)
      · obtain ⟨q1, q2⟩ := smP_ge hlt
        have dd : decide ((laP T (l.length : Int) l i).length + [(i : Int)].length ≤ 17592186044416) = true := decide_eq_true (by simp; omega)
        simp only [decide_eq_false hlt, dd]
        rw [q1, q2, wrap_i64 (n := (i : Int) + 1) (by omega) (by omega)]
        exact G49_7_eq R h hlen hb x6 k0 m (i + 1) (by omega) (by omega)
    · have : i = l.length := by omega
      subst this
      have hd : decide ((l.length : Int) < (l.length : Int)) = false := by simp
      simp only [hd]
theorem G40_16_eq (R : Type) {l : List Int} (h : AllU64 l) (hlen : l.length ≤ 1000) {T : Int} (hb : (l.length : Int) * totS l < 9223372036854775808) (x5 : TabA) (k0 : Int → TabA → List Int → List CellA → List Int → List Int → Option R) :
    ∀ (m i : Nat), i ≤ l.length → l.length - i < m → G40_16 m R l T (l.length : Int) (i : Int) x5 (hasP (l.length : Int) l i) (ceQ T l.length i) (smP T (l.length : Int) l i) (laP T (l.length : Int) l i) k0 =
      k0 T x5 (hasP (l.length : Int) l l.length) (ceP T l.length) (smP T (l.length : Int) l l.length) (laP T (l.length : Int) l l.length)
  | 0, i, _, hm => by omega
  | m + 1, i, h1, h2 => by
    simp only [G40_16, p40_16]
    by_cases hi : i < l.length
    · have hd : decide ((i : Int) < (l.length : Int)) = true := by simpa using hi
      have hbn : bnd (i : Int) (l.length : Int) = true := by unfold bnd; simp; omega
      have hp := prod_ok h hb i
      have hsl := smP_len T (l.length : Int) l i
      have cl : (ceQ T l.length i).length = l.length := by simp [ceQ, ceP]; omega
      have ew : IntKind.u64.wrap ((l.length : Int) * l.getD i 0) = (l.length : Int) * l.getD i 0 := wrap_u64 hp.1 (by omega)
      simp only [hd, hbn, Int.toNat_natCast, hasP_len (n := (l.length : Int)) h1, cl, ew, hasP_set hi, ceQ_set hi, hasP_len (n := (l.length : Int)) (show i + 1 ≤ l.length by omega)]
      have hg : (hasP (l.length : Int) l (i + 1)).getD i 0 = (l.length : Int) * l.getD i 0 := by
        rw [← hasP_set hi, getD_set_eq' _ _ (by rw [hasP_len h1]; exact hi)]
      simp only [hbn, hg]
      by_cases hlt : (l.length : Int) * l.getD i 0 < T
      · obtain ⟨q1, q2⟩ := smP_lt hlt
        have dd : decide ((smP T (l.length : Int) l i).length + [(i : Int)].length ≤ 17592186044416) = true := decide_eq_true (by simp; omega)
        simp only [decide_eq_true hlt, dd]
        rw [q1, q2, wrap_i64 (n := (i : Int) + 1) (by omega) (by omega)]
        exact G40_16_eq R h hlen hb x5 k0 m (i + 1) (by omega) (by omega)
      · obtain ⟨q1, q2⟩ := smP_ge hlt
        have dd : decide ((laP T (l.length : Int) l i).length + [(i : Int)].length ≤ 17592186044416) = true := decide_eq_true (by simp; omega)
        simp only [decide_eq_false hlt, dd]
        rw [q1, q2, wrap_i64 (n := (i : Int) + 1) (by omega) (by omega)]
        exact G40_16_eq R h hlen hb x5 k0 m (i + 1) (by omega) (by omega)
    · have : i = l.length := by omega
      subst this
      have hd : decide ((l.length : Int) < (l.length : Int)) = false := by simp
      simp only [hd]
      have : ceQ T l.length l.length = ceP T l.length := by simp [ceQ]
      rw [this]
theorem hasP_get {n : Int} {l : List Int} {j : Nat} (hj : j < l.length) : (hasP n l l.length).getD j 0 = n * l.getD j 0 := by
  simp [hasP, hj]
theorem mem_smP {T n : Int} {l : List Int} {i : Nat} {x : Int} (h : x ∈ smP T n l i) : ∃ j : Nat, x = (j : Int) ∧ j < i ∧ n * l.getD j 0 < T := by
  simp only [smP, List.mem_map, List.mem_filter, List.mem_range, decide_eq_true_eq] at h
  obtain ⟨j, ⟨h1, h2⟩, rfl⟩ := h
  exact ⟨j, rfl, h1, h2⟩
theorem mem_laP {T n : Int} {l : List Int} {i : Nat} {x : Int} (h : x ∈ laP T n l i) : ∃ j : Nat, x = (j : Int) ∧ j < i ∧ ¬ n * l.getD j 0 < T := by
  simp only [laP, List.mem_map, List.mem_filter, List.mem_range, Bool.not_eq_true', decide_eq_false_iff_not] at h
  obtain ⟨j, ⟨h1, h2⟩, rfl⟩ := h
  exact ⟨j, rfl, h1, h2⟩
theorem nodup_cast {l : List Nat} (h : l.Nodup) : (l.map fun j : Nat => (j : Int)).Nodup := by
  induction l with
  | nil => simp
  | cons a l ih =>
    rw [List.nodup_cons] at h
    rw [List.map_cons, List.nodup_cons]
    refine ⟨fun hm => ?_, ih h.2⟩
    obtain ⟨b, hb, e⟩ := List.mem_map.1 hm
    have : b = a := by omega
    subst this
    exact h.1 hb
theorem IA_start {l : List Int} (h : AllU64 l) {T : Int} (hb : (l.length : Int) * totS l < 9223372036854775808) : IA T l.length (hasP (l.length : Int) l l.length) (ceP T l.length) (smP T (l.length : Int) l l.length) (laP T (l.length : Int) l l.length) := by
  refine ⟨hasP_len (Nat.le_refl _), by simp [ceP], fun x hx => ?_, ?_, fun x hx => ?_, fun x hx => ?_⟩
  · rcases List.mem_append.1 hx with hx | hx
    · obtain ⟨j, rfl, hj, _⟩ := mem_smP hx; omega
    · obtain ⟨j, rfl, hj, _⟩ := mem_laP hx; omega
  · rw [List.nodup_append]
    refine ⟨nodup_cast (List.nodup_range.sublist List.filter_sublist), nodup_cast (List.nodup_range.sublist List.filter_sublist), fun a ha b hb e => ?_⟩
    obtain ⟨j, e1, _, h1⟩ := mem_smP ha
    obtain ⟨j', e2, _, h2⟩ := mem_laP hb
    have : j = j' := by omega
    subst this
    exact h2 h1
  · obtain ⟨j, rfl, hj, h1⟩ := mem_smP hx
    rw [Int.toNat_natCast, hasP_get hj]
    exact ⟨(prod_ok h hb j).1, h1⟩
  · obtain ⟨j, rfl, hj, h1⟩ := mem_laP hx
    rw [Int.toNat_natCast, hasP_get hj]
    exact ⟨by omega, (prod_ok h hb j).2⟩
def tabC (l : List Int) : List CellA := (runA (totS l) l.length (hasP (l.length : Int) l l.length) (ceP (totS l) l.length) (smP (totS l) (l.length : Int) l l.length) (laP (totS l) (l.length : Int) l l.length)).2.1
def tabR (l : List Int) : TabA × Int :=
  if l.length = 0 then ((0, [], ()), 10) else if ¬ totS l < 9223372036854775808 then ((0, [], ()), 11) else if totS l = 0 then ((0, [], ()), 10)
  else if ¬ (l.length : Int) * totS l < 9223372036854775808 then ((0, [], ()), 11) else ((totS l, tabC l, ()), 0)
theorem tabR_len {l : List Int} (h0 : l.length = 0) : tabR l = ((0, [], ()), 10) := by unfold tabR; rw [if_pos h0]
theorem tabR_big {l : List Int} (h0 : l.length ≠ 0) (ht : ¬ totS l < 9223372036854775808) : tabR l = ((0, [], ()), 11) := by unfold tabR; rw [if_neg h0, if_pos ht]
theorem tabR_zero {l : List Int} (h0 : l.length ≠ 0) (hz : totS l = 0) : tabR l = ((0, [], ()), 10) := by unfold tabR; rw [if_neg h0, if_neg (by simp [hz]), if_pos hz]
theorem tabR_prod {l : List Int} (h0 : l.length ≠ 0) (ht : totS l < 9223372036854775808) (hz : totS l ≠ 0) (hb : ¬ (l.length : Int) * totS l < 9223372036854775808) : tabR l = ((0, [], ()), 11) := by
  unfold tabR; rw [if_neg h0, if_neg (by simpa using ht), if_neg hz, if_pos hb]
theorem tabR_ok {l : List Int} (h0 : l.length ≠ 0) (ht : totS l < 9223372036854775808) (hz : totS l ≠ 0) (hb : (l.length : Int) * totS l < 9223372036854775808) : tabR l = ((totS l, tabC l, ()), 0) := by
  unfold tabR; rw [if_neg h0, if_neg (by simpa using ht), if_neg hz, if_neg (by simpa using hb)]
def TabOk (l : List Int) : Prop := l.length ≠ 0 ∧ totS l < 9223372036854775808 ∧ totS l ≠ 0 ∧ (l.length : Int) * totS l < 9223372036854775808
theorem tab_cases (l : List Int) : (TabOk l ∧ tabR l = ((totS l, tabC l, ()), 0)) ∨ (¬ TabOk l ∧ (tabR l = ((0, [], ()), 10) ∨ tabR l = ((0, [], ()), 11))) := by
  unfold TabOk
  by_cases h0 : l.length = 0
  · exact .inr ⟨fun h => h.1 h0, .inl (tabR_len h0)⟩
  by_cases ht : totS l < 9223372036854775808
  · by_cases hz : totS l = 0
    · exact .inr ⟨fun h => h.2.2.1 hz, .inl (tabR_zero h0 hz)⟩
    · by_cases hb : (l.length : Int) * totS l < 9223372036854775808
      · exact .inl ⟨⟨h0, ht, hz, hb⟩, tabR_ok h0 ht hz hb⟩
      · exact .inr ⟨fun h => hb h.2.2.2, .inr (tabR_prod h0 ht hz hb)⟩
  · exact .inr ⟨fun h => ht h.2.1, .inr (tabR_big h0 ht)⟩
theorem F88_eq (R : Type) {l : List Int} (h : AllU64 l) (hlen : l.length ≤ 1000) (k : Int → Int → Option R) (K : TabA → Int → Option R) (h1 : TabOk l → k (totS l) 0 = K (tabR l).1 0) (h2 : ∀ e, e ≠ 0 → k 0 e = K (0, [], ()) e) : F88 R l k = K (tabR l).1 (tabR l).2 := by
  simp only [F88, p88]
  rw [wrap_u64 (n := (l.length : Int)) (by omega) (by omega)]
  by_cases h0 : l.length = 0
  · have e : ((l.length : Int) == 0) = true := by simp [h0]
    simp only [e]
    rw [tabR_len h0]
    exact h2 10 (by omega)
  · have e : ((l.length : Int) == 0) = false := by simp [h0]
    simp only [e]
    rw [F91_eq R h (by omega)]
    have hnn := sumS_nonneg h l.length
    by_cases ht : totS l < 9223372036854775808
    · rw [if_pos ht]
      simp only [Bool.not_true]
      by_cases hz : totS l = 0
      · have e : (totS l == 0) = true := by simp [hz]
        simp only [e]
        rw [tabR_zero h0 hz]
        exact h2 10 (by omega)
      · have e : (totS l == 0) = false := by simp [hz]
        simp only [e]
        rw [F79_eq R (by unfold U64; omega) (show U64 (totS l) from by unfold U64; exact ⟨hnn, by omega⟩)]
        by_cases hb : (l.length : Int) * totS l < 9223372036854775808
        · rw [if_pos hb]
          simp only [Bool.not_true]
          rw [h1 ⟨h0, ht, hz, hb⟩, tabR_ok h0 ht hz hb]
        · rw [if_neg hb, tabR_prod h0 ht hz hb]
          simp only [Bool.not_false]
          exact h2 11 (by omega)
    · rw [if_neg ht, tabR_big h0 ht]
      simp only [Bool.not_false]
      exact h2 11 (by omega)
theorem F49_eq (R : Type) {l : List Int} (h : AllU64 l) (hlen : l.length ≤ 1000) (k : TabA → Int → Option R) : F49 R l k = k (tabR l).1 (tabR l).2 := by
  simp only [F49, p49]
  refine F88_eq R h hlen _ k (fun hc => ?_) (fun e he => ?_)
  · have n0 : ((0 : Int) != 0) = false := rfl
    simp only [n0]
    · obtain ⟨h0, ht, hz, hb⟩ := hc
      have hnn := sumS_nonneg h l.length
      have hpos : 0 < totS l := by have : 0 ≤ totS l := hnn; omega
      rw [tabR_ok h0 ht hz hb]
      have dc : decide (0 ≤ (l.length : Int) ∧ (l.length : Int) ≤ (l.length : Int) ∧ (l.length : Int) ≤ (17592186044416 : Int)) = true := decide_eq_true (by omega)
      simp only [dc, Int.toNat_natCast]
      have g := G49_7_eq R h hlen (T := totS l) hb (0, [], ()) (fun x7 x8 x9 x10 x11 x12 => G49_13 FUEL R x7 x8 x9 x10 x11 (x12.1, ()) (fun x13 x14 x15 x16 x17 x18 => k (x18.1, x15, ()) 0)) FUEL 0 (by omega) (by rw [FUEL_eq]; omega)
      have q0 : hasP (l.length : Int) l 0 = List.replicate l.length 0 := by simp [hasP]
      rw [q0] at g
      refine g.trans ?_
      rw [G49_13_eq R (n := l.length) ⟨hpos, ht⟩ hlen _ _ l.length FUEL _ _ _ _ (IA_start h hb) (smP_len _ _ _ _) (by omega) (by rw [FUEL_eq]; omega)]
      rfl
  · have n1 : (e != 0) = true := by simp [he]
    simp only [n1]
theorem F40_eq (R : Type) {l : List Int} (h : AllU64 l) (hlen : l.length ≤ 1000) (k : TabA → Int → Option R) : F40 R l k = k (tabR l).1 (tabR l).2 := by
  simp only [F40, p40]
  by_cases h0 : l.length = 0
  · have e : ((l.length : Int) == 0) = true := by simp [h0]
    rw [tabR_len h0]
    simp only [e]
  · have e : ((l.length : Int) == 0) = false := by simp [h0]
    simp only [e]
    rw [F52_eq' R h (by omega)]
    have hnn := sumS_nonneg h l.length
    by_cases ht : totS l < 9223372036854775808
    · rw [if_pos ht]
      simp only [Bool.not_true]
      by_cases hz : totS l = 0
      · have e : (totS l == 0) = true := by simp [hz]
        rw [tabR_zero h0 hz]
        simp only [e]
      · have e : (totS l == 0) = false := by simp [hz]
        have hpos : 0 < totS l := by have : 0 ≤ totS l := hnn; omega
        simp only [e]
        rw [wrap_u64 (n := (l.length : Int)) (by omega) (by omega), F78_eq R (by unfold U64; omega) (show U64 (totS l) from by unfold U64; exact ⟨hnn, by omega⟩)]
        by_cases hb : (l.length : Int) * totS l < 9223372036854775808
        · rw [if_pos hb, tabR_ok h0 ht hz hb]
          have dc : decide (0 ≤ (l.length : Int) ∧ (l.length : Int) ≤ (l.length : Int) ∧ (l.length : Int) ≤ (17592186044416 : Int)) = true := decide_eq_true (by omega)
          have dc2 : decide (0 ≤ (l.length : Int) ∧ (l.length : Int) ≤ (l.length : Int) ∧ (l.length : Int) ≤ (8796093022208 : Int)) = true := decide_eq_true (by omega)
          simp only [Bool.not_true, dc, dc2, Int.toNat_natCast]
          have g := G40_16_eq R h hlen (T := totS l) hb (0, [], ()) (fun x14 x15 x16 x17 x18 x19 => G40_23 FUEL R x14 x15 x16 x17 x18 x19 (fun x20 x21 x22 => k (x20, x22, ()) 0)) FUEL 0 (by omega) (by rw [FUEL_eq]; omega)
          have q0 : hasP (l.length : Int) l 0 = List.replicate l.length 0 := by simp [hasP]
          have q1 : ceQ (totS l) l.length 0 = List.replicate l.length (0, 0, ()) := by simp [ceQ, ceP]
          rw [q0, q1] at g
          refine g.trans ?_
          rw [G40_23_eq R (n := l.length) ⟨hpos, ht⟩ hlen _ _ l.length FUEL _ _ _ _ (IA_start h hb) (smP_len _ _ _ _) (by omega) (by rw [FUEL_eq]; omega)]
          rfl
        · rw [if_neg hb, tabR_prod h0 ht hz hb]
          simp only [Bool.not_false]
    · rw [if_neg ht, tabR_big h0 ht]
      simp only [Bool.not_false]
end Go.PG
namespace Go.PG
theorem runA_IA {T : Int} {n : Nat} : ∀ (f : Nat) (h : List Int) (c : List CellA) (sm la : List Int), IA T n h c sm la → IA T n (runA T f h c sm la).1 (runA T f h c sm la).2.1 (runA T f h c sm la).2.2.1 (runA T f h c sm la).2.2.2
  | 0, h, c, sm, la, hI => hI
  | f + 1, h, c, sm, la, hI => by
    by_cases hs : sm.length = 0 ∨ la.length = 0
    · rw [runA_stop hs]; exact hI
    · obtain ⟨s0, i, rfl⟩ := snoc_of (fun e => hs (.inl e))
      obtain ⟨l0, k, rfl⟩ := snoc_of (fun e => hs (.inr e))
      obtain ⟨_, st1, st2⟩ := hI.step
      rw [runA_step]
      by_cases hlt : (stepH T h i k).getD k.toNat 0 < T
      · rw [if_pos hlt]; exact runA_IA f _ _ _ _ (st1 hlt)
      · rw [if_neg hlt]; exact runA_IA f _ _ _ _ (st2 hlt)
theorem tabC_len {l : List Int} (h : AllU64 l) (hb : (l.length : Int) * totS l < 9223372036854775808) : (tabC l).length = l.length := (runA_IA l.length _ _ _ _ (IA_start h hb)).cl
theorem tab_fit {l : List Int} (h : AllU64 l) : U64 (tabR l).1.1 ∧ (tabR l).1.2.1.length ≤ l.length := by
  have hnn := sumS_nonneg h l.length
  rcases tab_cases l with ⟨⟨h0, ht, hz, hb⟩, e⟩ | ⟨hn, e | e⟩
  · rw [e]
    exact ⟨by unfold U64; exact ⟨hnn, by have : totS l < 9223372036854775808 := ht; show totS l < _; omega⟩, by show (tabC l).length ≤ _; rw [tabC_len h hb]; exact Nat.le_refl _⟩
  · rw [e]; exact ⟨by unfold U64; simp, by simp⟩
  · rw [e]; exact ⟨by unfold U64; simp, by simp⟩
def pickL (l : List Int) (s : Src) (m : Int) : Int × Src × Int := if (tabR l).2 = 0 then pickR (tabR l).1 s m else (0, s, (tabR l).2)
theorem F16_eq (R : Type) {l : List Int} (h : AllU64 l) (hlen : l.length ≤ 1000) {s : Src} (hs : SOK s) (m : Int) (k : Int → Src → Int → Option R) : F16 R s m l k = k (pickL l s m).1 (pickL l s m).2.1 (pickL l s m).2.2 := by
  simp only [F16, p16]
  rw [F49_eq R h hlen]
  obtain ⟨f1, f2⟩ := tab_fit h
  unfold pickL
  by_cases he : (tabR l).2 = 0
  · have e1 : ((tabR l).2 != 0) = false := by simp [he]
    rw [if_pos he]
    simp only [e1]
    rw [F12_eq R f1 (by omega) hs]
  · have e1 : ((tabR l).2 != 0) = true := by simp [he]
    rw [if_neg he]
    simp only [e1]
theorem F17_eq (R : Type) {l : List Int} (h : AllU64 l) (hlen : l.length ≤ 1000) {s : Src} (hs : SOK s) (m : Int) (k : Int → Src → Int → Option R) : F17 R l s m k = k (pickL l s m).1 (pickL l s m).2.1 (pickL l s m).2.2 := by
  simp only [F17, p17]
  rw [F40_eq R h hlen]
  obtain ⟨f1, f2⟩ := tab_fit h
  unfold pickL
  by_cases he : (tabR l).2 = 0
  · have e1 : ((tabR l).2 != 0) = false := by simp [he]
    rw [if_pos he]
    simp only [e1]
    rw [F13_eq R f1 (by omega) hs]
  · have e1 : ((tabR l).2 != 0) = true := by simp [he]
    rw [if_neg he]
    simp only [e1]
end Go.PG
namespace Go.PG
def domS (k slot : Int) : Int := k * 4294967296 + slot
def mayS (m slot : Int) : Bool := decide (slot ≥ 0) && (decide (slot < 1024) && (decide (m > 0) && decide (m ≤ 64)))
theorem F73_eq (R : Type) (a : List Int) (m slot : Int) (k : Bool → Option R) : F73 R (a, m, ()) slot k = k (mayS m slot) := by
  simp only [F73, p73, mayS]
  cases decide (slot ≥ 0) <;> cases decide (slot < 1024) <;> cases decide (m > 0) <;> rfl
theorem F75_eq (R : Type) (m slot : Int) (k : Bool → Option R) : F75 R slot m k = k (mayS m slot) := by
  simp only [F75, p75, mayS]
  have e : decide (m ≥ 1) = decide (m > 0) := by
    by_cases h : m > 0
    · rw [decide_eq_true h, decide_eq_true (by omega)]
    · rw [decide_eq_false h, decide_eq_false (by omega)]
  rw [e]
  cases decide (slot ≥ 0) <;> cases decide (slot < 1024) <;> cases decide (m > 0) <;> rfl
theorem may_spec {m slot : Int} (h : mayS m slot = true) : 0 ≤ slot ∧ slot < 1024 ∧ 0 < m ∧ m ≤ 64 := by
  simp only [mayS, Bool.and_eq_true, decide_eq_true_eq] at h
  exact ⟨h.1, h.2.1, h.2.2.1, h.2.2.2⟩
theorem wrap32 {n : Int} (h1 : 0 ≤ n) (h2 : n < 4294967296) : IntKind.u32.wrap n = n := by
  unfold IntKind.wrap
  simp only [IntKind.bits, IntKind.signed]
  have e : n % (2 ^ 32) = n := Int.emod_eq_of_lt h1 h2
  first
  | exact e
  | simp [e]
  | (simp; omega)
theorem F76_eq (R : Type) (a : List Int) {d slot : Int} (hd : 0 ≤ d ∧ d ≤ 10) (hs : 0 ≤ slot ∧ slot < 1024) (k : Src → Option R) : F76 R a d slot k = k (streamSrc a (domS d slot)) := by
  simp only [F76, p76]
  rw [wrap32 hs.1 (by omega), F113_eq R (by unfold U32; omega) (by unfold U32; omega)]
  rfl
theorem F77_eq (R : Type) (a : List Int) (m : Int) {d slot : Int} (hd : 0 ≤ d ∧ d ≤ 10) (hs : 0 ≤ slot ∧ slot < 1024) (k : Src → Option R) : F77 R (a, m, ()) d slot k = k (streamSrc a (domS d slot)) := by
  simp only [F77, p77]
  rw [wrap32 hs.1 (by omega), F115_eq R (by unfold U32; omega) (by unfold U32; omega), F114_eq]
  rfl
theorem dom_u64 {d slot : Int} (hd : 0 ≤ d ∧ d ≤ 10) (hs : 0 ≤ slot ∧ slot < 1024) : U64 (domS d slot) := by unfold U64 domS; omega
def srcS (a : List Int) (d slot : Int) : Src := streamSrc a (domS d slot)
theorem srcS_ok {a : List Int} (ha : H32 a) {d slot : Int} (hd : 0 ≤ d ∧ d ≤ 10) (hs : 0 ≤ slot ∧ slot < 1024) : SOK (srcS a d slot) := streamSrc_ok ha (dom_u64 hd hs)
noncomputable def leaS (a : List Int) (slot m : Int) (l : List Int) : Int × Int :=
  if mayS m slot = true then (if totS l < 9223372036854775808 then ((leadR l (srcS a 1 slot) m).1, (leadR l (srcS a 1 slot) m).2.2) else (0, 11)) else (0, 1)
theorem F74_eq (R : Type) {a : List Int} (ha : H32 a) {m slot : Int} (hs : 0 ≤ slot ∧ slot < 1024) {l : List Int} (h : AllU64 l) (ht : totS l < 9223372036854775808) (hl : l.length ≤ 200) (k : Int → Int → Option R) :
    F74 R (a, m, ()) (treeS l, ()) slot k = k (leadR l (srcS a 1 slot) m).1 (leadR l (srcS a 1 slot) m).2.2 := by
  simp only [F74, p74]
  rw [F77_eq R a m (by omega) hs]
  show F56 R (treeS l, ()) (srcS a 1 slot) m _ = _
  rw [F56_eq R h hl ht (srcS_ok ha (by omega) hs)]
theorem F31_eq (R : Type) {a : List Int} (ha : H32 a) (slot m : Int) {l : List Int} (h : AllU64 l) (hl : l.length ≤ 200) (k : Int → Int → Option R) : F31 R a slot m l k = k (leaS a slot m l).1 (leaS a slot m l).2 := by
  simp only [F31, p31]
  rw [F73_eq]
  unfold leaS
  cases hm : mayS m slot with
  | false => rfl
  | true =>
    obtain ⟨m1, m2, _⟩ := may_spec hm
    simp only [Bool.not_true, if_true]
    rw [F50_eq' R h hl]
    by_cases ht : totS l < 9223372036854775808
    · rw [if_pos ht, if_pos ht]
      have n0 : ((0 : Int) != 0) = false := rfl
      simp only [n0]
      rw [F74_eq R ha ⟨m1, m2⟩ h ht hl]
    · rw [if_neg ht, if_neg ht]; rfl
theorem F32_eq (R : Type) {a : List Int} (ha : H32 a) (slot m : Int) {l : List Int} (h : AllU64 l) (hl : l.length ≤ 200) (k : Int → Int → Option R) : F32 R a slot m l k = k (leaS a slot m l).1 (leaS a slot m l).2 := by
  simp only [F32, p32]
  rw [F75_eq]
  unfold leaS
  cases hm : mayS m slot with
  | false => rfl
  | true =>
    obtain ⟨m1, m2, _⟩ := may_spec hm
    simp only [Bool.not_true, if_true]
    rw [F22_eq R h hl]
    by_cases ht : totS l < 9223372036854775808
    · rw [if_pos ht, if_pos ht]
      have n0 : ((0 : Int) != 0) = false := rfl
      simp only [n0]
      rw [F76_eq R a (by omega) ⟨m1, m2⟩]
      show F60 R l (srcS a 1 slot) m _ = _
      rw [F60_eq' R h hl (srcS_ok ha (by omega) ⟨m1, m2⟩)]
    · rw [if_neg ht, if_neg ht]; rfl
noncomputable def aliS (a : List Int) (slot m : Int) (l : List Int) : Int × Int :=
  if mayS m slot = true then ((pickL l (srcS a 2 slot) m).1, (pickL l (srcS a 2 slot) m).2.2) else (0, 1)
theorem F33_eq (R : Type) {a : List Int} (ha : H32 a) (slot m : Int) {l : List Int} (h : AllU64 l) (hl : l.length ≤ 200) (k : Int → Int → Option R) : F33 R a slot m l k = k (aliS a slot m l).1 (aliS a slot m l).2 := by
  simp only [F33, p33]
  rw [F73_eq]
  unfold aliS
  cases hm : mayS m slot with
  | false => rfl
  | true =>
    obtain ⟨m1, m2, _⟩ := may_spec hm
    simp only [Bool.not_true, if_true]
    rw [F77_eq R a m (by omega) ⟨m1, m2⟩]
    show F16 R (srcS a 2 slot) m l _ = _
    rw [F16_eq R h (by omega) (srcS_ok ha (by omega) ⟨m1, m2⟩)]
theorem F34_eq (R : Type) {a : List Int} (ha : H32 a) (slot m : Int) {l : List Int} (h : AllU64 l) (hl : l.length ≤ 200) (k : Int → Int → Option R) : F34 R a slot m l k = k (aliS a slot m l).1 (aliS a slot m l).2 := by
  simp only [F34, p34]
  rw [F75_eq]
  unfold aliS
  cases hm : mayS m slot with
  | false => rfl
  | true =>
    obtain ⟨m1, m2, _⟩ := may_spec hm
    simp only [Bool.not_true, if_true]
    rw [F76_eq R a (by omega) ⟨m1, m2⟩]
    show F17 R l (srcS a 2 slot) m _ = _
    rw [F17_eq R h (by omega) (srcS_ok ha (by omega) ⟨m1, m2⟩)]
noncomputable def sitS (a : List Int) (slot c m : Int) (l : List Int) : List Int × Int :=
  if mayS m slot = true then ((comL l c (srcS a 3 slot) m).1, (comL l c (srcS a 3 slot) m).2.2) else ([], 1)
theorem F37_eq (R : Type) {a : List Int} (ha : H32 a) (slot c m : Int) {l : List Int} (h : AllU64 l) (hl : l.length ≤ 200) (k : List Int → Int → Option R) : F37 R a slot c m l k = k (sitS a slot c m l).1 (sitS a slot c m l).2 := by
  simp only [F37, p37]
  rw [F73_eq]
  unfold sitS
  cases hm : mayS m slot with
  | false => rfl
  | true =>
    obtain ⟨m1, m2, _⟩ := may_spec hm
    simp only [Bool.not_true, if_true]
    rw [F77_eq R a m (by omega) ⟨m1, m2⟩]
    show F19 R c (srcS a 3 slot) m l _ = _
    rw [F19_eq R h hl (srcS_ok ha (by omega) ⟨m1, m2⟩)]
theorem F38_eq (R : Type) {a : List Int} (ha : H32 a) (slot c m : Int) {l : List Int} (h : AllU64 l) (hl : l.length ≤ 200) (k : List Int → Int → Option R) : F38 R a slot c m l k = k (sitS a slot c m l).1 (sitS a slot c m l).2 := by
  simp only [F38, p38]
  rw [F75_eq]
  unfold sitS
  cases hm : mayS m slot with
  | false => rfl
  | true =>
    obtain ⟨m1, m2, _⟩ := may_spec hm
    simp only [Bool.not_true, if_true]
    rw [F22_eq R h hl]
    unfold comL
    by_cases ht : totS l < 9223372036854775808
    · rw [if_pos ht, if_pos ht]
      have n0 : ((0 : Int) != 0) = false := rfl
      simp only [n0]
      rw [F76_eq R a (by omega) ⟨m1, m2⟩]
      show F24 R l c (srcS a 3 slot) m _ = _
      rw [F24_eq R h ht hl (srcS_ok ha (by omega) ⟨m1, m2⟩)]
    · rw [if_neg ht, if_neg ht]; rfl
theorem G21_eq' (R : Type) (l r : List Int) (hl : l.length ≤ 1000000) (hr : l.length = r.length) (k0 : Bool → Option R) (k1 : Option R) : ∀ (m i : Nat), i ≤ l.length → l.length - i < m → l.take i = r.take i →
    G21_4 m R l r (i : Int) k0 k1 = if l = r then k1 else k0 false
  | 0, i, _, h, _ => by omega
  | m + 1, i, h1, h2, h3 => by
    simp only [G21_4, p21_4]
    by_cases hi : i < l.length
    · have hd : decide ((i : Int) < (l.length : Int)) = true := decide_eq_true (by omega)
      have hbn : bnd (i : Int) (l.length : Int) = true := by unfold bnd; simp; omega
      have hbr : bnd (i : Int) (r.length : Int) = true := by unfold bnd; simp; omega
      simp only [hd, hbn, hbr, Int.toNat_natCast]
      by_cases he : l.getD i 0 = r.getD i 0
      · have e1 : (l.getD i 0 != r.getD i 0) = false := by rw [he]; simp
        simp only [e1]
        rw [wrap_i64 (n := (i : Int) + 1) (by omega) (by omega)]
        refine G21_eq' R l r hl hr k0 k1 m (i + 1) (by omega) (by omega) ?_
        rw [List.take_succ_eq_append_getElem hi, List.take_succ_eq_append_getElem (by omega), h3]
        congr 2
        simpa [hi, show i < r.length by omega] using he
      · have e1 : (l.getD i 0 != r.getD i 0) = true := by simpa using he
        simp only [e1]
        rw [if_neg (fun e => he (by rw [e]))]
    · have : i = l.length := by omega
      subst this
      have hd : decide ((l.length : Int) < (l.length : Int)) = false := by simp
      simp only [hd]
      rw [List.take_length, hr, List.take_length] at h3
      rw [if_pos h3]
theorem F21_eq (R : Type) (l r : List Int) (hl : l.length ≤ 1000000) (k : Bool → Option R) : F21 R l r k = k (decide (l = r)) := by
  simp only [F21, p21]
  by_cases hr : l.length = r.length
  · have e : ((l.length : Int) != (r.length : Int)) = false := by rw [hr]; simp
    simp only [e]
    have := G21_eq' R l r hl hr (fun x4 => k x4) (k true) FUEL 0 (by omega) (by rw [FUEL_eq]; omega) (by simp)
    refine Eq.trans ?_ (this.trans ?_)
    · rfl
    by_cases h : l = r
    · rw [if_pos h, decide_eq_true h]
    · rw [if_neg h, decide_eq_false h]
  · have e : ((l.length : Int) != (r.length : Int)) = true := by
      have : ¬ (l.length : Int) = (r.length : Int) := by omega
      simpa using this
    simp only [e]
    rw [decide_eq_false (fun h => hr (by rw [h]))]
end Go.PG
namespace Go.PG
noncomputable def schV (a : List Int) (m : Int) (l : List Int) (i : Nat) : Int := if (leaS a (i : Int) m l).2 = 0 then (leaS a (i : Int) m l).1 else -1
noncomputable def schP (a : List Int) (m : Int) (l : List Int) (n : Nat) : List Int := (List.range n).map (schV a m l)
theorem schP_len (a : List Int) (m : Int) (l : List Int) (n : Nat) : (schP a m l n).length = n := by simp [schP]
theorem schP_succ (a : List Int) (m : Int) (l : List Int) (n : Nat) : schP a m l n ++ [schV a m l n] = schP a m l (n + 1) := by simp [schP, List.range_succ]
noncomputable def schL (a : List Int) (n m : Int) (l : List Int) : List Int × Int :=
  if n < 1 then ([], 1) else if mayS m (n - 1) = true then (if totS l < 9223372036854775808 then (schP a m l n.toNat, 0) else ([], 11)) else ([], 1)
theorem may_le {m : Int} {n i : Int} (h : mayS m n = true) (h0 : 0 ≤ i) (h1 : i ≤ n) : mayS m i = true := by
  obtain ⟨a, b, c, d⟩ := may_spec h
  unfold mayS
  simp
  omega
theorem G35_eq (R : Type) {a : List Int} (ha : H32 a) {m : Int} {l : List Int} (h : AllU64 l) (ht : totS l < 9223372036854775808) (hl : l.length ≤ 200) {N : Nat} (hN : N ≤ 1024) (hm : ∀ i : Nat, i < N → mayS m (i : Int) = true) (k0 : List Int → Option R) : ∀ (f i : Nat), i ≤ N → N - i < f →
    G35_9 f R (N : Int) (i : Int) (a, m, ()) (treeS l, ()) (schP a m l i ++ List.replicate (N - i) 0) k0 = k0 (schP a m l N)
  | 0, _, _, hh => by omega
  | f + 1, i, h1, h2 => by
    simp only [G35_9, p35_9]
    have hlen : (schP a m l i ++ List.replicate (N - i) (0 : Int)).length = N := by simp [schP_len]; omega
    by_cases hi : i < N
    · have hd : decide ((i : Int) < (N : Int)) = true := decide_eq_true (by omega)
      simp only [hd]
      rw [F74_eq R ha (by omega) h ht hl]
      have hb : bnd (i : Int) ((schP a m l i ++ List.replicate (N - i) (0 : Int)).length : Int) = true := by rw [hlen]; unfold bnd; simp; omega
      have hle : leaS a (i : Int) m l = ((leadR l (srcS a 1 (i : Int)) m).1, (leadR l (srcS a 1 (i : Int)) m).2.2) := by unfold leaS; rw [if_pos (hm i hi), if_pos ht]
      simp only [hb, Int.toNat_natCast]
      have hset : ∀ v : Int, (schP a m l i ++ List.replicate (N - i) (0 : Int)).set i v = schP a m l i ++ [v] ++ List.replicate (N - (i + 1)) 0 := fun v => by
        rw [show N - i = N - (i + 1) + 1 by omega]
        exact set_app _ _ _ _ (schP_len a m l i)
      rw [wrap_i64 (n := (i : Int) + 1) (by omega) (by omega), show (i : Int) + 1 = ((i + 1 : Nat) : Int) by omega]
      by_cases he : (leadR l (srcS a 1 (i : Int)) m).2.2 = 0
      · have e1 : ((leadR l (srcS a 1 (i : Int)) m).2.2 != 0) = false := by simp [he]
        simp only [e1, hset]
        have hv : (leadR l (srcS a 1 (i : Int)) m).1 = schV a m l i := by unfold schV; rw [hle]; rw [if_pos he]
        rw [hv, schP_succ]
        exact G35_eq R ha h ht hl hN hm k0 f (i + 1) (by omega) (by omega)
      · have e1 : ((leadR l (srcS a 1 (i : Int)) m).2.2 != 0) = true := by simp [he]
        have hb2 : bnd (i : Int) ((schP a m l i ++ [(leadR l (srcS a 1 (i : Int)) m).1] ++ List.replicate (N - (i + 1)) (0 : Int)).length : Int) = true := by
          unfold bnd; simp [schP_len]; omega
        simp only [e1, hset, hb2]
        have hv : (-1 : Int) = schV a m l i := by unfold schV; rw [hle]; rw [if_neg he]
        have hset2 : (schP a m l i ++ [(leadR l (srcS a 1 (i : Int)) m).1] ++ List.replicate (N - (i + 1)) (0 : Int)).set i (-1) = schP a m l i ++ [(-1 : Int)] ++ List.replicate (N - (i + 1)) 0 := by
          rw [List.append_assoc, List.set_append_right _ _ (by rw [schP_len]; exact Nat.le_refl _), schP_len, Nat.sub_self]
          simp
        rw [hset2, hv, schP_succ]
        exact G35_eq R ha h ht hl hN hm k0 f (i + 1) (by omega) (by omega)
    · have : i = N := by omega
      subst this
      have hd : decide ((i : Int) < (i : Int)) = false := by simp
      simp only [hd]
      rw [Nat.sub_self, List.replicate_zero, List.append_nil]
theorem F35_eq (R : Type) {a : List Int} (ha : H32 a) {n : Int} (hn : n ≤ 9223372036854775807) (m : Int) {l : List Int} (h : AllU64 l) (hl : l.length ≤ 200) (k : List Int → Int → Option R) : F35 R a n m l k = k (schL a n m l).1 (schL a n m l).2 := by
  simp only [F35, p35]
  unfold schL
  by_cases h1 : n < 1
  · simp only [decide_eq_true h1, if_pos h1]
  · simp only [decide_eq_false h1, if_neg h1]
    rw [wrap_i64 (n := n - 1) (by omega) (by omega), F73_eq]
    cases hm : mayS m (n - 1) with
    | false => rfl
    | true =>
      obtain ⟨m1, m2, _⟩ := may_spec hm
      simp only [Bool.not_true, if_true]
      rw [F50_eq' R h hl]
      by_cases ht : totS l < 9223372036854775808
      · rw [if_pos ht, if_pos ht]
        have n0 : ((0 : Int) != 0) = false := rfl
        have hc : decide (0 ≤ n ∧ n ≤ n ∧ n ≤ (17592186044416 : Int)) = true := decide_eq_true (by omega)
        simp only [n0, hc, List.length_replicate]
        have := G35_eq R ha h ht hl (N := n.toNat) (by omega) (fun i hi => may_le hm (by omega) (by omega)) (fun x9 => k x9 0) FUEL 0 (by omega) (by rw [FUEL_eq]; omega)
        exact this
      · rw [if_neg ht, if_neg ht]; rfl
theorem G36_eq (R : Type) {a : List Int} (ha : H32 a) {m : Int} {l : List Int} (h : AllU64 l) (hl : l.length ≤ 200) {N : Nat} (hN : N ≤ 1024) (k0 : List Int → Option R) : ∀ (f i : Nat), i ≤ N → N - i < f →
    G36_8 f R (N : Int) m l (i : Int) a (schP a m l i) k0 = k0 (schP a m l N)
  | 0, _, _, hh => by omega
  | f + 1, i, h1, h2 => by
    simp only [G36_8, p36_8]
    by_cases hi : i < N
    · have hd : decide ((i : Int) < (N : Int)) = true := decide_eq_true (by omega)
      simp only [hd]
      rw [F32_eq R ha _ _ h hl]
      have hcap : ∀ y : Int, decide ((schP a m l i).length + List.length [y] ≤ 17592186044416) = true := fun y => by rw [schP_len]; simp; omega
      simp only [hcap]
      rw [wrap_i64 (n := (i : Int) + 1) (by omega) (by omega), show (i : Int) + 1 = ((i + 1 : Nat) : Int) by omega]
      by_cases he : (leaS a (i : Int) m l).2 = 0
      · have e1 : ((leaS a (i : Int) m l).2 != 0) = false := by simp [he]
        simp only [e1]
        have hv : (leaS a (i : Int) m l).1 = schV a m l i := by unfold schV; rw [if_pos he]
        rw [hv, schP_succ]
        exact G36_eq R ha h hl hN k0 f (i + 1) (by omega) (by omega)
      · have e1 : ((leaS a (i : Int) m l).2 != 0) = true := by simp [he]
        simp only [e1]
        have hv : (-1 : Int) = schV a m l i := by unfold schV; rw [if_neg he]
        rw [hv, schP_succ]
        exact G36_eq R ha h hl hN k0 f (i + 1) (by omega) (by omega)
    · have : i = N := by omega
      subst this
      have hd : decide ((i : Int) < (i : Int)) = false := by simp
      simp only [hd]
theorem F36_eq (R : Type) {a : List Int} (ha : H32 a) {n : Int} (hn : n ≤ 9223372036854775807) (m : Int) {l : List Int} (h : AllU64 l) (hl : l.length ≤ 200) (k : List Int → Int → Option R) : F36 R a n m l k = k (schL a n m l).1 (schL a n m l).2 := by
  simp only [F36, p36]
  unfold schL
  by_cases h1 : n < 1
  · simp only [decide_eq_true h1, if_pos h1]
  · simp only [decide_eq_false h1, if_neg h1]
    rw [wrap_i64 (n := n - 1) (by omega) (by omega), F75_eq]
    cases hm : mayS m (n - 1) with
    | false => rfl
    | true =>
      obtain ⟨m1, m2, _⟩ := may_spec hm
      simp only [Bool.not_true, if_true]
      rw [F22_eq R h hl]
      by_cases ht : totS l < 9223372036854775808
      · rw [if_pos ht, if_pos ht]
        have n0 : ((0 : Int) != 0) = false := rfl
        simp only [n0]
        have := G36_eq R ha (m := m) h hl (N := n.toNat) (by omega) (fun x9 => k x9 0) FUEL 0 (by omega) (by rw [FUEL_eq]; omega)
        rw [show ((n.toNat : Nat) : Int) = n by omega] at this
        exact this
      · rw [if_neg ht, if_neg ht]; rfl
theorem schL_len {a : List Int} {n m : Int} {l : List Int} (hn : mayS m (n - 1) = true ∨ True) : (schL a n m l).1.length ≤ 1000000 := by
  unfold schL
  split
  · simp
  · split
    · rename_i hm
      obtain ⟨_, _, _⟩ := may_spec hm
      split
      · simp [schP_len]; omega
      · simp
    · simp
def Z32 : List Int := List.replicate 32 0
theorem Z32_ok : H32 Z32 := ⟨rfl, fun y hy => by
  have : y = 0 := List.eq_of_mem_replicate hy
  subst this; unfold U8; omega⟩
theorem al1 : leaS Z32 3 64 [0, 1] = (1, 0) := by kernel_rfl
theorem al2 : schL Z32 3 64 [0, 1] = ([1, 1, 1], 0) := by kernel_rfl
theorem al3 : aliS Z32 3 64 [0, 1] = (1, 0) := by kernel_rfl
theorem al4 : sitS Z32 3 1 64 [0, 9] = ([1], 0) := by kernel_rfl
theorem al5 : leaS Z32 1024 64 [1] = (0, 1) := by kernel_rfl
theorem al6 : schL Z32 2 64 [0] = ([-1, -1], 0) := by kernel_rfl
theorem al7 : leaS Z32 0 64 [0] = (0, 10) := by kernel_rfl
theorem F30_eq (R : Type) (k : Bool → Option R) : F30 R k = k true := by
  have u : ∀ x : Int, 0 ≤ x ∧ x ≤ 9 → U64 x := fun x h => by unfold U64; omega
  have u1 : AllU64 [0, 1] := fun x hx => u x (by simp at hx; omega)
  have u2 : AllU64 [0, 9] := fun x hx => u x (by simp at hx; omega)
  have u3 : AllU64 [1] := fun x hx => u x (by simp at hx; omega)
  have u4 : AllU64 [0] := fun x hx => u x (by simp at hx; omega)
  have hz : List.replicate 32 (0 : Int) = Z32 := rfl
  simp only [F30, p30, hz]
  rw [F31_eq R Z32_ok _ _ u1 (by simp), F35_eq R Z32_ok (by omega) _ u1 (by simp), F33_eq R Z32_ok _ _ u1 (by simp), F37_eq R Z32_ok _ _ _ u2 (by simp), F31_eq R Z32_ok _ _ u3 (by simp), F35_eq R Z32_ok (by omega) _ u4 (by simp), F31_eq R Z32_ok _ _ u4 (by simp), al1, al2, al3, al4, al5, al6, al7]
  have b0 : ((0 : Int) == 0) = true := rfl
  have b1 : ((1 : Int) == 1) = true := rfl
  have b2 : ((10 : Int) == 10) = true := rfl
  simp only [b0, b1, b2]
  rw [F21_eq R _ _ (by simp)]
  simp only [decide_true]
  rw [F21_eq R _ _ (by simp)]
  simp only [decide_true]
  rw [F21_eq R _ _ (by simp)]
  simp only [decide_true]
theorem F8_eq' (R : Type) {a : List Int} (ha : H32 a) (p : List Int) {l : List Int} (h : AllU64 l) (k : Bool → Option R) : F8 R a p l k = k true := by
  simp only [F8, p8]
  rw [F30_eq]
  simp only [Bool.not_true]
  by_cases hl : (l.length : Int) > 100
  · simp only [decide_eq_true hl]
  · simp only [decide_eq_false hl]
    rw [F31_eq R ha _ _ h (by omega), F32_eq R ha _ _ h (by omega), F33_eq R ha _ _ h (by omega), F34_eq R ha _ _ h (by omega)]
    simp only [beq_self_eq_true]
theorem F9_eq' (R : Type) {a : List Int} (ha : H32 a) {p : List Int} (hp : p.getD 0 0 ≤ 9223372036854775807) {l : List Int} (h : AllU64 l) (k : Bool → Option R) : F9 R a p l k = k true := by
  simp only [F9, p9]
  rw [F30_eq]
  simp only [Bool.not_true]
  by_cases hl : (l.length : Int) > 100
  · simp only [decide_eq_true hl]
  · simp only [decide_eq_false hl]
    have main : (F35 R a (p.getD 0 0) (p.getD 1 0) l fun y20 y21 => F36 R a (p.getD 0 0) (p.getD 1 0) l fun y24 y25 => F21 R y20 y24 fun y26 => (match y26 with | true => k (y21 == y25) | false => k false)) = k true := by
      rw [F35_eq R ha hp _ h (by omega), F36_eq R ha hp _ h (by omega), F21_eq R _ _ (schL_len (.inr trivial))]
      simp only [decide_true, beq_self_eq_true]
    by_cases h1 : p.getD 0 0 > 40
    · simp only [decide_eq_true h1]
      by_cases h2 : p.getD 0 0 ≤ 1024
      · simp only [decide_eq_true h2]
      · simp only [decide_eq_false h2]
        exact main
    · simp only [decide_eq_false h1]
      exact main
theorem comF_len (m : Int) : ∀ (n : Nat) (l : List Int) (s : Src) (mem : List Int), (comF m n l s mem).1.length ≤ mem.length + n
  | 0, _, _, _ => by simp [comF]
  | n + 1, l, s, mem => by
    simp only [comF]
    split
    · have := comF_len m n (l.set (leadR l s m).1.toNat 0) (leadR l s m).2.1 (mem ++ [(leadR l s m).1])
      simp at this
      omega
    · simp
theorem comR_len (l : List Int) (c : Int) (s : Src) (m : Int) : (comR l c s m).1.length ≤ 256 := by
  unfold comR
  split
  · split
    · simp
    · have := comF_len m c.toNat l s []
      simp at this
      omega
  · simp
theorem comL_len (l : List Int) (c : Int) (s : Src) (m : Int) : (comL l c s m).1.length ≤ 256 := by
  unfold comL
  split
  · exact comR_len l c s m
  · simp
theorem F10_eq' (R : Type) {a : List Int} (ha : H32 a) (p : List Int) {l : List Int} (h : AllU64 l) (k : Bool → Option R) : F10 R a p l k = k true := by
  simp only [F10, p10]
  rw [F30_eq]
  simp only [Bool.not_true]
  by_cases hl : (l.length : Int) > 60
  · simp only [decide_eq_true hl]
  · simp only [decide_eq_false hl]
    rw [F37_eq R ha _ _ _ h (by omega), F38_eq R ha _ _ _ h (by omega), F21_eq R _ _ (by
      unfold sitS
      split
      · have := comL_len l (p.getD 1 0) (srcS a 3 (p.getD 0 0)) (p.getD 2 0)
        show (comL _ _ _ _).1.length ≤ 1000000
        omega
      · simp)]
    simp only [decide_true, beq_self_eq_true]
end Go.PG
