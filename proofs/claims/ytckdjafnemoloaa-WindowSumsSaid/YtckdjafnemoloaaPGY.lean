/- A part of the proofs over this seat (own work; the framework that reads a Go function as a pure one, or a use of it). No condition of its own. -/
import Derived.Test.YtckdjafnemoloaaPGX
set_option linter.unusedVariables false
set_option linter.unusedSimpArgs false
namespace Go.PG
/-! Regions that draw their order. -/
inductive Reach (ops : Array Oper) : Nat → Nat → Prop
  | one {j : Nat} {o : Oper} {e : Edge} : ops[j]? = some o → e ∈ o.after → Region.binds .any e = true → Reach ops j e.on
  | more {j m : Nat} {o : Oper} {e : Edge} : ops[j]? = some o → e ∈ o.after → Region.binds .any e = true → Reach ops e.on m → Reach ops j m

def Closed (ops : Array Oper) (D : Nat → Bool) : Prop := ∀ j, D j = true → ∀ o, ops[j]? = some o → ∀ e ∈ o.after, Region.binds .any e = true → D e.on = true

theorem Reach.closed {ops : Array Oper} {D : Nat → Bool} (hD : Closed ops D) {j m : Nat} (h : Reach ops j m) (hj : D j = true) : D m = true := by
  induction h with
  | one ho he hb => exact hD _ hj _ ho _ he hb
  | more ho he hb _ ih => exact ih (hD _ hj _ ho _ he hb)
theorem Reach.ready {ops : Array Oper} {D : Nat → Bool} (hD : Closed ops D) {j m : Nat} (h : Reach ops j m) (hj : ∀ o, ops[j]? = some o → ∀ e ∈ o.after, Region.binds .any e = true → D e.on = true) : D m = true := by
  cases h with
  | one ho he hb => exact hj _ ho _ he hb
  | more ho he hb h => exact h.closed hD (hj _ ho _ he hb)

section
variable {C : Ctx} {P : Program} {ops : Array Oper}

theorem before1_spec {acc : List Nat} {i : Nat} (hacc : ∀ j m, Nat.testBit (acc.getD j 0) m = true → Reach ops j m) {o : Oper} (ho : ops[i]? = some o) :
    ∀ (es : List Edge) (s : Nat), (∀ e ∈ es, e ∈ o.after) → (∀ m, Nat.testBit s m = true → Reach ops i m) →
      ∀ m, Nat.testBit (es.foldl (fun s e => match Region.binds .any e with | true => s ||| (2 ^ e.on ||| acc.getD e.on 0) | false => s) s) m = true → Reach ops i m
  | [], s, _, hs, m, h => hs m h
  | e :: es, s, hes, hs, m, h => by
    rw [List.foldl_cons] at h
    refine before1_spec hacc ho es _ (fun e' he' => hes e' (List.mem_cons_of_mem _ he')) (fun m' hm' => ?_) m h
    have hmem := hes e (by simp)
    cases hb : Region.binds .any e with
    | false => rw [hb] at hm'; exact hs m' hm'
    | true =>
      rw [hb] at hm'
      simp only [Nat.testBit_or, Bool.or_eq_true] at hm'
      rcases hm' with h1 | h1 | h1
      · exact hs m' h1
      · rw [Nat.testBit_two_pow] at h1
        have := of_decide_eq_true h1
        subst this
        exact .one ho hmem hb
      · exact .more ho hmem hb (hacc _ _ h1)

theorem befores_spec : ∀ (l : List Oper) (acc : List Nat), (∀ j, l[j]? = ops[acc.length + j]?) → (∀ j m, Nat.testBit (acc.getD j 0) m = true → Reach ops j m) → ∀ j m, Nat.testBit ((befores l acc).getD j 0) m = true → Reach ops j m
  | [], acc, _, h, j, m, hm => h j m hm
  | o :: l, acc, hl, h, j, m, hm => by
    have ho : ops[acc.length]? = some o := by simpa using (hl 0).symm
    refine befores_spec l (acc ++ [before1 acc o.after.toList]) (fun j => ?_) (fun j m hm => ?_) j m hm
    · have := hl (j + 1)
      simpa [Nat.add_assoc, Nat.add_comm 1 j] using this
    · rcases Nat.lt_trichotomy j acc.length with h1 | h1 | h1
      · rw [List.getD_eq_getElem?_getD, List.getElem?_append_left h1, ← List.getD_eq_getElem?_getD] at hm; exact h j m hm
      · subst h1
        rw [List.getD_eq_getElem?_getD, List.getElem?_append_right (Nat.le_refl _)] at hm
        simp at hm
        exact before1_spec h ho o.after.toList 0 (fun e he => by simpa using he) (fun m hm => by simp at hm) m hm
      · rw [List.getD_eq_getElem?_getD, List.getElem?_append_right (by omega), List.getElem?_eq_none (by simp; omega)] at hm
        simp at hm

theorem backs_spec : ∀ (l : List Oper) (i : Nat), backs i l = true → ∀ j o, l[j]? = some o → ∀ e ∈ o.after, Region.binds .any e = true → e.on < i + j
  | [], i, _, j, o, h, e, he, hb => by simp at h
  | o' :: l, i, hh, j, o, h, e, he, hb => by
    simp only [backs, Bool.and_eq_true] at hh
    cases j with
    | zero =>
      simp at h
      subst h
      have := List.all_eq_true.1 hh.1 e (by simpa using he)
      rw [hb] at this
      simpa [Nat.blt_eq] using this
    | succ j =>
      have := backs_spec l (i + 1) hh.2 j o (by simpa using h) e he hb
      omega

theorem ordFrom_spec {x : Oper} {ax : List Nat × List Nat} {i : Nat} : ∀ {ys : List Oper} {ays : List (List Nat × List Nat)} {bs : List Nat}, ordFrom ops x ax i ys ays bs = true → ∀ j y, ys[j]? = some y →
    ∃ ay, ays[j]? = some ay ∧ (Nat.testBit (bs.getD j 0) i = true ∨ indep ops x ax y ay = true)
  | y :: ys, ay :: ays, b :: bs, h, 0, y', hy => by
    simp only [ordFrom, Bool.and_eq_true, Bool.or_eq_true] at h
    simp at hy; subst hy
    exact ⟨ay, rfl, by simpa using h.1⟩
  | y :: ys, ay :: ays, b :: bs, h, j + 1, y', hy => by
    simp only [ordFrom, Bool.and_eq_true, Bool.or_eq_true] at h
    obtain ⟨ay', h1, h2⟩ := ordFrom_spec h.2 j y' (by simpa using hy)
    exact ⟨ay', by simpa using h1, by simpa using h2⟩
  | [], _, _, _, j, y', hy => by simp at hy
  | y :: ys, [], _, h, _, _, _ => by simp [ordFrom] at h
  | y :: ys, ay :: ays, [], h, _, _, _ => by simp [ordFrom] at h

theorem ordAll_spec : ∀ {xs : List Oper} {axs : List (List Nat × List Nat)} {bs : List Nat} {n : Nat}, ordAll ops n xs axs bs = true → ∀ i j x y, xs[i]? = some x → xs[j]? = some y → i < j →
    ∃ ax ay, axs[i]? = some ax ∧ axs[j]? = some ay ∧ (Nat.testBit (bs.getD j 0) (n + i) = true ∨ indep ops x ax y ay = true)
  | x :: xs, ax :: axs, b :: bs, n, h, i, j, x', y', hx, hy, hij => by
    simp only [ordAll, Bool.and_eq_true] at h
    cases j with
    | zero => omega
    | succ j =>
      cases i with
      | zero =>
        simp at hx; subst hx
        obtain ⟨ay, h1, h2⟩ := ordFrom_spec h.1 j y' (by simpa using hy)
        exact ⟨ax, ay, rfl, by simpa using h1, by simpa using h2⟩
      | succ i =>
        obtain ⟨ax', ay, h1, h2, h3⟩ := ordAll_spec h.2 i j x' y' (by simpa using hx) (by simpa using hy) (by omega)
        exact ⟨ax', ay, by simpa using h1, by simpa using h2, by rw [show n + (i + 1) = n + 1 + i by omega]; simpa using h3⟩
  | [], _, _, _, _, i, j, x, y, hx, _, _ => by simp at hx
  | x :: xs, [], _, _, h, _, _, _, _, _, _, _ => by simp [ordAll] at h
  | x :: xs, ax :: axs, [], _, h, _, _, _, _, _, _, _ => by simp [ordAll] at h

/-! the state behind a set of operations -/
def tmD (D : Nat → Bool) : Nat → List (Oper × Cert) → (Nat → SV) → (Nat → SV)
  | _, [], tm => tm
  | i, p :: l, tm => tmD D (i + 1) l (if D i then putO tm p.1.dst p.2.sv else tm)
def meD (D : Nat → Bool) : Nat → List (Oper × Cert) → (Nat → Option Blk) → (Nat → Option Blk)
  | _, [], me => me
  | i, p :: l, me => meD D (i + 1) l (if D i then laid p.2.wr me else me)

theorem putO_other {tm : Nat → SV} {dst : Option Tmp} {sv : SV} {t : Nat} (h : dst ≠ some t) : putO tm dst sv t = tm t := by
  cases dst with
  | none => rfl
  | some d => exact upd_other _ _ (fun e => h (by rw [e]))
theorem laid_other {wr : List (Nat × Blk)} {me : Nat → Option Blk} {q : Nat} (h : mget wr q = none) : laid wr me q = me q := by unfold laid; rw [h]

theorem tmD_agree {D D' : Nat → Bool} {t : Nat} : ∀ {l : List (Oper × Cert)} {i : Nat} {tm tm' : Nat → SV}, tm t = tm' t → (∀ j p, l[j]? = some p → p.1.dst = some t → D (i + j) = D' (i + j)) → tmD D i l tm t = tmD D' i l tm' t
  | [], _, _, _, h, _ => h
  | p :: l, i, tm, tm', h, hD => by
    simp only [tmD]
    refine tmD_agree ?_ (fun j p' hj hd => by have := hD (j + 1) p' (by simpa using hj) hd; rwa [show i + (j + 1) = i + 1 + j by omega] at this)
    by_cases hd : p.1.dst = some t
    · have := hD 0 p rfl hd
      rw [Nat.add_zero] at this
      rw [this]
      split
      · rw [hd]; simp [putO]
      · exact h
    · have e1 : (if D i then putO tm p.1.dst p.2.sv else tm) t = tm t := by split; exact putO_other hd; rfl
      have e2 : (if D' i then putO tm' p.1.dst p.2.sv else tm') t = tm' t := by split; exact putO_other hd; rfl
      rw [e1, e2, h]
theorem meD_agree {D D' : Nat → Bool} {q : Nat} : ∀ {l : List (Oper × Cert)} {i : Nat} {me me' : Nat → Option Blk}, me q = me' q → (∀ j p, l[j]? = some p → mget p.2.wr q ≠ none → D (i + j) = D' (i + j)) → meD D i l me q = meD D' i l me' q
  | [], _, _, _, h, _ => h
  | p :: l, i, me, me', h, hD => by
    simp only [meD]
    refine meD_agree ?_ (fun j p' hj hd => by have := hD (j + 1) p' (by simpa using hj) hd; rwa [show i + (j + 1) = i + 1 + j by omega] at this)
    by_cases hd : mget p.2.wr q = none
    · have e1 : (if D i then laid p.2.wr me else me) q = me q := by split; exact laid_other hd; rfl
      have e2 : (if D' i then laid p.2.wr me' else me') q = me' q := by split; exact laid_other hd; rfl
      rw [e1, e2, h]
    · have := hD 0 p rfl hd
      rw [Nat.add_zero] at this
      rw [this]
      split
      · unfold laid; split <;> simp_all
      · exact h

/-- The last writer's value stays. -/
theorem tmD_last {D : Nat → Bool} {t : Nat} : ∀ {l : List (Oper × Cert)} {i i0 : Nat} {tm : Nat → SV} {p : Oper × Cert}, l[i0]? = some p → p.1.dst = some t → D (i + i0) = true → (∀ j p', l[j]? = some p' → i0 < j → D (i + j) = true → p'.1.dst ≠ some t) → tmD D i l tm t = p.2.sv
  | p' :: l, i, 0, tm, p, h, hd, hD, hlast => by
    simp at h; subst h
    simp only [tmD]
    rw [Nat.add_zero] at hD
    rw [hD]
    have := tmD_agree (D := D) (D' := fun _ => false) (t := t) (l := l) (i := i + 1) (tm := putO tm p'.1.dst p'.2.sv) (tm' := putO tm p'.1.dst p'.2.sv) rfl (fun j p2 hj hd2 => by
      cases hDj : D (i + 1 + j) with
      | false => rfl
      | true => exact absurd hd2 (hlast (j + 1) p2 (by simpa using hj) (by omega) (by rwa [show i + (j + 1) = i + 1 + j by omega])))
    simp only [if_true]
    rw [this]
    have hno : ∀ (l : List (Oper × Cert)) (i : Nat) (tm : Nat → SV), tmD (fun _ => false) i l tm = tm := by
      intro l; induction l with
      | nil => intro i tm; rfl
      | cons p l ih => intro i tm; simp only [tmD]; exact ih _ _
    rw [hno, hd]
    simp [putO]
  | p' :: l, i, i0 + 1, tm, p, h, hd, hD, hlast => by
    simp only [tmD]
    exact tmD_last (i0 := i0) (by simpa using h) hd (by rwa [show i + (i0 + 1) = i + 1 + i0 by omega] at hD) (fun j p2 hj hlt hDj => hlast (j + 1) p2 (by simpa using hj) (by omega) (by rwa [show i + (j + 1) = i + 1 + j by omega]))
  | [], _, _, _, _, h, _, _, _ => by simp at h
theorem meD_last {D : Nat → Bool} {q : Nat} {b : Blk} : ∀ {l : List (Oper × Cert)} {i i0 : Nat} {me : Nat → Option Blk} {p : Oper × Cert}, l[i0]? = some p → mget p.2.wr q = some b → D (i + i0) = true → (∀ j p', l[j]? = some p' → i0 < j → D (i + j) = true → mget p'.2.wr q = none) → meD D i l me q = some b
  | p' :: l, i, 0, me, p, h, hd, hD, hlast => by
    simp at h; subst h
    simp only [meD]
    rw [Nat.add_zero] at hD
    rw [hD]
    have := meD_agree (D := D) (D' := fun _ => false) (q := q) (l := l) (i := i + 1) (me := laid p'.2.wr me) (me' := laid p'.2.wr me) rfl (fun j p2 hj hd2 => by
      cases hDj : D (i + 1 + j) with
      | false => rfl
      | true => exact absurd (hlast (j + 1) p2 (by simpa using hj) (by omega) (by rwa [show i + (j + 1) = i + 1 + j by omega])) hd2)
    simp only [if_true]
    rw [this]
    have hno : ∀ (l : List (Oper × Cert)) (i : Nat) (me : Nat → Option Blk), meD (fun _ => false) i l me = me := by
      intro l; induction l with
      | nil => intro i me; rfl
      | cons p l ih => intro i me; simp only [meD]; exact ih _ _
    rw [hno]
    unfold laid; rw [hd]
  | p' :: l, i, i0 + 1, me, p, h, hd, hD, hlast => by
    simp only [meD]
    exact meD_last (i0 := i0) (by simpa using h) hd (by rwa [show i + (i0 + 1) = i + 1 + i0 by omega] at hD) (fun j p2 hj hlt hDj => hlast (j + 1) p2 (by simpa using hj) (by omega) (by rwa [show i + (j + 1) = i + 1 + j by omega]))
  | [], _, _, _, _, h, _, _, _ => by simp at h

theorem Chain.len {i : Nat} {rest : List Oper} {tm : Nat → SV} {me : Nat → Option Blk} {cs : List Cert} {tm' : Nat → SV} {me' : Nat → Option Blk} (h : Chain C P ops i rest tm me cs tm' me') : cs.length = rest.length := by
  induction h with
  | nil => rfl
  | cons _ _ _ ih => simp [ih]

/-- The chain's states are those behind the operations ahead. -/
theorem Chain.states {i : Nat} {rest : List Oper} {tm : Nat → SV} {me : Nat → Option Blk} {cs : List Cert} {tm' : Nat → SV} {me' : Nat → Option Blk} (h : Chain C P ops i rest tm me cs tm' me') :
    (∀ j p, (rest.zip cs)[j]? = some p → JustO C P ops (i + j) p.1 (tmD (fun m => decide (m < i + j)) i (rest.zip cs) tm) (meD (fun m => decide (m < i + j)) i (rest.zip cs) me) p.2 ∧ ops[i + j]? = some p.1) ∧
    tmD (fun _ => true) i (rest.zip cs) tm = tm' ∧ meD (fun _ => true) i (rest.zip cs) me = me' := by
  induction h with
  | nil i tm me => exact ⟨fun j p h => by simp at h, rfl, rfl⟩
  | cons ho hj _ ih =>
    rename_i i o rest tm me c cs tm' me' _
    obtain ⟨h1, h2, h3⟩ := ih
    refine ⟨fun j p hp => ?_, by simpa [tmD] using h2, by simpa [meD] using h3⟩
    cases j with
    | zero =>
      simp at hp; subst hp
      refine ⟨?_, ho⟩
      have hno : ∀ (l : List (Oper × Cert)) (n : Nat) (tm : Nat → SV) (k : Nat), n ≤ k → tmD (fun m => decide (m < n)) k l tm = tm := by
        intro l; induction l with
        | nil => intro n tm k _; rfl
        | cons p l ih => intro n tm k hk; simp only [tmD]; rw [if_neg (by simp; omega)]; exact ih _ _ _ (by omega)
      have hno2 : ∀ (l : List (Oper × Cert)) (n : Nat) (me : Nat → Option Blk) (k : Nat), n ≤ k → meD (fun m => decide (m < n)) k l me = me := by
        intro l; induction l with
        | nil => intro n me k _; rfl
        | cons p l ih => intro n me k hk; simp only [meD]; rw [if_neg (by simp; omega)]; exact ih _ _ _ (by omega)
      rw [Nat.add_zero, hno _ _ _ _ (Nat.le_refl _), hno2 _ _ _ _ (Nat.le_refl _)]
      exact hj
    | succ j =>
      have := h1 j p (by simpa using hp)
      rw [show i + (j + 1) = i + 1 + j by omega]
      simp only [List.zip_cons_cons, tmD, meD]
      rw [if_pos (by simp; omega), if_pos (by simp; omega)]
      exact this
end
end Go.PG
