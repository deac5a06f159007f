/- A part of the proofs over this seat (own work; the framework that reads a Go function as a pure one, or a use of it). No condition of its own. -/
import Derived.Test.YtckdjafnemoloaaPGY
set_option linter.unusedVariables false
set_option linter.unusedSimpArgs false
namespace Go.PG
section
variable {C : Ctx} {P : Program} {ops : Array Oper}

theorem cnt_le {D D' : Nat → Bool} (hD : ∀ j, D j = true → D' j = true) : ∀ (l : List Nat), l.countP (fun j => !D' j) ≤ l.countP (fun j => !D j)
  | [] => Nat.le_refl _
  | x :: l => by
    rw [List.countP_cons, List.countP_cons]
    have := cnt_le hD l
    have h2 := hD x
    cases h : D x <;> cases h' : D' x <;> simp_all <;> omega
theorem cnt_lt {D D' : Nat → Bool} (hD : ∀ j, D j = true → D' j = true) {i : Nat} (hi : D i = false) (hi' : D' i = true) : ∀ (l : List Nat), i ∈ l → l.countP (fun j => !D' j) + 1 ≤ l.countP (fun j => !D j)
  | [], h => by cases h
  | x :: l, h => by
    rw [List.countP_cons, List.countP_cons]
    by_cases e : i = x
    · subst e
      have := cnt_le hD l
      simp [hi, hi']; exact this
    · have := cnt_lt hD hi hi' l (by simpa [e] using h)
      have h2 := hD x
      cases h : D x <;> cases h' : D' x <;> simp_all <;> omega

def accsOf (cs : List Cert) : List (List Nat × List Nat) := cs.map fun c => (c.wr.map (·.1), c.acc)

theorem meets_of {a b : List Nat} {x : Nat} (h1 : x ∈ a) (h2 : x ∈ b) : meets a b = true := by
  unfold meets
  rw [List.any_eq_true]
  exact ⟨x, h1, by simpa using h2⟩

/-- In any two places one comes ahead of the other, or they may be swapped. -/
theorem ord_pair {cs : List Cert} (hok : ordOK ops (accsOf cs) = true) (hlen : cs.length = ops.toList.length) {i j : Nat} {p q : Oper × Cert} (hp : (ops.toList.zip cs)[i]? = some p) (hq : (ops.toList.zip cs)[j]? = some q) (hij : i < j) :
    Reach ops j i ∨ indep ops p.1 (p.2.wr.map (·.1), p.2.acc) q.1 (q.2.wr.map (·.1), q.2.acc) = true := by
  unfold ordOK at hok
  rw [Bool.and_eq_true] at hok
  rw [List.getElem?_zip_eq_some] at hp hq
  obtain ⟨ax, ay, h1, h2, h3⟩ := ordAll_spec hok.2 i j p.1 q.1 hp.1 hq.1 hij
  unfold accsOf at h1 h2
  rw [List.getElem?_map, hp.2] at h1
  rw [List.getElem?_map, hq.2] at h2
  simp only [Option.map_some, Option.some.injEq] at h1 h2
  subst h1 h2
  rcases h3 with h3 | h3
  · left
    refine befores_spec ops.toList [] (fun j => by simp) (fun j m h => by simp at h) j i ?_
    simpa using h3
  · exact .inr h3

theorem wp_any {tm : Nat → SV} {me : Nat → Option Blk} {cs : List Cert} {tm' : Nat → SV} {me' : Nat → Option Blk} (hch : Chain C P ops 0 ops.toList tm me cs tm' me') (hok : ordOK ops (accsOf cs) = true)
    {Q : Exit → Act → World → Prop} (hQ : ∀ pl S a w, Inv C tm' me' pl S a w → Q .normal a w) :
    ∀ (fuel : Nat) (listed : Array Bool) (a : Act) (w : World) (pl : Nat → Plc) (S : Nat → Prop), listed.size = ops.size → Closed ops (fun j => listed.getD j false) →
      (List.range ops.size).countP (fun j => !listed.getD j false) ≤ fuel → Inv C (tmD (fun j => listed.getD j false) 0 (ops.toList.zip cs) tm) (meD (fun j => listed.getD j false) 0 (ops.toList.zip cs) me) pl S a w →
      wpAny P .any ops Q fuel listed a w := by
  have hlen := hch.len
  obtain ⟨hst, hT, hM⟩ := hch.states
  have hbk := (Bool.and_eq_true _ _ ▸ hok : _ ∧ _).1
  intro fuel
  have alldone : ∀ (listed : Array Bool) (a : Act) (w : World) (pl : Nat → Plc) (S : Nat → Prop), (∀ j, j < ops.size → listed.getD j false = true) → Inv C (tmD (fun j => listed.getD j false) 0 (ops.toList.zip cs) tm) (meD (fun j => listed.getD j false) 0 (ops.toList.zip cs) me) pl S a w → Q .normal a w := by
    intro listed a w pl S hall hI
    have hlt : ∀ j p, (ops.toList.zip cs)[j]? = some p → j < ops.size := fun j p h => by
      have := (List.getElem?_eq_some_iff.1 h).1
      simp at this; omega
    have e1 : tmD (fun j => listed.getD j false) 0 (ops.toList.zip cs) tm = tm' := by
      rw [← hT]; funext t
      exact tmD_agree rfl (fun j p hj _ => by rw [Nat.zero_add]; exact hall j (hlt j p hj))
    have e2 : meD (fun j => listed.getD j false) 0 (ops.toList.zip cs) me = me' := by
      rw [← hM]; funext t
      exact meD_agree rfl (fun j p hj _ => by rw [Nat.zero_add]; exact hall j (hlt j p hj))
    rw [e1, e2] at hI
    exact hQ pl S a w hI
  have noready : ∀ (listed : Array Bool), listed.size = ops.size → Region.ready .any ops listed = [] → ∀ j, j < ops.size → listed.getD j false = true := by
    intro listed hsz hr j
    induction j using Nat.strongRecOn with
    | ind j ih =>
      intro hj
      cases hd : listed.getD j false with
      | true => rfl
      | false =>
        have : j ∈ Region.ready .any ops listed := by
          rw [mem_ready]
          refine ⟨?_, ops[j], Array.getElem?_eq_getElem hj, fun e he hb => ?_⟩
          · have hj' : j < listed.size := by omega
            rw [Array.getD_eq_getD_getElem?, Array.getElem?_eq_getElem hj'] at hd ⊢
            simpa using hd
          · have := backs_spec ops.toList 0 hbk j ops[j] (by simp [hj]) e he hb
            rw [Nat.zero_add] at this
            exact ih e.on this (by omega)
        rw [hr] at this; cases this
  induction fuel with
  | zero =>
    intro listed a w pl S hsz hcl hcnt hI
    have hall : ∀ j, j < ops.size → listed.getD j false = true := by
      intro j hj
      have h0 : (List.range ops.size).countP (fun j => !listed.getD j false) = 0 := by omega
      rw [List.countP_eq_zero] at h0
      have := h0 j (by simpa using hj)
      simpa using this
    refine ⟨?_, alldone listed a w pl S hall hI⟩
    cases hr : Region.ready .any ops listed with
    | nil => rfl
    | cons i l =>
      have hi : i ∈ Region.ready .any ops listed := by rw [hr]; simp
      obtain ⟨h1, o, ho, _⟩ := mem_ready.1 hi
      have hlt := (Array.getElem?_eq_some_iff.1 ho).1
      have h2 := hall i hlt
      have hlt' : i < listed.size := by omega
      rw [Array.getD_eq_getD_getElem?, Array.getElem?_eq_getElem hlt'] at h1 h2
      simp at h1 h2; rw [h1] at h2; cases h2
  | succ fuel ih =>
    intro listed a w pl S hsz hcl hcnt hI
    refine ⟨fun hr => alldone listed a w pl S (noready listed hsz hr) hI, fun i hi => ?_⟩
    obtain ⟨hun, o, ho, hrd⟩ := mem_ready.1 hi
    have hlt := (Array.getElem?_eq_some_iff.1 ho).1
    have hlt' : i < listed.size := by omega
    have hDi : listed.getD i false = false := by
      rw [Array.getD_eq_getD_getElem?, Array.getElem?_eq_getElem hlt'] at hun ⊢
      simpa using hun
    have hcl' : i < cs.length := by rw [hlen]; simpa using hlt
    obtain ⟨c, hc⟩ : ∃ c, (ops.toList.zip cs)[i]? = some (o, c) := by
      refine ⟨cs[i], List.getElem?_zip_eq_some.2 ⟨by simpa using ho, List.getElem?_eq_getElem hcl'⟩⟩
    obtain ⟨⟨hwa, hJ⟩, _⟩ := hst i (o, c) hc
    simp only [Nat.zero_add] at hJ
    have hrdy : ∀ o', ops[i]? = some o' → ∀ e ∈ o'.after, Region.binds .any e = true → (fun j => listed.getD j false) e.on = true := fun o' ho' e he hb => by
      rw [ho] at ho'; cases ho'; exact hrd e he hb
    have ahead : ∀ j p, (ops.toList.zip cs)[j]? = some p → j < i → listed.getD j false = true ∨ indep ops p.1 (p.2.wr.map (·.1), p.2.acc) o (c.wr.map (·.1), c.acc) = true := fun j p hp hji => by
      rcases ord_pair hok hlen hp hc hji with h | h
      · exact .inl (h.ready hcl hrdy)
      · exact .inr h
    have behind : ∀ j p, (ops.toList.zip cs)[j]? = some p → i < j → listed.getD j false = true → indep ops o (c.wr.map (·.1), c.acc) p.1 (p.2.wr.map (·.1), p.2.acc) = true := fun j p hp hij hDj => by
      rcases ord_pair hok hlen hc hp hij with h | h
      · have := h.closed hcl hDj
        rw [hDi] at this; cases this
      · exact h
    refine hJ _ _ pl S a w hI (fun t ht => tmD_agree rfl (fun j p hj hd => ?_)) (fun q hq => meD_agree rfl (fun j p hj hd => ?_)) Q _ (fun pl' S' a' w' hI' => ?_)
    · simp only [Nat.zero_add]
      rcases Nat.lt_trichotomy j i with h | h | h
      · rcases ahead j p hj h with h1 | h1
        · simp [h, h1]
        · simp only [indep, hd, Bool.and_eq_true] at h1
          simp [ht] at h1
      · subst h; simp [hDi]
      · cases hDj : listed.getD j false with
        | false => symm; simp; omega
        | true =>
          have h1 := behind j p hj h hDj
          simp only [indep, hd, Bool.and_eq_true] at h1
          simp [ht] at h1
    · simp only [Nat.zero_add]
      rcases Nat.lt_trichotomy j i with h | h | h
      · rcases ahead j p hj h with h1 | h1
        · simp [h, h1]
        · simp only [indep, Bool.and_eq_true] at h1
          have := meets_of (mget_mem hd) hq
          simp [this] at h1
      · subst h; simp [hDi]
      · cases hDj : listed.getD j false with
        | false => symm; simp; omega
        | true =>
          have h1 := behind j p hj h hDj
          simp only [indep, Bool.and_eq_true] at h1
          have := meets_of (mget_mem hd) hq
          simp [this] at h1
    · have hne : ∀ j, j ≠ i → (listed.setIfInBounds i true).getD j false = listed.getD j false := fun j hj => getD_set_ne false (Ne.symm hj)
      have hii : (listed.setIfInBounds i true).getD i false = true := by simp [hlt']
      have hmono : ∀ j, listed.getD j false = true → (listed.setIfInBounds i true).getD j false = true := fun j h => getD_set_true h
      refine ih (listed.setIfInBounds i true) a' w' pl' S' (by simpa using hsz) (fun j hj o' ho' e he hb => ?_) ?_ ?_
      · by_cases hji : j = i
        · subst hji
          exact hmono _ (hrdy o' ho' e he hb)
        · simp only [hne j hji] at hj
          exact hmono _ (hcl j hj o' ho' e he hb)
      · have := cnt_lt (D := fun j => listed.getD j false) (D' := fun j => (listed.setIfInBounds i true).getD j false) hmono hDi hii (List.range ops.size) (by simpa using hlt)
        omega
      · have e1 : tmD (fun j => (listed.setIfInBounds i true).getD j false) 0 (ops.toList.zip cs) tm = putO (tmD (fun j => listed.getD j false) 0 (ops.toList.zip cs) tm) o.dst c.sv := by
          funext t
          by_cases hd : o.dst = some t
          · rw [tmD_last hc hd (by rw [Nat.zero_add]; exact hii) (fun j p hj hij hDj he => ?_)]
            · rw [hd]; simp [putO]
            · rw [Nat.zero_add, hne j (by omega)] at hDj
              have h1 := behind j p hj hij hDj
              simp only [indep, hd, he, Bool.and_eq_true] at h1
              simp at h1
          · rw [putO_other hd]
            refine tmD_agree rfl (fun j p hj hdj => ?_)
            rw [Nat.zero_add]
            refine hne j (fun e => hd ?_)
            subst e
            rw [hc] at hj; cases hj; exact hdj
        have e2 : meD (fun j => (listed.setIfInBounds i true).getD j false) 0 (ops.toList.zip cs) me = laid c.wr (meD (fun j => listed.getD j false) 0 (ops.toList.zip cs) me) := by
          funext q
          cases hd : mget c.wr q with
          | some b =>
            rw [meD_last hc hd (by rw [Nat.zero_add]; exact hii) (fun j p hj hij hDj => ?_)]
            · unfold laid; rw [hd]
            · rw [Nat.zero_add, hne j (by omega)] at hDj
              have h1 := behind j p hj hij hDj
              simp only [indep, Bool.and_eq_true] at h1
              cases hm : mget p.2.wr q with
              | none => rfl
              | some b' =>
                have := meets_of (mget_mem (by rw [hm]; simp) : q ∈ _) (hwa q (by rw [hd]; simp))
                simp [this] at h1
          | none =>
            rw [laid_other hd]
            refine meD_agree rfl (fun j p hj hdj => ?_)
            rw [Nat.zero_add]
            refine hne j (fun e => ?_)
            subst e
            rw [hc] at hj; cases hj; exact hdj hd
        rw [e1, e2]
        exact hI'

end
end Go.PG
