/- A part of the proofs over this seat (own work; the framework that reads a Go function as a pure one, or a use of it). No condition of its own. -/
import Derived.Test.YtckdjafnemoloaaPGE
set_option linter.unusedVariables false
set_option linter.unusedSimpArgs false
namespace Go.PG
/-! Soundness of single operations, continued: values, loads, stores. -/
section
variable {C : Ctx} {tm : Nat → SV} {me : Nat → Option Blk} {pl : Nat → Plc} {S : Nat → Prop} {a : Act} {w : World}

theorem RdL.window {α : Type} {R : α → List Value → Prop} {sz : Nat} (hn : ∀ x cs, R x cs → cs.length = sz) {l : List α} {cs : List Value} (h : RdL R l cs) (lo n : Nat) :
    RdL R ((l.drop lo).take n) ((cs.drop (lo * sz)).take (n * sz)) := by
  have aux : ∀ (n : Nat) (l : List α) (cs : List Value), RdL R l cs → RdL R (l.take n) (cs.take (n * sz)) ∧ RdL R (l.drop n) (cs.drop (n * sz)) := by
    intro n l cs h
    by_cases hle : n ≤ l.length
    · have h' : RdL R (l.take n ++ l.drop n) cs := by rw [List.take_append_drop]; exact h
      obtain ⟨c1, c2, e, h1, h2⟩ := RdL.split h'
      have hl := RdL.length hn h1
      rw [List.length_take, Nat.min_eq_left hle] at hl
      subst e
      rw [← hl]
      simp [h1, h2]
    · have hl := RdL.length hn h
      have hle' : l.length ≤ n := by omega
      have hcs : cs.length ≤ n * sz := by rw [hl]; exact Nat.mul_le_mul_right _ hle'
      rw [List.take_of_length_le hle', List.take_of_length_le hcs, List.drop_eq_nil_of_le hle', List.drop_eq_nil_of_le hcs]
      exact ⟨h, rfl⟩
  exact (aux n _ _ (aux lo _ _ h).2).1

theorem seg_sub {α : Type} {c : List α} {off n : Nat} {c1 c2 c3 : List α} (h : (c.drop off).take n = c1 ++ c2 ++ c3) (x y : Nat) (hxy : x + y ≤ c2.length) :
    (c.drop (off + c1.length + x)).take y = (c2.drop x).take y := by
  have hn : c1.length + c2.length ≤ n := by
    have := congrArg List.length h
    simp at this; omega
  have e1 : c.drop (off + c1.length + x) = (c.drop off).drop (c1.length + x) := by rw [List.drop_drop]; congr 1; omega
  have e2 : ((c.drop off).drop (c1.length + x)).take y = (((c.drop off).take n).drop (c1.length + x)).take y := by
    rw [List.drop_take, List.take_take, Nat.min_eq_left (by omega)]
  rw [e1, e2, h, List.append_assoc, ← List.drop_drop, List.drop_left]
  rw [List.drop_append_of_le_length (by omega), List.take_append_of_le_length (by simp; omega)]

/-- What is in a variable's block at a path. -/
theorem Inv.atPath (h : Inv C tm me pl S a w) {b : Nat} {kb k : Kd} {x : kb.T} {z : k.T} {sh : Bool} {p : List Step} {o : Nat} {k' : Kd} (hm : me b = some (.var kb x sh))
    (hok : kb.okP p) (hoff : kb.offP p = some (o, k')) (hg : getP kb x p = some ⟨k, z⟩) : k' = k ∧ ∃ g c t c1 c2 c3, (pl b).g = some g ∧ w.heap[g]? = some (.cells c t (0, 0)) ∧
      (pl b).off + kb.size ≤ c.size ∧ (c.toList.drop (pl b).off).take kb.size = c1 ++ c2 ++ c3 ∧ c1.length = o ∧ Rd S w k z c2 ∧ (sh = true ↔ S g) ∧
      (∀ (y : k.T), ∃ z, setP kb x p ⟨k, y⟩ = some z ∧ ∀ (S' : Nat → Prop) (w' : World) c2', (∀ b, S b → S' b ∧ w'.heap[b]? = w.heap[b]?) → Rd S' w' k y c2' → Rd S' w' kb z (c1 ++ c2' ++ c3)) := by
  obtain ⟨g, c, t, h1, h2, h3, h4, h5⟩ := h.mem b _ hm
  obtain ⟨o', e, c1, c2, c3, e2, hl, hr, hset⟩ := lensP p kb x _ k z h4 hok hg
  rw [hoff] at e
  cases e
  exact ⟨rfl, g, c, t, c1, c2, c3, h1, h2, h3, e2, hl, hr, h5, hset⟩

theorem toVal_sound {np : Nat} (hnp : np = C.pp.length) {rd : Nat → Option Blk} {sv : SV} {k : Kd} {y : k.T} {wr : List (Nat × Blk)} {acc : List Nat} {v : Value}
    (h : toVal np rd sv k = some (y, wr, acc)) (hacc : ∀ i ∈ acc, me i = rd i) (hI : Inv C tm me pl S a w) (hG : G S w me pl sv v) :
    ∃ S', Inv C tm (laid wr me) pl S' a w ∧ Keeps S w me pl S' w (laid wr me) pl ∧ VRd S' w k y v := by
  have refl : Keeps S w me pl S w me pl := ⟨fun _ hb => ⟨hb, rfl⟩, fun i b hi => ⟨b, hi, Compat.refl _ _⟩⟩
  cases sv <;> simp only [toVal] at h <;> try (cases h; done)
  case nil =>
    cases k <;> simp only [reduceCtorEq] at h
    simp only [Option.some.injEq, Prod.mk.injEq] at h
    obtain ⟨rfl, rfl, rfl⟩ := h
    exact ⟨S, by rw [laid_nil]; exact hI, by rw [laid_nil]; exact refl, VRd.sl.2 (.inl ⟨hG, rfl⟩)⟩
  case val k' x =>
    split at h
    · rename_i y' hy
      simp only [Option.some.injEq, Prod.mk.injEq] at h
      obtain ⟨rfl, rfl, rfl⟩ := h
      have := TV.as_some hy
      cases this
      exact ⟨S, by rw [laid_nil]; exact hI, by rw [laid_nil]; exact refl, hG⟩
    · cases h
  case own j ver =>
    split at h <;> try (cases h; done)
    rename_i e l ver' sh hb hrd
    split at h <;> try (cases h; done)
    rename_i y' hv hy
    simp only [Option.some.injEq, Prod.mk.injEq] at h
    obtain ⟨rfl, rfl, rfl⟩ := h
    have hm : me j = some (.row e l ver' sh) := by rw [hacc j (by simp)]; exact hrd
    have hjn : C.pp.length ≤ j := by
      subst hnp
      rcases Nat.lt_or_ge j C.pp.length with h1 | h1
      · have : Nat.blt j C.pp.length = true := by simpa [Nat.blt_eq] using h1
        rw [this] at hb; cases hb
      · exact h1
    obtain ⟨S', h1, h2, h3⟩ := hI.shutRow hm hjn
    rw [laid_cons, laid_nil]
    refine ⟨S', h1, h2, ?_⟩
    have := TV.as_some hy
    cases this
    obtain ⟨e', l', ver2, sh', hm', hle, hrow⟩ := hG
    rw [hm] at hm'
    cases hm'
    have hrow := hrow (Nat.eq_of_beq_eq_true hv).symm
    have hblk := h1.mem j (.row e l ver' true) (upd_same me j _)
    refine VRd.sl.2 ?_
    rcases hrow with ⟨hg, rfl⟩ | ⟨g, hg, rfl⟩
    · rcases hblk with ⟨_, hl, _⟩ | ⟨g, c, t, hg', _⟩
      · exact .inl ⟨rfl, hl⟩
      · rw [hg] at hg'; cases hg'
    · rcases hblk with ⟨hg', hl, _⟩ | ⟨g', c, t, hg', h4, h5, h6, h7, h8, h9, h10⟩
      · rw [hg] at hg'; cases hg'
      · rw [hg] at hg'
        cases hg'
        exact .inr ⟨g, 0, _, c, t, _, rfl, h6, h3 g hg, h5, by simpa using h9⟩
  case win j ver lo n =>
    split at h <;> try (cases h; done)
    rename_i e l ver' sh hb hrd
    split at h <;> try (cases h; done)
    rename_i y' hv hy
    simp only [Option.some.injEq, Prod.mk.injEq] at h
    obtain ⟨rfl, rfl, rfl⟩ := h
    have hm : me j = some (.row e l ver' sh) := by rw [hacc j (by simp)]; exact hrd
    have hjn : C.pp.length ≤ j := by
      subst hnp
      rcases Nat.lt_or_ge j C.pp.length with h1 | h1
      · have : Nat.blt j C.pp.length = true := by simpa [Nat.blt_eq] using h1
        rw [this] at hb; cases hb
      · exact h1
    obtain ⟨S', h1, h2, h3⟩ := hI.shutRow hm hjn
    rw [laid_cons, laid_nil]
    refine ⟨S', h1, h2, ?_⟩
    have := TV.as_some hy
    cases this
    obtain ⟨e', l', ver2, sh', hm', hle, hrow⟩ := hG
    rw [hm] at hm'
    cases hm'
    obtain ⟨hlen, hwin⟩ := hrow (Nat.eq_of_beq_eq_true hv).symm
    have hblk := h1.mem j (.row e l ver' true) (upd_same me j _)
    have hll : (List.take n (List.drop lo l)).length = n := by simp; omega
    refine VRd.sl.2 ?_
    rcases hwin with ⟨hg, rfl, hn0⟩ | ⟨g, o, cap, hg, rfl, hcap, ho⟩
    · subst hn0; exact .inl ⟨rfl, by simp⟩
    · rcases hblk with ⟨hg', hl, _⟩ | ⟨g', c, t, hg', h4, h5, h6, h7, h8, h9, h10⟩
      · rw [hg] at hg'; cases hg'
      · rw [hg] at hg'
        cases hg'
        refine .inr ⟨g, o, cap, c, t, _, by rw [hll], by rw [hll]; exact hcap, h3 g hg, h5, ?_⟩
        rw [hll]
        rcases ho with rfl | rfl
        · simp [RdL]
        · have := RdL.window (Rd.length e) h9 lo n
          rw [Nat.zero_add]
          rw [List.drop_take, List.take_take] at this
          rwa [Nat.min_eq_left (by rw [← Nat.mul_sub_right_distrib]; exact Nat.mul_le_mul_right _ (by omega))] at this
  case asl b p lo n =>
    split at h <;> try (cases h; done)
    rename_i kb x sh hb hrd
    split at h <;> try (cases h; done)
    rename_i m e l hget
    split at h <;> try (cases h; done)
    rename_i y' hy
    simp only [Option.some.injEq, Prod.mk.injEq] at h
    obtain ⟨rfl, rfl, rfl⟩ := h
    have hm : me b = some (.var kb x sh) := by rw [hacc b (by simp)]; exact hrd
    have hjn : C.pp.length ≤ b := by
      subst hnp
      rcases Nat.lt_or_ge b C.pp.length with h1 | h1
      · have : Nat.blt b C.pp.length = true := by simpa [Nat.blt_eq] using h1
        rw [this] at hb; cases hb
      · exact h1
    obtain ⟨S', h1, h2, h3⟩ := hI.shutVar hm hjn
    rw [laid_cons, laid_nil]
    refine ⟨S', h1, h2, ?_⟩
    have := TV.as_some hy
    cases this
    obtain ⟨kb', x', sh', o, m', e', hm', hok, hoff, hln, hgs, hwin⟩ := hG
    rw [hm] at hm'
    cases hm'
    obtain ⟨ek, g, c, t, c1, c2, c3, hg, hc, hsz, hseg, hl1, hr2, _⟩ := h1.atPath (upd_same me b (some (.var kb x true))) hok hoff hget
    cases ek
    obtain ⟨hlm, hrl⟩ := hr2
    have hll : (List.take n (List.drop lo l)).length = n := by simp; omega
    refine VRd.sl.2 ?_
    rcases hwin with ⟨hg', rfl, hn0⟩ | ⟨g', o', cap, hg', rfl, hcap, ho⟩
    · subst hn0; exact .inl ⟨rfl, by simp⟩
    · rw [hg] at hg'
      cases hg'
      refine .inr ⟨g, o', cap, c, t, _, by rw [hll], by rw [hll]; exact hcap, h3 g hg, hc, ?_⟩
      rw [hll]
      rcases ho with rfl | rfl
      · simp [RdL]
      · have h9 := RdL.window (Rd.length e) hrl lo n
        have hc2 := RdL.length (Rd.length e) hrl
        rw [← hl1, seg_sub hseg (lo * e.size) (n * e.size) (by rw [hc2, ← Nat.add_mul]; exact Nat.mul_le_mul_right _ (by omega))]
        exact h9
end
end Go.PG
