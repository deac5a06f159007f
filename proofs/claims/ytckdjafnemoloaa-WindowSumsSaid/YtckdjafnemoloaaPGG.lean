/- A part of the proofs over this seat (own work; the framework that reads a Go function as a pure one, or a use of it). No condition of its own. -/
import Derived.Test.YtckdjafnemoloaaPGF
set_option linter.unusedVariables false
set_option linter.unusedSimpArgs false
namespace Go.PG
section
variable {C : Ctx} {tm : Nat → SV} {me : Nat → Option Blk} {pl : Nat → Plc} {S : Nat → Prop} {a : Act} {w : World} {P : Program} {T : Tab}

theorem after_same (hI : Inv C tm me pl S a w) {sv : SV} {v : Value} (hG : G S w me pl sv v) : After C tm me sv [] a v w :=
  ⟨pl, S, by rw [laid_nil]; exact ⟨hI, hG⟩⟩

theorem same_of {a b : Kd} (h : a.same b = true) : a = b := Kd.same_eq h

theorem splice_in {α : Type} {C : List α} {off n : Nat} {c1 c2 c3 c2' : List α} (h : (C.drop off).take n = c1 ++ c2 ++ c3) (hn : off + n ≤ C.length) (hl : c2'.length = c2.length) :
    C.take (off + c1.length) ++ c2' ++ C.drop (off + c1.length + c2'.length) = C.take off ++ (c1 ++ c2' ++ c3) ++ C.drop (off + n) := by
  have hlen : n = c1.length + c2.length + c3.length := by
    have := congrArg List.length h
    simp at this; omega
  have e0 : C = C.take off ++ (c1 ++ c2 ++ c3) ++ C.drop (off + n) := by
    rw [← h, ← List.drop_drop, List.append_assoc, List.take_append_drop, List.take_append_drop]
  have e1 : C.take (off + c1.length) = C.take off ++ c1 := by
    have hto : (C.take off).length = off := by simp; omega
    conv => lhs; rw [e0]
    simp only [List.append_assoc]
    rw [← List.append_assoc, List.take_append_of_le_length (by simp [hto]), List.take_of_length_le (by simp [hto])]
  have e2 : C.drop (off + c1.length + c2'.length) = c3 ++ C.drop (off + n) := by
    have hto : (C.take off ++ c1 ++ c2).length = off + c1.length + c2'.length := by simp; omega
    have e3 : C = (C.take off ++ c1 ++ c2) ++ (c3 ++ C.drop (off + n)) := by
      conv => lhs; rw [e0]
      simp only [List.append_assoc]
    conv => lhs; rw [e3, ← hto]
    rw [List.drop_left]
  rw [e1, e2]
  simp only [List.append_assoc]

theorem splice_facts {α : Type} {C X : List α} {off n : Nat} (hn : off + n ≤ C.length) (hX : X.length = n) :
    ((C.take off ++ X ++ C.drop (off + n)).length = C.length) ∧ ((C.take off ++ X ++ C.drop (off + n)).take off = C.take off) ∧
    ((C.take off ++ X ++ C.drop (off + n)).drop (off + n) = C.drop (off + n)) ∧ (((C.take off ++ X ++ C.drop (off + n)).drop off).take n = X) := by
  have hto : (C.take off).length = off := by simp; omega
  refine ⟨by simp; omega, ?_, ?_, ?_⟩
  · rw [List.append_assoc, List.take_append_of_le_length (by omega), List.take_of_length_le (by omega)]
  · rw [show off + n = (C.take off ++ X).length by simp; omega, List.drop_left]
  · rw [List.append_assoc, List.drop_append_of_le_length (by omega), List.drop_of_length_le (by omega), List.nil_append, List.take_append_of_le_length (by omega), List.take_of_length_le (by omega)]

theorem getF_of_setF : ∀ {k : Kd} {x : k.T} {j : Nat} {v : TV} {y : k.T}, setF k x j v = some y → ∃ k' z, getF k x j = some ⟨k', z⟩ ∧ (v.as k').isSome = true
  | .pair a b, x, 0, v, y, h => by
    simp only [setF] at h
    cases hv : v.as a with
    | none => simp [hv] at h
    | some u => exact ⟨a, x.1, rfl, by simp [hv]⟩
  | .pair a b, x, j + 1, v, y, h => by
    simp only [setF] at h
    cases hs : setF b x.2 j v with
    | none => simp [hs] at h
    | some u => exact getF_of_setF (k := b) (x := x.2) (j := j) hs
theorem get1_of_set1 {k : Kd} {x : k.T} {s : Step} {v : TV} {y : k.T} (h : set1 k x s v = some y) : ∃ k' z, get1 k x s = some ⟨k', z⟩ ∧ (v.as k').isSome = true := by
  cases s with
  | fld j =>
    have : setF k x j v = some y := by cases k <;> simpa [set1] using h
    obtain ⟨k', z, h1, h2⟩ := getF_of_setF this
    exact ⟨k', z, by cases k <;> simpa [get1] using h1, h2⟩
  | idx i =>
    cases k <;> simp only [set1] at h <;> try (cases h; done)
    rename_i n e
    cases hv : v.as e with
    | none => simp [hv] at h
    | some u => exact ⟨e, _, rfl, by simp [hv]⟩
theorem getP_of_setP : ∀ {p : List Step} {k : Kd} {x : k.T} {v : TV} {y : k.T}, setP k x p v = some y → ∃ k' z, getP k x p = some ⟨k', z⟩ ∧ (v.as k').isSome = true
  | [], k, x, v, y, h => ⟨k, x, rfl, by simp only [setP] at h; simp [h]⟩
  | s :: p, k, x, v, y, h => by
    simp only [setP] at h
    cases h1 : get1 k x s with
    | none => simp [h1] at h
    | some u =>
      obtain ⟨k1, x1⟩ := u
      simp only [h1] at h
      cases h2 : setP k1 x1 p v with
      | none => simp [h2] at h
      | some y1 =>
        obtain ⟨k', z, h3, h4⟩ := getP_of_setP h2
        exact ⟨k', z, by simp [getP, h1, h3], h4⟩
theorem as_kind {v : TV} {k : Kd} (h : (v.as k).isSome = true) : v.1 = k := by
  cases hv : v.as k with
  | none => simp [hv] at h
  | some x => rw [TV.as_some hv]

theorem upd_comp {α : Type} (f : Nat → α) (i : Nat) (x y : α) : upd (upd f i x) i y = upd f i y := by
  funext j; simp only [upd]; split <;> rfl

/-- A store into a variable's block, at a path. -/
theorem Inv.storePath (hI : Inv C tm me pl S a w) {b : Nat} {kb k : Kd} {x x' : kb.T} {y : k.T} {p : List Step} {o : Nat} {cs : List Value} (hm : me b = some (.var kb x false))
    (hok : kb.okP p) (hoff : kb.offP p = some (o, k)) (hset : setP kb x p ⟨k, y⟩ = some x') (hr : Rd S w k y cs) :
    ∃ g c t, (pl b).g = some g ∧ w.heap[g]? = some (.cells c t (0, 0)) ∧ (pl b).off + o + k.size ≤ c.size ∧
      Inv C tm (upd me b (some (.var kb x' false))) pl S a (w.setRow g (c.toList.take ((pl b).off + o) ++ cs ++ c.toList.drop ((pl b).off + o + cs.length)).toArray) := by
  obtain ⟨k', z, hget, has⟩ := getP_of_setP hset
  have ek := as_kind has
  simp only at ek
  subst ek
  obtain ⟨_, g, c, t, c1, c2, c3, hg, hc, hsz, hseg, hl1, hr2, hsh, hs⟩ := hI.atPath hm hok hoff hget
  obtain ⟨z', hz', hh⟩ := hs y
  rw [hset] at hz'
  cases hz'
  have hlc : cs.length = c2.length := by rw [Rd.length k y cs hr, Rd.length k z c2 hr2]
  have hsz' : (pl b).off + kb.size ≤ c.toList.length := by simpa using hsz
  have hlen : kb.size = c1.length + c2.length + c3.length := by
    have := congrArg List.length hseg
    simp at this; omega
  have hnS : ¬ S g := fun h => by have := hsh.2 h; cases this
  have hS : ∀ b, S b → S b ∧ (w.setRow g (c.toList.take ((pl b).off + o) ++ cs ++ c.toList.drop ((pl b).off + o + cs.length)).toArray).heap[b]? = w.heap[b]? :=
    fun b hb => ⟨hb, setRow_other w g b _ (fun e => hnS (e ▸ hb))⟩
  refine ⟨g, c, t, hg, hc, by have := Rd.length k z c2 hr2; simp at hsz'; omega, ?_⟩
  subst hl1
  rw [splice_in hseg hsz' hlc]
  obtain ⟨f1, f2, f3, f4⟩ := splice_facts (X := c1 ++ cs ++ c3) hsz' (by simp; omega)
  refine hI.write hm hg hnS hc (by simpa using f1) (by simpa using f2) (fun _ => by simpa [Blk.csize] using f3) rfl ⟨fun ⟨k, x, s, e⟩ => ⟨_, _, _, rfl⟩, fun _ => ⟨_, _, _, rfl⟩⟩ ⟨rfl, rfl⟩ ?_
  refine ⟨g, _, t, hg, setRow_heap w g c _ t (0, 0) hc, by simpa using (by omega : (pl b).off + kb.size ≤ _), ?_, hsh⟩
  rw [List.toList_toArray, f4]
  exact hh S _ cs (fun b hb => ⟨hb, setRow_other w g b _ (fun e => hnS (e ▸ hb))⟩) (Rd.mono (fun b hb => ⟨hb, setRow_other w g b _ (fun e => hnS (e ▸ hb))⟩) k y cs hr)

/-- What is in an own row at an index, at a path. -/
theorem Inv.atRow (h : Inv C tm me pl S a w) {j : Nat} {e k : Kd} {l : List e.T} {v : Nat} {z : k.T} {sh : Bool} {p : List Step} {o i : Nat} {k' : Kd} (hm : me j = some (.row e l v sh))
    (hi : i < l.length) (hok : e.okP p) (hoff : e.offP p = some (o, k')) (hg : getP e (l.getD i e.zero) p = some ⟨k, z⟩) : k' = k ∧ ∃ g c t c1 c2 c3, (pl j).g = some g ∧ w.heap[g]? = some (.cells c t (0, 0)) ∧
      l.length * e.size ≤ c.size ∧ c.size = (pl j).cap * e.size ∧ l.length ≤ (pl j).cap ∧ (pl j).cap ≤ maxLen ∧ c.toList.take (l.length * e.size) = c1 ++ c2 ++ c3 ∧ c1.length = i * e.size + o ∧ Rd S w k z c2 ∧ (sh = true ↔ S g) ∧
      (∀ (y : k.T), ∃ z, setP e (l.getD i e.zero) p ⟨k, y⟩ = some z ∧ ∀ (S' : Nat → Prop) (w' : World) c2', (∀ b, S b → S' b ∧ w'.heap[b]? = w.heap[b]?) → Rd S' w' k y c2' → RdL (Rd S' w' e) (l.set i z) (c1 ++ c2' ++ c3)) := by
  rcases h.mem j _ hm with ⟨_, hl, _⟩ | ⟨g, c, t, h1, h1', h2, h3, h4, h5, h6, h7⟩
  · subst hl; simp at hi
  · obtain ⟨d1, d2, d3, e2, hl2, hr2, hset⟩ := RdL.nth (Rd.length e) i e.zero h6 hi
    obtain ⟨o', ee, c1, c2, c3, e3, hl3, hr3, hset3⟩ := lensP p e _ d2 k z hr2 hok hg
    rw [hoff] at ee
    cases ee
    refine ⟨rfl, g, c, t, d1 ++ c1, c2, c3 ++ d3, h1, h2, by rw [h5]; exact Nat.mul_le_mul_right _ h3, h5, h3, h4, by rw [e2, e3]; simp, by simp [hl2, hl3], hr3, h7, fun y => ?_⟩
    obtain ⟨z', hz', hh⟩ := hset3 y
    refine ⟨z', hz', fun S' w' c2' hs hy => ?_⟩
    have := hset (Rd S' w' e) z' (c1 ++ c2' ++ c3) (fun x cs hx => Rd.mono hs e x cs hx) (hh S' w' c2' hs hy)
    simpa using this

/-- A row's cells laid over, from lo on. -/
theorem Inv.writeRow (hI : Inv C tm me pl S a w) {j : Nat} {e : Kd} {l l' : List e.T} {v : Nat} (hm : me j = some (.row e l v false)) {g : Nat} {c : Array Value} {t : TypeId} (hg : (pl j).g = some g)
    (hc : w.heap[g]? = some (.cells c t (0, 0))) {cs : List Value} {lo : Nat} (hfit : lo + cs.length ≤ l.length * e.size) (hl : l'.length = l.length)
    (hr : ∀ w', (∀ b, S b → S b ∧ w'.heap[b]? = w.heap[b]?) → RdL (Rd S w' e) l' ((c.toList.take lo ++ cs ++ c.toList.drop (lo + cs.length)).take (l.length * e.size))) :
    Inv C tm (upd me j (some (.row e l' v false))) pl S a (w.setRow g (c.toList.take lo ++ cs ++ c.toList.drop (lo + cs.length)).toArray) := by
  rcases hI.mem j _ hm with ⟨h0, _⟩ | ⟨g', c', t', h1, h1', h2, h3, h4, h5, h6, h7⟩
  · rw [hg] at h0; cases h0
  · rw [hg] at h1
    cases h1
    rw [hc] at h2
    cases h2
    have hnS : ¬ S g := fun h => by have := h7.2 h; cases this
    have hle : l.length * e.size ≤ c.size := by rw [h5]; exact Nat.mul_le_mul_right _ h3
    have hcl : c.toList.length = c.size := by simp
    have hs : ∀ b, S b → S b ∧ (w.setRow g (c.toList.take lo ++ cs ++ c.toList.drop (lo + cs.length)).toArray).heap[b]? = w.heap[b]? := fun b hb => ⟨hb, setRow_other w g b _ (fun e => hnS (e ▸ hb))⟩
    obtain ⟨f1, f2, f3, f4⟩ := splice_facts (C := c.toList) (X := cs) (off := lo) (n := cs.length) (by omega) rfl
    refine hI.write hm hg hnS hc (by simpa using f1) (by rw [h1']; simp) (fun h => by obtain ⟨k, x, s, e⟩ := h; cases e) rfl ⟨fun h => (by obtain ⟨k, x, s, e⟩ := h; cases e), fun h => (by obtain ⟨k, x, s, e⟩ := h; cases e)⟩ ⟨rfl, Nat.le_refl _, fun _ => ⟨hl, rfl⟩⟩ ?_
    refine .inr ⟨g, _, t, hg, h1', setRow_heap w g c _ t (0, 0) hc, by omega, h4, ?_, ?_, h7⟩
    · rw [← h5, List.size_toArray, f1]; simp
    · rw [List.toList_toArray, hl]; exact hr _ hs
end
end Go.PG
