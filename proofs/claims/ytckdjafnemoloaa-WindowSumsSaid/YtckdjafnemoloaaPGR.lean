/- A part of the proofs over this seat (own work; the framework that reads a Go function as a pure one, or a use of it). No condition of its own. -/
import Derived.Test.YtckdjafnemoloaaPGQ
set_option linter.unusedVariables false
set_option linter.unusedSimpArgs false
namespace Go.PG
section
variable {C : Ctx} {tm : Nat → SV} {me : Nat → Option Blk} {pl : Nat → Plc} {S : Nat → Prop} {a : Act} {w : World} {P : Program} {T : Tab}

theorem partsG_of {ρ : Operand → SV} (parts : Array (Nat × Operand)) (h : ∀ x ∈ (parts.toList.map (·.2)).toArray, G S w me pl (ρ x) (a.eval x)) :
    ∃ vs : List (Nat × Value), (parts.map fun (i, x) => (i, a.eval x)) = vs.toArray ∧ PartsG S w me pl (parts.toList.map fun p => (p.1, ρ p.2)) vs := by
  obtain ⟨l⟩ := parts
  simp only [List.map_toArray] at *
  refine ⟨_, rfl, ?_⟩
  have h' : ∀ x ∈ l.map (·.2), G S w me pl (ρ x) (a.eval x) := fun x hx => h x (by simpa using hx)
  clear h
  induction l with
  | nil => rfl
  | cons p l ih => exact ⟨_, _, rfl, h' _ (by simp), ih (fun x hx => h' x (by simp at hx ⊢; exact .inr hx))⟩

/-- **A single operation.** -/
theorem absOp_sound (hT : TabOK P T) {eqt : List Nat} (hEq : ∀ t ∈ eqt, ∀ k, tkd T t = some k → EqOK P t k) {np : Nat} (hnp : np = C.pp.length) {own : Bool} {rd : Nat → Option Blk} {ρ : Operand → SV} {o : Oper} {nx : Nat} {r : ARes}
    (h : absOp T eqt np own rd ρ o nx = some r) (hok : r.ok = true) (hacc : ∀ i ∈ r.acc, me i = rd i) (hI : Inv C tm me pl S a w) (hρ : ∀ x ∈ o.op.operands, G S w me pl (ρ x) (a.eval x)) :
    Runs P o a w (After C tm me r.sv r.wr a) := by
  have same : ∀ {u : Value}, r.wr = [] → G S w me pl r.sv u → After C tm me r.sv r.wr a u w := fun h1 h2 => by rw [h1]; exact after_same hI h2
  obtain ⟨dst, op, type, pos, after, guard⟩ := o
  cases op <;> simp only [absOp] at h <;> try (cases h; done)
  case move x =>
    have hx := hρ x (by simp [Op.operands])
    split at h
    · rename_i hnil
      split at h <;> try (cases h; done)
      rename_i e hkt hfr
      simp only [Option.some.injEq] at h
      subst h
      obtain ⟨hfr1, hfr2⟩ := fresh_spec hfr
      have hmn : me nx = none := by rw [hacc nx (by simp)]; exact hfr1
      rw [hnil] at hx
      refine Runs.value (w' := w) (v := a.eval x) (by simp [execOp]) ⟨_, S, by rw [laid_cons, laid_nil]; exact hI.nilrow e hmn, ?_⟩
      rw [laid_cons, laid_nil]
      exact ⟨e, [], 0, false, upd_same _ _ _, Nat.le_refl _, fun _ => .inl ⟨by simp, hx⟩⟩
    · simp only [ok1, Option.some.injEq] at h
      subst h
      exact Runs.value (w' := w) (v := a.eval x) (by simp [execOp]) (same rfl hx)
  case assign x =>
    have hx := hρ x (by simp [Op.operands])
    split at h
    · rename_i hnil
      split at h <;> try (cases h; done)
      rename_i e hkt hfr
      simp only [Option.some.injEq] at h
      subst h
      obtain ⟨hfr1, hfr2⟩ := fresh_spec hfr
      have hmn : me nx = none := by rw [hacc nx (by simp)]; exact hfr1
      rw [hnil] at hx
      refine Runs.value (w' := w) (v := a.eval x) (by simp [execOp]) ⟨_, S, by rw [laid_cons, laid_nil]; exact hI.nilrow e hmn, ?_⟩
      rw [laid_cons, laid_nil]
      exact ⟨e, [], 0, false, upd_same _ _ _, Nat.le_refl _, fun _ => .inl ⟨by simp, hx⟩⟩
    · simp only [ok1, Option.some.injEq] at h
      subst h
      exact Runs.value (w' := w) (v := a.eval x) (by simp [execOp]) (same rfl hx)
  case pick c x y =>
    have hc := hρ c (by simp [Op.operands])
    have hx := hρ x (by simp [Op.operands])
    have hy := hρ y (by simp [Op.operands])
    unfold aPick at h
    split at h <;> try (cases h; done)
    rename_i cb hcb
    rw [hcb] at hc
    have ec := VRd.bool.1 hc
    cases cb <;> simp only [ok1, Option.some.injEq] at h <;> subst h
    · exact Runs.value (w' := w) (v := a.eval y) (by simp [execOp, ec, asBool]) (same rfl hy)
    · exact Runs.value (w' := w) (v := a.eval x) (by simp [execOp, ec, asBool]) (same rfl hx)
  case alloc t =>
    obtain ⟨u, w', h1, h2⟩ := aAlloc_sound hT hnp h hacc hI
    exact Runs.value (by simp [execOp, h1]) h2
  case box t x =>
    obtain ⟨u, w', h1, h2⟩ := aBox_sound (P := P) hT hnp h hacc hI (hρ x (by simp [Op.operands]))
    exact Runs.value (by simp [execOp, h1]) h2
  case build t parts =>
    obtain ⟨vs, e, hp⟩ := partsG_of (ρ := ρ) (a := a) parts (fun x hx => hρ x (by simpa [Op.operands] using hx))
    obtain ⟨u, h1, h2, h3⟩ := aBuild_sound hT hnp h hI hp
    exact Runs.value (w' := w) (v := u) (by simp only [execOp, e, Sem.run_bind, h1, Result.andThen_ok, Sem.run_pure]) (same h2 h3)
  case buildSlice t len parts =>
    obtain ⟨vs, e, hp⟩ := partsG_of (ρ := ρ) (a := a) parts (fun x hx => hρ x (by simpa [Op.operands] using hx))
    obtain ⟨u, w', h1, h2⟩ := aBuildSlice_sound hT hnp h hacc hI hp
    exact Runs.value (w' := w') (v := u) (by simp only [execOp, e, Sem.run_bind, h1, Result.andThen_ok, Sem.run_pure]) h2
  case load t x =>
    obtain ⟨u, h1, h2, h3⟩ := aLoad_sound hT h hacc hI (hρ x (by simp [Op.operands]))
    exact Runs.value (by simp [execOp, h1]) (same h2 h3)
  case store t x v =>
    obtain ⟨w', h1, h2⟩ := aStore_sound hT hnp h hacc hI (hρ x (by simp [Op.operands])) (hρ v (by simp [Op.operands]))
    exact Runs.skip (by simp [execOp, h1]) h2
  case nilCheck x =>
    have hx := hρ x (by simp [Op.operands])
    split at h <;> try (cases h; done)
    · rename_i b p k hsv
      rw [hsv] at hx
      simp only [ok1, Option.some.injEq] at h
      subst h
      have hx' := hx
      obtain ⟨kb, y, sh, o, g, _, _, _, _, e⟩ := hx
      exact Runs.value (w' := w) (v := a.eval x) (by simp [execOp, e]) (same rfl hx')
    · rename_i k z hsv
      rw [hsv] at hx
      simp only [ok1, Option.some.injEq] at h
      subst h
      have hx' := hx
      obtain ⟨g, off, c, t, fr, e, _⟩ := hx
      exact Runs.value (w' := w) (v := a.eval x) (by simp [execOp, e]) (same rfl hx')
    · rename_i j v i p k hsv
      rw [hsv] at hx
      split at h <;> try (cases h; done)
      rename_i hlive
      simp only [Option.some.injEq] at h
      subst h
      obtain ⟨e, l, sh, hrd⟩ := live_spec hlive
      have hm : me j = some (.row e l v sh) := by rw [hacc j (by simp)]; exact hrd
      have hx' := hx
      obtain ⟨e', l', ver', sh', hm', hle, hh⟩ := hx
      rw [hm] at hm'
      cases hm'
      obtain ⟨_, _, o, g, _, _, e⟩ := hh rfl
      exact Runs.value (w' := w) (v := a.eval x) (by simp [execOp, e]) (same rfl hx')
  case binOp op xt x y yt =>
    obtain ⟨u, h1, h2, h3⟩ := aBin_sound (ox := x) (oy := y) hT hEq h hok (hρ x (by simp [Op.operands])) (hρ y (by simp [Op.operands]))
    exact Runs.value (w' := w) (v := u) (by simp only [execOp]; rw [Sem.run_bind, h1]; rfl) (same h2 h3)
  case unOp op xt x =>
    obtain ⟨u, h1, h2, h3⟩ := aUn_sound (P := P) h (hρ x (by simp [Op.operands]))
    exact Runs.value (by simp [execOp, h1]) (same h2 h3)
  case convert src d x =>
    obtain ⟨u, h1, h2, h3⟩ := aConv_sound hT h hacc hI (hρ x (by simp [Op.operands]))
    exact Runs.value (by simp [execOp, h1]) (same h2 h3)
  case sliceToArrayPointer t x =>
    obtain ⟨u, h1, h2, h3⟩ := aArrPtr_sound hT h hok hacc (hρ x (by simp [Op.operands]))
    exact Runs.value (by simp [execOp, h1]) (same h2 h3)
  case makeSlice t l c =>
    obtain ⟨u, w', h1, h2⟩ := aMakeSlice_sound hT hnp h hok hacc hI (hρ l (by simp [Op.operands])) (hρ c (by simp [Op.operands]))
    exact Runs.value (by simp [execOp, h1]) h2
  case slice t x lo hi mx =>
    have og : ∀ (o : Option Operand), (∀ x ∈ o.toArray, G S w me pl (ρ x) (a.eval x)) → OG S w me pl (o.map ρ) (o.map a.eval) := by
      intro o h
      cases o with
      | none => rfl
      | some x => exact ⟨_, rfl, h x (by simp)⟩
    obtain ⟨u, h1, h2, h3⟩ := aSlice_sound hT h hok hacc hI (hρ x (by simp [Op.operands])) (og lo (fun x hx => hρ x (by simp [Op.operands] at hx ⊢; simp [hx]))) (og hi (fun x hx => hρ x (by simp [Op.operands] at hx ⊢; simp [hx]))) (og mx (fun x hx => hρ x (by simp [Op.operands] at hx ⊢; simp [hx])))
    exact Runs.value (by simp [execOp, h1]) (same h2 h3)
  case fieldAddr t x j =>
    obtain ⟨u, h1, h2, h3⟩ := aFieldAddr_sound hT h hacc (hρ x (by simp [Op.operands]))
    exact Runs.value (by simp [execOp, h1]) (same h2 h3)
  case field t x j =>
    obtain ⟨u, h1, h2, h3⟩ := aField_sound hT h (hρ x (by simp [Op.operands]))
    exact Runs.value (by simp [execOp, h1]) (same h2 h3)
  case indexAddr t x i =>
    obtain ⟨u, h1, h2, h3⟩ := aIndexAddr_sound hT h hok hacc hI (hρ x (by simp [Op.operands])) (hρ i (by simp [Op.operands]))
    exact Runs.value (by simp [execOp, h1]) (same h2 h3)
  case index t x i =>
    obtain ⟨u, h1, h2, h3⟩ := aIndex_sound hT h hok (hρ x (by simp [Op.operands])) (hρ i (by simp [Op.operands]))
    exact Runs.value (by simp [execOp, h1]) (same h2 h3)
  case extract x i =>
    obtain ⟨u, h1, h2, h3⟩ := aExtract_sound (P := P) h (hρ x (by simp [Op.operands]))
    exact Runs.value (by simp [execOp, h1]) (same h2 h3)
  case call c =>
    obtain ⟨callee, args, argTypes⟩ := c
    simp only at h
    split at h <;> try (cases h; done)
    · split at h <;> try (cases h; done)
      rename_i x t hargs htypes
      have ea : args = #[x] := by rw [← Array.toArray_toList (xs := args), hargs]
      have et : argTypes = #[t] := by rw [← Array.toArray_toList (xs := argTypes), htypes]
      subst ea et
      obtain ⟨u, h1, h2, h3⟩ := aLen_sound (ty := type) hT h hacc hI (hρ x (by simp [Op.operands, Call.operands]))
      exact Runs.value (w' := w) (v := u) (by simp [execOp, resolve, invoke, builtin, h1]) (same h2 h3)
    · split at h <;> try (cases h; done)
      rename_i d s t ts hargs htypes
      have ea : args = #[d, s] := by rw [← Array.toArray_toList (xs := args), hargs]
      have et : argTypes = #[t, ts] := by rw [← Array.toArray_toList (xs := argTypes), htypes]
      subst ea et
      obtain ⟨u, w', h1, h2⟩ := aCopy_sound (ts := ts) (ty := type) hT h hacc hI (hρ d (by simp [Op.operands, Call.operands])) (hρ s (by simp [Op.operands, Call.operands]))
      exact Runs.value (w' := w') (v := u) (by simp [execOp, resolve, invoke, builtin, h1]) h2
    · split at h <;> try (cases h; done)
      rename_i s x t t' hargs htypes
      split at h <;> try (cases h; done)
      rename_i htt
      have := Nat.eq_of_beq_eq_true htt
      subst this
      have ea : args = #[s, x] := by rw [← Array.toArray_toList (xs := args), hargs]
      have et : argTypes = #[t, t] := by rw [← Array.toArray_toList (xs := argTypes), htypes]
      subst ea et
      obtain ⟨u, w', h1, h2⟩ := aAppend_sound (ty := type) hT hnp h hok hacc hI (hρ s (by simp [Op.operands, Call.operands])) (hρ x (by simp [Op.operands, Call.operands]))
      exact Runs.value (w' := w') (v := u) (by simp [execOp, resolve, invoke, builtin, h1]) h2
    · split at h <;> try (cases h; done)
      rename_i x y hargs
      have ea : args = #[x, y] := by rw [← Array.toArray_toList (xs := args), hargs]
      subst ea
      obtain ⟨u, h1, h2, h3⟩ := aMinMax_sound (P := P) (w := w) (ts := argTypes) (ty := type) h (hρ x (by simp [Op.operands, Call.operands])) (hρ y (by simp [Op.operands, Call.operands]))
      simp only [if_true] at h1
      exact Runs.value (w' := w) (v := u) (by simp [execOp, resolve, invoke, builtin, h1]) (same h2 h3)
    · split at h <;> try (cases h; done)
      rename_i x y hargs
      have ea : args = #[x, y] := by rw [← Array.toArray_toList (xs := args), hargs]
      subst ea
      obtain ⟨u, h1, h2, h3⟩ := aMinMax_sound (P := P) (w := w) (ts := argTypes) (ty := type) h (hρ x (by simp [Op.operands, Call.operands])) (hρ y (by simp [Op.operands, Call.operands]))
      simp only [Bool.false_eq_true, if_false] at h1
      exact Runs.value (w' := w) (v := u) (by simp [execOp, resolve, invoke, builtin, h1]) (same h2 h3)
end
end Go.PG
