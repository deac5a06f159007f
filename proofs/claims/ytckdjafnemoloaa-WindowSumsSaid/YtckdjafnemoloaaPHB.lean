/- A part of the proofs over this seat (own work; the framework that reads a Go function as a pure one, or a use of it). No condition of its own. -/
import Derived.Test.YtckdjafnemoloaaPHA
set_option linter.unusedVariables false
set_option linter.unusedSimpArgs false
namespace Go.PG
/-! A function: its parameters at the start, its results at the end. -/
section
variable {C : Ctx} {P : Program} {R : Type} {E : Env R} {tm : Nat → SV} {pl : Nat → Plc} {a : Act} {w : World}

theorem hasN_mem {l : List Nat} {x : Nat} : hasN l x = true ↔ x ∈ l := by
  induction l with
  | nil => simp [hasN]
  | cons y l ih =>
    simp only [hasN, List.mem_cons]
    cases h : Nat.beq y x with
    | true => have := Nat.eq_of_beq_eq_true h; simp [this]
    | false => have : x ≠ y := fun e => by subst e; rw [Nat.beq_refl] at h; cases h
               simp only [ih]; simp [this]

theorem toVal_far {np : Nat} {rd : Nat → Option Blk} {sv : SV} {k : Kd} {y : k.T} {wr : List (Nat × Blk)} {acc : List Nat} (h : toVal np rd sv k = some (y, wr, acc)) {j : Nat} (hj : j ∉ acc) : mget wr j = none := by
  have one : ∀ {i : Nat} {b : Blk}, j ∉ [i] → mget [(i, b)] j = none := by
    intro i b h
    simp only [mget]
    cases hb : Nat.beq i j with
    | true => have := Nat.eq_of_beq_eq_true hb; subst this; simp at h
    | false => rfl
  cases sv <;> simp only [toVal] at h <;> try (cases h; done)
  case nil =>
    cases k <;> simp only [reduceCtorEq] at h
    simp only [Option.some.injEq, Prod.mk.injEq] at h
    obtain ⟨_, rfl, rfl⟩ := h
    rfl
  case val =>
    split at h <;> try (cases h; done)
    simp only [Option.some.injEq, Prod.mk.injEq] at h
    obtain ⟨_, rfl, rfl⟩ := h
    rfl
  all_goals
    split at h <;> try (cases h; done)
    split at h <;> try (cases h; done)
    try (split at h <;> try (cases h; done))
    simp only [Option.some.injEq, Prod.mk.injEq] at h
    obtain ⟨_, rfl, rfl⟩ := h
    exact one hj

theorem toVal_old {np : Nat} {rd : Nat → Option Blk} {sv : SV} {k : Kd} {y : k.T} {wr : List (Nat × Blk)} {acc : List Nat} (h : toVal np rd sv k = some (y, wr, acc)) {j : Nat} {b : Blk} (hj : mget wr j = some b) : ∃ b0, rd j = some b0 := by
  have one : ∀ {i : Nat} {b1 b0 : Blk}, rd i = some b0 → mget [(i, b1)] j = some b → ∃ b0, rd j = some b0 := by
    intro i b1 b0 h0 h
    simp only [mget] at h
    cases hb : Nat.beq i j with
    | true => have := Nat.eq_of_beq_eq_true hb; subst this; exact ⟨_, h0⟩
    | false => rw [hb] at h; cases h
  cases sv <;> simp only [toVal] at h <;> try (cases h; done)
  case nil =>
    cases k <;> simp only [reduceCtorEq] at h
    simp only [Option.some.injEq, Prod.mk.injEq] at h
    obtain ⟨_, rfl, rfl⟩ := h
    cases hj
  case val =>
    split at h <;> try (cases h; done)
    simp only [Option.some.injEq, Prod.mk.injEq] at h
    obtain ⟨_, rfl, rfl⟩ := h
    cases hj
  all_goals
    split at h <;> try (cases h; done)
    split at h <;> try (cases h; done)
    try (split at h <;> try (cases h; done))
    simp only [Option.some.injEq, Prod.mk.injEq] at h
    obtain ⟨_, rfl, rfl⟩ := h
    rename_i hrd _ _ _ 
    first | exact one hrd hj | exact one (by assumption) hj

/-- The results' values. -/
def ResV (P : Program) (w : World) (t : Array Value) : List (ResultVar × TypeId × Bool) → List Value → Prop
  | [], vs => vs = []
  | (.tmp i, _) :: l, vs => ∃ vs', vs = t.getD i undef :: vs' ∧ ResV P w t l vs'
  | (.cell a ty, _) :: l, vs => ∃ v vs', vs = v :: vs' ∧ (do loadVar ty (← asAddr (t.getD a undef)) : Sem Value).run P w = .ok v w ∧ ResV P w t l vs'

theorem load_cell {t : TypeId} {v u : Value} (h : (Instr.loadAt t v).run P w = .ok u w) : (do loadVar t (← asAddr v) : Sem Value).run P w = .ok u w := by
  unfold Instr.loadAt Instr.sureAddr at h
  cases v <;> try (simp [Sem.run_bind, Result.andThen] at h; done)
  rename_i x
  cases x with
  | none => simp [Sem.run_bind, Result.andThen] at h
  | some a => simpa [asAddr] using h

theorem xres_sound (hT : TabOK P E.T) (hnp : E.np = C.pp.length) {tm0 : List (Nat × SV)} (htm : tm = tget tm0) : ∀ (res : List (ResultVar × TypeId × Bool)) (used : List Nat) (rd : Nat → Option Blk) (rs : List RV) (wr : List (Nat × Blk)) (me : Nat → Option Blk) (S : Nat → Prop),
    xres E rd tm0 used res = some (rs, wr) → me = rd → Inv C tm me pl S a w →
    ∃ S' vs gs, Inv C tm (laid wr me) pl S' a w ∧ Keeps S w me pl S' w (laid wr me) pl ∧ (ResV P w a.tmps res vs ∧ ResG S' w C.w0.heap.size rs vs gs) ∧ gs.Nodup ∧
      (∀ j ∈ used, mget wr j = none) ∧ (∀ g ∈ gs, ∃ j, j ∉ used ∧ (pl j).g = some g ∧ ∃ b, me j = some b)
  | [], used, rd, rs, wr, me, S, h, _, hI => by
    simp only [xres, Option.some.injEq, Prod.mk.injEq] at h
    obtain ⟨rfl, rfl⟩ := h
    exact ⟨S, [], [], by rw [laid_nil]; exact hI, by rw [laid_nil]; exact Keeps.refl, ⟨rfl, rfl, rfl⟩, List.nodup_nil, fun _ _ => rfl, fun g hg => (by cases hg)⟩
  | (.cell t ty, ty', own) :: l, used, rd, rs, wr, me, S, h, e, hI => by
    subst e
    have hG := hI.tms t
    rw [htm] at hG
    simp only [xres] at h
    split at h <;> try (cases h; done)
    rename_i r hld
    split at h <;> try (cases h; done)
    rename_i k y rs' wr' hok hsv hrest
    simp only [Option.some.injEq, Prod.mk.injEq] at h
    obtain ⟨rfl, rfl⟩ := h
    obtain ⟨u, hu, _, hGu⟩ := aLoad_sound hT hld (fun _ _ => rfl) hI hG
    obtain ⟨S', vs, gs, h1, h2, ⟨h3a, h3⟩, h4, h5, h6⟩ := xres_sound hT hnp htm l used me rs' wr' me S hrest rfl hI
    rw [hsv] at hGu
    exact ⟨S', u :: vs, gs, h1, h2, ⟨⟨u, vs, rfl, load_cell hu, h3a⟩, ⟨u, vs, rfl, VRd.mono h2.s hGu, h3⟩⟩, h4, h5, h6⟩
  | (.tmp t, ty, own) :: l, used, rd, rs, wr, me, S, h, e, hI => by
    subst e
    have hG := hI.tms t
    rw [htm] at hG
    cases own with
    | true =>
      simp only [xres] at h
      split at h <;> try (cases h; done)
      rename_i j ver htj
      split at h <;> try (cases h; done)
      rename_i e xs ver' hu hrd
      split at h <;> try (cases h; done)
      rename_i rs' wr' hv hrest
      simp only [Option.some.injEq, Prod.mk.injEq] at h
      obtain ⟨rfl, rfl⟩ := h
      obtain ⟨S', vs, gs, h1, h2, ⟨h3a, h3⟩, h4, h5, h6⟩ := xres_sound hT hnp htm l (j :: used) me rs' wr' me S hrest rfl hI
      have hver := Nat.eq_of_beq_eq_true hv
      subst hver
      rw [htj] at hG
      obtain ⟨e', l', ver2, sh, hm, _, hrow⟩ := hG
      rw [hrd] at hm
      cases hm
      have hrow := hrow rfl
      have hu' : j ∉ used := fun hh => by rw [hasN_mem.2 hh] at hu; cases hu
      have hm' : laid wr' me j = some (.row e xs ver false) := by rw [laid_other (h5 j (by simp))]; exact hrd
      have hb := h1.mem j _ hm'
      rcases hb with ⟨hg, hl, hcap⟩ | ⟨g, c, tt, hg, hoff, hc, hlc, hcm, hcs, hR, hsh⟩
      · refine ⟨S', _ :: vs, gs, h1, h2, ⟨⟨vs, rfl, h3a⟩, ⟨_, _, rfl, .inl ⟨?_, hl, h3⟩⟩⟩, h4, fun i hi => h5 i (by simp [hi]), fun g' hg' => ?_⟩
        · rcases hrow with ⟨_, h⟩ | ⟨g, hg2, _⟩
          · exact h
          · rw [hg] at hg2; cases hg2
        · obtain ⟨j', h8, h9, h10⟩ := h6 g' hg'
          exact ⟨j', fun hh => h8 (by simp [hh]), h9, h10⟩
      · refine ⟨S', _ :: vs, g :: gs, h1, h2, ⟨⟨vs, rfl, h3a⟩, ⟨_, _, rfl, .inr ⟨g, gs, (pl j).cap, c, tt, rfl, ?_, ?_, ?_, hc, hlc, hcm, hcs, hR, h3⟩⟩⟩, ?_, fun i hi => h5 i (by simp [hi]), fun g' hg' => ?_⟩
        · rcases hrow with ⟨hg2, _⟩ | ⟨g', hg2, h⟩
          · rw [hg] at hg2; cases hg2
          · rw [hg] at hg2; cases hg2; exact h
        · rcases hI.plcs j _ hrd g hg with ⟨_, h, _⟩ | ⟨⟨_, _, _, h⟩, _⟩
          · exact h
          · cases h
        · intro hh; have := hsh.2 hh; cases this
        · refine List.nodup_cons.2 ⟨fun hgg => ?_, h4⟩
          obtain ⟨j', h8, h9, b', h10⟩ := h6 g hgg
          have hne : j ≠ j' := fun e => h8 (by simp [e])
          exact hI.dis j j' _ b' g hne hrd h10 hg h9
        · rcases List.mem_cons.1 hg' with rfl | hg'
          · exact ⟨j, hu', hg, _, hrd⟩
          · obtain ⟨j', h8, h9, h10⟩ := h6 g' hg'
            exact ⟨j', fun hh => h8 (by simp [hh]), h9, h10⟩
    | false =>
      simp only [xres] at h
      split at h <;> try (cases h; done)
      rename_i k hk
      split at h <;> try (cases h; done)
      rename_i y wr1 acc hval
      split at h <;> try (cases h; done)
      rename_i rs' wr' hany hrest
      simp only [Option.some.injEq, Prod.mk.injEq] at h
      obtain ⟨rfl, rfl⟩ := h
      obtain ⟨S1, g1, g2, g3⟩ := toVal_sound hnp hval (fun _ _ => rfl) hI hG
      obtain ⟨S', vs, gs, h1, h2, ⟨h3a, h3⟩, h4, h5, h6⟩ := xres_sound hT hnp htm l used (laid wr1 me) rs' wr' (laid wr1 me) S1 hrest rfl g1
      rw [laid_append]
      have hfar : ∀ j ∈ used, mget wr1 j = none := fun j hj => toVal_far hval (fun hh => by
        have : acc.any (hasN used) = true := List.any_eq_true.2 ⟨j, hh, hasN_mem.2 hj⟩
        rw [this] at hany; cases hany)
      refine ⟨S', _ :: vs, gs, h1, g2.trans h2, ⟨⟨vs, rfl, h3a⟩, ⟨_, _, rfl, VRd.mono h2.s g3, h3⟩⟩, h4, fun j hj => ?_, fun g hg => ?_⟩
      · rw [mget_append]
        unfold laid
        rw [h5 j hj]; exact hfar j hj
      · obtain ⟨j, h8, h9, b, h10⟩ := h6 g hg
        refine ⟨j, h8, h9, ?_⟩
        unfold laid at h10
        cases hm : mget wr1 j with
        | none => rw [hm] at h10; exact ⟨b, h10⟩
        | some b' =>
          obtain ⟨b0, hb0⟩ := toVal_old hval hm
          exact ⟨b0, hb0⟩

theorem mapM_res {f : ResultVar → Sem Value} {tmps : Array Value} (hf : ∀ t, (f (.tmp t)).run P w = .ok (tmps.getD t undef) w) (hc : ∀ t ty v, (do loadVar ty (← asAddr (tmps.getD t undef)) : Sem Value).run P w = .ok v w → (f (.cell t ty)).run P w = .ok v w) :
    ∀ (l : List (ResultVar × TypeId × Bool)) (vs : List Value), ResV P w tmps l vs → ((l.map (·.1)).mapM f).run P w = .ok vs w
  | [], vs, h => by have h' : vs = [] := h; subst h'; simp
  | (.cell a ty, _) :: l, vs, h => by
    obtain ⟨v, vs', rfl, h1, h2⟩ := h
    have ih := mapM_res hf hc l vs' h2
    rw [List.map_cons, List.mapM_cons, Sem.run_bind, hc a ty v h1]
    simp only [Result.andThen]
    rw [Sem.run_bind, ih]
    rfl
  | (.tmp t, _) :: l, vs, h => by
    obtain ⟨vs', rfl, h2⟩ := h
    have ih := mapM_res hf hc l vs' h2
    rw [List.map_cons, List.mapM_cons, Sem.run_bind, hf t]
    simp only [Result.andThen]
    rw [Sem.run_bind, ih]
    rfl

theorem results_run {fn : Func} {res : List (ResultVar × TypeId × Bool)} (hres : fn.results.toList = res.map (·.1)) {tmps : Array Value} {vs : List Value} (h : ResV P w tmps res vs) :
    (results fn tmps).run P w = .ok (packV vs) w := by
  unfold results
  rw [Array.mapM_eq_mapM_toList, hres, Sem.run_bind, Sem.run_map, mapM_res (tmps := tmps) (fun t => rfl) (fun t ty v h => h) res vs h]
  simp only [Result.andThen, Sem.run_pure]
  congr 1
  match vs with
  | [] => rfl
  | [v] => rfl
  | _ :: _ :: _ => rfl
end
end Go.PG
