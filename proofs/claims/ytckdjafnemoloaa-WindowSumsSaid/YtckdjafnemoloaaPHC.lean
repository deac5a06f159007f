/- A part of the proofs over this seat (own work; the framework that reads a Go function as a pure one, or a use of it). No condition of its own. -/
import Derived.Test.YtckdjafnemoloaaPHB
set_option linter.unusedVariables false
set_option linter.unusedSimpArgs false
namespace Go.PG
section
variable {C : Ctx} {P : Program} {R : Type} {E : Env R} {tm : Nat → SV} {me : Nat → Option Blk} {pl : Nat → Plc} {S : Nat → Prop} {a : Act} {w : World}

theorem Inv.know (h : Inv C tm me pl S a w) {t : Nat} {sv : SV} (hg : G S w me pl sv (a.tmps.getD t undef)) : Inv C (upd tm t sv) me pl S a w := by
  refine ⟨h.nt, h.df, fun t' => ?_, h.mem, h.plcs, h.dis, h.s0, h.sfr, h.fr, h.pd⟩
  by_cases e : t' = t
  · subst e; simpa using hg
  · rw [upd_other _ _ e]; exact h.tms t'

theorem Inv.newVar (h : Inv C tm me pl S a w) {i : Nat} {k : Kd} {x : k.T} (hi : me i = none) (hb : BlkAt S w (.var k x false) (pl i)) (hp : Placed C i (.var k x false) (pl i))
    (hd : ∀ j bj g, j ≠ i → me j = some bj → (pl i).g = some g → (pl j).g ≠ some g) : Inv C tm (upd me i (some (.var k x false))) pl S a w := by
  have hne : ∀ j b', me j = some b' → j ≠ i := fun j b' hj e => by subst e; rw [hi] at hj; cases hj
  have hK : Keeps S w me pl S w (upd me i (some (.var k x false))) pl :=
    ⟨fun _ hb => ⟨hb, rfl⟩, fun j b' hj => ⟨b', by rw [upd_other _ _ (hne j b' hj)]; exact hj, Compat.refl _ _⟩⟩
  refine ⟨h.nt, h.df, fun t' => (h.tms t').keeps hK, fun j b' hj => ?_, fun j b' hj => ?_, fun j1 j2 b1 b2 g hne' hj1 hj2 hg => ?_, h.s0, h.sfr, h.fr, h.pd⟩
  · by_cases e : j = i
    · subst e; simp only [upd_same, Option.some.injEq] at hj; subst hj; exact hb
    · rw [upd_other _ _ e] at hj; exact h.mem j b' hj
  · by_cases e : j = i
    · subst e; simp only [upd_same, Option.some.injEq] at hj; subst hj; exact hp
    · rw [upd_other _ _ e] at hj; exact h.plcs j b' hj
  · by_cases e1 : j1 = i
    · subst e1
      have e2 : j2 ≠ j1 := fun e => hne' e.symm
      rw [upd_other _ _ e2] at hj2
      exact hd j2 b2 g e2 hj2 hg
    · rw [upd_other _ _ e1] at hj1
      by_cases e2 : j2 = i
      · subst e2
        intro hh
        exact hd j1 b1 g e1 hj1 hh hg
      · rw [upd_other _ _ e2] at hj2
        exact h.dis j1 j2 b1 b2 g hne' hj1 hj2 hg

theorem mget_cons (i : Nat) (b : Blk) (l : List (Nat × Blk)) : mget ((i, b) :: l) = upd (mget l) i (some b) := by
  funext j
  simp only [mget]
  cases h : Nat.beq i j with
  | true => have := Nat.eq_of_beq_eq_true h; subst this; simp
  | false => rw [upd_other _ _ (fun e => by subst e; rw [Nat.beq_refl] at h; cases h)]

theorem start_sound (hnd : (C.pp.map (·.1)).Nodup) (hpl : ∀ i g off sz, C.pp[i]? = some (g, off, sz) → (pl i).g = some g ∧ (pl i).off = off) :
    ∀ (as : List AV) (t b : Nat) (tm0 : List (Nat × SV)) (me0 : List (Nat × Blk)) (vs : List Value) (pp' : List (Nat × Nat × Nat)), ArgsG S w as pp' vs → (∀ i, C.pp[b + i]? = pp'[i]?) →
      (∀ i v, vs[i]? = some v → a.tmps.getD (t + i) undef = v) → (∀ i, b ≤ i → mget me0 i = none) → Inv C (tget tm0) (mget me0) pl S a w →
      Inv C (tget (start as t b tm0 me0).1) (mget (start as t b tm0 me0).2) pl S a w
  | [], t, b, tm0, me0, vs, pp', _, _, _, _, hI => hI
  | .val k x :: as, t, b, tm0, me0, vs, pp', h, hpp, hv, hme, hI => by
    obtain ⟨v, vs', rfl, h1, h2⟩ := h
    simp only [start]
    refine start_sound hnd hpl as (t + 1) b _ me0 vs' pp' h2 hpp (fun i v' hi => by have := hv (i + 1) v' (by simpa using hi); rwa [show t + (i + 1) = t + 1 + i by omega] at this) hme ?_
    rw [tget_cons]
    exact hI.know (by have := hv 0 v rfl; rw [Nat.add_zero] at this; rw [this]; exact h1)
  | .ptr k x :: as, t, b, tm0, me0, vs, pp', h, hpp, hv, hme, hI => by
    obtain ⟨v, vs', g, off, pp'', rfl, rfl, rfl, hnS, ⟨c, tt, hc, hsz, hr⟩, h2⟩ := h
    have hb : C.pp[b]? = some (g, off, k.size) := by have := hpp 0; simpa using this
    obtain ⟨hg, ho⟩ := hpl b g off k.size hb
    simp only [start]
    refine start_sound hnd hpl as (t + 1) (b + 1) _ _ vs' pp'' h2 (fun i => by have := hpp (i + 1); simpa [Nat.add_assoc, Nat.add_comm 1 i] using this) (fun i v' hi => by have := hv (i + 1) v' (by simpa using hi); rwa [show t + (i + 1) = t + 1 + i by omega] at this) (fun i hi => ?_) ?_
    · rw [mget_cons, upd_other _ _ (by omega)]; exact hme i (by omega)
    · rw [tget_cons, mget_cons]
      have h3 : Inv C (tget tm0) (upd (mget me0) b (some (.var k x false))) pl S a w := by
        refine hI.newVar (hme b (Nat.le_refl _)) ⟨g, c, tt, hg, hc, by rw [ho]; exact hsz, by rw [ho]; exact hr, by simp [hnS]⟩ (fun g' hg' => ?_) (fun j bj g' hne hj hg' hh => ?_)
        · rw [hg] at hg'; cases hg'
          exact .inr ⟨⟨_, _, _, rfl⟩, by rw [ho]; exact hb⟩
        · rw [hg] at hg'; cases hg'
          rcases hI.plcs j bj hj g hh with ⟨h4, h5, _⟩ | ⟨_, h4⟩
          · have := (List.getElem?_eq_some_iff.1 hb).1
            have := hI.fr.part (g, off, k.size) (List.mem_of_getElem? hb)
            obtain ⟨c0, _, _, e1, _⟩ := this
            have := (Array.getElem?_eq_some_iff.1 e1).1
            simp only at this
            omega
          · have e1 : (C.pp.map (·.1))[j]? = some g := by rw [List.getElem?_map, h4]; rfl
            have e2 : (C.pp.map (·.1))[b]? = some g := by rw [List.getElem?_map, hb]; rfl
            exact hne ((List.getElem?_inj (by have := (List.getElem?_eq_some_iff.1 e1).1; exact this) hnd).1 (e1.trans e2.symm))
      refine h3.know ?_
      have := hv 0 _ rfl
      rw [Nat.add_zero] at this
      rw [this]
      exact ⟨k, x, false, 0, g, by simp, trivial, rfl, hg, by rw [ho, Nat.add_zero]⟩

theorem xouts_sound (hI : Inv C tm me pl S a w) : ∀ (n i : Nat) (outs : List TV), xouts me i n = some outs → C.pp.length = i + n → OutsG S w (C.pp.drop i) outs
  | 0, i, outs, h, hl => by
    simp only [xouts, Option.some.injEq] at h
    subst h
    rw [List.drop_of_length_le (by omega)]
    rfl
  | n + 1, i, outs, h, hl => by
    simp only [xouts] at h
    split at h <;> try (cases h; done)
    rename_i k x hm
    split at h <;> try (cases h; done)
    rename_i l hrest
    simp only [Option.some.injEq] at h
    subst h
    obtain ⟨g, c, t, hg, hc, hsz, hr, _⟩ := hI.mem i _ hm
    rcases hI.plcs i _ hm g hg with ⟨h1, _⟩ | ⟨_, h1⟩
    · omega
    · have hlt : i < C.pp.length := by omega
      rw [List.drop_eq_getElem_cons hlt]
      rw [List.getElem?_eq_getElem hlt] at h1
      simp only [Option.some.injEq] at h1
      rw [h1]
      exact ⟨k, x, l, rfl, rfl, ⟨c, t, hc, hr⟩, xouts_sound hI n (i + 1) l hrest (by omega)⟩

def nptr : List AV → Nat
  | [] => 0
  | .val _ _ :: l => nptr l
  | .ptr _ _ :: l => nptr l + 1

theorem ArgsG.lens {S : Nat → Prop} {w : World} : ∀ {as : List AV} {pp : List (Nat × Nat × Nat)} {vs : List Value}, ArgsG S w as pp vs → vs.length = as.length ∧ pp.length = nptr as ∧ ∀ e ∈ pp, ∃ c t, w.heap[e.1]? = some (.cells c t (0, 0))
  | [], pp, vs, h => by obtain ⟨rfl, rfl⟩ := h; exact ⟨rfl, rfl, fun e he => by cases he⟩
  | .val k x :: as, pp, vs, h => by
    obtain ⟨v, vs', rfl, _, h2⟩ := h
    obtain ⟨h3, h4, h5⟩ := h2.lens
    exact ⟨by simp [h3], h4, h5⟩
  | .ptr k x :: as, pp, vs, h => by
    obtain ⟨v, vs', g, off, pp', rfl, rfl, _, _, ⟨c, t, hc, _⟩, h2⟩ := h
    obtain ⟨h3, h4, h5⟩ := h2.lens
    refine ⟨by simp [h3], by simp [h4, nptr], fun e he => ?_⟩
    rcases List.mem_cons.1 he with rfl | he
    · exact ⟨c, t, hc⟩
    · exact h5 e he

/-- **A function, carried out.** -/
theorem xfun_sound (hE : EnvOK P E) (hm : P.follows .mixedOrders = true) {f : FuncId} {fn : Func} {body : Code} (hf : P.funcs[f]? = some fn) (hb : fn.body = some body) (hent : ∀ args w, (callFunc f args).run P w = .ok (.enter f args) w)
    (hnt : fn.ntmps = E.nt) {res : List (ResultVar × TypeId × Bool)} (hres : fn.results.toList = res.map (·.1)) {as : List AV} (hnp : E.np = nptr as) (hle : as.length ≤ E.nt) (hl : ∀ l ∈ loopsOf body, LoopOK E P l)
    {K : List RV → List TV → Option R} {r : R} (h : xfun E body res as K = some r) : ∃ rs outs, Holds P f as rs outs ∧ K rs outs = some r := by
  unfold xfun at h
  split at h
  rename_i tm0 me0 hst
  obtain ⟨e, σ, h1, h2⟩ := exec_sound hE hm body hl _ _ _ h
  have h1' : e ≠ .exit 0 ∧ (e = .normal ∨ e = .ret) ∧ ∃ rs wr outs, xres E (mget σ.me) σ.tm [] res = some (rs, wr) ∧ xouts (laid wr (mget σ.me)) 0 E.np = some outs ∧ K rs outs = some r := by
    cases e with
    | exit i => simp at h1
    | normal =>
      simp only at h1
      split at h1 <;> try (cases h1; done)
      rename_i rs wr hx
      split at h1 <;> try (cases h1; done)
      rename_i outs ho
      exact ⟨by simp, .inl rfl, rs, wr, outs, hx, ho, h1⟩
    | ret =>
      simp only at h1
      split at h1 <;> try (cases h1; done)
      rename_i rs wr hx
      split at h1 <;> try (cases h1; done)
      rename_i outs ho
      exact ⟨by simp, .inr rfl, rs, wr, outs, hx, ho, h1⟩
  obtain ⟨_, he, rs, wr, outs, hx, ho, hK⟩ := h1'
  refine ⟨rs, outs, ⟨hent, fun w S pp vs hS hnd hA => ?_⟩, hK⟩
  obtain ⟨hvl, hpl, hcell⟩ := hA.lens
  refine calls_of_wp hf hb ?_
  let C : Ctx := ⟨w, S, E.nt, pp⟩
  let pl : Nat → Plc := fun i => match pp[i]? with | some (g, off, _) => ⟨some g, off, 0⟩ | none => ⟨none, 0, 0⟩
  refine h2 C (hnp.trans hpl.symm) rfl (bodyPost P fn _) (fun pl' S' a' w' hI' => ?_) pl S _ w ?_
  · obtain ⟨S2, vs2, gs, g1, g2, ⟨g3a, g3⟩, g4, _, _⟩ := xres_sound (C := C) hE.tab (hnp.trans hpl.symm) rfl res [] (mget σ.me) rs wr (mget σ.me) S' hx rfl hI'
    have hrun := results_run hres g3a
    have hpost : Post S w pp rs outs (packV vs2) w' := by
      refine ⟨S2, _, gs, rfl, g1.s0, g1.sfr, g1.fr, g3, g4, ?_⟩
      have := xouts_sound g1 E.np 0 outs ho (by rw [Nat.zero_add]; exact (hnp.trans hpl.symm).symm)
      simpa using this
    rcases he with rfl | rfl
    · exact ⟨hI'.df, _, hrun, hpost⟩
    · exact ⟨hI'.df, _, hrun, hpost⟩
  · have hpl' : ∀ i g off sz, C.pp[i]? = some (g, off, sz) → (pl i).g = some g ∧ (pl i).off = off := by
      intro i g off sz hi
      have hi' : pp[i]? = some (g, off, sz) := hi
      simp only [pl, hi']
      exact ⟨trivial, trivial⟩
    have h0 : Inv C (tget []) (mget []) pl S ⟨vs.toArray ++ Array.replicate (fn.ntmps - vs.toArray.size) undef, []⟩ w := by
      refine ⟨?_, rfl, fun t => trivial, fun i b hi => (by cases hi), fun i b hi => (by cases hi), fun i j bi bj g _ hi => (by cases hi), fun _ h => h, fun b hb => ⟨hS b hb, .inl hb⟩, ⟨rfl, rfl, rfl, Nat.le_refl _, fun _ _ _ => rfl, fun e he => ?_⟩, fun e he e' he' hee => ?_⟩
      · have : vs.length ≤ fn.ntmps := by omega
        simp only [Array.size_append, Array.size_replicate, List.size_toArray, C]
        omega
      · obtain ⟨c, t, hc⟩ := hcell e he
        exact ⟨c, c, t, hc, hc, rfl, rfl, rfl⟩
      · obtain ⟨i, hi, rfl⟩ := List.getElem_of_mem he
        obtain ⟨j, hj, rfl⟩ := List.getElem_of_mem he'
        have hi' : i < pp.length := hi
        have hj' : j < pp.length := hj
        have : i = j := (List.getElem_inj (h₀ := by simpa using hi') (h₁ := by simpa using hj') hnd).1 (by simpa using hee)
        subst this; rfl
    have := start_sound (C := C) (a := ⟨vs.toArray ++ Array.replicate (fn.ntmps - vs.toArray.size) undef, []⟩) hnd hpl' as 0 0 [] [] vs pp hA (fun i => by rw [Nat.zero_add]) (fun i v hi => ?_) (fun i _ => rfl) h0
    · rw [hst] at this; exact this
    · have hlt := (List.getElem?_eq_some_iff.1 hi).1
      rw [Nat.zero_add, Array.getD_eq_getD_getElem?, Array.getElem?_append_left (by simpa using hlt)]
      simp [hi]

theorem enters {f : FuncId} {fn : Func} (hf : P.funcs[f]? = some fn) (hn : (fn.name == "runtime.NumGoroutine") = false) (hb : fn.body.isNone = false) : ∀ args w, (callFunc f args).run P w = .ok (.enter f args) w := by
  intro args w
  have hn' : fn.name ≠ "runtime.NumGoroutine" := by simpa using hn
  have hb' : fn.body ≠ none := fun h => by simp [h] at hb
  simp [callFunc, hf, hn', hb']
end
end Go.PG
