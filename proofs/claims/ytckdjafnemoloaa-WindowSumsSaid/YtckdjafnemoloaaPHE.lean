/- A part of the proofs over this seat (own work; the framework that reads a Go function as a pure one, or a use of it). No condition of its own. -/
import Derived.Test.YtckdjafnemoloaaPHD
set_option linter.unusedVariables false
set_option linter.unusedSimpArgs false
namespace Go.PG
section
variable {C : Ctx} {P : Program} {pl : Nat → Plc} {S : Nat → Prop} {a : Act} {w : World}

def reset : Blk → Blk
  | .var k x sh => .var k x sh
  | .row e l _ sh => .row e l 0 sh

theorem stepsEq_eq : ∀ {p q : List Step}, stepsEq p q = true → p = q
  | [], [], _ => rfl
  | [], .fld _ :: _, h => by cases h
  | [], .idx _ :: _, h => by cases h
  | .fld i :: l, [], h => by cases h
  | .idx i :: l, [], h => by cases h
  | .fld i :: l, .fld j :: m, h => by
    simp only [stepsEq, Bool.and_eq_true] at h
    rw [Nat.eq_of_beq_eq_true h.1, stepsEq_eq h.2]
  | .idx i :: l, .idx j :: m, h => by
    simp only [stepsEq, Bool.and_eq_true] at h
    rw [Nat.eq_of_beq_eq_true h.1, stepsEq_eq h.2]
  | .fld i :: l, .idx j :: m, h => by cases h
  | .idx i :: l, .fld j :: m, h => by cases h

theorem sh_eq {sh sh' : Bool} (h : Bool.and (Bool.or sh (Bool.not sh')) (Bool.or (Bool.not sh) sh') = true) : sh' = sh := by
  revert h; cases sh <;> cases sh' <;> decide

def TFact (H0 : List HI) (σ : St) (sv s : SV) : Prop := s = .dead ∨ (∃ k x, s = .val k x ∧ sv = .val k x) ∨ fixOK H0 (mget σ.me) sv s = true

theorem find1_spec {H0 : List HI} {σ : St} : ∀ {H : List HI} {x : HT H}, find1 H0 σ H = some x →
    (∀ t, TFact H0 σ (tget σ.tm t) (tget (preT H x) t)) ∧ (∀ i b', mget (preM H x) i = some b' → ∃ b, mget σ.me i = some b ∧ b' = reset b) ∧ (∀ i, hasI H i = true → ∃ b', mget (preM H x) i = some b')
  | [], x, _ => ⟨fun _ => .inl rfl, fun _ _ h => (by cases h), fun _ h => (by cases h)⟩
  | .val t k :: l, x, h => by
    simp only [find1] at h
    split at h <;> try (cases h; done)
    rename_i k' y ht
    split at h <;> try (cases h; done)
    rename_i y' hy
    split at h <;> try (cases h; done)
    rename_i z hz
    cases h
    obtain ⟨h1, h2, h3⟩ := find1_spec hz
    refine ⟨fun t' => ?_, h2, h3⟩
    simp only [preT]
    rw [tget_cons]
    by_cases e : t' = t
    · subst e
      have := TV.as_some hy
      cases this
      rw [upd_same]; exact .inr (.inl ⟨k, y', rfl, ht⟩)
    · rw [upd_other _ _ e]; exact h1 t'
  | .fix t s :: l, x, h => by
    simp only [find1] at h
    split at h <;> try (cases h; done)
    rename_i hf
    obtain ⟨h1, h2, h3⟩ := find1_spec h
    refine ⟨fun t' => ?_, h2, h3⟩
    simp only [preT]
    rw [tget_cons]
    by_cases e : t' = t
    · subst e
      rw [upd_same]; exact .inr (.inr hf)
    · rw [upd_other _ _ e]; exact h1 t'
  | .var i k sh :: l, x, h => by
    simp only [find1] at h
    split at h <;> try (cases h; done)
    rename_i k' y sh' hm
    split at h <;> try (cases h; done)
    rename_i hs
    split at h <;> try (cases h; done)
    rename_i y' hy
    split at h <;> try (cases h; done)
    rename_i z hz
    cases h
    obtain ⟨h1, h2, h3⟩ := find1_spec hz
    have hs' := sh_eq hs
    subst hs'
    have := TV.as_some hy
    cases this
    refine ⟨h1, fun j b' hj => ?_, fun j hj => ?_⟩
    · simp only [preM] at hj
      rw [mget_cons] at hj
      by_cases e : j = i
      · subst e; rw [upd_same] at hj; cases hj; exact ⟨_, hm, rfl⟩
      · rw [upd_other _ _ e] at hj; exact h2 j b' hj
    · simp only [preM]
      rw [mget_cons]
      by_cases e : j = i
      · subst e; rw [upd_same]; exact ⟨_, rfl⟩
      · rw [upd_other _ _ e]
        simp only [hasI] at hj
        cases hb : Nat.beq i j with
        | true => exact absurd (Nat.eq_of_beq_eq_true hb).symm e
        | false => rw [hb] at hj; exact h3 j hj
  | .row i k sh :: l, x, h => by
    simp only [find1] at h
    split at h <;> try (cases h; done)
    rename_i k' y vv sh' hm
    split at h <;> try (cases h; done)
    rename_i hs
    split at h <;> try (cases h; done)
    rename_i y' hy
    split at h <;> try (cases h; done)
    rename_i z hz
    cases h
    obtain ⟨h1, h2, h3⟩ := find1_spec hz
    have hs' := sh_eq hs
    subst hs'
    have := TV.as_some hy
    cases this
    refine ⟨h1, fun j b' hj => ?_, fun j hj => ?_⟩
    · simp only [preM] at hj
      rw [mget_cons] at hj
      by_cases e : j = i
      · subst e; rw [upd_same] at hj; cases hj; exact ⟨_, hm, rfl⟩
      · rw [upd_other _ _ e] at hj; exact h2 j b' hj
    · simp only [preM]
      rw [mget_cons]
      by_cases e : j = i
      · subst e; rw [upd_same]; exact ⟨_, rfl⟩
      · rw [upd_other _ _ e]
        simp only [hasI] at hj
        cases hb : Nat.beq i j with
        | true => exact absurd (Nat.eq_of_beq_eq_true hb).symm e
        | false => rw [hb] at hj; exact h3 j hj

theorem cur_row {rd : Nat → Option Blk} {j v : Nat} (h : curV rd j v = true) : ∃ e l sh, rd j = some (.row e l v sh) := by
  unfold curV at h
  split at h <;> try (cases h; done)
  rename_i e l v' sh hr
  have := Nat.eq_of_beq_eq_true h
  subst this
  exact ⟨e, l, sh, hr⟩

theorem find_sound {H : List HI} {σ : St} {x : HT H} (h : find H σ = some x) (hI : Inv C (tget σ.tm) (mget σ.me) pl S a w) : Inv C (tget (preT H x)) (mget (preM H x)) pl S a w := by
  obtain ⟨h1, h2, h3⟩ := find1_spec h
  have hvar : ∀ {i : Nat} {kb : Kd} {y : kb.T} {sh : Bool}, mget σ.me i = some (.var kb y sh) → hasI H i = true → mget (preM H x) i = some (.var kb y sh) := by
    intro i kb y sh hm hh
    obtain ⟨b', hb'⟩ := h3 i hh
    obtain ⟨b, e1, e2⟩ := h2 i b' hb'
    rw [hm] at e1
    cases e1
    rw [hb', e2]; rfl
  have hrow : ∀ {i : Nat} {e : Kd} {l : List e.T} {v : Nat} {sh : Bool}, mget σ.me i = some (.row e l v sh) → hasI H i = true → mget (preM H x) i = some (.row e l 0 sh) := by
    intro i e l v sh hm hh
    obtain ⟨b', hb'⟩ := h3 i hh
    obtain ⟨b, e1, e2⟩ := h2 i b' hb'
    rw [hm] at e1
    cases e1
    rw [hb', e2]; rfl
  refine ⟨hI.nt, hI.df, fun t => ?_, fun i b' hi => ?_, fun i b' hi => ?_, fun i j bi bj g hne hi hj hg => ?_, hI.s0, hI.sfr, hI.fr, hI.pd⟩
  · have hG := hI.tms t
    rcases h1 t with h | ⟨k, y, h, h'⟩ | h
    · rw [h]; trivial
    · rw [h]; rw [h'] at hG; exact hG
    · generalize tget σ.tm t = sv at *
      generalize tget (preT H x) t = s at *
      generalize a.tmps.getD t undef = v at *
      cases sv <;> cases s <;> simp only [fixOK, Bool.and_eq_true, reduceCtorEq] at h
      case nil.nil => exact hG
      case fn.fn => rw [← Nat.eq_of_beq_eq_true h]; exact hG
      case ptr.ptr =>
        obtain ⟨⟨⟨e1, e2⟩, e3⟩, e4⟩ := h
        obtain ⟨kb, y, sh, o, g, hm, r1, r2, r3, r4⟩ := hG
        rw [← Nat.eq_of_beq_eq_true e1, ← stepsEq_eq e2, ← Kd.same_eq e3]
        exact ⟨kb, y, sh, o, g, hvar hm e4, r1, r2, r3, r4⟩
      case own.own =>
        obtain ⟨⟨⟨e1, e2⟩, e3⟩, e4⟩ := h
        obtain ⟨e, l, ver', sh, hm, _, hr⟩ := hG
        obtain ⟨e', l', sh', hc⟩ := cur_row e3
        rw [hm] at hc
        cases hc
        rw [← Nat.eq_of_beq_eq_true e1, Nat.eq_of_beq_eq_true e2]
        exact ⟨e, l, 0, sh, hrow hm e4, Nat.le_refl _, fun _ => hr rfl⟩
      case win.win =>
        obtain ⟨⟨⟨⟨⟨e1, e2⟩, e3⟩, e4⟩, e5⟩, e6⟩ := h
        obtain ⟨e, l, ver', sh, hm, _, hr⟩ := hG
        obtain ⟨e', l', sh', hc⟩ := cur_row e3
        rw [hm] at hc
        cases hc
        rw [← Nat.eq_of_beq_eq_true e1, Nat.eq_of_beq_eq_true e2, ← Nat.eq_of_beq_eq_true e5, ← Nat.eq_of_beq_eq_true e6]
        exact ⟨e, l, 0, sh, hrow hm e4, Nat.le_refl _, fun _ => hr rfl⟩
      case asl.asl =>
        obtain ⟨⟨⟨⟨e1, e2⟩, e4⟩, e5⟩, e6⟩ := h
        obtain ⟨kb, y, sh, o, m, e, hm, r⟩ := hG
        rw [← Nat.eq_of_beq_eq_true e1, ← stepsEq_eq e2, ← Nat.eq_of_beq_eq_true e5, ← Nat.eq_of_beq_eq_true e6]
        exact ⟨kb, y, sh, o, m, e, hvar hm e4, r⟩
      case pwin.pwin =>
        obtain ⟨⟨⟨⟨e1, e2⟩, e4⟩, e5⟩, e6⟩ := h
        obtain ⟨kb, y, sh, o, m, e, g, hm, r⟩ := hG
        rw [← Nat.eq_of_beq_eq_true e1, ← stepsEq_eq e2, ← Nat.eq_of_beq_eq_true e5, ← Nat.eq_of_beq_eq_true e6]
        exact ⟨kb, y, sh, o, m, e, g, hvar hm e4, r⟩
  · obtain ⟨b, e1, rfl⟩ := h2 i b' hi
    have := hI.mem i b e1
    cases b <;> exact this
  · obtain ⟨b, e1, rfl⟩ := h2 i b' hi
    have := hI.plcs i b e1
    cases b with
    | var => exact this
    | row e l v sh =>
      intro g hg
      rcases this g hg with r | ⟨⟨_, _, _, r⟩, _⟩
      · exact .inl r
      · cases r
  · obtain ⟨bi', e1, _⟩ := h2 i bi hi
    obtain ⟨bj', e2, _⟩ := h2 j bj hj
    exact hI.dis i j bi' bj' g hne e1 e2 hg

/-! loops -/
/-- Behind a loop's door. -/
def Code.wpL (P : Program) (c : Code) (Q : Exit → Act → World → Prop) (a : Act) (w : World) : Prop :=
  ∀ (b : Frame) (k : List Item) (cs : List Frame), ∃ e a' w', Q e a' w' ∧ Arrives P (lone (b.at a (.code c :: .inLoop c :: k)) cs w) b k cs e a' w'

theorem wp_of_wpL {c : Code} {Q : Exit → Act → World → Prop} (h : Code.wpL P c Q a w) : (Code.loop c).wp P Q a w := by
  intro b k cs
  obtain ⟨e, a', w', hq, harr⟩ := h b k cs
  exact ⟨e, a', w', hq, .of_steps (.one step_loop) harr⟩

theorem wpL_round {c : Code} {Q : Exit → Act → World → Prop} (h : c.wp P (Exit.then (Code.wpL P c Q) Q) a w) : Code.wpL P c Q a w := by
  intro b k cs
  obtain ⟨e, a₁, w₁, hq, harr⟩ := h b (.inLoop c :: k) cs
  cases e with
  | normal =>
    obtain ⟨e₂, a₂, w₂, hq₂, harr₂⟩ := hq b k cs
    exact ⟨e₂, a₂, w₂, hq₂, .of_steps (Steps.trans harr (.one step_inLoop)) harr₂⟩
  | exit id => exact ⟨_, a₁, w₁, hq, .pass (x := .inLoop c) rfl (fun _ _ => .inl (by simp)) harr⟩
  | goto l => exact ⟨_, a₁, w₁, hq, .pass (x := .inLoop c) rfl (fun _ _ => .inl (by simp)) harr⟩
  | ret => exact ⟨_, a₁, w₁, hq, .pass (x := .inLoop c) rfl (fun _ _ => .inl (by simp)) harr⟩
  | panic ch => exact ⟨_, a₁, w₁, hq, .pass (x := .inLoop c) rfl (fun _ _ => .inl (by simp)) harr⟩
  | outgrown => exact ⟨_, a₁, w₁, hq, .pass (x := .inLoop c) rfl (fun _ _ => .inl (by simp)) harr⟩

def stOf (H : List HI) (x : HT H) (nx : Nat) : St := ⟨preT H x, preM H x, nx⟩

theorem same_xx {e e' : XX} (h : XX.same e e' = true) : e = e' := by
  cases e <;> cases e' <;> simp only [XX.same, reduceCtorEq] at h <;> try rfl
  rw [Nat.eq_of_beq_eq_true h]

/-- One of the ways out. -/
inductive Out {R : Type} (r : R) : (exs : Exs) → KT R exs → XX → (H : List HI) → HT H → Prop
  | here {e : XX} {h : List HI} {l : Exs} {k : KT R ((e, h) :: l)} {y : HT h} : k.1 y = some r → Out r ((e, h) :: l) k e h y
  | there {e e' : XX} {h h' : List HI} {l : Exs} {k : KT R ((e', h') :: l)} {y : HT h} : Out r l k.2 e h y → Out r ((e', h') :: l) k e h y

theorem disp_out {R : Type} {r : R} {e : XX} {σ : St} : ∀ {exs : Exs} {ke : KT R exs}, disp e σ exs ke = some r → ∃ H y, find H σ = some y ∧ Out r exs ke e H y
  | [], _, h => by cases h
  | (e', h') :: l, ke, h => by
    simp only [disp] at h
    split at h
    · rename_i hs
      have := same_xx hs
      subst this
      split at h <;> try (cases h; done)
      rename_i y hy
      exact ⟨h', y, hy, .here h⟩
    · obtain ⟨H, y, h1, h2⟩ := disp_out h
      exact ⟨H, y, h1, .there h2⟩

theorem adapt_out {R : Type} {r : R} {nx : Nat} {K : XX → St → Option R} {e : XX} {H : List HI} {y : HT H} : ∀ {exs : Exs}, Out r exs (adapt nx K exs) e H y → K e (stOf H y nx) = some r := by
  intro exs
  induction exs with
  | nil => intro h; cases h
  | cons p l ih =>
    obtain ⟨e', h'⟩ := p
    intro h
    cases h with
    | here h => exact h
    | there h => exact ih h

theorem Leads.weak {np nt : Nat} {c : Code} {σ σ1 : St} {e : XX} {H : List HI} {y : HT H} {nx : Nat} (h : Leads np nt P c σ e σ1) (hf : find H σ1 = some y) : Leads np nt P c σ e (stOf H y nx) :=
  fun C h1 h2 Q hQ pl S a w hI => h C h1 h2 Q (fun pl S a w hI => hQ pl S a w (find_sound hf hI)) pl S a w hI

def LeadsL (np nt : Nat) (P : Program) (c : Code) (σ : St) (e : XX) (σ' : St) : Prop :=
  ∀ C : Ctx, np = C.pp.length → nt = C.nt → ∀ Q : Exit → Act → World → Prop, (∀ pl S a w, Inv C (tget σ'.tm) (mget σ'.me) pl S a w → Q e.ex a w) →
    ∀ pl S a w, Inv C (tget σ.tm) (mget σ.me) pl S a w → Code.wpL P c Q a w

theorem iter_sound (Ef : (R : Type) → Env R) (np nt : Nat) (hnp : ∀ R, (Ef R).np = np) (hnt : ∀ R, (Ef R).nt = nt) (hE : ∀ R, EnvOK P (Ef R)) (hm : P.follows .mixedOrders = true) {c : Code} (hl : ∀ R, ∀ l ∈ loopsOf c, LoopOK (Ef R) P l)
    {H : List HI} {nx : Nat} {exs : Exs} {T : (R : Type) → HT H → (HT H → Option R) → KT R exs → Option R}
    (hT : ∀ R x kc ke, exec (Ef R) c (stOf H x nx) (roundK H exs kc ke) = T R x kc ke) :
    ∀ (n : Nat) (R : Type) (x : HT H) (ke : KT R exs) (r : R), iter T n R x ke = some r → ∃ e Hy y, Out r exs ke e Hy y ∧ ∀ nx', LeadsL np nt P c (stOf H x nx) e (stOf Hy y nx') := by
  intro n
  induction n with
  | zero => intro R x ke r h; cases h
  | succ n ih =>
    intro R x ke r h
    simp only [iter] at h
    rw [← hT] at h
    obtain ⟨e, σ1, h1, h2⟩ := exec_sound (hE R) hm c (hl R) _ _ _ h
    rw [hnp, hnt] at h2
    have other : e ≠ .normal → disp e σ1 exs ke = some r → ∃ e Hy y, Out r exs ke e Hy y ∧ ∀ nx', LeadsL np nt P c (stOf H x nx) e (stOf Hy y nx') := by
      intro hne hd
      obtain ⟨Hy, y, hf, ho⟩ := disp_out hd
      refine ⟨e, Hy, y, ho, fun nx' C e1 e2 Q hQ pl S a w hI => wpL_round ?_⟩
      refine h2 C e1 e2 (Exit.then (Code.wpL P c Q) Q) (fun pl S a w hI => ?_) pl S a w hI
      have := hQ pl S a w (find_sound hf hI)
      cases e with
      | normal => exact absurd rfl hne
      | exit i => exact this
      | ret => exact this
    cases e with
    | normal =>
      simp only [roundK] at h1
      split at h1 <;> try (cases h1; done)
      rename_i x' hx'
      obtain ⟨e, Hy, y, ho, hL⟩ := ih R x' ke r h1
      refine ⟨e, Hy, y, ho, fun nx' C e1 e2 Q hQ pl S a w hI => wpL_round ?_⟩
      exact h2 C e1 e2 (Exit.then (Code.wpL P c Q) Q) (fun pl S a w hI => hL nx' C e1 e2 Q hQ pl S a w (find_sound hx' hI)) pl S a w hI
    | exit i => exact other (by simp) h1
    | ret => exact other (by simp) h1

/-- An entry of the loops' list is sound. -/
def LEnt.OK (P : Program) (np nt : Nat) (e : LEnt) (c : Code) : Prop := ∀ (R : Type) (x : HT e.H) (ke : KT R e.exs) (r : R), e.L R x ke = some r → ∃ ex Hy y, Out r e.exs ke ex Hy y ∧ ∀ nx', LeadsL np nt P c (stOf e.H x e.nx) ex (stOf Hy y nx')

theorem loop_ok {R : Type} {E : Env R} {c : Code} : ∀ {l : List LEnt}, E.loop = loopOf l R → (∀ e ∈ l, Nat.beq (firstReg c) e.id = true → e.OK P E.np E.nt c) → LoopOK E P c := by
  intro l hEl hl σ K r h
  rw [hEl] at h
  clear hEl
  induction l with
  | nil => cases h
  | cons e l ih =>
    simp only [loopOf] at h
    split at h
    · rename_i hid
      split at h <;> try (cases h; done)
      rename_i x hx
      obtain ⟨ex, Hy, y, ho, hL⟩ := hl e (by simp) hid R x _ r h
      refine ⟨ex, stOf Hy y e.nx, adapt_out ho, fun C e1 e2 Q hQ pl S a w hI => wp_of_wpL ?_⟩
      exact hL e.nx C e1 e2 Q hQ pl S a w (find_sound hx hI)
    · exact ih (fun e he => hl e (by simp [he])) h

def finK {R : Type} (outs ins : Ins) (k : RT outs → PT ins → Option R) : List RV → List TV → Option R := fun rs os =>
  match asR outs rs with
  | some y => match asP ins os with
    | some p => k y p
    | none => none
  | none => none

/-- A function's entry, from its equation. -/
theorem ent_ok {Ef : (R : Type) → Env R} {f : FuncId} {ins outs : Ins} {F : (R : Type) → AT ins → (RT outs → PT ins → Option R) → Option R} (hE : ∀ R, EnvOK P (Ef R)) (hm : P.follows .mixedOrders = true) {fn : Func} {body : Code} (hf : P.funcs[f]? = some fn) (hb : fn.body = some body)
    (hname : (fn.name == "runtime.NumGoroutine") = false) {np nt : Nat} (hnp : ∀ R, (Ef R).np = np) (hnt : ∀ R, (Ef R).nt = nt) (hntf : fn.ntmps = nt) {res : List (ResultVar × TypeId × Bool)} (hres : fn.results.toList = res.map (·.1))
    (hp : ∀ x, nptr (avs ins x) = np) (hle : ∀ x, (avs ins x).length ≤ nt) (hl : ∀ R, ∀ l ∈ loopsOf body, LoopOK (Ef R) P l)
    (heq : ∀ R x k, xfun (Ef R) body res (avs ins x) (finK outs ins k) = F R x k) : Ent.OK P ⟨f, ins, outs, F⟩ := by
  intro R x k r h
  simp only at h
  rw [← heq] at h
  obtain ⟨rs, os, h1, h2⟩ := xfun_sound (hE R) hm hf hb (enters hf hname (by rw [hb]; rfl)) (by rw [hnt, hntf]) hres (by rw [hnp, hp]) (by rw [hnt]; exact hle x) (hl R) h
  unfold finK at h2
  split at h2 <;> try (cases h2; done)
  rename_i y hy
  split at h2 <;> try (cases h2; done)
  rename_i p hp
  rw [asR_spec hy, asP_spec hp] at h1
  exact ⟨y, p, h1, h2⟩
end
end Go.PG
