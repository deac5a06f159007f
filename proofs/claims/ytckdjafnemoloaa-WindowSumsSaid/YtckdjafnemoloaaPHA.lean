/- A part of the proofs over this seat (own work; the framework that reads a Go function as a pure one, or a use of it). No condition of its own. -/
import Derived.Test.YtckdjafnemoloaaPGZ
set_option linter.unusedVariables false
set_option linter.unusedSimpArgs false
namespace Go.PG
/-! Code, carried out by the interpreter. -/
def XX.ex : XX → Exit
  | .normal => .normal
  | .exit i => .exit i
  | .ret => .ret

def Leads (np nt : Nat) (P : Program) (c : Code) (σ : St) (e : XX) (σ' : St) : Prop :=
  ∀ C : Ctx, np = C.pp.length → nt = C.nt → ∀ Q : Exit → Act → World → Prop, (∀ pl S a w, Inv C (tget σ'.tm) (mget σ'.me) pl S a w → Q e.ex a w) →
    ∀ pl S a w, Inv C (tget σ.tm) (mget σ.me) pl S a w → c.wp P Q a w

def loopsOf : Code → List Code
  | .seq a b => loopsOf a ++ loopsOf b
  | .cond _ a b => loopsOf a ++ loopsOf b
  | .block _ c => loopsOf c
  | .loop c => [c]
  | _ => []

section
variable {P : Program} {R : Type} {E : Env R}

def LoopOK (E : Env R) (P : Program) (c : Code) : Prop := ∀ σ K r, E.loop (firstReg c) σ K = some r → ∃ e σ', K e σ' = some r ∧ Leads E.np E.nt P (.loop c) σ e σ'

theorem tmD_none : ∀ (l : List (Oper × Cert)) (i : Nat) (tm : Nat → SV), tmD (fun _ => false) i l tm = tm
  | [], _, _ => rfl
  | _ :: l, i, tm => by simp only [tmD]; exact tmD_none l _ _
theorem meD_none : ∀ (l : List (Oper × Cert)) (i : Nat) (me : Nat → Option Blk), meD (fun _ => false) i l me = me
  | [], _, _ => rfl
  | _ :: l, i, me => by simp only [meD]; exact meD_none l _ _

theorem xreg_sound (hE : EnvOK P E) (hm : P.follows .mixedOrders = true) {rid : Nat} {ops : Array Oper} {draw : Bool} {σ : St} {K : St → Option R} {r : R} (h : xreg E rid ops draw σ K = some r) :
    ∃ σ', K σ' = some r ∧ Leads E.np E.nt P (.region rid ops draw) σ .normal σ' := by
  unfold xreg at h
  obtain ⟨cs, σ', h1, h2⟩ := xops_sound hE ops.toList 0 σ [] _ (fun j => by simp) h
  cases draw with
  | false =>
    refine ⟨σ', h1, fun C hnp hnt Q hQ pl S a w hI => wp_region ?_⟩
    have := chain_seq (h2.at hnp hnt) hQ pl S a w hI
    simpa using this
  | true =>
    simp only at h1
    split at h1 <;> try (cases h1; done)
    rename_i hok
    simp only [List.append_nil, List.reverse_reverse] at hok
    refine ⟨σ', h1, fun C hnp hnt Q hQ pl S a w hI => wp_region_any hm ?_⟩
    have hf : (fun j => (Array.replicate ops.size false).getD j false) = fun _ => false := by
      funext j
      rw [Array.getD_eq_getD_getElem?, Array.getElem?_replicate]
      split <;> rfl
    refine wp_any (h2.at hnp hnt) hok hQ ops.size _ a _ pl S (by simp) ?_ ?_ ?_
    · rw [hf]; intro j hj; cases hj
    · exact Nat.le_trans List.countP_le_length (by simp)
    · rw [hf, tmD_none, meD_none]
      exact Inv.drew hI

theorem exec_sound (hE : EnvOK P E) (hm : P.follows .mixedOrders = true) : ∀ (c : Code), (∀ l ∈ loopsOf c, LoopOK E P l) → ∀ (σ : St) (K : XX → St → Option R) (r : R), exec E c σ K = some r →
    ∃ e σ', K e σ' = some r ∧ Leads E.np E.nt P c σ e σ' := by
  intro c
  induction c with
  | skip => intro _ σ K r h; exact ⟨.normal, σ, h, fun C _ _ Q hQ pl S a w hI => wp_skip (hQ pl S a w hI)⟩
  | region id ops d => intro _ σ K r h; obtain ⟨σ', h1, h2⟩ := xreg_sound hE hm h; exact ⟨.normal, σ', h1, h2⟩
  | seq a b iha ihb =>
    intro hl σ K r h
    obtain ⟨e, σ1, h1, h2⟩ := iha (fun l hl' => hl l (by simp [loopsOf, hl'])) σ _ r h
    cases e with
    | normal =>
      obtain ⟨e, σ2, h3, h4⟩ := ihb (fun l hl' => hl l (by simp [loopsOf, hl'])) σ1 K r h1
      exact ⟨e, σ2, h3, fun C hnp hnt Q hQ pl S a w hI => wp_seq (h2 C hnp hnt (Exit.then (b.wp P Q) Q) (fun pl S a w hI => h4 C hnp hnt Q hQ pl S a w hI) pl S a w hI)⟩
    | exit i => exact ⟨.exit i, σ1, h1, fun C hnp hnt Q hQ pl S a w hI => wp_seq (h2 C hnp hnt (Exit.then (b.wp P Q) Q) (fun pl S a w hI => hQ pl S a w hI) pl S a w hI)⟩
    | ret => exact ⟨.ret, σ1, h1, fun C hnp hnt Q hQ pl S a w hI => wp_seq (h2 C hnp hnt (Exit.then (b.wp P Q) Q) (fun pl S a w hI => hQ pl S a w hI) pl S a w hI)⟩
  | cond x t e iht ihe =>
    intro hl σ K r h
    simp only [exec] at h
    split at h <;> try (cases h; done)
    rename_i b hb
    have hv : ∀ {C : Ctx} {pl : Nat → Plc} {S : Nat → Prop} {a : Act} {w : World}, Inv C (tget σ.tm) (mget σ.me) pl S a w → a.eval x = .bool b := by
      intro C pl S a w hI
      have := opv_sound (tm0 := σ.tm) hI (x := x) (fun _ _ => rfl)
      rw [hb] at this
      exact VRd.bool.1 this
    cases b with
    | true =>
      obtain ⟨e, σ1, h1, h2⟩ := iht (fun l hl' => hl l (by simp [loopsOf, hl'])) σ K r h
      exact ⟨e, σ1, h1, fun C hnp hnt Q hQ pl S a w hI => wp_cond_true (hv hI) (h2 C hnp hnt Q hQ pl S a w hI)⟩
    | false =>
      obtain ⟨e, σ1, h1, h2⟩ := ihe (fun l hl' => hl l (by simp [loopsOf, hl'])) σ K r h
      exact ⟨e, σ1, h1, fun C hnp hnt Q hQ pl S a w hI => wp_cond_false (hv hI) (h2 C hnp hnt Q hQ pl S a w hI)⟩
  | block id c ih =>
    intro hl σ K r h
    obtain ⟨e, σ1, h1, h2⟩ := ih (fun l hl' => hl l (by simpa [loopsOf] using hl')) σ _ r h
    cases e with
    | normal => exact ⟨.normal, σ1, h1, fun C hnp hnt Q hQ pl S a w hI => wp_block (h2 C hnp hnt (Exit.inBlock id Q) (fun pl S a w hI => hQ pl S a w hI) pl S a w hI)⟩
    | ret => exact ⟨.ret, σ1, h1, fun C hnp hnt Q hQ pl S a w hI => wp_block (h2 C hnp hnt (Exit.inBlock id Q) (fun pl S a w hI => hQ pl S a w hI) pl S a w hI)⟩
    | exit i =>
      simp only at h1
      split at h1
      · rename_i hb
        have := Nat.eq_of_beq_eq_true hb
        subst this
        exact ⟨.normal, σ1, h1, fun C hnp hnt Q hQ pl S a w hI => wp_block (h2 C hnp hnt (Exit.inBlock i Q) (fun pl S a w hI => by simp only [XX.ex, Exit.inBlock, if_true]; exact hQ pl S a w hI) pl S a w hI)⟩
      · rename_i hb
        have hne : i ≠ id := fun e => by subst e; rw [Nat.beq_refl] at hb; cases hb
        exact ⟨.exit i, σ1, h1, fun C hnp hnt Q hQ pl S a w hI => wp_block (h2 C hnp hnt (Exit.inBlock id Q) (fun pl S a w hI => by simp only [XX.ex, Exit.inBlock, if_neg hne]; exact hQ pl S a w hI) pl S a w hI)⟩
  | loop c _ =>
    intro hl σ K r h
    exact hl c (by simp [loopsOf]) σ K r h
  | exit i => intro _ σ K r h; exact ⟨.exit i, σ, h, fun C _ _ Q hQ pl S a w hI => wp_exit (hQ pl S a w hI)⟩
  | ret => intro _ σ K r h; exact ⟨.ret, σ, h, fun C _ _ Q hQ pl S a w hI => wp_ret (hQ pl S a w hI)⟩
  | _ => intro _ σ K r h; simp [exec] at h
end
end Go.PG
