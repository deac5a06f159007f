/- A part of the proofs over this seat (own work; the framework that reads a Go function as a pure one, or a use of it). No condition of its own. -/
import Derived.Test.YtckdjafnemoloaaPGR
set_option linter.unusedVariables false
set_option linter.unusedSimpArgs false
namespace Go.PG
/-! Contracts of calls, and calls in an interpreted body. -/

def ArgsG (S : Nat → Prop) (w : World) : List AV → List (Nat × Nat × Nat) → List Value → Prop
  | [], pp, vs => pp = [] ∧ vs = []
  | .val k x :: as, pp, vs => ∃ v vs', vs = v :: vs' ∧ VRd S w k x v ∧ ArgsG S w as pp vs'
  | .ptr k x :: as, pp, vs => ∃ v vs' g off pp', vs = v :: vs' ∧ pp = (g, off, k.size) :: pp' ∧ v = .pointer (some ⟨g, off, none⟩) ∧ ¬ S g ∧
      (∃ c t, w.heap[g]? = some (.cells c t (0, 0)) ∧ off + k.size ≤ c.size ∧ Rd S w k x ((c.toList.drop off).take k.size)) ∧ ArgsG S w as pp' vs'

def OutsG (S : Nat → Prop) (w : World) : List (Nat × Nat × Nat) → List TV → Prop
  | [], outs => outs = []
  | (g, off, sz) :: pp, outs => ∃ k x outs', outs = ⟨k, x⟩ :: outs' ∧ sz = k.size ∧ (∃ c t, w.heap[g]? = some (.cells c t (0, 0)) ∧ Rd S w k x ((c.toList.drop off).take k.size)) ∧ OutsG S w pp outs'

/-- Results: values; rows of the callee's own, in blocks gs from B on. -/
def ResG (S : Nat → Prop) (w : World) (B : Nat) : List RV → List Value → List Nat → Prop
  | [], vs, gs => vs = [] ∧ gs = []
  | .val k x :: rs, vs, gs => ∃ v vs', vs = v :: vs' ∧ VRd S w k x v ∧ ResG S w B rs vs' gs
  | .own e l :: rs, vs, gs => ∃ v vs', vs = v :: vs' ∧
      ((v = .slice none 0 0 ∧ l = [] ∧ ResG S w B rs vs' gs) ∨
       ∃ g gs' cap c t, gs = g :: gs' ∧ v = .slice (some ⟨g, 0, none⟩) l.length cap ∧ B ≤ g ∧ ¬ S g ∧ w.heap[g]? = some (.cells c t (0, 0)) ∧ l.length ≤ cap ∧ cap ≤ maxLen ∧ c.size = cap * e.size ∧
         RdL (Rd S w e) l (c.toList.take (l.length * e.size)) ∧ ResG S w B rs vs' gs')

def packV (vs : List Value) : Value := match vs with
  | [v] => v
  | vs => .tuple vs.toArray

def Post (S : Nat → Prop) (w : World) (pp : List (Nat × Nat × Nat)) (rs : List RV) (outs : List TV) (v : Value) (w' : World) : Prop :=
  ∃ S' vs gs, v = packV vs ∧ (∀ b, S b → S' b) ∧ (∀ b, S' b → b < w'.heap.size ∧ (S b ∨ w.heap.size ≤ b)) ∧ FrameOK w pp w' ∧ ResG S' w' w.heap.size rs vs gs ∧ gs.Nodup ∧ OutsG S' w' pp outs

/-- **A contract**: called with such arguments the function comes back with such results (and such contents behind its pointers), and nothing else has turned. -/
def Holds (P : Program) (f : FuncId) (as : List AV) (rs : List RV) (outs : List TV) : Prop :=
  (∀ args w, (callFunc f args).run P w = .ok (.enter f args) w) ∧
  ∀ (w : World) (S : Nat → Prop) (pp : List (Nat × Nat × Nat)) (vs : List Value), (∀ b, S b → b < w.heap.size) → (pp.map (·.1)).Nodup → ArgsG S w as pp vs →
    Calls P f vs.toArray w fun
      | .returned v, w' => Post S w pp rs outs v w'
      | _, _ => False

def OrcOK {R : Type} (P : Program) (call : Orc R) : Prop := ∀ f as K r, call f as K = some r → ∃ rs outs, Holds P f as rs outs ∧ K rs outs = some r

section
variable {C : Ctx} {tm : Nat → SV} {me : Nat → Option Blk} {pl : Nat → Plc} {S : Nat → Prop} {a : Act} {w : World} {P : Program} {T : Tab}

/-- Operand values one by one. -/
def SVsG (S : Nat → Prop) (w : World) (me : Nat → Option Blk) (pl : Nat → Plc) : List (SV × TypeId) → List Value → Prop
  | [], vs => vs = []
  | (s, _) :: l, vs => ∃ v vs', vs = v :: vs' ∧ G S w me pl s v ∧ SVsG S w me pl l vs'
theorem SVsG.keeps {S' : Nat → Prop} {w' : World} {me' : Nat → Option Blk} {pl' : Nat → Plc} (h : Keeps S w me pl S' w' me' pl') : ∀ {l : List (SV × TypeId)} {vs : List Value}, SVsG S w me pl l vs → SVsG S' w' me' pl' l vs
  | [], _, hh => hh
  | _ :: _, _, ⟨v, vs', e, h1, h2⟩ => ⟨v, vs', e, h1.keeps h, SVsG.keeps h h2⟩

/-- The pointers' places. -/
def PlG (me : Nat → Option Blk) (pl : Nat → Plc) : List (Nat × List Step) → List (Nat × Nat × Nat) → Prop
  | [], pp => pp = []
  | (b, p) :: ps, pp => ∃ g o k kb x sh pp', pp = (g, (pl b).off + o, k.size) :: pp' ∧ (pl b).g = some g ∧ me b = some (.var kb x sh) ∧ kb.okP p ∧ kb.offP p = some (o, k) ∧ PlG me pl ps pp'

theorem ArgsG.mono {S' : Nat → Prop} {w' : World} (hs : ∀ b, S b → S' b ∧ w'.heap[b]? = w.heap[b]?) {pp : List (Nat × Nat × Nat)} (hpp : ∀ e ∈ pp, ¬ S' e.1 ∧ w'.heap[e.1]? = w.heap[e.1]?) : ∀ {as : List AV} {vs : List Value}, ArgsG S w as pp vs → ArgsG S' w' as pp vs := by
  intro as
  induction as generalizing pp with
  | nil => intro vs h; exact h
  | cons x as ih =>
    intro vs h
    cases x with
    | val k x =>
      obtain ⟨v, vs', e, h1, h2⟩ := h
      exact ⟨v, vs', e, VRd.mono hs h1, ih hpp h2⟩
    | ptr k x =>
      obtain ⟨v, vs', g, off, pp', e, rfl, hv, hn, ⟨c, t, h3, h4, h5⟩, h2⟩ := h
      have hg := hpp _ (by simp : (g, off, k.size) ∈ _)
      exact ⟨v, vs', g, off, pp', e, rfl, hv, hg.1, ⟨c, t, by rw [hg.2]; exact h3, h4, Rd.mono hs k x _ h5⟩, ih (fun e he => hpp e (by simp [he])) h2⟩

/-- What of a list of entries is a variable's block stays one. -/
theorem toVal_kind {np : Nat} {rd : Nat → Option Blk} {sv : SV} {k : Kd} {y : k.T} {wr : List (Nat × Blk)} {acc : List Nat} (h : toVal np rd sv k = some (y, wr, acc)) {i : Nat} {kb : Kd} {x : kb.T} {sh : Bool} (hr : laid wr rd i = some (.var kb x sh)) :
    ∃ sh', rd i = some (.var kb x sh') ∧ (sh = false → sh' = false) := by
  cases sv <;> simp only [toVal] at h <;> try (cases h; done)
  case nil =>
    cases k <;> simp only [reduceCtorEq] at h
    simp only [Option.some.injEq, Prod.mk.injEq] at h
    obtain ⟨_, rfl, rfl⟩ := h
    rw [laid_nil] at hr
    exact ⟨sh, hr, id⟩
  case val =>
    split at h <;> try (cases h; done)
    simp only [Option.some.injEq, Prod.mk.injEq] at h
    obtain ⟨_, rfl, rfl⟩ := h
    rw [laid_nil] at hr
    exact ⟨sh, hr, id⟩
  case own j ver =>
    split at h <;> try (cases h; done)
    split at h <;> try (cases h; done)
    simp only [Option.some.injEq, Prod.mk.injEq] at h
    obtain ⟨_, rfl, rfl⟩ := h
    rw [laid_cons, laid_nil] at hr
    by_cases e : i = j
    · subst e; simp at hr
    · rw [upd_other _ _ e] at hr; exact ⟨sh, hr, id⟩
  case win j ver lo n =>
    split at h <;> try (cases h; done)
    split at h <;> try (cases h; done)
    simp only [Option.some.injEq, Prod.mk.injEq] at h
    obtain ⟨_, rfl, rfl⟩ := h
    rw [laid_cons, laid_nil] at hr
    by_cases e : i = j
    · subst e; simp at hr
    · rw [upd_other _ _ e] at hr; exact ⟨sh, hr, id⟩
  case asl b p lo n =>
    split at h <;> try (cases h; done)
    rename_i kb' x' sh' _ hrd
    split at h <;> try (cases h; done)
    split at h <;> try (cases h; done)
    simp only [Option.some.injEq, Prod.mk.injEq] at h
    obtain ⟨_, rfl, rfl⟩ := h
    rw [laid_cons, laid_nil] at hr
    by_cases e : i = b
    · subst e
      rw [upd_same] at hr
      cases hr
      exact ⟨sh', hrd, fun h => by cases h⟩
    · rw [upd_other _ _ e] at hr; exact ⟨sh, hr, id⟩

theorem mkArgs_sound {np : Nat} (hnp : np = C.pp.length) :
    ∀ (l : List (SV × TypeId)) (rd me : Nat → Option Blk) (S : Nat → Prop) (as : List AV) (wr : List (Nat × Blk)) (acc : List Nat) (ps : List (Nat × List Step)) (vs : List Value),
      mkArgs T np rd l = some (as, wr, acc, ps) → (∀ i ∈ acc, me i = rd i) → Inv C tm me pl S a w → SVsG S w me pl l vs →
      ∃ S' pp, Inv C tm (laid wr me) pl S' a w ∧ Keeps S w me pl S' w (laid wr me) pl ∧ PlG (laid wr me) pl ps pp ∧ (∀ q ∈ ps, q.1 ∈ acc) ∧
        ((∀ q ∈ ps, ∃ kb x, laid wr me q.1 = some (.var kb x false)) → ArgsG S' w as pp vs)
  | [], rd, me, S, as, wr, acc, ps, vs, h, _, hI, hv => by
    simp only [mkArgs, Option.some.injEq, Prod.mk.injEq] at h
    obtain ⟨rfl, rfl, rfl, rfl⟩ := h
    exact ⟨S, [], by rw [laid_nil]; exact hI, by rw [laid_nil]; exact Keeps.refl, rfl, fun q hq => (by cases hq), fun _ => ⟨rfl, hv⟩⟩
  | (sv, t) :: l, rd, me, S, as, wr, acc, ps, vs, h, hacc, hI, hv => by
    obtain ⟨v, vs', rfl, hG, hv2⟩ := hv
    simp only [mkArgs] at h
    split at h
    · rename_i k hkt
      split at h <;> try (cases h; done)
      rename_i y wr1 acc1 hval
      split at h <;> try (cases h; done)
      rename_i as2 wr2 acc2 ps2 hrest
      simp only [Option.some.injEq, Prod.mk.injEq] at h
      obtain ⟨rfl, rfl, rfl, rfl⟩ := h
      obtain ⟨S1, h1, h2, h3⟩ := toVal_sound hnp hval (fun q hq => hacc q (by simp [hq])) hI hG
      obtain ⟨S2, pp, g1, g2, g3, g4, g5⟩ := mkArgs_sound hnp l (laid wr1 rd) (laid wr1 me) S1 as2 wr2 acc2 ps2 vs' hrest (fun q hq => laid_agree (hacc q (by simp [hq]))) h1 (hv2.keeps h2)
      rw [laid_append]
      exact ⟨S2, pp, g1, h2.trans g2, g3, fun q hq => by simp [g4 q hq], fun hq => ⟨v, vs', rfl, VRd.mono g2.s h3, g5 hq⟩⟩
    · split at h <;> try (cases h; done)
      rename_i b p k
      split at h <;> try (cases h; done)
      rename_i kb x sh hrd
      split at h <;> try (cases h; done)
      rename_i k' z hget
      split at h <;> try (cases h; done)
      rename_i as2 wr2 acc2 ps2 hsame hrest
      simp only [Option.some.injEq, Prod.mk.injEq] at h
      obtain ⟨rfl, rfl, rfl, rfl⟩ := h
      have ek := same_of hsame
      subst ek
      have hm : me b = some (.var kb x sh) := by rw [hacc b (by simp)]; exact hrd
      obtain ⟨S2, pp, g1, g2, g3, g4, g5⟩ := mkArgs_sound hnp l rd me S as2 wr2 acc2 ps2 vs' hrest (fun q hq => hacc q (by simp [hq])) hI hv2
      obtain ⟨kb', x', sh', o, g, hm', hok, hoff, hg, rfl⟩ := hG
      rw [hm] at hm'
      cases hm'
      obtain ⟨x2, sh2, hm2, hp2⟩ := g2.var hm
      refine ⟨S2, (g, (pl b).off + o, k'.size) :: pp, g1, g2, ⟨g, o, k', kb, x2, sh2, pp, rfl, hg, hm2, hok, hoff, g3⟩, fun q hq => ?_, fun hq => ?_⟩
      · rcases List.mem_cons.1 hq with rfl | hq
        · simp
        · simp [g4 q hq]
      · obtain ⟨kb3, x3, hm3⟩ := hq (b, p) (by simp)
        simp only at hm3
        obtain ⟨_, g', c, tt, c1, c2, c3, hg', hc, hsz, hseg, hl1, hr2, hsh, _⟩ := hI.atPath hm hok hoff hget
        rw [hg] at hg'
        cases hg'
        have hnS : ¬ S2 g := by
          obtain ⟨g'', c'', t'', e1, e2, e3, e4, e5⟩ := g1.mem b _ hm3
          rw [hg] at e1
          cases e1
          intro hh
          have := e5.2 hh
          cases this
        refine ⟨_, vs', g, _, pp, rfl, rfl, rfl, hnS, ⟨c, tt, hc, ?_, ?_⟩, g5 (fun q hq' => hq q (by simp [hq']))⟩
        · have h2 := Rd.length _ z c2 hr2
          have h3 := congrArg List.length hseg
          simp at h3
          omega
        · have h2 := Rd.length _ z c2 hr2
          have := seg_sub hseg 0 k'.size (by omega)
          rw [hl1, Nat.add_zero, List.drop_zero, List.take_of_length_le (l := c2) (by omega)] at this
          rw [this]
          exact Rd.mono g2.s _ z c2 hr2
end
end Go.PG
