/- A part of the proofs over this seat (own work; the framework that reads a Go function as a pure one, or a use of it). No condition of its own. -/
import Derived.Test.YtckdjafnemoloaaPGU
set_option linter.unusedVariables false
set_option linter.unusedSimpArgs false
namespace Go.PG
/-! One operation of a region, as the interpreter carries it out. -/
structure Cert where
  sv : SV
  wr : List (Nat × Blk)
  acc : List Nat

def putO (tm : Nat → SV) : Option Tmp → SV → (Nat → SV)
  | none, _ => tm
  | some d, sv => upd tm d sv

def JustO (C : Ctx) (P : Program) (ops : Array Oper) (i : Nat) (o : Oper) (tm0 : Nat → SV) (me0 : Nat → Option Blk) (c : Cert) : Prop :=
  (∀ j, mget c.wr j ≠ none → j ∈ c.acc) ∧
  ∀ (tm : Nat → SV) (me : Nat → Option Blk) (pl : Nat → Plc) (S : Nat → Prop) (a : Act) (w : World), Inv C tm me pl S a w → (∀ t ∈ looks ops o, tm t = tm0 t) → (∀ j ∈ c.acc, me j = me0 j) →
    ∀ (Q : Exit → Act → World → Prop) (K : Act → World → Prop), (∀ pl' S' a' w', Inv C (putO tm o.dst c.sv) (laid c.wr me) pl' S' a' w' → K a' w') → wpOp P ops Q i K a w

structure EnvOK {R : Type} (P : Program) (E : Env R) : Prop where
  tab : TabOK P E.T
  eq : ∀ t ∈ E.eqt, ∀ k, tkd E.T t = some k → EqOK P t k
  call : OrcOK P E.call

section
variable {C : Ctx} {P : Program} {R : Type} {E : Env R}

theorem cSV_sound {S : Nat → Prop} {w : World} {me : Nat → Option Blk} {pl : Nat → Plc} (v : Value) : G S w me pl (cSV v) v := by
  unfold cSV
  split
  · exact VRd.int.2 rfl
  · exact VRd.bool.2 rfl
  · exact VRd.str.2 rfl
  · rfl
  · trivial

theorem opv_sound {tm0 : List (Nat × SV)} {tm : Nat → SV} {me : Nat → Option Blk} {pl : Nat → Plc} {S : Nat → Prop} {a : Act} {w : World} (hI : Inv C tm me pl S a w) {x : Operand} (h : ∀ t, x = .tmp t → tm t = tget tm0 t) :
    G S w me pl (opv tm0 x) (a.eval x) := by
  cases x with
  | tmp t => simp only [opv]; rw [← h t rfl]; exact hI.tms t
  | const v => exact cSV_sound v
  | global g => trivial
  | func f => rfl

theorem looks_op {ops : Array Oper} {o : Oper} {x : Operand} {t : Tmp} (hx : x ∈ o.op.operands) (ht : x = .tmp t) : t ∈ looks ops o := by
  subst ht
  unfold looks
  refine List.mem_append.2 (.inl (List.mem_filterMap.2 ⟨.tmp t, by simpa using hx, rfl⟩))

/-- The state behind an operation. -/
theorem Inv.putO {tm : Nat → SV} {me : Nat → Option Blk} {pl : Nat → Plc} {S : Nat → Prop} {a : Act} {w : World} (h : Inv C tm me pl S a w) {dst : Option Tmp} {sv : SV} {v : Value} (hd : ∀ d, dst = some d → d < C.nt) (hg : G S w me pl sv v) :
    Inv C (PG.putO tm dst sv) me pl S (a.put dst v) w := by
  cases dst with
  | none => exact h
  | some d => exact h.put (hd d rfl) hg

theorem stput_spec {nt : Nat} {σ σ' : St} {dst : Option Tmp} {sv : SV} {wr : List (Nat × Blk)} {nx : Nat} (h : stput nt σ dst sv wr nx = some σ') :
    (∀ d, dst = some d → d < nt) ∧ tget σ'.tm = PG.putO (tget σ.tm) dst sv ∧ mget σ'.me = laid wr (mget σ.me) := by
  unfold stput at h
  cases dst with
  | none => simp only [Option.some.injEq] at h; subst h; exact ⟨fun d hd => (by cases hd), rfl, mget_append _ _⟩
  | some d =>
    simp only at h
    split at h <;> try (cases h; done)
    rename_i hb
    simp only [Option.some.injEq] at h
    subst h
    exact ⟨fun d' hd => by cases hd; simpa [Nat.blt_eq] using hb, tget_cons _ _ _, mget_append _ _⟩

theorem mget_mem {l : List (Nat × Blk)} {j : Nat} (h : mget l j ≠ none) : j ∈ l.map (·.1) := by
  induction l with
  | nil => exact absurd rfl h
  | cons p l ih =>
    obtain ⟨i, b⟩ := p
    simp only [mget] at h
    cases hb : Nat.beq i j with
    | true => have := Nat.eq_of_beq_eq_true hb; subst this; simp
    | false => rw [hb] at h; simp at h; exact List.mem_cons_of_mem _ (ih h)

/-- Is the operation wanted, where its guard's value is known? -/
theorem wanted_none {ops : Array Oper} {o : Oper} {a : Act} (hg : o.guard = none) : Region.wanted o (yielded ops a.tmps) = true := by
  unfold Region.wanted; rw [hg]
theorem getD_get {a : Act} {d : Nat} {v : Value} (h : a.tmps.getD d undef = v) (hd : d < a.tmps.size) : a.tmps[d]? = some v := by
  rw [Array.getD_eq_getD_getElem?] at h
  rw [Array.getElem?_eq_getElem hd] at h ⊢
  simpa using h
theorem wanted_some {ops : Array Oper} {o : Oper} {a : Act} {j d : Nat} {want b : Bool} (hg : o.guard = some (j, want)) (hd : (ops[j]?).bind (·.dst) = some d) (hv : a.tmps.getD d undef = .bool b) :
    Region.wanted o (yielded ops a.tmps) = (b == want) := by
  have hlt : d < a.tmps.size := by
    rcases Nat.lt_or_ge d a.tmps.size with h | h
    · exact h
    · rw [Array.getD_eq_getD_getElem?, Array.getElem?_eq_none h] at hv; simp [undef] at hv
  unfold Region.wanted
  rw [hg]
  simp only [yielded, hd, Option.bind_some, getD_get hv hlt]
  cases b <;> cases want <;> rfl
theorem wanted_skip {ops : Array Oper} {o : Oper} {a : Act} {j d : Nat} {want : Bool} (hg : o.guard = some (j, want)) (hd : (ops[j]?).bind (·.dst) = some d) (hv : a.tmps.getD d undef = .tuple #[]) :
    Region.wanted o (yielded ops a.tmps) = false := by
  unfold Region.wanted
  rw [hg]
  simp only [yielded, hd, Option.bind_some]
  cases h : a.tmps[d]? with
  | none => rfl
  | some v =>
    have : a.tmps.getD d undef = v := by rw [Array.getD_eq_getD_getElem?, h]; rfl
    rw [hv] at this
    subst this
    rfl

theorem ResG.ge {S : Nat → Prop} {w : World} {B : Nat} : ∀ {rs : List RV} {vs : List Value} {gs : List Nat}, ResG S w B rs vs gs → ∀ g ∈ gs, B ≤ g
  | [], _, _, h, g, hg => by rw [h.2] at hg; cases hg
  | .val k x :: rs, _, _, ⟨v, vs', _, _, h2⟩, g, hg => ResG.ge h2 g hg
  | .own e l :: rs, _, _, ⟨v, vs', _, h2⟩, g, hg => by
    rcases h2 with ⟨_, _, h3⟩ | ⟨g0, gs', cap, c, t, rfl, _, hB, _, _, _, _, _, _, h3⟩
    · exact ResG.ge h3 g hg
    · rcases List.mem_cons.1 hg with rfl | hg
      · exact hB
      · exact ResG.ge h3 g hg
theorem Inv.place_lt {tm : Nat → SV} {me : Nat → Option Blk} {pl : Nat → Plc} {S : Nat → Prop} {a : Act} {w : World} (h : Inv C tm me pl S a w) {i : Nat} {b : Blk} {g : Nat} (hi : me i = some b) (hg : (pl i).g = some g) : g < w.heap.size := by
  have := h.mem i b hi
  cases b with
  | var k x sh => obtain ⟨g', c', t', e1, e2, _⟩ := this; rw [hg] at e1; cases e1; exact (Array.getElem?_eq_some_iff.1 e2).1
  | row e l v sh =>
    rcases this with e1 | ⟨g', c', t', e1, _, e2, _⟩
    · rw [hg] at e1; cases e1.1
    · rw [hg] at e1; cases e1; exact (Array.getElem?_eq_some_iff.1 e2).1

/-- A call, carried out. -/
theorem runs_call (hT : TabOK P E.T) (hnp : E.np = C.pp.length) {σ : St} {o : Oper} {f : FuncId} {c : Call} (hop : o.op = .call c) (hcal : c.callee = .value (.func f)) {as : List AV} {wr : List (Nat × Blk)} {acc : List Nat} {ps : List (Nat × List Step)}
    (hargs : mkArgs E.T E.np (mget σ.me) ((c.args.toList.map (opv σ.tm)).zip c.argTypes.toList) = some (as, wr, acc, ps)) (hlen : c.args.size = c.argTypes.size) {rs : List RV} {outs : List TV} (hH : Holds P f as rs outs)
    {wo : List (Nat × Blk)} (hps : (ps = [] ∧ outs = [] ∧ wo = []) ∨ ∃ b p kb x v x', ps = [(b, p)] ∧ outs = [v] ∧ laid wr (mget σ.me) b = some (.var kb x false) ∧ setP kb x p v = some x' ∧ wo = [(b, .var kb x' false)])
    {cs : List Cmp} {wn : List (Nat × Blk)} {nx' : Nat} (hres : mkRes (laid (wo ++ wr) (mget σ.me)) E.np rs σ.nx = some (cs, wn, nx'))
    {tm : Nat → SV} {me : Nat → Option Blk} {pl : Nat → Plc} {S : Nat → Prop} {a : Act} {w : World} (hI : Inv C tm me pl S a w) (hρ : ∀ x ∈ o.op.operands, G S w me pl (opv σ.tm x) (a.eval x))
    (hacc : ∀ j ∈ (wn ++ (wo ++ wr)).map (·.1) ++ acc, me j = mget σ.me j) :
    Runs P o a w (After C tm me (resSV cs) (wn ++ (wo ++ wr)) a) := by
  have hrun : (execOp a.eval o).run P w = .ok (.enter f (c.args.map a.eval)) w := by
    simp only [execOp, hop]
    simp only [resolve, hcal, Act.eval, Deferred.ofValue]
    simp [Sem.run_bind, invoke, hH.1]
  have hSV : SVsG S w me pl ((c.args.toList.map (opv σ.tm)).zip c.argTypes.toList) (c.args.toList.map a.eval) := by
    have hx : ∀ x ∈ c.args.toList, G S w me pl (opv σ.tm x) (a.eval x) := fun x hx => hρ x (by simp [hop, Op.operands, Call.operands, hcal]; exact .inr (by simpa using hx))
    have hl : c.args.toList.length = c.argTypes.toList.length := by simpa using hlen
    generalize c.args.toList = l at *
    generalize c.argTypes.toList = ts at *
    clear hargs
    induction l generalizing ts with
    | nil => rfl
    | cons x l ih =>
      cases ts with
      | nil => simp at hl
      | cons t ts => exact ⟨_, _, rfl, hx x (by simp), ih (fun y hy => hx y (List.mem_cons_of_mem _ hy)) ts (by simpa using hl)⟩
  obtain ⟨S1, pp, h1, h2, h3, h4, h5⟩ := mkArgs_sound hnp _ (mget σ.me) me S as wr acc ps _ hargs (fun i hi => hacc i (by simp [hi])) hI hSV
  have hlag : ∀ j, j ∈ (wn ++ (wo ++ wr)).map (·.1) ++ acc → ∀ l, laid l me j = laid l (mget σ.me) j := fun j hj l => laid_agree (hacc j hj)
  have fin : ∀ (S2 : Nat → Prop) (w' : World) (vs : List Value) (gs : List Nat) (wo' : List (Nat × Blk)), Inv C tm (laid (wo' ++ wr) me) pl S2 a w' → ResG S2 w' w.heap.size rs vs gs → gs.Nodup → wo' = wo →
      (∀ i b, laid (wo' ++ wr) me i = some b → ∃ b', laid wr me i = some b') → After C tm me (resSV cs) (wn ++ (wo ++ wr)) a (packV vs) w' := by
    intro S2 w' vs gs wo' hI2 g4 g5 e hk
    subst e
    obtain ⟨pl', q1, q2, q3⟩ := mkRes_sound hnp h1.fr.size rs _ (laid (wo' ++ wr) me) pl vs gs σ.nx nx' cs wn hres (fun i hi => hlag i (by simp only [List.map_append, List.mem_append]; exact .inl (.inl hi)) (wo' ++ wr)) hI2 g4 g5 (fun i b g hi hg hh => by
      obtain ⟨b', hb'⟩ := hk i b hi
      have h8 := h1.place_lt hb' hg
      have h9 := g4.ge g hh
      omega)
    refine ⟨pl', S2, ?_, ?_⟩
    · rw [laid_append]; exact q1
    · rw [laid_append]; exact resSV_sound q3
  unfold Runs
  rw [hrun]
  simp only
  rcases hps with ⟨rfl, rfl, rfl⟩ | ⟨b, p, kb, x, v, x', rfl, rfl, hb, hset, rfl⟩
  · simp only [PlG] at h3
    subst h3
    have hA := h5 (fun q hq => by cases hq)
    have hC := hH.2 w S1 [] _ (fun b hb => (h1.sfr b hb).1) (by simp) hA
    rw [show (c.args.toList.map a.eval).toArray = c.args.map a.eval by apply Array.ext'; simp] at hC
    refine hC.mono fun e w' he => ?_
    cases e with
    | returned v =>
      simp only at he ⊢
      obtain ⟨S2, vs, gs, rfl, g1, g2, g3, g4, g5, g6⟩ := he
      exact fin S2 w' vs gs [] (h1.afterCall0 g1 g2 g3) g4 g5 rfl (fun i b h => ⟨b, h⟩)
    | panicked _ => exact he
    | outgrown => exact he
  · obtain ⟨g, o', k, kb', x2, sh2, pp', rfl, hg, hm2, hok, hoff, hpp⟩ := h3
    simp only [PlG] at hpp
    subst hpp
    have hbacc : b ∈ acc := h4 (b, p) (by simp)
    have hmb : laid wr me b = some (.var kb x false) := by rw [hlag b (by simp [hbacc]) wr]; exact hb
    rw [hmb] at hm2
    cases hm2
    have hA := h5 (fun q hq => by simp at hq; subst hq; exact ⟨kb, x, hmb⟩)
    have hC := hH.2 w S1 [(g, (pl b).off + o', k.size)] _ (fun b hb => (h1.sfr b hb).1) (by simp) hA
    rw [show (c.args.toList.map a.eval).toArray = c.args.map a.eval by apply Array.ext'; simp] at hC
    refine hC.mono fun e w' he => ?_
    cases e with
    | returned v' =>
      simp only at he ⊢
      obtain ⟨S2, vs, gs, rfl, g1, g2, g3, g4, g5, g6⟩ := he
      obtain ⟨k2, y, outs', e1, e2, ⟨c', t', hc', hr'⟩, e3⟩ := g6
      simp only [OutsG] at e3
      subst e3
      have ev : v = ⟨k2, y⟩ := by simpa using e1
      subst ev
      have hkk : k2 = k := by
        obtain ⟨k3, z, hget, has⟩ := getP_of_setP hset
        have e4 := as_kind has
        simp only at e4
        subst e4
        exact (h1.atPath hmb hok hoff hget).1.symm
      subst hkk
      have hI2 := h1.afterCall1 g1 g2 hmb hok hoff hg hset g3 hc' hr'
      refine fin S2 w' vs gs [(b, .var kb x' false)] (by rw [laid_append, laid_cons, laid_nil]; exact hI2) g4 g5 rfl (fun i b' h => ?_)
      rw [laid_append, laid_cons, laid_nil] at h
      by_cases e5 : i = b
      · subst e5; exact ⟨_, hmb⟩
      · rw [upd_other _ _ e5] at h; exact ⟨_, h⟩
    | panicked _ => exact he
    | outgrown => exact he
end
end Go.PG
