/- A part of the proofs over this seat (own work; the framework that reads a Go function as a pure one, or a use of it). No condition of its own. -/
import Derived.Test.YtckdjafnemoloaaPGV
set_option linter.unusedVariables false
set_option linter.unusedSimpArgs false
namespace Go.PG
section
variable {P : Program} {R : Type} {E : Env R}

/-- What an operation's text-order state says. -/
def Good (E : Env R) (P : Program) (ops : Array Oper) (i : Nat) (o : Oper) (σ σ' : St) (c : Cert) : Prop :=
  tget σ'.tm = putO (tget σ.tm) o.dst c.sv ∧ mget σ'.me = laid c.wr (mget σ.me) ∧ ∀ C : Ctx, E.np = C.pp.length → E.nt = C.nt → JustO C P ops i o (tget σ.tm) (mget σ.me) c

theorem just_of_runs {C : Ctx} {ops : Array Oper} {i : Nat} {o : Oper} (ho : ops[i]? = some o) {tm0 : Nat → SV} {me0 : Nat → Option Blk} {c : Cert} (hd : ∀ d, o.dst = some d → d < C.nt) (hw : ∀ j, mget c.wr j ≠ none → j ∈ c.acc)
    (hwant : ∀ (tm : Nat → SV) (me : Nat → Option Blk) (pl : Nat → Plc) (S : Nat → Prop) (a : Act) (w : World), Inv C tm me pl S a w → (∀ t ∈ looks ops o, tm t = tm0 t) → Region.wanted o (yielded ops a.tmps) = true)
    (hr : ∀ (tm : Nat → SV) (me : Nat → Option Blk) (pl : Nat → Plc) (S : Nat → Prop) (a : Act) (w : World), Inv C tm me pl S a w → (∀ t ∈ looks ops o, tm t = tm0 t) → (∀ j ∈ c.acc, me j = me0 j) → Runs P o a w (After C tm me c.sv c.wr a)) :
    JustO C P ops i o tm0 me0 c := by
  refine ⟨hw, fun tm me pl S a w hI hl hacc Q K hK => ?_⟩
  unfold wpOp
  simp only [ho, hwant tm me pl S a w hI hl, if_true]
  refine .inl ((hr tm me pl S a w hI hl hacc).wp fun v w' ⟨pl', S', h1, h2⟩ => hK pl' S' _ w' (h1.putO hd h2))

theorem wr_of {wr : List (Nat × Blk)} {acc : List Nat} : ∀ j, mget wr j ≠ none → j ∈ wr.map (·.1) ++ acc := fun j h => List.mem_append.2 (.inl (mget_mem h))

theorem xop_sound (hE : EnvOK P E) {rid : Nat} {ops : Array Oper} {σ : St} {o : Oper} {i : Nat} {accs : List (List Nat × List Nat)} {K : St → List (List Nat × List Nat) → Option R} {r : R} (ho : ops[i]? = some o)
    (hwant : ∀ (C : Ctx) (tm : Nat → SV) (me : Nat → Option Blk) (pl : Nat → Plc) (S : Nat → Prop) (a : Act) (w : World), Inv C tm me pl S a w → (∀ t ∈ looks ops o, tm t = tget σ.tm t) → Region.wanted o (yielded ops a.tmps) = true)
    (h : xop E rid σ o i accs K = some r) : ∃ c σ', K σ' ((c.wr.map (·.1), c.acc) :: accs) = some r ∧ Good E P ops i o σ σ' c := by
  have hρ : ∀ {C : Ctx} {tm : Nat → SV} {me : Nat → Option Blk} {pl : Nat → Plc} {S : Nat → Prop} {a : Act} {w : World}, Inv C tm me pl S a w → (∀ t ∈ looks ops o, tm t = tget σ.tm t) → ∀ x ∈ o.op.operands, G S w me pl (opv σ.tm x) (a.eval x) :=
    fun hI hl x hx => opv_sound hI (fun t ht => hl t (looks_op hx ht))
  unfold xop at h
  split at h
  · rename_i f c hc
    have hcal : o.op = .call c ∧ c.callee = .value (.func f) := by
      unfold calleeF at hc
      split at hc <;> try (cases hc; done)
      rename_i c' hop
      split at hc <;> try (cases hc; done)
      rename_i f' hcc
      simp only [Option.some.injEq, Prod.mk.injEq] at hc
      obtain ⟨rfl, rfl⟩ := hc
      exact ⟨hop, hcc⟩
    unfold xcall at h
    split at h <;> try (cases h; done)
    rename_i as wr acc ps hargs hsz
    have hlen := Nat.eq_of_beq_eq_true hsz
    have fin : ∀ (rs : List RV) (outs : List TV) (wo : List (Nat × Blk)), Holds P f as rs outs →
        ((ps = [] ∧ outs = [] ∧ wo = []) ∨ ∃ b p kb x v x', ps = [(b, p)] ∧ outs = [v] ∧ laid wr (mget σ.me) b = some (.var kb x false) ∧ setP kb x p v = some x' ∧ wo = [(b, .var kb x' false)]) →
        xfin E σ o wr acc accs K rs wo = some r → ∃ c σ', K σ' ((c.wr.map (·.1), c.acc) :: accs) = some r ∧ Good E P ops i o σ σ' c := by
      intro rs outs wo hH hps hfin
      unfold xfin at hfin
      split at hfin <;> try (cases hfin; done)
      rename_i cs wn nx' hres
      split at hfin <;> try (cases hfin; done)
      rename_i σ' hput
      obtain ⟨p1, p2, p3⟩ := stput_spec hput
      refine ⟨⟨resSV cs, wn ++ (wo ++ wr), (wn ++ (wo ++ wr)).map (·.1) ++ acc⟩, σ', hfin, p2, p3, fun C hnp hnt => ?_⟩
      refine just_of_runs ho (fun d hd => by rw [← hnt]; exact p1 d hd) wr_of (hwant C) (fun tm me pl S a w hI hl hacc => ?_)
      exact runs_call hE.tab hnp hcal.1 hcal.2 hargs hlen hH hps hres hI (hρ hI hl) hacc
    split at h <;> try (cases h; done)
    · obtain ⟨rs, outs, hH, hK⟩ := hE.call _ _ _ _ h
      split at hK <;> try (cases hK; done)
      exact fin rs [] [] hH (.inl ⟨rfl, rfl, rfl⟩) hK
    · rename_i b p
      split at h <;> try (cases h; done)
      rename_i kb x hb
      obtain ⟨rs, outs, hH, hK⟩ := hE.call _ _ _ _ h
      split at hK <;> try (cases hK; done)
      rename_i v
      split at hK <;> try (cases hK; done)
      rename_i x' hset
      exact fin rs [v] _ hH (.inr ⟨b, p, kb, x, v, x', rfl, rfl, hb, hset, rfl⟩) hK
  · split at h <;> try (cases h; done)
    rename_i q hq
    split at h <;> try (cases h; done)
    rename_i hok
    split at h <;> try (cases h; done)
    rename_i σ' hput
    obtain ⟨p1, p2, p3⟩ := stput_spec hput
    refine ⟨⟨q.sv, q.wr, q.wr.map (·.1) ++ q.acc⟩, σ', h, p2, p3, fun C hnp hnt => ?_⟩
    refine just_of_runs ho (fun d hd => by rw [← hnt]; exact p1 d hd) wr_of (hwant C) (fun tm me pl S a w hI hl hacc => ?_)
    exact absOp_sound hE.tab hE.eq hnp hq hok (fun j hj => hacc j (by simp [hj])) hI (hρ hI hl)

theorem xskip_sound {ops : Array Oper} {σ : St} {o : Oper} {i : Nat} {accs : List (List Nat × List Nat)} {K : St → List (List Nat × List Nat) → Option R} {r : R} (ho : ops[i]? = some o)
    (hwant : ∀ (C : Ctx) (tm : Nat → SV) (me : Nat → Option Blk) (pl : Nat → Plc) (S : Nat → Prop) (a : Act) (w : World), Inv C tm me pl S a w → (∀ t ∈ looks ops o, tm t = tget σ.tm t) → Region.wanted o (yielded ops a.tmps) = false)
    (h : xskip E σ o accs K = some r) : ∃ c σ', K σ' ((c.wr.map (·.1), c.acc) :: accs) = some r ∧ Good E P ops i o σ σ' c := by
  unfold xskip at h
  split at h <;> try (cases h; done)
  rename_i σ' hput
  obtain ⟨p1, p2, p3⟩ := stput_spec hput
  refine ⟨⟨.tup [], [], []⟩, σ', h, p2, p3, fun C _ hnt => ⟨fun j hj => absurd rfl hj, fun tm me pl S a w hI hl hacc Q K hK => ?_⟩⟩
  unfold wpOp
  simp only [ho, hwant C tm me pl S a w hI hl, Bool.false_eq_true, if_false]
  refine hK pl S _ w ?_
  rw [laid_nil]
  exact hI.putO (fun d hd => by rw [← hnt]; exact p1 d hd) ⟨[], rfl, rfl⟩

/-- The operations of a region in the text's order. -/
inductive Chain (C : Ctx) (P : Program) (ops : Array Oper) : Nat → List Oper → (Nat → SV) → (Nat → Option Blk) → List Cert → (Nat → SV) → (Nat → Option Blk) → Prop
  | nil (i : Nat) (tm : Nat → SV) (me : Nat → Option Blk) : Chain C P ops i [] tm me [] tm me
  | cons {i : Nat} {o : Oper} {rest : List Oper} {tm : Nat → SV} {me : Nat → Option Blk} {c : Cert} {cs : List Cert} {tm' : Nat → SV} {me' : Nat → Option Blk} :
      ops[i]? = some o → JustO C P ops i o tm me c → Chain C P ops (i + 1) rest (putO tm o.dst c.sv) (laid c.wr me) cs tm' me' → Chain C P ops i (o :: rest) tm me (c :: cs) tm' me'

/-- … for every call's beginning. -/
inductive ChainA (E : Env R) (P : Program) (ops : Array Oper) : Nat → List Oper → (Nat → SV) → (Nat → Option Blk) → List Cert → (Nat → SV) → (Nat → Option Blk) → Prop
  | nil (i : Nat) (tm : Nat → SV) (me : Nat → Option Blk) : ChainA E P ops i [] tm me [] tm me
  | cons {i : Nat} {o : Oper} {rest : List Oper} {tm : Nat → SV} {me : Nat → Option Blk} {c : Cert} {cs : List Cert} {tm' : Nat → SV} {me' : Nat → Option Blk} :
      ops[i]? = some o → (∀ C : Ctx, E.np = C.pp.length → E.nt = C.nt → JustO C P ops i o tm me c) → ChainA E P ops (i + 1) rest (putO tm o.dst c.sv) (laid c.wr me) cs tm' me' → ChainA E P ops i (o :: rest) tm me (c :: cs) tm' me'
theorem ChainA.at {C : Ctx} (hnp : E.np = C.pp.length) (hnt : E.nt = C.nt) {ops : Array Oper} {i : Nat} {rest : List Oper} {tm : Nat → SV} {me : Nat → Option Blk} {cs : List Cert} {tm' : Nat → SV} {me' : Nat → Option Blk} (h : ChainA E P ops i rest tm me cs tm' me') : Chain C P ops i rest tm me cs tm' me' := by
  induction h with
  | nil i tm me => exact .nil i tm me
  | cons ho hj _ ih => exact .cons ho (hj C hnp hnt) ih

theorem tget_same {tm : List (Nat × SV)} {d : Nat} {b : Bool} (h : tget tm d = .val .bool b) : tget ((d, .val .bool b) :: tm) = tget tm := by
  rw [tget_cons]; exact upd_self h

theorem looks_guard {ops : Array Oper} {o : Oper} {j d : Nat} {want : Bool} (hg : o.guard = some (j, want)) (hd : (ops[j]?).bind (·.dst) = some d) : d ∈ looks ops o := by
  unfold looks
  rw [hg]
  refine List.mem_append.2 (.inr ?_)
  simp only [hd]
  simp

theorem xops_sound (hE : EnvOK P E) {rid : Nat} {ops : Array Oper} {r : R} :
    ∀ (rest : List Oper) (i : Nat) (σ : St) (accs : List (List Nat × List Nat)) (K : St → List (List Nat × List Nat) → Option R), (∀ j, rest[j]? = ops[i + j]?) → xops E rid ops rest i σ accs K = some r →
      ∃ cs σ', K σ' ((cs.map fun c => (c.wr.map (·.1), c.acc)).reverse ++ accs) = some r ∧ ChainA E P ops i rest (tget σ.tm) (mget σ.me) cs (tget σ'.tm) (mget σ'.me)
  | [], i, σ, accs, K, _, h => ⟨[], σ, h, .nil i _ _⟩
  | o :: rest, i, σ, accs, K, hr, h => by
    have ho : ops[i]? = some o := by simpa using (hr 0).symm
    have hr' : ∀ j, rest[j]? = ops[i + 1 + j]? := fun j => by have := hr (j + 1); simpa [Nat.add_assoc, Nat.add_comm 1 j] using this
    have step : ∀ (σ1 : St), tget σ1.tm = tget σ.tm → mget σ1.me = mget σ.me → (∃ c σ', (fun σ' accs' => xops E rid ops rest (i + 1) σ' accs' K) σ' ((c.wr.map (·.1), c.acc) :: accs) = some r ∧ Good E P ops i o σ1 σ' c) →
        ∃ cs σ', K σ' ((cs.map fun c => (c.wr.map (·.1), c.acc)).reverse ++ accs) = some r ∧ ChainA E P ops i (o :: rest) (tget σ.tm) (mget σ.me) cs (tget σ'.tm) (mget σ'.me) := by
      intro σ1 e1 e2 ⟨c, σ2, h1, g1, g2, g3⟩
      obtain ⟨cs, σ3, h2, h3⟩ := xops_sound hE rest (i + 1) σ2 ((c.wr.map (·.1), c.acc) :: accs) K hr' h1
      rw [g1, g2, e1, e2] at h3
      rw [e1, e2] at g3
      exact ⟨c :: cs, σ3, by simpa using h2, .cons ho g3 h3⟩
    simp only [xops] at h
    split at h
    · rename_i hg
      exact step σ rfl rfl (xop_sound hE ho (fun _ _ _ _ _ _ _ _ _ => wanted_none hg) h)
    · rename_i j want hg
      split at h <;> try (cases h; done)
      rename_i d hd
      have hlk := looks_guard hg hd
      split at h <;> try (cases h; done)
      · rename_i c hc
        have key : ∀ (b : Bool), tget σ.tm d = .val .bool b → ∀ {C : Ctx} {tm : Nat → SV} {me : Nat → Option Blk} {pl : Nat → Plc} {S : Nat → Prop} {a : Act} {w : World}, Inv C tm me pl S a w → (∀ t ∈ looks ops o, tm t = tget σ.tm t) → Region.wanted o (yielded ops a.tmps) = (b == want) := by
          intro b hb C tm me pl S a w hI hl
          have h1 := hI.tms d
          rw [hl d hlk, hb] at h1
          exact wanted_some hg hd (VRd.bool.1 h1)
        cases c
        · simp only at h
          have e1 := tget_same hc
          split at h
          · exact step ⟨(d, .val .bool false) :: σ.tm, σ.me, σ.nx⟩ e1 rfl (xop_sound hE ho (fun C tm me pl S a w hI hl => by rw [key false hc hI (by rw [← e1]; exact hl)]; rfl) h)
          · exact step ⟨(d, .val .bool false) :: σ.tm, σ.me, σ.nx⟩ e1 rfl (xskip_sound ho (fun C tm me pl S a w hI hl => by rw [key false hc hI (by rw [← e1]; exact hl)]; rfl) h)
        · simp only at h
          have e1 := tget_same hc
          split at h
          · exact step ⟨(d, .val .bool true) :: σ.tm, σ.me, σ.nx⟩ e1 rfl (xop_sound hE ho (fun C tm me pl S a w hI hl => by rw [key true hc hI (by rw [← e1]; exact hl)]; rfl) h)
          · exact step ⟨(d, .val .bool true) :: σ.tm, σ.me, σ.nx⟩ e1 rfl (xskip_sound ho (fun C tm me pl S a w hI hl => by rw [key true hc hI (by rw [← e1]; exact hl)]; rfl) h)
      · rename_i hc
        refine step σ rfl rfl (xskip_sound ho (fun C tm me pl S a w hI hl => ?_) h)
        have h1 := hI.tms d
        rw [hl d hlk, hc] at h1
        obtain ⟨vs, e1, e2⟩ := h1
        simp only [CmpsG] at e2
        subst e2
        exact wanted_skip hg hd e1

/-- A region that doesn't draw. -/
theorem chain_seq {C : Ctx} {ops : Array Oper} {Q : Exit → Act → World → Prop} : ∀ {i : Nat} {rest : List Oper} {tm : Nat → SV} {me : Nat → Option Blk} {cs : List Cert} {tm' : Nat → SV} {me' : Nat → Option Blk}, Chain C P ops i rest tm me cs tm' me' →
    (∀ pl S a w, Inv C tm' me' pl S a w → Q .normal a w) → ∀ pl S a w, Inv C tm me pl S a w → wpOps P ops Q ((List.range rest.length).map (· + i)) a w := by
  intro i rest tm me cs tm' me' h
  induction h with
  | nil i tm me => intro hQ pl S a w hI; simpa [wpOps] using hQ pl S a w hI
  | cons ho hj _ ih =>
    rename_i i o rest tm me c cs tm' me' _
    intro hQ pl S a w hI
    rw [List.length_cons, List.range_succ_eq_map, List.map_cons, wpOps_cons, Nat.zero_add, List.map_map]
    refine hj.2 tm me pl S a w hI (fun _ _ => rfl) (fun _ _ => rfl) Q _ (fun pl' S' a' w' hI' => ?_)
    have := ih hQ pl' S' a' w' hI'
    have e : (List.range rest.length).map ((fun x => x + i) ∘ Nat.succ) = (List.range rest.length).map (· + (i + 1)) := by
      apply List.map_congr_left; intro x _; simp; omega
    rw [e]; exact this
end
end Go.PG
