/- A part of the proofs over this seat (own work; the framework that reads a Go function as a pure one, or a use of it). No condition of its own. -/
import Derived.Test.YtckdjafnemoloaaPGD
import Derived.Laws.StructEq
import Derived.Laws.Tables
set_option linter.unusedVariables false
set_option linter.unusedSimpArgs false
namespace Go.PG
/-! Soundness of single operations. -/

def isAggD : TypeDesc → Bool
  | .struct _ | .array _ _ => true
  | _ => false
def kdIs (T : Tab) (t : TypeId) (k : Kd) : Bool := match tkd T t with | some k' => k'.same k | none => false
def fieldsOK (T : Tab) : List Field → Nat → Kd → Bool
  | [], _, .unit => true
  | f :: fs, off, .pair a b => Nat.beq f.offset off && kdIs T f.type a && !(Nat.beq a.size 0) && fieldsOK T fs (off + a.size) b
  | _, _, _ => false
def descOK (T : Tab) : TypeDesc → Kd → Bool
  | .int a, .int b => Kd.ikb a b
  | .bool, .bool => true
  | .string, .str => true
  | .array n e, .arr m k => Nat.beq n m && kdIs T e k
  | .slice e, .sl k => kdIs T e k
  | .struct fs, k => fieldsOK T fs.toList 0 k
  | _, _ => false

structure TyOK (P : Program) (T : Tab) (t : TypeId) (d : TyD) : Prop where
  und : P.underlying t = some d.desc
  info : ∃ i, P.info? t = some i ∧ i.size = d.size ∧ i.bytes = d.bytes ∧ ∀ k, d.kd = some k → ∃ z, i.zero = some z ∧ z.cells = k.zcells.toArray
  kd : ∀ k, d.kd = some k → k.size = d.size ∧ descOK T d.desc k = true
def TabOK (P : Program) (T : Tab) : Prop := ∀ t d, tlook T t = some d → TyOK P T t d

section
variable {P : Program} {T : Tab}

theorem tkd_some (hT : TabOK P T) {t : TypeId} {k : Kd} (h : tkd T t = some k) : ∃ d, tlook T t = some d ∧ d.kd = some k ∧ TyOK P T t d := by
  unfold tkd at h
  cases hd : tlook T t with
  | none => simp [hd] at h
  | some d => simp [hd] at h; exact ⟨d, rfl, h, hT t d hd⟩
theorem tdesc_some (hT : TabOK P T) {t : TypeId} {e : TypeDesc} (h : tdesc T t = some e) : P.underlying t = some e := by
  unfold tdesc at h
  cases hd : tlook T t with
  | none => simp [hd] at h
  | some d => simp [hd] at h; rw [← h]; exact (hT t d hd).und
theorem tkd_desc (hT : TabOK P T) {t : TypeId} {k : Kd} {e : TypeDesc} (h : tkd T t = some k) (h2 : tdesc T t = some e) : descOK T e k = true := by
  obtain ⟨d, h1, h3, h4⟩ := tkd_some hT h
  simp [tdesc, h1] at h2
  rw [← h2]; exact (h4.kd k h3).2
theorem kdIs_some {t : TypeId} {k : Kd} (h : kdIs T t k = true) : tkd T t = some k := by
  unfold kdIs at h
  cases hk : tkd T t with
  | none => simp [hk] at h
  | some k' => simp [hk] at h; rw [Kd.same_eq h]

theorem fieldsOK_agg {fs : List Field} {off : Nat} {k : Kd} (h : fieldsOK T fs off k = true) : k.agg = true := by
  cases fs <;> cases k <;> simp [fieldsOK] at h <;> rfl
theorem agg_of (hT : TabOK P T) {t : TypeId} {k : Kd} (h : tkd T t = some k) : ∃ e, P.underlying t = some e ∧ isAggD e = k.agg := by
  obtain ⟨d, h1, h2, h3⟩ := tkd_some hT h
  refine ⟨d.desc, h3.und, ?_⟩
  have := (h3.kd k h2).2
  cases hd : d.desc <;> cases k <;> simp [hd, descOK] at this <;> first | rfl | (have := fieldsOK_agg this; simp [Kd.agg] at this)

theorem run_isAgg (hT : TabOK P T) (w : World) {t : TypeId} {k : Kd} (h : tkd T t = some k) : (isAgg t).run P w = .ok k.agg w := by
  obtain ⟨e, h1, h2⟩ := agg_of hT h
  unfold isAgg
  simp only [Sem.run_bind, run_underlying h1, Result.andThen_ok]
  cases e <;> simp [isAggD] at h2 <;> simp [← h2]
theorem run_sizeOf (hT : TabOK P T) (w : World) {t : TypeId} {k : Kd} (h : tkd T t = some k) : (sizeOf t).run P w = .ok k.size w := by
  obtain ⟨d, h1, h2, h3⟩ := tkd_some hT h
  obtain ⟨i, h4, h5, _⟩ := h3.info
  simp [sizeOf, typeInfo, h4, h5, (h3.kd k h2).1]
theorem run_zeroValue (hT : TabOK P T) (w : World) {t : TypeId} {k : Kd} (h : tkd T t = some k) : ∃ z, (zeroValue t).run P w = .ok z w ∧ z.cells = k.zcells.toArray := by
  obtain ⟨d, h1, h2, h3⟩ := tkd_some hT h
  obtain ⟨i, h4, _, _, h6⟩ := h3.info
  obtain ⟨z, h7, h8⟩ := h6 k h2
  exact ⟨z, by simp [zeroValue, typeInfo, h4, h7], h8⟩

theorem add_eq (g off n : Nat) : (⟨g, off, none⟩ : Addr).add n = ⟨g, off + n, none⟩ := by unfold Addr.add; split <;> simp_all

/-- A variable at cells that read as x, loaded. -/
theorem run_loadVar (hT : TabOK P T) {S : Nat → Prop} {w : World} {t : TypeId} {k : Kd} {x : k.T} (h : tkd T t = some k) {g off : Nat} {c : Array Value} {ty : TypeId} {fr : Nat × Nat}
    (hc : w.heap[g]? = some (.cells c ty fr)) {cs : List Value} (hl : ∀ j v, cs[j]? = some v → c[off + j]? = some v) (hr : Rd S w k x cs) :
    (loadVar t ⟨g, off, none⟩).run P w = .ok (k.mkV cs) w := by
  have hcell : ∀ j v, cs[j]? = some v → w.cell? ((⟨g, off, none⟩ : Addr).add j) = some v := fun j v hj => by
    rw [add_eq, cell_of_row w g (off + j) c ty fr hc]; exact hl j v hj
  unfold loadVar
  simp only [Sem.run_bind, run_isAgg hT w h, Result.andThen_ok]
  by_cases ha : k.agg = true
  · have hlc := run_loadCells_list (P := P) w ⟨g, off, none⟩ cs hcell
    rw [Rd.length k x cs hr] at hlc
    simp [ha, run_sizeOf hT w h, hlc, Kd.mkV]
  · have hlen := Rd.length k x cs hr
    have h1 : k.size = 1 := by cases k <;> simp [Kd.agg] at ha <;> rfl
    rw [h1] at hlen
    obtain ⟨v, rfl⟩ := List.length_eq_one_iff.1 hlen
    have := hcell 0 v rfl
    rw [add_eq, Nat.add_zero] at this
    simp [ha, run_load, this, Kd.mkV]

theorem seg_get {c : Array Value} {off n : Nat} {cs : List Value} (h : (c.toList.drop off).take n = cs) : ∀ j v, cs[j]? = some v → c[off + j]? = some v := by
  intro j v hj
  rw [← h, List.getElem?_take] at hj
  split at hj
  · rw [List.getElem?_drop] at hj; simpa using hj
  · cases hj
theorem seg_mid {c : Array Value} {off n : Nat} {c1 c2 c3 : List Value} (h : (c.toList.drop off).take n = c1 ++ c2 ++ c3) : ∀ j v, c2[j]? = some v → c[off + c1.length + j]? = some v := by
  intro j v hj
  have := seg_get h (c1.length + j) v (by
    rw [List.append_assoc, List.getElem?_append_right (by omega), List.getElem?_append_left (by
      have := (List.getElem?_eq_some_iff.1 (show c2[j]? = some v from hj)).1; omega)]
    simpa using hj)
  rw [← this]; congr 1; omega

/-- A variable stored over. -/
theorem run_storeVar (hT : TabOK P T) {S : Nat → Prop} {w : World} {t : TypeId} {k : Kd} {x : k.T} (h : tkd T t = some k) {g off : Nat} {c : Array Value} {ty : TypeId}
    (hc : w.heap[g]? = some (.cells c ty (0, 0))) {cs : List Value} (hr : Rd S w k x cs) (hfit : off + k.size ≤ c.size) :
    (storeVar t ⟨g, off, none⟩ (k.mkV cs)).run P w = .ok () (w.setRow g (c.toList.take off ++ cs ++ c.toList.drop (off + cs.length)).toArray) := by
  have hlen := Rd.length k x cs hr
  unfold storeVar
  have hst := run_storeCells_at P g off ty cs 0 c w hc (by omega) (Rd.one k x cs hr)
  simp only [Nat.add_zero] at hst
  simp [run_sizeOf hT w h, hr.cells, hlen, hst]
end

/-! what an operation's run is asked -/
def Runs (P : Program) (o : Oper) (a : Act) (w : World) (post : Value → World → Prop) : Prop :=
  match (execOp a.eval o).run P w with
  | .ok (.value v) w' => post v w'
  | .ok .skip w' => post undef w'
  | .ok (.enter f args) w' => Calls P f args w' fun
    | .returned v, w'' => post v w''
    | _, _ => False
  | _ => False

theorem Runs.wp {P : Program} {o : Oper} {a : Act} {w : World} {post : Value → World → Prop} (h : Runs P o a w post) {K : Act → World → Prop} {Q : Exit → Act → World → Prop}
    (hk : ∀ v w', post v w' → K (a.put o.dst v) w') : o.wp P a w K Q := by
  unfold Runs at h
  unfold Oper.wp
  generalize (execOp a.eval o).run P w = r at *
  cases r with
  | ok n w' =>
    cases n <;> simp only [Oper.upon] at h ⊢ <;> first | exact hk _ _ h | exact h.elim | skip
    exact h.mono fun e w'' he => by
      cases e <;> first | exact hk _ _ he | exact he.elim
  | halt x w' => exact h.elim

theorem Runs.value {P : Program} {o : Oper} {a : Act} {w w' : World} {post : Value → World → Prop} {v : Value} (h : (execOp a.eval o).run P w = .ok (.value v) w') (hp : post v w') : Runs P o a w post := by
  unfold Runs; rw [h]; exact hp
theorem Runs.skip {P : Program} {o : Oper} {a : Act} {w w' : World} {post : Value → World → Prop} (h : (execOp a.eval o).run P w = .ok .skip w') (hp : post undef w') : Runs P o a w post := by
  unfold Runs; rw [h]; exact hp

/-- What holds behind an operation. -/
def After (C : Ctx) (tm : Nat → SV) (me : Nat → Option Blk) (sv : SV) (wr : List (Nat × Blk)) (a : Act) (v : Value) (w' : World) : Prop :=
  ∃ pl' S', Inv C tm (laid wr me) pl' S' a w' ∧ G S' w' (laid wr me) pl' sv v

theorem nbeq_false {i j : Nat} (h : i ≠ j) : Nat.beq i j = false := by
  cases hb : Nat.beq i j with
  | false => rfl
  | true => exact absurd (Nat.eq_of_beq_eq_true hb) h
theorem laid_nil (me : Nat → Option Blk) : laid [] me = me := by funext j; rfl
theorem laid_cons (i : Nat) (b : Blk) (wr : List (Nat × Blk)) (me : Nat → Option Blk) : laid ((i, b) :: wr) me = upd (laid wr me) i (some b) := by
  funext j
  simp only [laid, mget, upd]
  by_cases h : i = j
  · subst h; simp
  · have : Nat.beq i j = false := nbeq_false h
    simp only [this]; rw [if_neg (fun e => h e.symm)]
theorem laid_append (w1 w2 : List (Nat × Blk)) (me : Nat → Option Blk) : laid (w1 ++ w2) me = laid w1 (laid w2 me) := by
  induction w1 with
  | nil => rw [List.nil_append, laid_nil]
  | cons p l ih => obtain ⟨i, b⟩ := p; rw [List.cons_append, laid_cons, laid_cons, ih]
theorem mget_append (w1 w2 : List (Nat × Blk)) : mget (w1 ++ w2) = laid w1 (mget w2) := by
  induction w1 with
  | nil => rw [List.nil_append, laid_nil]
  | cons p l ih =>
    obtain ⟨i, b⟩ := p
    rw [List.cons_append, laid_cons, ← ih]
    funext j
    simp only [mget, upd]
    by_cases h : i = j
    · subst h; simp
    · have : Nat.beq i j = false := nbeq_false h
      simp only [this]; rw [if_neg (fun e => h e.symm)]
theorem tget_cons (i : Nat) (s : SV) (l : List (Nat × SV)) : tget ((i, s) :: l) = upd (tget l) i s := by
  funext j
  simp only [tget, upd]
  by_cases h : i = j
  · subst h; simp
  · have : Nat.beq i j = false := nbeq_false h
    simp only [this]; rw [if_neg (fun e => h e.symm)]

section
variable {C : Ctx} {tm : Nat → SV} {me : Nat → Option Blk} {pl : Nat → Plc} {S : Nat → Prop} {a : Act} {w : World}

/-- A block is shut: from now on what reads in it may be handed on. -/
theorem Inv.shutVar (h : Inv C tm me pl S a w) {i : Nat} {k : Kd} {x : k.T} {sh : Bool} (hi : me i = some (.var k x sh)) (hnp : C.pp.length ≤ i) :
    ∃ S', Inv C tm (upd me i (some (.var k x true))) pl S' a w ∧ Keeps S w me pl S' w (upd me i (some (.var k x true))) pl ∧ (∀ g, (pl i).g = some g → S' g) := by
  have hb := h.mem i _ hi
  obtain ⟨g, c, t, hg, hc, hsz, hr, hsh⟩ := hb
  have hS : ∀ b, S b → S b ∨ b = g := fun b hb => .inl hb
  have hK : Keeps S w me pl (fun b => S b ∨ b = g) w (upd me i (some (.var k x true))) pl := by
    refine ⟨fun b hb => ⟨.inl hb, rfl⟩, fun j bj hj => ?_⟩
    by_cases e : j = i
    · subst e; rw [hi] at hj; cases hj; exact ⟨.var k x true, by simp, ⟨rfl, rfl⟩⟩
    · exact ⟨bj, by rw [upd_other _ _ e]; exact hj, Compat.refl _ _⟩
  refine ⟨fun b => S b ∨ b = g, ⟨h.nt, h.df, fun t' => (h.tms t').keeps hK, fun j bj hj => ?_, fun j bj hj => ?_, fun j1 j2 b1 b2 g' hne hj1 hj2 hg' => ?_, fun b hb => .inl (h.s0 b hb), fun b hb => ?_, h.fr, h.pd⟩, hK, fun g' hg' => by rw [hg] at hg'; cases hg'; exact .inr rfl⟩
  · by_cases e : j = i
    · subst e; simp only [upd_same, Option.some.injEq] at hj; subst hj
      exact ⟨g, c, t, hg, hc, hsz, Rd.mono hK.s k x _ hr, by simp⟩
    · rw [upd_other _ _ e] at hj
      have hne : ∀ gj, (pl j).g = some gj → gj ≠ g := fun gj hgj e' => by subst e'; exact h.dis j i bj _ gj e hj hi hgj hg
      have := h.mem j bj hj
      cases bj with
      | var k' x' sh' =>
        obtain ⟨gj, cj, tj, h1, h2, h3, h4, h5⟩ := this
        exact ⟨gj, cj, tj, h1, h2, h3, Rd.mono hK.s k' x' _ h4, by rw [h5]; simp [hne gj h1]⟩
      | row e' l v sh' =>
        rcases this with h1 | ⟨gj, cj, tj, h1, h1', h2, h3, h3', h4, h5, h6⟩
        · exact .inl h1
        · exact .inr ⟨gj, cj, tj, h1, h1', h2, h3, h3', h4, RdL.imp (fun x cs hx => Rd.mono hK.s e' x cs hx) h5, by rw [h6]; simp [hne gj h1]⟩
  · by_cases e : j = i
    · subst e; simp only [upd_same, Option.some.injEq] at hj; subst hj
      intro g' hg'
      rcases h.plcs j _ hi g' hg' with h1 | ⟨_, h1⟩
      · exact .inl h1
      · exact .inr ⟨⟨k, x, true, rfl⟩, h1⟩
    · rw [upd_other _ _ e] at hj; exact h.plcs j bj hj
  · have q1 : ∃ b, me j1 = some b := by
      by_cases e1 : j1 = i
      · exact ⟨_, e1 ▸ hi⟩
      · rw [upd_other _ _ e1] at hj1; exact ⟨_, hj1⟩
    have q2 : ∃ b, me j2 = some b := by
      by_cases e1 : j2 = i
      · exact ⟨_, e1 ▸ hi⟩
      · rw [upd_other _ _ e1] at hj2; exact ⟨_, hj2⟩
    obtain ⟨b1', q1⟩ := q1
    obtain ⟨b2', q2⟩ := q2
    exact h.dis j1 j2 b1' b2' g' hne q1 q2 hg'
  · rcases hb with hb | rfl
    · exact h.sfr b hb
    · refine ⟨(Array.getElem?_eq_some_iff.1 hc).1, .inr ?_⟩
      rcases h.plcs i _ hi b hg with ⟨_, h1, _⟩ | ⟨_, h1⟩
      · exact h1
      · have := (List.getElem?_eq_some_iff.1 h1).1; omega

theorem Inv.shutRow (h : Inv C tm me pl S a w) {i : Nat} {e : Kd} {l : List e.T} {v : Nat} {sh : Bool} (hi : me i = some (.row e l v sh)) (hnp : C.pp.length ≤ i) :
    ∃ S', Inv C tm (upd me i (some (.row e l v true))) pl S' a w ∧ Keeps S w me pl S' w (upd me i (some (.row e l v true))) pl ∧ (∀ g, (pl i).g = some g → S' g) := by
  have hb := h.mem i _ hi
  have hK : Keeps S w me pl (fun b => S b ∨ (pl i).g = some b) w (upd me i (some (.row e l v true))) pl := by
    refine ⟨fun b hb => ⟨.inl hb, rfl⟩, fun j bj hj => ?_⟩
    by_cases ee : j = i
    · subst ee; rw [hi] at hj; cases hj; exact ⟨.row e l v true, by simp, ⟨rfl, Nat.le_refl _, fun _ => ⟨rfl, rfl⟩⟩⟩
    · exact ⟨bj, by rw [upd_other _ _ ee]; exact hj, Compat.refl _ _⟩
  refine ⟨fun b => S b ∨ (pl i).g = some b, ⟨h.nt, h.df, fun t' => (h.tms t').keeps hK, fun j bj hj => ?_, fun j bj hj => ?_, fun j1 j2 b1 b2 g' hne hj1 hj2 hg' => ?_, fun b hb => .inl (h.s0 b hb), fun b hb => ?_, h.fr, h.pd⟩, hK, fun g' hg' => .inr hg'⟩
  · by_cases ee : j = i
    · subst ee; simp only [upd_same, Option.some.injEq] at hj; subst hj
      rcases hb with h1 | ⟨gj, cj, tj, h1, h1', h2, h3, h3', h4, h5, h6⟩
      · exact .inl h1
      · exact .inr ⟨gj, cj, tj, h1, h1', h2, h3, h3', h4, RdL.imp (fun x cs hx => Rd.mono hK.s e x cs hx) h5, by simp [h1]⟩
    · rw [upd_other _ _ ee] at hj
      have hne : ∀ gj, (pl j).g = some gj → ¬ (pl i).g = some gj := fun gj hgj e' => h.dis j i bj _ gj ee hj hi hgj e'
      have := h.mem j bj hj
      cases bj with
      | var k' x' sh' =>
        obtain ⟨gj, cj, tj, h1, h2, h3, h4, h5⟩ := this
        exact ⟨gj, cj, tj, h1, h2, h3, Rd.mono hK.s k' x' _ h4, by rw [h5]; simp [hne gj h1]⟩
      | row e' l v sh' =>
        rcases this with h1 | ⟨gj, cj, tj, h1, h1', h2, h3, h3', h4, h5, h6⟩
        · exact .inl h1
        · exact .inr ⟨gj, cj, tj, h1, h1', h2, h3, h3', h4, RdL.imp (fun x cs hx => Rd.mono hK.s e' x cs hx) h5, by rw [h6]; simp [hne gj h1]⟩
  · by_cases ee : j = i
    · subst ee; simp only [upd_same, Option.some.injEq] at hj; subst hj
      intro g' hg'
      rcases h.plcs j _ hi g' hg' with h1 | ⟨⟨k, x, s, h0⟩, _⟩
      · exact .inl h1
      · cases h0
    · rw [upd_other _ _ ee] at hj; exact h.plcs j bj hj
  · have q1 : ∃ b, me j1 = some b := by
      by_cases e1 : j1 = i
      · exact ⟨_, e1 ▸ hi⟩
      · rw [upd_other _ _ e1] at hj1; exact ⟨_, hj1⟩
    have q2 : ∃ b, me j2 = some b := by
      by_cases e1 : j2 = i
      · exact ⟨_, e1 ▸ hi⟩
      · rw [upd_other _ _ e1] at hj2; exact ⟨_, hj2⟩
    obtain ⟨b1', q1⟩ := q1
    obtain ⟨b2', q2⟩ := q2
    exact h.dis j1 j2 b1' b2' g' hne q1 q2 hg'
  · rcases hb with hb | hb
    · exact h.sfr b hb
    · refine ⟨?_, .inr ?_⟩
      · rcases h.mem i _ hi with h1 | ⟨gj, cj, tj, h1, h1', h2, _⟩
        · rw [hb] at h1; cases h1.1
        · rw [hb] at h1; cases h1; exact (Array.getElem?_eq_some_iff.1 h2).1
      · rcases h.plcs i _ hi b hb with ⟨_, h1, _⟩ | ⟨⟨k, x, s, h0⟩, _⟩
        · exact h1
        · cases h0
end
end Go.PG
