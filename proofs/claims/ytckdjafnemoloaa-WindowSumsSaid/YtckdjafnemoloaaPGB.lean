/- A part of the proofs over this seat (own work; the framework that reads a Go function as a pure one, or a use of it). No condition of its own. -/
import Derived.Test.YtckdjafnemoloaaPGA
set_option linter.unusedVariables false
set_option linter.unusedSimpArgs false
namespace Go.PG
/-! Abstract values of temporaries, abstract memory, and what they say of a frame and a world. -/

/-- A component of a tuple. -/
inductive Cmp where
  | val (k : Kd) (x : k.T)
  | own (j ver : Nat)
  | junk

inductive SV where
  | dead
  | nil
  | val (k : Kd) (x : k.T)
  | ptr (b : Nat) (p : List Step) (k : Kd)
  | pval (k : Kd) (x : k.T)
  | own (j ver : Nat)
  | win (j ver lo len : Nat)
  | rptr (j ver i : Nat) (p : List Step) (k : Kd)
  | asl (b : Nat) (p : List Step) (lo len : Nat)
  | pwin (b : Nat) (p : List Step) (lo n : Nat)
  | tup (l : List Cmp)
  | fn (f : FuncId)

inductive Blk where
  | var (k : Kd) (x : k.T) (shut : Bool)
  | row (e : Kd) (l : List e.T) (ver : Nat) (shut : Bool)

/-- Where a block of the abstract memory lies. -/
structure Plc where
  g : Option Nat
  off : Nat
  cap : Nat

def upd {α : Type} (f : Nat → α) (i : Nat) (v : α) : Nat → α := fun j => if j = i then v else f j
@[simp] theorem upd_same {α : Type} (f : Nat → α) (i : Nat) (v : α) : upd f i v i = v := if_pos rfl
theorem upd_other {α : Type} (f : Nat → α) {i j : Nat} (v : α) (h : j ≠ i) : upd f i v j = f j := if_neg h

def BlkAt (S : Nat → Prop) (w : World) : Blk → Plc → Prop
  | .var k x sh, pl => ∃ g c t, pl.g = some g ∧ w.heap[g]? = some (.cells c t (0, 0)) ∧ pl.off + k.size ≤ c.size ∧
      Rd S w k x ((c.toList.drop pl.off).take k.size) ∧ (sh = true ↔ S g)
  | .row e l _ sh, pl => (pl.g = none ∧ l = [] ∧ pl.cap = 0) ∨
      ∃ g c t, pl.g = some g ∧ pl.off = 0 ∧ w.heap[g]? = some (.cells c t (0, 0)) ∧ l.length ≤ pl.cap ∧ pl.cap ≤ maxLen ∧ c.size = pl.cap * e.size ∧
        RdL (Rd S w e) l (c.toList.take (l.length * e.size)) ∧ (sh = true ↔ S g)

/-- A full own row's value. -/
def RowV (pl : Plc) (n : Nat) (v : Value) : Prop :=
  (pl.g = none ∧ v = .slice none 0 0) ∨ ∃ g, pl.g = some g ∧ v = .slice (some ⟨g, 0, none⟩) n pl.cap
/-- A window of n elements from lo on, of elements of sz cells, that lie from cell off on. -/
def WinV (g : Option Nat) (off sz lo n : Nat) (v : Value) : Prop :=
  (g = none ∧ v = .slice none 0 0 ∧ n = 0) ∨ ∃ b o cap, g = some b ∧ v = .slice (some ⟨b, o, none⟩) n cap ∧ n ≤ cap ∧ (n = 0 ∨ o = off + lo * sz)

def CmpG (S : Nat → Prop) (w : World) (me : Nat → Option Blk) (pl : Nat → Plc) : Cmp → Value → Prop
  | .val k x, v => VRd S w k x v
  | .own j ver, v => ∃ e l ver' sh, me j = some (.row e l ver' sh) ∧ ver ≤ ver' ∧ (ver' = ver → RowV (pl j) l.length v)
  | .junk, _ => True

def CmpsG (S : Nat → Prop) (w : World) (me : Nat → Option Blk) (pl : Nat → Plc) : List Cmp → List Value → Prop
  | [], vs => vs = []
  | c :: cs, vs => ∃ v vs', vs = v :: vs' ∧ CmpG S w me pl c v ∧ CmpsG S w me pl cs vs'

def G (S : Nat → Prop) (w : World) (me : Nat → Option Blk) (pl : Nat → Plc) : SV → Value → Prop
  | .dead, _ => True
  | .nil, v => v = .slice none 0 0
  | .val k x, v => VRd S w k x v
  | .ptr b p k, v => ∃ kb x sh o g, me b = some (.var kb x sh) ∧ kb.okP p ∧ kb.offP p = some (o, k) ∧ (pl b).g = some g ∧ v = .pointer (some ⟨g, (pl b).off + o, none⟩)
  | .pval k x, v => ∃ g off c t fr, v = .pointer (some ⟨g, off, none⟩) ∧ S g ∧ w.heap[g]? = some (.cells c t fr) ∧ Rd S w k x ((c.toList.drop off).take k.size)
  | .own j ver, v => ∃ e l ver' sh, me j = some (.row e l ver' sh) ∧ ver ≤ ver' ∧ (ver' = ver → RowV (pl j) l.length v)
  | .win j ver lo n, v => ∃ e l ver' sh, me j = some (.row e l ver' sh) ∧ ver ≤ ver' ∧ (ver' = ver → lo + n ≤ l.length ∧ WinV (pl j).g 0 e.size lo n v)
  | .rptr j ver i p k, v => ∃ e l ver' sh, me j = some (.row e l ver' sh) ∧ ver ≤ ver' ∧
      (ver' = ver → i < l.length ∧ e.okP p ∧ ∃ o g, e.offP p = some (o, k) ∧ (pl j).g = some g ∧ v = .pointer (some ⟨g, i * e.size + o, none⟩))
  | .asl b p lo n, v => ∃ kb x sh o m e, me b = some (.var kb x sh) ∧ kb.okP p ∧ kb.offP p = some (o, .arr m e) ∧ lo + n ≤ m ∧ (pl b).g.isSome = true ∧ WinV (pl b).g ((pl b).off + o) e.size lo n v
  | .pwin b p lo n, v => ∃ kb x sh o m e g, me b = some (.var kb x sh) ∧ kb.okP p ∧ kb.offP p = some (o, .arr m e) ∧ lo + n ≤ m ∧ (pl b).g = some g ∧ v = .pointer (some ⟨g, (pl b).off + o + lo * e.size, none⟩)
  | .tup l, v => ∃ vs : List Value, v = .tuple vs.toArray ∧ CmpsG S w me pl l vs
  | .fn f, v => v = .func (.func f) #[] #[]

/-- What stays of a block. -/
def Compat (pl pl' : Plc) : Blk → Blk → Prop
  | .var k _ _, .var k' _ _ => k = k' ∧ pl' = pl
  | .row e l v _, .row e' l' v' _ => e = e' ∧ v ≤ v' ∧ (v' = v → l'.length = l.length ∧ pl' = pl)
  | _, _ => False

theorem Compat.refl (pl : Plc) (b : Blk) : Compat pl pl b b := by
  cases b
  · exact ⟨rfl, rfl⟩
  · exact ⟨rfl, Nat.le_refl _, fun _ => ⟨rfl, rfl⟩⟩

structure Keeps (S : Nat → Prop) (w : World) (me : Nat → Option Blk) (pl : Nat → Plc) (S' : Nat → Prop) (w' : World) (me' : Nat → Option Blk) (pl' : Nat → Plc) : Prop where
  s : ∀ b, S b → S' b ∧ w'.heap[b]? = w.heap[b]?
  m : ∀ i b, me i = some b → ∃ b', me' i = some b' ∧ Compat (pl i) (pl' i) b b'

section
variable {S S' : Nat → Prop} {w w' : World} {me me' : Nat → Option Blk} {pl pl' : Nat → Plc}

theorem Keeps.var (h : Keeps S w me pl S' w' me' pl') {b : Nat} {k : Kd} {x : k.T} {sh : Bool} (hb : me b = some (.var k x sh)) :
    ∃ (x' : k.T) (sh' : Bool), me' b = some (.var k x' sh') ∧ pl' b = pl b := by
  obtain ⟨b', h1, h2⟩ := h.m _ _ hb
  cases b' with
  | var k' x' sh' => obtain ⟨e, hp⟩ := h2; subst e; exact ⟨x', sh', h1, hp⟩
  | row => exact h2.elim
theorem Keeps.row (h : Keeps S w me pl S' w' me' pl') {j : Nat} {e : Kd} {l : List e.T} {v : Nat} {sh : Bool} (hb : me j = some (.row e l v sh)) :
    ∃ (l' : List e.T) (v' : Nat) (sh' : Bool), me' j = some (.row e l' v' sh') ∧ v ≤ v' ∧ (v' = v → l'.length = l.length ∧ pl' j = pl j) := by
  obtain ⟨b', h1, h2⟩ := h.m _ _ hb
  cases b' with
  | var => exact h2.elim
  | row e' l' v' sh' => obtain ⟨e, hv, hp⟩ := h2; subst e; exact ⟨l', v', sh', h1, hv, hp⟩

theorem CmpG.keeps (h : Keeps S w me pl S' w' me' pl') {c : Cmp} {v : Value} (hg : CmpG S w me pl c v) : CmpG S' w' me' pl' c v := by
  cases c with
  | val k x => exact VRd.mono h.s hg
  | own j ver =>
    obtain ⟨e, l, ver', sh, hm, hv, hr⟩ := hg
    obtain ⟨l', v', sh', hm', hv', hp⟩ := h.row hm
    refine ⟨e, l', v', sh', hm', Nat.le_trans hv hv', fun heq => ?_⟩
    have h1 : ver' = ver := by omega
    obtain ⟨h2, h3⟩ := hp (by omega)
    rw [h2, h3]; exact hr h1
  | junk => trivial
theorem CmpsG.keeps (h : Keeps S w me pl S' w' me' pl') : ∀ {l : List Cmp} {vs : List Value}, CmpsG S w me pl l vs → CmpsG S' w' me' pl' l vs
  | [], _, hh => hh
  | _ :: _, _, ⟨v, vs', e, h1, h2⟩ => ⟨v, vs', e, h1.keeps h, CmpsG.keeps h h2⟩

theorem G.keeps (h : Keeps S w me pl S' w' me' pl') {sv : SV} {v : Value} (hg : G S w me pl sv v) : G S' w' me' pl' sv v := by
  cases sv with
  | dead => trivial
  | nil => exact hg
  | val k x => exact VRd.mono h.s hg
  | ptr b p k =>
    obtain ⟨kb, x, sh, o, g, hm, h1, h2, h3, h4⟩ := hg
    obtain ⟨x', sh', hm', hp⟩ := h.var hm
    exact ⟨kb, x', sh', o, g, hm', h1, h2, by rw [hp]; exact h3, by rw [hp]; exact h4⟩
  | pval k x =>
    obtain ⟨g, off, c, t, fr, h1, h2, h3, h5⟩ := hg
    exact ⟨g, off, c, t, fr, h1, (h.s _ h2).1, by rw [(h.s _ h2).2]; exact h3, Rd.mono h.s k x _ h5⟩
  | own j ver => exact CmpG.keeps (c := .own j ver) h hg
  | win j ver lo n =>
    obtain ⟨e, l, ver', sh, hm, hv, hr⟩ := hg
    obtain ⟨l', v', sh', hm', hv', hp⟩ := h.row hm
    refine ⟨e, l', v', sh', hm', Nat.le_trans hv hv', fun heq => ?_⟩
    have h1 : ver' = ver := by omega
    obtain ⟨h2, h3⟩ := hp (by omega)
    rw [h2, h3]; exact hr h1
  | rptr j ver i p k =>
    obtain ⟨e, l, ver', sh, hm, hv, hr⟩ := hg
    obtain ⟨l', v', sh', hm', hv', hp⟩ := h.row hm
    refine ⟨e, l', v', sh', hm', Nat.le_trans hv hv', fun heq => ?_⟩
    have h1 : ver' = ver := by omega
    obtain ⟨h2, h3⟩ := hp (by omega)
    rw [h2, h3]; exact hr h1
  | asl b p lo n =>
    obtain ⟨kb, x, sh, o, m, e, hm, h1, h2, h3, h4, h5⟩ := hg
    obtain ⟨x', sh', hm', hp⟩ := h.var hm
    exact ⟨kb, x', sh', o, m, e, hm', h1, h2, h3, by rw [hp]; exact h4, by rw [hp]; exact h5⟩
  | pwin b p lo n =>
    obtain ⟨kb, x, sh, o, m, e, g, hm, h1, h2, h3, h4, h5⟩ := hg
    obtain ⟨x', sh', hm', hp⟩ := h.var hm
    exact ⟨kb, x', sh', o, m, e, g, hm', h1, h2, h3, by rw [hp]; exact h4, by rw [hp]; exact h5⟩
  | tup l =>
    obtain ⟨vs, h1, h2⟩ := hg
    exact ⟨vs, h1, CmpsG.keeps h h2⟩
  | fn f => exact hg
end

/-- What a call begins with: the world, what is shut, how many temporaries, the places of what came in by pointer (block, first cell, cells). -/
structure Ctx where
  w0 : World
  S0 : Nat → Prop
  nt : Nat
  pp : List (Nat × Nat × Nat)

/-- Outside of the places of pp (and of new blocks) nothing has turned. -/
structure FrameOK (w0 : World) (pp : List (Nat × Nat × Nat)) (w : World) : Prop where
  os : w.os = w0.os
  tape : w.tape = w0.tape
  output : w.output = w0.output
  size : w0.heap.size ≤ w.heap.size
  block : ∀ b, b < w0.heap.size → (∀ e ∈ pp, e.1 ≠ b) → w.heap[b]? = w0.heap[b]?
  part : ∀ e ∈ pp, ∃ c0 c t, w0.heap[e.1]? = some (.cells c0 t (0, 0)) ∧ w.heap[e.1]? = some (.cells c t (0, 0)) ∧ c.size = c0.size ∧
    c.toList.take e.2.1 = c0.toList.take e.2.1 ∧ c.toList.drop (e.2.1 + e.2.2) = c0.toList.drop (e.2.1 + e.2.2)

def Blk.csize : Blk → Nat
  | .var k _ _ => k.size
  | .row _ _ _ _ => 0

/-- An index's place: what came in by pointer has the first indexes; the others are new blocks. -/
def Placed (C : Ctx) (i : Nat) (b : Blk) (pl : Plc) : Prop :=
  ∀ g, pl.g = some g → (C.pp.length ≤ i ∧ C.w0.heap.size ≤ g ∧ pl.off = 0) ∨ ((∃ k x sh, b = .var k x sh) ∧ C.pp[i]? = some (g, pl.off, b.csize))

structure Inv (C : Ctx) (tm : Nat → SV) (me : Nat → Option Blk) (pl : Nat → Plc) (S : Nat → Prop) (a : Act) (w : World) : Prop where
  nt : a.tmps.size = C.nt
  df : a.defers = []
  tms : ∀ t, G S w me pl (tm t) (a.tmps.getD t undef)
  mem : ∀ i b, me i = some b → BlkAt S w b (pl i)
  plcs : ∀ i b, me i = some b → Placed C i b (pl i)
  dis : ∀ i j bi bj g, i ≠ j → me i = some bi → me j = some bj → (pl i).g = some g → (pl j).g ≠ some g
  s0 : ∀ b, C.S0 b → S b
  sfr : ∀ b, S b → b < w.heap.size ∧ (C.S0 b ∨ C.w0.heap.size ≤ b)
  fr : FrameOK C.w0 C.pp w
  pd : ∀ e ∈ C.pp, ∀ e' ∈ C.pp, e.1 = e'.1 → e = e'

section
variable {C : Ctx} {tm : Nat → SV} {me : Nat → Option Blk} {pl : Nat → Plc} {S : Nat → Prop} {a : Act} {w : World}

theorem getD_put (a : Act) (d : Nat) (v : Value) (t : Nat) (hd : d < a.tmps.size) : (a.put (some d) v).tmps.getD t undef = if t = d then v else a.tmps.getD t undef := by
  simp only [Act.put, Array.getD_eq_getD_getElem?, Array.getElem?_setIfInBounds]
  by_cases h : d = t
  · subst h; simp [hd]
  · rw [if_neg h, if_neg (fun e => h e.symm)]

theorem Inv.put (h : Inv C tm me pl S a w) {d : Nat} {sv : SV} {v : Value} (hd : d < C.nt) (hg : G S w me pl sv v) : Inv C (upd tm d sv) me pl S (a.put (some d) v) w := by
  have hd' : d < a.tmps.size := by rw [h.nt]; exact hd
  refine ⟨by simp [Act.put, h.nt], by simp [Act.put, h.df], fun t => ?_, h.mem, h.plcs, h.dis, h.s0, h.sfr, h.fr, h.pd⟩
  rw [getD_put a d v t hd']
  by_cases e : t = d
  · subst e; simpa using hg
  · rw [if_neg e, upd_other _ _ e]; exact h.tms t

/-- The world goes on (a callee's own blocks, a draw): nothing of ours has turned. -/
theorem Inv.world (h : Inv C tm me pl S a w) {S' : Nat → Prop} {w' : World} (hS : ∀ b, S b → S' b) (hSn : ∀ b, S' b → b < w'.heap.size ∧ (S b ∨ w.heap.size ≤ b))
    (hos : w'.os = w.os) (htp : w'.tape = w.tape) (hout : w'.output = w.output) (hsz : w.heap.size ≤ w'.heap.size) (hb : ∀ b, b < w.heap.size → w'.heap[b]? = w.heap[b]?) :
    Inv C tm me pl S' a w' := by
  have hs : ∀ b, S b → S' b ∧ w'.heap[b]? = w.heap[b]? := fun b hb' => ⟨hS b hb', hb b (h.sfr b hb').1⟩
  have hK : Keeps S w me pl S' w' me pl := ⟨hs, fun i b hi => ⟨b, hi, Compat.refl _ _⟩⟩
  have lt : ∀ {g : Nat} {o : Obj}, w.heap[g]? = some o → g < w.heap.size := fun hh => (Array.getElem?_eq_some_iff.1 hh).1
  have hiff : ∀ g, g < w.heap.size → (S' g ↔ S g) := fun g hg => ⟨fun hh => by rcases (hSn g hh).2 with h1 | h1; exact h1; omega, hS g⟩
  refine ⟨h.nt, h.df, fun t => (h.tms t).keeps hK, fun i b hi => ?_, h.plcs, h.dis, fun b hb' => hS b (h.s0 b hb'), fun b hb' => ?_, ?_, h.pd⟩
  · have := h.mem i b hi
    cases b with
    | var k x sh =>
      obtain ⟨g, c, t, h1, h2, h3, h4, h5⟩ := this
      exact ⟨g, c, t, h1, by rw [hb g (lt h2)]; exact h2, h3, Rd.mono hs k x _ h4, by rw [hiff g (lt h2)]; exact h5⟩
    | row e l v sh =>
      rcases this with h1 | ⟨g, c, t, h1, h1', h2, h3, h3', h4, h5, h6⟩
      · exact .inl h1
      · exact .inr ⟨g, c, t, h1, h1', by rw [hb g (lt h2)]; exact h2, h3, h3', h4, RdL.imp (fun x cs hx => Rd.mono hs e x cs hx) h5, by rw [hiff g (lt h2)]; exact h6⟩
  · obtain ⟨h1, h2⟩ := hSn b hb'
    refine ⟨h1, ?_⟩
    rcases h2 with h2 | h2
    · exact (h.sfr b h2).2
    · exact .inr (Nat.le_trans h.fr.size h2)
  · refine ⟨hos.trans h.fr.os, htp.trans h.fr.tape, hout.trans h.fr.output, Nat.le_trans h.fr.size hsz, fun b hb' hn => ?_, fun e he => ?_⟩
    · rw [hb b (Nat.lt_of_lt_of_le hb' h.fr.size)]; exact h.fr.block b hb' hn
    · obtain ⟨c0, c, t, h1, h2, h3⟩ := h.fr.part e he
      exact ⟨c0, c, t, h1, by rw [hb _ (lt h2)]; exact h2, h3⟩

theorem alloc_get_old (w : World) (o : Obj) (b : Nat) (h : b < w.heap.size) : (w.alloc o).heap[b]? = w.heap[b]? := heap_alloc_old w o b h

/-- A new block of the call's own, at a new index, or in the place of a row that has gone on. -/
theorem Inv.allocAt (h : Inv C tm me pl S a w) {i : Nat} {b : Blk} {c : Array Value} {t : TypeId} {cap : Nat} (hi : ∀ b0, me i = some b0 → Compat (pl i) ⟨some w.heap.size, 0, cap⟩ b0 b) (hnp : C.pp.length ≤ i)
    (hb : BlkAt S (w.alloc (.cells c t)) b ⟨some w.heap.size, 0, cap⟩) :
    Inv C tm (upd me i (some b)) (upd pl i ⟨some w.heap.size, 0, cap⟩) S a (w.alloc (.cells c t)) := by
  have h1 := h.world (S' := S) (w' := w.alloc (.cells c t)) (fun _ h => h) (fun b hb => ⟨by have := (h.sfr b hb).1; simp; omega, .inl hb⟩) rfl rfl rfl (by simp) (fun b hb => alloc_get_old w _ b hb)
  have hK : Keeps S (w.alloc (.cells c t)) me pl S (w.alloc (.cells c t)) (upd me i (some b)) (upd pl i ⟨some w.heap.size, 0, cap⟩) :=
    ⟨fun _ hb => ⟨hb, rfl⟩, fun j b' hj => by
      by_cases e : j = i
      · subst e; exact ⟨b, by simp, by simpa using hi b' hj⟩
      · exact ⟨b', by rw [upd_other _ _ e]; exact hj, by rw [upd_other _ _ e]; exact Compat.refl _ _⟩⟩
  have old : ∀ j b' g, me j = some b' → (pl j).g = some g → g < w.heap.size := fun j b' g hj hg => by
    have := h.mem j b' hj
    cases b' with
    | var k x sh => obtain ⟨g', c', t', e1, e2, _⟩ := this; rw [hg] at e1; cases e1; exact (Array.getElem?_eq_some_iff.1 e2).1
    | row e l v sh =>
      rcases this with e1 | ⟨g', c', t', e1, _, e2, _⟩
      · rw [hg] at e1; cases e1.1
      · rw [hg] at e1; cases e1; exact (Array.getElem?_eq_some_iff.1 e2).1
  refine ⟨h1.nt, h1.df, fun t' => (h1.tms t').keeps hK, fun j b' hj => ?_, fun j b' hj => ?_, fun j1 j2 b1 b2 g hne' hj1 hj2 hg => ?_, h1.s0, h1.sfr, h1.fr, h1.pd⟩
  · by_cases e : j = i
    · subst e; simp only [upd_same, Option.some.injEq] at hj; subst hj; simpa using hb
    · rw [upd_other _ _ e] at hj; rw [upd_other _ _ e]; exact h1.mem j b' hj
  · by_cases e : j = i
    · subst e
      simp only [upd_same, Option.some.injEq] at hj; subst hj
      intro g hg
      simp at hg
      exact .inl ⟨hnp, by rw [← hg]; exact h.fr.size, by simp⟩
    · rw [upd_other _ _ e] at hj; rw [upd_other _ _ e]; exact h1.plcs j b' hj
  · by_cases e1 : j1 = i
    · subst e1
      have e2 : j2 ≠ j1 := fun e => hne' e.symm
      rw [upd_other _ _ e2] at hj2
      rw [upd_other _ _ e2]
      simp at hg
      intro hh
      have := old j2 b2 g hj2 hh
      omega
    · rw [upd_other _ _ e1] at hj1 hg
      by_cases e2 : j2 = i
      · subst e2
        have := old j1 b1 g hj1 hg
        simp; omega
      · rw [upd_other _ _ e2] at hj2; rw [upd_other _ _ e2]
        exact h1.dis j1 j2 b1 b2 g hne' hj1 hj2 hg

/-- A new block of the call's own. -/
theorem Inv.alloc (h : Inv C tm me pl S a w) {i : Nat} {b : Blk} {c : Array Value} {t : TypeId} {cap : Nat} (hi : me i = none) (hnp : C.pp.length ≤ i)
    (hb : BlkAt S (w.alloc (.cells c t)) b ⟨some w.heap.size, 0, cap⟩) :
    Inv C tm (upd me i (some b)) (upd pl i ⟨some w.heap.size, 0, cap⟩) S a (w.alloc (.cells c t)) :=
  h.allocAt (fun b0 hb0 => by rw [hi] at hb0; cases hb0) hnp hb

/-- A nil row of the call's own. -/
theorem Inv.nilrow (h : Inv C tm me pl S a w) {i : Nat} (e : Kd) (hi : me i = none) :
    Inv C tm (upd me i (some (.row e [] 0 false))) (upd pl i ⟨none, 0, 0⟩) S a w := by
  have hne : ∀ j b', me j = some b' → j ≠ i := fun j b' hj e => by subst e; rw [hi] at hj; cases hj
  have hK : Keeps S w me pl S w (upd me i (some (.row e [] 0 false))) (upd pl i ⟨none, 0, 0⟩) :=
    ⟨fun _ hb => ⟨hb, rfl⟩, fun j b' hj => ⟨b', by rw [upd_other _ _ (hne j b' hj)]; exact hj, by rw [upd_other _ _ (hne j b' hj)]; exact Compat.refl _ _⟩⟩
  refine ⟨h.nt, h.df, fun t' => (h.tms t').keeps hK, fun j b' hj => ?_, fun j b' hj => ?_, fun j1 j2 b1 b2 g hne' hj1 hj2 hg => ?_, h.s0, h.sfr, h.fr, h.pd⟩
  · by_cases e : j = i
    · subst e; simp only [upd_same, Option.some.injEq] at hj; subst hj; exact .inl (by simp)
    · rw [upd_other _ _ e] at hj; rw [upd_other _ _ e]; exact h.mem j b' hj
  · by_cases e : j = i
    · subst e; intro g hg; simp at hg
    · rw [upd_other _ _ e] at hj; rw [upd_other _ _ e]; exact h.plcs j b' hj
  · by_cases e1 : j1 = i
    · subst e1; simp at hg
    · rw [upd_other _ _ e1] at hj1 hg
      by_cases e2 : j2 = i
      · subst e2; simp
      · rw [upd_other _ _ e2] at hj2; rw [upd_other _ _ e2]
        exact h.dis j1 j2 b1 b2 g hne' hj1 hj2 hg

/-- One index's block is rewritten in place (its cells alone). -/
theorem Inv.write (h : Inv C tm me pl S a w) {i : Nat} {b b' : Blk} {g : Nat} {c c' : Array Value} {t : TypeId} (hi : me i = some b) (hg : (pl i).g = some g) (hnS : ¬ S g)
    (hc : w.heap[g]? = some (.cells c t (0, 0))) (hsz : c'.size = c.size) (hlo : c'.toList.take (pl i).off = c.toList.take (pl i).off)
    (hhi : (∃ k x sh, b = .var k x sh) → c'.toList.drop ((pl i).off + b.csize) = c.toList.drop ((pl i).off + b.csize)) (hcs : b'.csize = b.csize)
    (hvar : (∃ k x sh, b = .var k x sh) ↔ (∃ k x sh, b' = .var k x sh))
    (hcomp : Compat (pl i) (pl i) b b') (hb : BlkAt S (w.setRow g c') b' (pl i)) :
    Inv C tm (upd me i (some b')) pl S a (w.setRow g c') := by
  have hs : ∀ b, S b → S b ∧ (w.setRow g c').heap[b]? = w.heap[b]? := fun b hb => ⟨hb, setRow_other w g b c' (fun e => hnS (e ▸ hb))⟩
  have hK : Keeps S w me pl S (w.setRow g c') (upd me i (some b')) pl := by
    refine ⟨hs, fun j bj hj => ?_⟩
    by_cases e : j = i
    · subst e; rw [hi] at hj; cases hj; exact ⟨b', by simp, hcomp⟩
    · exact ⟨bj, by rw [upd_other _ _ e]; exact hj, Compat.refl _ _⟩
  have oth : ∀ j bj gj, j ≠ i → me j = some bj → (pl j).g = some gj → gj ≠ g := fun j bj gj hne hj hgj e => by
    subst e; exact h.dis i j b bj gj (fun e => hne e.symm) hi hj hg hgj
  refine ⟨h.nt, h.df, fun t' => (h.tms t').keeps hK, fun j bj hj => ?_, fun j bj hj => ?_, fun j1 j2 b1 b2 g' hne' hj1 hj2 hg' => ?_, h.s0, fun b hb => ?_, ?_, h.pd⟩
  · by_cases e : j = i
    · subst e; simp only [upd_same, Option.some.injEq] at hj; subst hj; exact hb
    · rw [upd_other _ _ e] at hj
      have := h.mem j bj hj
      cases bj with
      | var k x sh =>
        obtain ⟨gj, cj, tj, h1, h2, h3, h4, h5⟩ := this
        exact ⟨gj, cj, tj, h1, by rw [setRow_other w g gj c' (oth j _ gj e hj h1)]; exact h2, h3, Rd.mono hs k x _ h4, h5⟩
      | row e' l v sh =>
        rcases this with h1 | ⟨gj, cj, tj, h1, h1', h2, h3, h3', h4, h5, h6⟩
        · exact .inl h1
        · exact .inr ⟨gj, cj, tj, h1, h1', by rw [setRow_other w g gj c' (oth j _ gj e hj h1)]; exact h2, h3, h3', h4, RdL.imp (fun x cs hx => Rd.mono hs e' x cs hx) h5, h6⟩
  · by_cases e : j = i
    · subst e
      simp only [upd_same, Option.some.injEq] at hj; subst hj
      intro g' hg'
      rcases h.plcs j b hi g' hg' with h1 | ⟨h1, h2⟩
      · exact .inl h1
      · exact .inr ⟨hvar.1 h1, by rw [hcs]; exact h2⟩
    · rw [upd_other _ _ e] at hj; exact h.plcs j bj hj
  · have q1 : ∃ b, me j1 = some b := by
      by_cases e1 : j1 = i
      · exact ⟨b, e1 ▸ hi⟩
      · rw [upd_other _ _ e1] at hj1; exact ⟨_, hj1⟩
    have q2 : ∃ b, me j2 = some b := by
      by_cases e1 : j2 = i
      · exact ⟨b, e1 ▸ hi⟩
      · rw [upd_other _ _ e1] at hj2; exact ⟨_, hj2⟩
    obtain ⟨b1', q1⟩ := q1
    obtain ⟨b2', q2⟩ := q2
    exact h.dis j1 j2 b1' b2' g' hne' q1 q2 hg'
  · obtain ⟨h1, h2⟩ := h.sfr b hb
    exact ⟨by simpa using h1, h2⟩
  · refine ⟨h.fr.os, h.fr.tape, h.fr.output, by simpa using h.fr.size, fun b' hb' hn => ?_, fun e he => ?_⟩
    · have hne : b' ≠ g := by
        intro e
        subst e
        rcases h.plcs i b hi b' hg with ⟨_, h1, _⟩ | ⟨_, h1⟩
        · omega
        · exact hn _ (List.mem_of_getElem? h1) rfl
      rw [setRow_other w g b' c' hne]; exact h.fr.block b' hb' hn
    · obtain ⟨c0, cc, tt, h1, h2, h3, h4, h5⟩ := h.fr.part e he
      by_cases heg : e.1 = g
      · rcases h.plcs i b hi g hg with ⟨_, h6, _⟩ | ⟨h6v, h6⟩
        · have := (Array.getElem?_eq_some_iff.1 h1).1; omega
        · have ee := h.pd e he _ (List.mem_of_getElem? h6) heg
          subst ee
          rw [hc] at h2
          cases h2
          exact ⟨c0, c', t, h1, setRow_heap w g c c' t (0, 0) hc, by rw [hsz, h3], by rw [hlo]; exact h4, by rw [hhi h6v]; exact h5⟩
      · exact ⟨c0, cc, tt, h1, by rw [setRow_other w g e.1 c' heg]; exact h2, h3, h4, h5⟩
end
end Go.PG
