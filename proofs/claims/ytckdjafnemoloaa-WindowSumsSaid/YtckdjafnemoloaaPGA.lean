/- A part of the proofs over this seat (own work; the framework that reads a Go function as a pure one, or a use of it). No condition of its own. -/
import Derived.Laws.CopyRow
import Derived.Laws.Rows
import Derived.Laws.AppendOwn
import Derived.Orders
set_option linter.unusedVariables false
set_option linter.unusedSimpArgs false
namespace Go.PG
/-! Kinds of values, their pure types, and how cells of memory read as pure values. -/

inductive Kd where
  | int (k : IntKind)
  | bool
  | str
  | unit
  | pair (a b : Kd)
  | arr (n : Nat) (e : Kd)
  | sl (e : Kd)
  deriving Inhabited

@[reducible] def Kd.T : Kd → Type
  | .int _ => Int
  | .bool => Bool
  | .str => ByteArray
  | .unit => Unit
  | .pair a b => a.T × b.T
  | .arr _ e => List e.T
  | .sl e => List e.T

def Kd.ikb : IntKind → IntKind → Bool
  | .i8, .i8 | .i16, .i16 | .i32, .i32 | .i64, .i64 | .u8, .u8 | .u16, .u16 | .u32, .u32 | .u64, .u64 => true
  | _, _ => false
theorem Kd.ikb_eq : ∀ {a b : IntKind}, Kd.ikb a b = true → a = b := by
  intro a b h; cases a <;> cases b <;> first | rfl | (simp [Kd.ikb] at h)

def Kd.same : Kd → Kd → Bool
  | .int a, .int b => Kd.ikb a b
  | .bool, .bool => true
  | .str, .str => true
  | .unit, .unit => true
  | .pair a b, .pair c d => a.same c && b.same d
  | .arr n a, .arr m b => Nat.beq n m && a.same b
  | .sl a, .sl b => a.same b
  | _, _ => false
theorem Kd.same_eq : ∀ {a b : Kd}, a.same b = true → a = b := by
  intro a
  induction a with
  | int k => intro b h; cases b <;> simp [Kd.same] at h; exact congrArg _ (Kd.ikb_eq h)
  | bool => intro b h; cases b <;> simp [Kd.same] at h; rfl
  | str => intro b h; cases b <;> simp [Kd.same] at h; rfl
  | unit => intro b h; cases b <;> simp [Kd.same] at h; rfl
  | pair a b iha ihb => intro c h; cases c <;> simp [Kd.same] at h; rw [iha h.1, ihb h.2]
  | arr n a ih => intro c h; cases c <;> simp [Kd.same] at h; rw [ih h.2, h.1]
  | sl a ih => intro c h; cases c <;> simp [Kd.same] at h; rw [ih h]

/-- A typed pure value. -/
abbrev TV := (k : Kd) × k.T

def TV.as (v : TV) (k : Kd) : Option k.T :=
  if h : v.1.same k = true then some (cast (congrArg Kd.T (Kd.same_eq h)) v.2) else none
theorem TV.as_some {v : TV} {k : Kd} {x : k.T} (h : v.as k = some x) : v = ⟨k, x⟩ := by
  unfold TV.as at h
  split at h
  · rename_i hs
    obtain ⟨k', y⟩ := v
    have e := Kd.same_eq hs
    simp only at e
    subst e
    simp only [cast_eq, Option.some.injEq] at h
    rw [h]
  · cases h

def Kd.size : Kd → Nat
  | .int _ | .bool | .str | .sl _ => 1
  | .unit => 0
  | .pair a b => a.size + b.size
  | .arr n e => n * e.size

def Kd.agg : Kd → Bool
  | .unit | .pair _ _ | .arr _ _ => true
  | _ => false

def Kd.zero : (k : Kd) → k.T
  | .int _ => (0 : Int)
  | .bool => false
  | .str => ByteArray.empty
  | .unit => ()
  | .pair a b => (a.zero, b.zero)
  | .arr n e => List.replicate n e.zero
  | .sl _ => []

/-- The cells of the zero value. -/
def Kd.zcells : Kd → List Value
  | .int k => [.int k 0]
  | .bool => [.bool false]
  | .str => [.string ByteArray.empty]
  | .unit => []
  | .pair a b => a.zcells ++ b.zcells
  | .arr n e => (List.replicate n e.zcells).flatten
  | .sl _ => [.slice none 0 0]

def RdL {α : Type} (R : α → List Value → Prop) : List α → List Value → Prop
  | [], cs => cs = []
  | x :: xs, cs => ∃ c1 c2, cs = c1 ++ c2 ∧ R x c1 ∧ RdL R xs c2

/-- A slice value that reads as the list l, in blocks of S. -/
def RdSl {α : Type} (R : α → List Value → Prop) (S : Nat → Prop) (w : World) (sz : Nat) (l : List α) (v : Value) : Prop :=
  (v = .slice none 0 0 ∧ l = []) ∨
  ∃ g off cap c t fr, v = .slice (some ⟨g, off, none⟩) l.length cap ∧ l.length ≤ cap ∧ S g ∧ w.heap[g]? = some (.cells c t fr) ∧
    RdL R l ((c.toList.drop off).take (l.length * sz))

def Rd (S : Nat → Prop) (w : World) : (k : Kd) → k.T → List Value → Prop
  | .int ik, x, cs => cs = [.int ik x]
  | .bool, x, cs => cs = [.bool x]
  | .str, x, cs => cs = [.string x]
  | .unit, _, cs => cs = []
  | .pair a b, x, cs => ∃ c1 c2, cs = c1 ++ c2 ∧ Rd S w a x.1 c1 ∧ Rd S w b x.2 c2
  | .arr n e, x, cs => List.length x = n ∧ RdL (Rd S w e) x cs
  | .sl e, x, cs => ∃ v, cs = [v] ∧ RdSl (Rd S w e) S w e.size x v

theorem RdL.imp {α : Type} {R R' : α → List Value → Prop} (h : ∀ x cs, R x cs → R' x cs) : ∀ {l : List α} {cs}, RdL R l cs → RdL R' l cs
  | [], _, hh => hh
  | _ :: _, _, ⟨c1, c2, e, h1, h2⟩ => ⟨c1, c2, e, h _ _ h1, RdL.imp h h2⟩

theorem RdL.length {α : Type} {R : α → List Value → Prop} {n : Nat} (h : ∀ x cs, R x cs → cs.length = n) : ∀ {l : List α} {cs}, RdL R l cs → cs.length = l.length * n
  | [], _, hh => by simp [RdL] at hh; simp [hh]
  | _ :: l, _, ⟨c1, c2, e, h1, h2⟩ => by
    subst e
    rw [List.length_append, h _ _ h1, RdL.length h h2, List.length_cons, Nat.add_mul]
    omega

theorem RdL.append {α : Type} {R : α → List Value → Prop} : ∀ {l1 l2 : List α} {c1 c2}, RdL R l1 c1 → RdL R l2 c2 → RdL R (l1 ++ l2) (c1 ++ c2)
  | [], _, _, _, h1, h2 => by simp only [RdL] at h1; subst h1; simpa using h2
  | _ :: _, _, _, _, ⟨a, b, e, ha, hb⟩, h2 => ⟨a, b ++ _, by rw [e, List.append_assoc], ha, RdL.append hb h2⟩

theorem RdL.split {α : Type} {R : α → List Value → Prop} : ∀ {l1 l2 : List α} {cs}, RdL R (l1 ++ l2) cs → ∃ c1 c2, cs = c1 ++ c2 ∧ RdL R l1 c1 ∧ RdL R l2 c2
  | [], _, cs, h => ⟨[], cs, rfl, rfl, h⟩
  | _ :: _, _, _, ⟨a, b, e, ha, hb⟩ =>
    let ⟨c1, c2, e2, h1, h2⟩ := RdL.split hb
    ⟨a ++ c1, c2, by rw [e, e2, List.append_assoc], ⟨a, c1, rfl, ha, h1⟩, h2⟩

theorem Rd.length {S : Nat → Prop} {w : World} : ∀ (k : Kd) (x : k.T) (cs), Rd S w k x cs → cs.length = k.size
  | .int _, _, _, h => by simp only [Rd] at h; simp [h, Kd.size]
  | .bool, _, _, h => by simp only [Rd] at h; simp [h, Kd.size]
  | .str, _, _, h => by simp only [Rd] at h; simp [h, Kd.size]
  | .unit, _, _, h => by simp only [Rd] at h; simp [h, Kd.size]
  | .pair a b, x, _, ⟨c1, c2, e, h1, h2⟩ => by
    subst e; rw [List.length_append, Rd.length a _ _ h1, Rd.length b _ _ h2]; rfl
  | .arr n e, x, cs, ⟨hl, h⟩ => by
    rw [RdL.length (Rd.length e) h, hl]; rfl
  | .sl e, _, _, ⟨v, e1, _⟩ => by simp [e1, Kd.size]

theorem RdSl.mono {α : Type} {R R' : α → List Value → Prop} {S S' : Nat → Prop} {w w' : World} {sz : Nat} {l : List α} {v : Value}
    (hs : ∀ b, S b → S' b ∧ w'.heap[b]? = w.heap[b]?) (hr : ∀ x cs, R x cs → R' x cs) (h : RdSl R S w sz l v) : RdSl R' S' w' sz l v := by
  rcases h with h | ⟨g, off, cap, c, t, fr, h1, h2, h3, h4, h6⟩
  · exact .inl h
  · exact .inr ⟨g, off, cap, c, t, fr, h1, h2, (hs _ h3).1, by rw [(hs _ h3).2]; exact h4, RdL.imp hr h6⟩

theorem Rd.mono {S S' : Nat → Prop} {w w' : World} (hs : ∀ b, S b → S' b ∧ w'.heap[b]? = w.heap[b]?) :
    ∀ (k : Kd) (x : k.T) (cs), Rd S w k x cs → Rd S' w' k x cs
  | .int _, _, _, h => h
  | .bool, _, _, h => h
  | .str, _, _, h => h
  | .unit, _, _, h => h
  | .pair a b, _, _, ⟨c1, c2, e, h1, h2⟩ => ⟨c1, c2, e, Rd.mono hs a _ _ h1, Rd.mono hs b _ _ h2⟩
  | .arr _ e, _, _, ⟨hl, h⟩ => ⟨hl, RdL.imp (fun x cs h => Rd.mono hs e x cs h) h⟩
  | .sl e, _, _, ⟨v, e1, h⟩ => ⟨v, e1, RdSl.mono hs (fun x cs h => Rd.mono hs e x cs h) h⟩

theorem RdL.all {α : Type} {R : α → List Value → Prop} {p : Value → Prop} (h : ∀ x cs, R x cs → ∀ v ∈ cs, p v) : ∀ {l : List α} {cs}, RdL R l cs → ∀ v ∈ cs, p v
  | [], _, hh => by simp only [RdL] at hh; subst hh; intro v hv; cases hv
  | _ :: _, _, ⟨c1, c2, e, h1, h2⟩ => by
    subst e; intro v hv
    rcases List.mem_append.1 hv with hv | hv
    · exact h _ _ h1 v hv
    · exact RdL.all h h2 v hv

theorem RdSl.one {α : Type} {R : α → List Value → Prop} {S : Nat → Prop} {w : World} {sz : Nat} {l : List α} {v : Value} (h : RdSl R S w sz l v) : v.oneCell' = true := by
  rcases h with ⟨rfl, _⟩ | ⟨g, off, cap, c, t, fr, rfl, _⟩ <;> rfl

theorem Rd.one {S : Nat → Prop} {w : World} : ∀ (k : Kd) (x : k.T) (cs), Rd S w k x cs → ∀ v ∈ cs, v.oneCell' = true
  | .int _, _, _, h => by simp only [Rd] at h; subst h; simp [Value.oneCell']
  | .bool, _, _, h => by simp only [Rd] at h; subst h; simp [Value.oneCell']
  | .str, _, _, h => by simp only [Rd] at h; subst h; simp [Value.oneCell']
  | .unit, _, _, h => by simp only [Rd] at h; subst h; simp
  | .pair a b, _, _, ⟨c1, c2, e, h1, h2⟩ => by
    subst e; intro v hv
    rcases List.mem_append.1 hv with hv | hv
    · exact Rd.one a _ _ h1 v hv
    · exact Rd.one b _ _ h2 v hv
  | .arr _ e, _, _, ⟨_, h⟩ => RdL.all (Rd.one e) h
  | .sl e, _, _, ⟨v, e1, h⟩ => by subst e1; intro u hu; simp at hu; subst hu; exact h.one

theorem RdL.replicate {α : Type} {R : α → List Value → Prop} {x : α} {c : List Value} (h : R x c) : ∀ n, RdL R (List.replicate n x) (List.replicate n c).flatten
  | 0 => rfl
  | n + 1 => ⟨c, (List.replicate n c).flatten, by simp [List.replicate_succ], h, RdL.replicate h n⟩

theorem Rd.zero {S : Nat → Prop} {w : World} : ∀ (k : Kd), Rd S w k k.zero k.zcells
  | .int _ => rfl
  | .bool => rfl
  | .str => rfl
  | .unit => rfl
  | .pair a b => ⟨_, _, rfl, Rd.zero a, Rd.zero b⟩
  | .arr n e => ⟨by simp [Kd.zero], RdL.replicate (Rd.zero e) n⟩
  | .sl e => ⟨_, rfl, .inl ⟨rfl, rfl⟩⟩

theorem Kd.zcells_length (k : Kd) : k.zcells.length = k.size :=
  Rd.length (S := fun _ => True) (w := default) k _ _ (Rd.zero k)

/-- The value that cells make. -/
def Kd.mkV (k : Kd) (cs : List Value) : Value := if k.agg then .agg cs.toArray else cs.headD undef

theorem Rd.cells {S : Nat → Prop} {w : World} {k : Kd} {x : k.T} {cs : List Value} (h : Rd S w k x cs) : (k.mkV cs).cells = cs.toArray := by
  cases k <;> simp only [Rd] at h
  case int => subst h; simp [Kd.mkV, Kd.agg, Value.cells]
  case bool => subst h; simp [Kd.mkV, Kd.agg, Value.cells]
  case str => subst h; simp [Kd.mkV, Kd.agg, Value.cells]
  case unit => subst h; simp [Kd.mkV, Kd.agg, Value.cells]
  case pair => simp [Kd.mkV, Kd.agg, Value.cells]
  case arr => simp [Kd.mkV, Kd.agg, Value.cells]
  case sl =>
    obtain ⟨v, e1, h⟩ := h
    subst e1
    rcases h with ⟨rfl, _⟩ | ⟨g, off, cap, c, t, fr, rfl, _⟩ <;> simp [Kd.mkV, Kd.agg, Value.cells]

/-- A value reads as x. -/
def VRd (S : Nat → Prop) (w : World) (k : Kd) (x : k.T) (v : Value) : Prop := ∃ cs, Rd S w k x cs ∧ v = k.mkV cs

theorem VRd.mono {S S' : Nat → Prop} {w w' : World} (hs : ∀ b, S b → S' b ∧ w'.heap[b]? = w.heap[b]?) {k : Kd} {x : k.T} {v : Value} (h : VRd S w k x v) : VRd S' w' k x v :=
  let ⟨cs, h1, h2⟩ := h
  ⟨cs, Rd.mono hs k x cs h1, h2⟩
theorem VRd.rd {S : Nat → Prop} {w : World} {k : Kd} {x : k.T} {v : Value} (h : VRd S w k x v) : Rd S w k x v.cells.toList := by
  obtain ⟨cs, h1, rfl⟩ := h
  rw [h1.cells]; exact h1
theorem VRd.int {S : Nat → Prop} {w : World} {ik : IntKind} {x : Int} {v : Value} : VRd S w (.int ik) x v ↔ v = .int ik x :=
  ⟨fun ⟨cs, h1, h2⟩ => by simp only [Rd] at h1; subst h1; exact h2, fun h => ⟨[v], by simp [Rd, h], rfl⟩⟩
theorem VRd.bool {S : Nat → Prop} {w : World} {x : Bool} {v : Value} : VRd S w .bool x v ↔ v = .bool x :=
  ⟨fun ⟨cs, h1, h2⟩ => by simp only [Rd] at h1; subst h1; exact h2, fun h => ⟨[v], by simp [Rd, h], rfl⟩⟩
theorem VRd.str {S : Nat → Prop} {w : World} {x : ByteArray} {v : Value} : VRd S w .str x v ↔ v = .string x :=
  ⟨fun ⟨cs, h1, h2⟩ => by simp only [Rd] at h1; subst h1; exact h2, fun h => ⟨[v], by simp [Rd, h], rfl⟩⟩
theorem VRd.sl {S : Nat → Prop} {w : World} {e : Kd} {x : List e.T} {v : Value} : VRd S w (.sl e) x v ↔ RdSl (Rd S w e) S w e.size x v :=
  ⟨fun ⟨cs, ⟨u, e1, h1⟩, h2⟩ => by subst e1; subst h2; exact h1, fun h => ⟨[v], ⟨v, rfl, h⟩, rfl⟩⟩

/-! Paths into a value. -/
inductive Step where
  | fld (j : Nat)
  | idx (i : Nat)

def getF : (k : Kd) → k.T → Nat → Option TV
  | .pair a _, x, 0 => some ⟨a, x.1⟩
  | .pair _ b, x, j + 1 => getF b x.2 j
  | _, _, _ => none
def setF : (k : Kd) → k.T → Nat → TV → Option k.T
  | .pair a _, x, 0, v => match v.as a with | some y => some (y, x.2) | none => none
  | .pair _ b, x, j + 1, v => match setF b x.2 j v with | some y => some (x.1, y) | none => none
  | _, _, _, _ => none
def Kd.offF : Kd → Nat → Option (Nat × Kd)
  | .pair a _, 0 => some (0, a)
  | .pair a b, j + 1 => match b.offF j with | some (o, k) => some (a.size + o, k) | none => none
  | _, _ => none

def get1 : (k : Kd) → k.T → Step → Option TV
  | k, x, .fld j => getF k x j
  | .arr _ e, x, .idx i => some ⟨e, x.getD i e.zero⟩
  | _, _, _ => none
def set1 : (k : Kd) → k.T → Step → TV → Option k.T
  | k, x, .fld j, v => setF k x j v
  | .arr _ e, x, .idx i, v => match v.as e with | some y => some (x.set i y) | none => none
  | _, _, _, _ => none
def Kd.off1 : Kd → Step → Option (Nat × Kd)
  | k, .fld j => k.offF j
  | .arr _ e, .idx i => some (i * e.size, e)
  | _, _ => none
def Kd.ok1 : Kd → Step → Prop
  | .arr n _, .idx i => i < n
  | _, _ => True

def getP : (k : Kd) → k.T → List Step → Option TV
  | k, x, [] => some ⟨k, x⟩
  | k, x, s :: p => match get1 k x s with | some ⟨k', x'⟩ => getP k' x' p | none => none
def setP : (k : Kd) → k.T → List Step → TV → Option k.T
  | k, _, [], v => v.as k
  | k, x, s :: p, v =>
    match get1 k x s with
    | some ⟨k', x'⟩ => match setP k' x' p v with
      | some y => set1 k x s ⟨k', y⟩
      | none => none
    | none => none
def Kd.offP : Kd → List Step → Option (Nat × Kd)
  | k, [] => some (0, k)
  | k, s :: p => match k.off1 s with
    | some (o, k') => match k'.offP p with
      | some (o', k'') => some (o + o', k'')
      | none => none
    | none => none
def Kd.okP : Kd → List Step → Prop
  | _, [] => True
  | k, s :: p => k.ok1 s ∧ match k.off1 s with
    | some (_, k') => k'.okP p
    | none => True

/-- What a step (a path) from x to x' says of cells: where they lie, and what another value there makes. -/
def Lens (S : Nat → Prop) (w : World) (k : Kd) (cs : List Value) (o : Nat) (k' : Kd) (x' : k'.T) (set : TV → Option k.T) : Prop :=
  ∃ c1 c2 c3, cs = c1 ++ c2 ++ c3 ∧ c1.length = o ∧ Rd S w k' x' c2 ∧
    (∀ (y : k'.T), ∃ z, set ⟨k', y⟩ = some z ∧ ∀ (S' : Nat → Prop) (w' : World) c2', (∀ b, S b → S' b ∧ w'.heap[b]? = w.heap[b]?) → Rd S' w' k' y c2' → Rd S' w' k z (c1 ++ c2' ++ c3))

theorem same_refl : ∀ k : Kd, k.same k = true := by
  intro k; induction k with
  | int k => cases k <;> rfl
  | bool => rfl
  | str => rfl
  | unit => rfl
  | pair a b h1 h2 => simp [Kd.same, h1, h2]
  | arr n a h => simp [Kd.same, h]
  | sl a h => simpa [Kd.same] using h
theorem TV.as_self (k : Kd) (x : k.T) : TV.as ⟨k, x⟩ k = some x := by
  unfold TV.as
  rw [dif_pos (same_refl k)]
  rfl

theorem lensF {S : Nat → Prop} {w : World} : ∀ (k : Kd) (x : k.T) (cs : List Value) (j : Nat) (k' : Kd) (x' : k'.T), Rd S w k x cs → getF k x j = some ⟨k', x'⟩ →
    ∃ o, k.offF j = some (o, k') ∧ Lens S w k cs o k' x' (setF k x j)
  | .pair a b, x, _, 0, k', x', ⟨c1, c2, e, h1, h2⟩, hg => by
    simp only [getF, Option.some.injEq] at hg
    cases hg
    refine ⟨0, rfl, [], c1, c2, by simpa using e, rfl, h1, fun y => ⟨(y, x.2), by simp [setF, TV.as_self], fun S' w' c2' hs hy => ?_⟩⟩
    exact ⟨c2', c2, by simp, hy, Rd.mono hs b _ _ h2⟩
  | .pair a b, x, _, j + 1, k', x', ⟨c1, c2, e, h1, h2⟩, hg => by
    simp only [getF] at hg
    obtain ⟨o, ho, d1, d2, d3, e2, hl, hr, hset⟩ := lensF b x.2 c2 j k' x' h2 hg
    refine ⟨a.size + o, by simp [Kd.offF, ho], c1 ++ d1, d2, d3, by simp [e, e2], by simp [hl, Rd.length a _ _ h1], hr, fun y => ?_⟩
    obtain ⟨z, hz, hh⟩ := hset y
    refine ⟨(x.1, z), by simp [setF, hz], fun S' w' c2' hs hy => ?_⟩
    exact ⟨c1, d1 ++ c2' ++ d3, by simp, Rd.mono hs a _ _ h1, hh S' w' c2' hs hy⟩

theorem RdL.nth {α : Type} {R : α → List Value → Prop} {n : Nat} (hn : ∀ x cs, R x cs → cs.length = n) : ∀ {l : List α} {cs} (i : Nat) (d : α), RdL R l cs → i < l.length →
    ∃ c1 c2 c3, cs = c1 ++ c2 ++ c3 ∧ c1.length = i * n ∧ R (l.getD i d) c2 ∧
      ∀ (R' : α → List Value → Prop) y c2', (∀ x cs, R x cs → R' x cs) → R' y c2' → RdL R' (l.set i y) (c1 ++ c2' ++ c3)
  | [], _, _, _, _, h => by simp at h
  | x :: l, _, 0, d, ⟨a, b, e, h1, h2⟩, _ =>
    ⟨[], a, b, by simpa using e, by simp, by simpa using h1, fun R' y c2' hi hy => ⟨c2', b, by simp, hy, RdL.imp hi h2⟩⟩
  | x :: l, _, i + 1, d, ⟨a, b, e, h1, h2⟩, h => by
    obtain ⟨c1, c2, c3, e2, hl, hr, hset⟩ := RdL.nth hn i d h2 (by simpa using h)
    refine ⟨a ++ c1, c2, c3, by simp [e, e2], by rw [List.length_append, hl, hn _ _ h1, Nat.add_mul]; omega, by simpa using hr, fun R' y c2' hi hy => ?_⟩
    exact ⟨a, c1 ++ c2' ++ c3, by simp, hi _ _ h1, hset R' y c2' hi hy⟩

theorem lens1 {S : Nat → Prop} {w : World} (k : Kd) (x : k.T) (cs : List Value) (s : Step) (k' : Kd) (x' : k'.T) (h : Rd S w k x cs) (ho : k.ok1 s) (hg : get1 k x s = some ⟨k', x'⟩) :
    ∃ o, k.off1 s = some (o, k') ∧ Lens S w k cs o k' x' (set1 k x s) := by
  cases s with
  | fld j =>
    have hg' : getF k x j = some ⟨k', x'⟩ := by cases k <;> simpa [get1] using hg
    obtain ⟨o, h1, h2⟩ := lensF k x cs j k' x' h hg'
    refine ⟨o, by cases k <;> simpa [Kd.off1] using h1, ?_⟩
    obtain ⟨c1, c2, c3, e, hl, hr, hset⟩ := h2
    refine ⟨c1, c2, c3, e, hl, hr, fun y => ?_⟩
    obtain ⟨z, hz, hh⟩ := hset y
    exact ⟨z, by cases k <;> simpa [set1] using hz, hh⟩
  | idx i =>
    cases k <;> simp only [get1] at hg <;> try (cases hg; done)
    rename_i n e
    simp only [Option.some.injEq] at hg
    cases hg
    simp only [Kd.ok1] at ho
    obtain ⟨hl, hr⟩ := h
    obtain ⟨c1, c2, c3, e2, hl2, hr2, hset⟩ := RdL.nth (Rd.length _) i (Kd.zero _) hr (by omega)
    refine ⟨i * Kd.size _, rfl, c1, c2, c3, e2, hl2, hr2, fun y => ⟨List.set x i y, by simp [set1, TV.as_self], fun S' w' c2' hs hy => ?_⟩⟩
    exact ⟨by simpa using hl, hset _ y c2' (fun x cs h => Rd.mono hs _ x cs h) hy⟩

theorem lensP {S : Nat → Prop} {w : World} : ∀ (p : List Step) (k : Kd) (x : k.T) (cs : List Value) (k' : Kd) (x' : k'.T), Rd S w k x cs → k.okP p → getP k x p = some ⟨k', x'⟩ →
    ∃ o, k.offP p = some (o, k') ∧ Lens S w k cs o k' x' (setP k x p)
  | [], k, x, cs, k', x', h, _, hg => by
    simp only [getP, Option.some.injEq] at hg
    cases hg
    exact ⟨0, rfl, [], cs, [], by simp, rfl, h, fun y => ⟨y, by simp [setP, TV.as_self], fun S' w' c2' _ hy => by simpa using hy⟩⟩
  | s :: p, k, x, cs, k', x', h, ho, hg => by
    simp only [getP] at hg
    cases h1 : get1 k x s with
    | none => simp [h1] at hg
    | some v1 =>
      obtain ⟨k1, x1⟩ := v1
      simp only [h1] at hg
      obtain ⟨o1, e1, c1, c2, c3, ec, hl, hr, hset⟩ := lens1 k x cs s k1 x1 h ho.1 h1
      have ho2 : k1.okP p := by have := ho.2; simpa [e1] using this
      obtain ⟨o2, e2, d1, d2, d3, ed, hl2, hr2, hset2⟩ := lensP p k1 x1 c2 k' x' hr ho2 hg
      refine ⟨o1 + o2, by simp [Kd.offP, e1, e2], c1 ++ d1, d2, d3 ++ c3, by simp [ec, ed], by simp [hl, hl2], hr2, fun y => ?_⟩
      obtain ⟨z2, hz2, hh2⟩ := hset2 y
      obtain ⟨z, hz, hh⟩ := hset z2
      refine ⟨z, by simp [setP, h1, hz2, hz], fun S' w' c2' hs hy => ?_⟩
      have := hh S' w' (d1 ++ c2' ++ d3) hs (hh2 S' w' c2' hs hy)
      simpa using this
end Go.PG
