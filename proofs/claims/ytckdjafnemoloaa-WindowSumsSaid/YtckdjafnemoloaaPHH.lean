/- A part of the proofs over this seat (own work; the framework that reads a Go function as a pure one, or a use of it). No condition of its own. -/
import Derived.Test.YtckdjafnemoloaaPHG
set_option linter.unusedVariables false
set_option linter.unusedSimpArgs false
namespace Go.PG
/-! What a seat's texts use. -/
section
variable {P : Program} {T : Tab}

def valB : Value → Value → Bool
  | .int k n, .int k' m => Kd.ikb k k' && decide (n = m)
  | .bool a, .bool b => a == b
  | .string s, .string t => Nat.beq s.size 0 && Nat.beq t.size 0
  | .slice none 0 0, .slice none 0 0 => true
  | _, _ => false
def valsB : List Value → List Value → Bool
  | [], [] => true
  | a :: l, b :: m => valB a b && valsB l m
  | _, _ => false
theorem bytes_empty {s : ByteArray} (h : s.size = 0) : s = ByteArray.empty := by
  obtain ⟨a⟩ := s
  have : a.size = 0 := h
  have : a = #[] := Array.eq_empty_of_size_eq_zero this
  subst this; rfl
theorem valB_eq {a b : Value} (h : valB a b = true) : a = b := by
  unfold valB at h
  split at h
  · rw [Bool.and_eq_true] at h
    rw [Kd.ikb_eq h.1, of_decide_eq_true h.2]
  · simp at h; rw [h]
  · rw [Bool.and_eq_true] at h
    rw [bytes_empty (Nat.eq_of_beq_eq_true h.1), bytes_empty (Nat.eq_of_beq_eq_true h.2)]
  · rfl
  · cases h
theorem valsB_eq : ∀ {a b : List Value}, valsB a b = true → a = b
  | [], [], _ => rfl
  | [], _ :: _, h => by cases h
  | _ :: _, [], h => by cases h
  | x :: l, y :: m, h => by
    simp only [valsB, Bool.and_eq_true] at h
    rw [valB_eq h.1, valsB_eq h.2]

def tyB (P : Program) (T : Tab) (t : TypeId) (d : TyD) : Bool :=
  match P.info? t with
  | none => false
  | some i => Nat.beq i.size d.size && Nat.beq i.bytes d.bytes && match d.kd with
    | none => true
    | some k => (match i.zero with | none => false | some z => valsB z.cells.toList k.zcells) && Nat.beq k.size d.size && descOK T d.desc k

theorem tyOK_of {t : TypeId} {d : TyD} (h1 : P.underlying t = some d.desc) (h2 : tyB P T t d = true) : TyOK P T t d := by
  unfold tyB at h2
  split at h2
  · cases h2
  · rename_i i hi
    simp only [Bool.and_eq_true] at h2
    obtain ⟨⟨h3, h4⟩, h5⟩ := h2
    refine ⟨h1, ⟨i, hi, Nat.eq_of_beq_eq_true h3, Nat.eq_of_beq_eq_true h4, fun k hk => ?_⟩, fun k hk => ?_⟩
    · rw [hk] at h5
      simp only [Bool.and_eq_true] at h5
      obtain ⟨⟨h6, _⟩, _⟩ := h5
      split at h6
      · cases h6
      · rename_i z hz
        have := valsB_eq h6
        exact ⟨z, hz, by rw [← this]⟩
    · rw [hk] at h5
      simp only [Bool.and_eq_true] at h5
      exact ⟨Nat.eq_of_beq_eq_true h5.1.2, h5.2⟩

theorem allM_nil {α : Type} {p : α → Prop} : ∀ x ∈ ([] : List α), p x := fun _ h => by cases h
theorem allM_cons {α : Type} {p : α → Prop} {a : α} {l : List α} (h : p a) (hl : ∀ x ∈ l, p x) : ∀ x ∈ a :: l, p x := fun x hx => by
  rcases List.mem_cons.1 hx with rfl | hx
  · exact h
  · exact hl x hx
theorem allE_nil {p : Ent → Prop} : ∀ x ∈ ([] : List Ent), p x := fun _ h => by cases h
theorem allE_cons {p : Ent → Prop} {a : Ent} {l : List Ent} (h : p a) (hl : ∀ x ∈ l, p x) : ∀ x ∈ a :: l, p x := fun x hx => by
  rcases List.mem_cons.1 hx with rfl | hx
  · exact h
  · exact hl x hx

theorem tabOK_of (h : ∀ p ∈ T, TyOK P T p.1 p.2) : TabOK P T := by
  have key : ∀ (l : Tab) t d, tlook l t = some d → (t, d) ∈ l := by
    intro l
    induction l with
    | nil => intro t d h; cases h
    | cons p l ih =>
      intro t d h
      obtain ⟨i, e⟩ := p
      simp only [tlook] at h
      split at h
      · rename_i hb
        have := Nat.eq_of_beq_eq_true hb
        subst this
        cases h
        simp
      · exact List.mem_cons_of_mem _ (ih t d h)
  exact fun t d hd => h (t, d) (key T t d hd)

def ownOf : List (Nat × Nat) → Nat → Nat → Bool
  | [], _, _ => false
  | (a, b) :: l, r, i => match Nat.beq a r with
    | true => match Nat.beq b i with | true => true | false => ownOf l r i
    | false => ownOf l r i

/-- The loop that begins with a region. -/
def loopAt (id : Nat) : Code → Option Code
  | .seq a b => match loopAt id a with | some c => some c | none => loopAt id b
  | .cond _ a b => match loopAt id a with | some c => some c | none => loopAt id b
  | .block _ c => loopAt id c
  | .loop c => match Nat.beq (firstReg c) id with | true => some c | false => loopAt id c
  | _ => none
def codeOf (f : Func) : Code := f.body.getD .skip
def lcode (id : Nat) (c : Code) : Code := (loopAt id c).getD .skip

def lookL : List LEnt → Nat → Option LEnt
  | [], _ => none
  | e :: l, id => match Nat.beq id e.id with | true => some e | false => lookL l id

theorem loop_ok2 {R : Type} {E : Env R} {c : Code} {l : List LEnt} {e : LEnt} (hl : E.loop = loopOf l R) (hk : lookL l (firstReg c) = some e) (h : e.OK P E.np E.nt c) : LoopOK E P c := by
  intro σ K r hh
  rw [hl] at hh
  clear hl
  induction l with
  | nil => cases hh
  | cons e' l ih =>
    simp only [loopOf] at hh
    simp only [lookL] at hk
    split at hh
    · rename_i hid
      rw [hid] at hk
      cases hk
      split at hh <;> try (cases hh; done)
      rename_i x hx
      obtain ⟨ex, Hy, y, ho, hL⟩ := h R x _ r hh
      refine ⟨ex, stOf Hy y e.nx, adapt_out ho, fun C e1 e2 Q hQ pl S a w hI => wp_of_wpL ?_⟩
      exact hL e.nx C e1 e2 Q hQ pl S a w (find_sound hx hI)
    · rename_i hid
      rw [hid] at hk
      exact ih hk hh

/-- Rounds enough for everything that ends. -/
def FUEL : Nat := 2 ^ 64
end
end Go.PG
