/- A part of the proofs over this seat (own work; the framework that reads a Go function as a pure one, or a use of it). No condition of its own. -/
import Derived.Test.YtckdjafnemoloaaPHE
import Derived.ProofKit
import Derived.OpenShut
set_option linter.unusedVariables false
set_option linter.unusedSimpArgs false
namespace Go.PG
/-! From the data that a claim speaks of to the framework's readings. -/
open Go.ChangeShapes Go.WideShapes Go.ChangeAt Go.RowKit

def Fit : (k : Kd) → k.T → Prop
  | .int ik, x => ik.min ≤ x ∧ x ≤ ik.max
  | .bool, _ => True
  | .str, s => s.size ≤ maxLen
  | .unit, _ => True
  | .pair a b, x => Fit a x.1 ∧ Fit b x.2
  | .arr n e, x => List.length x = n ∧ ∀ y ∈ x, Fit e y
  | .sl e, x => List.length x ≤ maxLen ∧ ∀ y ∈ x, Fit e y

/-- No slices inside; not empty. -/
def Kd.flat : Kd → Bool
  | .int _ | .bool | .str => true
  | .unit => true
  | .pair a b => a.flat && b.flat
  | .arr _ e => e.flat
  | .sl _ => false
def Kd.slOK : Kd → Bool
  | .pair a b => a.slOK && b.slOK
  | .arr _ e => e.slOK
  | .sl e => e.flat && !(Nat.beq e.size 0)
  | _ => true
theorem Kd.flat_slOK : ∀ {k : Kd}, k.flat = true → k.slOK = true
  | .int _, _ => rfl
  | .bool, _ => rfl
  | .str, _ => rfl
  | .unit, _ => rfl
  | .pair a b, h => by simp only [Kd.flat, Kd.slOK, Bool.and_eq_true] at *; exact ⟨Kd.flat_slOK h.1, Kd.flat_slOK h.2⟩
  | .arr _ e, h => by simp only [Kd.flat, Kd.slOK] at *; exact Kd.flat_slOK h
  | .sl _, h => by simp [Kd.flat] at h

def Kd.dep : Kd → Nat
  | .pair a b => a.dep + b.dep + 1
  | .arr _ e => e.dep + 1
  | .sl e => e.dep + 1
  | _ => 1

def SpotOK (w : World) (cs : List Value) : Prop := ∀ a n cap, Value.slice (some a) n cap ∈ cs → a.spot = none ∧ ∃ c t fr, w.heap[a.block]? = some (.cells c t fr)

section
variable {P : Program} {T : Tab} {w : World} {H : Type} {enc : TypeId × Value → H}

theorem rdL_of {α : Type} {R : α → List Value → Prop} {F : α → Prop} {sz : Nat} : ∀ (n : Nat) (cs : List Value), cs.length = n * sz → (∀ i, i < n → ∃ x, R x ((cs.drop (i * sz)).take sz) ∧ F x) → ∃ xs : List α, xs.length = n ∧ RdL R xs cs ∧ ∀ x ∈ xs, F x
  | 0, cs, hl, _ => ⟨[], rfl, by simpa [RdL] using hl, fun x hx => by cases hx⟩
  | n + 1, cs, hl, h => by
    obtain ⟨x, h1, h2⟩ := h 0 (Nat.succ_pos n)
    obtain ⟨xs, h3, h4, h5⟩ := rdL_of (R := R) (F := F) (sz := sz) n (cs.drop sz) (by rw [List.length_drop, hl, Nat.add_mul]; omega) (fun i hi => by
      obtain ⟨y, h6, h7⟩ := h (i + 1) (by omega)
      refine ⟨y, ?_, h7⟩
      rw [List.drop_drop]
      rwa [show sz + i * sz = (i + 1) * sz by rw [Nat.add_mul]; omega])
    refine ⟨x :: xs, by simp [h3], ⟨cs.take sz, cs.drop sz, (List.take_append_drop _ _).symm, by simpa using h1, h4⟩, fun y hy => ?_⟩
    rcases List.mem_cons.1 hy with rfl | hy
    · exact h2
    · exact h5 y hy

theorem cellsOf_kd (hT : TabOK P T) {t : TypeId} {k : Kd} (h : tkd T t = some k) : P.cellsOf t = k.size := by
  obtain ⟨d, h1, h2, h3⟩ := tkd_some hT h
  obtain ⟨i, h4, h5, _⟩ := h3.info
  unfold Program.cellsOf
  rw [h4]
  simp [h5, (h3.kd k h2).1]

theorem wf_int {k : IntKind} {n : Int} (h : (Lit.int k n).wf = true) : k.min ≤ n ∧ n ≤ k.max := by
  simpa [Lit.wf] using h

theorem fields_rd (hT : TabOK P T) {S : Nat → Prop} {cs : List Value} : ∀ (fs : List Field) (off : Nat) (k : Kd), fieldsOK T fs off k = true → k.slOK = true → cs.length = off + k.size →
    (∀ f ∈ fs, ∀ kf, tkd T f.type = some kf → kf.slOK = true → kf.dep < k.dep → (k.flat = true → kf.flat = true) → ∃ x : kf.T, Rd S w kf x ((cs.drop f.offset).take (P.cellsOf f.type)) ∧ Fit kf x) →
    ∃ x : k.T, Rd S w k x (cs.drop off) ∧ Fit k x
  | [], off, k, h, _, hl, _ => by
    cases k <;> simp only [fieldsOK, reduceCtorEq] at h
    exact ⟨(), List.drop_of_length_le (by simp [Kd.size] at hl; omega), trivial⟩
  | f :: fs, off, k, h, hs, hl, hf => by
    cases k <;> simp only [fieldsOK, reduceCtorEq, Bool.and_eq_true] at h
    rename_i a b
    obtain ⟨⟨⟨h1, h2⟩, h3⟩, h4⟩ := h
    simp only [Kd.slOK, Bool.and_eq_true] at hs
    have hoff := Nat.eq_of_beq_eq_true h1
    have ha := kdIs_some h2
    obtain ⟨x, hx1, hx2⟩ := hf f (by simp) a ha hs.1 (by simp only [Kd.dep]; omega) (fun h => by simp only [Kd.flat, Bool.and_eq_true] at h; exact h.1)
    obtain ⟨y, hy1, hy2⟩ := fields_rd hT fs (off + a.size) b h4 hs.2 (by simp only [Kd.size] at hl; omega) (fun g hg kg hk hso hlt hfl => hf g (by simp [hg]) kg hk hso (by simp only [Kd.dep]; omega) (fun h => by simp only [Kd.flat, Bool.and_eq_true] at h; exact hfl h.2))
    rw [cellsOf_kd hT ha, hoff] at hx1
    refine ⟨(x, y), ⟨(cs.drop off).take a.size, (cs.drop off).drop a.size, (List.take_append_drop _ _).symm, hx1, ?_⟩, hx2, hy2⟩
    rw [List.drop_drop]; exact hy1

theorem SpotOK.sub {cs cs' : List Value} (h : SpotOK w cs) (hs : ∀ v ∈ cs', v ∈ cs) : SpotOK w cs' := fun a n cap hm => h a n cap (hs _ hm)

theorem cells_seg {a : Addr} {c : Array Value} {t : TypeId} {fr : Nat × Nat} (hsp : a.spot = none) (hc : w.heap[a.block]? = some (.cells c t fr)) {i n : Nat} {l : List Value} (h : w.cells? 0 (a.add i) n = some l) :
    l = (c.toList.drop (a.off + i)).take n ∧ l.length = n := by
  obtain ⟨b, off, sp⟩ := a
  simp only at hsp hc ⊢
  subst hsp
  unfold World.cells? at h
  simp only [Nat.zero_le, if_true] at h
  have hlen := mapM_some_length h
  rw [List.length_range] at hlen
  refine ⟨?_, hlen⟩
  apply List.ext_getElem?
  intro j
  rcases Nat.lt_or_ge j n with hj | hj
  · have := mapM_some_get h j j (by simp [hj])
    rw [add_eq, add_eq, cell_of_row w b _ c t fr hc] at this
    rw [← this, List.getElem?_take, if_pos hj, List.getElem?_drop]
    simp
  · rw [List.getElem?_eq_none (by omega), List.getElem?_eq_none (by simp; omega)]

theorem trod_rd (hT : TabOK P T) : ∀ (n : Nat) (k : Kd), k.dep < n → ∀ (t : TypeId), tkd T t = some k → k.slOK = true → ∀ (fuel : Nat) (cs : List Value) (x : DataW H × List MemPlace), (k.flat = true ∨ SpotOK w cs) →
    DataW.trod enc P w 0 (fun _ => true) true fuel t cs = some x → ∃ y : k.T, Rd (fun b => b < w.heap.size) w k y cs ∧ Fit k y
  | 0, k, hk, _, _, _, _, _, _, _, _ => absurd hk (Nat.not_lt_zero _)
  | n + 1, k, hk, t, htk, hso, fuel, cs, x, hsp, h => by
    obtain ⟨d, h1, h2, h3⟩ := tkd_some hT htk
    have hd := (h3.kd k h2).2
    have hu := h3.und
    generalize d.desc = de at hd hu
    have ih := trod_rd hT n
    by_cases hst : ∃ fs, de = .struct fs
    · obtain ⟨fs, rfl⟩ := hst
      obtain ⟨xs, f, _, _, hlen, hxl, hel⟩ := DataW.trod_struct hu h
      rw [cellsOf_kd hT htk] at hlen
      have := fields_rd (S := fun b => b < w.heap.size) (w := w) (cs := cs) hT fs.toList 0 _ (by unfold descOK at hd; split at hd <;> simp_all) hso (by rw [hlen, Nat.zero_add]) (fun g hg kg hkg hsg hlt hfl => by
        obtain ⟨i, hi, hgi⟩ := List.getElem_of_mem hg
        have hi' : i < xs.length := by rw [hxl]; simpa using hi
        refine ih kg (by omega) g.type hkg hsg f _ xs[i] ?_ (by rw [hel i g (by rw [← Array.getElem?_toList, List.getElem?_eq_getElem hi, hgi])]; exact List.getElem?_eq_getElem hi')
        rcases hsp with hsp | hsp
        · exact .inl (hfl hsp)
        · exact .inr (hsp.sub (fun v hv => List.mem_of_mem_drop (List.mem_of_mem_take hv))))
      simpa using this
    cases de <;> cases k <;> simp only [descOK, reduceCtorEq, Bool.and_eq_true] at hd <;> try (exact absurd ⟨_, rfl⟩ hst)
    case int.int =>
      have := Kd.ikb_eq hd
      subst this
      obtain ⟨m, rfl, _, hwf⟩ := DataW.trod_int hu h
      exact ⟨m, rfl, wf_int hwf⟩
    case bool.bool =>
      obtain ⟨b, rfl, _⟩ := DataW.trod_bool hu h
      exact ⟨b, rfl, trivial⟩
    case string.str =>
      obtain ⟨s, rfl, _, hs⟩ := DataW.trod_string hu h
      exact ⟨s, rfl, hs⟩
    case array.arr m e m' e' =>
      obtain ⟨xs, f, _, _, hlen, hxl, hel⟩ := DataW.trod_array hu h
      have hke := kdIs_some hd.2
      have hm := Nat.eq_of_beq_eq_true hd.1
      subst hm
      rw [cellsOf_kd hT htk] at hlen
      rw [cellsOf_kd hT hke] at hel
      obtain ⟨ys, y1, y2, y3⟩ := rdL_of (R := Rd (fun b => b < w.heap.size) w e') (F := Fit e') (sz := e'.size) m cs hlen (fun i hi => by
        have hi' : i < xs.length := by omega
        exact ih e' (by simp only [Kd.dep] at hk; omega) e hke (by simpa [Kd.slOK] using hso) f _ xs[i] (hsp.imp (fun h => by simpa [Kd.flat] using h) (fun h => h.sub (fun v hv => List.mem_of_mem_drop (List.mem_of_mem_take hv)))) (by rw [hel i hi]; exact List.getElem?_eq_getElem hi'))
      exact ⟨ys, ⟨y1, y2⟩, y1, y3⟩
    case slice.sl e e' =>
      have hke := kdIs_some hd
      simp only [Kd.slOK, Bool.and_eq_true, Bool.not_eq_true'] at hso
      have hpos : 0 < e'.size := by
        rcases Nat.eq_zero_or_pos e'.size with h0 | h0
        · rw [h0] at hso; simp at hso
        · exact h0
      rcases DataW.trod_slice hu h with ⟨rfl, _⟩ | ⟨a, len, cap, elems, rest, f, _, rfl, _, _, hlc, hcm, hel, hcell, _, _⟩
      · exact ⟨[], ⟨_, rfl, .inl ⟨rfl, rfl⟩⟩, Nat.zero_le _, fun y hy => by cases hy⟩
      · have hsp' := hsp.resolve_left (by simp [Kd.flat])
        obtain ⟨hspot, c, ct, fr, hc⟩ := hsp' a len cap (by simp)
        rw [cellsOf_kd hT hke] at hcell
        have each : ∀ i, i < len → ∃ l, l = (c.toList.drop (a.off + i * e'.size)).take e'.size ∧ l.length = e'.size ∧ ∃ y : e'.T, Rd (fun b => b < w.heap.size) w e' y l ∧ Fit e' y := by
          intro i hi
          have hi' : i < elems.length := by omega
          have hci := hcell i hi
          rw [List.getElem?_eq_getElem hi'] at hci
          obtain ⟨l, hl1, hl2⟩ := Option.bind_eq_some_iff.1 hci
          obtain ⟨e1, e2⟩ := cells_seg hspot hc hl1
          exact ⟨l, e1, e2, ih e' (by simp only [Kd.dep] at hk; omega) e hke (Kd.flat_slOK hso.1) f l elems[i] (.inl hso.1) hl2⟩
        have hsz : ((c.toList.drop a.off).take (len * e'.size)).length = len * e'.size := by
          rw [List.length_take, List.length_drop]
          rcases Nat.eq_zero_or_pos len with h0 | h0
          · subst h0; simp
          · obtain ⟨l, e1, e2, _⟩ := each (len - 1) (by omega)
            rw [e1, List.length_take, List.length_drop] at e2
            have : len * e'.size = (len - 1) * e'.size + e'.size := by
              rw [← Nat.succ_mul]; congr 1; omega
            omega
        obtain ⟨ys, y1, y2, y3⟩ := rdL_of (R := Rd (fun b => b < w.heap.size) w e') (F := Fit e') (sz := e'.size) len _ hsz (fun i hi => by
          obtain ⟨l, e1, e2, y, hy⟩ := each i hi
          refine ⟨y, ?_⟩
          have : (((c.toList.drop a.off).take (len * e'.size)).drop (i * e'.size)).take e'.size = l := by
            rw [e1, List.drop_take, List.drop_drop, List.take_take]
            congr 1
            have : (i + 1) * e'.size ≤ len * e'.size := Nat.mul_le_mul_right _ (by omega)
            rw [Nat.add_mul] at this
            omega
          rw [this]; exact hy)
        obtain ⟨b, off, sp⟩ := a
        simp only at hspot hc
        subst hspot
        refine ⟨ys, ⟨_, rfl, .inr ⟨b, off, cap, c, ct, fr, by rw [y1], by rw [y1]; exact hlc, (Array.getElem?_eq_some_iff.1 hc).1, hc, by rw [y1]; exact y2⟩⟩, by rw [y1]; omega, y3⟩
end
end Go.PG
