/- A part of the proofs over this seat (own work; the framework that reads a Go function as a pure one, or a use of it). No condition of its own. -/
import Derived.Test.YtckdjafnemoloaaPGH
set_option linter.unusedVariables false
set_option linter.unusedSimpArgs false
namespace Go.PG
section
variable {C : Ctx} {tm : Nat → SV} {me : Nat → Option Blk} {pl : Nat → Plc} {S : Nat → Prop} {a : Act} {w : World} {P : Program} {T : Tab}

theorem fresh_spec {rd : Nat → Option Blk} {nx np : Nat} (h : fresh rd nx np = true) : rd nx = none ∧ np ≤ nx := by
  unfold fresh at h
  split at h
  · rename_i hr; exact ⟨hr, Nat.le_of_ble_eq_true h⟩
  · cases h

theorem run_newVar (t : TypeId) (v : Value) : (newVar t v).run P w = .ok ⟨w.heap.size, 0, none⟩ (w.alloc (.cells v.cells t)) := by
  simp [newVar, newRow]

theorem blkAt_newVar {S : Nat → Prop} {k : Kd} {x : k.T} {cs : List Value} (hr : Rd S w k x cs) (hS : ∀ b, S b → b < w.heap.size) (t : TypeId) :
    BlkAt S (w.alloc (.cells cs.toArray t)) (.var k x false) ⟨some w.heap.size, 0, 0⟩ := by
  refine ⟨w.heap.size, cs.toArray, t, rfl, heap_alloc_new w _, by have := Rd.length k x cs hr; simp; omega, ?_, by simp; intro h; exact absurd (hS _ h) (by omega)⟩
  have e : (List.take k.size (List.drop 0 cs.toArray.toList)) = cs := by
    simp
    rw [← Rd.length k x cs hr, List.take_length]
  show Rd S _ k x (List.take k.size (List.drop 0 cs.toArray.toList))
  rw [e]
  exact Rd.mono (fun b hb => ⟨hb, heap_alloc_old w _ b (hS b hb)⟩) k x cs hr

theorem aAlloc_sound (hT : TabOK P T) {np : Nat} (hnp : np = C.pp.length) {rd : Nat → Option Blk} {t : TypeId} {nx : Nat} {r : ARes} (h : aAlloc T np rd t nx = some r) (hacc : ∀ i ∈ r.acc, me i = rd i)
    (hI : Inv C tm me pl S a w) : ∃ u w', (Instr.alloc t true (.tuple #[])).run P w = .ok u w' ∧ After C tm me r.sv r.wr a u w' := by
  unfold aAlloc at h
  split at h <;> try (cases h; done)
  rename_i k hkt hfr
  simp only [Option.some.injEq] at h
  subst h
  obtain ⟨hfr1, hfr2⟩ := fresh_spec hfr
  obtain ⟨z, hz, hzc⟩ := run_zeroValue hT w hkt
  refine ⟨.pointer (some ⟨w.heap.size, 0, none⟩), w.alloc (.cells k.zcells.toArray t), by simp [Instr.alloc, hz, run_newVar, hzc], ?_⟩
  have hb := blkAt_newVar (S := S) (w := w) (Rd.zero k) (fun b hb => (hI.sfr b hb).1) t
  have hmn : me nx = none := by rw [hacc nx (by simp)]; exact hfr1
  refine ⟨_, S, by rw [laid_cons, laid_nil]; exact hI.alloc hmn (by omega) hb, ?_⟩
  rw [laid_cons, laid_nil]
  exact ⟨k, _, false, 0, w.heap.size, upd_same _ _ _, trivial, rfl, by simp, by simp⟩

theorem aBox_sound (hT : TabOK P T) {np : Nat} (hnp : np = C.pp.length) {rd : Nat → Option Blk} {t : TypeId} {sv : SV} {v : Value} {nx : Nat} {r : ARes} (h : aBox T np rd t sv nx = some r) (hacc : ∀ i ∈ r.acc, me i = rd i)
    (hI : Inv C tm me pl S a w) (hG : G S w me pl sv v) : ∃ u w', (Instr.box t v).run P w = .ok u w' ∧ After C tm me r.sv r.wr a u w' := by
  unfold aBox at h
  split at h <;> try (cases h; done)
  rename_i k hkt hfr
  split at h <;> try (cases h; done)
  rename_i y wr acc hval
  simp only [Option.some.injEq] at h
  subst h
  obtain ⟨hfr1, hfr2⟩ := fresh_spec hfr
  obtain ⟨S', h1, h2, cs, h3, rfl⟩ := toVal_sound hnp hval (fun q hq => hacc q (by simp; exact .inr hq)) hI hG
  have hmn : me nx = none := by rw [hacc nx (by simp)]; exact hfr1
  have hmn' : laid wr me nx = none := by
    rcases toVal_wr hval with ⟨rfl, _⟩ | ⟨i, b, b', rfl, _, hri, _⟩
    · rw [laid_nil]; exact hmn
    · have : nx ≠ i := fun e => by subst e; rw [hfr1] at hri; cases hri
      rw [laid_cons, upd_other _ _ this, laid_nil]; exact hmn
  refine ⟨.pointer (some ⟨w.heap.size, 0, none⟩), w.alloc (.cells cs.toArray t), by simp [Instr.box, run_newVar, h3.cells], ?_⟩
  have hb := blkAt_newVar (S := S') (w := w) h3 (fun b hb => (h1.sfr b hb).1) t
  refine ⟨_, S', by rw [laid_cons]; exact h1.alloc hmn' (by omega) hb, ?_⟩
  rw [laid_cons]
  exact ⟨k, _, false, 0, w.heap.size, upd_same _ _ _, trivial, rfl, by simp, by simp⟩

theorem getF_off {k : Kd} {x : k.T} {j : Nat} {k' : Kd} {z : k'.T} (h : getF k x j = some ⟨k', z⟩) : ∃ o, k.offF j = some (o, k') := by
  induction k generalizing j with
  | pair a b _ ih =>
    cases j with
    | zero => simp only [getF, Option.some.injEq] at h; cases h; exact ⟨0, rfl⟩
    | succ j =>
      obtain ⟨o, ho⟩ := ih (x := x.2) (j := j) h
      exact ⟨_, by simp [Kd.offF, ho]; rfl⟩
  | _ => simp [getF] at h

theorem fields_off {fs : List Field} {k : Kd} : ∀ {off : Nat} {j : Nat} {o : Nat} {kf : Kd}, fieldsOK T fs off k = true → k.offF j = some (o, kf) →
    ∃ f, fs[j]? = some f ∧ f.offset = off + o ∧ tkd T f.type = some kf ∧ kf.size ≠ 0 := by
  induction fs generalizing k with
  | nil => intro off j o kf h ho; cases k <;> simp [fieldsOK] at h; simp [Kd.offF] at ho
  | cons f fs ih =>
    intro off j o kf h ho
    cases k <;> simp only [fieldsOK] at h <;> try (cases h; done)
    rename_i a b
    simp only [Bool.and_eq_true] at h
    obtain ⟨⟨⟨h1, h2⟩, h3⟩, h4⟩ := h
    cases j with
    | zero =>
      simp only [Kd.offF, Option.some.injEq, Prod.mk.injEq] at ho
      obtain ⟨rfl, rfl⟩ := ho
      exact ⟨f, rfl, by rw [Nat.eq_of_beq_eq_true h1]; rfl, kdIs_some h2, fun e => by rw [e] at h3; cases h3⟩
    | succ j =>
      simp only [Kd.offF] at ho
      split at ho <;> try (cases ho; done)
      rename_i o' k' ho'
      simp only [Option.some.injEq, Prod.mk.injEq] at ho
      obtain ⟨rfl, rfl⟩ := ho
      obtain ⟨f', e1, e2, e3, e4⟩ := ih h4 ho'
      exact ⟨f', by simpa using e1, by omega, e3, e4⟩

/-- The struct type of a kind: its field j. -/
theorem struct_field (hT : TabOK P T) {t : TypeId} {k : Kd} {fs : Array Field} (hk : tkd T t = some k) (hd : tdesc T t = some (.struct fs)) {j o : Nat} {kf : Kd} (ho : k.offF j = some (o, kf)) :
    ∃ f, fs[j]? = some f ∧ f.offset = o ∧ tkd T f.type = some kf ∧ kf.size ≠ 0 := by
  have := tkd_desc hT hk hd
  simp only [descOK] at this
  obtain ⟨f, e1, e2, e3, e4⟩ := fields_off this ho
  exact ⟨f, by simpa using e1, by omega, e3, e4⟩

theorem run_fieldAt (hT : TabOK P T) {t : TypeId} {k : Kd} {fs : Array Field} (hk : tkd T t = some k) (hd : tdesc T t = some (.struct fs)) {j o : Nat} {kf : Kd} (ho : k.offF j = some (o, kf)) (g off : Nat) :
    (Instr.fieldAt t (.pointer (some ⟨g, off, none⟩)) j).run P w = .ok (.pointer (some ⟨g, off + o, none⟩)) w := by
  obtain ⟨f, e1, e2, e3, e4⟩ := struct_field hT hk hd ho
  have hz : (sizeOf f.type).run P w = .ok kf.size w := run_sizeOf hT w e3
  simp [Instr.fieldAt, run_underlying (tdesc_some hT hd), e1, run_sureAddr, Instr.fieldAt, fieldPlace, hz, e4, e2, add_eq]

theorem offP_append {k : Kd} {p : List Step} {o : Nat} {k' : Kd} {s : Step} {o' : Nat} {k'' : Kd} (h : k.offP p = some (o, k')) (h' : k'.off1 s = some (o', k'')) : k.offP (p ++ [s]) = some (o + o', k'') := by
  induction p generalizing k o with
  | nil => simp only [Kd.offP, Option.some.injEq, Prod.mk.injEq] at h; obtain ⟨rfl, rfl⟩ := h; simp [Kd.offP, h']
  | cons s' p ih =>
    simp only [Kd.offP, List.cons_append] at h ⊢
    cases h1 : k.off1 s' with
    | none => simp [h1] at h
    | some q =>
      obtain ⟨o1, k1⟩ := q
      simp only [h1] at h ⊢
      cases h2 : k1.offP p with
      | none => simp [h2] at h
      | some q =>
        obtain ⟨o2, k2⟩ := q
        simp only [h2, Option.some.injEq, Prod.mk.injEq] at h
        obtain ⟨rfl, rfl⟩ := h
        rw [ih h2]
        simp; omega
theorem okP_append {k : Kd} {p : List Step} {o : Nat} {k' : Kd} {s : Step} (h : k.offP p = some (o, k')) (hk : k.okP p) (h' : k'.ok1 s) : k.okP (p ++ [s]) := by
  induction p generalizing k o with
  | nil =>
    simp only [Kd.offP, Option.some.injEq, Prod.mk.injEq] at h; obtain ⟨rfl, rfl⟩ := h
    refine ⟨h', ?_⟩
    cases k.off1 s <;> trivial
  | cons s' p ih =>
    simp only [Kd.offP] at h
    split at h <;> try (cases h; done)
    rename_i o1 k1 h1
    split at h <;> try (cases h; done)
    rename_i o2 k2 h2
    simp only [Option.some.injEq, Prod.mk.injEq] at h
    obtain ⟨rfl, rfl⟩ := h
    have := hk.2
    simp only [h1] at this
    exact ⟨hk.1, by simp only [h1]; exact ih h2 this⟩

theorem off1_fld {k : Kd} {j : Nat} : k.off1 (.fld j) = k.offF j := by cases k <;> rfl
theorem ok1_fld {k : Kd} {j : Nat} : k.ok1 (.fld j) := by cases k <;> trivial

theorem live_spec {rd : Nat → Option Blk} {j ver : Nat} (h : live rd j ver = true) : ∃ e l sh, rd j = some (.row e l ver sh) := by
  unfold live at h
  split at h
  · rename_i e l ver' sh hr
    have := Nat.eq_of_beq_eq_true h
    subst this
    exact ⟨e, l, sh, hr⟩
  · cases h

theorem aFieldAddr_sound (hT : TabOK P T) {rd : Nat → Option Blk} {t : TypeId} {sv : SV} {j : Nat} {nx : Nat} {r : ARes} {v : Value} (h : aFieldAddr T rd t sv j nx = some r) (hacc : ∀ i ∈ r.acc, me i = rd i)
    (hG : G S w me pl sv v) : ∃ u, (Instr.fieldAt t v j).run P w = .ok u w ∧ r.wr = [] ∧ G S w me pl r.sv u := by
  unfold aFieldAddr at h
  split at h <;> try (cases h; done)
  rename_i kt fs hkt hd
  split at h <;> try (cases h; done)
  · rename_i o1 kf b p k ho
    split at h <;> try (cases h; done)
    rename_i hsame
    simp only [ok1, Option.some.injEq] at h
    subst h
    have e1 := same_of hsame
    subst e1
    obtain ⟨kb, x, sh, o, g, hm, hok, hoff, hg, rfl⟩ := hG
    refine ⟨_, run_fieldAt hT hkt hd ho _ _, rfl, ?_⟩
    exact ⟨kb, x, sh, o + o1, g, hm, okP_append hoff hok ok1_fld, offP_append hoff (by rw [off1_fld]; exact ho), hg, by rw [Nat.add_assoc]⟩
  · rename_i o1 kf b ver i p k ho
    split at h <;> try (cases h; done)
    rename_i hsame hlive
    simp only [Option.some.injEq] at h
    subst h
    have e1 := same_of hsame
    subst e1
    obtain ⟨e, l, sh, hrd⟩ := live_spec hlive
    have hm : me b = some (.row e l ver sh) := by rw [hacc b (by simp)]; exact hrd
    obtain ⟨e', l', ver', sh', hm', hle, hh⟩ := hG
    rw [hm] at hm'
    cases hm'
    obtain ⟨hi, hok, o, g, hoff, hg, rfl⟩ := hh rfl
    exact ⟨_, run_fieldAt hT hkt hd ho _ _, rfl, e, l, ver, sh, hm, hle, fun _ => ⟨hi, okP_append hoff hok ok1_fld, o + o1, g, offP_append hoff (by rw [off1_fld]; exact ho), hg, by rw [Nat.add_assoc]⟩⟩
  · rename_i q k z ho
    split at h <;> try (cases h; done)
    rename_i k' y hsame hget
    simp only [ok1, Option.some.injEq] at h
    subst h
    have e1 := same_of hsame
    subst e1
    obtain ⟨g, off, c, ty, fr, rfl, hS, hc, hr⟩ := hG
    obtain ⟨o, hoff, c1, c2, c3, e, hl, hr2, _⟩ := lensF _ z _ j k' y hr hget
    refine ⟨_, run_fieldAt hT hkt hd hoff _ _, rfl, g, off + o, c, ty, fr, rfl, hS, hc, ?_⟩
    · have h2 := Rd.length _ y _ hr2
      have := seg_sub (c := c.toList) (off := off) (n := Kd.size _) e 0 k'.size (by omega)
      rw [hl, Nat.add_zero] at this
      rw [this, List.drop_zero, List.take_of_length_le (by omega)]
      exact hr2

theorem part_agg (hT : TabOK P T) {S : Nat → Prop} {t : TypeId} {k : Kd} {x : k.T} {cs : Array Value} {o : Nat} {c1 c2 c3 : List Value} (hk : tkd T t = some k) (hcs : cs.toList = c1 ++ c2 ++ c3) (ho : c1.length = o) (hr : Rd S w k x c2) :
    (part t cs o).run P w = .ok (k.mkV c2) w := by
  have hl := Rd.length k x c2 hr
  unfold part
  simp only [Sem.run_bind, run_isAgg hT w hk, Result.andThen_ok]
  by_cases ha : k.agg = true
  · have e : cs.extract o (o + k.size) = c2.toArray := by
      apply Array.ext'
      simp only [Array.toList_extract, hcs, List.toList_toArray, List.extract_eq_take_drop]
      rw [← ho, List.append_assoc, List.drop_left, Nat.add_sub_cancel_left, ← hl, List.take_left]
    simp [ha, run_sizeOf hT w hk, e, Kd.mkV]
  · have h1 : k.size = 1 := by cases k <;> simp [Kd.agg] at ha <;> rfl
    rw [h1] at hl
    obtain ⟨v, rfl⟩ := List.length_eq_one_iff.1 hl
    have : cs[o]? = some v := by
      have e : cs.toList[o]? = some v := by rw [hcs, ← ho]; simp
      simpa using e
    simp [ha, this, Kd.mkV]

theorem aField_sound (hT : TabOK P T) {t : TypeId} {sv : SV} {j : Nat} {nx : Nat} {r : ARes} {v : Value} (h : aField T t sv j nx = some r)
    (hG : G S w me pl sv v) : ∃ u, (Instr.field t v j).run P w = .ok u w ∧ r.wr = [] ∧ G S w me pl r.sv u := by
  unfold aField at h
  split at h <;> try (cases h; done)
  rename_i kt fs k z hkt hd
  split at h <;> try (cases h; done)
  rename_i k' y hsame hget
  simp only [ok1, Option.some.injEq] at h
  subst h
  have e1 := same_of hsame
  subst e1
  obtain ⟨cs, hr, rfl⟩ := hG
  obtain ⟨o, hoff, c1, c2, c3, e, hl, hr2, _⟩ := lensF _ z _ j k' y hr hget
  obtain ⟨f, f1, f2, f3, f4⟩ := struct_field hT hkt hd hoff
  have hagg : kt.agg = true := by
    have := tkd_desc hT hkt hd
    exact fieldsOK_agg this
  refine ⟨_, ?_, rfl, c2, hr2, rfl⟩
  have hp := part_agg (w := w) hT (cs := cs.toArray) (o := o) f3 (by simpa using e) hl hr2
  simp [Instr.field, run_underlying (tdesc_some hT hd), f1, f2, Kd.mkV, hagg, asAgg, hp]
end
end Go.PG
