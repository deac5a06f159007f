/- A part of the proofs over this seat (own work; the framework that reads a Go function as a pure one, or a use of it). No condition of its own. -/
import Derived.Test.YtckdjafnemoloaaPGO
import Derived.Laws.BytesString
set_option linter.unusedVariables false
set_option linter.unusedSimpArgs false
namespace Go.PG
section
variable {C : Ctx} {tm : Nat → SV} {me : Nat → Option Blk} {pl : Nat → Plc} {S : Nat → Prop} {a : Act} {w : World} {P : Program} {T : Tab}

theorem Keeps.refl : Keeps S w me pl S w me pl := ⟨fun _ hb => ⟨hb, rfl⟩, fun i b hi => ⟨b, hi, Compat.refl _ _⟩⟩
theorem Compat.trans {p q r : Plc} {x y z : Blk} (h : Compat p q x y) (h' : Compat q r y z) : Compat p r x z := by
  cases x <;> cases y <;> cases z <;> simp only [Compat] at *
  · exact ⟨h.1.trans h'.1, h'.2.trans h.2⟩
  · obtain ⟨h1, h2, h3⟩ := h
    obtain ⟨g1, g2, g3⟩ := h'
    refine ⟨h1.trans g1, by omega, fun e => ?_⟩
    obtain ⟨a1, a2⟩ := g3 (by omega)
    obtain ⟨b1, b2⟩ := h3 (by omega)
    exact ⟨a1.trans b1, a2.trans b2⟩
theorem Keeps.trans {S1 S2 : Nat → Prop} {w1 w2 : World} {m1 m2 : Nat → Option Blk} {p1 p2 : Nat → Plc} (h : Keeps S w me pl S1 w1 m1 p1) (h' : Keeps S1 w1 m1 p1 S2 w2 m2 p2) : Keeps S w me pl S2 w2 m2 p2 :=
  ⟨fun b hb => ⟨(h'.s b (h.s b hb).1).1, (h'.s b (h.s b hb).1).2.trans (h.s b hb).2⟩, fun i b hi => by
    obtain ⟨b', h1, h2⟩ := h.m i b hi
    obtain ⟨b'', h3, h4⟩ := h'.m i b' h1
    exact ⟨b'', h3, h2.trans h4⟩⟩

theorem laid_agree {wr : List (Nat × Blk)} {me rd : Nat → Option Blk} {i : Nat} (h : me i = rd i) : laid wr me i = laid wr rd i := by
  unfold laid; rw [h]

theorem putElems_sound {np : Nat} (hnp : np = C.pp.length) {e : Kd} :
    ∀ (parts : List (Nat × SV)) (rd me : Nat → Option Blk) (S : Nat → Prop) (l l' : List e.T) (wr : List (Nat × Blk)) (acc : List Nat) (cs : Array Value) (vs : List (Nat × Value)),
      putElems np rd e l parts = some (l', wr, acc) → (∀ i ∈ acc, me i = rd i) → Inv C tm me pl S a w → PartsG S w me pl parts vs → RdL (Rd S w e) l cs.toList → (∀ p ∈ parts, p.1 < l.length) →
      ∃ S' cs', Inv C tm (laid wr me) pl S' a w ∧ Keeps S w me pl S' w (laid wr me) pl ∧ Instr.fill (fun i => some (i * e.size, e.size)) cs vs = some cs' ∧ RdL (Rd S' w e) l' cs'.toList ∧ cs'.size = cs.size ∧ l'.length = l.length ∧
        (∀ i, mget wr i ≠ none → rd i ≠ none)
  | [], rd, me, S, l, l', wr, acc, cs, vs, h, _, hI, hp, hr, _ => by
    simp only [putElems, Option.some.injEq, Prod.mk.injEq] at h
    obtain ⟨rfl, rfl, rfl⟩ := h
    simp only [PartsG] at hp
    subst hp
    exact ⟨S, cs, by rw [laid_nil]; exact hI, by rw [laid_nil]; exact Keeps.refl, rfl, hr, rfl, rfl, fun i hi => absurd rfl hi⟩
  | (i, sv) :: parts, rd, me, S, l, l', wr, acc, cs, vs, h, hacc, hI, hp, hr, hlt => by
    obtain ⟨v, vs', rfl, hG, hp2⟩ := hp
    simp only [putElems] at h
    split at h <;> try (cases h; done)
    rename_i y wr1 acc1 hval
    split at h <;> try (cases h; done)
    rename_i l2 wr2 acc2 hrest
    simp only [Option.some.injEq, Prod.mk.injEq] at h
    obtain ⟨rfl, rfl, rfl⟩ := h
    obtain ⟨S1, h1, h2, cy, h3, rfl⟩ := toVal_sound hnp hval (fun q hq => hacc q (by simp [hq])) hI hG
    have hi : i < l.length := hlt (i, sv) (by simp)
    have hr1 := RdL.mono (fun b hb => h2.s b hb) hr
    obtain ⟨c1, c2, c3, e1, hl, hr2, hset⟩ := RdL.nth (Rd.length e) i e.zero hr1 hi
    have hcy := Rd.length e y cy h3
    have hc2 := Rd.length e _ c2 hr2
    have hcl : cs.toList.length = cs.size := by simp
    have hfit : i * e.size + e.size ≤ cs.size := by
      rw [← hcl, e1]; simp; omega
    have hys : (e.mkV cy).cells.size = e.size := by rw [h3.cells]; simpa using hcy
    have ht : cs.toList.take (i * e.size) = c1 := by rw [e1, ← hl, List.append_assoc, List.take_left]
    have hd : cs.toList.drop (i * e.size + e.size) = c3 := by
      have : i * e.size + e.size = (c1 ++ c2).length := by simp; omega
      rw [e1, this, List.drop_left]
    have hnew := hset (Rd S1 w e) y cy (fun _ _ h => h) h3
    have hstep := fill_step (place := fun i => some (i * e.size, e.size)) (cells := cs) (i := i) (rest := vs') rfl hys hfit
    obtain ⟨S2, cs', g1, g2, g3, g4, g5, g6, g7⟩ := putElems_sound hnp parts (laid wr1 rd) (laid wr1 me) S1 (l.set i y) l2 wr2 acc2 (cs.toList.take (i * e.size) ++ (e.mkV cy).cells.toList ++ cs.toList.drop (i * e.size + e.size)).toArray vs' hrest
      (fun q hq => laid_agree (hacc q (by simp [hq]))) h1 (hp2.keeps h2) (by rw [List.toList_toArray, h3.cells, ht, hd]; exact hnew) (fun p hp => by simpa using hlt p (by simp [hp]))
    refine ⟨S2, cs', by rw [laid_append]; exact g1, by rw [laid_append]; exact h2.trans g2, by rw [hstep]; exact g3, g4, ?_, by simpa using g6, fun q hq => ?_⟩
    · rw [g5, h3.cells, List.toList_toArray, List.size_toArray, ht, hd, ← hcl, e1]; simp; omega
    · rw [mget_append] at hq
      unfold laid at hq
      have hq1 : mget wr2 q ≠ none ∨ mget wr1 q ≠ none := by
        cases h5 : mget wr2 q with
        | some b => exact .inl (by simp)
        | none => right; intro h6; rw [h5] at hq; exact hq h6
      have w1 : mget wr1 q ≠ none → rd q ≠ none := fun hw => by
        rcases toVal_wr hval with ⟨rfl, _⟩ | ⟨i', b, b', rfl, _, hri, _⟩
        · exact absurd rfl hw
        · simp only [mget] at hw
          split at hw
          · rename_i hb; have := Nat.eq_of_beq_eq_true hb; subst this; rw [hri]; simp
          · exact absurd rfl hw
      rcases hq1 with hq1 | hq1
      · have := g7 q hq1
        unfold laid at this
        cases h6 : mget wr1 q with
        | some b => exact w1 (by rw [h6]; simp)
        | none => rw [h6] at this; exact this
      · exact w1 hq1

theorem aBuildSlice_sound (hT : TabOK P T) {np : Nat} (hnp : np = C.pp.length) {own : Bool} {rd : Nat → Option Blk} {t : TypeId} {len : Nat} {parts : List (Nat × SV)} {nx : Nat} {r : ARes} {vs : List (Nat × Value)} (h : aBuildSlice T np own rd t len parts nx = some r) (hacc : ∀ i ∈ r.acc, me i = rd i)
    (hI : Inv C tm me pl S a w) (hp : PartsG S w me pl parts vs) : ∃ u w', (Instr.buildSlice t len vs.toArray).run P w = .ok u w' ∧ After C tm me r.sv r.wr a u w' := by
  unfold aBuildSlice at h
  split at h <;> try (cases h; done)
  rename_i e hkt hfr hall
  split at h <;> try (cases h; done)
  rename_i l wr acc hlim hput
  obtain ⟨hfr1, hfr2⟩ := fresh_spec hfr
  have hlim0 : len * (e.size + 1) ≤ 16777216 := Nat.le_of_ble_eq_true hlim
  have hlim' : len * e.size ≤ 16777216 := Nat.le_trans (Nat.mul_le_mul_left _ (Nat.le_succ _)) hlim0
  have hlim2 : len ≤ 16777216 := Nat.le_trans (Nat.le_mul_of_pos_right _ (Nat.succ_pos _)) hlim0
  obtain ⟨et, hd⟩ := desc_sl hT hkt
  have het := tkd_sl hT hkt hd
  have hsz := run_sizeOf hT w het
  obtain ⟨z, hz, hzc⟩ := run_zeroValue hT w het
  have hzs := zcells_size e hzc
  have hra : ∃ q, r.acc = nx :: q ∧ q = acc ∧ ∃ b, r.wr = (nx, b) :: wr := by
    cases own <;> simp only [Option.some.injEq] at h <;> subst h <;> exact ⟨_, rfl, rfl, _, rfl⟩
  obtain ⟨q, hq1, rfl, bb, hq2⟩ := hra
  have hmn : me nx = none := by rw [hacc nx (by rw [hq1]; simp)]; exact hfr1
  have hzero : RdL (Rd S w e) (List.replicate len e.zero) (madeCells z.cells (len * z.cells.size)).toList := RdL.made (R := Rd S w e) (by rw [hzc]; exact Rd.zero e) len
  obtain ⟨S1, cs', h1, h2, h3, h4, h5, h6, h7⟩ := putElems_sound hnp parts rd me S (List.replicate len e.zero) l wr q (madeCells z.cells (len * z.cells.size)) vs hput (fun i hi => hacc i (by rw [hq1]; simp [hi])) hI hp hzero
    (fun p hp => by have := List.all_eq_true.1 hall p hp; simpa [Nat.blt_eq] using this)
  have hll : l.length = len := by simpa using h6
  have hmn' : laid wr me nx = none := by
    unfold laid
    cases h8 : mget wr nx with
    | some b => exact absurd hfr1 (h7 nx (by rw [h8]; simp))
    | none => exact hmn
  have hmade : (madeCells z.cells (len * z.cells.size)) = ((Array.range (len * e.size)).map ((if len * e.size = 0 then #[] else z.cells)[· % (if len * e.size = 0 then #[] else z.cells).size]!)) := by
    rw [hzs]
    by_cases h0 : len * e.size = 0
    · simp [madeCells, h0]
    · simp only [madeCells, h0, if_false]
  have hrun : (Instr.buildSlice t len vs.toArray).run P w = .ok (.slice (some ⟨w.heap.size, 0, none⟩) len len) (w.alloc (.cells cs' et)) := by
    rw [hmade] at h3
    have hn : ¬ (len * e.size > 2 ^ 24) := by omega
    simp only [Instr.buildSlice, Sem.run_bind, run_underlying (tdesc_some hT hd), Result.andThen_ok, hsz]
    rw [if_neg hn]
    by_cases h0 : len * e.size = 0
    · simp only [h0, if_true] at h3
      simp at h3
      simp [h0, h3, newRow]
    · simp only [h0, if_false] at h3
      simp [h0, hz, h3, newRow]
  have hcsz : cs'.size = len * e.size := by rw [h5, size_madeCells, hzs]
  have hg := h1.grownRow (i := nx) (v := 0) (c := cs') (t := et) (cap := len) (e := e) (l := l) (fun b0 hb0 => by rw [hmn'] at hb0; cases hb0) (by omega) (by omega) (by
      simp only [maxLen]
      omega) hcsz (by
      rw [hll, ← hcsz]
      have : cs'.size = cs'.toList.length := by simp
      rw [this, List.take_length]; exact h4)
  cases own
  · simp only [Option.some.injEq] at h
    subst h
    obtain ⟨S2, g1, g2, g3⟩ := hg.shutRow (upd_same _ _ _) (by omega)
    refine ⟨_, _, hrun, _, S2, by rw [laid_cons]; rw [upd_comp] at g1; exact g1, ?_⟩
    refine VRd.sl.2 (.inr ⟨w.heap.size, 0, len, cs', et, (0, 0), by rw [hll], by omega, g3 _ (by simp), heap_alloc_new w _, ?_⟩)
    rw [List.drop_zero, hll, ← hcsz]
    have : cs'.size = cs'.toList.length := by simp
    rw [this, List.take_length]
    exact RdL.mono (fun b hb => ⟨(g2.s b hb).1, heap_alloc_old w _ b (h1.sfr b hb).1⟩) h4
  · simp only [Option.some.injEq] at h
    subst h
    refine ⟨_, _, hrun, _, S1, by rw [laid_cons]; exact hg, ?_⟩
    rw [laid_cons]
    exact ⟨e, l, 0, false, upd_same _ _ _, Nat.le_refl _, fun _ => .inr ⟨w.heap.size, by simp, by simp [hll]⟩⟩
end
end Go.PG
