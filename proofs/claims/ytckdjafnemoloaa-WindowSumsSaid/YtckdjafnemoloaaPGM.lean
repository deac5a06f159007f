/- A part of the proofs over this seat (own work; the framework that reads a Go function as a pure one, or a use of it). No condition of its own. -/
import Derived.Test.YtckdjafnemoloaaPGL
set_option linter.unusedVariables false
set_option linter.unusedSimpArgs false
namespace Go.PG
section
variable {C : Ctx} {tm : Nat → SV} {me : Nat → Option Blk} {pl : Nat → Plc} {S : Nat → Prop} {a : Act} {w : World} {P : Program} {T : Tab}

theorem upd_self {α : Type} {f : Nat → α} {i : Nat} {v : α} (h : f i = v) : upd f i v = f := by
  funext j; simp only [upd]; split
  · subst_vars; rfl
  · rfl
theorem lay_nil {α : Type} (l : List α) (lo : Nat) : lay l lo [] = l := by unfold lay; simp

theorem RdL.mono {S S' : Nat → Prop} {w w' : World} (hs : ∀ b, S b → S' b ∧ w'.heap[b]? = w.heap[b]?) {e : Kd} {l : List e.T} {cs : List Value} (h : RdL (Rd S w e) l cs) : RdL (Rd S' w' e) l cs :=
  RdL.imp (fun x cs hx => Rd.mono hs e x cs hx) h

/-- Elements laid into an own row. -/
theorem Inv.copyRow (hI : Inv C tm me pl S a w) {j : Nat} {e : Kd} {l ys : List e.T} {v lo : Nat} (hm : me j = some (.row e l v false)) {ds : List Value} (hy : RdL (Rd S w e) ys ds) (hfit : lo + ys.length ≤ l.length)
    {b : Option Addr} (hb : ys = [] ∨ ∃ g, (pl j).g = some g ∧ b = some ⟨g, lo * e.size, none⟩) :
    ∃ w', (match b with | some a => storeCells a ds | none => pure ()).run P w = .ok () w' ∧ Inv C tm (upd me j (some (.row e (lay l lo ys) v false))) pl S a w' := by
  rcases hb with rfl | ⟨g, hg, rfl⟩
  · simp only [RdL] at hy
    subst hy
    refine ⟨w, ?_, ?_⟩
    · cases b <;> simp [storeCells]
    · rw [lay_nil, upd_self hm]; exact hI
  · rcases hI.mem j _ hm with ⟨h0, _⟩ | ⟨g', c, t, hg', h1', h2, h3, h4, h5, h6, h7⟩
    · rw [hg] at h0; cases h0
    · rw [hg] at hg'
      cases hg'
      have hd := RdL.length (Rd.length e) hy
      have hle : l.length * e.size ≤ c.size := by rw [h5]; exact Nat.mul_le_mul_right _ h3
      have hfit' : lo * e.size + ds.length ≤ l.length * e.size := by rw [hd, ← Nat.add_mul]; exact Nat.mul_le_mul_right _ hfit
      have hst := run_storeCells_at P g (lo * e.size) t ds 0 c w h2 (by omega) hy.one
      simp only [Nat.add_zero] at hst
      refine ⟨_, hst, hI.writeRow hm hg h2 hfit' (lay_length hfit) (fun w' hw' => ?_)⟩
      have h8 := RdL.lay (Rd.length e) (RdL.mono hw' h6) (RdL.mono hw' hy) lo
      have hcl : c.toList.length = c.size := by simp
      have e1 : (c.toList.take (lo * e.size) ++ ds ++ c.toList.drop (lo * e.size + ds.length)).take (l.length * e.size) =
          (c.toList.take (l.length * e.size)).take (lo * e.size) ++ ds ++ (c.toList.take (l.length * e.size)).drop (lo * e.size + ds.length) := by
        rw [List.take_append, List.take_take, Nat.min_eq_left (by omega), List.take_of_length_le (by simp; omega)]
        congr 1
        rw [List.drop_take]
        congr 1
        simp; omega
      rw [e1]; exact h8

theorem Inv.copyVar (hI : Inv C tm me pl S a w) {b : Nat} {kb e : Kd} {x x' : kb.T} {l ys : List e.T} {p : List Step} {o m lo : Nat} (hm : me b = some (.var kb x false))
    (hok : kb.okP p) (hoff : kb.offP p = some (o, .arr m e)) (hget : getP kb x p = some ⟨.arr m e, l⟩) (hset : setP kb x p ⟨.arr m e, lay l lo ys⟩ = some x') {ds : List Value} (hy : RdL (Rd S w e) ys ds) (hfit : lo + ys.length ≤ m)
    {bb : Option Addr} (hb : ys = [] ∨ ∃ g, (pl b).g = some g ∧ bb = some ⟨g, (pl b).off + o + lo * e.size, none⟩) :
    ∃ w', (match bb with | some a => storeCells a ds | none => pure ()).run P w = .ok () w' ∧ Inv C tm (upd me b (some (.var kb x' false))) pl S a w' := by
  obtain ⟨_, g, c, t, c1, c2, c3, hg, hc, hsz, hseg, hl1, ⟨hlm, hrl⟩, hsh, hs⟩ := hI.atPath hm hok hoff hget
  have hcl : c.toList.length = c.size := by simp
  have hc2 := RdL.length (Rd.length e) hrl
  have hlay := RdL.lay (Rd.length e) hrl hy lo
  have hrd : Rd S w (.arr m e) (lay l lo ys) (c2.take (lo * e.size) ++ ds ++ c2.drop (lo * e.size + ds.length)) := ⟨by rw [lay_length (by omega)]; exact hlm, hlay⟩
  obtain ⟨g', c', t', hg', hc', hfit2, hinv⟩ := hI.storePath hm hok hoff hset hrd
  rw [hg] at hg'
  cases hg'
  rw [hc] at hc'
  cases hc'
  have hd := RdL.length (Rd.length e) hy
  have hfit' : lo * e.size + ds.length ≤ c2.length := by rw [hd, hc2, ← Nat.add_mul]; exact Nat.mul_le_mul_right _ (by omega)
  have hseg2 : (c.toList.drop ((pl b).off + o)).take c2.length = c2.take (lo * e.size) ++ (c2.drop (lo * e.size)).take ds.length ++ c2.drop (lo * e.size + ds.length) := by
    have := seg_sub hseg 0 c2.length (by omega)
    rw [Nat.add_zero, List.drop_zero, List.take_length, hl1] at this
    rw [this, ← List.drop_drop, List.append_assoc, List.take_append_drop, List.take_append_drop]
  have hlens : (pl b).off + kb.size ≤ c.toList.length := by omega
  have hlen : kb.size = c1.length + c2.length + c3.length := by
    have := congrArg List.length hseg
    simp at this; omega
  have hsp := splice_in (c2' := ds) hseg2 (by omega) (by simp; omega)
  have hta : (c2.take (lo * e.size)).length = lo * e.size := by simp; omega
  rw [hta] at hsp
  have hcells : c.toList.take ((pl b).off + o) ++ (c2.take (lo * e.size) ++ ds ++ c2.drop (lo * e.size + ds.length)) ++ c.toList.drop ((pl b).off + o + (c2.take (lo * e.size) ++ ds ++ c2.drop (lo * e.size + ds.length)).length) =
      c.toList.take ((pl b).off + o + lo * e.size) ++ ds ++ c.toList.drop ((pl b).off + o + lo * e.size + ds.length) := by
    rw [hsp]
    congr 2
    simp; omega
  rw [hcells] at hinv
  rcases hb with rfl | ⟨g'', hg'', rfl⟩
  · simp only [RdL] at hy
    subst hy
    refine ⟨w, by cases bb <;> simp [storeCells], ?_⟩
    have hself : w.setRow g (c.toList.take ((pl b).off + o + lo * e.size) ++ [] ++ c.toList.drop ((pl b).off + o + lo * e.size + ([] : List Value).length)).toArray = w := by
      simp only [List.append_nil, List.length_nil, Nat.add_zero, List.take_append_drop, Array.toArray_toList]
      exact setRow_self w g c t (0, 0) hc
    rw [hself] at hinv
    exact hinv
  · rw [hg] at hg''
    cases hg''
    have hst := run_storeCells_at P g ((pl b).off + o + lo * e.size) t ds 0 c w hc (by omega) hy.one
    simp only [Nat.add_zero] at hst
    exact ⟨_, hst, hinv⟩

theorem fieldsOK_not {fs : List Field} {n : Nat} {k : Kd} (h : k.agg = false) : fieldsOK T fs n k = false := by
  cases hh : fieldsOK T fs n k with
  | false => rfl
  | true => rw [fieldsOK_agg hh] at h; cases h
theorem desc_sl (hT : TabOK P T) {t : TypeId} {ke : Kd} (hkt : tkd T t = some (.sl ke)) : ∃ et, tdesc T t = some (.slice et) := by
  obtain ⟨dd, h1, h2, h3⟩ := tkd_some hT hkt
  have h4 := (h3.kd _ h2).2
  obtain ⟨desc, sz, by_, kd⟩ := dd
  simp only at h4
  cases desc <;> simp only [descOK, Bool.false_eq_true] at h4
  · exact ⟨_, by simp [tdesc, h1]; rfl⟩
  · rw [fieldsOK_not rfl] at h4; cases h4
theorem take_min {α : Type} (xs : List α) (n : Nat) : xs.take (min xs.length n) = xs.take n := by
  rw [List.take_eq_take_iff]; omega

theorem run_copy (hT : TabOK P T) {t ts ty et : TypeId} {sz : Nat} (hd : tdesc T t = some (.slice et)) (hz : ∀ w, (sizeOf et).run P w = .ok sz w) {bd : Option Addr} {dl dc sl : Nat} {vs : Value} {ds : List Value} {w' : World}
    (hl : (Builtin.lenOf vs).run P w = .ok sl w) (hf : (Builtin.firstCells sz (min sl dl) vs).run P w = .ok ds.toArray w) (hs : (match bd with | some a => storeCells a ds | none => pure ()).run P w = .ok () w') :
    (Builtin.copy_ #[t, ts] ty #[.slice bd dl dc, vs]).run P w = .ok (goInt (min sl dl : Nat)) w' := by
  have e : Nat.min sl dl = min sl dl := rfl
  cases bd with
  | none =>
    simp only [Sem.run_pure, Result.ok.injEq] at hs
    obtain ⟨_, rfl⟩ := hs
    simp [Builtin.copy_, run_underlying (tdesc_some hT hd), hl, hz w, e, hf]
  | some b =>
    simp only at hs
    simp [Builtin.copy_, run_underlying (tdesc_some hT hd), hl, hz w, e, hf, hs]

theorem aCopy_sound (hT : TabOK P T) {rd : Nat → Option Blk} {t ts ty : TypeId} {d s : SV} {nx : Nat} {r : ARes} {vd vs : Value} (h : aCopy T rd t d s nx = some r) (hacc : ∀ i ∈ r.acc, me i = rd i)
    (hI : Inv C tm me pl S a w) (hGd : G S w me pl d vd) (hGs : G S w me pl s vs) : ∃ u w', (Builtin.copy_ #[t, ts] ty #[vd, vs]).run P w = .ok u w' ∧ After C tm me r.sv r.wr a u w' := by
  unfold aCopy at h
  split at h <;> try (cases h; done)
  rename_i ke e xs acc hkt hrs
  split at h <;> try (cases h; done)
  rename_i hsame
  have es := same_of hsame
  subst es
  obtain ⟨et, hd⟩ := desc_sl hT hkt
  have hz : ∀ w, (sizeOf et).run P w = .ok ke.size w := fun w => run_sizeOf hT w (tkd_sl hT hkt hd)
  cases d <;> simp only [reduceCtorEq] at h
  case own j ver =>
    split at h <;> try (cases h; done)
    rename_i e' l ver' hrd
    split at h <;> try (cases h; done)
    rename_i ys hver hys
    simp only [Option.some.injEq] at h
    subst h
    have := TV.as_some hys
    cases this
    have hm : me j = some (.row ke l ver' false) := by rw [hacc j (by simp)]; exact hrd
    have hS := rdSl_sound hrs (fun q hq => hacc q (by simp; exact .inr hq)) hI hGs
    obtain ⟨ds, hf, hr⟩ := hS.first (P := P) (Rd.length ke) (n := min (List.length xs) l.length) (Nat.min_le_left _ _)
    rw [take_min] at hr
    obtain ⟨e2, l2, ver2, sh2, hm2, hle, hh⟩ := hGd
    rw [hm] at hm2
    cases hm2
    rcases hh (Nat.eq_of_beq_eq_true hver).symm with ⟨hg, rfl⟩ | ⟨g, hg, rfl⟩
    · have hl0 : l = [] := by
        rcases hI.mem j _ hm with ⟨_, hl, _⟩ | ⟨g, c, t, hg', _⟩
        · exact hl
        · rw [hg] at hg'; cases hg'
      subst hl0
      obtain ⟨w', h1, h2⟩ := hI.copyRow (P := P) hm (lo := 0) hr (by simp) (b := none) (.inl (by simp))
      exact ⟨_, w', run_copy hT hd hz hS.len hf h1, pl, S, by rw [laid_cons, laid_nil]; exact ⟨h2, VRd.int.2 rfl⟩⟩
    · obtain ⟨w', h1, h2⟩ := hI.copyRow (P := P) hm (lo := 0) hr (by simp; omega) (b := some ⟨g, 0, none⟩) (.inr ⟨g, hg, by simp⟩)
      exact ⟨_, w', run_copy hT hd hz hS.len hf h1, pl, S, by rw [laid_cons, laid_nil]; exact ⟨h2, VRd.int.2 rfl⟩⟩
  case win j ver lo n =>
    split at h <;> try (cases h; done)
    rename_i e' l ver' hrd
    split at h <;> try (cases h; done)
    rename_i ys hver hys
    simp only [Option.some.injEq] at h
    subst h
    have := TV.as_some hys
    cases this
    have hm : me j = some (.row ke l ver' false) := by rw [hacc j (by simp)]; exact hrd
    have hS := rdSl_sound hrs (fun q hq => hacc q (by simp; exact .inr hq)) hI hGs
    obtain ⟨ds, hf, hr⟩ := hS.first (P := P) (Rd.length ke) (n := min (List.length xs) n) (Nat.min_le_left _ _)
    rw [take_min] at hr
    obtain ⟨e2, l2, ver2, sh2, hm2, hle, hh⟩ := hGd
    rw [hm] at hm2
    cases hm2
    obtain ⟨hln, hwin⟩ := hh (Nat.eq_of_beq_eq_true hver).symm
    rcases hwin with ⟨hg, rfl, hn0⟩ | ⟨g, oo, cap, hg, rfl, hcap, ho⟩
    · subst hn0
      obtain ⟨w', h1, h2⟩ := hI.copyRow (P := P) hm (lo := lo) hr (by simp; omega) (b := none) (.inl (by simp))
      exact ⟨_, w', run_copy hT hd hz hS.len hf h1, pl, S, by rw [laid_cons, laid_nil]; exact ⟨h2, VRd.int.2 rfl⟩⟩
    · obtain ⟨w', h1, h2⟩ := hI.copyRow (P := P) hm (lo := lo) hr (by simp; omega) (b := some ⟨g, oo, none⟩) (by
        rcases ho with ho | ho
        · subst ho; exact .inl (by simp)
        · exact .inr ⟨g, hg, by rw [ho, Nat.zero_add]⟩)
      exact ⟨_, w', run_copy hT hd hz hS.len hf h1, pl, S, by rw [laid_cons, laid_nil]; exact ⟨h2, VRd.int.2 rfl⟩⟩
  case asl b p lo n =>
    split at h <;> try (cases h; done)
    rename_i kb x hrd
    split at h <;> try (cases h; done)
    rename_i m e' l hget
    split at h <;> try (cases h; done)
    rename_i ys hys
    split at h <;> try (cases h; done)
    rename_i x' hset
    simp only [Option.some.injEq] at h
    subst h
    have := TV.as_some hys
    cases this
    have hm : me b = some (.var kb x false) := by rw [hacc b (by simp)]; exact hrd
    have hS := rdSl_sound hrs (fun q hq => hacc q (by simp; exact .inr hq)) hI hGs
    obtain ⟨ds, hf, hr⟩ := hS.first (P := P) (Rd.length ke) (n := min (List.length xs) n) (Nat.min_le_left _ _)
    rw [take_min] at hr
    obtain ⟨kb', x0, sh', o, m', e2, hm', hok', hoff, hln, hgs, hwin⟩ := hGd
    rw [hm] at hm'
    cases hm'
    obtain ⟨ek, _⟩ := hI.atPath hm hok' hoff hget
    cases ek
    rcases hwin with ⟨hg, rfl, hn0⟩ | ⟨g, oo, cap, hg, rfl, hcap, ho⟩
    · rw [hg] at hgs; cases hgs
    · obtain ⟨w', h1, h2⟩ := hI.copyVar (P := P) hm hok' hoff hget hset hr (by simp; omega) (bb := some ⟨g, oo, none⟩) (by
        rcases ho with ho | ho
        · subst ho; exact .inl (by simp)
        · exact .inr ⟨g, hg, by rw [ho]⟩)
      exact ⟨_, w', run_copy hT hd hz hS.len hf h1, pl, S, by rw [laid_cons, laid_nil]; exact ⟨h2, VRd.int.2 rfl⟩⟩
end
end Go.PG
