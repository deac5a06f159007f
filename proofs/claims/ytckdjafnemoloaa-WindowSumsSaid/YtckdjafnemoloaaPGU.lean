/- A part of the proofs over this seat (own work; the framework that reads a Go function as a pure one, or a use of it). No condition of its own. -/
import Derived.Test.YtckdjafnemoloaaPGS
set_option linter.unusedVariables false
set_option linter.unusedSimpArgs false
namespace Go.PG
section
variable {C : Ctx} {tm : Nat → SV} {me : Nat → Option Blk} {pl : Nat → Plc} {S : Nat → Prop} {a : Act} {w : World} {P : Program} {T : Tab}

theorem Inv.afterCall0 (h : Inv C tm me pl S a w) {S' : Nat → Prop} {w' : World} (hS : ∀ b, S b → S' b) (hSn : ∀ b, S' b → b < w'.heap.size ∧ (S b ∨ w.heap.size ≤ b)) (hf : FrameOK w [] w') : Inv C tm me pl S' a w' :=
  h.world hS hSn hf.os hf.tape hf.output hf.size (fun b hb => hf.block b hb (fun e he => by cases he))

theorem Inv.afterCall1 (h : Inv C tm me pl S a w) {S' : Nat → Prop} {w' : World} (hS : ∀ b, S b → S' b) (hSn : ∀ b, S' b → b < w'.heap.size ∧ (S b ∨ w.heap.size ≤ b))
    {b : Nat} {kb k : Kd} {x x' : kb.T} {y : k.T} {p : List Step} {o g : Nat} (hm : me b = some (.var kb x false)) (hok : kb.okP p) (hoff : kb.offP p = some (o, k)) (hg : (pl b).g = some g) (hset : setP kb x p ⟨k, y⟩ = some x')
    (hf : FrameOK w [(g, (pl b).off + o, k.size)] w') {c' : Array Value} {t' : TypeId} (hc' : w'.heap[g]? = some (.cells c' t' (0, 0))) (hr' : Rd S' w' k y ((c'.toList.drop ((pl b).off + o)).take k.size)) :
    Inv C tm (upd me b (some (.var kb x' false))) pl S' a w' := by
  obtain ⟨k', z, hget, has⟩ := getP_of_setP hset
  have ek := as_kind has
  simp only at ek
  subst ek
  obtain ⟨_, g', c, t, c1, c2, c3, hg', hc, hsz, hseg, hl1, hr2, hsh, hs⟩ := h.atPath hm hok hoff hget
  rw [hg] at hg'
  cases hg'
  obtain ⟨z', hz', hh⟩ := hs y
  rw [hset] at hz'
  cases hz'
  have hglt := (Array.getElem?_eq_some_iff.1 hc).1
  have hnS : ¬ S g := fun h => by have := hsh.2 h; cases this
  have hnS' : ¬ S' g := fun hh => by rcases (hSn g hh).2 with h1 | h1; exact hnS h1; omega
  have hbl : ∀ q, q < w.heap.size → q ≠ g → w'.heap[q]? = w.heap[q]? := fun q hq hne => hf.block q hq (fun e he => by simp at he; subst he; exact fun e => hne e.symm)
  have hsS : ∀ b, S b → S' b ∧ w'.heap[b]? = w.heap[b]? := fun q hq => ⟨hS q hq, hbl q (h.sfr q hq).1 (fun e => hnS (e ▸ hq))⟩
  obtain ⟨cc0, cc, tt, e1, e2, e3, e4, e5⟩ := hf.part (g, (pl b).off + o, k.size) (by simp)
  simp only at e1 e2 e4 e5
  rw [hc] at e1
  cases e1
  rw [hc'] at e2
  cases e2
  have hK : Keeps S w me pl S' w' (upd me b (some (.var kb x' false))) pl := by
    refine ⟨hsS, fun j bj hj => ?_⟩
    by_cases e : j = b
    · subst e; rw [hm] at hj; cases hj; exact ⟨.var kb x' false, by simp, ⟨rfl, rfl⟩⟩
    · exact ⟨bj, by rw [upd_other _ _ e]; exact hj, Compat.refl _ _⟩
  have lt : ∀ {g : Nat} {o : Obj}, w.heap[g]? = some o → g < w.heap.size := fun hh => (Array.getElem?_eq_some_iff.1 hh).1
  have hiff : ∀ g, g < w.heap.size → (S' g ↔ S g) := fun g hg => ⟨fun hh => by rcases (hSn g hh).2 with h1 | h1; exact h1; omega, hS g⟩
  have hk2 : c2.length = k.size := Rd.length k z c2 hr2
  have hlen : kb.size = c1.length + c2.length + c3.length := by
    have := congrArg List.length hseg
    simp at this; omega
  have hcl : c.toList.length = c.size := by simp
  have hcl' : c'.toList.length = c'.size := by simp
  -- the variable's cells now
  have hnew : (c'.toList.drop (pl b).off).take kb.size = c1 ++ (c'.toList.drop ((pl b).off + o)).take k.size ++ c3 := by
    have a1 : c1 = (c.toList.drop (pl b).off).take o := by
      have := congrArg (List.take o) hseg
      rw [List.take_take, Nat.min_eq_left (by omega), List.append_assoc, ← hl1, List.take_left] at this
      rw [← hl1]; exact this.symm
    have a3 : c3 = ((c.toList.drop (pl b).off).take kb.size).drop (o + k.size) := by
      rw [hseg, show o + k.size = (c1 ++ c2).length by simp; omega, List.drop_left]
    have b1 : (c'.toList.drop (pl b).off).take o = (c.toList.drop (pl b).off).take o := by
      have := congrArg (List.drop (pl b).off) e4
      rw [List.drop_take, List.drop_take, Nat.add_sub_cancel_left] at this
      exact this
    have b3 : ((c'.toList.drop (pl b).off).take kb.size).drop (o + k.size) = ((c.toList.drop (pl b).off).take kb.size).drop (o + k.size) := by
      rw [List.drop_take, List.drop_take, List.drop_drop, List.drop_drop, ← Nat.add_assoc, e5]
    rw [a1, a3, ← b1, ← b3]
    have d1 : (c'.toList.drop ((pl b).off + o)).take k.size = ((c'.toList.drop (pl b).off).drop o).take k.size := by rw [List.drop_drop]
    rw [d1]
    have hko : o + k.size ≤ kb.size := by omega
    generalize c'.toList.drop (pl b).off = L
    conv => lhs; rw [← List.take_append_drop (o + k.size) (L.take kb.size)]
    rw [List.take_take, Nat.min_eq_left hko, List.take_add]
  refine ⟨h.nt, h.df, fun t' => (h.tms t').keeps hK, fun j bj hj => ?_, fun j bj hj => ?_, fun j1 j2 b1 b2 g' hne hj1 hj2 hg' => ?_, fun q hq => hS q (h.s0 q hq), fun q hq => ?_, ?_, h.pd⟩
  · by_cases e : j = b
    · subst e
      simp only [upd_same, Option.some.injEq] at hj; subst hj
      refine ⟨g, c', _, hg, hc', by omega, ?_, by simp; exact hnS'⟩
      rw [hnew]
      exact hh S' w' _ hsS hr'
    · rw [upd_other _ _ e] at hj
      have hne : ∀ gj, (pl j).g = some gj → gj ≠ g := fun gj hgj e' => by subst e'; exact h.dis j b bj _ gj e hj hm hgj hg
      have := h.mem j bj hj
      cases bj with
      | var k' x' sh' =>
        obtain ⟨gj, cj, tj, h1, h2, h3, h4, h5⟩ := this
        exact ⟨gj, cj, tj, h1, by rw [hbl gj (lt h2) (hne gj h1)]; exact h2, h3, Rd.mono hsS k' x' _ h4, by rw [hiff gj (lt h2)]; exact h5⟩
      | row e' l v sh' =>
        rcases this with h1 | ⟨gj, cj, tj, h1, h1', h2, h3, h3', h4, h5, h6⟩
        · exact .inl h1
        · exact .inr ⟨gj, cj, tj, h1, h1', by rw [hbl gj (lt h2) (hne gj h1)]; exact h2, h3, h3', h4, RdL.mono hsS h5, by rw [hiff gj (lt h2)]; exact h6⟩
  · by_cases e : j = b
    · subst e
      simp only [upd_same, Option.some.injEq] at hj; subst hj
      intro g' hg'
      rcases h.plcs j _ hm g' hg' with h1 | ⟨_, h1⟩
      · exact .inl h1
      · exact .inr ⟨⟨kb, x', false, rfl⟩, h1⟩
    · rw [upd_other _ _ e] at hj; exact h.plcs j bj hj
  · have q : ∀ {j : Nat} {b' : Blk}, upd me b (some (.var kb x' false)) j = some b' → ∃ b', me j = some b' := by
      intro j b' hj
      by_cases e1 : j = b
      · exact ⟨_, e1 ▸ hm⟩
      · rw [upd_other _ _ e1] at hj; exact ⟨_, hj⟩
    obtain ⟨b1', q1⟩ := q hj1
    obtain ⟨b2', q2⟩ := q hj2
    exact h.dis j1 j2 b1' b2' g' hne q1 q2 hg'
  · obtain ⟨h1, h2⟩ := hSn q hq
    refine ⟨h1, ?_⟩
    rcases h2 with h2 | h2
    · exact (h.sfr q h2).2
    · exact .inr (Nat.le_trans h.fr.size h2)
  · refine ⟨hf.os.trans h.fr.os, hf.tape.trans h.fr.tape, hf.output.trans h.fr.output, Nat.le_trans h.fr.size hf.size, fun q hq hn => ?_, fun e he => ?_⟩
    · have hne : q ≠ g := by
        intro ee
        subst ee
        rcases h.plcs b _ hm q hg with ⟨_, h1, _⟩ | ⟨_, h1⟩
        · omega
        · exact hn _ (List.mem_of_getElem? h1) rfl
      rw [hbl q (Nat.lt_of_lt_of_le hq h.fr.size) hne]; exact h.fr.block q hq hn
    · obtain ⟨d0, d, td, f1, f2, f3, f4, f5⟩ := h.fr.part e he
      by_cases heg : e.1 = g
      · rcases h.plcs b _ hm g hg with ⟨_, h6, _⟩ | ⟨_, h6⟩
        · have := (Array.getElem?_eq_some_iff.1 f1).1; omega
        · have ee := h.pd e he _ (List.mem_of_getElem? h6) heg
          subst ee
          rw [hc] at f2
          cases f2
          refine ⟨d0, c', _, f1, hc', by omega, ?_, ?_⟩
          · rw [← f4]
            have := congrArg (List.take (pl b).off) e4
            rw [List.take_take, List.take_take, Nat.min_eq_left (by omega)] at this
            exact this
          · rw [← f5]
            simp only [Blk.csize]
            have := congrArg (List.drop (kb.size - (o + k.size))) e5
            rw [List.drop_drop, List.drop_drop, show (pl b).off + o + k.size + (kb.size - (o + k.size)) = (pl b).off + kb.size by omega] at this
            exact this
      · exact ⟨d0, d, td, f1, by rw [hbl _ (lt f2) heg]; exact f2, f3, f4, f5⟩

/-- A row that a callee made becomes one of ours. -/
theorem Inv.adopt (h : Inv C tm me pl S a w) {i : Nat} {e : Kd} {l : List e.T} {g cap : Nat} {c : Array Value} {t : TypeId} (hi : me i = none) (hnp : C.pp.length ≤ i) (hnS : ¬ S g) (hw0 : C.w0.heap.size ≤ g)
    (hdis : ∀ j b, me j = some b → (pl j).g ≠ some g) (hc : w.heap[g]? = some (.cells c t (0, 0))) (hl : l.length ≤ cap) (hcm : cap ≤ maxLen) (hcs : c.size = cap * e.size) (hr : RdL (Rd S w e) l (c.toList.take (l.length * e.size))) :
    Inv C tm (upd me i (some (.row e l 0 false))) (upd pl i ⟨some g, 0, cap⟩) S a w := by
  have hK : Keeps S w me pl S w (upd me i (some (.row e l 0 false))) (upd pl i ⟨some g, 0, cap⟩) :=
    ⟨fun _ hb => ⟨hb, rfl⟩, fun j b' hj => by
      have e : j ≠ i := fun e => by subst e; rw [hi] at hj; cases hj
      exact ⟨b', by rw [upd_other _ _ e]; exact hj, by rw [upd_other _ _ e]; exact Compat.refl _ _⟩⟩
  refine ⟨h.nt, h.df, fun t' => (h.tms t').keeps hK, fun j b' hj => ?_, fun j b' hj => ?_, fun j1 j2 b1 b2 g' hne' hj1 hj2 hg => ?_, h.s0, h.sfr, h.fr, h.pd⟩
  · by_cases e : j = i
    · subst e; simp only [upd_same, Option.some.injEq] at hj; subst hj
      exact .inr ⟨g, c, t, by simp, by simp, hc, by simpa using hl, by simpa using hcm, by simpa using hcs, hr, by simp; exact hnS⟩
    · rw [upd_other _ _ e] at hj; rw [upd_other _ _ e]; exact h.mem j b' hj
  · by_cases e : j = i
    · subst e
      intro g' hg'
      simp at hg'
      exact .inl ⟨hnp, by rw [← hg']; exact hw0, by simp⟩
    · rw [upd_other _ _ e] at hj; rw [upd_other _ _ e]; exact h.plcs j b' hj
  · by_cases e1 : j1 = i
    · subst e1
      have e2 : j2 ≠ j1 := fun e => hne' e.symm
      rw [upd_other _ _ e2] at hj2
      rw [upd_other _ _ e2]
      simp at hg
      subst hg
      exact hdis j2 b2 hj2
    · rw [upd_other _ _ e1] at hj1 hg
      by_cases e2 : j2 = i
      · subst e2
        simp
        intro hh
        exact hdis j1 b1 hj1 (by rw [hg, hh])
      · rw [upd_other _ _ e2] at hj2; rw [upd_other _ _ e2]
        exact h.dis j1 j2 b1 b2 g' hne' hj1 hj2 hg

theorem mkRes_sound {np B : Nat} (hnp : np = C.pp.length) (hB : C.w0.heap.size ≤ B) :
    ∀ (rs : List RV) (rd me : Nat → Option Blk) (pl : Nat → Plc) (vs : List Value) (gs : List Nat) (nx nx' : Nat) (cs : List Cmp) (wn : List (Nat × Blk)),
      mkRes rd np rs nx = some (cs, wn, nx') → (∀ i ∈ wn.map (·.1), me i = rd i) → Inv C tm me pl S a w → ResG S w B rs vs gs → gs.Nodup → (∀ i b g, me i = some b → (pl i).g = some g → g ∉ gs) →
      ∃ pl', Inv C tm (laid wn me) pl' S a w ∧ Keeps S w me pl S w (laid wn me) pl' ∧ CmpsG S w (laid wn me) pl' cs vs
  | [], rd, me, pl, vs, gs, nx, nx', cs, wn, h, _, hI, hr, _, _ => by
    simp only [mkRes, Option.some.injEq, Prod.mk.injEq] at h
    obtain ⟨rfl, rfl, rfl⟩ := h
    exact ⟨pl, by rw [laid_nil]; exact hI, by rw [laid_nil]; exact Keeps.refl, hr.1⟩
  | .val k x :: rs, rd, me, pl, vs, gs, nx, nx', cs, wn, h, hacc, hI, hr, hnd, hd => by
    obtain ⟨v, vs', rfl, hv, hr2⟩ := hr
    simp only [mkRes] at h
    split at h <;> try (cases h; done)
    rename_i cs2 wn2 nx2 hrest
    simp only [Option.some.injEq, Prod.mk.injEq] at h
    obtain ⟨rfl, rfl, rfl⟩ := h
    obtain ⟨pl', h1, h2, h3⟩ := mkRes_sound hnp hB rs rd me pl vs' gs nx nx2 cs2 wn2 hrest hacc hI hr2 hnd hd
    exact ⟨pl', h1, h2, v, vs', rfl, hv, h3⟩
  | .own e l :: rs, rd, me, pl, vs, gs, nx, nx', cs, wn, h, hacc, hI, hr, hnd, hd => by
    obtain ⟨v, vs', rfl, hr2⟩ := hr
    simp only [mkRes] at h
    split at h <;> try (cases h; done)
    rename_i cs2 wn2 nx2 hfr hrest
    simp only [Option.some.injEq, Prod.mk.injEq] at h
    obtain ⟨rfl, rfl, rfl⟩ := h
    obtain ⟨hfr1, hfr2⟩ := fresh_spec hfr
    have hmn : me nx = none := by rw [hacc nx (by simp)]; exact hfr1
    have hagree : ∀ i ∈ wn2.map (·.1), upd me nx (some (.row e l 0 false)) i = laid [(nx, .row e l 0 false)] rd i := fun i hi => by
      rw [laid_cons, laid_nil]
      by_cases e1 : i = nx
      · subst e1; simp
      · rw [upd_other _ _ e1, upd_other _ _ e1]; exact hacc i (by simp at hi ⊢; exact .inl hi)
    have hlaid : laid (wn2 ++ [(nx, .row e l 0 false)]) me = laid wn2 (upd me nx (some (.row e l 0 false))) := by
      rw [laid_append, laid_cons, laid_nil]
    rw [hlaid]
    rcases hr2 with ⟨rfl, rfl, hr3⟩ | ⟨g, gs', cap, c, t, rfl, rfl, hBg, hnS, hc, h1, h2, h3, h4, hr3⟩
    · have hI1 := hI.nilrow e hmn
      have hK1 : Keeps S w me pl S w (upd me nx (some (.row e [] 0 false))) (upd pl nx ⟨none, 0, 0⟩) :=
        ⟨fun _ hb => ⟨hb, rfl⟩, fun j b' hj => by
          have e1 : j ≠ nx := fun e => by subst e; rw [hmn] at hj; cases hj
          exact ⟨b', by rw [upd_other _ _ e1]; exact hj, by rw [upd_other _ _ e1]; exact Compat.refl _ _⟩⟩
      obtain ⟨pl', g1, g2, g3⟩ := mkRes_sound hnp hB rs _ _ _ vs' gs (nx + 1) nx2 cs2 wn2 hrest hagree hI1 hr3 hnd (fun i b g hi hg => by
        by_cases e1 : i = nx
        · subst e1; simp at hg
        · rw [upd_other _ _ e1] at hi hg; exact hd i b g hi hg)
      exact ⟨pl', g1, hK1.trans g2, _, vs', rfl, CmpG.keeps g2 (c := .own nx 0) ⟨e, [], 0, false, upd_same _ _ _, Nat.le_refl _, fun _ => .inl ⟨by simp, rfl⟩⟩, g3⟩
    · have hI1 := hI.adopt hmn (by omega) hnS (by omega) (fun j b hj hh => hd j b g hj hh (by simp)) hc h1 h2 h3 h4
      have hK1 : Keeps S w me pl S w (upd me nx (some (.row e l 0 false))) (upd pl nx ⟨some g, 0, cap⟩) :=
        ⟨fun _ hb => ⟨hb, rfl⟩, fun j b' hj => by
          have e1 : j ≠ nx := fun e => by subst e; rw [hmn] at hj; cases hj
          exact ⟨b', by rw [upd_other _ _ e1]; exact hj, by rw [upd_other _ _ e1]; exact Compat.refl _ _⟩⟩
      have hnd' := List.nodup_cons.1 hnd
      obtain ⟨pl', g1, g2, g3⟩ := mkRes_sound hnp hB rs _ _ _ vs' gs' (nx + 1) nx2 cs2 wn2 hrest hagree hI1 hr3 hnd'.2 (fun i b g' hi hg => by
        by_cases e1 : i = nx
        · subst e1; simp at hg; subst hg; exact hnd'.1
        · rw [upd_other _ _ e1] at hi hg
          intro hh
          exact hd i b g' hi hg (by simp [hh]))
      exact ⟨pl', g1, hK1.trans g2, _, vs', rfl, CmpG.keeps g2 (c := .own nx 0) ⟨e, l, 0, false, upd_same _ _ _, Nat.le_refl _, fun _ => .inr ⟨g, by simp, by simp⟩⟩, g3⟩

theorem CmpsG.len : ∀ {cs : List Cmp} {vs : List Value}, CmpsG S w me pl cs vs → vs.length = cs.length
  | [], _, h => by simp only [CmpsG] at h; simp [h]
  | _ :: _, _, ⟨v, vs', e, _, h2⟩ => by simp [e, CmpsG.len h2]
theorem resSV_sound {cs : List Cmp} {vs : List Value} (h : CmpsG S w me pl cs vs) : G S w me pl (resSV cs) (packV vs) := by
  have hl := h.len
  unfold resSV
  split
  · obtain ⟨v, vs', rfl, hc, h2⟩ := h
    simp only [CmpsG] at h2; subst h2
    exact hc
  · obtain ⟨v, vs', rfl, hc, h2⟩ := h
    simp only [CmpsG] at h2; subst h2
    exact hc
  · trivial
  · rename_i l n1 n2 n3
    refine ⟨vs, ?_, h⟩
    unfold packV
    split
    · rename_i v
      exfalso
      cases cs with
      | nil => simp at hl
      | cons c cs =>
        cases cs with
        | nil => cases c with
          | val k x => exact n1 _ _ rfl
          | own j v => exact n2 _ _ rfl
          | junk => exact n3 rfl
        | cons _ _ => simp at hl
    · rfl
end
end Go.PG
