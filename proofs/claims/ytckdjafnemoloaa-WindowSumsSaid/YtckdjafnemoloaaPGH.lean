/- A part of the proofs over this seat (own work; the framework that reads a Go function as a pure one, or a use of it). No condition of its own. -/
import Derived.Test.YtckdjafnemoloaaPGG
set_option linter.unusedVariables false
set_option linter.unusedSimpArgs false
namespace Go.PG
section
variable {C : Ctx} {tm : Nat → SV} {me : Nat → Option Blk} {pl : Nat → Plc} {S : Nat → Prop} {a : Act} {w : World} {P : Program} {T : Tab}

theorem run_sureAddr (b : Addr) : (Instr.sureAddr (.pointer (some b))).run P w = .ok b w := rfl

theorem aLoad_sound (hT : TabOK P T) {rd : Nat → Option Blk} {t : TypeId} {sv : SV} {nx : Nat} {r : ARes} {v : Value} (h : aLoad T rd t sv nx = some r) (hacc : ∀ i ∈ r.acc, me i = rd i)
    (hI : Inv C tm me pl S a w) (hG : G S w me pl sv v) : ∃ u, (Instr.loadAt t v).run P w = .ok u w ∧ r.wr = [] ∧ G S w me pl r.sv u := by
  unfold aLoad at h
  split at h
  · cases h
  rename_i kt hkt
  cases sv <;> simp only [reduceCtorEq] at h
  case ptr b p k =>
    split at h <;> try (cases h; done)
    rename_i kb y sh hsame hrd
    split at h <;> try (cases h; done)
    rename_i k' z hget
    split at h <;> try (cases h; done)
    rename_i hsame2
    simp only [Option.some.injEq] at h
    subst h
    have e1 := same_of hsame
    have e2 := same_of hsame2
    subst e1 e2
    have hm : me b = some (.var kb y sh) := by rw [hacc b (by simp)]; exact hrd
    obtain ⟨kb', x, sh', o, g, hm', hok, hoff, hg, rfl⟩ := hG
    rw [hm] at hm'
    cases hm'
    obtain ⟨_, g', c, ty, c1, c2, c3, hg', hc, hsz, hseg, hl1, hr2, _⟩ := hI.atPath hm hok hoff hget
    rw [hg] at hg'
    cases hg'
    refine ⟨_, ?_, rfl, ⟨c2, hr2, rfl⟩⟩
    simp only [Instr.loadAt, Sem.run_bind, run_sureAddr, Result.andThen_ok]
    exact run_loadVar hT hkt hc (by subst hl1; exact seg_mid hseg) hr2
  case pval k z =>
    split at h <;> try (cases h; done)
    rename_i hsame
    simp only [ok1, Option.some.injEq] at h
    subst h
    have e1 := same_of hsame
    subst e1
    obtain ⟨g, off, c, ty, fr, rfl, hS, hc, hr⟩ := hG
    refine ⟨_, ?_, rfl, ⟨_, hr, rfl⟩⟩
    simp only [Instr.loadAt, Sem.run_bind, run_sureAddr, Result.andThen_ok]
    exact run_loadVar hT hkt hc (seg_get rfl) hr
  case rptr j ver i p k =>
    split at h <;> try (cases h; done)
    rename_i e l ver' sh hsame hrd
    split at h <;> try (cases h; done)
    rename_i k' z hver hget
    split at h <;> try (cases h; done)
    rename_i hsame2
    simp only [Option.some.injEq] at h
    subst h
    have e1 := same_of hsame
    have e2 := same_of hsame2
    subst e1 e2
    have hm : me j = some (.row e l ver' sh) := by rw [hacc j (by simp)]; exact hrd
    obtain ⟨e', l', ver2, sh', hm', hle, hh⟩ := hG
    rw [hm] at hm'
    cases hm'
    obtain ⟨hi, hok, o, g, hoff, hg, rfl⟩ := hh (Nat.eq_of_beq_eq_true hver).symm
    obtain ⟨_, g', c, ty, c1, c2, c3, hg', hc, hsz, _, _, _, hseg, hl1, hr2, _⟩ := hI.atRow hm hi hok hoff hget
    rw [hg] at hg'
    cases hg'
    refine ⟨_, ?_, rfl, ⟨c2, hr2, rfl⟩⟩
    simp only [Instr.loadAt, Sem.run_bind, run_sureAddr, Result.andThen_ok]
    refine run_loadVar hT hkt hc (fun q u hq => ?_) hr2
    have := seg_mid (c := c) (off := 0) (n := l.length * e.size) (c1 := c1) (c2 := c2) (c3 := c3) (by simpa using hseg) q u hq
    rw [← this, ← hl1]; congr 1; omega
  case pwin b p lo n =>
    split at h <;> try (cases h; done)
    rename_i kb y sh hrd
    split at h <;> try (cases h; done)
    rename_i m e l hget
    split at h <;> try (cases h; done)
    rename_i hsame
    simp only [Option.some.injEq] at h
    subst h
    have e1 := same_of hsame
    subst e1
    have hm : me b = some (.var kb y sh) := by rw [hacc b (by simp)]; exact hrd
    obtain ⟨kb', x, sh', o, m', e', g, hm', hok, hoff, hln, hg, rfl⟩ := hG
    rw [hm] at hm'
    cases hm'
    obtain ⟨ek, g', c, ty, c1, c2, c3, hg', hc, hsz, hseg, hl1, hr2, _⟩ := hI.atPath hm hok hoff hget
    rw [hg] at hg'
    cases hg'
    cases ek
    obtain ⟨hlm, hrl⟩ := hr2
    have hwin := RdL.window (Rd.length e) hrl lo n
    have hc2 := RdL.length (Rd.length e) hrl
    have hfit : lo * e.size + n * e.size ≤ c2.length := by rw [hc2, ← Nat.add_mul]; exact Nat.mul_le_mul_right _ (by omega)
    have hrd2 : Rd S w (.arr n e) (List.take n (List.drop lo l)) ((c2.drop (lo * e.size)).take (n * e.size)) := ⟨by simp; omega, hwin⟩
    refine ⟨_, ?_, rfl, ⟨_, hrd2, rfl⟩⟩
    simp only [Instr.loadAt, Sem.run_bind, run_sureAddr, Result.andThen_ok]
    refine run_loadVar hT hkt hc (seg_get (n := n * e.size) ?_) hrd2
    exact (by subst hl1; exact seg_sub hseg (lo * e.size) (n * e.size) hfit)

theorem toVal_wr {np : Nat} {rd : Nat → Option Blk} {sv : SV} {k : Kd} {y : k.T} {wr : List (Nat × Blk)} {acc : List Nat} (h : toVal np rd sv k = some (y, wr, acc)) :
    (wr = [] ∧ acc = []) ∨ ∃ i b b', wr = [(i, b)] ∧ acc = [i] ∧ rd i = some b' ∧ Nat.blt i np = false := by
  cases sv <;> simp only [toVal] at h <;> try (cases h; done)
  case nil =>
    cases k <;> simp only [reduceCtorEq] at h
    simp only [Option.some.injEq, Prod.mk.injEq] at h
    obtain ⟨_, rfl, rfl⟩ := h
    exact .inl ⟨rfl, rfl⟩
  case val =>
    split at h <;> try (cases h; done)
    simp only [Option.some.injEq, Prod.mk.injEq] at h
    obtain ⟨_, rfl, rfl⟩ := h
    exact .inl ⟨rfl, rfl⟩
  case own =>
    split at h <;> try (cases h; done)
    split at h <;> try (cases h; done)
    simp only [Option.some.injEq, Prod.mk.injEq] at h
    obtain ⟨_, rfl, rfl⟩ := h
    exact .inr ⟨_, _, _, rfl, rfl, by assumption, by assumption⟩
  case win =>
    split at h <;> try (cases h; done)
    split at h <;> try (cases h; done)
    simp only [Option.some.injEq, Prod.mk.injEq] at h
    obtain ⟨_, rfl, rfl⟩ := h
    exact .inr ⟨_, _, _, rfl, rfl, by assumption, by assumption⟩
  case asl =>
    split at h <;> try (cases h; done)
    split at h <;> try (cases h; done)
    split at h <;> try (cases h; done)
    simp only [Option.some.injEq, Prod.mk.injEq] at h
    obtain ⟨_, rfl, rfl⟩ := h
    exact .inr ⟨_, _, _, rfl, rfl, by assumption, by assumption⟩

theorem run_storeAt_ptr (hT : TabOK P T) {t : TypeId} {k : Kd} {y : k.T} {v : Value} (hkt : tkd T t = some k) {g off : Nat} {c : Array Value} {ty : TypeId} (hc : w.heap[g]? = some (.cells c ty (0, 0)))
    {cs : List Value} (hr : Rd S w k y cs) (hv : v = k.mkV cs) (hfit : off + k.size ≤ c.size) :
    (Instr.storeAt t (.pointer (some ⟨g, off, none⟩)) v).run P w = .ok () (w.setRow g (c.toList.take off ++ cs ++ c.toList.drop (off + cs.length)).toArray) := by
  subst hv
  simp only [Instr.storeAt, Sem.run_bind, run_sureAddr, Result.andThen_ok]
  exact run_storeVar hT hkt hc hr hfit

theorem aStore_sound (hT : TabOK P T) {np : Nat} (hnp : np = C.pp.length) {rd : Nat → Option Blk} {t : TypeId} {x v : SV} {nx : Nat} {r : ARes} {vx vv : Value} (h : aStore T np rd t x v nx = some r) (hacc : ∀ i ∈ r.acc, me i = rd i)
    (hI : Inv C tm me pl S a w) (hGx : G S w me pl x vx) (hGv : G S w me pl v vv) : ∃ w', (Instr.storeAt t vx vv).run P w = .ok () w' ∧ After C tm me r.sv r.wr a undef w' := by
  unfold aStore at h
  split at h
  · cases h
  rename_i kt hkt
  split at h
  · cases h
  rename_i y wr acc hval
  cases x <;> simp only [reduceCtorEq] at h
  case ptr b p k =>
    obtain ⟨kb', x0, sh0, o, g, hm0, hok, hoff, hg, rfl⟩ := hGx
    split at h
    · rename_i kb z hsame hrd
      split at h <;> try (cases h; done)
      rename_i z' hset
      simp only [Option.some.injEq] at h
      subst h
      have e1 := same_of hsame
      subst e1
      have hm : me b = some (.var kb z false) := by rw [hacc b (by simp)]; exact hrd
      rcases toVal_wr hval with ⟨rfl, _⟩ | ⟨_, _, _, _, ha, _⟩
      · obtain ⟨S', h1, h2, cs, h3, rfl⟩ := toVal_sound hnp hval (by simp) hI hGv
        rw [laid_nil] at h1 h2
        rw [hm] at hm0
        cases hm0
        obtain ⟨g', c, ty, hg', hc, hfit, hinv⟩ := h1.storePath hm hok hoff hset h3
        rw [hg] at hg'
        cases hg'
        exact ⟨_, run_storeAt_ptr hT hkt hc h3 rfl hfit, pl, S', by rw [laid_cons, laid_nil]; exact ⟨hinv, trivial⟩⟩
      · cases ha
    · rename_i kb z i hsame hrd
      split at h <;> try (cases h; done)
      rename_i z' hib hset
      simp only [Option.some.injEq] at h
      subst h
      have e1 := same_of hsame
      subst e1
      have hm : me b = some (.var kb z false) := by rw [hacc b (by simp)]; exact hrd
      obtain ⟨S', h1, h2, cs, h3, rfl⟩ := toVal_sound hnp hval (fun q hq => hacc q (by simp at hq ⊢; exact .inr hq)) hI hGv
      have hm1 : laid wr me b = some (.var kb z false) := by
        rcases toVal_wr hval with ⟨_, ha⟩ | ⟨i', bb, bb', rfl, ha, hri, _⟩
        · cases ha
        · cases ha
          have hne : b ≠ i := fun e => by subst e; simp at hib
          rw [laid_cons, upd_other _ _ hne, laid_nil]; exact hm
      rw [hm] at hm0
      cases hm0
      obtain ⟨g', c, ty, hg', hc, hfit, hinv⟩ := h1.storePath hm1 hok hoff hset h3
      rw [hg] at hg'
      cases hg'
      exact ⟨_, run_storeAt_ptr hT hkt hc h3 rfl hfit, pl, S', by rw [laid_cons]; exact ⟨hinv, trivial⟩⟩
    · cases h
  case rptr j ver i p k =>
    split at h <;> try (cases h; done)
    rename_i e l ver' hsame hrd
    split at h <;> try (cases h; done)
    rename_i z' hver hset
    simp only [Option.some.injEq] at h
    subst h
    have e1 := same_of hsame
    subst e1
    have hm : me j = some (.row e l ver' false) := by rw [hacc j (by simp)]; exact hrd
    rcases toVal_wr hval with ⟨rfl, _⟩ | ⟨_, _, _, _, ha, _⟩
    · obtain ⟨S', h1, h2, cs, h3, rfl⟩ := toVal_sound hnp hval (by simp) hI hGv
      rw [laid_nil] at h1 h2
      obtain ⟨e', l', ver2, sh', hm', hle, hh⟩ := hGx
      rw [hm] at hm'
      cases hm'
      obtain ⟨hi, hok, o, g, hoff, hg, rfl⟩ := hh (Nat.eq_of_beq_eq_true hver).symm
      obtain ⟨k', z0, hget, has⟩ := getP_of_setP hset
      have ek := as_kind has
      simp only at ek
      subst ek
      obtain ⟨_, g', c, ty, c1, c2, c3, hg', hc, hsz, _, _, _, hseg, hl1, hr2, hsh, hs⟩ := h1.atRow hm hi hok hoff hget
      rw [hg] at hg'
      cases hg'
      obtain ⟨z2, hz2, hh2⟩ := hs y
      rw [hset] at hz2
      cases hz2
      have hlc : cs.length = c2.length := by rw [Rd.length _ y cs h3, Rd.length _ z0 c2 hr2]
      have hlen : l.length * e.size = c1.length + c2.length + c3.length := by
        have := congrArg List.length hseg
        simp at this
        have hcl : c.toList.length = c.size := by simp
        omega
      have hfit : i * e.size + o + kt.size ≤ c.size := by rw [← Rd.length kt y cs h3]; omega
      refine ⟨_, run_storeAt_ptr hT hkt hc h3 rfl hfit, pl, S', ?_⟩
      rw [laid_cons, laid_nil]
      refine ⟨h1.writeRow hm hg hc (cs := cs) (lo := i * e.size + o) (by omega) (by simp) (fun w' hw' => ?_), trivial⟩
      have hcl : c.toList.length = c.size := by simp
      have hsp := splice_in (C := c.toList) (off := 0) (n := l.length * e.size) (c1 := c1) (c2 := c2) (c3 := c3) (c2' := cs) (by simpa using hseg) (by omega) hlc
      simp only [Nat.zero_add, List.take_zero, List.nil_append] at hsp
      rw [← hl1, hsp, List.take_append_of_le_length (by simp; omega), List.take_of_length_le (by simp; omega)]
      exact hh2 S' w' cs hw' (Rd.mono hw' _ y cs h3)
    · cases ha
end
end Go.PG
