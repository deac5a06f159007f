/- A part of the proofs over this seat (own work; the framework that reads a Go function as a pure one, or a use of it). No condition of its own. -/
import Derived.Test.YtckdjafnemoloaaPGK
import Derived.Laws.MakeOwn
set_option linter.unusedVariables false
set_option linter.unusedSimpArgs false
namespace Go.PG
section
variable {C : Ctx} {tm : Nat → SV} {me : Nat → Option Blk} {pl : Nat → Plc} {S : Nat → Prop} {a : Act} {w : World} {P : Program} {T : Tab}

theorem aArrPtr_sound (hT : TabOK P T) {rd : Nat → Option Blk} {t : TypeId} {sv : SV} {nx : Nat} {r : ARes} {v : Value} (h : aArrPtr T rd t sv nx = some r) (hok : r.ok = true) (hacc : ∀ i ∈ r.acc, me i = rd i)
    (hG : G S w me pl sv v) : ∃ u, (Instr.arrayAt t v).run P w = .ok u w ∧ r.wr = [] ∧ G S w me pl r.sv u := by
  unfold aArrPtr at h
  split at h <;> try (cases h; done)
  · rename_i n e e' l hkt
    split at h <;> try (cases h; done)
    rename_i hs
    simp only [Bool.and_eq_true] at hs
    simp only [Option.some.injEq] at h
    subst h
    have es := same_of hs.1
    subst es
    have hn : 0 < n := by simpa [Nat.blt_eq] using hs.2
    have hle : n ≤ List.length l := by have := of_decide_eq_true hok; omega
    obtain ⟨d, e1, e2⟩ := agg_of hT hkt
    have hdo : ∃ et, P.underlying t = some (.array n et) := by
      obtain ⟨dd, h1, h2, h3⟩ := tkd_some hT hkt
      have h4 := (h3.kd _ h2).2
      have h5 := h3.und
      cases hdd : dd.desc <;> simp [hdd, descOK] at h4
      · rw [hdd] at h5; exact ⟨_, by rw [h5, h4.1]⟩
      · rename_i fs; cases hfs : fs.toList <;> simp [hfs, fieldsOK] at h4
    obtain ⟨et, hu⟩ := hdo
    rcases VRd.sl.1 hG with ⟨rfl, hl⟩ | ⟨g, off, cap, c, ty, fr, rfl, hcap, hS, hc, hr⟩
    · subst hl; simp at hle; omega
    · refine ⟨.pointer (some ⟨g, off, none⟩), ?_, rfl, g, off, c, ty, fr, rfl, hS, hc, by simp; omega, ?_⟩
      · simp [Instr.arrayAt, run_underlying hu]
        intro h; omega
      · have := RdL.window (Rd.length e) hr 0 n
        rw [Nat.zero_mul, List.drop_zero, List.drop_zero, List.take_take, Nat.min_eq_left (Nat.mul_le_mul_right _ hle)] at this
        exact this
  · rename_i n e b p lo m hkt
    split at h <;> try (cases h; done)
    rename_i kb y sh hrd
    split at h <;> try (cases h; done)
    rename_i o' m' e' hoff'
    split at h <;> try (cases h; done)
    rename_i hs
    simp only [Bool.and_eq_true] at hs
    simp only [Option.some.injEq] at h
    subst h
    have es := same_of hs.1
    subst es
    have hn : 0 < n := by simpa [Nat.blt_eq] using hs.2
    have hle : n ≤ m := by have := of_decide_eq_true hok; omega
    have hdo : ∃ et, P.underlying t = some (.array n et) := by
      obtain ⟨dd, h1, h2, h3⟩ := tkd_some hT hkt
      have h4 := (h3.kd _ h2).2
      have h5 := h3.und
      cases hdd : dd.desc <;> simp [hdd, descOK] at h4
      · rw [hdd] at h5; exact ⟨_, by rw [h5, h4.1]⟩
      · rename_i fs; cases hfs : fs.toList <;> simp [hfs, fieldsOK] at h4
    obtain ⟨et, hu⟩ := hdo
    have hm : me b = some (.var kb y sh) := by rw [hacc b (by simp)]; exact hrd
    obtain ⟨kb', x, sh', o, m2, e2, hm', hok', hoff, hln, hgs, hwin⟩ := hG
    rw [hm] at hm'
    cases hm'
    rw [hoff'] at hoff
    cases hoff
    rcases hwin with ⟨hg, rfl, hn0⟩ | ⟨g, oo, cap, hg, rfl, hcap, ho⟩
    · omega
    · have ho' : oo = (pl b).off + o' + lo * e.size := by rcases ho with h0 | h0; (exfalso; omega); exact h0
      subst ho'
      refine ⟨_, ?_, rfl, kb, y, sh, o', m', e, g, hm, hok', hoff', by omega, hg, rfl⟩
      simp [Instr.arrayAt, run_underlying hu]
      intro h; omega

/-- What is read of a slice now. -/
theorem rdSl_sound {rd : Nat → Option Blk} {sv : SV} {e : Kd} {xs : List e.T} {acc : List Nat} {v : Value} (h : rdSl rd sv = some ⟨e, xs, acc⟩) (hacc : ∀ i ∈ acc, me i = rd i)
    (hI : Inv C tm me pl S a w) (hG : G S w me pl sv v) : RdSl (Rd S w e) (fun _ => True) w e.size xs v := by
  cases sv <;> simp only [rdSl] at h <;> try (cases h; done)
  case val k x =>
    cases k <;> simp only [reduceCtorEq] at h
    simp only [Option.some.injEq] at h
    cases h
    exact RdSl.mono (fun b _ => ⟨trivial, rfl⟩) (fun _ _ h => h) (VRd.sl.1 hG)
  case own j ver =>
    split at h <;> try (cases h; done)
    rename_i e' l ver' sh hrd
    split at h <;> try (cases h; done)
    rename_i hver
    simp only [Option.some.injEq] at h
    cases h
    have hm : me j = some (.row e xs ver' sh) := by rw [hacc j (by simp)]; exact hrd
    obtain ⟨e', l', ver2, sh', hm', hle, hh⟩ := hG
    rw [hm] at hm'
    cases hm'
    rcases hh (Nat.eq_of_beq_eq_true hver).symm with ⟨hg, rfl⟩ | ⟨g, hg, rfl⟩
    · rcases hI.mem j _ hm with ⟨_, hl, _⟩ | ⟨g, c, t, hg', _⟩
      · exact .inl ⟨rfl, hl⟩
      · rw [hg] at hg'; cases hg'
    · rcases hI.mem j _ hm with ⟨hg', hl, _⟩ | ⟨g', c, t, hg', h4, h5, h6, h7, h8, h9, h10⟩
      · rw [hg] at hg'; cases hg'
      · rw [hg] at hg'
        cases hg'
        exact .inr ⟨g, 0, _, c, t, _, rfl, h6, trivial, h5, by simpa using h9⟩
  case win j ver lo n =>
    split at h <;> try (cases h; done)
    rename_i e' l ver' sh hrd
    split at h <;> try (cases h; done)
    rename_i hver
    simp only [Option.some.injEq] at h
    cases h
    have hm : me j = some (.row e l ver' sh) := by rw [hacc j (by simp)]; exact hrd
    obtain ⟨e', l', ver2, sh', hm', hle, hh⟩ := hG
    rw [hm] at hm'
    cases hm'
    obtain ⟨hlen, hwin⟩ := hh (Nat.eq_of_beq_eq_true hver).symm
    have hll : (List.take n (List.drop lo l)).length = n := by simp; omega
    rcases hwin with ⟨hg, rfl, hn0⟩ | ⟨g, o, cap, hg, rfl, hcap, ho⟩
    · subst hn0; exact .inl ⟨rfl, by simp⟩
    · rcases hI.mem j _ hm with ⟨hg', hl, _⟩ | ⟨g', c, t, hg', h4, h5, h6, h7, h8, h9, h10⟩
      · rw [hg] at hg'; cases hg'
      · rw [hg] at hg'
        cases hg'
        refine .inr ⟨g, o, cap, c, t, _, by rw [hll], by rw [hll]; exact hcap, trivial, h5, ?_⟩
        rw [hll]
        rcases ho with rfl | rfl
        · simp [RdL]
        · have := RdL.window (Rd.length e) h9 lo n
          rw [Nat.zero_add]
          rw [List.drop_take, List.take_take] at this
          rwa [Nat.min_eq_left (by rw [← Nat.mul_sub_right_distrib]; exact Nat.mul_le_mul_right _ (by omega))] at this
  case asl b p lo n =>
    split at h <;> try (cases h; done)
    rename_i kb x sh hrd
    split at h <;> try (cases h; done)
    rename_i m e' l hget
    simp only [Option.some.injEq] at h
    cases h
    have hm : me b = some (.var kb x sh) := by rw [hacc b (by simp)]; exact hrd
    obtain ⟨kb', x', sh', o, m', e', hm', hok, hoff, hln, hgs, hwin⟩ := hG
    rw [hm] at hm'
    cases hm'
    obtain ⟨ek, g, c, t, c1, c2, c3, hg, hc, hsz, hseg, hl1, hr2, _⟩ := hI.atPath hm hok hoff hget
    cases ek
    obtain ⟨hlm, hrl⟩ := hr2
    have hll : (List.take n (List.drop lo l)).length = n := by simp; omega
    rcases hwin with ⟨hg', rfl, hn0⟩ | ⟨g', o', cap, hg', rfl, hcap, ho⟩
    · subst hn0; exact .inl ⟨rfl, by simp⟩
    · rw [hg] at hg'
      cases hg'
      refine .inr ⟨g, o', cap, c, t, _, by rw [hll], by rw [hll]; exact hcap, trivial, hc, ?_⟩
      rw [hll]
      rcases ho with rfl | rfl
      · simp [RdL]
      · have h9 := RdL.window (Rd.length e) hrl lo n
        have hc2 := RdL.length (Rd.length e) hrl
        rw [← hl1, seg_sub hseg (lo * e.size) (n * e.size) (by rw [hc2, ← Nat.add_mul]; exact Nat.mul_le_mul_right _ (by omega))]
        exact h9

theorem RdSl.len {α : Type} {R : α → List Value → Prop} {S : Nat → Prop} {sz : Nat} {xs : List α} {v : Value} (h : RdSl R S w sz xs v) : (Builtin.lenOf v).run P w = .ok xs.length w := by
  rcases h with ⟨rfl, rfl⟩ | ⟨g, off, cap, c, t, fr, rfl, _⟩ <;> simp [Builtin.lenOf]

/-- The first n elements' cells. -/
theorem RdSl.first {α : Type} {R : α → List Value → Prop} {S : Nat → Prop} {sz : Nat} (hn : ∀ x cs, R x cs → cs.length = sz) {xs : List α} {v : Value} (h : RdSl R S w sz xs v) {n : Nat} (hle : n ≤ xs.length) :
    ∃ cs, (Builtin.firstCells sz n v).run P w = .ok cs.toArray w ∧ RdL R (xs.take n) cs := by
  rcases h with ⟨rfl, rfl⟩ | ⟨g, off, cap, c, t, fr, rfl, hcap, _, hc, hr⟩
  · exact ⟨[], by simp [Builtin.firstCells], by simp [RdL]⟩
  · have hw := RdL.window hn hr 0 n
    rw [Nat.zero_mul, List.drop_zero, List.drop_zero, List.take_take, Nat.min_eq_left (Nat.mul_le_mul_right _ hle)] at hw
    refine ⟨_, run_firstCells_some (P := P) w sz n ⟨g, off, none⟩ xs.length cap _ ?_ ?_, hw⟩
    · have := RdL.length hn hw
      have e2 : (xs.take n).length = n := by simp; omega
      rw [e2] at this
      exact this
    · intro j u hj
      rw [add_eq, cell_of_row w g (off + j) c t fr hc]
      exact seg_get rfl j u hj

theorem RdL.one {S : Nat → Prop} {e : Kd} {xs : List e.T} {cs : List Value} (h : RdL (Rd S w e) xs cs) : ∀ v ∈ cs, v.oneCell' = true := RdL.all (Rd.one e) h

theorem RdL.take_drop {α : Type} {R : α → List Value → Prop} {sz : Nat} (hn : ∀ x cs, R x cs → cs.length = sz) {l : List α} {cs : List Value} (h : RdL R l cs) (n : Nat) :
    RdL R (l.take n) (cs.take (n * sz)) ∧ RdL R (l.drop n) (cs.drop (n * sz)) := by
  have h1 := RdL.window hn h 0 n
  have h2 := RdL.window hn h n l.length
  rw [Nat.zero_mul, List.drop_zero, List.drop_zero] at h1
  refine ⟨h1, ?_⟩
  have hl := RdL.length hn h
  rw [List.take_of_length_le (by simp), List.take_of_length_le (by simp; rw [hl]; omega)] at h2
  exact h2

/-- Cells laid over a row's: the elements laid over. -/
theorem RdL.lay {α : Type} {R : α → List Value → Prop} {sz : Nat} (hn : ∀ x cs, R x cs → cs.length = sz) {l ys : List α} {cs ds : List Value} (h : RdL R l cs) (hy : RdL R ys ds) (lo : Nat) :
    RdL R (lay l lo ys) (cs.take (lo * sz) ++ ds ++ cs.drop (lo * sz + ds.length)) := by
  unfold PG.lay
  have h1 := (RdL.take_drop hn h lo).1
  have h2 := (RdL.take_drop hn h (lo + ys.length)).2
  have hd := RdL.length hn hy
  rw [hd, ← Nat.add_mul]
  exact RdL.append (RdL.append h1 hy) h2
theorem lay_length {α : Type} {l ys : List α} {lo : Nat} (h : lo + ys.length ≤ l.length) : (lay l lo ys).length = l.length := by
  unfold lay; simp; omega
end
end Go.PG
