/- A part of the proofs over this seat (own work; the framework that reads a Go function as a pure one, or a use of it). No condition of its own. -/
import Derived.Test.YtckdjafnemoloaaPGI
set_option linter.unusedVariables false
set_option linter.unusedSimpArgs false
namespace Go.PG
section
variable {C : Ctx} {tm : Nat → SV} {me : Nat → Option Blk} {pl : Nat → Plc} {S : Nat → Prop} {a : Act} {w : World} {P : Program} {T : Tab}

theorem tkd_sl (hT : TabOK P T) {t : TypeId} {e : Kd} {et : TypeId} (h : tkd T t = some (.sl e)) (h2 : tdesc T t = some (.slice et)) : tkd T et = some e := by
  have := tkd_desc hT h h2
  exact kdIs_some this
theorem tkd_arr (hT : TabOK P T) {t : TypeId} {e : Kd} {n m : Nat} {et : TypeId} (h : tkd T t = some (.arr m e)) (h2 : tdesc T t = some (.array n et)) : m = n ∧ tkd T et = some e := by
  have := tkd_desc hT h h2
  simp only [descOK, Bool.and_eq_true] at this
  exact ⟨(Nat.eq_of_beq_eq_true this.1).symm, kdIs_some this.2⟩
theorem kd_sl (hT : TabOK P T) {t : TypeId} {k : Kd} {et : TypeId} (h : tkd T t = some k) (h2 : tdesc T t = some (.slice et)) : ∃ e, k = .sl e := by
  have := tkd_desc hT h h2
  cases k <;> simp [descOK] at this
  exact ⟨_, rfl⟩

theorem bnd_spec {i : Int} {n : Int} (h : bnd i n = true) : 0 ≤ i ∧ i < n := by simpa [bnd] using h

theorem run_indexAt_arr (hT : TabOK P T) {t : TypeId} {e : Kd} {n m : Nat} {et : TypeId} (hk : tkd T t = some (.arr m e)) (hd : tdesc T t = some (.array n et)) {ik : IntKind} {i : Int} (hi : bnd i n = true) (g off : Nat) :
    (Instr.indexAt t (.pointer (some ⟨g, off, none⟩)) (.int ik i)).run P w = .ok (.pointer (some ⟨g, off + i.toNat * e.size, none⟩)) w := by
  have h1 := (tkd_arr hT hk hd).2
  have hz := run_sizeOf hT w h1
  have hb := bnd_spec hi
  have hu := tdesc_some hT hd
  simp [Instr.indexAt, asIntOf, run_underlying hu, run_sureAddr, hb, hz, add_eq]

theorem run_indexAt_sl (hT : TabOK P T) {t : TypeId} {e : Kd} {et : TypeId} (hk : tkd T t = some (.sl e)) (hd : tdesc T t = some (.slice et)) {ik : IntKind} {i : Int} {n cap : Nat} (hi : bnd i n = true) (g off : Nat) :
    (Instr.indexAt t (.slice (some ⟨g, off, none⟩) n cap) (.int ik i)).run P w = .ok (.pointer (some ⟨g, off + i.toNat * e.size, none⟩)) w := by
  have h1 := tkd_sl hT hk hd
  have hz := run_sizeOf hT w h1
  have hb := bnd_spec hi
  have hu := tdesc_some hT hd
  simp [Instr.indexAt, asIntOf, run_underlying hu, hb, hz, add_eq]

theorem RdL.seg {α : Type} {R : α → List Value → Prop} {sz : Nat} (hn : ∀ x cs, R x cs → cs.length = sz) {l : List α} {cs : List Value} (h : RdL R l cs) {i : Nat} (hi : i < l.length) (d : α) :
    R (l.getD i d) ((cs.drop (i * sz)).take sz) ∧ i * sz + sz ≤ cs.length := by
  obtain ⟨c1, c2, c3, e, hl, hr, _⟩ := RdL.nth hn i d h hi
  subst e
  have h2 := hn _ _ hr
  refine ⟨?_, by simp; omega⟩
  rw [← hl, List.append_assoc, List.drop_left, ← h2, List.take_left]
  exact hr

theorem aIndexAddr_sound (hT : TabOK P T) {rd : Nat → Option Blk} {t : TypeId} {sv si : SV} {nx : Nat} {r : ARes} {v vi : Value} (h : aIndexAddr T rd t sv si nx = some r) (hok : r.ok = true) (hacc : ∀ i ∈ r.acc, me i = rd i)
    (hI : Inv C tm me pl S a w) (hG : G S w me pl sv v) (hGi : G S w me pl si vi) : ∃ u, (Instr.indexAt t v vi).run P w = .ok u w ∧ r.wr = [] ∧ G S w me pl r.sv u := by
  unfold aIndexAddr at h
  split at h <;> try (cases h; done)
  rename_i ik i
  rw [VRd.int.1 hGi]
  split at h <;> try (cases h; done)
  · rename_i kt n et b p k hkt hd
    split at h <;> try (cases h; done)
    rename_i m e hsame
    simp only [Option.some.injEq] at h
    subst h
    have e1 := same_of hsame
    subst e1
    obtain ⟨kb, x, sh, o, g, hm, hok', hoff, hg, rfl⟩ := hG
    have hmn := (tkd_arr hT hkt hd).1
    have hb := bnd_spec hok
    refine ⟨_, run_indexAt_arr hT hkt hd hok _ _, rfl, kb, x, sh, o + i.toNat * e.size, g, hm, okP_append hoff hok' (by show i.toNat < m; omega), offP_append hoff rfl, hg, by rw [Nat.add_assoc]⟩
  · rename_i kt n et j ver q p k hkt hd
    split at h <;> try (cases h; done)
    rename_i m e _ _
    have hlive : live rd j ver = true := by assumption
    simp only [Option.some.injEq] at h
    subst h
    have e1 := same_of (by assumption : kt.same (.arr m e) = true)
    subst e1
    obtain ⟨e', l, sh, hrd⟩ := live_spec hlive
    have hm : me j = some (.row e' l ver sh) := by rw [hacc j (by simp)]; exact hrd
    obtain ⟨e'', l', ver', sh', hm', hle, hh⟩ := hG
    rw [hm] at hm'
    cases hm'
    obtain ⟨hi, hok', o, g, hoff, hg, rfl⟩ := hh rfl
    have hmn := (tkd_arr hT hkt hd).1
    have hb := bnd_spec hok
    exact ⟨_, run_indexAt_arr hT hkt hd hok _ _, rfl, e', l, ver, sh, hm, hle, fun _ => ⟨hi, okP_append hoff hok' (by show i.toNat < m; omega), o + i.toNat * e.size, g, offP_append hoff rfl, hg, by rw [Nat.add_assoc]⟩⟩
  · rename_i kt n et k z hkt hd
    split at h <;> try (cases h; done)
    rename_i m e l hsame heq
    simp only [Option.some.injEq] at h
    subst h
    cases heq
    have e1 := same_of hsame
    subst e1
    obtain ⟨g, off, c, ty, fr, rfl, hS, hc, hlm, hr⟩ := hG
    have hmn := (tkd_arr hT hkt hd).1
    have hb := bnd_spec hok
    obtain ⟨h1, h2⟩ := RdL.seg (Rd.length e) hr (i := i.toNat) (by omega) e.zero
    have hlen : ((c.toList.drop off).take (Kd.arr m e).size).length ≤ m * e.size := by simp [Kd.size]; omega
    refine ⟨_, run_indexAt_arr hT hkt hd hok _ _, rfl, g, _, c, ty, fr, rfl, hS, hc, ?_⟩
    rw [List.drop_take, List.drop_drop, List.take_take, Nat.min_eq_left (by simp [Kd.size]; omega)] at h1
    exact h1
  · rename_i kt et k z hkt hd
    split at h <;> try (cases h; done)
    rename_i e l hsame heq
    simp only [Option.some.injEq] at h
    subst h
    cases heq
    have e1 := same_of hsame
    subst e1
    have hb := bnd_spec hok
    rcases VRd.sl.1 hG with ⟨rfl, hl⟩ | ⟨g, off, cap, c, ty, fr, rfl, hcap, hS, hc, hr⟩
    · subst hl; simp at hb; omega
    · obtain ⟨h1, h2⟩ := RdL.seg (Rd.length e) hr (i := i.toNat) (by omega) e.zero
      have hlc : ((c.toList.drop off).take (List.length l * e.size)).length ≤ List.length l * e.size := by simp; omega
      refine ⟨_, run_indexAt_sl hT hkt hd hok _ _, rfl, g, _, c, ty, fr, rfl, hS, hc, ?_⟩
      rw [List.drop_take, List.drop_drop, List.take_take, Nat.min_eq_left (by omega)] at h1
      exact h1
  · rename_i kt et j ver hkt hd
    split at h <;> try (cases h; done)
    rename_i e l ver' sh hrd
    split at h <;> try (cases h; done)
    rename_i hver hsame
    simp only [Option.some.injEq] at h
    subst h
    have e1 := same_of hsame
    subst e1
    have hm : me j = some (.row e l ver' sh) := by rw [hacc j (by simp)]; exact hrd
    obtain ⟨e', l', ver2, sh', hm', hle, hh⟩ := hG
    rw [hm] at hm'
    cases hm'
    have hb := bnd_spec hok
    rcases hh (Nat.eq_of_beq_eq_true hver).symm with ⟨hg, rfl⟩ | ⟨g, hg, rfl⟩
    · rcases hI.mem j _ hm with ⟨_, hl, _⟩ | ⟨g, c, t, hg', _⟩
      · subst hl; simp at hb; omega
      · rw [hg] at hg'; cases hg'
    · exact ⟨_, run_indexAt_sl hT hkt hd hok _ _, rfl, e, l, ver', sh, hm, hle, fun _ => ⟨by omega, trivial, 0, g, rfl, hg, by simp⟩⟩
  · rename_i kt et j ver lo n hkt hd
    split at h <;> try (cases h; done)
    rename_i e l ver' sh hrd
    split at h <;> try (cases h; done)
    rename_i hver hsame
    simp only [Option.some.injEq] at h
    subst h
    have e1 := same_of hsame
    subst e1
    have hm : me j = some (.row e l ver' sh) := by rw [hacc j (by simp)]; exact hrd
    obtain ⟨e', l', ver2, sh', hm', hle, hh⟩ := hG
    rw [hm] at hm'
    cases hm'
    have hb := bnd_spec hok
    obtain ⟨hln, hwin⟩ := hh (Nat.eq_of_beq_eq_true hver).symm
    rcases hwin with ⟨hg, rfl, hn0⟩ | ⟨g, o, cap, hg, rfl, hcap, ho⟩
    · omega
    · have ho' : o = 0 + lo * e.size := by rcases ho with h0 | h0; (exfalso; omega); exact h0
      subst ho'
      exact ⟨_, run_indexAt_sl hT hkt hd hok _ _, rfl, e, l, ver', sh, hm, hle, fun _ => ⟨by omega, trivial, 0, g, rfl, hg, by rw [Nat.add_mul]; simp⟩⟩
  · rename_i kt et b p lo n hkt hd
    split at h <;> try (cases h; done)
    rename_i kb y sh hrd
    split at h <;> try (cases h; done)
    rename_i o' m e hoff'
    split at h <;> try (cases h; done)
    rename_i hsame
    simp only [Option.some.injEq] at h
    subst h
    have e1 := same_of hsame
    subst e1
    have hm : me b = some (.var kb y sh) := by rw [hacc b (by simp)]; exact hrd
    obtain ⟨kb', x, sh', o, m', e', hm', hok', hoff, hln, hgs, hwin⟩ := hG
    rw [hm] at hm'
    cases hm'
    rw [hoff'] at hoff
    cases hoff
    have hb := bnd_spec hok
    rcases hwin with ⟨hg, rfl, hn0⟩ | ⟨g, oo, cap, hg, rfl, hcap, ho⟩
    · omega
    · have ho' : oo = (pl b).off + o' + lo * e.size := by rcases ho with h0 | h0; (exfalso; omega); exact h0
      subst ho'
      refine ⟨_, run_indexAt_sl hT hkt hd hok _ _, rfl, kb, y, sh, o' + (lo + i.toNat) * e.size, g, hm, okP_append hoff' hok' (by show lo + i.toNat < m; omega), offP_append hoff' rfl, hg, by rw [Nat.add_mul]; simp; omega⟩

theorem aIndex_sound (hT : TabOK P T) {t : TypeId} {sv si : SV} {nx : Nat} {r : ARes} {v vi : Value} (h : aIndex T t sv si nx = some r) (hok : r.ok = true)
    (hG : G S w me pl sv v) (hGi : G S w me pl si vi) : ∃ u, (Instr.index t v vi).run P w = .ok u w ∧ r.wr = [] ∧ G S w me pl r.sv u := by
  unfold aIndex at h
  split at h <;> try (cases h; done)
  rename_i ik i
  rw [VRd.int.1 hGi]
  split at h <;> try (cases h; done)
  · rename_i kt n et k z hkt hd
    split at h <;> try (cases h; done)
    rename_i m e l hsame heq
    simp only [Option.some.injEq] at h
    subst h
    cases heq
    have e1 := same_of hsame
    subst e1
    obtain ⟨hmn, het⟩ := tkd_arr hT hkt hd
    have hb := bnd_spec hok
    obtain ⟨cs, ⟨hlm, hr⟩, rfl⟩ := hG
    obtain ⟨c1, c2, c3, ee, hl, hr2, _⟩ := RdL.nth (Rd.length e) i.toNat e.zero hr (by omega)
    refine ⟨_, ?_, rfl, c2, hr2, rfl⟩
    have hp := part_agg (w := w) hT (cs := cs.toArray) het (by simpa using ee) hl hr2
    have hag : (Kd.arr m e).mkV cs = .agg cs.toArray := rfl
    rw [hag]
    simp [Instr.index, asIntOf, run_underlying (tdesc_some hT hd), hb, run_sizeOf hT w het]
    exact hp
  · rename_i s hkt hd
    simp only [Option.some.injEq] at h
    subst h
    have hb := bnd_spec hok
    rw [VRd.str.1 hG]
    have hlt : i.toNat < s.size := by omega
    refine ⟨.int .u8 ((s.data.toList.getD i.toNat 0).toNat : Int), ?_, rfl, VRd.int.2 rfl⟩
    have : s[i.toNat]? = some (s.data.toList.getD i.toNat 0) := by
      have h1 : s[i.toNat]? = some s[i.toNat] := by simp [hlt]
      rw [h1]
      congr 1
      have h2 : i.toNat < s.data.toList.length := by simpa using hlt
      rw [List.getD_eq_getElem?_getD, List.getElem?_eq_getElem h2]
      rfl
    simp [Instr.index, asIntOf, run_underlying (tdesc_some hT hd), hb.1, this]

theorem aLen_sound (hT : TabOK P T) {rd : Nat → Option Blk} {t ty : TypeId} {sv : SV} {nx : Nat} {r : ARes} {v : Value} (h : aLen T rd t sv nx = some r) (hacc : ∀ i ∈ r.acc, me i = rd i)
    (hI : Inv C tm me pl S a w) (hG : G S w me pl sv v) : ∃ u, (Builtin.len_ #[t] ty #[v]).run P w = .ok u w ∧ r.wr = [] ∧ G S w me pl r.sv u := by
  unfold aLen at h
  split at h <;> try (cases h; done)
  · rename_i s hd
    simp only [ok1, Option.some.injEq] at h
    subst h
    rw [VRd.str.1 hG]
    exact ⟨_, by simp [Builtin.len_, run_underlying (tdesc_some hT hd)]; rfl, rfl, VRd.int.2 rfl⟩
  · rename_i n et hd
    simp only [ok1, Option.some.injEq] at h
    subst h
    exact ⟨_, by simp [Builtin.len_, run_underlying (tdesc_some hT hd)]; rfl, rfl, VRd.int.2 rfl⟩
  · rename_i et hd
    simp only [ok1, Option.some.injEq] at h
    subst h
    rw [show v = _ from hG]
    exact ⟨_, by simp [Builtin.len_, run_underlying (tdesc_some hT hd)]; rfl, rfl, VRd.int.2 rfl⟩
  · rename_i et e l hd
    simp only [ok1, Option.some.injEq] at h
    subst h
    rcases VRd.sl.1 hG with ⟨rfl, hl⟩ | ⟨g, off, cap, c, ty', fr, rfl, _⟩
    · subst hl
      exact ⟨_, by simp [Builtin.len_, run_underlying (tdesc_some hT hd)]; rfl, rfl, VRd.int.2 rfl⟩
    · exact ⟨_, by simp [Builtin.len_, run_underlying (tdesc_some hT hd)]; rfl, rfl, VRd.int.2 rfl⟩
  · rename_i et j ver hd
    split at h <;> try (cases h; done)
    rename_i e l ver' sh hrd
    split at h <;> try (cases h; done)
    rename_i hver
    simp only [Option.some.injEq] at h
    subst h
    have hm : me j = some (.row e l ver' sh) := by rw [hacc j (by simp)]; exact hrd
    obtain ⟨e', l', ver2, sh', hm', hle, hh⟩ := hG
    rw [hm] at hm'
    cases hm'
    rcases hh (Nat.eq_of_beq_eq_true hver).symm with ⟨hg, rfl⟩ | ⟨g, hg, rfl⟩
    · rcases hI.mem j _ hm with ⟨_, hl, _⟩ | ⟨g, c, t, hg', _⟩
      · subst hl
        exact ⟨_, by simp [Builtin.len_, run_underlying (tdesc_some hT hd)]; rfl, rfl, VRd.int.2 rfl⟩
      · rw [hg] at hg'; cases hg'
    · exact ⟨_, by simp [Builtin.len_, run_underlying (tdesc_some hT hd)]; rfl, rfl, VRd.int.2 rfl⟩
  · rename_i et j ver lo n hd
    split at h <;> try (cases h; done)
    rename_i e l ver' sh hrd
    split at h <;> try (cases h; done)
    rename_i hver
    simp only [Option.some.injEq] at h
    subst h
    have hm : me j = some (.row e l ver' sh) := by rw [hacc j (by simp)]; exact hrd
    obtain ⟨e', l', ver2, sh', hm', hle, hh⟩ := hG
    rw [hm] at hm'
    cases hm'
    obtain ⟨hln, hwin⟩ := hh (Nat.eq_of_beq_eq_true hver).symm
    rcases hwin with ⟨hg, rfl, hn0⟩ | ⟨g, o, cap, hg, rfl, hcap, ho⟩
    · subst hn0
      exact ⟨_, by simp [Builtin.len_, run_underlying (tdesc_some hT hd)]; rfl, rfl, VRd.int.2 rfl⟩
    · exact ⟨_, by simp [Builtin.len_, run_underlying (tdesc_some hT hd)]; rfl, rfl, VRd.int.2 rfl⟩
  · rename_i et b p lo n hd
    simp only [ok1, Option.some.injEq] at h
    subst h
    obtain ⟨kb', x, sh', o, m', e', hm', hok', hoff, hln, hgs, hwin⟩ := hG
    rcases hwin with ⟨hg, rfl, hn0⟩ | ⟨g, oo, cap, hg, rfl, hcap, ho⟩
    · subst hn0
      exact ⟨_, by simp [Builtin.len_, run_underlying (tdesc_some hT hd)]; rfl, rfl, VRd.int.2 rfl⟩
    · exact ⟨_, by simp [Builtin.len_, run_underlying (tdesc_some hT hd)]; rfl, rfl, VRd.int.2 rfl⟩
end
end Go.PG
