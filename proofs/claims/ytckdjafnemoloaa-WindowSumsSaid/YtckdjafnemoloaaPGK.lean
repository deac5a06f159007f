/- A part of the proofs over this seat (own work; the framework that reads a Go function as a pure one, or a use of it). No condition of its own. -/
import Derived.Test.YtckdjafnemoloaaPGJ
import Derived.Laws.CopyOwn
set_option linter.unusedVariables false
set_option linter.unusedSimpArgs false
namespace Go.PG
section
variable {C : Ctx} {tm : Nat → SV} {me : Nat → Option Blk} {pl : Nat → Plc} {S : Nat → Prop} {a : Act} {w : World} {P : Program} {T : Tab}

/-- An optional bound's value. -/
def OG (S : Nat → Prop) (w : World) (me : Nat → Option Blk) (pl : Nat → Plc) : Option SV → Option Value → Prop
  | none, v => v = none
  | some sv, v => ∃ u, v = some u ∧ G S w me pl sv u
def OV (d : Int) (o : Option Value) (x : Int) : Prop := (o = none ∧ x = d) ∨ ∃ k, o = some (.int k x)
theorem bndOf_spec {d x : Int} {o : Option SV} {v : Option Value} (h : bndOf d o = some x) (hG : OG S w me pl o v) : OV d v x := by
  unfold bndOf at h
  split at h
  · cases h; exact .inl ⟨hG, rfl⟩
  · cases h
    obtain ⟨u, rfl, hu⟩ := hG
    rw [VRd.int.1 hu]
    exact .inr ⟨_, rfl⟩
  · cases h

theorem run_sliceBound (k : IntKind) (i : Int) (y : Nat) (c : BoundsCode) (h0 : 0 ≤ i) (h1 : i ≤ y) : (Instr.sliceBound (.int k i) y c).run P w = .ok i.toNat w := by
  simp [Instr.sliceBound, asIntOf, h0, h1]

theorem run_sliceBounds {b : Bool} {len cap : Nat} {lo hi mx : Option Value} {l h m : Int} (hl : OV 0 lo l) (hh : OV len hi h) (hm : (mx = none ∧ m = cap) ∨ ((∃ k, mx = some (.int k m)) ∧ ∃ u, hi = some u))
    (h0 : 0 ≤ l) (h1 : l ≤ h) (h2 : h ≤ m) (h3 : m ≤ cap) : (Instr.sliceBounds b len cap lo hi mx).run P w = .ok (l.toNat, h.toNat, m.toNat) w := by
  have e0 : 0 ≤ h := by omega
  have e1 : 0 ≤ m := by omega
  have em : ((m.toNat : Nat) : Int) = m := by omega
  rcases hm with ⟨rfl, rfl⟩ | ⟨⟨km, rfl⟩, u, hu⟩
  · rcases hh with ⟨rfl, rfl⟩ | ⟨kh, rfl⟩
    · rcases hl with ⟨rfl, rfl⟩ | ⟨kl, rfl⟩
      · simp [Instr.sliceBounds]
      · have := run_sliceBound (P := P) (w := w) kl l len .sliceB h0 (by simpa using h1)
        simp [Instr.sliceBounds, this]
    · have a1 := fun c => run_sliceBound (P := P) (w := w) kh h cap c e0 (by simpa using h2)
      rcases hl with ⟨rfl, rfl⟩ | ⟨kl, rfl⟩
      · simp [Instr.sliceBounds, a1]
      · have := run_sliceBound (P := P) (w := w) kl l h.toNat .sliceB h0 (by omega)
        simp [Instr.sliceBounds, a1, this]
  · rcases hh with ⟨rfl, rfl⟩ | ⟨kh, rfl⟩
    · cases hu
    · have a0 := fun c => run_sliceBound (P := P) (w := w) km m cap c e1 h3
      have a1 := fun c => run_sliceBound (P := P) (w := w) kh h m.toNat c e0 (by omega)
      rcases hl with ⟨rfl, rfl⟩ | ⟨kl, rfl⟩
      · simp [Instr.sliceBounds, a0, a1]
      · have := run_sliceBound (P := P) (w := w) kl l h.toNat .slice3C h0 (by omega)
        simp [Instr.sliceBounds, a0, a1, this]

/-- A slice of a slice. -/
theorem run_sliceAt_sl (hT : TabOK P T) {t et : TypeId} {sz : Nat} (hd : tdesc T t = some (.slice et)) (hz : (sizeOf et).run P w = .ok sz w) {a0 : Option Addr} {len cap : Nat} {lo hi mx : Option Value} {l h m : Int} (hl : OV 0 lo l) (hh : OV len hi h)
    (hm : (mx = none ∧ m = cap) ∨ ((∃ k, mx = some (.int k m)) ∧ ∃ u, hi = some u)) (h0 : 0 ≤ l) (h1 : l ≤ h) (h2 : h ≤ m) (h3 : m ≤ cap) :
    (Instr.sliceAt t (.slice a0 len cap) lo hi mx).run P w = .ok (.slice (if m.toNat = l.toNat then a0 else a0.map (·.add (l.toNat * sz))) (h.toNat - l.toNat) (m.toNat - l.toNat)) w := by
  have hu := tdesc_some hT hd
  simp only [Instr.sliceAt, Sem.run_bind, run_underlying hu, Result.andThen_ok, Instr.slice, run_sliceBounds (P := P) (w := w) hl hh hm h0 h1 h2 h3, hz, Sem.run_pure]

theorem run_sliceAt_arr (hT : TabOK P T) {t et : TypeId} {sz n : Nat} (hd : tdesc T t = some (.array n et)) (hz : (sizeOf et).run P w = .ok sz w) {a0 : Addr} {lo hi : Option Value} {l h : Int} (hl : OV 0 lo l) (hh : OV n hi h)
    (h0 : 0 ≤ l) (h1 : l ≤ h) (h2 : h ≤ n) :
    (Instr.sliceAt t (.pointer (some a0)) lo hi none).run P w = .ok (.slice (some (if n = l.toNat then a0 else a0.add (l.toNat * sz))) (h.toNat - l.toNat) (n - l.toNat)) w := by
  have hu := tdesc_some hT hd
  have hb := run_sliceBounds (P := P) (w := w) (b := false) (mx := none) (m := n) hl hh (.inl ⟨rfl, rfl⟩) h0 h1 h2 (Int.le_refl _)
  simp only [Int.toNat_natCast] at hb
  simp only [Instr.sliceAt, Sem.run_bind, run_underlying hu, Result.andThen_ok, run_sureAddr, hb, hz, Sem.run_pure]

theorem tdesc_elem (hT : TabOK P T) {t : TypeId} {k : Kd} {et : TypeId} (h : tkd T t = some k) (h2 : tdesc T t = some (.slice et)) : ∃ e, k = .sl e ∧ tkd T et = some e := by
  obtain ⟨e, rfl⟩ := kd_sl hT h h2
  exact ⟨e, rfl, tkd_sl hT h h2⟩

theorem addr_case {g o sz : Nat} {l h m : Int} (h0 : 0 ≤ l) (h1 : l ≤ h) (h2 : h ≤ m) :
    ∃ o', (if m.toNat = l.toNat then (some ⟨g, o, none⟩ : Option Addr) else (some (⟨g, o, none⟩ : Addr)).map (·.add (l.toNat * sz))) = some ⟨g, o', none⟩ ∧ ((h - l).toNat = 0 ∨ o' = o + l.toNat * sz) := by
  split
  · exact ⟨o, rfl, .inl (by omega)⟩
  · exact ⟨o + l.toNat * sz, by simp [add_eq], .inr rfl⟩

/-- A slice of a window is a window. -/
theorem WinV.sub (hT : TabOK P T) {t et : TypeId} {sz : Nat} (hd : tdesc T t = some (.slice et)) (hz : (sizeOf et).run P w = .ok sz w) {g : Option Nat} {off lo0 n : Nat} {v : Value} (hw : WinV g off sz lo0 n v)
    {lo hi mx : Option Value} {l h m : Int} (hl : OV 0 lo l) (hh : OV n hi h) (hm : (mx = none ∧ m = h) ∨ ((∃ k, mx = some (.int k m)) ∧ ∃ u, hi = some u)) (h0 : 0 ≤ l) (h1 : l ≤ h) (h2 : h ≤ m) (h3 : m ≤ n) :
    ∃ u, (Instr.sliceAt t v lo hi mx).run P w = .ok u w ∧ WinV g off sz (lo0 + l.toNat) (h - l).toNat u := by
  rcases hw with ⟨rfl, rfl, rfl⟩ | ⟨b, o, cap, rfl, rfl, hc, ho⟩
  · have e1 : l = 0 := by omega
    have e2 : h = 0 := by omega
    have e3 : m = 0 := by omega
    subst e1 e2 e3
    have hm' : (mx = none ∧ (0 : Int) = (0 : Nat)) ∨ ((∃ k, mx = some (.int k 0)) ∧ ∃ u, hi = some u) := hm.imp (fun x => ⟨x.1, rfl⟩) id
    exact ⟨_, run_sliceAt_sl hT hd hz hl hh hm' (by omega) (by omega) (by omega) (by omega), .inl ⟨rfl, by simp, rfl⟩⟩
  · rcases hm with ⟨rfl, rfl⟩ | hm
    · obtain ⟨o', ho', hoo⟩ := addr_case (g := b) (o := o) (sz := sz) (l := l) (h := m) (m := cap) h0 h1 (by omega)
      refine ⟨_, run_sliceAt_sl hT hd hz hl hh (.inl ⟨rfl, rfl⟩) h0 h1 (by omega) (by omega), ?_⟩
      rw [ho']
      refine .inr ⟨b, o', _, rfl, by congr 1; omega, by simp; omega, ?_⟩
      rcases hoo with hoo | hoo
      · exact .inl hoo
      · rcases ho with ho | ho
        · exact .inl (by omega)
        · exact .inr (by rw [hoo, ho, Nat.add_mul]; omega)
    · obtain ⟨o', ho', hoo⟩ := addr_case (g := b) (o := o) (sz := sz) (l := l) (h := h) (m := m) h0 h1 h2
      refine ⟨_, run_sliceAt_sl hT hd hz hl hh (.inr hm) h0 h1 h2 (by omega), ?_⟩
      rw [ho']
      refine .inr ⟨b, o', _, rfl, by congr 1; omega, by omega, ?_⟩
      rcases hoo with hoo | hoo
      · exact .inl hoo
      · rcases ho with ho | ho
        · exact .inl (by omega)
        · exact .inr (by rw [hoo, ho, Nat.add_mul]; omega)

theorem aSlice_sound (hT : TabOK P T) {rd : Nat → Option Blk} {t : TypeId} {sv : SV} {slo shi smx : Option SV} {nx : Nat} {r : ARes} {v : Value} {vlo vhi vmx : Option Value} (h : aSlice T rd t sv slo shi smx nx = some r) (hok : r.ok = true) (hacc : ∀ i ∈ r.acc, me i = rd i)
    (hI : Inv C tm me pl S a w) (hG : G S w me pl sv v) (hlo : OG S w me pl slo vlo) (hhi : OG S w me pl shi vhi) (hmx : OG S w me pl smx vmx) :
    ∃ u, (Instr.sliceAt t v vlo vhi vmx).run P w = .ok u w ∧ r.wr = [] ∧ G S w me pl r.sv u := by
  have mxcase : ∀ {h m : Int}, bndOf h smx = some m → mxok shi smx = true → (vmx = none ∧ m = h) ∨ ((∃ k, vmx = some (.int k m)) ∧ ∃ u, vhi = some u) := by
    intro h m h1 h2
    cases smx with
    | none => simp only [bndOf, Option.some.injEq] at h1; exact .inl ⟨hmx, h1.symm⟩
    | some s =>
      rcases bndOf_spec h1 hmx with ⟨h3, _⟩ | ⟨k, h3⟩
      · obtain ⟨u, hu, _⟩ := hmx; rw [h3] at hu; cases hu
      · refine .inr ⟨⟨k, h3⟩, ?_⟩
        cases shi with
        | none => simp [mxok] at h2
        | some s' => obtain ⟨u, hu, _⟩ := hhi; exact ⟨u, hu⟩
  unfold aSlice at h
  split at h <;> try (cases h; done)
  · rename_i s hd
    split at h <;> try (cases h; done)
    rename_i l hh e1 e2
    simp only [Option.some.injEq] at h
    subst h
    have hc := of_decide_eq_true hok
    have hv := VRd.str.1 hG
    subst hv
    simp only [OG] at hmx
    subst hmx
    have hb := run_sliceBounds (P := P) (w := w) (b := false) (mx := none) (m := s.size) (bndOf_spec e1 hlo) (bndOf_spec e2 hhi) (.inl ⟨rfl, rfl⟩) hc.1 hc.2.1 hc.2.2 (Int.le_refl _)
    refine ⟨_, ?_, rfl, VRd.str.2 rfl⟩
    simp only [Instr.sliceAt, Sem.run_bind, run_underlying (tdesc_some hT hd), Result.andThen_ok, Instr.slice, Option.isSome_none, Bool.false_eq_true, if_false, Sem.run_pure, hb]
  · rename_i n et b p k hd
    split at h <;> try (cases h; done)
    rename_i kt hkt
    split at h <;> try (cases h; done)
    rename_i l hh hsame e1 e2
    simp only [Option.some.injEq] at h
    subst h
    have es := same_of hsame
    subst es
    have hc := of_decide_eq_true hok
    simp only [OG] at hmx
    subst hmx
    obtain ⟨kb, x, sh, o, g, hm, hok', hoff, hg, rfl⟩ := hG
    have hdo := tkd_desc hT hkt hd
    cases kt <;> simp [descOK] at hdo
    rename_i m e
    obtain ⟨rfl, het⟩ := hdo
    have hz := run_sizeOf hT w (kdIs_some het)
    obtain ⟨o', ho', hoo⟩ := addr_case (g := g) (o := (pl b).off + o) (sz := e.size) (l := l) (h := hh) (m := n) hc.1 hc.2.1 hc.2.2
    refine ⟨_, run_sliceAt_arr hT hd hz (bndOf_spec e1 hlo) (bndOf_spec e2 hhi) hc.1 hc.2.1 hc.2.2, rfl, kb, x, sh, o, _, e, hm, hok', hoff, by omega, by simp [hg], ?_⟩
    refine .inr ⟨g, o', n - l.toNat, hg, ?_, by omega, hoo⟩
    have : (some (if n = l.toNat then (⟨g, (pl b).off + o, none⟩ : Addr) else (⟨g, (pl b).off + o, none⟩ : Addr).add (l.toNat * e.size))) = some ⟨g, o', none⟩ := by
      rw [← ho']
      simp only [Int.toNat_natCast]
      split <;> rfl
    rw [this]
    congr 1; omega
  · rename_i et e z hd
    split at h <;> try (cases h; done)
    rename_i l hh kt e1 e2 hkt
    split at h <;> try (cases h; done)
    rename_i m e3 e4 hsame
    simp only [Option.some.injEq] at h
    subst h
    have es := same_of hsame
    subst es
    have hc := of_decide_eq_true hok
    have hz := run_sizeOf hT w (tkd_sl hT hkt hd)
    have hll : (List.take (hh - l).toNat (List.drop l.toNat z)).length = (hh - l).toNat := by simp; omega
    rcases VRd.sl.1 hG with ⟨rfl, hz0⟩ | ⟨g, off, cap, c, ty, fr, rfl, hcap, hS, hc2, hr⟩
    · subst hz0
      obtain ⟨u, h1, h2⟩ := WinV.sub hT hd hz (g := none) (off := 0) (lo0 := 0) (n := 0) (.inl ⟨rfl, rfl, rfl⟩) (bndOf_spec e1 hlo) (bndOf_spec e2 hhi) (mxcase e3 e4) hc.1 hc.2.1 hc.2.2.1 hc.2.2.2
      refine ⟨u, h1, rfl, VRd.sl.2 (.inl ?_)⟩
      rcases h2 with ⟨_, rfl, h3⟩ | ⟨b, o, cap, hb, _⟩
      · exact ⟨rfl, by simp⟩
      · cases hb
    · obtain ⟨u, h1, h2⟩ := WinV.sub hT hd hz (g := some g) (off := off) (lo0 := 0) (n := List.length z) (.inr ⟨g, off, cap, rfl, rfl, hcap, .inr (by simp)⟩) (bndOf_spec e1 hlo) (bndOf_spec e2 hhi) (mxcase e3 e4) hc.1 hc.2.1 hc.2.2.1 hc.2.2.2
      refine ⟨u, h1, rfl, VRd.sl.2 ?_⟩
      rcases h2 with ⟨hb, _⟩ | ⟨b, o, cap', hb, rfl, hcap', ho⟩
      · cases hb
      · cases hb
        refine .inr ⟨g, o, cap', c, ty, fr, by rw [hll], by rw [hll]; exact hcap', hS, hc2, ?_⟩
        rw [hll]
        rcases ho with ho | ho
        · rw [ho]; simp [RdL]
        · have := RdL.window (Rd.length e) hr l.toNat (hh - l).toNat
          rw [List.drop_take, List.drop_drop, List.take_take, Nat.min_eq_left (by rw [← Nat.mul_sub_right_distrib]; exact Nat.mul_le_mul_right _ (by omega))] at this
          rw [ho, Nat.zero_add]; exact this
  · rename_i et j ver hd
    split at h <;> try (cases h; done)
    rename_i e z ver' sh hrd
    split at h <;> try (cases h; done)
    rename_i l hh kt hver e1 e2 hkt
    split at h <;> try (cases h; done)
    rename_i m e3 e4 hsame
    simp only [Option.some.injEq] at h
    subst h
    have es := same_of hsame
    subst es
    have hc := of_decide_eq_true hok
    have hz := run_sizeOf hT w (tkd_sl hT hkt hd)
    have hm : me j = some (.row e z ver' sh) := by rw [hacc j (by simp)]; exact hrd
    obtain ⟨e', l', ver2, sh', hm', hle, hh'⟩ := hG
    rw [hm] at hm'
    cases hm'
    have hrow := hh' (Nat.eq_of_beq_eq_true hver).symm
    have hwin : WinV (pl j).g 0 e.size 0 z.length v := by
      rcases hI.mem j _ hm with ⟨hg, hl, _⟩ | ⟨g, c, t, hg', _, _, h6, _⟩
      · subst hl
        rcases hrow with ⟨_, rfl⟩ | ⟨g, hg', _⟩
        · exact .inl ⟨hg, rfl, rfl⟩
        · rw [hg] at hg'; cases hg'
      · rcases hrow with ⟨hg, _⟩ | ⟨g, hg, rfl⟩
        · rw [hg] at hg'; cases hg'
        · exact .inr ⟨g, 0, _, hg, rfl, h6, .inr (by simp)⟩
    obtain ⟨u, h1, h2⟩ := WinV.sub hT hd hz hwin (bndOf_spec e1 hlo) (bndOf_spec e2 hhi) (mxcase e3 e4) hc.1 hc.2.1 hc.2.2.1 hc.2.2.2
    rw [Nat.zero_add] at h2
    exact ⟨u, h1, rfl, e, z, ver', sh, hm, hle, fun _ => ⟨by omega, h2⟩⟩
  · rename_i et j ver lo' n hd
    split at h <;> try (cases h; done)
    rename_i e z ver' sh hrd
    split at h <;> try (cases h; done)
    rename_i l hh hver e1 e2
    split at h <;> try (cases h; done)
    rename_i kt hkt
    split at h <;> try (cases h; done)
    rename_i hsame
    simp only [Option.some.injEq] at h
    subst h
    have es := same_of hsame
    subst es
    have hc := of_decide_eq_true hok
    have hz := run_sizeOf hT w (tkd_sl hT hkt hd)
    have hm : me j = some (.row e z ver' sh) := by rw [hacc j (by simp)]; exact hrd
    obtain ⟨e', l', ver2, sh', hm', hle, hh'⟩ := hG
    rw [hm] at hm'
    cases hm'
    obtain ⟨hln, hwin⟩ := hh' (Nat.eq_of_beq_eq_true hver).symm
    simp only [OG] at hmx
    subst hmx
    obtain ⟨u, h1, h2⟩ := WinV.sub hT hd hz hwin (mx := none) (m := hh) (bndOf_spec e1 hlo) (bndOf_spec e2 hhi) (.inl ⟨rfl, rfl⟩) hc.1 hc.2.1 (Int.le_refl _) hc.2.2
    exact ⟨u, h1, rfl, e, z, ver', sh, hm, hle, fun _ => ⟨by omega, h2⟩⟩
  · rename_i et b p lo' n hd
    split at h <;> try (cases h; done)
    rename_i l hh e1 e2
    split at h <;> try (cases h; done)
    rename_i kb y sh kt hrd hkt
    split at h <;> try (cases h; done)
    rename_i o' m e hoff'
    split at h <;> try (cases h; done)
    rename_i hsame
    simp only [Option.some.injEq] at h
    subst h
    have es := same_of hsame
    subst es
    have hc := of_decide_eq_true hok
    have hz := run_sizeOf hT w (tkd_sl hT hkt hd)
    have hm : me b = some (.var kb y sh) := by rw [hacc b (by simp)]; exact hrd
    obtain ⟨kb', x, sh', o, m', e', hm', hok', hoff, hln, hgs, hwin⟩ := hG
    rw [hm] at hm'
    cases hm'
    rw [hoff'] at hoff
    cases hoff
    simp only [OG] at hmx
    subst hmx
    obtain ⟨u, h1, h2⟩ := WinV.sub hT hd hz hwin (mx := none) (m := hh) (bndOf_spec e1 hlo) (bndOf_spec e2 hhi) (.inl ⟨rfl, rfl⟩) hc.1 hc.2.1 (Int.le_refl _) hc.2.2
    exact ⟨u, h1, rfl, kb, y, sh, o', m, e, hm, hok', hoff', by omega, hgs, h2⟩
end
end Go.PG
