/- A part of the proofs over this seat (own work; the framework that reads a Go function as a pure one, or a use of it). No condition of its own. -/
import Derived.Test.YtckdjafnemoloaaPGM
set_option linter.unusedVariables false
set_option linter.unusedSimpArgs false
namespace Go.PG
section
variable {C : Ctx} {tm : Nat → SV} {me : Nat → Option Blk} {pl : Nat → Plc} {S : Nat → Prop} {a : Act} {w : World} {P : Program} {T : Tab}

theorem Inv.drew (h : Inv C tm me pl S a w) : Inv C tm me pl S a w.drew :=
  h.world (fun _ hb => hb) (fun b hb => ⟨(h.sfr b hb).1, .inl hb⟩) rfl rfl rfl (Nat.le_refl _) (fun _ _ => rfl)

/-- A row's version goes on. -/
theorem Inv.bump (h : Inv C tm me pl S a w) {i : Nat} {e : Kd} {l : List e.T} {v v' : Nat} {sh : Bool} (hi : me i = some (.row e l v sh)) (hv : v ≤ v') :
    Inv C tm (upd me i (some (.row e l v' sh))) pl S a w := by
  have hK : Keeps S w me pl S w (upd me i (some (.row e l v' sh))) pl := by
    refine ⟨fun b hb => ⟨hb, rfl⟩, fun j bj hj => ?_⟩
    by_cases ee : j = i
    · subst ee; rw [hi] at hj; cases hj; exact ⟨.row e l v' sh, by simp, ⟨rfl, hv, fun _ => ⟨rfl, rfl⟩⟩⟩
    · exact ⟨bj, by rw [upd_other _ _ ee]; exact hj, Compat.refl _ _⟩
  have q : ∀ {j : Nat} {b : Blk}, upd me i (some (.row e l v' sh)) j = some b → ∃ b, me j = some b := by
    intro j b hj
    by_cases e1 : j = i
    · exact ⟨_, e1 ▸ hi⟩
    · rw [upd_other _ _ e1] at hj; exact ⟨_, hj⟩
  refine ⟨h.nt, h.df, fun t' => (h.tms t').keeps hK, fun j bj hj => ?_, fun j bj hj => ?_, fun j1 j2 b1 b2 g' hne hj1 hj2 hg' => ?_, h.s0, h.sfr, h.fr, h.pd⟩
  · by_cases ee : j = i
    · subst ee; simp only [upd_same, Option.some.injEq] at hj; subst hj; have h5 := h.mem j (.row e l v sh) hi; exact h5
    · rw [upd_other _ _ ee] at hj; exact h.mem j bj hj
  · by_cases ee : j = i
    · subst ee; simp only [upd_same, Option.some.injEq] at hj; subst hj
      intro g' hg'
      rcases h.plcs j _ hi g' hg' with h1 | ⟨⟨k, x, s, h0⟩, _⟩
      · exact .inl h1
      · cases h0
    · rw [upd_other _ _ ee] at hj; exact h.plcs j bj hj
  · obtain ⟨b1', q1⟩ := q hj1
    obtain ⟨b2', q2⟩ := q hj2
    exact h.dis j1 j2 b1' b2' g' hne q1 q2 hg'

theorem run_append_none (hT : TabOK P T) {t et ty : TypeId} {sz : Nat} (hd : tdesc T t = some (.slice et)) (hz : ∀ w, (sizeOf et).run P w = .ok sz w) {b : Option Addr} {n cap : Nat} (hc : n ≤ cap) {vx : Value}
    (hl : (Builtin.lenOf vx).run P w = .ok 0 w) (hf : (Builtin.firstCells sz 0 vx).run P w = .ok #[] w) : (Builtin.append_ #[t, t] ty #[.slice b n cap, vx]).run P w = .ok (.slice b n cap) w := by
  cases b <;> simp [Builtin.append_, run_underlying (tdesc_some hT hd), hz w, hl, hc, hf, storeCells]

theorem run_append_in (hT : TabOK P T) {t et ty : TypeId} {sz : Nat} (hd : tdesc T t = some (.slice et)) (hz : ∀ w, (sizeOf et).run P w = .ok sz w) {g n cap m : Nat} {vx : Value} {news : List Value} {c : Array Value} {tb : TypeId}
    (hg : w.heap[g]? = some (.cells c tb (0, 0))) (hl : (Builtin.lenOf vx).run P w = .ok m w) (hf : (Builtin.firstCells sz m vx).run P w = .ok news.toArray w) (h1 : ∀ u ∈ news, u.oneCell' = true)
    (hroom : n + m ≤ cap) (hfit : n * sz + news.length ≤ c.size) :
    (Builtin.append_ #[t, t] ty #[.slice (some ⟨g, 0, none⟩) n cap, vx]).run P w = .ok (.slice (some ⟨g, 0, none⟩) (n + m) cap) (w.setRow g (c.toList.take (n * sz) ++ news ++ c.toList.drop (n * sz + news.length)).toArray) := by
  have hst := run_storeCells_at P g (n * sz) tb news 0 c w hg (by omega) h1
  simp only [Nat.add_zero] at hst
  simp [Builtin.append_, run_underlying (tdesc_some hT hd), hz w, hl, hroom, hf, add_eq, hst]

theorem zcells_size (k : Kd) {z : Value} (h : z.cells = k.zcells.toArray) : z.cells.size = k.size := by rw [h]; simp [Kd.zcells_length]

theorem limb {n m b : Nat} (h : n + m ≤ LIMB / b) : (n + m) * b ≤ 140737488355328 ∧ (b = 0 → n + m = 0) := by
  refine ⟨Nat.le_trans (Nat.mul_le_mul_right b h) (Nat.div_mul_le_self _ _), fun hb => ?_⟩
  subst hb; simpa using h

/-- A grown row: a new block. -/
theorem Inv.grownRow (hI : Inv C tm me pl S a w) {i : Nat} {e : Kd} {l : List e.T} {v : Nat} {c : Array Value} {t : TypeId} {cap : Nat} (hi : ∀ b0, me i = some b0 → ∃ l0 v0 sh0, b0 = .row e l0 v0 sh0 ∧ v0 < v) (hnp : C.pp.length ≤ i)
    (hcap : l.length ≤ cap) (hcm : cap ≤ maxLen) (hcs : c.size = cap * e.size) (hr : RdL (Rd S w e) l (c.toList.take (l.length * e.size))) :
    Inv C tm (upd me i (some (.row e l v false))) (upd pl i ⟨some w.heap.size, 0, cap⟩) S a (w.alloc (.cells c t)) := by
  refine hI.allocAt (fun b0 hb0 => ?_) hnp ?_
  · obtain ⟨l0, v0, sh0, rfl, hlt⟩ := hi b0 hb0
    exact ⟨rfl, by omega, fun h => by omega⟩
  · refine .inr ⟨w.heap.size, c, t, rfl, rfl, heap_alloc_new w _, hcap, hcm, hcs, RdL.mono (fun b hb => ⟨hb, heap_alloc_old w _ b (hI.sfr b hb).1⟩) hr, ?_⟩
    simp
    intro h
    have := (hI.sfr _ h).1
    omega

theorem RdSl.cases' {α : Type} {R : α → List Value → Prop} {S : Nat → Prop} {sz : Nat} (hn : ∀ x cs, R x cs → cs.length = sz) {xs : List α} {v : Value} (h : RdSl R S w sz xs v) (hx : xs ≠ []) :
    ∃ ad c news, v = .slice (some ad) xs.length c ∧ news.length = xs.length * sz ∧ RdL R xs news ∧ ∀ j u, news[j]? = some u → w.cell? (ad.add j) = some u := by
  rcases h with ⟨_, h⟩ | ⟨g, off, cap, c, t, fr, rfl, hcap, _, hc, hr⟩
  · exact absurd h hx
  · exact ⟨_, cap, _, rfl, RdL.length hn hr, hr, fun j u hj => by rw [add_eq, cell_of_row w g (off + j) c t fr hc]; exact seg_get rfl j u hj⟩

theorem aAppend_sound (hT : TabOK P T) {np : Nat} (hnp : np = C.pp.length) {rd : Nat → Option Blk} {t ty : TypeId} {s x : SV} {nx : Nat} {r : ARes} {vs vx : Value} (h : aAppend T np rd t s x nx = some r) (hok : r.ok = true) (hacc : ∀ i ∈ r.acc, me i = rd i)
    (hI : Inv C tm me pl S a w) (hGs : G S w me pl s vs) (hGx : G S w me pl x vx) : ∃ u w', (Builtin.append_ #[t, t] ty #[vs, vx]).run P w = .ok u w' ∧ After C tm me r.sv r.wr a u w' := by
  unfold aAppend at h
  split at h <;> try (cases h; done)
  rename_i ke et hkt hd
  split at h <;> try (cases h; done)
  rename_i dd hdd
  split at h <;> try (cases h; done)
  rename_i e xs acc hsrc
  split at h <;> try (cases h; done)
  rename_i ys hys
  have := TV.as_some hys
  cases this
  have hz : ∀ w, (sizeOf et).run P w = .ok ke.size w := fun w => run_sizeOf hT w (tkd_sl hT hkt hd)
  have hS : (∀ i ∈ acc, me i = rd i) → RdSl (Rd S w ke) (fun _ => True) w ke.size ys vx := by
    intro ha
    split at hsrc
    · simp only [Option.some.injEq] at hsrc
      cases hsrc
      exact .inl ⟨hGx, rfl⟩
    · exact rdSl_sound hsrc ha hI hGx
  obtain ⟨i, hi, hi2, hi3, hi4⟩ := (hT et dd hdd).info
  have hkd : dd.kd = some ke := by
    have := tkd_sl hT hkt hd
    simpa [tkd, hdd] using this
  obtain ⟨z, hz1, hz2⟩ := hi4 ke hkd
  have hisz : i.size = ke.size := by rw [hi2, ((hT et dd hdd).kd ke hkd).1]
  have hzs := zcells_size ke hz2
  cases s <;> simp only [reduceCtorEq] at h
  case nil =>
    split at h <;> try (cases h; done)
    rename_i hfr
    simp only [Option.some.injEq] at h
    subst h
    obtain ⟨hfr1, hfr2⟩ := fresh_spec hfr
    have hSx := hS (fun q hq => hacc q (by simp; exact .inr hq))
    have hmn : me nx = none := by rw [hacc nx (by simp)]; exact hfr1
    have hlim := limb (n := 0) (m := ys.length) (b := dd.bytes) (by rw [Nat.zero_add]; exact of_decide_eq_true hok)
    simp only [Nat.zero_add] at hlim
    simp only [G] at hGs
    subst hGs
    by_cases hy : ys = []
    · subst hy
      obtain ⟨ds, hf, hr⟩ := hSx.first (P := P) (Rd.length ke) (n := 0) (by simp)
      simp only [List.take_nil, RdL] at hr
      subst hr
      refine ⟨_, w, run_append_none hT hd hz (Nat.le_refl _) (by simpa using hSx.len (P := P)) hf, _, S, by rw [laid_cons, laid_nil]; exact hI.nilrow ke hmn, ?_⟩
      rw [laid_cons, laid_nil]
      exact ⟨ke, [], 0, false, upd_same _ _ _, Nat.le_refl _, fun _ => .inl ⟨by simp, rfl⟩⟩
    · obtain ⟨ad, c, news, rfl, hnl, hnr, hnews⟩ := hSx.cases' (Rd.length ke) hy
      have hpos : 0 < ys.length := List.length_pos_iff.2 hy
      have hb1 : 1 ≤ dd.bytes := by
        rcases Nat.eq_zero_or_pos dd.bytes with h0 | h0
        · have := hlim.2 h0; omega
        · exact h0
      have hylt : ys.length ≤ 140737488355328 := Nat.le_trans (Nat.le_mul_of_pos_right _ hb1) hlim.1
      have hrun := run_append_nil (P := P) w t ty et i z (tdesc_some hT hd) hi hz1 ad ys.length c news (by rw [hisz]; exact hnl) hnews hpos (by omega) (by rw [hi3]; omega)
      refine ⟨_, _, hrun, upd pl nx ⟨some w.drew.heap.size, 0, grownCap w ys.length 0 et⟩, S, ?_, ?_⟩
      · rw [laid_cons, laid_nil]
        refine (hI.drew).grownRow (fun b0 hb0 => by rw [hmn] at hb0; cases hb0) (by omega) (grownCap_ge w _ _ _) (grownCap_le_maxLen w _ _ _ (by simp only [maxLen]; omega)) ?_ ?_
        · simp only [Array.size_append, List.size_toArray, hnl, size_zeroCells, hzs]
          rw [← Nat.add_mul]
          congr 1
          have := grownCap_ge w ys.length 0 et
          omega
        · have e1 : (news.toArray ++ Builtin.zeroCells z.cells (grownCap w ys.length 0 et - ys.length)).toList.take (ys.length * ke.size) = news := by
            rw [Array.toList_append, ← hnl]; simp
          rw [e1]; exact RdL.mono (S := S) (S' := S) (w := w) (w' := w.drew) (fun b hb => ⟨hb, rfl⟩) hnr
      · rw [laid_cons, laid_nil]
        exact ⟨ke, ys, 0, false, upd_same _ _ _, Nat.le_refl _, fun _ => .inr ⟨w.heap.size, by simp, by simp⟩⟩
  case own j ver =>
    split at h <;> try (cases h; done)
    rename_i e' l ver' hrd hjn
    split at h <;> try (cases h; done)
    rename_i zs hver hzs'
    simp only [Option.some.injEq] at h
    subst h
    have := TV.as_some hzs'
    cases this
    have hjn' : C.pp.length ≤ j := by
      subst hnp
      rcases Nat.lt_or_ge j C.pp.length with h1 | h1
      · have : Nat.blt j C.pp.length = true := by simpa [Nat.blt_eq] using h1
        rw [this] at hjn; cases hjn
      · exact h1
    have hSx := hS (fun q hq => hacc q (by simp; exact .inr hq))
    have hm : me j = some (.row ke l ver' false) := by rw [hacc j (by simp)]; exact hrd
    have hlim := limb (b := dd.bytes) (of_decide_eq_true hok)
    obtain ⟨e2, l2, ver2, sh2, hm2, hle, hh⟩ := hGs
    rw [hm] at hm2
    cases hm2
    have hrow := hh (Nat.eq_of_beq_eq_true hver).symm
    by_cases hy : ys = []
    · subst hy
      obtain ⟨ds, hf, hr⟩ := hSx.first (P := P) (Rd.length ke) (n := 0) (by simp)
      simp only [List.take_nil, RdL] at hr
      subst hr
      have hcap : ∃ b n cap, vs = .slice b n cap ∧ n ≤ cap := by
        rcases hrow with ⟨_, rfl⟩ | ⟨g, hg, rfl⟩
        · exact ⟨_, _, _, rfl, Nat.le_refl _⟩
        · rcases hI.mem j _ hm with ⟨hg', _⟩ | ⟨g', c, t, hg', h4, h5, h6, _⟩
          · rw [hg] at hg'; cases hg'
          · exact ⟨_, _, _, rfl, h6⟩
      obtain ⟨b, n, cap, rfl, hcap⟩ := hcap
      refine ⟨_, w, run_append_none hT hd hz hcap (by simpa using hSx.len (P := P)) hf, pl, S, ?_, ?_⟩
      · rw [laid_cons, laid_nil, List.append_nil]; exact hI.bump hm (Nat.le_succ _)
      · rw [laid_cons, laid_nil]
        exact ⟨ke, l ++ [], ver' + 1, false, upd_same _ _ _, Nat.le_refl _, fun _ => by rw [List.append_nil]; exact hrow⟩
    · obtain ⟨ad, cc, news, rfl, hnl, hnr, hnews⟩ := hSx.cases' (Rd.length ke) hy
      have hpos : 0 < ys.length := List.length_pos_iff.2 hy
      have hb1 : 1 ≤ dd.bytes := by
        rcases Nat.eq_zero_or_pos dd.bytes with h0 | h0
        · have := hlim.2 h0; omega
        · exact h0
      have hylt : l.length + ys.length ≤ 140737488355328 := Nat.le_trans (Nat.le_mul_of_pos_right _ hb1) hlim.1
      rcases hI.mem j _ hm with ⟨hg, hl0, hc0⟩ | ⟨g, c, tb, hg, hoff, hc, h6, h7, h8, h9, h10⟩
      · subst hl0
        have hvs : vs = .slice none 0 0 := by
          rcases hrow with ⟨_, h⟩ | ⟨g, hg', _⟩
          · exact h
          · rw [hg] at hg'; cases hg'
        subst hvs
        simp only [List.length_nil, Nat.zero_add] at hlim hylt
        have hrun := run_append_nil (P := P) w t ty et i z (tdesc_some hT hd) hi hz1 ad ys.length cc news (by rw [hisz]; exact hnl) hnews hpos (by omega) (by rw [hi3]; omega)
        refine ⟨_, _, hrun, upd pl j ⟨some w.drew.heap.size, 0, grownCap w ys.length 0 et⟩, S, ?_, ?_⟩
        · rw [laid_cons, laid_nil, List.nil_append]
          refine (hI.drew).grownRow (fun b0 hb0 => by rw [hm] at hb0; cases hb0; exact ⟨_, _, _, rfl, Nat.lt_succ_self _⟩) hjn' (grownCap_ge w _ _ _) (grownCap_le_maxLen w _ _ _ (by simp only [maxLen]; omega)) ?_ ?_
          · simp only [Array.size_append, List.size_toArray, hnl, size_zeroCells, hzs]
            rw [← Nat.add_mul]
            congr 1
            have := grownCap_ge w ys.length 0 et
            omega
          · have e1 : (news.toArray ++ Builtin.zeroCells z.cells (grownCap w ys.length 0 et - ys.length)).toList.take (ys.length * ke.size) = news := by
              rw [Array.toList_append, ← hnl]; simp
            rw [e1]; exact RdL.mono (S := S) (S' := S) (w := w) (w' := w.drew) (fun b hb => ⟨hb, rfl⟩) hnr
        · rw [laid_cons, laid_nil]
          exact ⟨ke, ys, ver' + 1, false, upd_same _ _ _, Nat.le_refl _, fun _ => .inr ⟨w.heap.size, by simp, by simp⟩⟩
      · have hvs : vs = .slice (some ⟨g, 0, none⟩) l.length (pl j).cap := by
          rcases hrow with ⟨hg', _⟩ | ⟨g', hg', h⟩
          · rw [hg] at hg'; cases hg'
          · rw [hg] at hg'; cases hg'; exact h
        subst hvs
        have hcl : c.toList.length = c.size := by simp
        have hlsz : l.length * ke.size ≤ c.size := by rw [h8]; exact Nat.mul_le_mul_right _ h6
        by_cases hroom : l.length + ys.length ≤ (pl j).cap
        · have hfit : l.length * ke.size + news.length ≤ c.size := by rw [hnl, h8, ← Nat.add_mul]; exact Nat.mul_le_mul_right _ hroom
          have hrun := run_append_in (ty := ty) hT hd hz hc (hSx.len (P := P)) (run_firstCells_some w ke.size ys.length ad ys.length cc news hnl hnews) hnr.one hroom hfit
          obtain ⟨f1, f2, f3, f4⟩ := splice_facts (C := c.toList) (X := news) (off := l.length * ke.size) (n := news.length) (by omega) rfl
          have hnS : ¬ S g := fun h => by have := h10.2 h; cases this
          refine ⟨_, _, hrun, pl, S, ?_, ?_⟩
          · rw [laid_cons, laid_nil]
            refine hI.write hm hg hnS hc (by simpa using f1) (by rw [hoff]; simp) (fun h => by obtain ⟨k, x, s, e⟩ := h; cases e) rfl ⟨fun h => (by obtain ⟨k, x, s, e⟩ := h; cases e), fun h => (by obtain ⟨k, x, s, e⟩ := h; cases e)⟩ ⟨rfl, Nat.le_succ _, fun h => absurd h (by omega)⟩ ?_
            refine .inr ⟨g, _, tb, hg, hoff, setRow_heap w g c _ tb (0, 0) hc, by simpa using hroom, h7, ?_, ?_, by simp; exact hnS⟩
            · rw [← h8, List.size_toArray, f1]; simp
            · rw [List.toList_toArray]
              have hs : ∀ b, S b → S b ∧ (w.setRow g (c.toList.take (l.length * ke.size) ++ news ++ c.toList.drop (l.length * ke.size + news.length)).toArray).heap[b]? = w.heap[b]? := fun b hb => ⟨hb, setRow_other w g b _ (fun e => hnS (e ▸ hb))⟩
              have e1 : (c.toList.take (l.length * ke.size) ++ news ++ c.toList.drop (l.length * ke.size + news.length)).take ((l ++ ys).length * ke.size) = c.toList.take (l.length * ke.size) ++ news := by
                have : (c.toList.take (l.length * ke.size) ++ news).length = (l ++ ys).length * ke.size := by
                  simp [hnl, Nat.add_mul]; omega
                rw [← this, List.take_left]
              rw [e1]
              exact RdL.append (RdL.mono hs h9) (RdL.mono hs hnr)
          · rw [laid_cons, laid_nil]
            exact ⟨ke, l ++ ys, ver' + 1, false, upd_same _ _ _, Nat.le_refl _, fun _ => .inr ⟨g, hg, by simp⟩⟩
        · have holds : ∀ q u, (c.toList.take (l.length * ke.size))[q]? = some u → w.cell? ((⟨g, 0, none⟩ : Addr).add q) = some u := fun q u hq => by
            rw [add_eq, cell_of_row w g (0 + q) c tb (0, 0) hc]
            exact seg_get (off := 0) (by rw [List.drop_zero]) q u hq
          have hrun := run_append_grow (P := P) w t ty et i z (tdesc_some hT hd) hi hz1 ⟨g, 0, none⟩ l.length (pl j).cap (c.toList.take (l.length * ke.size)) (by rw [hisz]; simp; omega) holds ad ys.length cc news (by rw [hisz]; exact hnl) hnews (by omega) (by omega) (growslice_fits (by omega) (by rw [hi3]; exact hlim.1))
          refine ⟨_, _, hrun, upd pl j ⟨some w.drew.heap.size, 0, grownCap w (l.length + ys.length) (pl j).cap et⟩, S, ?_, ?_⟩
          · rw [laid_cons, laid_nil]
            refine (hI.drew).grownRow (fun b0 hb0 => by rw [hm] at hb0; cases hb0; exact ⟨_, _, _, rfl, Nat.lt_succ_self _⟩) hjn' (by rw [List.length_append]; exact grownCap_ge w _ _ _) (grownCap_le_maxLen w _ _ _ (by simp only [maxLen]; omega)) ?_ ?_
            · simp only [Array.size_append, List.size_toArray, hnl, size_zeroCells, hzs, List.length_take, hcl, Nat.min_eq_left hlsz]
              rw [← Nat.add_mul, ← Nat.add_mul]
              congr 1
              have := grownCap_ge w (l.length + ys.length) (pl j).cap et
              omega
            · have e1 : ((c.toList.take (l.length * ke.size)).toArray ++ news.toArray ++ Builtin.zeroCells z.cells (grownCap w (l.length + ys.length) (pl j).cap et - (l.length + ys.length))).toList.take ((l ++ ys).length * ke.size) = c.toList.take (l.length * ke.size) ++ news := by
                have : (c.toList.take (l.length * ke.size) ++ news).length = (l ++ ys).length * ke.size := by
                  simp [hnl, Nat.add_mul]; omega
                simp only [Array.toList_append, List.toList_toArray]
                rw [← this, List.take_left]
              rw [e1]; exact RdL.append (RdL.mono (S := S) (S' := S) (w := w) (w' := w.drew) (fun b hb => ⟨hb, rfl⟩) h9) (RdL.mono (S := S) (S' := S) (w := w) (w' := w.drew) (fun b hb => ⟨hb, rfl⟩) hnr)
          · rw [laid_cons, laid_nil]
            exact ⟨ke, l ++ ys, ver' + 1, false, upd_same _ _ _, Nat.le_refl _, fun _ => .inr ⟨w.heap.size, by simp, by simp⟩⟩
end
end Go.PG
