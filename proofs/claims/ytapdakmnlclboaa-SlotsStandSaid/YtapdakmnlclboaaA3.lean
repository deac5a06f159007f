/- A part of the proof over this seat (own work; the framework that reads a Go function as a pure one, or a use of it). No condition of its own. -/
import Derived.Test.YtapdakmnlclboaaA2
import Derived.Laws.Externs
set_option linter.unusedVariables false
set_option linter.unusedSimpArgs false
set_option linter.unusedSectionVars false
namespace Go.PG
section
variable {C : Ctx} {P : Program} {R : Type} {E : Env R} {tm : Nat → SV} {me : Nat → Option Blk} {pl : Nat → Plc} {S : Nat → Prop} {a : Act} {w : World}
def funK (E : Env R) (res : List (ResultVar × TypeId × Bool)) (K : List RV → List TV → Option R) (e : XX) (σ : St) : Option R :=
  match e with
  | .exit _ => none
  | _ => match xres E (mget σ.me) σ.tm [] res with
    | none => none
    | some (rs, wr) => match xouts (laid wr (mget σ.me)) 0 E.np with
      | some outs => K rs outs
      | none => none
theorem xfun_leads (hE : EnvOK P E) {f : FuncId} {fn : Func} {body : Code} (hf : P.funcs[f]? = some fn) (hb : fn.body = some body) (hent : ∀ args w, (callFunc f args).run P w = .ok (.enter f args) w)
    (hnt : fn.ntmps = E.nt) {res : List (ResultVar × TypeId × Bool)} (hres : fn.results.toList = res.map (·.1)) {as : List AV} (hnp : E.np = nptr as) (hle : as.length ≤ E.nt)
    {K : List RV → List TV → Option R} {r : R} {tm0 : List (Nat × SV)} {me0 : List (Nat × Blk)} (hst : start as 0 0 [] [] = (tm0, me0)) {e : XX} {σ : St} (h2 : Leads E.np E.nt P body ⟨tm0, me0, E.np⟩ e σ)
    (h1 : funK E res K e σ = some r) : ∃ rs outs, Holds P f as rs outs ∧ K rs outs = some r := by
  unfold funK at h1
  have h1' : e ≠ .exit 0 ∧ (e = .normal ∨ e = .ret) ∧ ∃ rs wr outs, xres E (mget σ.me) σ.tm [] res = some (rs, wr) ∧ xouts (laid wr (mget σ.me)) 0 E.np = some outs ∧ K rs outs = some r := by
    cases e with
    | exit i => simp at h1
    | normal =>
      simp only at h1
      split at h1 <;> try (cases h1; done)
      rename_i rs wr hx
      split at h1 <;> try (cases h1; done)
      rename_i outs ho
      exact ⟨by simp, .inl rfl, rs, wr, outs, hx, ho, h1⟩
    | ret =>
      simp only at h1
      split at h1 <;> try (cases h1; done)
      rename_i rs wr hx
      split at h1 <;> try (cases h1; done)
      rename_i outs ho
      exact ⟨by simp, .inr rfl, rs, wr, outs, hx, ho, h1⟩
  obtain ⟨_, he, rs, wr, outs, hx, ho, hK⟩ := h1'
  refine ⟨rs, outs, .inl ⟨hent, fun w S pp vs hS hnd hA => ?_⟩, hK⟩
  obtain ⟨hvl, hpl, hcell⟩ := hA.lens
  refine calls_of_wp hf hb ?_
  let C : Ctx := ⟨w, S, E.nt, pp, fun _ _ => False⟩
  let pl : Nat → Plc := fun i => match pp[i]? with | some (g, off, _) => ⟨some g, off, 0⟩ | none => ⟨none, 0, 0⟩
  refine h2 C (hnp.trans hpl.symm) rfl (fun _ _ _ h => h) (bodyPost P fn _) (fun pl' S' a' w' hI' => ?_) pl S _ w ?_
  · obtain ⟨S2, vs2, gs, g1, g2, ⟨g3a, g3⟩, g4, _, _⟩ := xres_sound (C := C) hE.tab (hnp.trans hpl.symm) rfl res [] (mget σ.me) rs wr (mget σ.me) S' hx rfl hI'
    have hrun := results_run hres g3a
    have hpost : Post S w pp rs outs (packV vs2) w' := by
      refine ⟨S2, _, gs, rfl, g1.s0, g1.sfr, g1.fr, g3, g4, ?_⟩
      have := xouts_sound g1 E.np 0 outs ho (by rw [Nat.zero_add]; exact (hnp.trans hpl.symm).symm)
      simpa using this
    rcases he with rfl | rfl
    · exact ⟨hI'.df, _, hrun, hpost⟩
    · exact ⟨hI'.df, _, hrun, hpost⟩
  · have hpl' : ∀ i g off sz, C.pp[i]? = some (g, off, sz) → (pl i).g = some g ∧ (pl i).off = off := by
      intro i g off sz hi
      have hi' : pp[i]? = some (g, off, sz) := hi
      simp only [pl, hi']
      exact ⟨trivial, trivial⟩
    have h0 : Inv C (tget []) (mget []) pl S ⟨vs.toArray ++ Array.replicate (fn.ntmps - vs.toArray.size) undef, []⟩ w := by
      refine ⟨?_, rfl, fun t => trivial, fun i b hi => (by cases hi), fun i b hi => (by cases hi), fun i j bi bj g _ hi => (by cases hi), fun _ h => h, fun b hb => ⟨hS b hb, .inl hb⟩, ⟨rfl, rfl, rfl, Nat.le_refl _, fun _ _ _ => rfl, fun e he => ?_⟩, fun e he e' he' hee => ?_, fun _ _ h => h.elim⟩
      · have : vs.length ≤ fn.ntmps := by omega
        simp only [Array.size_append, Array.size_replicate, List.size_toArray, C]
        omega
      · obtain ⟨c, t, hc⟩ := hcell e he
        exact ⟨c, c, t, hc, hc, rfl, rfl, rfl⟩
      · obtain ⟨i, hi, rfl⟩ := List.getElem_of_mem he
        obtain ⟨j, hj, rfl⟩ := List.getElem_of_mem he'
        have hi' : i < pp.length := hi
        have hj' : j < pp.length := hj
        have : i = j := (List.getElem_inj (h₀ := by simpa using hi') (h₁ := by simpa using hj') hnd).1 (by simpa using hee)
        subst this; rfl
    have := start_sound (C := C) (a := ⟨vs.toArray ++ Array.replicate (fn.ntmps - vs.toArray.size) undef, []⟩) hnd hpl' as 0 0 [] [] vs pp hA (fun i => by rw [Nat.zero_add]) (fun i v hi => ?_) (fun i _ => rfl) h0
    · rw [hst] at this; exact this
    · have hlt := (List.getElem?_eq_some_iff.1 hi).1
      rw [Nat.zero_add, Array.getD_eq_getD_getElem?, Array.getElem?_append_left (by simpa using hlt)]
      simp [hi]
theorem Leads.seq {np nt : Nat} {a b : Code} {σ σ1 σ2 : St} {e : XX} (h1 : Leads np nt P a σ .normal σ1) (h2 : Leads np nt P b σ1 e σ2) : Leads np nt P (.seq a b) σ e σ2 :=
  fun C hnp hnt hg Q hQ pl S w0 w hI => wp_seq (h1 C hnp hnt (fun hl => hg (fun h0 => hl (List.append_eq_nil_iff.1 h0).1)) (Exit.then (b.wp P Q) Q) (fun pl S a w hI => h2 C hnp hnt (fun hl => hg (fun h0 => hl (List.append_eq_nil_iff.1 h0).2)) Q hQ pl S a w hI) pl S w0 w hI)
theorem getQ_of_map {α β : Type} {f : α → β} {l : List α} {m : List β} (h : l.map f = m) {i : Nat} {c : α} (hc : l[i]? = some c) : m[i]? = some (f c) := by
  rw [← h, List.getElem?_map, hc]; rfl
def allI {α : Type} (q : Nat → α → Bool) : Nat → List α → Bool
  | _, [] => true
  | i, x :: l => q i x && allI q (i + 1) l
theorem allI_spec {α : Type} {q : Nat → α → Bool} : ∀ {l : List α} {n : Nat}, allI q n l = true → ∀ i x, l[i]? = some x → q (n + i) x = true
  | [], _, _, i, x, h => by simp at h
  | y :: l, n, h, i, x, hx => by
    simp only [allI, Bool.and_eq_true] at h
    cases i with
    | zero => simp at hx; subst hx; exact h.1
    | succ i =>
      have := allI_spec h.2 i x (by simpa using hx)
      rwa [show n + 1 + i = n + (i + 1) by omega] at this
def qWr (i0 b : Nat) (i : Nat) (p : Acc) : Bool := match Nat.beq i i0 with | true => p.1.all (fun q => Nat.beq q b) | false => p.1.isEmpty
def qDst (d j0 : Nat) (i : Nat) (o : Oper) : Bool := match o.dst with | some e => (match Nat.beq e d with | true => Nat.beq i j0 | false => true) | none => true
def qTmp (t j0 : Nat) (i : Nat) (o : Oper) : Bool := match o.dst with | some e => (match Nat.beq e t with | true => Nat.blt i j0 | false => true) | none => true
theorem qDst_spec {d j0 : Nat} {ops : Array Oper} (h : allI (qDst d j0) 0 ops.toList = true) : ∀ i o', ops[i]? = some o' → o'.dst = some d → i = j0 := fun i o' hi hd => by
  have := allI_spec h i o' (by simpa using hi)
  unfold qDst at this
  rw [hd] at this
  simp only [Nat.beq_refl, Nat.zero_add] at this
  exact Nat.eq_of_beq_eq_true this
theorem qTmp_spec {t j0 : Nat} {ops : Array Oper} (h : allI (qTmp t j0) 0 ops.toList = true) : ∀ i o', ops[i]? = some o' → o'.dst = some t → i < j0 := fun i o' hi hd => by
  have := allI_spec h i o' (by simpa using hi)
  unfold qTmp at this
  rw [hd] at this
  simp only [Nat.beq_refl, Nat.zero_add] at this
  exact Nat.lt_of_succ_le (Nat.le_of_ble_eq_true this)
theorem qWr_spec {i0 b : Nat} {l : List Acc} (h : allI (qWr i0 b) 0 l = true) : (∀ i p, l[i]? = some p → i ≠ i0 → p.1 = []) ∧ (∀ p, l[i0]? = some p → ∀ q ∈ p.1, q = b) := by
  refine ⟨fun i p hi hne => ?_, fun p hi q hq => ?_⟩
  · have := allI_spec h i p hi
    unfold qWr at this
    rw [Nat.zero_add] at this
    cases hb : Nat.beq i i0 with
    | true => exact absurd (Nat.eq_of_beq_eq_true hb) hne
    | false => rw [hb] at this; simpa using this
  · have := allI_spec h i0 p hi
    unfold qWr at this
    rw [Nat.zero_add, Nat.beq_refl] at this
    exact Nat.eq_of_beq_eq_true (List.all_eq_true.1 this q hq)
theorem leads_flex {E : Env (St × List Acc)} (hE : EnvOK P E) (hm : P.follows .mixedOrders = true) {rid : Nat} {ops : Array Oper} {σ σ' : St} {accs : List Acc} {j0 i0 b d t : Nat} {o : Oper} {b1 b2 : Blk} {nx : Nat}
    (hx : xops E rid ops ops.toList 0 σ [] (fun σ' accs => some (σ', accs)) = some (σ', accs))
    (hok : ordOK ops (accs.reverse.set j0 ([], [], false)) = true)
    (hw : ∀ i p, accs.reverse[i]? = some p → i ≠ i0 → p.1 = []) (hwi : ∀ p, accs.reverse[i0]? = some p → ∀ q ∈ p.1, q = b) (hij : i0 ≠ j0)
    (ho : ops[j0]? = some o) (hg : o.guard = none) (hd : o.dst = some d) (hl : looks ops o = [t]) (hacc : accs.reverse[j0]? = some ([], [b], false)) (hdn : d < E.nt)
    (honed : ∀ i o', ops[i]? = some o' → o'.dst = some d → i = j0) (honet : ∀ i o', ops[i]? = some o' → o'.dst = some t → i < j0) (hopr : ∀ x ∈ o.op.operands, x = .tmp t)
    (hb1 : mget σ.me b = some b1) (hb2 : mget σ'.me b = some b2)
    (habs : ∀ B, B = b1 ∨ B = b2 → absOp E.T E.eqt E.np (E.own rid j0) (fun _ => some B) (fun _ => tget σ'.tm t) o nx = some ⟨true, tget σ'.tm d, [], [b], nx⟩) :
    Leads E.np E.nt P (.region rid ops true) σ .normal σ' := by
  obtain ⟨cs, σ2, h1, h2⟩ := xops_sound hE ops.toList 0 σ [] _ (fun j x hx => by simpa using hx) hx
  simp only [Option.some.injEq, Prod.mk.injEq, List.append_nil] at h1
  obtain ⟨rfl, h1⟩ := h1
  have hmap : cs.map (fun c => (c.wr.map (·.1), c.acc, c.all)) = accs.reverse := by rw [← h1, List.reverse_reverse]
  generalize accs.reverse = ac at *
  refine fun C hnp hnt _ Q hQ pl S a w hI => wp_region_any hm ?_
  have hch := h2.at hnp hnt
  have hlen := hch.len
  obtain ⟨hst, hT, hM⟩ := hch.states
  have hf : (fun j => (Array.replicate ops.size false).getD j false) = fun _ => false := by
    funext j
    rw [Array.getD_eq_getD_getElem?, Array.getElem?_replicate]
    split <;> rfl
  have hcwr : ∀ i p, (ops.toList.zip cs)[i]? = some p → i ≠ i0 → p.2.wr = [] := by
    intro i p hp hne
    have := getQ_of_map hmap (List.getElem?_zip_eq_some.1 hp).2
    have := hw i _ this hne
    simpa using this
  refine wp_any2 (j0 := j0) hch hok ?_ ?_ ?_ hQ ops.size _ a _ pl S (by simp) ?_ ?_ ?_
  · intro i c hci
    have := getQ_of_map hmap hci
    rw [List.getElem?_set]
    unfold accJ
    by_cases e : j0 = i
    · subst e
      rw [if_pos rfl, if_pos (List.getElem?_eq_some_iff.1 this).1, Nat.beq_refl]
    · rw [if_neg e, this]
      cases hb : Nat.beq i j0 with
      | true => exact absurd (Nat.eq_of_beq_eq_true hb).symm e
      | false => rfl
  · intro c hcj
    have := getQ_of_map hmap hcj
    rw [hacc] at this
    simp only [Option.some.injEq, Prod.mk.injEq] at this
    simpa using this.1.symm
  · intro D o' c hoc
    obtain ⟨hoj, hcj⟩ := List.getElem?_zip_eq_some.1 hoc
    have hoo : o' = o := by
      have : ops.toList[j0]? = some o := by simpa using ho
      rw [this] at hoj; cases hoj; rfl
    subst hoo
    have hca := getQ_of_map hmap hcj
    rw [hacc] at hca
    simp only [Option.some.injEq, Prod.mk.injEq] at hca
    have hcw : c.wr = [] := by simpa using hca.1.symm
    have hcsv : c.sv = tget σ2.tm d := by
      rw [← hT]
      exact (tmD_last (i0 := j0) hoc hd rfl (fun j p hj hlt _ he => by
        have := honed j p.1 (by have := (List.getElem?_zip_eq_some.1 hj).1; simpa using this) he
        omega)).symm
    have htt : tmD (fun m => decide (m < j0)) 0 (ops.toList.zip cs) (tget σ.tm) t = tget σ2.tm t := by
      rw [← hT]
      refine tmD_agree rfl (fun j p hj he => ?_)
      have := honet j p.1 (by have := (List.getElem?_zip_eq_some.1 hj).1; simpa using this) he
      simp; omega
    have hmb : meD D 0 (ops.toList.zip cs) (mget σ.me) b = some b1 ∨ meD D 0 (ops.toList.zip cs) (mget σ.me) b = some b2 := by
      by_cases hD : D i0 = true
      · right
        rw [← hb2, ← hM]
        refine meD_agree rfl (fun j p hj hd' => ?_)
        have : j = i0 := Classical.byContradiction fun hne => hd' (by rw [hcwr j p hj hne]; rfl)
        subst this
        rw [Nat.zero_add]; exact hD
      · left
        rw [← hb1]
        have := meD_agree (D := D) (D' := fun _ => false) (q := b) (l := ops.toList.zip cs) (i := 0) (me := mget σ.me) (me' := mget σ.me) rfl (fun j p hj hd' => by
          have : j = i0 := Classical.byContradiction fun hne => hd' (by rw [hcwr j p hj hne]; rfl)
          subst this
          rw [Nat.zero_add]
          simpa using hD)
        rw [this, meD_none]
    refine just_of_runs ho (fun d' hd' => by rw [hd] at hd'; cases hd'; rw [← hnt]; exact hdn) (fun j hj => by rw [hcw] at hj; exact absurd rfl hj) (fun _ _ _ _ _ _ _ _ => wanted_none hg) (fun tm me pl S a w hI hlk hac _ => ?_)
    have ht1 : tm t = tget σ2.tm t := by rw [hlk t (by rw [hl]; simp), htt]
    have hB : ∃ B, (B = b1 ∨ B = b2) ∧ me b = some B := by
      have := hac b (by rw [← hca.2.1]; simp)
      rcases hmb with h | h
      · exact ⟨b1, .inl rfl, this.trans h⟩
      · exact ⟨b2, .inr rfl, this.trans h⟩
    obtain ⟨B, hB1, hB2⟩ := hB
    have := absOp_sound (C := C) (tm := tm) (me := me) (pl := pl) (S := S) (a := a) (w := w) hE.tab hE.eq hnp (habs B hB1) rfl (fun i hi => by simp only [List.mem_singleton] at hi; subst hi; exact hB2) hI (fun x hx => by
      rw [hopr x hx]
      have := hI.tms t
      rw [ht1] at this
      exact this)
    rw [hcsv, hcw]
    exact this
  · rw [hf]; intro j hj; cases hj
  · exact Nat.le_trans List.countP_le_length (by simp)
  · rw [hf, tmD_none, meD_none]
    exact Inv.drew hI
end
end Go.PG
namespace Go.PG
theorem add64_ok {P : Program} {f : FuncId} {fn : Func} (hf : P.funcs[f]? = some fn) (hname : (fn.name == "runtime.NumGoroutine") = false) (hb : fn.body.isNone = true) (hn : Extern.findNext fn = none) (he : Extern.find fn = some Go.add64Entry) :
    Ent.OK P ⟨f, [(false, .int .u64), (false, .int .u64), (false, .int .u64)], [(false, .int .u64), (false, .int .u64)], fun _ x k => match decide (0 ≤ (show Int from x.1) ∧ 0 ≤ (show Int from x.2.1) ∧ 0 ≤ (show Int from x.2.2.1) ∧ (show Int from x.2.2.1) ≤ 1) with
      | true => k (((show Int from x.1) + (show Int from x.2.1) + (show Int from x.2.2.1)) % 18446744073709551616, ((show Int from x.1) + (show Int from x.2.1) + (show Int from x.2.2.1)) / 18446744073709551616, ()) ()
      | false => none⟩ := by
  intro R x k r h
  obtain ⟨a, b, c, u⟩ := x
  simp only at h
  split at h <;> try (cases h; done)
  rename_i hd
  obtain ⟨h1, h2, h3, h4⟩ := of_decide_eq_true hd
  refine ⟨_, _, .inr ⟨rfl, fun w S vs hS hA => ?_⟩, h⟩
  obtain ⟨va, vs1, rfl, ha, vb, vs2, rfl, hb', vc, vs3, rfl, hc, e1, rfl⟩ := hA
  have ea : va = .int .u64 a := VRd.int.1 ha
  have eb : vb = .int .u64 b := VRd.int.1 hb'
  have ec : vc = .int .u64 c := VRd.int.1 hc
  subst ea eb ec
  refine ⟨_, w, ?_, S, _, [], rfl, fun _ h => h, fun b hb => ⟨hS b hb, .inl hb⟩, ⟨rfl, rfl, rfl, Nat.le_refl _, fun _ _ _ => rfl, fun e he => (by cases he)⟩, ⟨.int .u64 ((a + b + c) % 18446744073709551616), _, rfl, VRd.int.2 rfl, .int .u64 ((a + b + c) / 18446744073709551616), _, rfl, VRd.int.2 rfl, rfl, rfl⟩, List.nodup_nil, rfl⟩
  rw [Go.run_callFunc_extern hf hname hb hn he, Go.run_add64 a b c h1 h2 h3 h4 w]
  rfl
end Go.PG
namespace Go.PG
section
variable {P : Program} {R : Type} {E : Env R}
theorem tmsOf_get : ∀ (l : List SV) (i t : Nat), tget (tmsOf l i) t = if i ≤ t then (l[t - i]?).getD .dead else .dead
  | [], i, t => by simp [tmsOf, tget]
  | sv :: l, i, t => by
    simp only [tmsOf]
    rw [tget_cons]
    by_cases e : t = i
    · subst e; simp
    · rw [upd_other _ _ e, tmsOf_get l (i + 1) t]
      by_cases h : i ≤ t
      · rw [if_pos h, if_pos (by omega), show t - i = (t - (i + 1)) + 1 by omega, List.getElem?_cons_succ]
      · rw [if_neg h, if_neg (by omega)]
theorem SVL.get {S : Nat → Prop} {w : World} {me : Nat → Option Blk} {pl : Nat → Plc} : ∀ {l : List SV} {vs : List Value}, SVL S w me pl l vs → vs.length = l.length ∧ ∀ t sv, l[t]? = some sv → G S w me pl sv (vs.getD t undef)
  | [], vs, h => by
    have : vs = [] := h
    subst this
    exact ⟨rfl, fun t sv ht => by simp at ht⟩
  | s :: l, vs, h => by
    obtain ⟨v, vs', rfl, h1, h2⟩ := h
    obtain ⟨h3, h4⟩ := h2.get
    refine ⟨by simp [h3], fun t sv ht => ?_⟩
    cases t with
    | zero => simp only [List.getElem?_cons_zero, Option.some.injEq] at ht; subst ht; simpa using h1
    | succ t => simp only [List.getElem?_cons_succ] at ht; simpa using h4 t sv ht
theorem resIn_sound {C : Ctx} {tm0 : List (Nat × SV)} {me : Nat → Option Blk} {pl : Nat → Plc} {S : Nat → Prop} {a : Act} {w : World} (hT : TabOK P E.T) (hI : Inv C (tget tm0) me pl S a w) : ∀ (res : List ResultVar) (rs : List SV), resIn E me tm0 res = some rs →
    ∃ vs, ResV P w a.tmps (res.map fun r => (r, 0, false)) vs ∧ SVL S w me pl rs vs
  | [], rs, h => by
    simp only [resIn, Option.some.injEq] at h
    subst h
    exact ⟨[], rfl, rfl⟩
  | .tmp t :: l, rs, h => by
    simp only [resIn] at h
    split at h <;> try (cases h; done)
    rename_i r hr
    simp only [Option.some.injEq] at h
    subst h
    obtain ⟨vs, h1, h2⟩ := resIn_sound hT hI l r hr
    exact ⟨a.tmps.getD t undef :: vs, ⟨vs, rfl, h1⟩, ⟨_, vs, rfl, hI.tms t, h2⟩⟩
  | .cell t ty :: l, rs, h => by
    simp only [resIn] at h
    split at h <;> try (cases h; done)
    rename_i q r hq hr
    split at h <;> try (cases h; done)
    simp only [Option.some.injEq] at h
    subst h
    obtain ⟨vs, h1, h2⟩ := resIn_sound hT hI l r hr
    obtain ⟨u, hu, _, hGu⟩ := aLoad_sound hT hq (fun _ _ => rfl) hI (hI.tms t)
    exact ⟨u :: vs, ⟨u, vs, rfl, load_cell hu, h1⟩, ⟨u, vs, rfl, hGu, h2⟩⟩
theorem xinl_sound (hE : EnvOK P E) (hm : P.follows .mixedOrders = true) {f : FuncId} {fn : Func} {body : Code} (hf : P.funcs[f]? = some fn) (hb : fn.body = some body) (hname : (fn.name == "runtime.NumGoroutine") = false)
    (hnt : fn.ntmps = E.nt) {res : List ResultVar} (hres : fn.results.toList = res) {n : Nat} (hn : n ≤ E.nt) (hl : loopsOf body = []) :
    ∀ svs me nx K r, xinl E body res n svs me nx K = some r → ∃ rs me' nx', K rs me' nx' = some r ∧ (∀ args w, (callFunc f args).run P w = .ok (.enter f args) w) ∧
      ∀ (C : Ctx) (tm : Nat → SV) (pl : Nat → Plc) (S : Nat → Prop) (a : Act) (w : World) (vs : List Value), E.np = C.pp.length → Inv C tm (mget me) pl S a w → SVL S w (mget me) pl svs vs →
        Calls P f vs.toArray w fun
          | .returned v, w' => ∃ pl' S' vs', Inv C tm (mget me') pl' S' a w' ∧ v = packV vs' ∧ SVL S' w' (mget me') pl' rs vs'
          | _, _ => False := by
  intro svs me nx K r h
  unfold xinl at h
  split at h <;> try (cases h; done)
  rename_i hlen
  have hlen := Nat.eq_of_beq_eq_true hlen
  obtain ⟨e, σ, h1, h2⟩ := exec_sound hE hm body (by rw [hl]; intro l h; cases h) _ _ _ h
  have he : (e = .normal ∨ e = .ret) ∧ ∃ rs, resIn E (mget σ.me) σ.tm res = some rs ∧ K rs σ.me σ.nx = some r := by
    cases e with
    | exit i => simp at h1
    | normal =>
      simp only at h1
      split at h1 <;> try (cases h1; done)
      rename_i rs hrs
      exact ⟨.inl rfl, rs, hrs, h1⟩
    | ret =>
      simp only at h1
      split at h1 <;> try (cases h1; done)
      rename_i rs hrs
      exact ⟨.inr rfl, rs, hrs, h1⟩
  obtain ⟨he, rs, hrs, hK⟩ := he
  refine ⟨rs, σ.me, σ.nx, hK, enters hf hname (by rw [hb]; rfl), fun C tm pl S a w vs hnp hI hA => ?_⟩
  obtain ⟨hvl, hvg⟩ := hA.get
  refine calls_of_wp hf hb ?_
  let C' : Ctx := ⟨C.w0, C.S0, E.nt, C.pp, fun sv v => C.gh sv v ∨ ∃ t, sv = tm t ∧ v = a.tmps.getD t undef⟩
  refine h2 C' hnp rfl (fun hl' => absurd hl hl') (bodyPost P fn _) (fun pl' S' a' w' hI' => ?_) pl S _ w ?_
  · obtain ⟨vs', hv1, hv2⟩ := resIn_sound hE.tab hI' res rs hrs
    have hrun := results_run (P := P) (w := w') (fn := fn) (res := res.map fun r => (r, 0, false)) (by rw [hres, List.map_map]; simp [Function.comp_def]) hv1
    have hback : Inv C tm (mget σ.me) pl' S' a w' := by
      refine ⟨hI.nt, hI.df, fun t => hI'.gho _ _ (.inr ⟨t, rfl, rfl⟩), hI'.mem, hI'.plcs, hI'.dis, hI'.s0, hI'.sfr, hI'.fr, hI'.pd, fun sv v hg => hI'.gho sv v (.inl hg)⟩
    rcases he with rfl | rfl
    · exact ⟨hI'.df, _, hrun, pl', S', _, hback, rfl, hv2⟩
    · exact ⟨hI'.df, _, hrun, pl', S', _, hback, rfl, hv2⟩
  · have hsz : (vs.toArray ++ Array.replicate (fn.ntmps - vs.toArray.size) undef).size = E.nt := by
      simp only [Array.size_append, Array.size_replicate, List.size_toArray]
      omega
    refine ⟨hsz, rfl, fun t => ?_, hI.mem, hI.plcs, hI.dis, hI.s0, hI.sfr, hI.fr, hI.pd, fun sv v hg => ?_⟩
    · rw [tmsOf_get, if_pos (Nat.zero_le t), Nat.sub_zero]
      cases hs : svs[t]? with
      | none => trivial
      | some sv =>
        have hlt := (List.getElem?_eq_some_iff.1 hs).1
        have := hvg t sv hs
        have e1 : (vs.toArray ++ Array.replicate (fn.ntmps - vs.toArray.size) undef).getD t undef = vs.getD t undef := by
          rw [Array.getD_eq_getD_getElem?, Array.getElem?_append_left (by simp; omega)]
          simp
        rw [e1]
        exact this
    · rcases hg with hg | ⟨t, rfl, rfl⟩
      · exact hI.gho sv v hg
      · exact hI.tms t
theorem inlOK_nil {np : Nat} : InlOK (R := R) P np (inlOf []) := fun _ _ _ _ _ _ h => by cases h
theorem inlOK_cons {np : Nat} {f : FuncId} {run : List SV → List (Nat × Blk) → Nat → (List SV → List (Nat × Blk) → Nat → Option R) → Option R} {l : List (FuncId × (List SV → List (Nat × Blk) → Nat → (List SV → List (Nat × Blk) → Nat → Option R) → Option R))}
    (h : ∀ svs me nx K r, run svs me nx K = some r → ∃ rs me' nx', K rs me' nx' = some r ∧ (∀ args w, (callFunc f args).run P w = .ok (.enter f args) w) ∧
      ∀ (C : Ctx) (tm : Nat → SV) (pl : Nat → Plc) (S : Nat → Prop) (a : Act) (w : World) (vs : List Value), np = C.pp.length → Inv C tm (mget me) pl S a w → SVL S w (mget me) pl svs vs →
        Calls P f vs.toArray w fun
          | .returned v, w' => ∃ pl' S' vs', Inv C tm (mget me') pl' S' a w' ∧ v = packV vs' ∧ SVL S' w' (mget me') pl' rs vs'
          | _, _ => False) (hl : InlOK P np (inlOf l)) : InlOK P np (inlOf ((f, run) :: l)) := by
  intro g svs me nx K r hh
  simp only [inlOf] at hh
  split at hh
  · rename_i hb
    have := Nat.eq_of_beq_eq_true hb
    subst this
    exact h svs me nx K r hh
  · exact hl g svs me nx K r hh
end
end Go.PG
