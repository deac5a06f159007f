/- A part of the proofs over this seat (own work; the framework that reads a Go function as a pure one, or a use of it). No condition of its own. -/
import Derived.Test.YtckdjafnemoloaaPHF
set_option linter.unusedVariables false
set_option linter.unusedSimpArgs false
namespace Go.PG
open Go.ChangeShapes Go.WideShapes Go.ChangeAt Go.RowKit
section
variable {P : Program} {T : Tab} {w : World} {H : Type} {enc : TypeId × Value → H}

theorem cell_spot {r : Go.Reach} {base : Nat} {u : TypeId} {a : Addr} {n cap : Nat} (h : Cell.okWide P w r base u (.slice (some a) n cap)) : a.spot = none ∧ ∃ c t fr, w.heap[a.block]? = some (.cells c t fr) := by
  have key : ∀ e, w.has P r base a e cap → a.spot = none ∧ ∃ c t fr, w.heap[a.block]? = some (.cells c t fr) := by
    intro e hh
    obtain ⟨_, h2, row, cells, h3, _⟩ := hh
    refine ⟨h2, ?_⟩
    unfold World.shape? at h3
    split at h3 <;> try (cases h3; done)
    rename_i c t fr hc
    exact ⟨c, t, fr, hc⟩
  unfold Cell.okWide at h
  cases hu : P.underlying u with
  | none => rw [hu] at h; simp [Cell.ok, hu] at h
  | some d =>
    rw [hu] at h
    cases d <;> simp [Cell.ok, hu] at h
    exact key _ h.2.2

theorem value_spot {r : Go.Reach} {base : Nat} {t : TypeId} {v : Value} (h : Value.okWide P w r base t v) : SpotOK w v.cells.toList := by
  intro a n cap hm
  unfold Value.okWide at h
  have agg : (∃ cs, v = .agg cs ∧ cs.size = P.cellsOf t ∧ Row.okWide P w r base t cs) → a.spot = none ∧ ∃ c t fr, w.heap[a.block]? = some (.cells c t fr) := by
    rintro ⟨cs, rfl, _, ts, _, _, hcell⟩
    simp only [Value.cells] at hm
    obtain ⟨i, hi, hv⟩ := List.getElem_of_mem hm
    obtain ⟨u, _, hu⟩ := hcell i (.slice (some a) n cap) (by rw [← Array.getElem?_toList, List.getElem?_eq_getElem hi, hv])
    exact cell_spot hu
  have one : Cell.okWide P w r base t v → a.spot = none ∧ ∃ c t fr, w.heap[a.block]? = some (.cells c t fr) := by
    intro h
    by_cases hv : ∃ cs, v = .agg cs
    · obtain ⟨cs, rfl⟩ := hv
      unfold Cell.okWide at h
      cases hu : P.underlying t with
      | none => rw [hu] at h; simp [Cell.ok, hu] at h
      | some d => rw [hu] at h; cases d <;> simp [Cell.ok, hu] at h
    · have : v.cells = #[v] := by cases v <;> first | rfl | exact absurd ⟨_, rfl⟩ hv
      rw [this] at hm
      simp at hm
      subst hm
      exact cell_spot h
  split at h
  · exact agg h
  · exact agg h
  · exact one h

theorem arg_rd (hT : TabOK P T) {r : Go.Reach} {base : Nat} {t : TypeId} {k : Kd} {v : Value} {d : DataW H} {ps : List MemPlace} (hk : tkd T t = some k) (hso : k.slOK = true) (hok : Value.okWide P w r base t v)
    (h : DataW.Trod enc P w 0 (fun _ => true) true t v d ps) : ∃ y : k.T, VRd (fun b => b < w.heap.size) w k y v ∧ Fit k y := by
  obtain ⟨fuel, hf⟩ := h
  obtain ⟨y, h1, h2⟩ := trod_rd hT (k.dep + 1) k (Nat.lt_succ_self _) t hk hso fuel _ _ (.inr (value_spot hok)) hf
  refine ⟨y, ⟨_, h1, ?_⟩, h2⟩
  obtain ⟨e, e1, e2⟩ := agg_of hT hk
  unfold Kd.mkV
  rw [← e2]
  unfold Value.okWide at hok
  rw [e1] at hok
  have one : Cell.okWide P w r base t v → v.cells = #[v] := by
    intro h
    by_cases hv : ∃ cs, v = .agg cs
    · obtain ⟨cs, rfl⟩ := hv
      unfold Cell.okWide at h
      rw [e1] at h
      cases e <;> simp [Cell.ok, e1] at h
    · cases v <;> first | rfl | exact absurd ⟨_, rfl⟩ hv
  cases e <;> simp only [isAggD, if_true, Bool.false_eq_true, if_false] at hok ⊢
  case struct => obtain ⟨cs, rfl, _⟩ := hok; simp [Value.cells]
  case array => obtain ⟨cs, rfl, _⟩ := hok; simp [Value.cells]
  all_goals (rw [one hok]; rfl)

def insOK (T : Tab) : Ins → List TypeId → Bool
  | [], [] => true
  | (b, k) :: l, t :: ts => Bool.not b && kdIs T t k && k.slOK && insOK T l ts
  | _, _ => false
def FitA : (l : Ins) → AT l → Prop
  | [], _ => True
  | (_, k) :: l, x => Fit k x.1 ∧ FitA l x.2

theorem args_rd (hT : TabOK P T) {r : Go.Reach} {base : Nat} : ∀ (ins : Ins) (ts : List TypeId) (vs : List Value) (ds : List (DataW H)) (ps : List MemPlace), insOK T ins ts = true → DataW.TrodAll enc P w 0 (fun _ => true) true ts vs ds ps →
    (∀ (j : Nat) t v, ts[j]? = some t → vs[j]? = some v → Value.okWide P w r base t v) → ∃ x : AT ins, ArgsG (fun b => b < w.heap.size) w (avs ins x) [] vs ∧ FitA ins x
  | [], [], vs, ds, ps, _, h, _ => by
    cases vs <;> cases ds <;> simp [DataW.TrodAll] at h
    exact ⟨(), ⟨rfl, rfl⟩, trivial⟩
  | [], _ :: _, _, _, _, h, _, _ => by simp [insOK] at h
  | (b, k) :: l, [], _, _, _, h, _, _ => by simp [insOK] at h
  | (b, k) :: l, t :: ts, vs, ds, ps, h, ht, hok => by
    simp only [insOK, Bool.and_eq_true, Bool.not_eq_true'] at h
    obtain ⟨⟨⟨h0, h1⟩, h2⟩, h3⟩ := h
    subst h0
    cases vs with
    | nil => simp [DataW.TrodAll] at ht
    | cons v vs =>
      cases ds with
      | nil => simp [DataW.TrodAll] at ht
      | cons d ds =>
        obtain ⟨p, q, ht1, ht2, _⟩ := ht
        obtain ⟨y, g1, g2⟩ := arg_rd hT (kdIs_some h1) h2 (hok 0 t v rfl rfl) ht1
        obtain ⟨z, g3, g4⟩ := args_rd hT l ts vs ds q h3 ht2 (fun j t v h5 h6 => hok (j + 1) t v (by simpa using h5) (by simpa using h6))
        exact ⟨(y, z), ⟨v, vs, rfl, g1, g3⟩, g2, g4⟩

theorem trodAll_stays (hl : laidOutB P = true) {W W' : World} (hb : Below W.heap.size W W') : ∀ {ts : List TypeId} {vs : List Value} {ds : List (DataW H)} {ps : List MemPlace}, (ts.all fun t => P.readableRec t && decide (t < P.types.size)) = true →
    DataW.TrodAll enc P W 0 (fun _ => true) true ts vs ds ps → (∀ x ∈ ps, x.block < W.heap.size) → DataW.TrodAll enc P W' 0 (fun b => decide (b < W.heap.size)) true ts vs ds ps
  | [], vs, ds, ps, _, h, _ => by
    cases vs <;> cases ds <;> simp [DataW.TrodAll] at h ⊢
    exact h
  | t :: ts, [], ds, ps, _, h, _ => by simp [DataW.TrodAll] at h
  | t :: ts, v :: vs, [], ps, _, h, _ => by simp [DataW.TrodAll] at h
  | t :: ts, v :: vs, d :: ds, ps, hr, ⟨p, q, h1, h2, e⟩, hlt => by
    rw [List.all_cons, Bool.and_eq_true, Bool.and_eq_true] at hr
    subst e
    exact ⟨p, q, Below.trod hl hr.1.1 (of_decide_eq_true hr.1.2) h1 hb (fun x hx => hlt x (List.mem_append_left _ hx)), trodAll_stays hl hb hr.2 h2 (fun x hx => hlt x (List.mem_append_right _ hx)), rfl⟩

/-- **A law of plain data: what its pure reading answers is what its call answers.** -/
theorem law_calls (hT : TabOK P T) (hl : laidOutB P = true) {f : FuncId} {fn : Func} {s : ChangeSpec} {ins : Ins} {F : (R : Type) → AT ins → (RT [(false, .bool)] → PT ins → Option R) → Option R}
    (hH : Ent.OK P ⟨f, ins, [(false, .bool)], F⟩) (hF : ∀ x, FitA ins x → F Unit x (fun y _ => match y.1 with | true => some () | false => none) = some ())
    (hins : insOK T ins fn.params.toList = true) (hread : (fn.params.toList.all fun t => P.readableRec t && decide (t < P.types.size)) = true) {tb : TypeId} (hres : fn.resultTypes = #[tb]) (htb : P.underlying tb = some .bool) (hvars : s.vars = [])
    (hs : ∀ ds : List (DataW H), ds.length = fn.params.size → (s.fn H ds).results = [.lit (.bool true)] ∧ (s.fn H ds).args = ds ∧ (s.fn H ds).vars = [])
    (W : World) (base : Nat) (args : Array Value) (ds gs : List (DataW H)) (before : List MemPlace)
    (hval : ∀ (j : Nat) t v, fn.params[j]? = some t → args[j]? = some v → Value.okWide P W .any base t v)
    (hW : DataW.Whole enc P fn.params.toList s.vars false W args.toList ds gs before) :
    Calls P f args W fun e W' => ∃ v, e = .returned v ∧ s.post enc P fn false true false false W args v W' := by
  have hW' := hW
  obtain ⟨p, q, hA, hV, rfl, _, _⟩ := hW
  rw [hvars] at hV
  obtain ⟨rfl, rfl⟩ := trodVars_none hV
  have hlt : ∀ x ∈ p, x.block < W.heap.size := fun x hx => hW'.lt x (by simpa using hx)
  obtain ⟨x, hargs, hfit⟩ := args_rd hT ins fn.params.toList args.toList ds p hins hA (fun j t v h1 h2 => hval j t v (by simpa using h1) (by simpa using h2))
  obtain ⟨y, pp, hHo, hk⟩ := hH Unit x _ _ (hF x hfit)
  have hy : y.1 = true := by
    cases hy : y.1 with
    | true => rfl
    | false => simp only [hy] at hk; cases hk
  have hC := hHo.2 W (fun b => b < W.heap.size) [] args.toList (fun b hb => hb) (by simp) hargs
  have harr : args.toList.toArray = args := by simp
  rw [harr] at hC
  refine hC.mono fun e W' he => ?_
  cases e with
  | panicked _ => exact he.elim
  | outgrown => exact he.elim
  | returned v =>
    obtain ⟨S', vs, gs, rfl, _, _, hfr, hres', _, _⟩ := he
    refine ⟨_, rfl, ?_⟩
    have hb : Below W.heap.size W W' := ⟨hfr.os, hfr.tape, hfr.output, hfr.size, fun k hk => hfr.block k hk (fun e he => by cases he)⟩
    obtain ⟨v1, vs', rfl, hv1, e1⟩ := hres'
    obtain ⟨rfl, _⟩ := e1
    have hv : v1 = .bool true := by
      have h1 : VRd S' W' .bool y.1 v1 := hv1
      rw [hy] at h1
      exact VRd.bool.1 h1
    subst hv
    have hlen : ds.length = fn.params.size := by
      have : ∀ {ts : List TypeId} {vs : List Value} {ds : List (DataW H)} {ps : List MemPlace}, DataW.TrodAll enc P W 0 (fun _ => true) true ts vs ds ps → ds.length = ts.length := by
        intro ts
        induction ts with
        | nil => intro vs ds ps h; cases vs <;> cases ds <;> simp [DataW.TrodAll] at h ⊢
        | cons t ts ih =>
          intro vs ds ps h
          cases vs <;> cases ds <;> simp only [DataW.TrodAll] at h
          obtain ⟨_, _, _, h2, _⟩ := h
          simp [ih h2]
      rw [this hA]; simp
    obtain ⟨s1, s2, s3⟩ := hs ds hlen
    refine ⟨ds, [], p ++ [], [], p, [], hW', ?_, ?_, ?_, hb.frame _, fun h => by cases h⟩
    · rw [List.append_nil, s1, hres]
      exact trodAll_mk1 ⟨1, by simp [packV, Value.resultList, Value.cells, DataW.trod, htb]⟩
    · rw [List.append_nil, s2]
      exact trodAll_stays hl hb hread hA hlt
    · rw [hvars, List.append_nil, s3]; rfl
end
end Go.PG
