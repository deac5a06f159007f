/- A part of the proofs over this seat (own work; the framework that reads a Go function as a pure one, or a use of it). No condition of its own. -/
import Derived.Test.YtckdjafnemoloaaPGN
set_option linter.unusedVariables false
set_option linter.unusedSimpArgs false
namespace Go.PG
section
variable {C : Ctx} {tm : Nat → SV} {me : Nat → Option Blk} {pl : Nat → Plc} {S : Nat → Prop} {a : Act} {w : World} {P : Program} {T : Tab}

/-! rows of zeros -/
theorem made_succ (z : Array Value) (n : Nat) : (madeCells z ((n + 1) * z.size)).toList = z.toList ++ (madeCells z (n * z.size)).toList := by
  have hl : (madeCells z ((n + 1) * z.size)).toList.length = (z.toList ++ (madeCells z (n * z.size)).toList).length := by
    simp [size_madeCells, Nat.add_mul]; omega
  apply List.ext_getElem hl
  intro i h1 h2
  rw [List.getElem_append]
  have hN : i < (n + 1) * z.size := by simpa [size_madeCells] using h1
  simp only [madeCells, Array.getElem_toList, Array.getElem_map, Array.getElem_range]
  split
  · rename_i hi
    have hi' : i < z.size := by simpa using hi
    rw [Nat.mod_eq_of_lt hi']
    simp [hi']
  · rename_i hi
    have hi' : z.size ≤ i := by simpa using hi
    have e : (i - z.toList.length) % z.size = i % z.size := by
      simp only [Array.length_toList]
      rw [← Nat.mod_eq_sub_mod hi']
    rw [e]
theorem RdL.made {α : Type} {R : α → List Value → Prop} {x : α} {z : Array Value} (h : R x z.toList) : ∀ n, RdL R (List.replicate n x) (madeCells z (n * z.size)).toList
  | 0 => by simp [madeCells, RdL]
  | n + 1 => by
    rw [made_succ, List.replicate_succ]
    exact ⟨_, _, rfl, h, RdL.made h n⟩

theorem make_core (hT : TabOK P T) {np : Nat} (hnp : np = C.pp.length) {t et : TypeId} {e : Kd} {dd : TyD} {nx : Nat} (hkt : tkd T t = some (.sl e)) (hd : tdesc T t = some (.slice et)) (hdd : tlook T et = some dd) (hmn : me nx = none) (hfr2 : np ≤ nx)
    (hI : Inv C tm me pl S a w) (l c : Int) (h0 : 0 ≤ l) (h1 : l ≤ c) (h2 : c ≤ ((LIMB / dd.bytes : Nat) : Int)) :
    ∃ u w', (Instr.makeSlice t (.int .i64 l) (.int .i64 c)).run P w = .ok u w' ∧ After C tm me (.own nx 0) [(nx, .row e (List.replicate l.toNat e.zero) 0 false)] a u w' := by
  obtain ⟨i, hi, hi2, hi3, hi4⟩ := (hT et dd hdd).info
  have hkd : dd.kd = some e := by
    have := tkd_sl hT hkt hd
    simpa [tkd, hdd] using this
  obtain ⟨z, hz1, hz2⟩ := hi4 e hkd
  have hisz : i.size = e.size := by rw [hi2, ((hT et dd hdd).kd e hkd).1]
  have hzs := zcells_size e hz2
  have hcn : c.toNat ≤ LIMB / dd.bytes := by omega
  have hb : c.toNat * dd.bytes ≤ 140737488355328 := by
    have := (limb (n := 0) (m := c.toNat) (b := dd.bytes) (by rw [Nat.zero_add]; exact hcn)).1
    simpa using this
  have hc2 : c.toNat ≤ 140737488355328 := by
    rcases Nat.eq_zero_or_pos dd.bytes with h3 | h3
    · rw [h3] at hcn; simp at hcn; omega
    · exact Nat.le_trans (Nat.le_mul_of_pos_right _ h3) hb
  have hbi : (i.bytes : Int) * c ≤ 281474976710656 := by
    have : (c : Int) = (c.toNat : Int) := by omega
    rw [this, hi3, ← Int.natCast_mul, Nat.mul_comm]
    omega
  have hrun := run_make (P := P) w t et i z (tdesc_some hT hd) hi hz1 .i64 .i64 l c h0 h1 hbi (by omega)
  refine ⟨_, _, hrun, upd pl nx ⟨some w.heap.size, 0, c.toNat⟩, S, ?_, ?_⟩
  · rw [laid_cons, laid_nil]
    refine hI.grownRow (fun b0 hb0 => by rw [hmn] at hb0; cases hb0) (by omega) (by simp; omega) (by simp only [maxLen]; omega) (by rw [size_madeCells, hisz]) ?_
    have hR := RdL.made (R := Rd S w e) (x := e.zero) (z := z.cells) (by rw [hz2]; exact Rd.zero e) c.toNat
    have := (RdL.take_drop (Rd.length e) hR l.toNat).1
    rw [hisz, ← hzs]
    rw [List.take_replicate, Nat.min_eq_left (by omega)] at this
    simpa [hzs] using this
  · rw [laid_cons, laid_nil]
    exact ⟨e, _, 0, false, upd_same _ _ _, Nat.le_refl _, fun _ => .inr ⟨w.heap.size, by simp, by simp⟩⟩

theorem aMakeSlice_sound (hT : TabOK P T) {np : Nat} (hnp : np = C.pp.length) {rd : Nat → Option Blk} {t : TypeId} {sl sc : SV} {nx : Nat} {r : ARes} {vl vc : Value} (h : aMakeSlice T np rd t sl sc nx = some r) (hok : r.ok = true) (hacc : ∀ i ∈ r.acc, me i = rd i)
    (hI : Inv C tm me pl S a w) (hGl : G S w me pl sl vl) (hGc : G S w me pl sc vc) : ∃ u w', (Instr.makeSlice t vl vc).run P w = .ok u w' ∧ After C tm me r.sv r.wr a u w' := by
  unfold aMakeSlice at h
  split at h <;> try (cases h; done)
  rename_i e et l c hkt hd hfr
  split at h <;> try (cases h; done)
  rename_i dd hdd
  simp only [Option.some.injEq] at h
  subst h
  rw [VRd.int.1 hGl, VRd.int.1 hGc]
  obtain ⟨hfr1, hfr2⟩ := fresh_spec hfr
  have hmn : me nx = none := by rw [hacc nx (by simp)]; exact hfr1
  obtain ⟨h0, h1, h2⟩ := of_decide_eq_true hok
  exact make_core hT hnp hkt hd hdd hmn hfr2 hI l c h0 h1 h2

/-! parts put in -/
theorem foldl_set (off : Nat) : ∀ (vs : List Value) (k : Nat) (cs : Array Value), off + k + vs.length ≤ cs.size →
    ((vs.zipIdx k).foldl (fun cs (c, j) => cs.setIfInBounds (off + j) c) cs).toList = cs.toList.take (off + k) ++ vs ++ cs.toList.drop (off + k + vs.length)
  | [], k, cs, h => by simp
  | v :: vs, k, cs, h => by
    simp only [List.length_cons] at h
    simp only [List.zipIdx_cons, List.foldl_cons]
    rw [foldl_set off vs (k + 1) (cs.setIfInBounds (off + k) v) (by simp; omega)]
    rw [Array.toList_setIfInBounds]
    have := list_seg_step cs.toList (off + k) v vs (by simp; omega)
    have e : off + k + (v :: vs).length = off + k + (vs.length + 1) := rfl
    rw [e, ← this]
    congr 2

theorem fill_step {place : Nat → Option (Nat × Nat)} {cells : Array Value} {i off size : Nat} {v : Value} {rest : List (Nat × Value)} (hp : place i = some (off, size)) (hs : v.cells.size = size) (hfit : off + size ≤ cells.size) :
    Instr.fill place cells ((i, v) :: rest) = Instr.fill place (cells.toList.take off ++ v.cells.toList ++ cells.toList.drop (off + size)).toArray rest := by
  subst hs
  simp only [Instr.fill, hp]
  rw [if_neg (by simp; omega)]
  congr 1
  apply Array.ext'
  have := foldl_set off v.cells.toList 0 cells (by simp; omega)
  simp only [Nat.add_zero, Array.length_toList] at this
  rw [List.toList_toArray, ← this, ← Array.foldl_toList]
  congr 1
  simp [Array.toList_zipIdx]

/-- Parts and values, one by one. -/
def PartsG (S : Nat → Prop) (w : World) (me : Nat → Option Blk) (pl : Nat → Plc) : List (Nat × SV) → List (Nat × Value) → Prop
  | [], vs => vs = []
  | (i, s) :: l, vs => ∃ v vs', vs = (i, v) :: vs' ∧ G S w me pl s v ∧ PartsG S w me pl l vs'

theorem PartsG.keeps {S' : Nat → Prop} {w' : World} {me' : Nat → Option Blk} {pl' : Nat → Plc} (h : Keeps S w me pl S' w' me' pl') : ∀ {l : List (Nat × SV)} {vs : List (Nat × Value)}, PartsG S w me pl l vs → PartsG S' w' me' pl' l vs
  | [], _, hh => hh
  | _ :: _, _, ⟨v, vs', e, h1, h2⟩ => ⟨v, vs', e, h1.keeps h, PartsG.keeps h h2⟩

theorem set1_lens {S : Nat → Prop} {k : Kd} {x x' : k.T} {s : Step} {k' : Kd} {y : k'.T} {o : Nat} {cs cy : List Value} (hr : Rd S w k x cs) (hok : k.ok1 s) (ho : k.off1 s = some (o, k')) (hset : set1 k x s ⟨k', y⟩ = some x') (hy : Rd S w k' y cy) :
    Rd S w k x' (cs.take o ++ cy ++ cs.drop (o + k'.size)) ∧ o + k'.size ≤ cs.length := by
  obtain ⟨k2, z, hget, has⟩ := get1_of_set1 hset
  have ek := as_kind has
  simp only at ek
  subst ek
  obtain ⟨o', ho', c1, c2, c3, e, hl, hr2, hs⟩ := lens1 k x cs s k' z hr hok hget
  rw [ho] at ho'
  cases ho'
  obtain ⟨z', hz', hh⟩ := hs y
  rw [hset] at hz'
  cases hz'
  have h2 := Rd.length _ z c2 hr2
  have h3 := hh S w cy (fun b hb => ⟨hb, rfl⟩) hy
  subst e
  have e1 : (c1 ++ c2 ++ c3).take o = c1 := by rw [← hl, List.append_assoc, List.take_left]
  have e2 : (c1 ++ c2 ++ c3).drop (o + k'.size) = c3 := by
    have : o + k'.size = (c1 ++ c2).length := by simp; omega
    rw [this, List.drop_left]
  rw [e1, e2]
  exact ⟨h3, by simp; omega⟩

theorem putParts_sound {np : Nat} (hnp : np = C.pp.length) {rd : Nat → Option Blk} (st : Bool) {k : Kd} {place : Nat → Option (Nat × Nat)} (hplace : ∀ i o k', k.off1 (if st then .fld i else .idx i) = some (o, k') → (k.ok1 (if st then .fld i else .idx i)) → place i = some (o, k'.size))
    (hI : Inv C tm me pl S a w) :
    ∀ (parts : List (Nat × SV)) (x x' : k.T) (cs : Array Value) (vs : List (Nat × Value)), (∀ p ∈ parts, k.ok1 (if st then .fld p.1 else .idx p.1)) → putParts np rd st k x parts = some x' → Rd S w k x cs.toList → PartsG S w me pl parts vs →
      ∃ cs', Instr.fill place cs vs = some cs' ∧ Rd S w k x' cs'.toList
  | [], x, x', cs, vs, _, h, hr, hp => by
    simp only [putParts, Option.some.injEq] at h
    subst h
    simp only [PartsG] at hp
    subst hp
    exact ⟨cs, rfl, hr⟩
  | (i, sv) :: l, x, x', cs, vs, hall, h, hr, hp => by
    obtain ⟨v, vs', rfl, hG, hp2⟩ := hp
    simp only [putParts] at h
    split at h <;> try (cases h; done)
    rename_i o k' ho
    split at h <;> try (cases h; done)
    rename_i y hval
    split at h <;> try (cases h; done)
    rename_i x1 hset
    obtain ⟨S', h1, h2, cy, h3, rfl⟩ := toVal_sound hnp hval (by simp) hI hG
    have hS : ∃ cy', Rd S w k' y cy' ∧ k'.mkV cy = k'.mkV cy' := by
      cases sv <;> simp only [toVal] at hval <;> try (cases hval; done)
      case nil =>
        cases k' <;> simp only [reduceCtorEq] at hval
        simp only [Option.some.injEq, Prod.mk.injEq] at hval
        obtain ⟨rfl, _, _⟩ := hval
        refine ⟨[.slice none 0 0], ⟨_, rfl, .inl ⟨rfl, rfl⟩⟩, ?_⟩
        simp only [G] at hG
        rw [hG]; rfl
      case val k0 x0 =>
        split at hval <;> try (cases hval; done)
        rename_i y' hy'
        simp only [Option.some.injEq, Prod.mk.injEq] at hval
        obtain ⟨rfl, _, _⟩ := hval
        have := TV.as_some hy'
        cases this
        obtain ⟨c, hc1, hc2⟩ := hG
        exact ⟨c, hc1, hc2⟩
      case own =>
        split at hval <;> try (cases hval; done)
        split at hval <;> try (cases hval; done)
      case win =>
        split at hval <;> try (cases hval; done)
        split at hval <;> try (cases hval; done)
      case asl =>
        split at hval <;> try (cases hval; done)
        split at hval <;> try (cases hval; done)
        split at hval <;> try (cases hval; done)
    obtain ⟨cy', hy, ev⟩ := hS
    rw [ev]
    have hok1 := hall (i, sv) (by simp)
    obtain ⟨hr2, hfit⟩ := set1_lens hr hok1 ho hset hy
    have hcl : cs.toList.length = cs.size := by simp
    have hys : (k'.mkV cy').cells.size = k'.size := by rw [hy.cells]; simpa using Rd.length k' y cy' hy
    rw [fill_step (hplace i o k' ho hok1) hys (by omega)]
    refine putParts_sound hnp st hplace hI l x1 x' _ vs' (fun p hp => hall p (by simp [hp])) h ?_ hp2
    rw [List.toList_toArray, hy.cells, List.toList_toArray]
    exact hr2

theorem aBuild_sound (hT : TabOK P T) {np : Nat} (hnp : np = C.pp.length) {rd : Nat → Option Blk} {t : TypeId} {parts : List (Nat × SV)} {nx : Nat} {r : ARes} {vs : List (Nat × Value)} (h : aBuild T np rd t parts nx = some r)
    (hI : Inv C tm me pl S a w) (hp : PartsG S w me pl parts vs) : ∃ u, (Instr.build t vs.toArray).run P w = .ok u w ∧ r.wr = [] ∧ G S w me pl r.sv u := by
  unfold aBuild at h
  split at h <;> try (cases h; done)
  rename_i d hd
  split at h <;> try (cases h; done)
  · rename_i k fs hk hdesc
    split at h <;> try (cases h; done)
    rename_i x hx
    simp only [ok1, Option.some.injEq] at h
    subst h
    have hkt : tkd T t = some k := by simp [tkd, hd, hk]
    have hdt : tdesc T t = some (.struct fs) := by simp [tdesc, hd, hdesc]
    obtain ⟨z, hz, hzc⟩ := run_zeroValue hT w hkt
    have hfo : fieldsOK T fs.toList 0 k = true := tkd_desc hT hkt hdt
    have hmap : ∃ places : Array (Nat × Nat), (fs.mapM (m := Sem) fun f => do pure (f.offset, ← sizeOf f.type)).run P w = .ok places w ∧ ∀ i o k', k.offF i = some (o, k') → places[i]? = some (o, k'.size) := by
      have aux : ∀ (l : List Field) (off : Nat) (k : Kd) (acc : Array (Nat × Nat)), fieldsOK T l off k = true → ∃ q : List (Nat × Nat), (l.foldlM (m := Sem) (fun (b : Array (Nat × Nat)) (f : Field) => do let r ← (do pure (f.offset, ← sizeOf f.type) : Sem (Nat × Nat)); pure (b.push r)) acc).run P w = .ok (acc ++ q.toArray) w ∧ ∀ i o k', k.offF i = some (o, k') → q[i]? = some (off + o, k'.size) := by
        intro l
        induction l with
        | nil => intro off k acc hf; exact ⟨[], by simp, fun i o k' ho => by cases k <;> simp [fieldsOK] at hf; simp [Kd.offF] at ho⟩
        | cons f l ih =>
          intro off k acc hf
          cases k <;> simp only [fieldsOK, Bool.false_eq_true] at hf
          rename_i ka kb
          simp only [Bool.and_eq_true] at hf
          obtain ⟨⟨⟨f1, f2⟩, f3⟩, f4⟩ := hf
          obtain ⟨q, hq1, hq2⟩ := ih (off + ka.size) kb (acc.push (f.offset, ka.size)) f4
          have hsz := run_sizeOf hT w (kdIs_some f2)
          refine ⟨(f.offset, ka.size) :: q, ?_, fun i o k' ho => ?_⟩
          · simp only [List.foldlM_cons, Sem.run_bind, hsz, Result.andThen_ok, Sem.run_pure, hq1]
            simp
          · cases i with
            | zero => simp only [Kd.offF, Option.some.injEq, Prod.mk.injEq] at ho; obtain ⟨rfl, rfl⟩ := ho; simp [Nat.eq_of_beq_eq_true f1]
            | succ i =>
              simp only [Kd.offF] at ho
              split at ho <;> try (cases ho; done)
              rename_i o' k2 ho'
              simp only [Option.some.injEq, Prod.mk.injEq] at ho
              obtain ⟨rfl, rfl⟩ := ho
              have := hq2 i o' k2 ho'
              simpa [Nat.add_assoc] using this
      obtain ⟨q, hq1, hq2⟩ := aux fs.toList 0 k #[] hfo
      refine ⟨q.toArray, ?_, fun i o k' ho => by simpa using hq2 i o k' ho⟩
      rw [Array.mapM_eq_foldlM, ← Array.foldlM_toList]
      simpa using hq1
    obtain ⟨places, hm1, hm2⟩ := hmap
    obtain ⟨cs', hf, hr⟩ := putParts_sound hnp true (place := (places[·]?)) (fun i o k' ho _ => hm2 i o k' (by rw [← off1_fld]; exact ho)) hI parts k.zero x z.cells vs (fun p _ => ok1_fld) hx (by rw [hzc]; exact Rd.zero k) hp
    have hag : k.agg = true := fieldsOK_agg hfo
    refine ⟨.agg cs', ?_, rfl, cs'.toList, hr, by simp [Kd.mkV, hag]⟩
    simp only [Instr.build, Sem.run_bind, hz, Result.andThen_ok, run_underlying (tdesc_some hT hdt), hm1]
    simp only [hf, Sem.run_pure]
  · rename_i k n et hk hdesc
    split at h <;> try (cases h; done)
    rename_i x hall hx
    simp only [ok1, Option.some.injEq] at h
    subst h
    have hkt : tkd T t = some k := by simp [tkd, hd, hk]
    have hdt : tdesc T t = some (.array n et) := by simp [tdesc, hd, hdesc]
    obtain ⟨z, hz, hzc⟩ := run_zeroValue hT w hkt
    have hdo := tkd_desc hT hkt hdt
    obtain ⟨m, e, rfl⟩ : ∃ m e, k = .arr m e := by
      cases k <;> simp only [descOK, Bool.false_eq_true] at hdo
      exact ⟨_, _, rfl⟩
    simp only [descOK, Bool.and_eq_true] at hdo
    obtain ⟨hnm, het⟩ := hdo
    have := Nat.eq_of_beq_eq_true hnm
    subst this
    have hsz := run_sizeOf hT w (kdIs_some het)
    obtain ⟨cs', hf, hr⟩ := putParts_sound hnp false (place := fun i => some (i * e.size, e.size)) (fun i o k' ho _ => by simp [Kd.off1] at ho; obtain ⟨rfl, rfl⟩ := ho; rfl) hI parts (Kd.zero _) x z.cells vs
      (fun p hp => by
        have := List.all_eq_true.1 hall p hp
        show p.1 < n
        simpa [Nat.blt_eq] using this) hx (by rw [hzc]; exact Rd.zero _) hp
    refine ⟨.agg cs', ?_, rfl, cs'.toList, hr, by simp [Kd.mkV, Kd.agg]⟩
    simp only [Instr.build, Sem.run_bind, hz, Result.andThen_ok, run_underlying (tdesc_some hT hdt), hsz]
    simp only [hf, Sem.run_pure]
end
end Go.PG
