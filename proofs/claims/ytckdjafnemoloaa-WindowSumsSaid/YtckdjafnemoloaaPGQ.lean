/- A part of the proofs over this seat (own work; the framework that reads a Go function as a pure one, or a use of it). No condition of its own. -/
import Derived.Test.YtckdjafnemoloaaPGP
set_option linter.unusedVariables false
set_option linter.unusedSimpArgs false
namespace Go.PG
section
variable {C : Ctx} {tm : Nat → SV} {me : Nat → Option Blk} {pl : Nat → Plc} {S : Nat → Prop} {a : Act} {w : World} {P : Program} {T : Tab}

def EqOK (P : Program) (t : TypeId) (k : Kd) : Prop := P.eqGuardType P.depth t = false ∧ ∀ (S : Nat → Prop) (w : World) (x y : k.T) (cx cy : List Value), Rd S w k x cx → Rd S w k y cy →
  (Op.equalIn 10000 t (k.mkV cx) (k.mkV cy)).run P w = .ok (k.eqv x y) w

theorem run_binInt {op : BinOp} {t : TypeId} {k k' : IntKind} {x y : Int} (hk : isShift op = true ∨ Kd.ikb k k' = true) (hc : (aBinInt op k x y).1 = true) :
    ∃ u, (binOp op t (.int k x) (.int k' y)).run P w = .ok u w ∧ G S w me pl (.val (aBinInt op k x y).2.1 (aBinInt op k x y).2.2) u := by
  have hkk : isShift op = false → k = k' := fun h => by
    rcases hk with h1 | h1
    · rw [h] at h1; cases h1
    · exact Kd.ikb_eq h1
  cases op <;> simp only [aBinInt] at hc ⊢
  case add => obtain rfl := hkk rfl; exact ⟨_, by simp only [binOp, ne_eq, not_true_eq_false, if_false]; rfl, VRd.int.2 rfl⟩
  case sub => obtain rfl := hkk rfl; exact ⟨_, by simp only [binOp, ne_eq, not_true_eq_false, if_false]; rfl, VRd.int.2 rfl⟩
  case mul => obtain rfl := hkk rfl; exact ⟨_, by simp only [binOp, ne_eq, not_true_eq_false, if_false]; rfl, VRd.int.2 rfl⟩
  case quo =>
    obtain rfl := hkk rfl
    have hy : ¬ y = 0 := by simpa using hc
    exact ⟨_, by simp [binOp, Op.intDiv, hy], VRd.int.2 rfl⟩
  case rem =>
    obtain rfl := hkk rfl
    have hy : ¬ y = 0 := by simpa using hc
    exact ⟨_, by simp [binOp, Op.intDiv, hy], VRd.int.2 rfl⟩
  case and => obtain rfl := hkk rfl; exact ⟨_, by simp only [binOp, ne_eq, not_true_eq_false, if_false]; rfl, VRd.int.2 rfl⟩
  case or => obtain rfl := hkk rfl; exact ⟨_, by simp only [binOp, ne_eq, not_true_eq_false, if_false]; rfl, VRd.int.2 rfl⟩
  case xor => obtain rfl := hkk rfl; exact ⟨_, by simp only [binOp, ne_eq, not_true_eq_false, if_false]; rfl, VRd.int.2 rfl⟩
  case andNot => obtain rfl := hkk rfl; exact ⟨_, by simp only [binOp, ne_eq, not_true_eq_false, if_false]; rfl, VRd.int.2 rfl⟩
  case shl =>
    have hy : ¬ y < 0 := by have := of_decide_eq_true hc; omega
    exact ⟨_, by simp [binOp, Op.shift, hy]; rfl, VRd.int.2 rfl⟩
  case shr =>
    have hy : ¬ y < 0 := by have := of_decide_eq_true hc; omega
    exact ⟨_, by simp [binOp, Op.shift, hy]; rfl, VRd.int.2 rfl⟩
  case eql => obtain rfl := hkk rfl; exact ⟨_, by simp only [binOp, ne_eq, not_true_eq_false, if_false]; rfl, VRd.bool.2 rfl⟩
  case neq => obtain rfl := hkk rfl; exact ⟨_, by simp only [binOp, ne_eq, not_true_eq_false, if_false]; rfl, VRd.bool.2 rfl⟩
  case lss => obtain rfl := hkk rfl; exact ⟨_, by simp only [binOp, ne_eq, not_true_eq_false, if_false]; rfl, VRd.bool.2 rfl⟩
  case leq => obtain rfl := hkk rfl; exact ⟨_, by simp only [binOp, ne_eq, not_true_eq_false, if_false]; rfl, VRd.bool.2 rfl⟩
  case gtr => obtain rfl := hkk rfl; exact ⟨_, by simp only [binOp, ne_eq, not_true_eq_false, if_false]; rfl, VRd.bool.2 rfl⟩
  case geq => obtain rfl := hkk rfl; exact ⟨_, by simp only [binOp, ne_eq, not_true_eq_false, if_false]; rfl, VRd.bool.2 rfl⟩

theorem run_eqGuard_not (op : BinOp) (t : TypeId) (x y : Operand) (u v : Value) (h : (∀ cs, u ≠ .agg cs)) (h2 : u ≠ .nilIface) : (eqGuard op t x y u v).run P w = .ok () w := by
  unfold eqGuard
  cases op <;> simp <;> (cases u <;> first | (exfalso; exact h _ rfl) | (exfalso; exact h2 rfl) | simp)

theorem und_bool (hT : TabOK P T) {t : TypeId} (h : tkd T t = some .bool) : P.underlying t = some .bool := by
  obtain ⟨dd, h1, h2, h3⟩ := tkd_some hT h
  have h4 := (h3.kd _ h2).2
  have h5 := h3.und
  obtain ⟨desc, sz, by_, kd⟩ := dd
  simp only at h4 h5
  cases desc <;> simp only [descOK, Bool.false_eq_true] at h4
  · exact h5
  · rw [fieldsOK_not rfl] at h4; cases h4

theorem aBin_sound (hT : TabOK P T) {eqt : List Nat} (hEq : ∀ t ∈ eqt, ∀ k, tkd T t = some k → EqOK P t k) {op : BinOp} {t : TypeId} {x y : SV} {ox oy : Operand} {nx : Nat} {r : ARes} {vx vy : Value} (h : aBin T eqt op t x y nx = some r) (hok : r.ok = true)
    (hGx : G S w me pl x vx) (hGy : G S w me pl y vy) : ∃ u, (do eqGuard op t ox oy vx vy; binOp op t vx vy : Sem Value).run P w = .ok u w ∧ r.wr = [] ∧ G S w me pl r.sv u := by
  have guard : ∀ {u : Value}, (∀ cs, vx ≠ .agg cs) → vx ≠ .nilIface → (binOp op t vx vy).run P w = .ok u w → (do eqGuard op t ox oy vx vy; binOp op t vx vy : Sem Value).run P w = .ok u w := fun h1 h2 h3 => by
    simp only [Sem.run_bind, run_eqGuard_not op t ox oy vx vy h1 h2, Result.andThen_ok, h3]
  unfold aBin at h
  split at h <;> try (cases h; done)
  · rename_i k x' k' y'
    have hk : isShift op = true ∨ Kd.ikb k k' = true := by
      cases h1 : isShift op
      · cases h2 : Kd.ikb k k'
        · rw [h1, h2] at h; cases h
        · exact .inr rfl
      · exact .inl rfl
    have h : some (⟨(aBinInt op k x' y').1, .val (aBinInt op k x' y').2.1 (aBinInt op k x' y').2.2, [], [], nx⟩ : ARes) = some r := by
      rcases hk with h1 | h1
      · rw [h1] at h; simpa using h
      · rw [h1] at h; cases h2 : isShift op <;> (rw [h2] at h; simpa using h)
    simp only [Option.some.injEq] at h
    subst h
    have e1 := VRd.int.1 hGx
    have e2 := VRd.int.1 hGy
    obtain ⟨u, hu, hg⟩ := run_binInt (P := P) (t := t) (w := w) (S := S) (me := me) (pl := pl) hk hok
    refine ⟨u, guard (by rw [e1]; intro cs hh; cases hh) (by rw [e1]; intro hh; cases hh) (by rw [e1, e2]; exact hu), rfl, hg⟩
  · rename_i x' y'
    have e1 := VRd.bool.1 hGx
    have e2 := VRd.bool.1 hGy
    have hg1 : ∀ cs, vx ≠ .agg cs := by rw [e1]; intro cs hh; cases hh
    have hg2 : vx ≠ .nilIface := by rw [e1]; intro hh; cases hh
    split at h <;> try (cases h; done)
    · rename_i hkt
      simp only [ok1, Option.some.injEq] at h
      subst h
      have hu := und_bool hT hkt
      refine ⟨.bool (x' == y'), guard hg1 hg2 ?_, rfl, VRd.bool.2 rfl⟩
      rw [e1, e2]
      simp [binOp, Op.equal, Op.maxDepth, run_equalIn_bool' w 9999 t x' y' hu]
    · rename_i hkt
      simp only [ok1, Option.some.injEq] at h
      subst h
      have hu := und_bool hT hkt
      refine ⟨.bool (!(x' == y')), guard hg1 hg2 ?_, rfl, VRd.bool.2 rfl⟩
      rw [e1, e2]
      simp [binOp, Op.equal, Op.maxDepth, run_equalIn_bool' w 9999 t x' y' hu]
  · rename_i x' y'
    have e1 := VRd.str.1 hGx
    have e2 := VRd.str.1 hGy
    have hg1 : ∀ cs, vx ≠ .agg cs := by rw [e1]; intro cs hh; cases hh
    have hg2 : vx ≠ .nilIface := by rw [e1]; intro hh; cases hh
    split at h <;> try (cases h; done)
    · simp only [ok1, Option.some.injEq] at h
      subst h
      refine ⟨.bool (x'.toList == y'.toList), guard hg1 hg2 ?_, rfl, VRd.bool.2 rfl⟩
      rw [e1, e2]
      simp [binOp, Op.stringOp]
    · simp only [ok1, Option.some.injEq] at h
      subst h
      refine ⟨.bool (!(x'.toList == y'.toList)), guard hg1 hg2 ?_, rfl, VRd.bool.2 rfl⟩
      rw [e1, e2]
      simp [binOp, Op.stringOp]
  · rename_i k x' k' y' _ _ _
    have core : ∀ kt (b' : k.T), tkd T t = some kt → TV.as ⟨k', y'⟩ k = some b' → eqt.elem t = true → k.agg = true → kt.same k = true →
        ∃ xs ys, vx = .agg xs ∧ vy = .agg ys ∧ (eqGuard op t ox oy vx vy).run P w = .ok () w ∧ (Op.equalIn 10000 t vx vy).run P w = .ok (k.eqv x' b') w := by
      intro kt b' hkt hb hel hag hsame
      have e1 := same_of hsame
      rw [e1] at hkt
      have := TV.as_some hb
      cases this
      obtain ⟨cx, hx, rfl⟩ := hGx
      obtain ⟨cy, hy, rfl⟩ := hGy
      obtain ⟨hE1, hE2⟩ := hEq t (by simpa using hel) _ hkt
      have ex : k.mkV cx = .agg cx.toArray := by simp [Kd.mkV, hag]
      have ey : k.mkV cy = .agg cy.toArray := by simp [Kd.mkV, hag]
      refine ⟨_, _, ex, ey, ?_, hE2 S w x' _ cx cy hx hy⟩
      rw [ex, ey]
      exact run_eqGuard_agg w op t ox oy _ _ hE1
    split at h <;> try (cases h; done)
    · rename_i kt b' hkt hb hel hag
      split at h <;> try (cases h; done)
      rename_i hsame
      simp only [ok1, Option.some.injEq] at h
      subst h
      obtain ⟨xs, ys, e1, e2, h1, h2⟩ := core kt b' hkt hb hel hag hsame
      refine ⟨.bool (k.eqv x' b'), ?_, rfl, VRd.bool.2 rfl⟩
      simp only [Sem.run_bind, h1, Result.andThen_ok]
      rw [e1, e2] at h2 ⊢
      rw [run_eql_struct, h2]; rfl
    · rename_i kt b' hkt hb hel hag
      split at h <;> try (cases h; done)
      rename_i hsame
      simp only [ok1, Option.some.injEq] at h
      subst h
      obtain ⟨xs, ys, e1, e2, h1, h2⟩ := core kt b' hkt hb hel hag hsame
      refine ⟨.bool (!(k.eqv x' b')), ?_, rfl, VRd.bool.2 rfl⟩
      simp only [Sem.run_bind, h1, Result.andThen_ok]
      rw [e1, e2] at h2 ⊢
      rw [run_neq_struct, h2]; rfl

theorem aUn_sound {op : UnOp} {x : SV} {nx : Nat} {r : ARes} {vx : Value} (h : aUn op x nx = some r) (hGx : G S w me pl x vx) : ∃ u, (Op.unary op vx).run P w = .ok u w ∧ r.wr = [] ∧ G S w me pl r.sv u := by
  unfold aUn at h
  split at h <;> try (cases h; done)
  · rename_i k x'
    simp only [ok1, Option.some.injEq] at h
    subst h
    rw [VRd.int.1 hGx]
    exact ⟨.int k (k.wrap (0 - x')), by simp [Op.unary, Op.intArith], rfl, VRd.int.2 rfl⟩
  · rename_i k x'
    simp only [ok1, Option.some.injEq] at h
    subst h
    rw [VRd.int.1 hGx]
    exact ⟨.int k (ixor k (if k.signed then -1 else k.max) x'), rfl, rfl, VRd.int.2 rfl⟩
  · rename_i x'
    simp only [ok1, Option.some.injEq] at h
    subst h
    rw [VRd.bool.1 hGx]
    exact ⟨.bool (!x'), rfl, rfl, VRd.bool.2 rfl⟩

theorem RdL_u8 {ns : List Int} {cs : List Value} (h : RdL (Rd S w (.int .u8)) ns cs) : cs = ns.map (Value.int .u8) := by
  induction ns generalizing cs with
  | nil => exact h
  | cons n ns ih =>
    obtain ⟨c1, c2, e, h1, h2⟩ := h
    simp only [Rd] at h1
    rw [e, h1, ih h2]; rfl

theorem strOf_eq (l : List Int) : l.foldl (fun r n => r.push (UInt8.ofNat n.toNat)) ByteArray.empty = strOf l := by
  have aux : ∀ (l : List Int) (b : ByteArray), l.foldl (fun r n => r.push (UInt8.ofNat n.toNat)) b = ⟨b.data ++ (l.map fun n => UInt8.ofNat n.toNat).toArray⟩ := by
    intro l
    induction l with
    | nil => intro b; simp
    | cons n l ih =>
      intro b
      rw [List.foldl_cons, ih]
      obtain ⟨d⟩ := b
      show ByteArray.mk _ = ByteArray.mk _
      congr 1
      show d.push _ ++ _ = _
      apply Array.ext'
      simp
  rw [aux]
  show ByteArray.mk _ = ByteArray.mk _
  congr 1
  apply Array.ext'
  simp [ByteArray.empty, ByteArray.emptyWithCapacity]
  rfl

theorem aConv_sound (hT : TabOK P T) {rd : Nat → Option Blk} {src dst : TypeId} {x : SV} {nx : Nat} {r : ARes} {vx : Value} (h : aConv T rd src dst x nx = some r) (hacc : ∀ i ∈ r.acc, me i = rd i)
    (hI : Inv C tm me pl S a w) (hGx : G S w me pl x vx) : ∃ u, (convert src dst vx).run P w = .ok u w ∧ r.wr = [] ∧ G S w me pl r.sv u := by
  unfold aConv at h
  split at h <;> try (cases h; done)
  · rename_i k1 k k2 x' hs hd
    simp only [ok1, Option.some.injEq] at h
    subst h
    rw [VRd.int.1 hGx]
    exact ⟨.int k (k.wrap x'), by simp [convert, run_underlying (tdesc_some hT hs), run_underlying (tdesc_some hT hd), Conv.intToInt], rfl, VRd.int.2 rfl⟩
  · rename_i x' hs hd
    simp only [ok1, Option.some.injEq] at h
    subst h
    rw [VRd.str.1 hGx]
    exact ⟨.string x', by simp [convert, run_underlying (tdesc_some hT hs), run_underlying (tdesc_some hT hd)], rfl, VRd.str.2 rfl⟩
  · rename_i et hs hd
    split at h <;> try (cases h; done)
    rename_i l acc hkt hrs
    simp only [Option.some.injEq] at h
    subst h
    have hS := rdSl_sound hrs hacc hI hGx
    have het : P.underlying et = some (.int .u8) := by
      have h1 := tkd_sl hT hkt hs
      obtain ⟨dd, h1, h2, h3⟩ := tkd_some hT h1
      have h4 := (h3.kd _ h2).2
      have h5 := h3.und
      obtain ⟨desc, sz, by_, kd⟩ := dd
      simp only at h4 h5
      cases desc <;> simp only [descOK, Bool.false_eq_true] at h4
      · rw [h5, Kd.ikb_eq h4]
      · rw [fieldsOK_not rfl] at h4; cases h4
    rcases hS with ⟨rfl, rfl⟩ | ⟨g, off, cap, c, t, fr, rfl, hcap, _, hc, hr⟩
    · refine ⟨.string .empty, ?_, rfl, VRd.str.2 rfl⟩
      rw [run_convert_bytes_string w src dst et none 0 0 (tdesc_some hT hs) het (tdesc_some hT hd)]
      rfl
    · have hcells := RdL_u8 hr
      have hl : (loadCells ⟨g, off, none⟩ (List.length l)).run P w = .ok (l.map (Value.int .u8)).toArray w := by
        have := run_loadCells_list (P := P) w ⟨g, off, none⟩ (l.map (Value.int .u8)) (fun j v hj => by
          rw [add_eq, cell_of_row w g (off + j) c t fr hc]
          rw [← hcells] at hj
          exact seg_get rfl j v hj)
        simpa using this
      refine ⟨.string (strOf l), ?_, rfl, VRd.str.2 rfl⟩
      rw [run_convert_bytes_string w src dst et _ _ _ (tdesc_some hT hs) het (tdesc_some hT hd), run_bytesToString w _ _ _ l hl, strOf_eq]

theorem aMinMax_sound {mx : Bool} {x y : SV} {nx : Nat} {r : ARes} {vx vy : Value} {ts : Array TypeId} {ty : TypeId} (h : aMinMax mx x y nx = some r) (hGx : G S w me pl x vx) (hGy : G S w me pl y vy) :
    ∃ u, (if mx then Builtin.max_ ts ty #[vx, vy] else Builtin.min_ ts ty #[vx, vy]).run P w = .ok u w ∧ r.wr = [] ∧ G S w me pl r.sv u := by
  unfold aMinMax at h
  split at h <;> try (cases h; done)
  rename_i k x' k' y'
  simp only [ok1, Option.some.injEq] at h
  subst h
  rw [VRd.int.1 hGx, VRd.int.1 hGy]
  cases mx
  · exact ⟨.int k (if y' < x' then y' else x'), by simp [Builtin.min_, Builtin.min2], rfl, VRd.int.2 rfl⟩
  · exact ⟨.int k (if y' > x' then y' else x'), by simp [Builtin.max_, Builtin.max2], rfl, VRd.int.2 rfl⟩

theorem CmpsG.nth : ∀ {l : List Cmp} {vs : List Value} {i : Nat} {c : Cmp}, CmpsG S w me pl l vs → l[i]? = some c → ∃ v, vs[i]? = some v ∧ CmpG S w me pl c v
  | c :: cs, _, 0, c', ⟨v, vs', e, h1, h2⟩, h => by simp at h; subst h; exact ⟨v, by simp [e], h1⟩
  | c :: cs, _, i + 1, c', ⟨v, vs', e, h1, h2⟩, h => by
    obtain ⟨u, hu, hg⟩ := CmpsG.nth h2 (by simpa using h)
    exact ⟨u, by simp [e, hu], hg⟩

theorem aExtract_sound {x : SV} {i : Nat} {nx : Nat} {r : ARes} {vx : Value} (h : aExtract x i nx = some r) (hGx : G S w me pl x vx) : ∃ u, (Instr.extract vx i).run P w = .ok u w ∧ r.wr = [] ∧ G S w me pl r.sv u := by
  unfold aExtract at h
  split at h <;> try (cases h; done)
  rename_i l
  obtain ⟨vs, rfl, hg⟩ := hGx
  split at h <;> try (cases h; done)
  · rename_i k x' hl
    simp only [ok1, Option.some.injEq] at h
    subst h
    obtain ⟨v, hv, hc⟩ := hg.nth hl
    exact ⟨v, by simp [Instr.extract, hv], rfl, hc⟩
  · rename_i j ver hl
    simp only [ok1, Option.some.injEq] at h
    subst h
    obtain ⟨v, hv, hc⟩ := hg.nth hl
    exact ⟨v, by simp [Instr.extract, hv], rfl, hc⟩
end
end Go.PG
