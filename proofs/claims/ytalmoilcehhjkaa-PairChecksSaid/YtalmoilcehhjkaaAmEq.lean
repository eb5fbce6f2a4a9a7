/- Equality at a program's small aggregates of integers: what the abstract machine asks for. -/
import Derived.Test.YtalmoilcehhjkaaAmUse
import Derived.ChangeKeysEq
import Derived.Laws.StructEq
set_option linter.unusedVariables false
set_option linter.unusedSimpArgs false
namespace Go.AM

/-- Where the parts lie: types and offsets. -/
def offsOf : TypeDesc → Nat → Option (List (Nat × Nat))
  | .array n e, c => some ((List.range n).map fun i => (e, i * c))
  | .struct fs, _ => some (fs.toList.map fun f => (f.type, f.offset))
  | _, _ => none
/-- What is asked of an aggregate of integers. -/
structure EqT (P : Program) (t : TypeId) (d : TypeDesc) (e : TypeId) (ks : List IntKind) : Prop where
  und : P.underlying t = some d
  info : (P.info? e).isSome = true
  elem : match d with | .array _ e' => e' = e | .struct fs => (fs.toList.all fun f => f.name != "_") = true ∧ P.stoodInHeld t = false | _ => False
  guard : P.eqGuardType P.depth t = false
  lv : leaves P 8 t = some (ks.map LK.int)
  offs : ∃ l, offsOf d (P.cellsOf e) = some l ∧ l.map (·.2) = List.range ks.length ∧ (∀ p ∈ l, ∃ k, P.underlying p.1 = some (.int k))

theorem eqL_ints : ∀ {ks : List IntKind} {xs ys : List Value} {b : Bool}, eqL (ks.map LK.int) xs ys = some b →
    ∃ ms ns : List Int, ms.length = ks.length ∧ ns.length = ks.length ∧ xs = (ks.zip ms).map (fun p => Value.int p.1 p.2) ∧ ys = (ks.zip ns).map (fun p => Value.int p.1 p.2) ∧ (b = true ↔ ms = ns)
  | [], xs, ys, b, h => by
    cases xs <;> cases ys <;> simp [eqL] at h
    exact ⟨[], [], rfl, rfl, rfl, rfl, by simp [← h]⟩
  | k :: ks, xs, ys, b, h => by
    cases xs with
    | nil => simp [eqL] at h
    | cons x xs =>
      cases ys with
      | nil => cases x <;> simp [eqL] at h
      | cons y ys =>
        cases x <;> cases y <;> simp only [List.map_cons, eqL, reduceCtorEq] at h
        rename_i i a j c
        cases hc : (kEq i k && kEq j k) with
        | false => rw [hc] at h; cases h
        | true =>
          rw [hc] at h
          simp only [cond_true, Option.map_eq_some_iff] at h
          obtain ⟨r, hr, rfl⟩ := h
          obtain ⟨ms, ns, h1, h2, rfl, rfl, h3⟩ := eqL_ints hr
          simp only [Bool.and_eq_true] at hc
          have e1 := kEq_eq hc.1
          have e2 := kEq_eq hc.2
          subst e1; subst e2
          exact ⟨a :: ms, c :: ns, by simp [h1], by simp [h2], by simp, by simp, by simp [h3]⟩

theorem part_int {P : Program} {w : World} {t : TypeId} {k : IntKind} (h : P.underlying t = some (.int k)) {cs : Array Value} {i : Nat} {v : Value} (hv : cs[i]? = some v) : (part t cs i).run P w = .ok v w := by
  unfold part
  simp only [Sem.run_bind, run_isAgg h, Result.andThen_ok]
  simp [hv, isAggD]
theorem equalIn_int {P : Program} {w : World} {t : TypeId} {k' : IntKind} (h : P.underlying t = some (.int k')) (d : Nat) (k : IntKind) (a b : Int) : (Op.equalIn (d + 1) t (.int k a) (.int k b)).run P w = .ok (a == b) w :=
  run_equalIn_int w d t k k' a b h
theorem checkKeyI {P : Program} {w : World} {t : TypeId} {k' : IntKind} (h : P.underlying t = some (.int k')) (em : Bool) (d : Nat) (v : Value) : (Instr.checkKey em (d + 1) t v).run P w = .ok () w := by
  simp [Instr.checkKey, run_underlying h]

theorem zip_at {ks : List IntKind} {ms : List Int} (_ : ms.length = ks.length) {i : Nat} {k : IntKind} {m : Int} (hk : ks[i]? = some k) (hm : ms[i]? = some m) :
    ((ks.zip ms).map (fun p => Value.int p.1 p.2)).toArray[i]? = some (.int k m) := by
  have : (ks.zip ms)[i]? = some (k, m) := by
    rw [List.getElem?_eq_some_iff] at hk hm ⊢
    obtain ⟨a1, a2⟩ := hk
    obtain ⟨b1, b2⟩ := hm
    exact ⟨by simp; omega, by simp [a2, b2]⟩
  simp [this]

theorem fields_ints {P : Program} {w : World} {ks : List IntKind} {ms ns : List Int} (h1 : ms.length = ks.length) (h2 : ns.length = ks.length) (d : Nat) : ∀ (fs : List Field) (i : Nat), i + fs.length = ks.length →
    (fs.map (·.offset) = List.range' i fs.length) → (∀ f ∈ fs, f.name ≠ "_" ∧ ∃ k, P.underlying f.type = some (.int k)) →
    (Op.eqFields (d + 1) ((ks.zip ms).map fun p => Value.int p.1 p.2).toArray ((ks.zip ns).map fun p => Value.int p.1 p.2).toArray fs).run P w = .ok (decide (ms.drop i = ns.drop i)) w
  | [], i, hl, _, _ => by
    have e1 : ms.drop i = [] := List.drop_eq_nil_of_le (by simp at hl; omega)
    have e2 : ns.drop i = [] := List.drop_eq_nil_of_le (by simp at hl; omega)
    simp [Op.eqFields, e1, e2]
  | f :: fs, i, hl, ho, hf => by
    obtain ⟨hn, k, hk⟩ := hf f (by simp)
    simp only [List.length_cons, List.map_cons, List.range'_succ, List.cons.injEq] at hl ho
    have i1 : i < ks.length := by omega
    have k0 : ks[i]? = some ks[i] := List.getElem?_eq_getElem i1
    have m0 : ms[i]? = some ms[i] := List.getElem?_eq_getElem (by omega)
    have n0 : ns[i]? = some ns[i] := List.getElem?_eq_getElem (by omega)
    have pm := part_int (w := w) hk (cs := ((ks.zip ms).map fun p => Value.int p.1 p.2).toArray) (i := f.offset) (by rw [ho.1]; exact zip_at h1 k0 m0)
    have pn := part_int (w := w) hk (cs := ((ks.zip ns).map fun p => Value.int p.1 p.2).toArray) (i := f.offset) (by rw [ho.1]; exact zip_at h2 k0 n0)
    have ih := fields_ints (P := P) (w := w) h1 h2 d fs (i + 1) (by omega) ho.2 (fun f h => hf f (by simp [h]))
    simp only [Op.eqFields, if_pos hn, Sem.run_bind, pm, pn, Result.andThen_ok, equalIn_int hk]
    have e1 : ms.drop i = ms[i] :: ms.drop (i + 1) := List.drop_eq_getElem_cons (by omega)
    have e2 : ns.drop i = ns[i] :: ns.drop (i + 1) := List.drop_eq_getElem_cons (by omega)
    have hd : decide (ms.drop i = ns.drop i) = ((ms[i] == ns[i]) && decide (ms.drop (i + 1) = ns.drop (i + 1))) := by
      rw [e1, e2, Bool.eq_iff_iff]
      simp only [decide_eq_true_iff, List.cons.injEq, Bool.and_eq_true, beq_iff_eq]
    rw [hd]
    cases hb : (ms[i] == ns[i]) with
    | false => simp
    | true =>
      simp only [Bool.not_true, Bool.false_eq_true, if_false, Bool.true_and]
      exact ih
theorem items_ints {P : Program} {w : World} {ks : List IntKind} {ms ns : List Int} (h1 : ms.length = ks.length) (h2 : ns.length = ks.length) (d : Nat) {e : TypeId} {k : IntKind} (hk : P.underlying e = some (.int k)) (c : Nat) : ∀ (is : List Nat) (i : Nat), i + is.length = ks.length →
    (is.map (· * c) = List.range' i is.length) →
    (Op.eqItems (d + 1) e c ((ks.zip ms).map fun p => Value.int p.1 p.2).toArray ((ks.zip ns).map fun p => Value.int p.1 p.2).toArray is).run P w = .ok (decide (ms.drop i = ns.drop i)) w
  | [], i, hl, _ => by
    have e1 : ms.drop i = [] := List.drop_eq_nil_of_le (by simp at hl; omega)
    have e2 : ns.drop i = [] := List.drop_eq_nil_of_le (by simp at hl; omega)
    simp [Op.eqItems, e1, e2]
  | j :: is, i, hl, ho => by
    simp only [List.length_cons, List.map_cons, List.range'_succ, List.cons.injEq] at hl ho
    have i1 : i < ks.length := by omega
    have k0 : ks[i]? = some ks[i] := List.getElem?_eq_getElem i1
    have m0 : ms[i]? = some ms[i] := List.getElem?_eq_getElem (by omega)
    have n0 : ns[i]? = some ns[i] := List.getElem?_eq_getElem (by omega)
    have pm := part_int (w := w) hk (cs := ((ks.zip ms).map fun p => Value.int p.1 p.2).toArray) (i := j * c) (by rw [ho.1]; exact zip_at h1 k0 m0)
    have pn := part_int (w := w) hk (cs := ((ks.zip ns).map fun p => Value.int p.1 p.2).toArray) (i := j * c) (by rw [ho.1]; exact zip_at h2 k0 n0)
    have ih := items_ints (P := P) (w := w) h1 h2 d hk c is (i + 1) (by omega) ho.2
    simp only [Op.eqItems, Sem.run_bind, pm, pn, Result.andThen_ok, equalIn_int hk]
    have e1 : ms.drop i = ms[i] :: ms.drop (i + 1) := List.drop_eq_getElem_cons (by omega)
    have e2 : ns.drop i = ns[i] :: ns.drop (i + 1) := List.drop_eq_getElem_cons (by omega)
    have hd : decide (ms.drop i = ns.drop i) = ((ms[i] == ns[i]) && decide (ms.drop (i + 1) = ns.drop (i + 1))) := by
      rw [e1, e2, Bool.eq_iff_iff]
      simp only [decide_eq_true_iff, List.cons.injEq, Bool.and_eq_true, beq_iff_eq]
    rw [hd]
    cases hb : (ms[i] == ns[i]) with
    | false => simp
    | true =>
      simp only [Bool.not_true, Bool.false_eq_true, if_false, Bool.true_and]
      exact ih

theorem EqT.eq {P : Program} {t e : TypeId} {d : TypeDesc} {ks : List IntKind} (H : EqT P t d e ks) {ms ns : List Int} (h1 : ms.length = ks.length) (h2 : ns.length = ks.length) (n : Nat) (w : World) :
    (Op.equalIn (n + 2) t (.agg ((ks.zip ms).map fun p => Value.int p.1 p.2).toArray) (.agg ((ks.zip ns).map fun p => Value.int p.1 p.2).toArray)).run P w = .ok (decide (ms = ns)) w := by
  obtain ⟨l, hl, ho, hi⟩ := H.offs
  have he := H.elem
  have hu := H.und
  cases d <;> try exact he.elim
  case array m e' =>
    have he : e' = e := he
    subst he
    obtain ⟨i, hinf⟩ := Option.isSome_iff_exists.1 H.info
    rw [run_equalIn_array w (n + 1) _ _ hu hinf]
    simp only [offsOf, Option.some.injEq] at hl
    subst hl
    simp only [List.map_map] at ho
    have hlen : m = ks.length := by simpa using congrArg List.length ho
    rcases Nat.eq_zero_or_pos m with h0 | h0
    · subst h0
      have hk0 : ks = [] := List.eq_nil_of_length_eq_zero hlen.symm
      subst hk0
      have e1 : ms = [] := List.eq_nil_of_length_eq_zero h1
      have e2 : ns = [] := List.eq_nil_of_length_eq_zero h2
      subst e1; subst e2
      simp [Op.eqItems]
    · obtain ⟨k, hk⟩ := hi _ (by simp only [List.mem_map]; exact ⟨0, by simp [h0], rfl⟩)
      have := items_ints (P := P) (w := w) h1 h2 n hk (P.cellsOf e') (List.range m) 0 (by simp [hlen]) (by
        rw [List.length_range, ← List.range_eq_range', hlen]
        rw [hlen] at ho
        exact ho)
      simpa using this
  case struct fs =>
    have he : (fs.toList.all fun f => f.name != "_") = true ∧ P.stoodInHeld t = false := he
    have hf : P.fieldsOf t = fs := by simp [Program.fieldsOf, hu]
    rw [run_equalIn_agg w (n + 1) t _ _ (by rw [hf]; exact hu) he.2, hf]
    simp only [offsOf, Option.some.injEq] at hl
    subst hl
    simp only [List.map_map] at ho
    have hlen : fs.toList.length = ks.length := by simpa using congrArg List.length ho
    have := fields_ints (P := P) (w := w) h1 h2 n fs.toList 0 (by omega) (by rw [← List.range_eq_range', hlen, ← ho]; rfl) (fun f hm => ⟨by
      have := List.all_eq_true.1 he.1 f hm
      simpa using this, hi _ (by simp only [List.mem_map]; exact ⟨f, hm, rfl⟩)⟩)
    simpa using this
theorem EqT.check {P : Program} {t e : TypeId} {d : TypeDesc} {ks : List IntKind} (H : EqT P t d e ks) {ms : List Int} (h1 : ms.length = ks.length) (n : Nat) (em : Bool) (w : World) :
    (Instr.checkKey em (n + 2) t (.agg ((ks.zip ms).map fun p => Value.int p.1 p.2).toArray)).run P w = .ok () w := by
  obtain ⟨l, hl, ho, hi⟩ := H.offs
  have he := H.elem
  have hu := H.und
  have pt : ∀ p ∈ l, ∃ v, (part p.1 ((ks.zip ms).map fun p => Value.int p.1 p.2).toArray p.2).run P w = .ok v w := fun p hp => by
    obtain ⟨k, hk⟩ := hi p hp
    have hm : p.2 ∈ l.map (·.2) := List.mem_map.2 ⟨p, hp, rfl⟩
    rw [ho] at hm
    have hlt := List.mem_range.1 hm
    have k0 : ks[p.2]? = some ks[p.2] := List.getElem?_eq_getElem hlt
    have m0 : ms[p.2]? = some ms[p.2] := List.getElem?_eq_getElem (by omega)
    exact ⟨_, part_int hk (zip_at h1 k0 m0)⟩
  cases d <;> try exact he.elim
  case array m e' =>
    have he : e' = e := he
    subst he
    obtain ⟨i, hinf⟩ := Option.isSome_iff_exists.1 H.info
    simp only [offsOf, Option.some.injEq] at hl
    subst hl
    rw [show n + 2 = (n + 1) + 1 from rfl, Instr.checkKey]
    simp only [Sem.run_bind, run_underlying hu, Result.andThen_ok]
    simp only [Std.Legacy.Range.forIn_eq_forIn_range', Std.Legacy.Range.size, Nat.sub_zero, Nat.add_one_sub_one, Nat.div_one]
    rw [List.range_eq_range'] at pt hi
    clear ho
    generalize List.range' 0 m = is at pt hi
    induction is with
    | nil => simp
    | cons j is ih =>
      obtain ⟨v, hv⟩ := pt (e', j * P.cellsOf e') (by simp)
      obtain ⟨k, hk⟩ := hi (e', j * P.cellsOf e') (by simp)
      simp only [List.forIn_cons, Sem.run_bind, run_sizeOf w hinf, Result.andThen_ok, hv, checkKeyI hk, Sem.run_pure]
      exact ih (fun p hp => pt p (by simp only [List.map_cons, List.mem_cons]; exact .inr hp)) (fun p hp => hi p (by simp only [List.map_cons, List.mem_cons]; exact .inr hp))
  case struct fs =>
    have he : (fs.toList.all fun f => f.name != "_") = true ∧ P.stoodInHeld t = false := he
    simp only [offsOf, Option.some.injEq] at hl
    subst hl
    rw [show n + 2 = (n + 1) + 1 from rfl, Instr.checkKey]
    simp only [Sem.run_bind, run_underlying hu, Result.andThen_ok]
    rw [← Array.forIn_toList]
    have deep := he.1
    clear ho hu
    generalize fs.toList = L at deep pt hi
    induction L with
    | nil => simp
    | cons f L ih =>
      obtain ⟨v, hv⟩ := pt (f.type, f.offset) (by simp)
      obtain ⟨k, hk⟩ := hi (f.type, f.offset) (by simp)
      simp only [List.all_cons, Bool.and_eq_true, bne_iff_ne, ne_eq] at deep
      simp only [List.forIn_cons, Sem.run_bind, deep.1, ne_eq, not_false_eq_true, if_true, hv, checkKeyI hk, Result.andThen_ok, Sem.run_pure]
      exact ih deep.2 (fun p hp => pt p (by simp only [List.map_cons, List.mem_cons]; exact .inr hp)) (fun p hp => hi p (by simp only [List.map_cons, List.mem_cons]; exact .inr hp))
theorem eqOK_of {P : Program} {E : List TypeId} (h : ∀ t, E.elem t = true → ∃ d e ks, EqT P t d e ks) : EqOK P E := by
  refine ⟨fun t ls xs ys b he hl e w => ?_, fun t he => ?_, fun t ls xs b he hl e em w => ?_⟩
  · obtain ⟨d, et, ks, H⟩ := h t he
    rw [H.lv] at hl; cases hl
    obtain ⟨ms, ns, h1, h2, rfl, rfl, h3⟩ := eqL_ints e
    have := H.eq h1 h2 9998 w
    have hb : b = decide (ms = ns) := by rw [Bool.eq_iff_iff, h3]; simp
    rw [hb]; exact this
  · obtain ⟨d, et, ks, H⟩ := h t he
    exact H.guard
  · obtain ⟨d, et, ks, H⟩ := h t he
    rw [H.lv] at hl; cases hl
    obtain ⟨ms, ns, h1, h2, rfl, _, h3⟩ := eqL_ints e
    exact H.check h1 9998 em w
end Go.AM
