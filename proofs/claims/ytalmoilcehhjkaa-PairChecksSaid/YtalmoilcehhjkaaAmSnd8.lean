/- The abstract machine's operations are sound: maps, strings' runes. -/
import Derived.Test.YtalmoilcehhjkaaAmSnd7
set_option linter.unusedVariables false
set_option linter.unusedSimpArgs false
namespace Go.AM

section
variable {P : Program} {E : List TypeId} {ι : Inj} {w0 : Base} {w : World} {h : Heap} {f : Fr} {a : Act}

/-- The entries correspond. -/
def EL (ι : Inj) (es : List (Value × Value)) (ents : List MapEntry) : Prop := es.length = ents.length ∧ ∀ (i : Nat) (p : Value × Value) (e : MapEntry), es[i]? = some p → ents[i]? = some e → V ι p.1 e.key ∧ V ι p.2 e.val
theorem EL.cons_inv {p : Value × Value} {es : List (Value × Value)} {ents : List MapEntry} (hh : EL ι (p :: es) ents) : ∃ e ents', ents = e :: ents' ∧ V ι p.1 e.key ∧ V ι p.2 e.val ∧ EL ι es ents' := by
  cases ents with
  | nil => have := hh.1; simp at this
  | cons e ents' =>
    obtain ⟨h1, h2⟩ := hh.2 0 p e rfl rfl
    exact ⟨e, ents', rfl, h1, h2, by simpa using hh.1, fun i p' e' a b => hh.2 (i + 1) p' e' (by simpa using a) (by simpa using b)⟩

/-- What was found: the place, and the value. -/
def FR2 (ι : Inj) : Option (Nat × Value) → Option (Nat × Value) → Prop
  | none, none => True
  | some (i, v), some (j, v') => i = j ∧ V ι v v'
  | _, _ => False

theorem findAsking_sound (hE : EqOK P E) {t : TypeId} {k k' : Value} (hk : V ι k k') : ∀ {es : List (Value × Value)} {ents : List MapEntry} {i : Nat} {r : Option (Nat × Value)}, EL ι es ents → findV P E t k es i = some r →
    ∃ r', (Instr.findAsking t k' ents i).run P w = .ok r' w ∧ FR2 ι r r'
  | [], ents, i, r, he, e => by
    have : ents = [] := by have := he.1; cases ents with | nil => rfl | cons x y => simp at this
    subst this; cases e; exact ⟨none, rfl, trivial⟩
  | p :: es, ents, i, r, he, e => by
    obtain ⟨en, ents', rfl, h1, h2, h3⟩ := he.cons_inv
    simp only [findV, Option.bind_eq_some_iff] at e
    obtain ⟨b, hb, e⟩ := e
    have heq := (eqK_sound hE hk h1 hb).1 w
    cases b with
    | true =>
      simp only [cond_true, Option.some.injEq] at e
      subst e
      exact ⟨some (i, en.val), by simp [Instr.findAsking, heq], rfl, h2⟩
    | false =>
      simp only [cond_false] at e
      obtain ⟨r', h4, h5⟩ := findAsking_sound hE hk h3 e
      exact ⟨r', by simp [Instr.findAsking, heq, h4], h5⟩

theorem findNow_none {d : TypeDesc} {k : Value} : ∀ {ents : List MapEntry} {i : Nat}, ents ≠ [] → (∀ x, Instr.sameNow d k x = none) → Instr.findNow d k ents i = none
  | [], _, h, _ => absurd rfl h
  | e :: es, i, _, h => by simp [Instr.findNow, h]

theorem findNow_sound {t : TypeId} {d : TypeDesc} (hd : P.underlying t = some d) {k k' : Value} (hk : V ι k k')
    (hs : ∀ x x' b, V ι x x' → eqK P E t k x = some b → Instr.sameNow d k' x' = some b) : ∀ {es : List (Value × Value)} {ents : List MapEntry} {i : Nat} {r : Option (Nat × Value)}, EL ι es ents → findV P E t k es i = some r →
    ∃ r', Instr.findNow d k' ents i = some r' ∧ FR2 ι r r'
  | [], ents, i, r, he, e => by
    have : ents = [] := by have := he.1; cases ents with | nil => rfl | cons x y => simp at this
    subst this; cases e; exact ⟨none, rfl, trivial⟩
  | p :: es, ents, i, r, he, e => by
    obtain ⟨en, ents', rfl, h1, h2, h3⟩ := he.cons_inv
    simp only [findV, Option.bind_eq_some_iff] at e
    obtain ⟨b, hb, e⟩ := e
    have heq := hs _ _ b h1 hb
    cases b with
    | true =>
      simp only [cond_true, Option.some.injEq] at e
      subst e
      exact ⟨some (i, en.val), by simp [Instr.findNow, heq], rfl, h2⟩
    | false =>
      simp only [cond_false] at e
      obtain ⟨r', h4, h5⟩ := findNow_sound hd hk hs h3 e
      exact ⟨r', by simp [Instr.findNow, heq, h4], h5⟩

theorem findKey_sound (hE : EqOK P E) {t : TypeId} {k k' : Value} (hk : V ι k k') (hok : keyOK P E t k = true) {es : List (Value × Value)} {ents : List MapEntry} {r : Option (Nat × Value)} (he : EL ι es ents)
    (e : findV P E t k es 0 = some r) : ∃ r', (Instr.findKey t k' ents).run P w = .ok r' w ∧ FR2 ι r r' := by
  have now : ∀ d, P.underlying t = some d → (∀ x x' b, V ι x x' → eqK P E t k x = some b → Instr.sameNow d k' x' = some b) → ∃ r', (Instr.findKey t k' ents).run P w = .ok r' w ∧ FR2 ι r r' := by
    intro d hd hs
    obtain ⟨r', h1, h2⟩ := findNow_sound hd hk hs he e
    exact ⟨r', by simp [Instr.findKey, run_underlying hd, h1], h2⟩
  have ask : ∀ d xs, P.underlying t = some d → k' = .agg xs → ∃ r', (Instr.findKey t k' ents).run P w = .ok r' w ∧ FR2 ι r r' := by
    intro d xs hd hx
    cases ents with
    | nil =>
      have : es = [] := by have := he.1; cases es with | nil => rfl | cons x y => simp at this
      subst this; cases e
      exact ⟨none, by simp [Instr.findKey, run_underlying hd, Instr.findNow], trivial⟩
    | cons en ents' =>
      obtain ⟨r', h1, h2⟩ := findAsking_sound (w := w) hE hk he e
      have hn : Instr.findNow d k' (en :: ents') 0 = none := by
        subst hx
        exact findNow_none (by simp) (fun x => by cases d <;> rfl)
      exact ⟨r', by simp [Instr.findKey, run_underlying hd, hn, h1], h2⟩
  unfold keyOK at hok
  split at hok
  · rename_i j i n hd
    refine now _ hd fun x x' b hx hb => ?_
    simp only [eqK, hd] at hb
    rw [hk.int_inv]
    cases x <;> simp only [reduceCtorEq] at hb
    rename_i k2 n2
    cases hc : kEq i k2 with
    | false => rw [hc] at hb; cases hb
    | true =>
      rw [hc] at hb
      simp only [cond_true, Option.some.injEq] at hb
      subst hb
      rw [hx.int_inv, kEq_eq hc]
      simp [Instr.sameNow]
  · rename_i s hd
    refine now _ hd fun x x' b hx hb => ?_
    simp only [eqK, hd] at hb
    rw [hk.str_inv]
    cases x <;> simp only [reduceCtorEq] at hb
    simp only [Option.some.injEq] at hb
    subst hb
    rw [hx.str_inv]
    simp [Instr.sameNow, beq_toListBytes]
  · rename_i s hd
    refine now _ hd fun x x' b hx hb => ?_
    simp only [eqK, hd] at hb
    rw [hk.bool_inv]
    cases x <;> simp only [reduceCtorEq] at hb
    simp only [Option.some.injEq] at hb
    subst hb
    rw [hx.bool_inv]
    simp [Instr.sameNow]
  · rename_i fs xs hd
    obtain ⟨ys, rfl, _⟩ := hk.agg_inv
    exact ask _ _ hd rfl
  · rename_i n el xs hd
    obtain ⟨ys, rfl, _⟩ := hk.agg_inv
    exact ask _ _ hd rfl
  · cases hok

theorem bytes_eq {a b : ByteArray} (e : (a.toList == b.toList) = true) : a = b := by
  rw [ByteArray.toList_eq, ByteArray.toList_eq] at e
  obtain ⟨⟨x⟩⟩ := a
  obtain ⟨⟨y⟩⟩ := b
  have : x = y := by simpa using e
  rw [this]
theorem bytes_self (a : ByteArray) : (a == a) = true := by rw [beq_toListBytes]; simp
theorem checkKey_int (n : Nat) {t : TypeId} {j k : IntKind} {i : Int} (hd : P.underlying t = some (.int j)) (b : Bool) (w : World) : (Instr.checkKey b (n + 1) t (.int k i)).run P w = .ok () w := by
  simp only [Instr.checkKey, Sem.run_bind, run_underlying hd, Result.andThen_ok, Sem.run_pure]
theorem checkKey_str (n : Nat) {t : TypeId} {s : ByteArray} (hd : P.underlying t = some .string) (b : Bool) (w : World) : (Instr.checkKey b (n + 1) t (.string s)).run P w = .ok () w := by
  simp only [Instr.checkKey, Sem.run_bind, run_underlying hd, Result.andThen_ok, Sem.run_pure]
theorem checkKey_bool (n : Nat) {t : TypeId} {s : Bool} (hd : P.underlying t = some .bool) (b : Bool) (w : World) : (Instr.checkKey b (n + 1) t (.bool s)).run P w = .ok () w := by
  simp only [Instr.checkKey, Sem.run_bind, run_underlying hd, Result.andThen_ok, Sem.run_pure]
theorem checkKey_sound (hE : EqOK P E) {t : TypeId} {k k' : Value} (hk : V ι k k') (hok : keyOK P E t k = true) (b : Bool) : (Instr.checkKey b 10000 t k').run P w = .ok () w := by
  have agg : ∀ xs d, k = .agg xs → (E.elem t && ((leaves P 8 t).bind fun ls => eqL ls xs.toList xs.toList).isSome) = true → P.underlying t = some d → (Instr.checkKey b 10000 t k').run P w = .ok () w := by
    rintro xs d rfl hx hd
    simp only [Bool.and_eq_true, Option.isSome_iff_exists, Option.bind_eq_some_iff] at hx
    obtain ⟨h1, r, ls, h2, h3⟩ := hx
    obtain ⟨ys, rfl, hy⟩ := hk.agg_inv
    have := (eqL_plain h3 hy hy).1
    have : ys = xs := by apply Array.ext'; exact this
    subst this
    have := hE.key t ls _ _ h1 h2 h3 b w
    simpa using this
  unfold keyOK at hok
  split at hok
  · rename_i j i n hd
    rw [hk.int_inv]
    exact checkKey_int 9999 hd b w
  · rename_i s hd
    rw [hk.str_inv]
    exact checkKey_str 9999 hd b w
  · rename_i s hd
    rw [hk.bool_inv]
    exact checkKey_bool 9999 hd b w
  · rename_i fs xs hd
    exact agg _ _ rfl hok hd
  · rename_i n el xs hd
    exact agg _ _ rfl hok hd
  · cases hok

/-- A map, in the world. -/
theorem HR.map (hr : HR ι w0 h w) {m : Nat} {v : Value} {es : List (Value × Value)} (hv : V ι (.map (some m)) v) (hm : h.mp m = some es) :
    ∃ b s ents, v = .map (some b) ∧ ι m = some (b, s) ∧ h.get m = some (.map es) ∧ ¬ w0.prot b ∧ w.heap[b]? = some (.map ents ents.size) ∧ EL ι es ents.toList ∧ (∀ (i : Nat) (e : MapEntry), ents[i]? = some e → e.born = i) := by
  cases hv with
  | map hi =>
    rename_i b s
    have hg : h.get m = some (.map es) := by
      unfold Heap.mp at hm
      split at hm
      · rename_i hg; cases hm; exact hg
      · cases hm
    obtain ⟨h0, ents, clock, h1, h2, h3, h4, h5⟩ := hr.objs m _ b s hg hi
    subst h5
    exact ⟨b, s, ents, rfl, hi, hg, h0, h1, ⟨by simpa using h2, fun i p e a b => h3 i p e a (by simpa using b)⟩, h4⟩

theorem run_getMap {b : Nat} {ents : Array MapEntry} {c : Nat} (hb : w.heap[b]? = some (.map ents c)) : (getObj b).run P w = .ok (.map ents c) w := by
  simp [getObj, Sem.run, hb]

theorem lookK_sound (hE : EqOK P E) (hr : HR ι w0 h w) {t : TypeId} {m : Nat} {k v k' : Value} {ok : Bool} {K : Value → Prop} (hv : V ι (.map (some m)) v) (hk : V ι k k') (H : lookK P E h t m k ok K) :
    ∃ x x', (Instr.lookup t v k' ok).run P w = .ok x' w ∧ V ι x x' ∧ K x := by
  unfold lookK at H
  split at H
  · rename_i kt et hd
    cases hok : keyOK P E kt k with
    | false => rw [hok] at H; exact H.elim
    | true =>
      rw [hok] at H
      simp only [cond_true, get_iff] at H
      obtain ⟨es, hes, r, hfr, z, hz, H⟩ := H
      obtain ⟨x, hx, hK⟩ := LK.view_spec H
      simp only [Option.some.injEq] at hx
      obtain ⟨b, s, ents, rfl, hi, hg, h0, h1, h2, h3⟩ := hr.map hv hes
      obtain ⟨r', hf, hfr2⟩ := findKey_sound (w := w) hE hk hok h2 hfr
      have hck := checkKey_sound (w := w) hE hk hok ents.isEmpty
      obtain ⟨hzr, hzp⟩ := run_zeroT hz w
      have hget := run_getMap (P := P) h1
      have main : ∃ x', (Instr.lookup t (.map (some b)) k' ok).run P w = .ok (cond ok (.tuple #[x', .bool r.isSome]) x') w ∧ V ι x x' := by
        cases r with
        | none =>
          cases r' with
          | some p => exact hfr2.elim
          | none =>
            simp only [Option.map_none, Option.getD_none] at hx
            subst hx
            refine ⟨z, ?_, V.of_plain ι hzp⟩
            simp only [Instr.lookup, Sem.run_bind, run_underlying hd, Result.andThen_ok, hget, Sem.run_pure, hck, hf, hzr]
            cases ok <;> rfl
        | some p =>
          cases r' with
          | none => exact hfr2.elim
          | some q =>
            obtain ⟨i, pv⟩ := p
            obtain ⟨j, qv⟩ := q
            obtain ⟨_, hpq⟩ := hfr2
            simp only [Option.map_some, Option.getD_some] at hx
            subst hx
            refine ⟨qv, ?_, hpq⟩
            simp only [Instr.lookup, Sem.run_bind, run_underlying hd, Result.andThen_ok, hget, Sem.run_pure, hck, hf]
            cases ok <;> rfl
      obtain ⟨x', hrun, hxx⟩ := main
      refine ⟨_, _, hrun, ?_, hK⟩
      cases ok
      · exact hxx
      · exact V.tuple_iff.2 (by simpa using VL.cons hxx (VL.cons (.bool _) (VL.nil ι)))
  · exact H.elim

theorem sameBits_eqL : ∀ {ls : List LK} {xs ys : List Value}, eqL ls xs ys = some true → xs = ys ∧ ∀ n, (xs.zip ys).all (fun (p : Value × Value) => Instr.sameBits n p.1 p.2) = true
  | [], xs, ys, e => by cases xs <;> cases ys <;> simp [eqL] at e; exact ⟨rfl, fun n => rfl⟩
  | l :: ls, xs, ys, e => by
    cases xs with
    | nil => cases l <;> simp [eqL] at e
    | cons x xs =>
      cases ys with
      | nil => cases l <;> simp [eqL] at e
      | cons y ys =>
        cases l <;> cases x <;> cases y <;> simp only [eqL, Option.map_eq_some_iff, reduceCtorEq] at e
        · rename_i k i a j b
          cases hc : (kEq i k && kEq j k) with
          | false => rw [hc] at e; simp at e
          | true =>
            rw [hc] at e
            simp only [cond_true, Option.map_eq_some_iff, Bool.and_eq_true, beq_iff_eq] at e
            simp only [Bool.and_eq_true] at hc
            obtain ⟨r, hr, h1, rfl⟩ := e
            obtain ⟨h2, h3⟩ := sameBits_eqL hr
            have : i = j := (kEq_eq hc.1).trans (kEq_eq hc.2).symm
            subst this; subst h1; subst h2
            refine ⟨rfl, fun n => ?_⟩
            rw [List.zip_cons_cons, List.all_cons, h3 n]
            cases n <;> simp [Instr.sameBits]
        · obtain ⟨r, hr, h1⟩ := e
          simp only [Bool.and_eq_true, beq_iff_eq] at h1
          obtain ⟨h1, rfl⟩ := h1
          obtain ⟨h2, h3⟩ := sameBits_eqL hr
          subst h1; subst h2
          refine ⟨rfl, fun n => ?_⟩
          rw [List.zip_cons_cons, List.all_cons, h3 n]
          cases n <;> simp [Instr.sameBits]
        · rename_i s1 s2
          obtain ⟨r, hr, h1⟩ := e
          simp only [Bool.and_eq_true] at h1
          obtain ⟨h1, rfl⟩ := h1
          obtain ⟨h2, h3⟩ := sameBits_eqL hr
          have h1 : s1 = s2 := bytes_eq h1
          subst h1; subst h2
          refine ⟨rfl, fun n => ?_⟩
          rw [List.zip_cons_cons, List.all_cons, h3 n]
          cases n <;> simp [Instr.sameBits, bytes_self]

theorem eqK_same {t : TypeId} {x y : Value} (hok : keyOK P E t x = true) (e : eqK P E t x y = some true) : x = y ∧ Instr.sameBits 10000 y x = true := by
  have agg : ∀ xs ys, x = .agg xs → y = .agg ys → (leaves P 8 t).bind (fun ls => eqL ls xs.toList ys.toList) = some true → x = y ∧ Instr.sameBits 10000 y x = true := by
    rintro xs ys rfl rfl e
    simp only [Option.bind_eq_some_iff] at e
    obtain ⟨ls, _, e⟩ := e
    obtain ⟨h1, h2⟩ := sameBits_eqL e
    have : xs = ys := by apply Array.ext'; exact h1
    subst this
    refine ⟨rfl, ?_⟩
    show Instr.sameBits (9999 + 1) _ _ = true
    simp only [Instr.sameBits, beq_self_eq_true, Bool.true_and]
    exact h2 9999
  unfold keyOK at hok
  split at hok
  · rename_i j i n hd
    simp only [eqK, hd] at e
    cases y <;> simp only [reduceCtorEq] at e
    rename_i k2 n2
    cases hc : kEq i k2 with
    | false => rw [hc] at e; cases e
    | true =>
      rw [hc] at e
      simp only [cond_true, Option.some.injEq, beq_iff_eq] at e
      have := kEq_eq hc
      subst this; subst e
      exact ⟨rfl, by simp [Instr.sameBits]⟩
  · rename_i s hd
    simp only [eqK, hd] at e
    cases y <;> simp only [reduceCtorEq] at e
    rename_i s2
    simp only [Option.some.injEq] at e
    have e : s = s2 := bytes_eq e
    subst e
    exact ⟨rfl, by simp [Instr.sameBits, bytes_self]⟩
  · rename_i s hd
    simp only [eqK, hd] at e
    cases y <;> simp only [reduceCtorEq] at e
    simp only [Option.some.injEq, beq_iff_eq] at e
    subst e
    exact ⟨rfl, by simp [Instr.sameBits]⟩
  · rename_i fs xs hd
    simp only [eqK, hd] at e
    cases y <;> simp only [reduceCtorEq] at e
    cases hel : E.elem t with
    | false => rw [hel] at e; cases e
    | true => rw [hel] at e; exact agg _ _ rfl rfl e
  · rename_i n el xs hd
    simp only [eqK, hd] at e
    cases y <;> simp only [reduceCtorEq] at e
    cases hel : E.elem t with
    | false => rw [hel] at e; cases e
    | true => rw [hel] at e; exact agg _ _ rfl rfl e
  · cases hok

theorem findV_at {t : TypeId} {k : Value} : ∀ {es : List (Value × Value)} {i j : Nat} {v : Value}, findV P E t k es i = some (some (j, v)) → ∃ n p, j = i + n ∧ es[n]? = some p ∧ p.2 = v ∧ eqK P E t k p.1 = some true
  | [], i, j, v, e => by cases e
  | p :: es, i, j, v, e => by
    simp only [findV, Option.bind_eq_some_iff] at e
    obtain ⟨b, hb, e⟩ := e
    cases b with
    | true =>
      simp only [cond_true, Option.some.injEq, Prod.mk.injEq] at e
      exact ⟨0, p, by omega, rfl, e.2, hb⟩
    | false =>
      simp only [cond_false] at e
      obtain ⟨n, q, h1, h2, h3⟩ := findV_at e
      exact ⟨n + 1, q, by omega, by simpa using h2, h3⟩

theorem setAt_get : ∀ (es : List (Value × Value)) (i j : Nat) (k v : Value), (setAt es i k v)[j]? = if j = i ∧ i < es.length then some (k, v) else es[j]?
  | [], i, j, k, v => by simp [setAt]
  | e :: es, 0, j, k, v => by cases j <;> simp [setAt]
  | e :: es, i + 1, j, k, v => by
    cases j with
    | zero => simp [setAt]
    | succ j => simp [setAt, setAt_get es i j k v]
theorem setAt_length : ∀ (es : List (Value × Value)) (i : Nat) (k v : Value), (setAt es i k v).length = es.length
  | [], _, _, _ => rfl
  | e :: es, 0, _, _ => rfl
  | e :: es, i + 1, k, v => by simp [setAt, setAt_length es i k v]

theorem upK_sound (hE : EqOK P E) (hr : HR ι w0 h w) {t : TypeId} {m : Nat} {k v x k' x' : Value} {K : Heap → Prop} (hv : V ι (.map (some m)) v) (hk : V ι k k') (hx : V ι x x') (H : upK P E h t m k x K) :
    ∃ w' h', (Instr.mapUpdate t v k' x').run P w = .ok () w' ∧ HR ι w0 h' w' ∧ K h' := by
  unfold upK at H
  split at H
  · rename_i kt et hd
    cases hok : keyOK P E kt k with
    | false => rw [hok] at H; exact H.elim
    | true =>
      rw [hok] at H
      simp only [cond_true, get_iff] at H
      obtain ⟨es, hes, r, hfr, H⟩ := H
      obtain ⟨b, s, ents, rfl, hi, hg, h0, h1, h2, h3⟩ := hr.map hv hes
      obtain ⟨r', hf, hfr2⟩ := findKey_sound (w := w) hE hk hok h2 hfr
      have hck := checkKey_sound (w := w) hE hk hok false
      have hget := run_getMap (P := P) h1
      have hlt : b < w.heap.size := (Array.getElem?_eq_some_iff.1 h1).1
      have hset : ∀ o, (setObj b o).run P w = .ok () { w with heap := w.heap.setIfInBounds b o } := by
        intro o; simp [setObj, Sem.run, h1]
      have hk2 : ∀ o c, c ≠ b → (w.heap.setIfInBounds b o)[c]? = w.heap[c]? := fun o c hc => Array.getElem?_setIfInBounds_ne (Ne.symm hc)
      cases r with
      | none =>
        cases r' with
        | some p => exact hfr2.elim
        | none =>
          simp only [optK, Option.elim] at H
          refine ⟨{ w with heap := w.heap.setIfInBounds b (.map (ents.push { key := k', val := x', born := ents.size }) (ents.size + 1)) }, _, ?_, ?_, H⟩
          · simp only [Instr.mapUpdate, Sem.run_bind, run_underlying hd, Result.andThen_ok, hget, hck, hf]
            exact hset _
          · refine hr.put hg hi rfl h0 (by simp) rfl rfl rfl (fun c hc => hk2 _ c hc) ⟨h0, ents.push { key := k', val := x', born := ents.size }, ents.size + 1, by simp [hlt], ?_, ?_, ?_, by simp⟩
            · have := h2.1; simp at this ⊢; omega
            · intro i p e hp he
              rw [Array.getElem?_push] at he
              have hl := h2.1
              simp only [Array.length_toList] at hl
              by_cases hie : i = ents.size
              · rw [if_pos hie] at he
                cases he
                rw [List.getElem?_append_right (by omega), show i - es.length = 0 from by omega] at hp
                simp at hp; subst hp
                exact ⟨hk, hx⟩
              · rw [if_neg hie] at he
                have hlt2 : i < ents.size := by
                  rcases Nat.lt_or_ge i ents.size with g | g
                  · exact g
                  · rw [Array.getElem?_eq_none g] at he; cases he
                rw [List.getElem?_append_left (by omega)] at hp
                exact h2.2 i p e hp (by simpa using he)
            · intro i e he
              rw [Array.getElem?_push] at he
              by_cases hie : i = ents.size
              · rw [if_pos hie] at he; cases he; exact hie.symm
              · rw [if_neg hie] at he; exact h3 i e he
      | some p =>
        cases r' with
        | none => exact hfr2.elim
        | some q =>
          obtain ⟨i, pv⟩ := p
          obtain ⟨j, qv⟩ := q
          obtain ⟨rfl, hpq⟩ := hfr2
          simp only [optK, Option.elim] at H
          obtain ⟨n, p0, hn, hp0, hpv, heq⟩ := findV_at hfr
          have hin : i = n := by omega
          subst hin
          obtain ⟨hkey, hsame⟩ := eqK_same hok heq
          have hl := h2.1
          simp only [Array.length_toList] at hl
          have hilt : i < ents.size := by
            rcases Nat.lt_or_ge i es.length with g | g
            · omega
            · rw [List.getElem?_eq_none g] at hp0; cases hp0
          have hent : ents[i]? = some ents[i] := Array.getElem?_eq_getElem hilt
          have hvk := (h2.2 i p0 ents[i] hp0 (by simp)).1
          have hke : ents[i].key = p0.1 ∧ k' = k := by
            -- keys that may be compared are plain
            rw [hkey] at hk
            have hpl : ∀ u, V ι p0.1 u → u = p0.1 := by
              intro u hu
              unfold keyOK at hok
              rw [hkey] at hok
              split at hok
              · rename_i h9; rw [h9] at hu ⊢; exact hu.int_inv
              · rename_i h9; rw [h9] at hu ⊢; exact hu.str_inv
              · rename_i h9; rw [h9] at hu ⊢; exact hu.bool_inv
              · rename_i xs hd2 h9
                rw [h9] at hu ⊢
                simp only [Bool.and_eq_true, Option.isSome_iff_exists, Option.bind_eq_some_iff] at hok
                obtain ⟨_, r, ls, h2', h3'⟩ := hok
                obtain ⟨ys, rfl, hy⟩ := hu.agg_inv
                have := (eqL_plain h3' hy hy).1
                have : ys = xs := by apply Array.ext'; exact this
                rw [this]
              · rename_i xs hd2 h9
                rw [h9] at hu ⊢
                simp only [Bool.and_eq_true, Option.isSome_iff_exists, Option.bind_eq_some_iff] at hok
                obtain ⟨_, r, ls, h2', h3'⟩ := hok
                obtain ⟨ys, rfl, hy⟩ := hu.agg_inv
                have := (eqL_plain h3' hy hy).1
                have : ys = xs := by apply Array.ext'; exact this
                rw [this]
              · cases hok
            exact ⟨hpl _ hvk, by rw [hpl _ hk, hkey]⟩
          refine ⟨{ w with heap := w.heap.setIfInBounds b (.map (ents.modify i fun e => { e with key := k', val := x' }) ents.size) }, _, ?_, ?_, H⟩
          · simp only [Instr.mapUpdate, Sem.run_bind, run_underlying hd, Result.andThen_ok, hget, hck, hf, hent, Option.map_some, Option.getD_some, Instr.keyThatStays]
            rw [hke.1, hke.2, if_pos hsame]
            simp only [Sem.run_pure, Result.andThen_ok]
            exact hset _
          · refine hr.put hg hi rfl h0 (by simp) rfl rfl rfl (fun c hc => hk2 _ c hc) ⟨h0, ents.modify i (fun e => { e with key := k', val := x' }), ents.size, by simp [hlt], ?_, ?_, ?_, by simp⟩
            · rw [setAt_length]; simpa using hl
            · intro c p e hp he
              rw [setAt_get] at hp
              rw [Array.getElem?_modify] at he
              by_cases hc : c = i
              · subst hc
                rw [if_pos ⟨rfl, by omega⟩] at hp
                rw [if_pos rfl, hent] at he
                simp only [Option.map_some, Option.some.injEq] at he hp
                subst hp; subst he
                exact ⟨hk, hx⟩
              · rw [if_neg (by simp [hc])] at hp
                rw [if_neg (fun h => hc h.symm)] at he
                exact h2.2 c p e hp (by simpa using he)
            · intro c e he
              rw [Array.getElem?_modify] at he
              by_cases hc : i = c
              · subst hc
                rw [if_pos rfl, hent] at he
                simp only [Option.map_some, Option.some.injEq] at he
                subst he
                exact h3 i ents[i] hent
              · rw [if_neg hc] at he
                exact h3 c e he
  · exact H.elim
end
end Go.AM
