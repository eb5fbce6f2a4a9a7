/- The abstract machine's operations are sound: reading and plain values. -/
import Derived.Test.YtalmoilcehhjkaaAmOpV
set_option linter.unusedVariables false
set_option linter.unusedSimpArgs false
namespace Go.AM

section
variable {P : Program} {ι : Inj} {w0 : Base} {w : World} {h : Heap} {f : Fr} {a : Act}

theorem FR.ev (hf : FR ι f a.tmps) {x : Operand} {v : Value} (e : f.ev x = some v) : V ι v (a.eval x) := by
  cases x with
  | tmp t =>
    obtain ⟨v', h1, h2⟩ := hf.2 t v e
    simp only [Act.eval, Array.getD_eq_getD_getElem?, h1, Option.getD_some]
    exact h2
  | const c =>
    simp only [Fr.ev] at e
    cases hp : plainV c with
    | false => rw [hp] at e; cases e
    | true => rw [hp] at e; cases e; exact V.of_plain ι hp
  | global g => cases e
  | func g =>
    simp only [Fr.ev, Option.some.injEq] at e
    subst e
    exact .func (fnR.self _ rfl) rfl (fun i x y hx _ => by simp at hx) rfl (fun i x y hx _ => by simp at hx)

theorem FR.evs (hf : FR ι f a.tmps) : ∀ {xs : List Operand} {l : List Value}, AM.evs f xs = some l → VL ι l (xs.map a.eval)
  | [], l, e => by cases e; exact VL.nil ι
  | x :: xs, l, e => by
    simp only [AM.evs, Option.bind_eq_some_iff, Option.map_eq_some_iff] at e
    obtain ⟨v, hv, l', hl, rfl⟩ := e
    exact VL.cons (hf.ev hv) (hf.evs hl)

/-- Parts, one by one. -/
def PL (ι : Inj) (xs ys : List (Nat × Value)) : Prop := xs.length = ys.length ∧ ∀ (i : Nat) (x y : Nat × Value), xs[i]? = some x → ys[i]? = some y → x.1 = y.1 ∧ V ι x.2 y.2
theorem FR.parts (hf : FR ι f a.tmps) : ∀ {xs : List (Nat × Operand)} {l : List (Nat × Value)}, AM.parts f xs = some l → PL ι l (xs.map fun p => (p.1, a.eval p.2))
  | [], l, e => by cases e; exact ⟨rfl, fun i x y hx _ => by simp at hx⟩
  | (i, x) :: xs, l, e => by
    simp only [AM.parts, Option.bind_eq_some_iff, Option.map_eq_some_iff] at e
    obtain ⟨v, hv, l', hl, rfl⟩ := e
    have ih := hf.parts hl
    refine ⟨by simpa using ih.1, fun j x y hx hy => ?_⟩
    cases j with
    | zero => simp at hx hy; subst hx; subst hy; exact ⟨rfl, hf.ev hv⟩
    | succ j => simp at hx hy; exact ih.2 j x y (by simpa using hx) (by simpa using hy)
theorem PL.cons_inv {xs : List (Nat × Value)} {i : Nat} {v : Value} {ys : List (Nat × Value)} (h : PL ι ((i, v) :: xs) ys) : ∃ v' ys', ys = (i, v') :: ys' ∧ V ι v v' ∧ PL ι xs ys' := by
  cases ys with
  | nil => have := h.1; simp at this
  | cons y ys =>
    obtain ⟨e, hv⟩ := h.2 0 (i, v) y rfl rfl
    obtain ⟨j, v'⟩ := y
    simp only at e hv
    subst e
    exact ⟨v', ys, rfl, hv, ⟨by simpa using h.1, fun k a b ha hb => h.2 (k + 1) a b (by simpa using ha) (by simpa using hb)⟩⟩

/-! inversion of values -/
theorem V.int_inv {k : IntKind} {n : Int} {v : Value} (h : V ι (.int k n) v) : v = .int k n := by cases h; rfl
theorem V.bool_inv {b : Bool} {v : Value} (h : V ι (.bool b) v) : v = .bool b := by cases h; rfl
theorem V.str_inv {b : ByteArray} {v : Value} (h : V ι (.string b) v) : v = .string b := by cases h; rfl
theorem V.ptr_inv {a : Addr} {v : Value} (h : V ι (.pointer (some a)) v) : ∃ a', v = .pointer (some a') ∧ V ι (.pointer (some a)) (.pointer (some a')) := by
  cases h with | ptr e ho => exact ⟨_, rfl, .ptr e ho⟩
theorem V.ptr_spot {a : Addr} {v : Value} (h : V ι (.pointer (some a)) v) : a.spot = none := by
  cases h with | ptr e ho => rfl

theorem intK_inv {v : Value} {K : IntKind → Int → Prop} (h : intK v K) : ∃ k n, v = .int k n ∧ K k n := by
  cases v <;> first | exact h.elim | exact ⟨_, _, rfl, h⟩
theorem boolK_inv {v : Value} {K : Bool → Prop} (h : boolK v K) : ∃ b, v = .bool b ∧ K b := by
  cases v <;> first | exact h.elim | exact ⟨_, rfl, h⟩
theorem strK_inv {v : Value} {K : ByteArray → Prop} (h : strK v K) : ∃ b, v = .string b ∧ K b := by
  cases v <;> first | exact h.elim | exact ⟨_, rfl, h⟩
theorem addrK_inv {v : Value} {K : Addr → Prop} (h : addrK v K) : ∃ b, v = .pointer (some b) ∧ K b := by
  cases v <;> first | exact h.elim | skip
  rename_i a
  cases a with
  | none => exact h.elim
  | some a => exact ⟨a, rfl, h⟩
theorem mapK_inv {v : Value} {K : Nat → Prop} (h : mapK v K) : ∃ b, v = .map (some b) ∧ K b := by
  cases v <;> first | exact h.elim | skip
  rename_i a
  cases a with
  | none => exact h.elim
  | some a => exact ⟨a, rfl, h⟩
theorem sliceK_inv {v : Value} {K : Sl → Prop} (h : sliceK v K) : ∃ s : Sl, v = s.v ∧ K s := by
  cases v <;> first | exact h.elim | exact ⟨⟨_, _, _⟩, rfl, h⟩
theorem aggK_inv {v : Value} {K : List Value → Prop} (h : aggK v K) : ∃ b, v = .agg b ∧ K b.toList := by
  cases v <;> first | exact h.elim | exact ⟨_, rfl, h⟩

/-! load -/
theorem views_spec : ∀ {ls : List LK} {vs : List (Option Value)} {acc : List Value} {K : List Value → Prop}, views ls vs acc K → ∃ l, vs = l.map some ∧ l.length = ls.length ∧ K (acc.reverse ++ l)
  | [], [], acc, K, h => ⟨[], rfl, rfl, by simpa [views] using h⟩
  | [], _ :: _, acc, K, h => by simp [views] at h
  | _ :: _, [], acc, K, h => by simp [views] at h
  | l :: ls, v :: vs, acc, K, h => by
    simp only [views] at h
    obtain ⟨x, rfl, h2⟩ := LK.view_spec h
    obtain ⟨r, rfl, hl, hK⟩ := views_spec h2
    exact ⟨x :: r, rfl, by simp [hl], by simpa using hK⟩
theorem rds_spec (b : Nat) : ∀ (n o : Nat) (l : List Value), rds h b o n = l.map some → l.length = n ∧ ∀ (i : Nat) (v : Value), l[i]? = some v → h.rd ⟨b, o + i, none⟩ = some v
  | 0, o, l, e => by
    have : l = [] := by cases l with | nil => rfl | cons x l => simp [rds] at e
    subst this; exact ⟨rfl, fun i v hv => by simp at hv⟩
  | n + 1, o, l, e => by
    cases l with
    | nil => simp [rds] at e
    | cons x l =>
      simp only [rds, List.map_cons, List.cons.injEq] at e
      obtain ⟨h1, h2⟩ := rds_spec b n (o + 1) l e.2
      refine ⟨by simp [h1], fun i v hv => ?_⟩
      cases i with
      | zero => simp at hv; subst hv; exact e.1
      | succ i => simp at hv; rw [show o + (i + 1) = o + 1 + i from by omega]; exact h2 i v hv

theorem HR.loadCells1 (hr : HR ι w0 h w) {β o : Nat} {a' : Addr} (ha : V ι (.pointer (some ⟨β, o, none⟩)) (.pointer (some a'))) {l : List Value} {n : Nat} (e : rds h β o n = l.map some) :
    ∃ l', (loadCells a' n).run P w = .ok l'.toArray w ∧ VL ι l l' := by
  obtain ⟨hl, hat⟩ := rds_spec β n o l e
  have key : ∀ (i : Nat) (v : Value), l[i]? = some v → ∃ v', w.cell? (a'.add i) = some v' ∧ V ι v v' := by
    intro i v hv
    have := hat i v hv
    cases ha with
    | ptr hi ho =>
      rename_i b s o'
      refine hr.rd (a := ⟨β, o + i, none⟩) (by rw [add_zero']; exact .ptr hi (by omega)) this
  have hex : ∃ l' : List Value, l'.length = l.length ∧ ∀ (i : Nat) (v v' : Value), l[i]? = some v → l'[i]? = some v' → w.cell? (a'.add i) = some v' ∧ V ι v v' := by
    clear hat hl e
    refine ⟨(List.range l.length).map fun i => (w.cell? (a'.add i)).getD undef, by simp, fun i v v' hv hv' => ?_⟩
    obtain ⟨u, h1, h2⟩ := key i v hv
    have hi : i < l.length := by
      rcases Nat.lt_or_ge i l.length with g | g
      · exact g
      · rw [List.getElem?_eq_none g] at hv; cases hv
    rw [List.getElem?_map, List.getElem?_range hi] at hv'
    simp only [Option.map_some, h1, Option.getD_some, Option.some.injEq] at hv'
    subst hv'
    exact ⟨h1, h2⟩
  obtain ⟨l', hl', hat'⟩ := hex
  refine ⟨l', ?_, hl'.symm, fun i x y hx hy => (hat' i x y hx hy).2⟩
  have := run_loadCells_list (P := P) w a' l' (fun j v hj => by
    have hjl : j < l.length := by
      rcases Nat.lt_or_ge j l.length with g | g
      · exact g
      · rw [List.getElem?_eq_none (by omega)] at hj; cases hj
    exact (hat' j l[j] v (List.getElem?_eq_getElem hjl) hj).1)
  rw [hl', hl] at this
  exact this

theorem loadK_sound (hr : HR ι w0 h w) {t : TypeId} {a a' : Addr} {K : Value → Prop} (ha : V ι (.pointer (some a)) (.pointer (some a'))) (H : loadK P h t a K) :
    ∃ v v', (loadVar t a').run P w = .ok v' w ∧ V ι v v' ∧ K v := by
  unfold loadK at H
  cases hd : P.underlying t with
  | none => rw [hd] at H; exact H.elim
  | some d =>
    rw [hd] at H
    simp only at H
    have hsp := ha.ptr_spot
    obtain ⟨β, o, sp⟩ := a
    simp only at hsp
    subst hsp
    cases hg : isAggD d with
    | true =>
      rw [hg] at H
      simp only [cond_true, get_iff] at H
      obtain ⟨n, hn, H⟩ := H
      cases hb : Nat.ble n 8 with
      | true =>
        rw [hb] at H
        simp only [cond_true, get_iff] at H
        obtain ⟨ls, hls, H⟩ := H
        cases he : Nat.beq ls.length n with
        | false => rw [he] at H; exact H.elim
        | true =>
          rw [he] at H
          simp only [cond_true] at H
          obtain ⟨l, h1, h2, hK⟩ := views_spec H
          obtain ⟨l', h3, h4⟩ := hr.loadCells1 (P := P) ha h1
          refine ⟨_, .agg l'.toArray, ?_, V.agg_iff.2 (by simpa using h4), by simpa using hK⟩
          simp [loadVar, run_isAgg hd, hg, run_sizeT hn, h3]
      | false =>
        rw [hb] at H
        simp only [cond_false, get_iff] at H
        obtain ⟨l, hl, hK⟩ := H
        obtain ⟨l', h3, h4, _⟩ := hr.rdN (P := P) ha hl
        refine ⟨_, .agg l'.toArray, ?_, V.agg_iff.2 (by simpa using h4), hK⟩
        simp [loadVar, run_isAgg hd, hg, run_sizeT hn, h3]
    | false =>
      rw [hg] at H
      simp only [cond_false] at H
      obtain ⟨x, hx, hK⟩ := LK.view_spec H
      obtain ⟨v', h1, h2⟩ := hr.rd ha hx
      refine ⟨x, v', ?_, h2, hK⟩
      simp [loadVar, run_isAgg hd, hg, load, Sem.run, h1]

theorem storeK_sound (hr : HR ι w0 h w) {t : TypeId} {a a' : Addr} {v v' : Value} {K : Heap → Prop} (ha : V ι (.pointer (some a)) (.pointer (some a'))) (hv : V ι v v')
    (H : storeK P h t a v K) : ∃ w' h', (storeVar t a' v').run P w = .ok () w' ∧ HR ι w0 h' w' ∧ K h' := by
  unfold storeK at H
  simp only [get_iff] at H
  obtain ⟨n, hn, H⟩ := H
  cases hc : (Nat.beq v.cells.size n && v.cells.toList.all Value.oneCell') with
  | false => rw [hc] at H; exact H.elim
  | true =>
    rw [hc] at H
    simp only [cond_true, get_iff] at H
    obtain ⟨h', hw, hK⟩ := H
    simp only [Bool.and_eq_true] at hc
    have hcells := hv.cells
    have hsize : v'.cells.size = n := by
      have h1 := hcells.1
      have h2 := Nat.eq_of_beq_eq_true hc.1
      simp only [Array.length_toList] at h1
      omega
    have hone : ∀ u ∈ v.cells.toList, u.oneCell' = true := fun u hu => List.all_eq_true.1 hc.2 u hu
    obtain ⟨w', hrun, hr'⟩ := hr.wr (P := P) ha hcells hone hw
    refine ⟨w', h', ?_, hr', hK⟩
    simp [storeVar, run_sizeT hn, hsize, hrun]
end
end Go.AM
