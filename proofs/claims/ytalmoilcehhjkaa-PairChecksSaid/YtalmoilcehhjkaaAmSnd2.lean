/- The abstract machine's operations are sound: building values, operators, addresses, slices. -/
import Derived.Test.YtalmoilcehhjkaaAmSnd1
set_option linter.unusedVariables false
set_option linter.unusedSimpArgs false
namespace Go.AM

section
variable {P : Program} {ι : Inj} {w0 : Base} {w : World} {h : Heap} {f : Fr} {a : Act}

/-! new memory -/
theorem HR.newCells (hr : HR ι w0 h w) {c : List Value} {cc : Array Value} (e : TypeId) (hc : ∀ (i : Nat) (v : Value), c[i]? = some v → ∃ v', cc[i]? = some v' ∧ V ι v v') (h1 : ∀ v ∈ c, v.oneCell' = true) :
    ∃ κ, ι.le κ ∧ HR κ w0 (h.new (.cells c false)) { w with heap := w.heap.push (.cells cc e) } ∧ κ h.next = some (w.heap.size, (0, cc.size)) := by
  have hn : ι h.next = none := by
    cases e : ι h.next with
    | none => rfl
    | some p => exact absurd (hr.dom _ _ e) (Nat.lt_irrefl _)
  have hle := Inj.le_set hn (Nat.le_of_eq hr.bnd) (w.heap.size, (0, cc.size))
  obtain ⟨h1', h2⟩ := hr.new (o := .cells c false) (x := .cells cc e) (s := (0, cc.size)) (by
    refine ⟨cc, e, (0, 0), by simp, rfl, fun i v hv => ?_, fun _ => ⟨hr.newOK, rfl⟩, h1⟩
    obtain ⟨v', h3, h4⟩ := hc i v hv
    exact ⟨v', h3, h4.mono hle⟩)
  exact ⟨_, h2, h1', Inj.set_self ..⟩

/-- A new object, by itself: what the operation makes, whenever it runs. -/
def Alc (P : Program) (s : Sem Value) (ι : Inj) (w : World) (obj : AObj) (mk : Nat → Value) : Prop :=
  ∃ v' x sz, s.run P w = .ok v' { w with heap := w.heap.push x } ∧ (∀ (κ : Inj) (prot : Nat → Prop), ι.wk κ → ¬ prot w.heap.size → OR κ prot { w with heap := w.heap.push x } w.heap.size sz obj) ∧
    ∀ (κ : Inj) (n : Nat), κ n = some (w.heap.size, sz) → V κ (mk n) v'
theorem Alc.newCells {s : Sem Value} {c : List Value} {cc : Array Value} {e : TypeId} {mk : Nat → Value} (v' : Value)
    (hrun : s.run P w = .ok v' { w with heap := w.heap.push (.cells cc e) }) (hc : ∀ (i : Nat) (v : Value), c[i]? = some v → ∃ v', cc[i]? = some v' ∧ V ι v v') (h1 : ∀ v ∈ c, v.oneCell' = true)
    (hv : ∀ (κ : Inj) (n : Nat), κ n = some (w.heap.size, (0, cc.size)) → V κ (mk n) v') : Alc P s ι w (.cells c false) mk := by
  refine ⟨v', .cells cc e, (0, cc.size), hrun, fun κ prot hk hp => ⟨cc, e, (0, 0), by simp, rfl, fun i v hv => ?_, fun _ => ⟨hp, rfl⟩, h1⟩, hv⟩
  obtain ⟨v', h3, h4⟩ := hc i v hv
  exact ⟨v', h3, h4.wk hk⟩
theorem Alc.good {s : Sem Value} {obj : AObj} {mk : Nat → Value} (r : Alc P s ι w obj mk) (hr : HR ι w0 h w) {K : Value → Heap → Prop} (hK : K (mk h.next) (h.new obj)) : Good P s ι w0 w K := by
  obtain ⟨v', x, sz, h1, h2, h3⟩ := r
  have hn : ι h.next = none := by
    cases e : ι h.next with
    | none => rfl
    | some p => exact absurd (hr.dom _ _ e) (Nat.lt_irrefl _)
  have hle := Inj.le_set hn (Nat.le_of_eq hr.bnd) (w.heap.size, sz)
  obtain ⟨h4, h5⟩ := hr.new (h2 _ _ hle.1 hr.newOK)
  exact ⟨v', _, h1, _, _, _, h5, h3 _ _ (Inj.set_self ..), h4, hK⟩

theorem Good.newCells (hr : HR ι w0 h w) {s : Sem Value} {K : Value → Heap → Prop} {c : List Value} {cc : Array Value} {e : TypeId} {v : Value} (v' : Value)
    (hrun : s.run P w = .ok v' { w with heap := w.heap.push (.cells cc e) }) (hc : ∀ (i : Nat) (v : Value), c[i]? = some v → ∃ v', cc[i]? = some v' ∧ V ι v v') (h1 : ∀ v ∈ c, v.oneCell' = true)
    (hv : ∀ κ : Inj, κ h.next = some (w.heap.size, (0, cc.size)) → V κ v v') (hK : K v (h.new (.cells c false))) : Good P s ι w0 w K := by
  obtain ⟨κ, h1', h2, h3⟩ := hr.newCells e hc h1
  exact ⟨_, _, hrun, κ, _, _, h1', hv κ h3, h2, hK⟩

theorem zcells_some {t : TypeId} {z : List Value} (e : zcells P t = some z) : ∃ v, zeroT P t = some v ∧ z = v.cells.toList ∧ plainV v = true ∧ ∀ u ∈ v.cells.toList, u.oneCell' = true := by
  simp only [zcells, Option.bind_eq_some_iff] at e
  obtain ⟨v, h1, e⟩ := e
  cases ho : v.cells.toList.all Value.oneCell' with
  | false => rw [ho] at e; cases e
  | true =>
  rw [ho] at e
  cases e
  refine ⟨v, h1, rfl, ?_, fun u hu => List.all_eq_true.1 ho u hu⟩
  simp only [zeroT, Option.bind_eq_some_iff] at h1
  obtain ⟨v2, _, hc⟩ := h1
  cases hp : plainV v2 with
  | false => rw [hp] at hc; cases hc
  | true => rw [hp] at hc; cases hc; exact hp

theorem alloc_alc (ι : Inj) (w : World) {t : TypeId} {z : List Value} (hz : zcells P t = some z) : Alc P (Instr.alloc t true (.tuple #[])) ι w (.cells z false) (fun n => .pointer (some ⟨n, 0, none⟩)) := by
  obtain ⟨v, h1, rfl, hp, ho⟩ := zcells_some hz
  have hzr := (run_zeroT h1 w).1
  refine Alc.newCells (cc := v.cells) (e := t) (c := v.cells.toList) _ ?_ (fun i x hx => ⟨x, by simpa using hx, (V.of_plain ι hp).cells.2 i x x hx hx⟩) ho (fun κ n hκ => V.ptr hκ rfl)
  simp [Instr.alloc, hzr, newVar, newRow, newObj, Sem.run]

theorem box_alc (w : World) {t : TypeId} {v v' : Value} (hv : V ι v v') (ho : v.cells.toList.all Value.oneCell' = true) :
    Alc P (Instr.box t v') ι w (.cells v.cells.toList false) (fun n => .pointer (some ⟨n, 0, none⟩)) := by
  refine Alc.newCells (cc := v'.cells) (e := t) (c := v.cells.toList) (.pointer (some ⟨w.heap.size, 0, none⟩)) ?_ (fun i x hx => ?_) (fun u hu => List.all_eq_true.1 ho u hu) (fun κ n hκ => V.ptr hκ rfl)
  · simp [Instr.box, newVar, newRow, newObj, Sem.run]
  · obtain ⟨y, h1, h2⟩ := hv.cells.get hx
    exact ⟨y, by simpa using h1, h2⟩

/-! literals -/
theorem foldl_over : ∀ (l : List Value) (i : Nat) (cs : Array Value) (o : Nat), (l.zipIdx i).foldl (fun cs (p : Value × Nat) => cs.setIfInBounds (o + p.2) p.1) cs = (over cs.toList (o + i) l).toArray
  | [], i, cs, o => by simp [over]
  | v :: l, i, cs, o => by
    rw [List.zipIdx_cons, List.foldl_cons, foldl_over l (i + 1) _ o]
    simp [over, Nat.add_assoc]

theorem over_VL {xs ys : List Value} (hx : VL ι xs ys) : ∀ {l m : List Value} (i : Nat), VL ι l m → VL ι (over xs i l) (over ys i m) := by
  intro l
  induction l generalizing xs ys with
  | nil => intro m i h; rw [h.nil_inv]; exact hx
  | cons v l ih =>
    intro m i h
    obtain ⟨y, m', rfl, h1, h2⟩ := h.cons_inv
    exact ih (hx.set i h1) (i + 1) h2

theorem fill_sound {place : Nat → Option (Nat × Nat)} : ∀ {ps : List (Nat × Value)} {ps' : List (Nat × Value)} {cs cs' r : List Value}, PL ι ps ps' → VL ι cs cs' → fillL place cs ps = some r →
    ∃ r', Instr.fill place cs'.toArray ps' = some r'.toArray ∧ VL ι r r'
  | [], ps', cs, cs', r, hp, hc, e => by
    cases e
    have : ps' = [] := by have := hp.1; cases ps' with | nil => rfl | cons y ys => simp at this
    subst this
    exact ⟨cs', rfl, hc⟩
  | (i, v) :: rest, ps', cs, cs', r, hp, hc, e => by
    obtain ⟨v', ys', rfl, hv, hrest⟩ := hp.cons_inv
    simp only [fillL, Option.bind_eq_some_iff] at e
    obtain ⟨⟨off, size⟩, hpl, e⟩ := e
    simp only at e
    cases hcond : (Nat.beq v.cells.size size && Nat.ble (off + size) cs.length) with
    | false => rw [hcond] at e; cases e
    | true =>
      rw [hcond] at e
      simp only [cond_true] at e
      simp only [Bool.and_eq_true] at hcond
      have h1 : v.cells.size = size := Nat.eq_of_beq_eq_true hcond.1
      have h2 : off + size ≤ cs.length := Nat.le_of_ble_eq_true hcond.2
      have hvc := hv.cells
      have hl := hvc.1
      simp only [Array.length_toList] at hl
      have hc1 := hc.1
      obtain ⟨r', h3, h4⟩ := fill_sound hrest (over_VL hc off hvc) e
      refine ⟨r', ?_, h4⟩
      unfold Instr.fill
      rw [hpl]
      simp only
      rw [if_neg (by simp; omega)]
      have := foldl_over v'.cells.toList 0 cs'.toArray off
      simp only [Nat.add_zero] at this
      rw [← h3, ← this]
      congr 1
      rw [← Array.foldl_toList, Array.toList_zipIdx]

theorem places_spec : ∀ {fs : List Field} {pl : List (Nat × Nat)}, places P fs = some pl → ∀ w : World, (fs.mapM (fun f => Prod.mk f.offset <$> sizeOf f.type)).run P w = .ok pl w
  | [], pl, e, w => by cases e; rfl
  | f :: fs, pl, e, w => by
    simp only [places, Option.bind_eq_some_iff, Option.map_eq_some_iff] at e
    obtain ⟨n, hn, l, hl, rfl⟩ := e
    have ih := places_spec hl w
    simp [List.mapM_cons, run_sizeT hn, ih]

theorem rep_length (z : List Value) : ∀ n, (rep z n).length = n * z.length
  | 0 => by simp [rep]
  | n + 1 => by simp [rep, rep_length z n, Nat.add_mul, Nat.add_comm]
theorem rep_get (z : List Value) : ∀ n i, i < n * z.length → (rep z n)[i]? = z[i % z.length]?
  | 0, i, h => by simp at h
  | n + 1, i, h => by
    by_cases e : i < z.length
    · simp [rep, List.getElem?_append_left e, Nat.mod_eq_of_lt e]
    · rw [rep, List.getElem?_append_right (by omega), rep_get z n (i - z.length) (by rw [Nat.add_mul] at h; omega)]
      rw [Nat.mod_eq_sub_mod (show i ≥ z.length by omega)]
theorem rep_zero (z : Value) (n k : Nat) (hk : z.cells.size = k) :
    ((Array.range (n * k)).map (fun i : Nat => z.cells[i % z.cells.size]!)) = (rep z.cells.toList n).toArray := by
  apply Array.ext'
  apply List.ext_getElem?
  intro i
  simp only [Array.toList_map, Array.toList_range, List.getElem?_map]
  by_cases hi : i < n * k
  · have hpos : 0 < k := by
      rcases Nat.eq_zero_or_pos k with e | e
      · subst e; simp at hi
      · exact e
    have hlt : i % z.cells.size < z.cells.size := Nat.mod_lt _ (by omega)
    rw [List.getElem?_range hi, Option.map_some, rep_get _ _ _ (by simpa [hk] using hi)]
    simp only [Array.length_toList, Array.getElem?_toList]
    rw [Array.getElem?_eq_getElem hlt, getElem!_pos z.cells (i % z.cells.size) hlt]
  · rw [List.getElem?_eq_none (by simp; omega), List.getElem?_eq_none (by rw [rep_length]; simp [hk]; omega)]; rfl

theorem build_sound {t : TypeId} {ps ps' : List (Nat × Value)} {cs : List Value} (hp : PL ι ps ps') (e : buildV P t ps = some cs) :
    ∃ cs' : List Value, (Instr.build t ps'.toArray).run P w = .ok (.agg cs'.toArray) w ∧ VL ι cs cs' := by
  simp only [buildV, Option.bind_eq_some_iff] at e
  obtain ⟨z, hz, e⟩ := e
  obtain ⟨v, h1, rfl, hpv, _⟩ := zcells_some hz
  have hzr := (run_zeroT h1 w).1
  have hvl : VL ι v.cells.toList v.cells.toList := (V.of_plain ι hpv).cells
  split at e
  · rename_i fs hd
    simp only [Option.bind_eq_some_iff] at e
    obtain ⟨pl, hpl, e⟩ := e
    obtain ⟨r', h3, h4⟩ := fill_sound hp hvl e
    refine ⟨r', ?_, h4⟩
    have hm := places_spec hpl w
    have hm2 : (fs.mapM (fun f => Prod.mk f.offset <$> sizeOf f.type)).run P w = .ok pl.toArray w := by
      rw [Array.mapM_eq_mapM_toList]
      simp [hm]
    simp only [Array.toArray_toList] at h3
    have hpl' : (fun i : Nat => pl.toArray[i]?) = (fun i : Nat => pl[i]?) := by funext i; simp
    simp [Instr.build, hzr, run_underlying hd, hm2, h3]
  · rename_i m el hd
    simp only [Option.bind_eq_some_iff] at e
    obtain ⟨n, hn, e⟩ := e
    obtain ⟨r', h3, h4⟩ := fill_sound hp hvl e
    refine ⟨r', ?_, h4⟩
    simp only [Array.toArray_toList] at h3
    simp [Instr.build, hzr, run_underlying hd, run_sizeT hn, h3]
  · cases e

theorem rep_VL {z z' : List Value} (hz : VL ι z z') : ∀ n, VL ι (rep z n) (rep z' n)
  | 0 => VL.nil ι
  | n + 1 => hz.append (rep_VL hz n)

theorem buildSlice_alc (w : World) {t e : TypeId} {len : Nat} {ps ps' : List (Nat × Value)} {cs : List Value} (hd : P.underlying t = some (.slice e)) (hp : PL ι ps ps')
    (hb : buildS P e len ps = some cs) (ho : cs.all Value.oneCell' = true) : Alc P (Instr.buildSlice t len ps'.toArray) ι w (.cells cs false) (fun n => .slice (some ⟨n, 0, some 0⟩) len len) := by
  simp only [buildS, Option.bind_eq_some_iff] at hb
  obtain ⟨n, hn, hb⟩ := hb
  cases hc : Nat.ble (len * n) 1000 with
  | false => rw [hc] at hb; cases hb
  | true =>
    rw [hc] at hb
    simp only [cond_true, Option.bind_eq_some_iff] at hb
    obtain ⟨z, hz, hb⟩ := hb
    obtain ⟨v, h1, rfl, hpv, _⟩ := zcells_some hz
    have hle : len * n ≤ 1000 := Nat.le_of_ble_eq_true hc
    cases hzl : Nat.beq v.cells.toList.length n with
    | false => rw [hzl] at hb; cases hb
    | true =>
      rw [hzl] at hb
      simp only [cond_true] at hb
      have hsz : v.cells.size = n := by simpa using Nat.eq_of_beq_eq_true hzl
      have hvl : VL ι v.cells.toList v.cells.toList := (V.of_plain ι hpv).cells
      obtain ⟨r', h3, h4⟩ := fill_sound hp (rep_VL hvl len) hb
      have hzr := (run_zeroT h1 w).1
      have hrep := rep_zero v len n hsz
      refine Alc.newCells (cc := r'.toArray) (e := e) (c := cs) (.slice (some ⟨w.heap.size, 0, none⟩) len len) ?_ (fun i x hx => ?_) (fun u hu => List.all_eq_true.1 ho u hu)
        (fun κ n hκ => V.slice hκ (Nat.le_refl _) (fun _ => rfl) (fun k e => by cases e) (Nat.le_refl _) (.inr rfl))
      · have h24 : ¬ (2 ^ 24 < len * n) := by omega
        by_cases h0 : len * n = 0
        · have hrep0 : rep v.cells.toList len = [] := by
            have := rep_length v.cells.toList len
            apply List.eq_nil_of_length_eq_zero
            rw [this]; simp [hsz, h0]
          rw [hrep0] at h3
          have he : (Array.range 0).map (fun i : Nat => (#[] : Array Value)[i % (#[] : Array Value).size]!) = #[] := by simp
          simp only [Instr.buildSlice, Sem.run_bind, run_underlying hd, run_sizeT hn, Result.andThen_ok, if_neg h24, Sem.run_ite, if_pos h0, Sem.run_pure]
          rw [h0, he, h3]
          simp [newRow, newObj, Sem.run]
        · rw [← hrep] at h3
          simp [Instr.buildSlice, run_underlying hd, run_sizeT hn, h24, h0, hzr, h3, newRow, newObj, Sem.run]
      · obtain ⟨y, h5, h6⟩ := h4.get hx
        exact ⟨y, by simpa using h5, h6⟩
end
end Go.AM
