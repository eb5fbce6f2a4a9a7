/- The abstract machine's operations on memory, and that the model's own ones do what they say. -/
import Derived.Test.YtalmoilcehhjkaaAmRel
import Derived.Laws.Append
import Derived.Laws.CopyRow
import Derived.Laws.Cells
import Derived.Laws.StructEq
set_option linter.unusedVariables false
set_option linter.unusedSimpArgs false
namespace Go.AM

def Post (ι : Inj) (w0 : Base) (K : Value → Heap → Prop) (v' : Value) (w' : World) : Prop :=
  ∃ κ v h', ι.le κ ∧ V κ v v' ∧ HR κ w0 h' w' ∧ K v h'
def Good (P : Program) (s : Sem Value) (ι : Inj) (w0 : Base) (w : World) (K : Value → Heap → Prop) : Prop :=
  ∃ v' w', s.run P w = .ok v' w' ∧ Post ι w0 K v' w'
/-- The same of an operation without a value. -/
def GoodU (P : Program) (s : Sem Unit) (ι : Inj) (w0 : Base) (w : World) (K : Heap → Prop) : Prop :=
  ∃ w', s.run P w = .ok () w' ∧ ∃ κ h', ι.le κ ∧ HR κ w0 h' w' ∧ K h'

section
variable {P : Program} {ι : Inj} {w0 : Base} {w : World} {h : Heap}

theorem Good.val {s : Sem Value} {K : Value → Heap → Prop} {v v' : Value} (hr : HR ι w0 h w) (e : s.run P w = .ok v' w) (hv : V ι v v') (hK : K v h) : Good P s ι w0 w K :=
  ⟨v', w, e, ι, v, h, Inj.le_refl ι, hv, hr, hK⟩

/-! types -/
def isAggD : TypeDesc → Bool
  | .struct _ | .array _ _ => true
  | _ => false
def sizeT (P : Program) (t : TypeId) : Option Nat := (P.info? t).map (·.size)
def zeroT (P : Program) (t : TypeId) : Option Value := ((P.info? t).bind (·.zero)).bind fun z => cond (plainV z) (some z) none
/-- A type's zero cells: data. -/
def zcells (P : Program) (t : TypeId) : Option (List Value) := (zeroT P t).bind fun z => cond (z.cells.toList.all Value.oneCell') (some z.cells.toList) none

theorem run_isAgg {t : TypeId} {d : TypeDesc} (hd : P.underlying t = some d) (w : World) : (isAgg t).run P w = .ok (isAggD d) w := by
  unfold isAgg
  simp only [Sem.run_bind, run_underlying hd, Result.andThen_ok]
  cases d <;> rfl
theorem run_sizeT {t : TypeId} {n : Nat} (hs : sizeT P t = some n) (w : World) : (sizeOf t).run P w = .ok n w := by
  unfold sizeT at hs
  cases hi : P.info? t with
  | none => rw [hi] at hs; cases hs
  | some i => rw [hi] at hs; simp only [Option.map_some, Option.some.injEq] at hs; subst hs; simp [sizeOf, typeInfo, hi]
theorem run_zeroT {t : TypeId} {z : Value} (hz : zeroT P t = some z) (w : World) : (zeroValue t).run P w = .ok z w ∧ plainV z = true := by
  unfold zeroT at hz
  cases hi : P.info? t with
  | none => rw [hi] at hz; cases hz
  | some i =>
    rw [hi] at hz
    simp only [Option.bind_some] at hz
    cases hz' : i.zero with
    | none => rw [hz'] at hz; cases hz
    | some y =>
      rw [hz'] at hz
      simp only [Option.bind_some] at hz
      cases hp : plainV y with
      | false => rw [hp] at hz; cases hz
      | true => rw [hp] at hz; cases hz; exact ⟨by simp [zeroValue, typeInfo, hi, hz'], hp⟩

/-! cells -/
theorem Heap.blk_some {b : Nat} {c : List Value} (e : h.blk b = some c) : ∃ ro, h.get b = some (.cells c ro) := by
  unfold Heap.blk at e
  split at e
  · rename_i c' ro hg; cases e; exact ⟨ro, hg⟩
  · cases e
theorem Heap.own_some {b : Nat} {c : List Value} (e : h.own b = some c) : h.get b = some (.cells c false) := by
  unfold Heap.own at e
  split at e
  · rename_i c' hg; cases e; exact hg
  · cases e
theorem Heap.blk_of_own {b : Nat} {c : List Value} (e : h.own b = some c) : h.blk b = some c := by
  simp [Heap.blk, Heap.own_some e]

/-- An abstract block's cells lie in the world. -/
theorem HR.cells (hr : HR ι w0 h w) {β b : Nat} {s : Nat × Nat} {c : List Value} (hb : h.blk β = some c) (hi : ι β = some (b, s)) :
    ∃ cc e fz, w.heap[b]? = some (.cells cc e fz) ∧ ∀ (i : Nat) (v : Value), c[i]? = some v → ∃ v', cc[i + s.1]? = some v' ∧ V ι v v' := by
  obtain ⟨ro, hg⟩ := Heap.blk_some hb
  obtain ⟨cc, e, fz, h1, _, h2, _, _⟩ := hr.objs β _ b s hg hi
  exact ⟨cc, e, fz, h1, h2⟩

theorem cell?_of {b o : Nat} {cc : Array Value} {e : TypeId} {fz : Nat × Nat} (hb : w.heap[b]? = some (.cells cc e fz)) : w.cell? ⟨b, o, none⟩ = cc[o]? := by
  simp [World.cell?, hb]

theorem HR.rd (hr : HR ι w0 h w) {a a' : Addr} {v : Value} (ha : V ι (.pointer (some a)) (.pointer (some a'))) (e : h.rd a = some v) : ∃ v', w.cell? a' = some v' ∧ V ι v v' := by
  cases ha with
  | ptr hi ho =>
    rename_i β b o o' s
    simp only [Heap.rd, Option.bind_eq_some_iff] at e
    obtain ⟨c, hb, hc⟩ := e
    obtain ⟨cc, e', fz, h1, h2⟩ := hr.cells hb hi
    obtain ⟨v', h3, h4⟩ := h2 _ _ hc
    exact ⟨v', by rw [cell?_of h1, ho]; exact h3, h4⟩

theorem add_zero' (b o n : Nat) : (Addr.mk b o none).add n = ⟨b, o + n, none⟩ := by
  unfold Addr.add; split
  · rename_i e; subst e; rfl
  · rfl

/-- A run of cells is read. -/
theorem HR.rdN (hr : HR ι w0 h w) {a a' : Addr} {n : Nat} {l : List Value} (ha : V ι (.pointer (some a)) (.pointer (some a'))) (e : h.rdN a n = some l) :
    ∃ l', (loadCells a' n).run P w = .ok l'.toArray w ∧ VL ι l l' ∧ (∀ (i : Nat) (v : Value), l'[i]? = some v → w.cell? (a'.add i) = some v) := by
  cases ha with
  | ptr hi ho =>
    rename_i β b o o' s
    simp only [Heap.rdN, Option.bind_eq_some_iff] at e
    obtain ⟨c, hb, hc⟩ := e
    cases hle : Nat.ble (o + n) c.length with
    | false => rw [hle] at hc; cases hc
    | true =>
      rw [hle] at hc
      simp only [cond_true, Option.some.injEq] at hc
      have hle' : o + n ≤ c.length := Nat.le_of_ble_eq_true hle
      obtain ⟨cc, e', fz, h1, h2⟩ := hr.cells hb hi
      have hlen : l.length = n := by rw [← hc]; simp; omega
      have hat : ∀ (i : Nat) (v : Value), l[i]? = some v → ∃ v', cc[o' + i]? = some v' ∧ V ι v v' := by
        intro i v hv
        rw [← hc, List.getElem?_take] at hv
        split at hv
        · rw [List.getElem?_drop] at hv
          obtain ⟨v', h3, h4⟩ := h2 _ _ hv
          exact ⟨v', by rw [ho, show o + s.1 + i = o + i + s.1 from by omega]; exact h3, h4⟩
        · cases hv
      refine ⟨(cc.toList.drop o').take n, ?_, ⟨?_, ?_⟩, ?_⟩
      · have hlen' : ((cc.toList.drop o').take n).length = n := by
          rcases Nat.eq_zero_or_pos n with e0 | e0
          · subst e0; simp
          · obtain ⟨v, hv⟩ : ∃ v, l[n - 1]? = some v := ⟨l[n - 1], List.getElem?_eq_getElem (by omega)⟩
            obtain ⟨v', h3, _⟩ := hat _ _ hv
            have : o' + (n - 1) < cc.size := by
              rcases Nat.lt_or_ge (o' + (n - 1)) cc.size with g | g
              · exact g
              · rw [Array.getElem?_eq_none g] at h3; cases h3
            simp; omega
        have := run_loadCells_list (P := P) w ⟨b, o', none⟩ ((cc.toList.drop o').take n) (fun j v hj => by
          rw [List.getElem?_take] at hj
          split at hj
          · rw [List.getElem?_drop] at hj
            rw [add_zero', cell?_of h1]; simpa using hj
          · cases hj)
        rw [hlen'] at this
        exact this
      · rcases Nat.eq_zero_or_pos n with e0 | e0
        · subst e0; simpa using hlen
        · obtain ⟨v, hv⟩ : ∃ v, l[n - 1]? = some v := ⟨l[n - 1], List.getElem?_eq_getElem (by omega)⟩
          obtain ⟨v', h3, _⟩ := hat _ _ hv
          have : o' + (n - 1) < cc.size := by
            rcases Nat.lt_or_ge (o' + (n - 1)) cc.size with g | g
            · exact g
            · rw [Array.getElem?_eq_none g] at h3; cases h3
          simp; omega
      · intro i x y hx hy
        obtain ⟨v', h3, h4⟩ := hat _ _ hx
        rw [List.getElem?_take] at hy
        split at hy
        · rw [List.getElem?_drop] at hy
          have : cc[o' + i]? = some y := by simpa using hy
          rw [h3] at this; cases this; exact h4
        · cases hy
      · intro i v hj
        rw [List.getElem?_take] at hj
        split at hj
        · rw [List.getElem?_drop] at hj
          rw [add_zero', cell?_of h1]; simpa using hj
        · cases hj

theorem over_length : ∀ (vs : List Value) (c : List Value) (i : Nat), (over c i vs).length = c.length
  | [], _, _ => rfl
  | v :: vs, c, i => by simp [over, over_length vs]
theorem over_get : ∀ (vs : List Value) (c : List Value) (i j : Nat), i + vs.length ≤ c.length → (over c i vs)[j]? = if i ≤ j ∧ j < i + vs.length then vs[j - i]? else c[j]?
  | [], c, i, j, _ => by rw [if_neg (by simp)]; rfl
  | v :: vs, c, i, j, hl => by
    simp only [List.length_cons] at hl
    rw [over, over_get vs _ (i + 1) j (by simp; omega)]
    by_cases e : i + 1 ≤ j ∧ j < i + 1 + vs.length
    · rw [if_pos e, if_pos ⟨by omega, by simp; omega⟩]
      obtain ⟨k, rfl⟩ : ∃ k, j = i + 1 + k := ⟨j - (i + 1), by omega⟩
      rw [show i + 1 + k - (i + 1) = k from by omega, show i + 1 + k - i = k + 1 from by omega]
      simp
    · rw [if_neg e]
      by_cases e2 : j = i
      · subst e2
        rw [if_pos ⟨Nat.le_refl _, by simp⟩]
        simp [show j < c.length from by omega]
      · rw [if_neg (by simp; omega), List.getElem?_set_ne (fun h => e2 h.symm)]

theorem over_one {c : List Value} : ∀ {vs : List Value} (hc : ∀ v ∈ c, v.oneCell' = true) (hv : ∀ v ∈ vs, v.oneCell' = true) (i : Nat), ∀ v ∈ over c i vs, v.oneCell' = true := by
  intro vs
  induction vs generalizing c with
  | nil => intro hc _ i; exact hc
  | cons x vs ih =>
    intro hc hv i
    refine ih (fun v hm => ?_) (fun v hm => hv v (by simp [hm])) (i + 1)
    rcases List.mem_or_eq_of_mem_set hm with g | g
    · exact hc v g
    · subst g; exact hv _ (by simp)
theorem V.one {v v' : Value} (hv : V ι v v') (h : v.oneCell' = true) : v'.oneCell' = true := by cases hv <;> first | rfl | cases h
theorem VL.one {vs vs' : List Value} (hv : VL ι vs vs') (h : ∀ v ∈ vs, v.oneCell' = true) : ∀ v ∈ vs', v.oneCell' = true := by
  intro v hm
  obtain ⟨i, hi, rfl⟩ := List.getElem_of_mem hm
  have hj : i < vs.length := by rw [hv.1]; exact hi
  exact (hv.2 i vs[i] vs'[i] (List.getElem?_eq_getElem hj) (List.getElem?_eq_getElem hi)).one (h _ (List.getElem_mem hj))
theorem HR.one (hr : HR ι w0 h w) {β : Nat} {b : Nat × (Nat × Nat)} {c : List Value} (hb : h.blk β = some c) (hi : ι β = some b) : ∀ v ∈ c, v.oneCell' = true := by
  obtain ⟨ro, hg⟩ := Heap.blk_some hb
  obtain ⟨cc, e, fz, h1, _, h2, _, h4⟩ := hr.objs β _ b.1 b.2 hg hi
  exact h4

/-- A run of cells is written. -/
theorem HR.wr (hr : HR ι w0 h w) {a a' : Addr} {vs vs' : List Value} {h' : Heap} (ha : V ι (.pointer (some a)) (.pointer (some a'))) (hvs : VL ι vs vs')
    (h1a : ∀ v ∈ vs, v.oneCell' = true) (e : h.wr a vs = some h') : ∃ w', (storeCells a' vs').run P w = .ok () w' ∧ HR ι w0 h' w' := by
  have h1 : ∀ v ∈ vs', v.oneCell' = true := hvs.one h1a
  cases ha with
  | ptr hi ho =>
    rename_i β b o o' s
    simp only [Heap.wr, Option.bind_eq_some_iff] at e
    obtain ⟨c, hb, hc⟩ := e
    cases hle : Nat.ble (o + vs.length) c.length with
    | false => rw [hle] at hc; cases hc
    | true =>
      rw [hle] at hc
      simp only [cond_true, Option.some.injEq] at hc
      have hle' : o + vs.length ≤ c.length := Nat.le_of_ble_eq_true hle
      have hg := Heap.own_some hb
      obtain ⟨cc, et, fz, g1, g0, g2, g3, g5⟩ := hr.objs β _ b s hg hi
      obtain ⟨g4, rfl⟩ := g3 rfl
      subst hc
      cases vs with
      | nil =>
        have : vs' = [] := hvs.nil_inv
        subst this
        exact ⟨w, rfl, hr.put hg hi rfl g4 rfl rfl rfl rfl (fun _ _ => rfl) ⟨cc, et, (0, 0), g1, g0, g2, fun _ => ⟨g4, rfl⟩, g5⟩⟩
      | cons v0 vr =>
        have hl := hvs.1
        have hlen : (v0 :: vr).length = vr.length + 1 := rfl
        have hlast : o + vr.length < c.length := by omega
        have hsz : o' + 0 + vs'.length ≤ cc.size := by
          obtain ⟨v', h3, _⟩ := g2 _ _ (List.getElem?_eq_getElem hlast)
          have : o + vr.length + s.1 < cc.size := by
            rcases Nat.lt_or_ge (o + vr.length + s.1) cc.size with g | g
            · exact g
            · rw [Array.getElem?_eq_none g] at h3; cases h3
          omega
        have hrun := run_storeCells_at P b o' et vs' 0 cc w g1 hsz h1
        refine ⟨_, hrun, ?_⟩
        have hnew := setRow_heap w b cc (cc.toList.take (o' + 0) ++ vs' ++ cc.toList.drop (o' + 0 + vs'.length)).toArray et (0, 0) g1
        refine hr.put hg hi rfl g4 (by simp [World.setRow]) rfl rfl rfl (fun k hk => by simp [World.setRow, Array.getElem?_modify, Ne.symm hk]) ⟨_, et, (0, 0), hnew, ?_, ?_, fun _ => ⟨g4, rfl⟩, over_one g5 h1a _⟩
        · simp; omega
        intro i v hv
        rw [over_get _ _ _ _ hle'] at hv
        have hget : ∀ j, (cc.toList.take (o' + 0) ++ vs' ++ cc.toList.drop (o' + 0 + vs'.length)).toArray[j]? = if o' ≤ j ∧ j < o' + vs'.length then vs'[j - o']? else cc[j]? := by
          intro j
          simp only [Nat.add_zero, List.getElem?_toArray]
          have ht : (cc.toList.take o').length = o' := by simp; omega
          by_cases e1 : j < o'
          · rw [if_neg (by omega), List.append_assoc, List.getElem?_append_left (by omega), List.getElem?_take_of_lt e1]; simp
          · by_cases e2 : j < o' + vs'.length
            · rw [if_pos ⟨by omega, e2⟩, List.append_assoc, List.getElem?_append_right (by omega), ht, List.getElem?_append_left (by omega)]
            · rw [if_neg (by omega), List.getElem?_append_right (by simp; omega), List.getElem?_drop]
              simp only [List.length_append, ht]
              rw [show o' + vs'.length + (j - (o' + vs'.length)) = j from by omega]; simp
        rw [hget]
        by_cases e : o ≤ i ∧ i < o + (v0 :: vr).length
        · rw [if_pos e] at hv
          rw [if_pos ⟨by omega, by omega⟩, show i + s.1 - o' = i - o from by omega]
          exact hvs.get hv
        · rw [if_neg e] at hv
          rw [if_neg (by omega)]
          exact g2 _ _ hv
end
end Go.AM
