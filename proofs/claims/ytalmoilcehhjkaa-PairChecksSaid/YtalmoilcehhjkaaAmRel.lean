/- The abstract machine's relation to the model's world: values, frames, heaps; how it is kept. -/
import Derived.Test.YtalmoilcehhjkaaAmTr
import Derived.Laws.Sem
set_option linter.unusedVariables false
set_option linter.unusedSimpArgs false
namespace Go.AM
open Go.RowKit

/-- Where an abstract block lies: block number, by how much its offsets are moved, and how many cells are there. -/
structure Inj where
  f : Nat → Option (Nat × (Nat × Nat))
  bound : Nat
instance : CoeFun Inj (fun _ => Nat → Option (Nat × (Nat × Nat))) := ⟨Inj.f⟩
/-- What is known stays known. -/
def Inj.wk (i j : Inj) : Prop := ∀ b p, i b = some p → j b = some p
/-- Nor does anything below the bound become known. -/
def Inj.le (i j : Inj) : Prop := i.wk j ∧ i.bound ≤ j.bound ∧ ∀ b, b < i.bound → i b = none → j b = none
theorem Inj.wk_refl (i : Inj) : i.wk i := fun _ _ h => h
theorem Inj.wk_trans {i j k : Inj} (h : i.wk j) (g : j.wk k) : i.wk k := fun b p e => g b p (h b p e)
theorem Inj.le_refl (i : Inj) : i.le i := ⟨fun _ _ h => h, Nat.le_refl _, fun _ _ h => h⟩
theorem Inj.le_trans {i j k : Inj} (h : i.le j) (g : j.le k) : i.le k :=
  ⟨Inj.wk_trans h.1 g.1, Nat.le_trans h.2.1 g.2.1, fun b hb e => g.2.2 b (Nat.lt_of_lt_of_le hb h.2.1) (h.2.2 b hb e)⟩
def Inj.set (i : Inj) (b : Nat) (p : Nat × (Nat × Nat)) : Inj := ⟨fun c => if c = b then some p else i c, Nat.max i.bound (b + 1)⟩
theorem Inj.set_at (i : Inj) (b : Nat) (p : Nat × (Nat × Nat)) (c : Nat) : (i.set b p) c = if c = b then some p else i c := rfl
theorem Inj.wk_set {i : Inj} {b : Nat} (h : i b = none) (p : Nat × (Nat × Nat)) : i.wk (i.set b p) := fun c q e => by
  rw [Inj.set_at]
  split
  · subst c; rw [h] at e; cases e
  · exact e
theorem Inj.le_set {i : Inj} {b : Nat} (h : i b = none) (hb : i.bound ≤ b) (p : Nat × (Nat × Nat)) : i.le (i.set b p) :=
  ⟨Inj.wk_set h p, Nat.le_max_left .., fun c hc e => by rw [Inj.set_at, if_neg (by omega)]; exact e⟩
theorem Inj.set_self (i : Inj) (b : Nat) (p : Nat × (Nat × Nat)) : (i.set b p) b = some p := by simp [Inj.set_at]

/-- A yield function is known by a block of ours, which stands for its loop's record. -/
def fnR (ι : Inj) (a b : Fn) : Prop :=
  match a with
  | .yield β => ∃ l s, ι β = some (l, s) ∧ b = .yield l
  | f => b = f
def notY (f : Fn) : Bool := match f with | .yield _ => false | _ => true
theorem fnR.wk {ι κ : Inj} (h : ι.wk κ) {a b : Fn} (r : fnR ι a b) : fnR κ a b := by
  cases a <;> first | exact r | (obtain ⟨l, s, h1, h2⟩ := r; exact ⟨l, s, h _ _ h1, h2⟩)
theorem fnR.self (ι : Inj) {a : Fn} (h : notY a = true) : fnR ι a a := by
  cases a <;> first | rfl | cases h

inductive V (ι : Inj) : Value → Value → Prop
  | bool (b : Bool) : V ι (.bool b) (.bool b)
  | int (k : IntKind) (n : Int) : V ι (.int k n) (.int k n)
  | float (k : FloatKind) (n : Nat) : V ι (.float k n) (.float k n)
  | str (s : ByteArray) : V ι (.string s) (.string s)
  | ptrNil : V ι (.pointer none) (.pointer none)
  | ptr {β b o o' : Nat} {s : Nat × Nat} (h : ι β = some (b, s)) (ho : o' = o + s.1) : V ι (.pointer (some ⟨β, o, none⟩)) (.pointer (some ⟨b, o', none⟩))
  | sliceNil : V ι (.slice none 0 0) (.slice none 0 0)
  | slice {β b o len lb cap : Nat} {s : Nat × Nat} {sp : Option Nat} {a' : Addr} (h : ι β = some (b, s)) (hlb : lb ≤ cap) (hex : sp = some 0 → cap = lb)
      (hro : ∀ k, sp = some (k + 1) → o + s.1 + cap * k ≤ s.2) (hl : len ≤ lb) (ha : cap = 0 ∨ a' = ⟨b, o + s.1, none⟩) : V ι (.slice (some ⟨β, o, sp⟩) len lb) (.slice (some a') len cap)
  | mapNil : V ι (.map none) (.map none)
  | map {β b : Nat} {s : Nat × Nat} (h : ι β = some (b, s)) : V ι (.map (some β)) (.map (some b))
  | func {fn fn' : Fn} (hf : fnR ι fn fn') {xs ys cs ds : Array Value} (h1 : xs.size = ys.size) (h2 : ∀ (i : Nat) (x y : Value), xs[i]? = some x → ys[i]? = some y → V ι x y)
      (h3 : cs.size = ds.size) (h4 : ∀ (i : Nat) (x y : Value), cs[i]? = some x → ds[i]? = some y → V ι x y) : V ι (.func fn xs cs) (.func fn' ys ds)
  | nilFunc : V ι .nilFunc .nilFunc
  | iface (t : TypeId) {v v' : Value} (h : V ι v v') : V ι (.iface t v) (.iface t v')
  | nilIface : V ι .nilIface .nilIface
  | agg {xs ys : Array Value} (h1 : xs.size = ys.size) (h2 : ∀ (i : Nat) (x y : Value), xs[i]? = some x → ys[i]? = some y → V ι x y) : V ι (.agg xs) (.agg ys)
  | tuple {xs ys : Array Value} (h1 : xs.size = ys.size) (h2 : ∀ (i : Nat) (x y : Value), xs[i]? = some x → ys[i]? = some y → V ι x y) : V ι (.tuple xs) (.tuple ys)

theorem V.wk {ι κ : Inj} (h : ι.wk κ) {v v' : Value} (r : V ι v v') : V κ v v' := by
  induction r with
  | bool b => exact .bool b
  | int k n => exact .int k n
  | float k n => exact .float k n
  | str s => exact .str s
  | ptrNil => exact .ptrNil
  | ptr e ho => exact .ptr (h _ _ e) ho
  | sliceNil => exact .sliceNil
  | slice e hlb hex hro hl ha => exact .slice (h _ _ e) hlb hex hro hl ha
  | mapNil => exact .mapNil
  | map e => exact .map (h _ _ e)
  | func hf h1 _ h3 _ i2 i4 => exact .func (hf.wk h) h1 i2 h3 i4
  | nilFunc => exact .nilFunc
  | iface t _ i => exact .iface t i
  | nilIface => exact .nilIface
  | agg h1 _ i2 => exact .agg h1 i2
  | tuple h1 _ i2 => exact .tuple h1 i2

theorem V.mono {ι κ : Inj} (h : ι.le κ) {v v' : Value} (r : V ι v v') : V κ v v' := r.wk h.1

theorem V.undef (ι : Inj) : V ι undef undef := .tuple rfl (fun i x y h _ => by simp at h)

/-- Lists of values, one by one. -/
def VL (ι : Inj) (xs ys : List Value) : Prop := xs.length = ys.length ∧ ∀ (i : Nat) (x y : Value), xs[i]? = some x → ys[i]? = some y → V ι x y
theorem VL.nil (ι : Inj) : VL ι [] [] := ⟨rfl, fun i x y h _ => by simp at h⟩
theorem VL.cons {ι : Inj} {x y : Value} {xs ys : List Value} (h : V ι x y) (t : VL ι xs ys) : VL ι (x :: xs) (y :: ys) :=
  ⟨by simp [t.1], fun i a b ha hb => by
    cases i with
    | zero => simp at ha hb; subst ha; subst hb; exact h
    | succ i => simp at ha hb; exact t.2 i a b ha hb⟩
theorem VL.head {ι : Inj} {x y : Value} {xs ys : List Value} (h : VL ι (x :: xs) (y :: ys)) : V ι x y := h.2 0 x y rfl rfl
theorem VL.tail {ι : Inj} {x y : Value} {xs ys : List Value} (h : VL ι (x :: xs) (y :: ys)) : VL ι xs ys :=
  ⟨by simpa using h.1, fun i a b ha hb => h.2 (i + 1) a b (by simpa using ha) (by simpa using hb)⟩
theorem VL.nil_inv {ι : Inj} {ys : List Value} (h : VL ι [] ys) : ys = [] := by
  have := h.1; cases ys with
  | nil => rfl
  | cons y ys => simp at this
theorem VL.cons_inv {ι : Inj} {x : Value} {xs ys : List Value} (h : VL ι (x :: xs) ys) : ∃ y ys', ys = y :: ys' ∧ V ι x y ∧ VL ι xs ys' := by
  cases ys with
  | nil => have := h.1; simp at this
  | cons y ys => exact ⟨y, ys, rfl, h.head, h.tail⟩
theorem VL.mono {ι κ : Inj} (h : ι.le κ) {xs ys : List Value} (r : VL ι xs ys) : VL κ xs ys := ⟨r.1, fun i x y a b => (r.2 i x y a b).mono h⟩
theorem VL.append {ι : Inj} {xs ys us vs : List Value} (h : VL ι xs ys) (g : VL ι us vs) : VL ι (xs ++ us) (ys ++ vs) := by
  induction xs generalizing ys with
  | nil => rw [h.nil_inv]; exact g
  | cons x xs ih =>
    obtain ⟨y, ys', rfl, h1, h2⟩ := h.cons_inv
    exact VL.cons h1 (ih h2)
theorem VL.get {ι : Inj} {xs ys : List Value} (h : VL ι xs ys) {i : Nat} {x : Value} (hx : xs[i]? = some x) : ∃ y, ys[i]? = some y ∧ V ι x y := by
  have hi : i < xs.length := by
    rcases Nat.lt_or_ge i xs.length with g | g
    · exact g
    · rw [List.getElem?_eq_none g] at hx; cases hx
  have hj : i < ys.length := h.1 ▸ hi
  exact ⟨ys[i], List.getElem?_eq_getElem hj, h.2 i x ys[i] hx (List.getElem?_eq_getElem hj)⟩
theorem VL.take {ι : Inj} {xs ys : List Value} (h : VL ι xs ys) (n : Nat) : VL ι (xs.take n) (ys.take n) :=
  ⟨by simp [h.1], fun i x y hx hy => by
    rw [List.getElem?_take] at hx hy
    split at hx <;> simp_all
    exact h.2 i x y hx hy⟩
theorem VL.drop {ι : Inj} {xs ys : List Value} (h : VL ι xs ys) (n : Nat) : VL ι (xs.drop n) (ys.drop n) :=
  ⟨by simp [h.1], fun i x y hx hy => h.2 (n + i) x y (by simpa using hx) (by simpa using hy)⟩
theorem VL.set {ι : Inj} {xs ys : List Value} (h : VL ι xs ys) (n : Nat) {x y : Value} (hv : V ι x y) : VL ι (xs.set n x) (ys.set n y) :=
  ⟨by simp [h.1], fun i a b ha hb => by
    have hl := h.1
    by_cases e : n = i
    · subst e
      by_cases hn : n < xs.length
      · rw [List.getElem?_set_self hn] at ha
        rw [List.getElem?_set_self (hl ▸ hn)] at hb
        cases ha; cases hb; exact hv
      · rw [List.getElem?_eq_none (by simp; omega)] at ha; cases ha
    · rw [List.getElem?_set_ne e] at ha hb
      exact h.2 i a b ha hb⟩
theorem VL.replicate {ι : Inj} {x y : Value} (h : V ι x y) (n : Nat) : VL ι (List.replicate n x) (List.replicate n y) := by
  induction n with
  | zero => exact VL.nil ι
  | succ n ih => exact VL.cons h ih
theorem V.agg_iff {ι : Inj} {xs ys : Array Value} : V ι (.agg xs) (.agg ys) ↔ VL ι xs.toList ys.toList :=
  ⟨fun h => by cases h with | agg h1 h2 => exact ⟨by simpa using h1, fun i x y hx hy => h2 i x y (by simpa using hx) (by simpa using hy)⟩,
   fun h => .agg (by simpa using h.1) fun i x y hx hy => h.2 i x y (by simpa using hx) (by simpa using hy)⟩
theorem V.tuple_iff {ι : Inj} {xs ys : Array Value} : V ι (.tuple xs) (.tuple ys) ↔ VL ι xs.toList ys.toList :=
  ⟨fun h => by cases h with | tuple h1 h2 => exact ⟨by simpa using h1, fun i x y hx hy => h2 i x y (by simpa using hx) (by simpa using hy)⟩,
   fun h => .tuple (by simpa using h.1) fun i x y hx hy => h.2 i x y (by simpa using hx) (by simpa using hy)⟩
theorem V.agg_inv {ι : Inj} {xs : Array Value} {v : Value} (h : V ι (.agg xs) v) : ∃ ys, v = .agg ys ∧ VL ι xs.toList ys.toList := by
  cases h with | agg h1 h2 => exact ⟨_, rfl, V.agg_iff.1 (.agg h1 h2)⟩
theorem V.tuple_inv {ι : Inj} {xs : Array Value} {v : Value} (h : V ι (.tuple xs) v) : ∃ ys, v = .tuple ys ∧ VL ι xs.toList ys.toList := by
  cases h with | tuple h1 h2 => exact ⟨_, rfl, V.tuple_iff.1 (.tuple h1 h2)⟩
/-- A value's cells correspond. -/
theorem V.cells {ι : Inj} {v v' : Value} (h : V ι v v') : VL ι v.cells.toList v'.cells.toList := by
  cases h with
  | agg h1 h2 => exact V.agg_iff.1 (.agg h1 h2)
  | tuple h1 h2 => exact VL.cons (.tuple h1 h2) (VL.nil ι)
  | func hf h1 h2 h3 h4 => exact VL.cons (.func hf h1 h2 h3 h4) (VL.nil ι)
  | bool b => exact VL.cons (.bool b) (VL.nil ι)
  | int k n => exact VL.cons (.int k n) (VL.nil ι)
  | float k n => exact VL.cons (.float k n) (VL.nil ι)
  | str s => exact VL.cons (.str s) (VL.nil ι)
  | ptrNil => exact VL.cons .ptrNil (VL.nil ι)
  | ptr e ho => exact VL.cons (.ptr e ho) (VL.nil ι)
  | sliceNil => exact VL.cons .sliceNil (VL.nil ι)
  | slice e hlb hex hro hl ha => exact VL.cons (.slice e hlb hex hro hl ha) (VL.nil ι)
  | mapNil => exact VL.cons .mapNil (VL.nil ι)
  | map e => exact VL.cons (.map e) (VL.nil ι)
  | nilFunc => exact VL.cons .nilFunc (VL.nil ι)
  | iface t e => exact VL.cons (.iface t e) (VL.nil ι)
  | nilIface => exact VL.cons .nilIface (VL.nil ι)
def one1 : Value → Bool
  | .agg _ | .tuple _ => false
  | _ => true
theorem V.one1 {ι : Inj} {v v' : Value} (h : V ι v v') : AM.one1 v' = AM.one1 v := by cases h <;> rfl

/-- What a constant may be: no address in it. -/
def plainV : Value → Bool
  | .bool _ | .int _ _ | .float _ _ | .string _ | .pointer none | .slice none 0 0 | .map none | .nilFunc | .nilIface => true
  | .agg xs => xs.toList.all fun
    | .bool _ | .int _ _ | .float _ _ | .string _ | .pointer none | .slice none 0 0 | .map none | .nilFunc | .nilIface => true
    | _ => false
  | .tuple xs => xs.isEmpty
  | _ => false
def plain1 : Value → Bool
  | .bool _ | .int _ _ | .float _ _ | .string _ | .pointer none | .slice none 0 0 | .map none | .nilFunc | .nilIface => true
  | _ => false
theorem V.of_plain1 (ι : Inj) {v : Value} (h : plain1 v = true) : V ι v v := by
  unfold plain1 at h
  split at h
  case h_1 => exact .bool _
  case h_2 => exact .int _ _
  case h_3 => exact .float _ _
  case h_4 => exact .str _
  case h_5 => exact .ptrNil
  case h_6 => exact .sliceNil
  case h_7 => exact .mapNil
  case h_8 => exact .nilFunc
  case h_9 => exact .nilIface
  case h_10 => cases h
theorem V.of_plain (ι : Inj) {v : Value} (h : plainV v = true) : V ι v v := by
  unfold plainV at h
  split at h
  case h_1 => exact .bool _
  case h_2 => exact .int _ _
  case h_3 => exact .float _ _
  case h_4 => exact .str _
  case h_5 => exact .ptrNil
  case h_6 => exact .sliceNil
  case h_7 => exact .mapNil
  case h_8 => exact .nilFunc
  case h_9 => exact .nilIface
  case h_10 xs =>
    refine .agg rfl fun i x y hx hy => ?_
    rw [hx] at hy; cases hy
    have hm : x ∈ xs.toList := by simpa using Array.mem_of_getElem? hx
    have := List.all_eq_true.1 h x hm
    exact V.of_plain1 ι this
  case h_11 xs => exact .tuple rfl fun i x y hx hy => by rw [hx] at hy; cases hy; simp [Array.isEmpty_iff.1 h] at hx
  case h_12 => cases h

/-- Frames: what is known of a slot is so. -/
def FR (ι : Inj) (f : Fr) (tmps : Array Value) : Prop := f.n = tmps.size ∧ ∀ i v, f.get i = some v → ∃ v', tmps[i]? = some v' ∧ V ι v v'
theorem FR.mono {ι κ : Inj} (h : ι.le κ) {f : Fr} {t : Array Value} (r : FR ι f t) : FR κ f t :=
  ⟨r.1, fun i v e => let ⟨v', a, b⟩ := r.2 i v e; ⟨v', a, b.mono h⟩⟩
theorem FR.wk {ι κ : Inj} (h : ι.wk κ) {f : Fr} {t : Array Value} (r : FR ι f t) : FR κ f t :=
  ⟨r.1, fun i v e => let ⟨v', a, b⟩ := r.2 i v e; ⟨v', a, b.wk h⟩⟩
theorem Fr.get_put_some (f : Fr) (d i : Nat) (v : Value) (h : d < f.n) : (f.put (some d) v).get i = if i = d then some v else f.get i := by
  have : Nat.blt d f.n = true := by simpa [Nat.blt_eq] using h
  simp [Fr.put, this, Fr.get, Tr.get_set]
theorem Fr.put_n (f : Fr) (d : Option Nat) (v : Value) : (f.put d v).n = f.n := by
  unfold Fr.put
  split
  · rfl
  · cases Nat.blt _ f.n <;> rfl
theorem FR.put {ι : Inj} {f : Fr} {a : Act} (r : FR ι f a.tmps) (d : Option Nat) {v v' : Value} (hv : V ι v v') : FR ι (f.put d v) (a.put d v').tmps := by
  cases d with
  | none => exact r
  | some d =>
    refine ⟨by rw [Fr.put_n]; simp [Act.put, r.1], fun i u hu => ?_⟩
    by_cases hd : d < f.n
    · rw [Fr.get_put_some _ _ _ _ hd] at hu
      by_cases e : i = d
      · subst e
        rw [if_pos rfl] at hu; cases hu
        exact ⟨v', by simp [Act.put, ← r.1, hd], hv⟩
      · rw [if_neg e] at hu
        obtain ⟨u', h1, h2⟩ := r.2 i u hu
        exact ⟨u', by simp only [Act.put]; rw [Array.getElem?_setIfInBounds_ne (fun h => e h.symm)]; exact h1, h2⟩
    · have hb : Nat.blt d f.n = false := by
        rw [Bool.eq_false_iff, ne_eq, Nat.blt_eq]; exact hd
      have hp : f.put (some d) v = f := by simp [Fr.put, hb]
      rw [hp] at hu
      obtain ⟨u', h1, h2⟩ := r.2 i u hu
      refine ⟨u', ?_, h2⟩
      simp only [Act.put]
      rw [Array.getElem?_setIfInBounds_ne ?_]; exact h1
      intro e; subst e
      have := r.1
      rw [Array.getElem?_eq_none (by omega)] at h1; cases h1
/-- Less is known. -/
def Fr.le (f g : Fr) : Prop := f.n = g.n ∧ ∀ i v, f.get i = some v → g.get i = some v
theorem FR.le {ι : Inj} {f g : Fr} {t : Array Value} (h : f.le g) (r : FR ι g t) : FR ι f t := ⟨h.1.trans r.1, fun i v e => r.2 i v (h.2 i v e)⟩
theorem Fr.le_refl (f : Fr) : f.le f := ⟨rfl, fun _ _ h => h⟩

/-- Where a call began, and which blocks may not turn. -/
structure Base where
  w : World
  prot : Nat → Prop
  lt : ∀ k, prot k → k < w.heap.size
structure Keep (B : Base) (w : World) : Prop where
  os : w.os = B.w.os
  tape : w.tape = B.w.tape
  output : w.output = B.w.output
  size : B.w.heap.size ≤ w.heap.size
  block : ∀ k, B.prot k → w.heap[k]? = B.w.heap[k]?

/-- The objects correspond. -/
def OR (ι : Inj) (B : Nat → Prop) (w : World) (b : Nat) (s : Nat × Nat) : AObj → Prop
  | .cells c ro => ∃ (cc : Array Value) (e : TypeId) (fz : Nat × Nat), w.heap[b]? = some (.cells cc e fz) ∧ cc.size = s.2 ∧ (∀ (i : Nat) (v : Value), c[i]? = some v → ∃ v', cc[i + s.1]? = some v' ∧ V ι v v') ∧ (ro = false → ¬ B b ∧ fz = (0, 0)) ∧ ∀ v ∈ c, v.oneCell' = true
  | .map es => ¬ B b ∧ ∃ (ents : Array MapEntry) (clock : Nat), w.heap[b]? = some (.map ents clock) ∧ es.length = ents.size ∧
      (∀ (i : Nat) (p : Value × Value) (e : MapEntry), es[i]? = some p → ents[i]? = some e → V ι p.1 e.key ∧ V ι p.2 e.val) ∧
      (∀ (i : Nat) (e : MapEntry), ents[i]? = some e → e.born = i) ∧ clock = ents.size
  | .sit t pos => ¬ B b ∧ s.1 = 0 ∧ w.heap[b]? = some (.stringIter t pos)
  | .dead => True

def AObj.loose : AObj → Bool
  | .cells _ true => true
  | .dead => true
  | _ => false

structure HR (ι : Inj) (w0 : Base) (h : Heap) (w : World) : Prop where
  below : Keep w0 w
  bnd : ι.bound = h.next
  dom : ∀ β p, ι β = some p → β < h.next
  fresh : ∀ β, h.next ≤ β → h.get β = none
  objs : ∀ β o b s, h.get β = some o → ι β = some (b, s) → OR ι w0.prot w b s o
  inj : ∀ β γ b s t o p, β ≠ γ → ι β = some (b, s) → ι γ = some (b, t) → h.get β = some o → h.get γ = some p → (o.loose = true ∧ p.loose = true) ∨ o = .dead ∨ p = .dead

theorem OR.wk {ι κ : Inj} (h : ι.wk κ) {B : Nat → Prop} {w w' : World} {b : Nat} {s : Nat × Nat} {o : AObj} (hw : w'.heap[b]? = w.heap[b]?) (r : OR ι B w b s o) : OR κ B w' b s o := by
  cases o with
  | cells c ro =>
    obtain ⟨cc, e, fz, h1, h0, h2, h3⟩ := r
    exact ⟨cc, e, fz, hw.trans h1, h0, fun i v hv => let ⟨v', a, b⟩ := h2 i v hv; ⟨v', a, b.wk h⟩, h3⟩
  | map es =>
    obtain ⟨h0, ents, clock, h1, h2, h3, h4⟩ := r
    exact ⟨h0, ents, clock, hw.trans h1, h2, fun i p e a b => ⟨(h3 i p e a b).1.wk h, (h3 i p e a b).2.wk h⟩, h4⟩
  | sit t pos => exact ⟨r.1, r.2.1, hw.trans r.2.2⟩
  | dead => trivial

theorem OR.mono {ι κ : Inj} (h : ι.le κ) {B : Nat → Prop} {w w' : World} {b : Nat} {s : Nat × Nat} {o : AObj} (hw : w'.heap[b]? = w.heap[b]?) (r : OR ι B w b s o) : OR κ B w' b s o := r.wk h.1 hw

theorem OR.lt {ι : Inj} {B : Nat → Prop} {w : World} {b : Nat} {s : Nat × Nat} {o : AObj} (r : OR ι B w b s o) (hd : o ≠ .dead) : b < w.heap.size := by
  have key : ∀ x, w.heap[b]? = some x → b < w.heap.size := fun x hx => by
    rcases Nat.lt_or_ge b w.heap.size with g | g
    · exact g
    · rw [Array.getElem?_eq_none g] at hx; cases hx
  cases o with
  | cells c ro => obtain ⟨cc, e, fz, h1, _⟩ := r; exact key _ h1
  | map es => obtain ⟨_, ents, clock, h1, _⟩ := r; exact key _ h1
  | sit t pos => exact key _ r.2.2
  | dead => exact absurd rfl hd

theorem HR.newOK {ι : Inj} {w0 : Base} {h : Heap} {w : World} (r : HR ι w0 h w) : ¬ w0.prot w.heap.size := fun e => by
  have := w0.lt _ e; have := r.below.size; omega
/-- A world's draw. -/
theorem HR.drewN {ι : Inj} {w0 : Base} {h : Heap} {w : World} (r : HR ι w0 h w) (n : Nat) : HR ι w0 h { w with drawn := n } :=
  ⟨⟨r.below.os, r.below.tape, r.below.output, r.below.size, r.below.block⟩, r.bnd, r.dom, r.fresh, fun β o b s h1 h2 => (r.objs β o b s h1 h2).mono (Inj.le_refl ι) rfl, r.inj⟩

/-- A new object, on both sides. -/
theorem HR.new {ι : Inj} {w0 : Base} {h : Heap} {w : World} (r : HR ι w0 h w) {o : AObj} {x : Obj} {s : Nat × Nat}
    (ho : OR (ι.set h.next (w.heap.size, s)) w0.prot { w with heap := w.heap.push x } w.heap.size s o) :
    HR (ι.set h.next (w.heap.size, s)) w0 (h.new o) { w with heap := w.heap.push x } ∧ ι.le (ι.set h.next (w.heap.size, s)) := by
  have hn : ι h.next = none := by
    cases e : ι h.next with
    | none => rfl
    | some p => exact absurd (r.dom _ _ e) (Nat.lt_irrefl _)
  have hle := Inj.le_set hn (Nat.le_of_eq r.bnd) (w.heap.size, s)
  have hpush : ∀ k, k < w.heap.size → (w.heap.push x)[k]? = w.heap[k]? := fun k hk => by rw [Array.getElem?_push, if_neg (by omega)]
  refine ⟨⟨⟨r.below.os, r.below.tape, r.below.output, ?_, fun k hk => ?_⟩, ?_, ?_, ?_, ?_, ?_⟩, hle⟩
  · have := r.below.size; simp; omega
  · have := r.below.size
    show (w.heap.push x)[k]? = _
    rw [hpush k (by have := w0.lt k hk; omega)]; exact r.below.block k hk
  · simp [Inj.set, r.bnd]
  · intro β p hp
    rw [Inj.set_at] at hp
    split at hp
    · subst β; simp
    · have := r.dom β p hp; simp; omega
  · intro β hβ
    rw [Heap.get_new, if_neg (by simp at hβ; omega)]
    exact r.fresh β (by simp at hβ; omega)
  · intro β o' b t h1 h2
    rw [Heap.get_new] at h1
    rw [Inj.set_at] at h2
    split at h1
    · rename_i e; subst e; cases h1; rw [if_pos rfl] at h2; cases h2; exact ho
    · rename_i e; rw [if_neg e] at h2
      have hr := r.objs β o' b t h1 h2
      by_cases hd : o' = .dead
      · subst hd; trivial
      · exact hr.mono hle (hpush b (hr.lt hd))
  · intro β γ b s' t o1 p1 hne h1 h2 h3 h4
    rw [Heap.get_new] at h3 h4
    rw [Inj.set_at] at h1 h2
    by_cases e1 : β = h.next
    · by_cases e2 : γ = h.next
      · exact absurd (e1.trans e2.symm) hne
      · rw [if_pos e1] at h1; rw [if_neg e2] at h2 h4
        cases h1
        by_cases hd : p1 = .dead
        · exact .inr (.inr hd)
        · exact absurd ((r.objs γ p1 _ _ h4 h2).lt hd) (Nat.lt_irrefl _)
    · by_cases e2 : γ = h.next
      · rw [if_neg e1] at h1 h3; rw [if_pos e2] at h2
        cases h2
        by_cases hd : o1 = .dead
        · exact .inr (.inl hd)
        · exact absurd ((r.objs β o1 _ _ h3 h1).lt hd) (Nat.lt_irrefl _)
      · rw [if_neg e1] at h1 h3; rw [if_neg e2] at h2 h4
        exact r.inj β γ b s' t o1 p1 hne h1 h2 h3 h4

/-- A name for something that is no object of ours. -/
theorem HR.newDead {ι : Inj} {w0 : Base} {h : Heap} {w : World} (r : HR ι w0 h w) (p : Nat × (Nat × Nat)) : HR (ι.set h.next p) w0 (h.new .dead) w ∧ ι.le (ι.set h.next p) := by
  have hn : ι h.next = none := by
    cases e : ι h.next with
    | none => rfl
    | some p => exact absurd (r.dom _ _ e) (Nat.lt_irrefl _)
  have hle := Inj.le_set hn (Nat.le_of_eq r.bnd) p
  refine ⟨⟨r.below, by simp [Inj.set, r.bnd], ?_, ?_, ?_, ?_⟩, hle⟩
  · intro β q hq
    rw [Inj.set_at] at hq
    split at hq
    · subst β; simp
    · have := r.dom β q hq; simp; omega
  · intro β hβ
    rw [Heap.get_new, if_neg (by simp at hβ; omega)]
    exact r.fresh β (by simp at hβ; omega)
  · intro β o' b t h1 h2
    rw [Heap.get_new] at h1
    rw [Inj.set_at] at h2
    split at h1
    · cases h1; trivial
    · rename_i e; rw [if_neg e] at h2
      exact (r.objs β o' b t h1 h2).mono hle rfl
  · intro β γ b s' t o1 p1 hne h1 h2 h3 h4
    rw [Heap.get_new] at h3 h4
    rw [Inj.set_at] at h1 h2
    split at h3
    · cases h3; exact .inr (.inl rfl)
    · split at h4
      · cases h4; exact .inr (.inr rfl)
      · rename_i e1 e2
        rw [if_neg e1] at h1; rw [if_neg e2] at h2
        exact r.inj β γ b s' t o1 p1 hne h1 h2 h3 h4

/-- An object that is not loose is put in another one's place, and so in the world. -/
theorem HR.put {ι : Inj} {w0 : Base} {h : Heap} {w w' : World} (r : HR ι w0 h w) {β b : Nat} {s : Nat × Nat} {o o' : AObj} (hg : h.get β = some o) (hι : ι β = some (b, s)) (hlo : o.loose = false)
    (hb : ¬ w0.prot b) (hsz : w'.heap.size = w.heap.size) (hos : w'.os = w.os) (htape : w'.tape = w.tape) (hout : w'.output = w.output)
    (hk : ∀ k, k ≠ b → w'.heap[k]? = w.heap[k]?) (ho : OR ι w0.prot w' b s o') : HR ι w0 (h.put β o') w' := by
  refine ⟨⟨hos.trans r.below.os, htape.trans r.below.tape, hout.trans r.below.output, by rw [hsz]; exact r.below.size, fun k h1 => (hk k (fun e => hb (e ▸ h1))).trans (r.below.block k h1)⟩, r.bnd, r.dom, ?_, ?_, ?_⟩
  · intro γ hγ
    rw [Heap.get_put, if_neg]
    · exact r.fresh γ hγ
    · intro e; subst e
      have := r.dom _ _ hι
      simp at hγ; omega
  · intro γ p c t h1 h2
    rw [Heap.get_put] at h1
    by_cases e : γ = β
    · subst e; rw [if_pos rfl] at h1; cases h1; rw [hι] at h2; cases h2; exact ho
    · rw [if_neg e] at h1
      have hr := r.objs γ p c t h1 h2
      by_cases hd : p = .dead
      · subst hd; trivial
      · refine hr.mono (Inj.le_refl ι) (hk c ?_)
        intro ec; subst ec
        rcases r.inj γ β c t s p o e h2 hι h1 hg with ⟨_, x⟩ | x | x
        · rw [hlo] at x; cases x
        · exact hd x
        · subst x; cases hlo
  · intro γ δ c t u o1 p1 hne h1 h2 h3 h4
    rw [Heap.get_put] at h3 h4
    by_cases e1 : γ = β
    · by_cases e2 : δ = β
      · exact absurd (e1.trans e2.symm) hne
      · subst e1
        rw [if_neg e2] at h4
        rcases r.inj γ δ c t u o p1 hne h1 h2 hg h4 with ⟨x, _⟩ | x | x
        · rw [hlo] at x; cases x
        · subst x; cases hlo
        · exact .inr (.inr x)
    · rw [if_neg e1] at h3
      by_cases e2 : δ = β
      · subst e2
        rcases r.inj γ δ c t u o1 o hne h1 h2 h3 hg with ⟨_, x⟩ | x | x
        · rw [hlo] at x; cases x
        · exact .inr (.inl x)
        · subst x; cases hlo
      · rw [if_neg e2] at h4
        exact r.inj γ δ c t u o1 p1 hne h1 h2 h3 h4

/-- An object is let go. -/
theorem HR.kill {ι : Inj} {w0 : Base} {h : Heap} {w : World} (r : HR ι w0 h w) {β : Nat} (hβ : β < h.next) : HR ι w0 (h.put β .dead) w := by
  refine ⟨r.below, r.bnd, r.dom, ?_, ?_, ?_⟩
  · intro γ hγ
    rw [Heap.get_put, if_neg (by simp at hγ; omega)]
    exact r.fresh γ hγ
  · intro γ p c t h1 h2
    rw [Heap.get_put] at h1
    split at h1
    · cases h1; trivial
    · exact r.objs γ p c t h1 h2
  · intro γ δ c t u o1 p1 hne h1 h2 h3 h4
    rw [Heap.get_put] at h3 h4
    split at h3
    · cases h3; exact .inr (.inl rfl)
    · split at h4
      · cases h4; exact .inr (.inr rfl)
      · exact r.inj γ δ c t u o1 p1 hne h1 h2 h3 h4

/-- A new block takes over what a dead one had. -/
theorem HR.inherit {ι : Inj} {w0 : Base} {h0 : Heap} {w w' : World} {β b : Nat} {s s' : Nat × Nat} {o' : AObj} (r : HR ι w0 (h0.put β .dead) w) (hι : ι β = some (b, s))
    (hn : ι h0.next = none) (hb : ¬ w0.prot b) (hsz : w'.heap.size = w.heap.size) (hos : w'.os = w.os) (htape : w'.tape = w.tape) (hout : w'.output = w.output)
    (hk : ∀ k, k ≠ b → w'.heap[k]? = w.heap[k]?) (hfree : ∀ γ c t p, γ ≠ β → ι γ = some (c, t) → h0.get γ = some p → p ≠ .dead → c ≠ b)
    (ho : OR (ι.set h0.next (b, s')) w0.prot w' b s' o') : HR (ι.set h0.next (b, s')) w0 ((h0.put β .dead).new o') w' := by
  have hle := Inj.le_set hn (Nat.le_of_eq r.bnd) (b, s')
  have hβ : β < h0.next := r.dom _ _ hι
  have hget : ∀ γ, ((h0.put β .dead).new o').get γ = if γ = h0.next then some o' else (h0.put β .dead).get γ := fun γ => Heap.get_new ..
  refine ⟨⟨hos.trans r.below.os, htape.trans r.below.tape, hout.trans r.below.output, by rw [hsz]; exact r.below.size, fun k h1 => (hk k (fun e => hb (e ▸ h1))).trans (r.below.block k h1)⟩, (by have := r.bnd; simp at this; simp [Inj.set, this]), ?_, ?_, ?_, ?_⟩
  · intro γ p hp
    rw [Inj.set_at] at hp
    split at hp
    · subst γ; simp
    · have := r.dom γ p hp; simp at this ⊢; omega
  · intro γ hγ
    simp at hγ
    rw [hget, if_neg (by omega)]
    exact r.fresh γ (by simp; omega)
  · intro γ p c t h1 h2
    rw [hget] at h1
    rw [Inj.set_at] at h2
    by_cases e : γ = h0.next
    · rw [if_pos e] at h2; rw [if_pos e] at h1
      cases h1; cases h2; exact ho
    · rw [if_neg e] at h2; rw [if_neg e] at h1
      have hr := r.objs γ p c t h1 h2
      by_cases hd : p = .dead
      · subst hd; trivial
      · refine hr.mono hle (hk c ?_)
        rw [Heap.get_put] at h1
        by_cases e2 : γ = β
        · rw [if_pos e2] at h1; cases h1; exact absurd rfl hd
        · rw [if_neg e2] at h1
          exact hfree γ c t p e2 h2 h1 hd
  · intro γ δ c t u o1 p1 hne h1 h2 h3 h4
    rw [hget] at h3 h4
    rw [Inj.set_at] at h1 h2
    by_cases e1 : γ = h0.next
    · by_cases e2 : δ = h0.next
      · exact absurd (e1.trans e2.symm) hne
      · rw [if_pos e1] at h1; rw [if_neg e2] at h2 h4
        cases h1
        by_cases hd : p1 = .dead
        · exact .inr (.inr hd)
        · rw [Heap.get_put] at h4
          by_cases e3 : δ = β
          · rw [if_pos e3] at h4; cases h4; exact absurd rfl hd
          · rw [if_neg e3] at h4
            exact absurd rfl (hfree δ _ u p1 e3 h2 h4 hd)
    · by_cases e2 : δ = h0.next
      · rw [if_neg e1] at h1 h3; rw [if_pos e2] at h2
        cases h2
        by_cases hd : o1 = .dead
        · exact .inr (.inl hd)
        · rw [Heap.get_put] at h3
          by_cases e3 : γ = β
          · rw [if_pos e3] at h3; cases h3; exact absurd rfl hd
          · rw [if_neg e3] at h3
            exact absurd rfl (hfree γ _ t o1 e3 h1 h3 hd)
      · rw [if_neg e1] at h1 h3; rw [if_neg e2] at h2 h4
        exact r.inj γ δ c t u o1 p1 hne h1 h2 h3 h4

end Go.AM
