/- Abstract heaps: what is read after what was written; heaps that grow. -/
import Derived.Test.YtalmoilcehhjkaaAmUse
set_option linter.unusedVariables false
set_option linter.unusedSimpArgs false
namespace Go.AM

/-- All that was there is there. -/
def Ext (h k : Heap) : Prop := h.next ≤ k.next ∧ ∀ b, b < h.next → k.get b = h.get b
theorem Ext.refl (h : Heap) : Ext h h := ⟨Nat.le_refl _, fun _ _ => rfl⟩
theorem Ext.trans {a b c : Heap} (h : Ext a b) (g : Ext b c) : Ext a c := ⟨Nat.le_trans h.1 g.1, fun x hx => (g.2 x (Nat.lt_of_lt_of_le hx h.1)).trans (h.2 x hx)⟩
theorem Ext.new {h k : Heap} (e : Ext h k) (o : AObj) : Ext h (k.new o) :=
  ⟨Nat.le_succ_of_le e.1, fun b hb => by rw [Heap.get_new, if_neg (by have := e.1; omega)]; exact e.2 b hb⟩
theorem Ext.put {h k : Heap} (e : Ext h k) {b : Nat} (hb : h.next ≤ b) (o : AObj) : Ext h (k.put b o) :=
  ⟨e.1, fun c hc => by rw [Heap.get_put, if_neg (by omega)]; exact e.2 c hc⟩
theorem Ext.blk {h k : Heap} (e : Ext h k) {b : Nat} (hb : b < h.next) : k.blk b = h.blk b := by simp only [Heap.blk, e.2 b hb]
theorem Ext.own {h k : Heap} (e : Ext h k) {b : Nat} (hb : b < h.next) : k.own b = h.own b := by simp only [Heap.own, e.2 b hb]
theorem Ext.mp {h k : Heap} (e : Ext h k) {b : Nat} (hb : b < h.next) : k.mp b = h.mp b := by simp only [Heap.mp, e.2 b hb]

theorem blk_new_self {h : Heap} {c : List Value} {r : Bool} : (h.new (.cells c r)).blk h.next = some c := by simp [Heap.blk, Heap.get_new]
theorem own_new_self {h : Heap} {c : List Value} : (h.new (.cells c false)).own h.next = some c := by simp [Heap.own, Heap.get_new]
theorem mp_new_self {h : Heap} {es : List (Value × Value)} : (h.new (.map es)).mp h.next = some es := by simp [Heap.mp, Heap.get_new]
theorem blk_put_self {h : Heap} {b : Nat} {c : List Value} {r : Bool} : (h.put b (.cells c r)).blk b = some c := by simp [Heap.blk, Heap.get_put]
theorem own_put_self {h : Heap} {b : Nat} {c : List Value} : (h.put b (.cells c false)).own b = some c := by simp [Heap.own, Heap.get_put]
theorem mp_put_self {h : Heap} {b : Nat} {es : List (Value × Value)} : (h.put b (.map es)).mp b = some es := by simp [Heap.mp, Heap.get_put]
theorem blk_put_ne {h : Heap} {b c : Nat} {o : AObj} (e : c ≠ b) : (h.put b o).blk c = h.blk c := by simp [Heap.blk, Heap.get_put, e]
theorem own_put_ne {h : Heap} {b c : Nat} {o : AObj} (e : c ≠ b) : (h.put b o).own c = h.own c := by simp [Heap.own, Heap.get_put, e]
theorem mp_put_ne {h : Heap} {b c : Nat} {o : AObj} (e : c ≠ b) : (h.put b o).mp c = h.mp c := by simp [Heap.mp, Heap.get_put, e]
theorem blk_new_ne {h : Heap} {c : Nat} {o : AObj} (e : c ≠ h.next) : (h.new o).blk c = h.blk c := by simp [Heap.blk, Heap.get_new, e]
theorem own_new_ne {h : Heap} {c : Nat} {o : AObj} (e : c ≠ h.next) : (h.new o).own c = h.own c := by simp [Heap.own, Heap.get_new, e]
theorem mp_new_ne {h : Heap} {c : Nat} {o : AObj} (e : c ≠ h.next) : (h.new o).mp c = h.mp c := by simp [Heap.mp, Heap.get_new, e]
theorem blk_of_own {h : Heap} {b : Nat} {c : List Value} (e : h.own b = some c) : h.blk b = some c := Heap.blk_of_own e

theorem rd_of {h : Heap} {b : Nat} {c : List Value} (e : h.blk b = some c) (o : Nat) (sp : Option Nat) : h.rd ⟨b, o, sp⟩ = c[o]? := by simp [Heap.rd, e]
theorem rdN_of {h : Heap} {b : Nat} {c : List Value} (e : h.blk b = some c) {o n : Nat} (hl : o + n ≤ c.length) (sp : Option Nat) : h.rdN ⟨b, o, sp⟩ n = some ((c.drop o).take n) := by
  simp [Heap.rdN, e, Nat.ble_eq_true_of_le hl]
theorem wr_of {h : Heap} {b : Nat} {c : List Value} (e : h.own b = some c) {o : Nat} {vs : List Value} (hl : o + vs.length ≤ c.length) (sp : Option Nat) : h.wr ⟨b, o, sp⟩ vs = some (h.put b (.cells (over c o vs) false)) := by
  simp [Heap.wr, e, Nat.ble_eq_true_of_le hl]
theorem withH_iff (h : Heap) (K : Heap → Prop) : withH h K ↔ K h := Iff.rfl
theorem branch_iff (b : Bool) (p q : Prop) : branch b p q ↔ (b = true → p) ∧ (b = false → q) := by cases b <;> simp [branch]

/-! integers -/
theorem wrap64 {n : Int} (h1 : -9223372036854775808 ≤ n) (h2 : n ≤ 9223372036854775807) : IntKind.wrap .i64 n = n := by
  simp only [IntKind.wrap, IntKind.signed, IntKind.bits]
  simp [Int.bmod_eq_of_le, h1, h2]
  omega

/-- A slice's cells. -/
def SlAt (h : Heap) (s : Sl) (k : Nat) (cs : List Value) : Prop :=
  s.len * k = cs.length ∧ s.len ≤ s.cap ∧ match s.a with
    | none => cs = []
    | some a => a.block < h.next ∧ ∃ c, h.blk a.block = some c ∧ a.off + cs.length ≤ c.length ∧ (c.drop a.off).take cs.length = cs
theorem SlAt.ext {h g : Heap} {s : Sl} {k : Nat} {cs : List Value} (e : Ext h g) (H : SlAt h s k cs) : SlAt g s k cs := by
  refine ⟨H.1, H.2.1, ?_⟩
  have h3 := H.2.2
  split at h3
  · exact h3
  · obtain ⟨h2, c, h3, h4⟩ := h3
    exact ⟨Nat.lt_of_lt_of_le h2 e.1, c, (e.blk h2).trans h3, h4⟩
/-- Where the cells lie. -/
theorem SlAt.at {h : Heap} {s : Sl} {k : Nat} {cs : List Value} (H : SlAt h s k cs) (hn : cs ≠ []) : ∃ b o sp c, s.a = some ⟨b, o, sp⟩ ∧ b < h.next ∧ h.blk b = some c ∧ o + cs.length ≤ c.length ∧ ∀ (i : Nat) (v : Value), cs[i]? = some v → c[o + i]? = some v := by
  have h3 := H.2.2
  split at h3
  · exact absurd h3 hn
  · rename_i a ha
    obtain ⟨h2, c, h3, h4, h5⟩ := h3
    refine ⟨a.block, a.off, a.spot, c, ha, h2, h3, h4, fun i v hv => ?_⟩
    rw [← h5, List.getElem?_take] at hv
    split at hv
    · rwa [List.getElem?_drop] at hv
    · cases hv
theorem SlAt.rd {h : Heap} {s : Sl} {k : Nat} {cs : List Value} (H : SlAt h s k cs) (hn : cs ≠ []) : ∃ b o sp, s.a = some ⟨b, o, sp⟩ ∧ b < h.next ∧ ∀ g, Ext h g → ∀ (i : Nat) (v : Value) (sp' : Option Nat), cs[i]? = some v → g.rd ⟨b, o + i, sp'⟩ = some v := by
  obtain ⟨b, o, sp, c, h1, h2, h3, _, h4⟩ := H.at hn
  exact ⟨b, o, sp, h1, h2, fun g e i v sp' hv => by rw [rd_of ((e.blk h2).trans h3)]; exact h4 i v hv⟩
theorem SlAt.nil (h : Heap) (k cap : Nat) : SlAt h ⟨none, 0, cap⟩ k [] := ⟨by simp, Nat.zero_le _, rfl⟩
/-- The first cells of it. -/
theorem SlAt.rdN {h : Heap} {s : Sl} {k : Nat} {cs : List Value} (H : SlAt h s k cs) {a : Addr} (ha : s.a = some a) {g : Heap} (e : Ext h g) {n : Nat} (hn : n ≤ cs.length) (sp : Option Nat) : g.rdN ⟨a.block, a.off, sp⟩ n = some (cs.take n) := by
  have h3 := H.2.2
  rw [ha] at h3
  obtain ⟨h2, c, h3, h4, h5⟩ := h3
  rw [rdN_of ((e.blk h2).trans h3) (by omega), ← h5, List.take_take]
  congr 2; omega
/-- A new block of cells, as a slice. -/
theorem SlAt.new (h : Heap) (k n cap : Nat) (cs : List Value) (r : Bool) (sp : Option Nat) (hl : n * k = cs.length) (hc : n ≤ cap) : SlAt (h.new (.cells cs r)) ⟨some ⟨h.next, 0, sp⟩, n, cap⟩ k cs :=
  ⟨hl, hc, by simp, cs, blk_new_self, by simp, by simp⟩
/-- Pairs of integers, laid flat. -/
def flat : List (Int × Int) → List Value
  | [] => []
  | (a, b) :: r => .int .i64 a :: .int .i64 b :: flat r
theorem flat_length : ∀ es, (flat es).length = es.length * 2
  | [] => rfl
  | (a, b) :: r => by simp [flat, flat_length r]; omega
theorem flat_fst : ∀ (es : List (Int × Int)) (i : Nat) (p : Int × Int), es[i]? = some p → (flat es)[i * 2]? = some (.int .i64 p.1)
  | [], i, p, h => by simp at h
  | (a, b) :: r, 0, p, h => by simp at h; subst h; rfl
  | (a, b) :: r, i + 1, p, h => by
    rw [show (i + 1) * 2 = i * 2 + 2 from by omega]
    simpa [flat] using flat_fst r i p (by simpa using h)
theorem flat_snd : ∀ (es : List (Int × Int)) (i : Nat) (p : Int × Int), es[i]? = some p → (flat es)[i * 2 + 1]? = some (.int .i64 p.2)
  | [], i, p, h => by simp at h
  | (a, b) :: r, 0, p, h => by simp at h; subst h; rfl
  | (a, b) :: r, i + 1, p, h => by
    rw [show (i + 1) * 2 + 1 = i * 2 + 1 + 2 from by omega]
    simpa [flat] using flat_snd r i p (by simpa using h)
/-- A slice of pairs. -/
def PsAt (h : Heap) (s : Sl) (es : List (Int × Int)) : Prop := SlAt h s 2 (flat es)
theorem PsAt.len {h : Heap} {s : Sl} {es : List (Int × Int)} (H : PsAt h s es) : s.len = es.length := by
  have := H.1; rw [flat_length] at this; omega
theorem PsAt.ext {h g : Heap} {s : Sl} {es : List (Int × Int)} (e : Ext h g) (H : PsAt h s es) : PsAt g s es := SlAt.ext e H
theorem PsAt.rd {h : Heap} {s : Sl} {es : List (Int × Int)} (H : PsAt h s es) {i : Nat} (hi : i < es.length) : ∃ b o sp, s.a = some ⟨b, o, sp⟩ ∧ b < h.next ∧
    ∀ g, Ext h g → ∀ (j : Nat) (p : Int × Int) (sp' : Option Nat), es[j]? = some p → g.rd ⟨b, o + j * 2, sp'⟩ = some (.int .i64 p.1) ∧ g.rd ⟨b, o + j * 2 + 1, sp'⟩ = some (.int .i64 p.2) := by
  obtain ⟨b, o, sp, h1, h2, h3⟩ := SlAt.rd H (by intro e; have := flat_length es; rw [e] at this; simp at this; omega)
  exact ⟨b, o, sp, h1, h2, fun g e j p sp' hp => ⟨h3 g e _ _ sp' (flat_fst es j p hp), h3 g e _ _ sp' (flat_snd es j p hp)⟩⟩
@[simp] theorem asI_int (k : IntKind) (n : Int) : asI k (some (.int k n)) = some n := by simp [asI, kEq_self]
@[simp] theorem asB_bool (b : Bool) : asB (some (.bool b)) = some b := rfl
@[simp] theorem asS_slice (a : Option Addr) (l c : Nat) : asS (some (.slice a l c)) = some ⟨a, l, c⟩ := rfl
@[simp] theorem asP_ptr (a : Option Addr) : asP (some (.pointer a)) = some a := rfl
theorem idx_ok {i n : Nat} (h : i < n) : idx (i : Int) n = true := by simp [idx, h]
theorem wr_if (h : Heap) (a : Addr) (vs : List Value) : h.wr a vs = (h.own a.block).bind fun c => if a.off + vs.length ≤ c.length then some (h.put a.block (.cells (over c a.off vs) false)) else none := by
  unfold Heap.wr
  congr 1; funext c
  by_cases e : a.off + vs.length ≤ c.length
  · simp [e, Nat.ble_eq_true_of_le e]
  · have : Nat.ble (a.off + vs.length) c.length = false := by rw [Bool.eq_false_iff]; intro h; exact e (Nat.le_of_ble_eq_true h)
    simp [e, this]
theorem rdN_if (h : Heap) (a : Addr) (n : Nat) : h.rdN a n = (h.blk a.block).bind fun c => if a.off + n ≤ c.length then some ((c.drop a.off).take n) else none := by
  unfold Heap.rdN
  congr 1; funext c
  by_cases e : a.off + n ≤ c.length
  · simp [e, Nat.ble_eq_true_of_le e]
  · have : Nat.ble (a.off + n) c.length = false := by rw [Bool.eq_false_iff]; intro h; exact e (Nat.le_of_ble_eq_true h)
    simp [e, this]
theorem small_ok {n b : Nat} (h : n * b ≤ 70368744177664) (hn : n ≤ 70368744177664) : small n b = true := by simp [small, h, hn]
/-- Appending to a slice that is nil. -/
theorem app_nil {h : Heap} {k bytes n : Nat} {news : List Value} (hn : n ≠ 0) (hs : small n bytes = true) : h.app k bytes ⟨none, 0, 0⟩ n news = some (⟨some ⟨h.next, 0, some (k + 1)⟩, n, n⟩, h.new (.cells news false)) := by
  have hb : Nat.beq n 0 = false := by
    cases e : Nat.beq n 0 with
    | false => rfl
    | true => exact absurd (Nat.eq_of_beq_eq_true e) hn
  simp [Heap.app, hb, hs]
@[simp] theorem chk_true (p : Prop) : chk true p = p := rfl
theorem ofNat_toNat (n : Nat) : Int.toNat (n : Int) = n := Int.toNat_natCast n
end Go.AM
