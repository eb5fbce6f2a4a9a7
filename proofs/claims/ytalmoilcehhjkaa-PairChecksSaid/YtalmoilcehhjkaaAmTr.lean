/- An abstract machine over the model's code: tries, abstract heaps and frames, and the values' views. -/
import Derived.Calls
import Derived.Orders
import Derived.Below
import Derived.KernelRfl
set_option linter.unusedVariables false
set_option linter.unusedSimpArgs false
namespace Go.AM

inductive Tr (α : Type) where
  | nil
  | node (v : Option α) (l r : Tr α)

def Tr.get {α : Type} : Tr α → Nat → Option α
  | .nil, _ => none
  | .node v l r, n => cond (Nat.beq n 0) v (cond (Nat.beq (n % 2) 1) (l.get (n / 2)) (r.get (n / 2 - 1)))

def Tr.val {α : Type} : Tr α → Option α
  | .nil => none
  | .node v _ _ => v
def Tr.left {α : Type} : Tr α → Tr α
  | .nil => .nil
  | .node _ l _ => l
def Tr.right {α : Type} : Tr α → Tr α
  | .nil => .nil
  | .node _ _ r => r

def Tr.setF {α : Type} : Nat → Tr α → Nat → α → Tr α
  | 0, t, _, _ => t
  | f + 1, t, n, a => cond (Nat.beq n 0) (.node (some a) t.left t.right)
      (cond (Nat.beq (n % 2) 1) (.node t.val (Tr.setF f t.left (n / 2) a) t.right) (.node t.val t.left (Tr.setF f t.right (n / 2 - 1) a)))
def Tr.set {α : Type} (t : Tr α) (n : Nat) (a : α) : Tr α := Tr.setF (n + 1) t n a

theorem Tr.val_node {α : Type} (v : Option α) (l r : Tr α) : (Tr.node v l r).val = v := rfl
theorem Tr.left_node {α : Type} (v : Option α) (l r : Tr α) : (Tr.node v l r).left = l := rfl
theorem Tr.right_node {α : Type} (v : Option α) (l r : Tr α) : (Tr.node v l r).right = r := rfl
theorem beq0 (n : Nat) : Nat.beq n 0 = decide (n = 0) := by
  cases n <;> rfl
theorem beq1 (n : Nat) : Nat.beq n 1 = decide (n = 1) := by
  rcases n with _ | _ | n <;> rfl

theorem Tr.get_eq {α : Type} (t : Tr α) (n : Nat) : t.get n = if n = 0 then t.val else if n % 2 = 1 then t.left.get (n / 2) else t.right.get (n / 2 - 1) := by
  cases t with
  | nil => simp [Tr.get, Tr.val, Tr.left, Tr.right]
  | node v l r =>
    simp only [Tr.get, Tr.val, Tr.left, Tr.right, beq0, beq1, Bool.cond_decide]

theorem Tr.get_setF {α : Type} (a : α) : ∀ (f : Nat) (t : Tr α) (n m : Nat), n < f → (Tr.setF f t n a).get m = if m = n then some a else t.get m
  | 0, _, _, _, h => by omega
  | f + 1, t, n, m, h => by
    simp only [Tr.setF, beq0, beq1, Bool.cond_decide]
    by_cases h0 : n = 0
    · subst h0
      rw [if_pos rfl, Tr.get_eq, Tr.get_eq t]
      by_cases hm : m = 0 <;> simp [hm, Tr.val_node, Tr.left_node, Tr.right_node]
    · rw [if_neg h0]
      by_cases h1 : n % 2 = 1
      · rw [if_pos h1, Tr.get_eq, Tr.get_eq t]
        simp only [Tr.val_node, Tr.left_node, Tr.right_node]
        by_cases hm : m = 0
        · simp [hm]; intro h; omega
        · rw [if_neg hm, if_neg hm]
          by_cases hm1 : m % 2 = 1
          · rw [if_pos hm1, if_pos hm1, Tr.get_setF a f t.left (n / 2) (m / 2) (by omega)]
            by_cases e : m = n
            · simp [e]
            · rw [if_neg e, if_neg (by omega)]
          · rw [if_neg hm1, if_neg hm1, if_neg (by omega)]
      · rw [if_neg h1, Tr.get_eq, Tr.get_eq t]
        simp only [Tr.val_node, Tr.left_node, Tr.right_node]
        by_cases hm : m = 0
        · simp [hm]; intro h; omega
        · rw [if_neg hm, if_neg hm]
          by_cases hm1 : m % 2 = 1
          · rw [if_pos hm1, if_pos hm1, if_neg (by omega)]
          · rw [if_neg hm1, if_neg hm1, Tr.get_setF a f t.right (n / 2 - 1) (m / 2 - 1) (by omega)]
            by_cases e : m = n
            · simp [e]
            · rw [if_neg e, if_neg (by omega)]

theorem Tr.get_set {α : Type} (t : Tr α) (n m : Nat) (a : α) : (t.set n a).get m = if m = n then some a else t.get m :=
  Tr.get_setF a (n + 1) t n m (by omega)
theorem Tr.get_nil {α : Type} (n : Nat) : (Tr.nil : Tr α).get n = none := rfl

/-- An abstract object. 'ro': never written (memory that came in). -/
inductive AObj where
  | cells (c : List Value) (ro : Bool)
  | map (es : List (Value × Value))
  | sit (s : ByteArray) (pos : Nat)
  | dead

structure Heap where
  next : Nat
  objs : Tr AObj

def Heap.get (h : Heap) (b : Nat) : Option AObj := h.objs.get b
def Heap.put (h : Heap) (b : Nat) (o : AObj) : Heap := ⟨h.next, h.objs.set b o⟩
def Heap.new (h : Heap) (o : AObj) : Heap := ⟨h.next + 1, h.objs.set h.next o⟩

theorem Heap.get_put (h : Heap) (b c : Nat) (o : AObj) : (h.put b o).get c = if c = b then some o else h.get c := Tr.get_set ..
theorem Heap.get_new (h : Heap) (c : Nat) (o : AObj) : (h.new o).get c = if c = h.next then some o else h.get c := Tr.get_set ..
@[simp] theorem Heap.next_put (h : Heap) (b : Nat) (o : AObj) : (h.put b o).next = h.next := rfl
@[simp] theorem Heap.next_new (h : Heap) (o : AObj) : (h.new o).next = h.next + 1 := rfl

/-- A block of cells. -/
def Heap.blk (h : Heap) (b : Nat) : Option (List Value) :=
  match h.get b with
  | some (.cells c _) => some c
  | _ => none
/-- A block of cells that may be written. -/
def Heap.own (h : Heap) (b : Nat) : Option (List Value) :=
  match h.get b with
  | some (.cells c false) => some c
  | _ => none

def Heap.rd (h : Heap) (a : Addr) : Option Value := (h.blk a.block).bind fun c => c[a.off]?
def Heap.rdN (h : Heap) (a : Addr) (n : Nat) : Option (List Value) :=
  (h.blk a.block).bind fun c => cond (Nat.ble (a.off + n) c.length) (some ((c.drop a.off).take n)) none
/-- A run of cells put in the place of others. -/
def over (c : List Value) (i : Nat) : List Value → List Value
  | [] => c
  | v :: vs => over (c.set i v) (i + 1) vs
def Heap.wr (h : Heap) (a : Addr) (vs : List Value) : Option Heap :=
  (h.own a.block).bind fun c => cond (Nat.ble (a.off + vs.length) c.length) (some (h.put a.block (.cells (over c a.off vs) false))) none

/-- Frames: how many slots, and what is known of them. -/
structure Fr where
  n : Nat
  t : Tr Value

def Fr.get (f : Fr) (i : Nat) : Option Value := f.t.get i
def Fr.put (f : Fr) (d : Option Nat) (v : Value) : Fr :=
  match d with
  | none => f
  | some d => cond (Nat.blt d f.n) ⟨f.n, f.t.set d v⟩ f
def Fr.of (n : Nat) (l : List (Nat × Value)) : Fr := l.foldl (fun f p => f.put (some p.1) p.2) ⟨n, .nil⟩

/-- Slices as data: address, length, and how much room there surely is; 'spot = some 0' in the address: just so much. -/
structure Sl where
  a : Option Addr
  len : Nat
  cap : Nat
abbrev Sl.v (s : Sl) : Value := .slice s.a s.len s.cap

def kidx : IntKind → Nat
  | .i8 => 0 | .i16 => 1 | .i32 => 2 | .i64 => 3 | .u8 => 4 | .u16 => 5 | .u32 => 6 | .u64 => 7
def kEq (a b : IntKind) : Bool := Nat.beq (kidx a) (kidx b)
theorem kEq_eq {a b : IntKind} (h : kEq a b = true) : a = b := by
  cases a <;> cases b <;> first | rfl | (simp [kEq, kidx] at h)
theorem kEq_self (a : IntKind) : kEq a a = true := by cases a <;> rfl

def asI (k : IntKind) : Option Value → Option Int
  | some (.int k' n) => cond (kEq k' k) (some n) none
  | _ => none
def asB : Option Value → Option Bool
  | some (.bool b) => some b
  | _ => none
def asT : Option Value → Option ByteArray
  | some (.string s) => some s
  | _ => none
def asP : Option Value → Option (Option Addr)
  | some (.pointer a) => some a
  | _ => none
def asS : Option Value → Option Sl
  | some (.slice a l c) => some ⟨a, l, c⟩
  | _ => none
def asM : Option Value → Option (Option Nat)
  | some (.map a) => some a
  | _ => none

def chk (b : Bool) (p : Prop) : Prop := cond b p False
theorem chk_iff (b : Bool) (p : Prop) : chk b p ↔ b = true ∧ p := by cases b <;> simp [chk]
theorem chk_of {b : Bool} {p : Prop} (h : b = true) (hp : p) : chk b p := by subst h; exact hp
/-- An option must be there. -/
def get {α : Type} (o : Option α) (K : α → Prop) : Prop := o.elim False K
theorem get_iff {α : Type} (o : Option α) (K : α → Prop) : get o K ↔ ∃ a, o = some a ∧ K a := by cases o <;> simp [get]
theorem get_of {α : Type} {o : Option α} {a : α} {K : α → Prop} (h : o = some a) (hK : K a) : get o K := by subst h; exact hK
@[simp] theorem get_some {α : Type} (a : α) (K : α → Prop) : get (some a) K = K a := rfl
@[simp] theorem get_none {α : Type} (K : α → Prop) : get none K = False := rfl
/-- Two ways. -/
def branch (b : Bool) (p q : Prop) : Prop := cond b p q
@[simp] theorem branch_true (p q : Prop) : branch true p q = p := rfl
@[simp] theorem branch_false (p q : Prop) : branch false p q = q := rfl
/-- An option may be there. -/
def optK {α : Type} (o : Option α) (p : Prop) (K : α → Prop) : Prop := o.elim p K
@[simp] theorem optK_some {α : Type} (a : α) (p : Prop) (K : α → Prop) : optK (some a) p K = K a := rfl
@[simp] theorem optK_none {α : Type} (p : Prop) (K : α → Prop) : optK none p K = p := rfl

/-- What a cell holds, by its type. -/
inductive LK where
  | int (k : IntKind) | bool | str | ptr | slice | map | any

def LK.view (l : LK) (v : Option Value) (K : Value → Prop) : Prop :=
  match l with
  | .int k => get (asI k v) fun n => K (.int k n)
  | .bool => get (asB v) fun b => K (.bool b)
  | .str => get (asT v) fun s => K (.string s)
  | .ptr => get (asP v) fun a => K (.pointer a)
  | .slice => get (asS v) fun s => K (.slice s.a s.len s.cap)
  | .map => get (asM v) fun m => K (.map m)
  | .any => get v fun x => K x

theorem LK.view_spec {l : LK} {v : Option Value} {K : Value → Prop} (h : l.view v K) : ∃ x, v = some x ∧ K x := by
  cases l <;> simp only [LK.view, get] at h
  case int k =>
    rcases v with _ | v
    · simp [asI] at h
    · cases v <;> simp only [asI, Option.elim] at h
      rename_i k' n
      by_cases e : kEq k' k = true
      · rw [e] at h; have := kEq_eq e; subst this; exact ⟨_, rfl, h⟩
      · simp only [Bool.not_eq_true] at e; rw [e] at h; exact h.elim
  all_goals
    rcases v with _ | v
    · first | exact h.elim | (simp [asB, asT, asP, asS, asM] at h)
    · first
        | exact ⟨_, rfl, h⟩
        | (cases v <;> first | exact ⟨_, rfl, h⟩ | exact h.elim)

end Go.AM
