/- The abstract machine: code, calls, loops (by cuts), functions. -/
import Derived.Test.YtalmoilcehhjkaaAmOpV
set_option linter.unusedVariables false
set_option linter.unusedSimpArgs false
namespace Go.AM

inductive Out where
  | ret (v : Value)
  | pan (v : Value)
inductive EX where
  | normal
  | ret
  | exit (id : Nat)
  | pan (v : Value)
abbrev AFn := List Value → Heap → (Out → Heap → Prop) → Prop
abbrev Cut := Fr → Heap → (EX → Fr → Heap → Prop) → Prop
/-- What a range over a function does with what is yielded. -/
abbrev AYld := List Value → Heap → (Heap → Prop) → Prop
/-- A function that yields: first the values that it has, then what is done with what it yields. -/
abbrev AIt := Nat → List Value → Heap → AYld → (Heap → Prop) → Prop
structure Ctx where
  P : Program
  E : List TypeId
  fns : Nat → Option AFn
  cuts : Nat → Option Cut
  its : Nat → Option AIt := fun _ => none
  yld : Option (Nat × AYld) := none
  rnd : Bool := false
  fuel : Nat := 0

def none1 {α : Type} (_ : Nat) : Option α := none
def cons1 {α : Type} (k : Nat) (a : α) (l : Nat → Option α) (n : Nat) : Option α := cond (Nat.beq k n) (some a) (l n)
/-- A heap by a name. -/
def withH (h : Heap) (K : Heap → Prop) : Prop := K h
/-- A function value is called. -/
def callV (C : Ctx) (v : Value) (l : List Value) (h : Heap) (K : Out → Heap → Prop) : Prop :=
  match v with
  | .func (.func g) xs cs => get (C.fns g) fun G => G (xs.toList ++ (l ++ cs.toList)) h K
  | .func (.yield n) xs cs => get C.yld fun y => chk (Nat.beq n y.1) (y.2 (xs.toList ++ l) h fun h' => K (.ret (.bool true)) h')
  | _ => False
/-! closed runs: data are laid out at once -/
def forceN (n : Nat) (K : Nat → Prop) : Prop := match n with
  | 0 => K 0
  | m + 1 => K (Nat.succ m)
theorem forceN_eq (n : Nat) (K : Nat → Prop) : forceN n K = K n := by cases n <;> rfl
def forceI (i : Int) (K : Int → Prop) : Prop := match i with
  | .ofNat n => forceN n fun n => K (.ofNat n)
  | .negSucc n => forceN n fun n => K (.negSucc n)
theorem forceI_eq (i : Int) (K : Int → Prop) : forceI i K = K i := by cases i <;> simp only [forceI, forceN_eq]
def forceB (b : Bool) (K : Bool → Prop) : Prop := match b with
  | true => K true
  | false => K false
theorem forceB_eq (b : Bool) (K : Bool → Prop) : forceB b K = K b := by cases b <;> rfl
def forceV (v : Value) (K : Value → Prop) : Prop := match v with
  | .int k i => forceI i fun i => K (.int k i)
  | .bool b => forceB b fun b => K (.bool b)
  | .pointer (some ⟨b, o, s⟩) => forceN b fun b => forceN o fun o => K (.pointer (some ⟨b, o, s⟩))
  | .slice (some ⟨b, o, s⟩) l c => forceN b fun b => forceN o fun o => forceN l fun l => forceN c fun c => K (.slice (some ⟨b, o, s⟩) l c)
  | v => K v
theorem forceV_eq (v : Value) (K : Value → Prop) : forceV v K = K v := by
  unfold forceV
  split <;> simp only [forceI_eq, forceB_eq, forceN_eq]
def forceL : List Value → (List Value → Prop) → Prop
  | [], K => K []
  | x :: xs, K => forceV x fun x => forceL xs fun xs => K (x :: xs)
theorem forceL_eq : ∀ (l : List Value) (K : List Value → Prop), forceL l K = K l
  | [], _ => rfl
  | x :: xs, K => by simp only [forceL, forceV_eq, forceL_eq xs]
def forceO (o : Option AObj) (K : Option AObj → Prop) : Prop := match o with
  | some (.cells c ro) => forceL c fun c => K (some (.cells c ro))
  | o => K o
theorem forceO_eq (o : Option AObj) (K : Option AObj → Prop) : forceO o K = K o := by
  unfold forceO
  split
  · exact forceL_eq _ _
  · rfl
def forceT : Nat → Tr AObj → Nat → (Tr AObj → Prop) → Prop
  | 0, t, _, K => K t
  | _ + 1, .nil, _, K => K .nil
  | f + 1, .node v l r, n, K => cond (Nat.beq n 0) (forceO v fun v => K (.node v l r))
      (cond (Nat.beq (n % 2) 1) (forceT f l (n / 2) fun l => K (.node v l r)) (forceT f r (n / 2 - 1) fun r => K (.node v l r)))
theorem forceT_eq : ∀ (f : Nat) (t : Tr AObj) (n : Nat) (K : Tr AObj → Prop), forceT f t n K = K t
  | 0, _, _, _ => rfl
  | _ + 1, .nil, _, _ => rfl
  | f + 1, .node v l r, n, K => by
    simp only [forceT, forceO_eq, forceT_eq f]
    cases Nat.beq n 0 <;> cases Nat.beq (n % 2) 1 <;> rfl
def forceH (h : Heap) (b : Nat) (K : Heap → Prop) : Prop := match h with
  | ⟨n, t⟩ => forceN n fun n => forceT 64 t b fun t => K ⟨n, t⟩
theorem forceH_eq (h : Heap) (b : Nat) (K : Heap → Prop) : forceH h b K = K h := by
  cases h; simp only [forceH, forceN_eq, forceT_eq]
def blockV (v : Value) : Option Nat := match v with
  | .pointer (some a) => some a.block
  | .slice (some a) _ _ => some a.block
  | _ => none
/-- The block that an operation has written. -/
def blockOf (f : Fr) (o : Op) (v : Value) : Option Nat := match o with
  | .store _ x _ => (f.ev x).bind blockV
  | .alloc _ | .box .. | .buildSlice .. | .makeSlice .. => blockV v
  | .call { callee := .builtin b, args, .. } => match b with
    | .append => blockV v
    | .copy | .clear => ((args[0]?).bind fun x => f.ev x).bind blockV
    | _ => none
  | _ => none
def withHF (C : Ctx) (f : Fr) (o : Op) (v : Value) (h : Heap) (K : Value → Heap → Prop) : Prop :=
  cond (Nat.beq C.fuel 0) (withH h fun h => K v h) (forceV v fun v => (blockOf f o v).elim (K v h) fun b => forceH h b fun h => K v h)
theorem withHF_eq (C : Ctx) (f : Fr) (o : Op) (v : Value) (h : Heap) (K : Value → Heap → Prop) : withHF C f o v h K = K v h := by
  unfold withHF
  cases Nat.beq C.fuel 0
  · simp only [cond_false, forceV_eq]
    cases blockOf f o v
    · rfl
    · exact forceH_eq _ _ _
  · rfl
def opK (C : Ctx) (f : Fr) (h : Heap) (o : Op) (K KP : Value → Heap → Prop) : Prop :=
  match o with
  | .call { callee := .value x, args, .. } => get (f.ev x) fun v => get (evs f args.toList) fun l => callV C v l h fun o h' => match o with
      | .ret v => K v h'
      | .pan v => KP v h'
  | .panic x => get (f.ev x) fun v => match v with
    | .iface t u => KP (.iface t u) h
    | _ => False
  | o => opV C.P C.E f h o fun v h' => withHF C f o v h' fun v h' => K v h'

def runOps (C : Ctx) (all : List Oper) : List Oper → Fr → Heap → (Fr → Heap → Prop) → (Value → Fr → Heap → Prop) → Prop
  | [], f, h, K, _ => K f h
  | o :: rest, f, h, K, KP => match o.guard with
    | none => opK C f h o.op (fun v h' => runOps C all rest (f.put o.dst v) h' K KP) (fun v h' => KP v f h')
    | some (j, want) => get ((all[j]?).bind (·.dst)) fun t => get (f.get t) fun g => match g with
      | .bool b => branch b
          (cond want (opK C (f.put (some t) (.bool true)) h o.op (fun v h' => runOps C all rest ((f.put (some t) (.bool true)).put o.dst v) h' K KP) (fun v h' => KP v f h'))
            (runOps C all rest ((f.put (some t) (.bool true)).put o.dst undef) h K KP))
          (cond want (runOps C all rest ((f.put (some t) (.bool false)).put o.dst undef) h K KP)
            (opK C (f.put (some t) (.bool false)) h o.op (fun v h' => runOps C all rest ((f.put (some t) (.bool false)).put o.dst v) h' K KP) (fun v h' => KP v f h')))
      | .tuple _ => runOps C all rest (f.put o.dst undef) h K KP
      | _ => False

/-! regions whose order is drawn -/
def isR (o : Op) : Bool :=
  match o with
  | .move _ | .pick .. | .build .. | .load .. | .nilCheck _ | .binOp .. | .unOp .. | .convert .. | .makeInterface .. | .makeFunc .. | .slice .. | .fieldAddr .. | .field .. | .indexAddr .. | .index .. | .lookup .. | .extract .. => true
  | .call { callee := .builtin b, .. } => match b with
    | .len | .cap | .min | .max => true
    | _ => false
  | _ => false
/-- It looks at the heap. -/
def isHeap (o : Op) : Bool :=
  match o with
  | .load .. | .convert .. | .lookup .. => true
  | .call { callee := .builtin .len, .. } => true
  | _ => false
def isA (o : Op) : Bool :=
  match o with
  | .alloc _ | .box .. | .buildSlice .. | .makeMap _ none | .makeSlice .. | .range .. => true
  | _ => false
def isW (o : Op) : Bool := !(isR o || isA o)
def tmpsOf : List Operand → List Nat
  | [] => []
  | .tmp t :: r => t :: tmpsOf r
  | _ :: r => tmpsOf r
def guardSlot (ops : List Oper) (o : Oper) : List Nat :=
  match o.guard with
  | some (g, _) => ((ops[g]?).bind (·.dst)).toList
  | none => []
def looks (ops : List Oper) (o : Oper) : List Nat := guardSlot ops o ++ tmpsOf o.op.operands.toList
def edgesOf (o : Oper) : List Nat := (o.after.toList.filter fun e => Region.binds .any e).map (·.on)
def maskOf (acc : List Nat) : List Nat → Nat
  | [] => 0
  | e :: r => maskOf acc r ||| (2 ^ e ||| acc.getD e 0)
def ancGo : List Oper → List Nat → List Nat
  | [], acc => acc
  | o :: r, acc => ancGo r (acc ++ [maskOf acc (edgesOf o)])
def ancD (ops : List Oper) : List Nat := ancGo ops []
def wCount (ops : List Oper) (m : Nat) : List Nat → Nat
  | [] => 0
  | i :: r => cond (m.testBit i && ((ops[i]?).map fun o => isW o.op).getD false) 1 0 + wCount ops m r
def keyD (ops : List Oper) (anc : List Nat) (i : Nat) : Nat :=
  2 * wCount ops (anc.getD i 0) (List.range ops.length) + cond (((ops[i]?).map fun o => isW o.op).getD false) 1 0
def insD (key : Nat → Nat) (i : Nat) : List Nat → List Nat
  | [] => [i]
  | k :: r => cond (Nat.blt (key k) (key i) || Nat.beq (key k) (key i)) (k :: insD key i r) (i :: k :: r)
def ordGo (key : Nat → Nat) : List Nat → List Nat → List Nat
  | [], acc => acc
  | i :: r, acc => ordGo key r (insD key i acc)
def ordD (ops : List Oper) (anc : List Nat) : List Nat := ordGo (keyD ops anc) (List.range ops.length) []
def ordOK (ops : List Oper) (anc : List Nat) : List Nat → Bool
  | [] => true
  | i :: post => (post.all fun k => (((ops[i]?).map fun o => !isW o.op).getD false || (anc.getD k 0).testBit i) && (!(anc.getD i 0).testBit k && !(Nat.beq i k))) && ordOK ops anc post
def okD (ops : List Oper) (anc ord : List Nat) : Bool :=
  ((List.range ops.length).all fun i => ((ops[i]?).map fun o =>
    Nat.beq (anc.getD i 0) (maskOf (anc.take i) (edgesOf o)) &&
    (((edgesOf o).all fun e => Nat.blt e i) &&
    ((looks ops o).all fun t => (List.range ops.length).all fun j => !(((ops[j]?).map fun p => p.dst == some t).getD false) || ((anc.getD i 0).testBit j || (((ops[j]?).map fun p => isW p.op && p.guard.isNone).getD false && (anc.getD j 0).testBit i))) &&
    ((List.range i).all fun j => (match o.dst with | none => true | some t => !(((ops[j]?).map fun p => p.dst == some t).getD false))) &&
    ord.contains i)).getD false) &&
  (ord.all (fun i => Nat.blt i ops.length) && ordOK ops anc ord)
/-- The slots a piece needs, alone. -/
def onlyT (f : Fr) : List Nat → Tr Value
  | [] => .nil
  | t :: ts => match f.get t with
    | some v => (onlyT f ts).set t v
    | none => onlyT f ts
def Fr.only (f : Fr) (ts : List Nat) : Fr := ⟨f.n, onlyT f ts⟩
inductive Pd where
  | rd (i : Nat) (o : Op) (g : Fr) (v : Value)
  | al (i n : Nat) (h : Heap)
def addrE (a b : Addr) : Bool := Nat.beq a.block b.block && (Nat.beq a.off b.off && (match a.spot, b.spot with
  | none, none => true
  | some i, some j => Nat.beq i j
  | _, _ => false))
theorem addrE_eq {a b : Addr} (h : addrE a b = true) : a = b := by
  obtain ⟨b1, o1, s1⟩ := a
  obtain ⟨b2, o2, s2⟩ := b
  simp only [addrE, Bool.and_eq_true] at h
  obtain ⟨h1, h2, h3⟩ := h
  have := Nat.eq_of_beq_eq_true h1
  have := Nat.eq_of_beq_eq_true h2
  split at h3
  · simp_all
  · have := Nat.eq_of_beq_eq_true h3; simp_all
  · cases h3
def scalE : Value → Value → Bool
  | .int j a, .int k b => kEq j k && a == b
  | .bool a, .bool b => a == b
  | .string a, .string b => a.toList == b.toList
  | .pointer none, .pointer none => true
  | .pointer (some a), .pointer (some b) => addrE a b
  | .slice none l c, .slice none m d => Nat.beq l m && Nat.beq c d
  | .slice (some a) l c, .slice (some b) m d => addrE a b && (Nat.beq l m && Nat.beq c d)
  | .map none, .map none => true
  | .map (some a), .map (some b) => Nat.beq a b
  | _, _ => false
def cellsE : List Value → List Value → Bool
  | [], [] => true
  | x :: xs, y :: ys => scalE x y && cellsE xs ys
  | _, _ => false
def valE : Value → Value → Bool
  | .agg xs, .agg ys => cellsE xs.toList ys.toList
  | x, y => scalE x y
def objE : Option AObj → Option AObj → Bool
  | some (.cells c r), some (.cells d s) => cellsE c d && r == s
  | some (.map []), some (.map []) => true
  | _, _ => false
def pdsK (C : Ctx) (h : Heap) (m : Nat) : List Pd → Prop → Prop
  | [], k => k
  | .rd i o g v :: r, k => cond (m.testBit i) (pdsK C h m r k) (cond (Nat.beq C.fuel 0) (opV C.P C.E g h o (fun v' _ => v' = v) ∧ pdsK C h m r k) (opV C.P C.E g h o (fun v' _ => chk (valE v' v) (pdsK C h m r k))))
  | .al i n h0 :: r, k => cond (m.testBit i) (pdsK C h m r k) (cond (Nat.beq C.fuel 0) (h.get n = h0.get n ∧ pdsK C h m r k) (chk (objE (h.get n) (h0.get n)) (pdsK C h m r k)))
def wantK (ops : List Oper) (f : Fr) (o : Oper) (yes no : Fr → Prop) : Prop :=
  match o.guard with
  | none => yes f
  | some (j, want) => get ((ops[j]?).bind (·.dst)) fun t => get (f.get t) fun g => match g with
    | .bool b => branch b (cond want (yes (f.put (some t) (.bool true))) (no (f.put (some t) (.bool true)))) (cond want (no (f.put (some t) (.bool false))) (yes (f.put (some t) (.bool false))))
    | .tuple _ => no f
    | _ => False
def oneD (C : Ctx) (anc : List Nat) (pd : List Pd) (f : Fr) (h : Heap) (i : Nat) (o : Oper) (g : Fr) (K : List Pd → Fr → Heap → Prop) (KP : Value → Fr → Heap → Prop) : Prop :=
  cond (isR o.op) (opV C.P C.E g h o.op fun v _ => K (cond (isHeap o.op) (.rd i o.op g v :: pd) pd) (f.put o.dst v) h)
    (cond (isA o.op) (opV C.P C.E g h o.op fun v h' => withHF C g o.op v h' fun v h' => K (.al i h.next h' :: pd) (f.put o.dst v) h')
      (opK C g h o.op (fun v h' => pdsK C h' (anc.getD i 0) pd (K pd (f.put o.dst v) h')) (fun v h' => KP v ⟨f.n, .nil⟩ h')))
def runD (C : Ctx) (ops : List Oper) (anc : List Nat) : List Nat → List Pd → Fr → Heap → (Fr → Heap → Prop) → (Value → Fr → Heap → Prop) → Prop
  | [], _, f, h, K, _ => K f h
  | i :: rest, pd, f, h, K, KP => get (ops[i]?) fun o => wantK ops f o
      (fun f => oneD C anc pd f h i o (f.only (looks ops o)) (fun pd f h => runD C ops anc rest pd f h K KP) KP)
      (fun f => runD C ops anc rest pd (f.put o.dst undef) h K KP)
def drawK (C : Ctx) (ops : List Oper) (f : Fr) (h : Heap) (K : Fr → Heap → Prop) (KP : Value → Fr → Heap → Prop) : Prop :=
  chk (okD ops (ancD ops) (ordD ops (ancD ops))) (runD C ops (ancD ops) (ordD ops (ancD ops)) [] f h K KP)

def cutK (C : Ctx) (skip : Bool) (p : Nat) (f : Fr) (h : Heap) (K : EX → Fr → Heap → Prop) (node : Prop) : Prop :=
  cond skip node (match C.cuts p with
    | some G => G f h K
    | none => node)

def putL (f : Fr) : List Nat → List Value → Fr
  | t :: ts, v :: vs => putL (f.put (some t) v) ts vs
  | _, _ => f
/-- A loop, round by round, so many rounds at most. -/
def loopI (E : Fr → Heap → (EX → Fr → Heap → Prop) → Prop) : Nat → Fr → Heap → (EX → Fr → Heap → Prop) → Prop
  | 0, _, _, _ => False
  | n + 1, f, h, K => E f h fun x f h => match x with
    | .normal => loopI E n f h K
    | x => K x f h
def exec (C : Ctx) : Code → Bool → Nat → Fr → Heap → (EX → Fr → Heap → Prop) → Prop
  | .skip, s, p, f, h, K => cutK C s p f h K (K .normal f h)
  | .region _ ops false, s, p, f, h, K => cutK C s p f h K (runOps C ops.toList ops.toList f h (fun f h => K .normal f h) (fun v f h => K (.pan v) f h))
  | .region _ ops true, s, p, f, h, K => cutK C s p f h K (drawK C ops.toList f h (fun f h => K .normal f h) (fun v f h => K (.pan v) f h))
  | .seq a b, s, p, f, h, K => cutK C s p f h K (exec C a false (2 * p + 1) f h fun x f h => match x with
      | .normal => exec C b false (2 * p + 2) f h K
      | x => K x f h)
  | .cond c a b, s, p, f, h, K => cutK C s p f h K (get (f.ev c) fun v => boolK v fun t => branch t (exec C a false (2 * p + 1) f h K) (exec C b false (2 * p + 2) f h K))
  | .block id b, s, p, f, h, K => cutK C s p f h K (exec C b false (2 * p + 1) f h fun x f h => match x with
      | .exit i => cond (Nat.beq i id) (K .normal f h) (K (.exit i) f h)
      | x => K x f h)
  | .loop b, s, p, f, h, K => cutK C s p f h K (loopI (exec C b false (2 * p + 1)) C.fuel f h K)
  | .rangeFunc g ps x y, s, p, f, h, K => cutK C s p f h K (chk (!C.rnd) (get (f.ev g) fun v => match v with
      | .func (.func gi) xs cs => chk xs.isEmpty (get (C.its gi) fun It => It h.next cs.toList (h.new .dead)
          (fun vs h1 K1 => chk (Nat.beq vs.length ps.size) (exec { C with rnd := true, cuts := fun _ => none } x false (2 * p + 1) (putL f ps.toList vs) h1 fun e f1 h1 => match e with
            | .normal => exec { C with rnd := true, cuts := fun _ => none } y false (2 * p + 2) f1 h1 fun e _ h1 => match e with
              | .normal => K1 h1
              | _ => False
            | _ => False))
          (fun h' => K .normal f h'))
      | _ => False))
  | .exit id, s, p, f, h, K => cutK C s p f h K (K (.exit id) f h)
  | .ret, s, p, f, h, K => cutK C s p f h K (K .ret f h)
  | .label _, s, p, f, h, K => cutK C s p f h K (K .normal f h)
  | _, s, p, f, h, K => cutK C s p f h K False

/-- The code at a place. -/
def leftOf : Code → Option Code
  | .seq a _ => some a
  | .cond _ a _ => some a
  | .block _ b => some b
  | .loop b => some b
  | .rangeFunc _ _ a _ => some a
  | _ => none
def rightOf : Code → Option Code
  | .seq _ b => some b
  | .cond _ _ b => some b
  | .rangeFunc _ _ _ b => some b
  | _ => none
def subF : Nat → Code → Nat → Option Code
  | 0, _, _ => none
  | n + 1, c, p => cond (Nat.beq p 0) (some c) ((subF n c ((p - 1) / 2)).bind fun d => cond (Nat.beq (p % 2) 1) (leftOf d) (rightOf d))
def subN (c : Code) (p : Nat) : Option Code := subF (p + 1) c p

def resK (P : Program) (f : Fr) (h : Heap) : List ResultVar → List Value → (List Value → Prop) → Prop
  | [], acc, K => K acc.reverse
  | .tmp t :: r, acc, K => get (f.get t) fun v => resK P f h r (v :: acc) K
  | .cell a t :: r, acc, K => get (f.get a) fun v => addrK v fun a => loadK P h t a fun v => resK P f h r (v :: acc) K
def tup : List Value → Value
  | [v] => v
  | l => .tuple l.toArray
def Fr.args (n : Nat) : List Value → Nat → Fr → Fr
  | [], _, f => f
  | v :: vs, i, f => Fr.args n vs (i + 1) (f.put (some i) v)
def fnK (C : Ctx) (res : List ResultVar) (n : Nat) (c : Code) (args : List Value) (h : Heap) (K : Out → Heap → Prop) : Prop :=
  chk (Nat.ble args.length n) <| exec C c false 0 (Fr.args n args 0 ⟨n, .nil⟩) h fun x f h => match x with
    | .normal => resK C.P f h res [] fun l => K (.ret (tup l)) h
    | .ret => resK C.P f h res [] fun l => K (.ret (tup l)) h
    | .pan v => K (.pan v) h
    | .exit _ => False

/-- A function that yields, by its code. -/
def itK (C : Ctx) (res : List ResultVar) (n : Nat) (c : Code) (l : Nat) (cs : List Value) (h : Heap) (Y : AYld) (K : Heap → Prop) : Prop :=
  fnK { C with yld := some (l, Y) } res n c (.func (.yield l) #[] #[] :: cs) h fun o h => match o with
    | .ret _ => K h
    | .pan _ => False

/-- Some slots' values. -/
def grabs (f : Fr) : List Nat → Option (List Value)
  | [] => some []
  | t :: ts => (f.get t).bind fun v => (grabs f ts).map fun l => v :: l
def Fr.grab (f : Fr) (n : Nat) (ts : List Nat) : Option (List Value) := cond (Nat.beq f.n n) (grabs f ts) none
def zipV : List Nat → List Value → List (Nat × Value)
  | t :: ts, v :: vs => (t, v) :: zipV ts vs
  | _, _ => []
/-- How a round of a loop ends: the next round, or out of it with some slots. -/
structure Outs where
  exits : List (Nat × List Nat)
  ret : List Nat
def lookN : List (Nat × List Nat) → Nat → Option (List Nat)
  | [], _ => none
  | (k, a) :: l, n => cond (Nat.beq k n) (some a) (lookN l n)
def Outs.of (o : Outs) : EX → Option (List Nat)
  | .exit i => lookN o.exits i
  | .ret => some o.ret
  | .pan _ => some []
  | .normal => some []
def contK (N : Nat) (G : Cut) (o : Outs) (K : EX → Fr → Heap → Prop) (x : EX) (f : Fr) (h : Heap) : Prop :=
  match x with
  | .normal => G f h K
  | x => get (o.of x) fun ss => get (f.grab N ss) fun vs => K x (Fr.of N (zipV ss vs)) h
/-- A piece of code by itself, with what is needed of the frame, and what of it is handed on. -/
def pieceK (N : Nat) (nor : List Nat) (o : Outs) (K : EX → Fr → Heap → Prop) (x : EX) (f : Fr) (h : Heap) : Prop :=
  match x with
  | .normal => get (f.grab N nor) fun vs => K .normal (Fr.of N (zipV nor vs)) h
  | x => get (o.of x) fun ss => get (f.grab N ss) fun vs => K x (Fr.of N (zipV ss vs)) h


/-! closed runs: each function by its code, each loop round by round -/
def callable (P : Program) (g : Nat) : Bool :=
  match P.funcs[g]? with
  | some fn => !(fn.name == "runtime.NumGoroutine") && fn.body.isSome
  | none => false
def autoC (P : Program) (E : List TypeId) (fuel : Nat) (F : Nat → AFn) (I : Nat → AIt) : Ctx := { P := P, E := E, fns := fun g => some (F g), cuts := none1, its := fun g => some (I g), fuel := fuel }
def autoF (P : Program) (E : List TypeId) (fuel : Nat) : Nat → Nat → AFn
  | 0, _ => fun _ _ _ => False
  | n + 1, g => fun args h K => get P.funcs[g]? fun fn => get fn.body fun body =>
      fnK (autoC P E fuel (autoF P E fuel n) (fun g β cs h Y K => get P.funcs[g]? fun fn => get fn.body fun body =>
        itK (autoC P E fuel (autoF P E fuel n) (fun _ _ _ _ _ _ => False)) fn.results.toList fn.ntmps body β cs h Y K)) fn.results.toList fn.ntmps body args h K

end Go.AM
