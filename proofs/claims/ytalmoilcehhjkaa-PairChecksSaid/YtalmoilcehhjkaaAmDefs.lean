/- The abstract machine: what each operation asks and gives, in the style of weakest preconditions. -/
import Derived.Test.YtalmoilcehhjkaaAmOps
set_option linter.unusedVariables false
set_option linter.unusedSimpArgs false
namespace Go.AM

def Fr.ev (f : Fr) : Operand → Option Value
  | .tmp t => f.get t
  | .const v => cond (plainV v) (some v) none
  | .global _ => none
  | .func g => some (.func (.func g) #[] #[])
def evs (f : Fr) : List Operand → Option (List Value)
  | [] => some []
  | x :: xs => (f.ev x).bind fun v => (evs f xs).map fun l => v :: l
def parts (f : Fr) : List (Nat × Operand) → Option (List (Nat × Value))
  | [] => some []
  | (i, x) :: xs => (f.ev x).bind fun v => (parts f xs).map fun l => (i, v) :: l

def boolK (v : Value) (K : Bool → Prop) : Prop := match v with | .bool b => K b | _ => False
def intK (v : Value) (K : IntKind → Int → Prop) : Prop := match v with | .int k n => K k n | _ => False
def strK (v : Value) (K : ByteArray → Prop) : Prop := match v with | .string s => K s | _ => False
def addrK (v : Value) (K : Addr → Prop) : Prop := match v with | .pointer a => get a K | _ => False
def sliceK (v : Value) (K : Sl → Prop) : Prop := match v with | .slice a l c => K ⟨a, l, c⟩ | _ => False
def aggK (v : Value) (K : List Value → Prop) : Prop := match v with | .agg xs => K xs.toList | _ => False
def mapK (v : Value) (K : Nat → Prop) : Prop := match v with | .map m => get m K | _ => False

/-! typed reading -/
def lkOf : TypeDesc → LK
  | .int k => .int k
  | .bool => .bool
  | .string => .str
  | .pointer _ => .ptr
  | .slice _ => .slice
  | .map _ _ => .map
  | _ => .any
def lkT (P : Program) (t : TypeId) : LK := match P.underlying t with | some d => lkOf d | none => .any
def leaves (P : Program) : Nat → TypeId → Option (List LK)
  | 0, _ => none
  | n + 1, t => match P.underlying t with
    | some (.struct fs) => fs.toList.foldr (fun f acc => (leaves P n f.type).bind fun l => acc.map fun r => l ++ r) (some [])
    | some (.array m e) => (leaves P n e).map fun l => (List.replicate m l).flatten
    | some d => some [lkOf d]
    | none => none
/-- The first cells of a list, each by its kind. -/
def views : List LK → List (Option Value) → List Value → (List Value → Prop) → Prop
  | l :: ls, v :: vs, acc, K => l.view v fun x => views ls vs (x :: acc) K
  | [], [], acc, K => K acc.reverse
  | _, _, _, _ => False
def rds (h : Heap) (b o : Nat) : Nat → List (Option Value)
  | 0 => []
  | n + 1 => h.rd ⟨b, o, none⟩ :: rds h b (o + 1) n
def loadK (P : Program) (h : Heap) (t : TypeId) (a : Addr) (K : Value → Prop) : Prop :=
  match P.underlying t with
  | none => False
  | some d => cond (isAggD d)
      (get (sizeT P t) fun n => cond (Nat.ble n 8)
        (get (leaves P 8 t) fun ls => cond (Nat.beq ls.length n) (views ls (rds h a.block a.off n) [] fun l => K (.agg l.toArray)) False)
        (get (h.rdN a n) fun l => K (.agg l.toArray)))
      ((lkOf d).view (h.rd a) K)
def storeK (P : Program) (h : Heap) (t : TypeId) (a : Addr) (v : Value) (K : Heap → Prop) : Prop :=
  get (sizeT P t) fun n => cond (Nat.beq v.cells.size n && v.cells.toList.all Value.oneCell') (get (h.wr a v.cells.toList) K) False

/-! building -/
def fillL (place : Nat → Option (Nat × Nat)) (cells : List Value) : List (Nat × Value) → Option (List Value)
  | [] => some cells
  | (i, v) :: rest => (place i).bind fun p =>
      cond (Nat.beq v.cells.size p.2 && Nat.ble (p.1 + p.2) cells.length) (fillL place (over cells p.1 v.cells.toList) rest) none
def places (P : Program) : List Field → Option (List (Nat × Nat))
  | [] => some []
  | f :: fs => (sizeT P f.type).bind fun n => (places P fs).map fun l => (f.offset, n) :: l
def buildV (P : Program) (t : TypeId) (ps : List (Nat × Value)) : Option (List Value) :=
  (zcells P t).bind fun z => match P.underlying t with
    | some (.struct fs) => (places P fs.toList).bind fun pl => fillL (fun i => pl[i]?) z ps
    | some (.array _ e) => (sizeT P e).bind fun n => fillL (fun i => some (i * n, n)) z ps
    | _ => none
def rep (z : List Value) : Nat → List Value
  | 0 => []
  | n + 1 => z ++ rep z n
def buildS (P : Program) (e : TypeId) (len : Nat) (ps : List (Nat × Value)) : Option (List Value) :=
  (sizeT P e).bind fun n => cond (Nat.ble (len * n) 1000) ((zcells P e).bind fun z => cond (Nat.beq z.length n) (fillL (fun i => some (i * n, n)) (rep z len) ps) none) none

/-! equality of plain values -/
def eqL : List LK → List Value → List Value → Option Bool
  | [], [], [] => some true
  | .int k :: ls, .int i a :: xs, .int j b :: ys => cond (kEq i k && kEq j k) ((eqL ls xs ys).map fun r => (a == b) && r) none
  | .str :: ls, .string a :: xs, .string b :: ys => (eqL ls xs ys).map fun r => (a.toList == b.toList) && r
  | .bool :: ls, .bool a :: xs, .bool b :: ys => (eqL ls xs ys).map fun r => (a == b) && r
  | _, _, _ => none
/-- Equality at a type: 'E' lists the aggregates that may be compared. -/
def eqK (P : Program) (E : List TypeId) (t : TypeId) (x y : Value) : Option Bool :=
  match P.underlying t, x, y with
  | some (.int _), .int j a, .int k b => cond (kEq j k) (some (a == b)) none
  | some .string, .string a, .string b => some (a.toList == b.toList)
  | some .bool, .bool a, .bool b => some (a == b)
  | some (.pointer _), .pointer a, .pointer none => some a.isNone
  | some (.pointer _), .pointer none, .pointer a => some a.isNone
  | some (.slice _), .slice a _ _, .slice none _ _ => some a.isNone
  | some (.struct _), .agg xs, .agg ys => cond (E.elem t) ((leaves P 8 t).bind fun ls => eqL ls xs.toList ys.toList) none
  | some (.array _ _), .agg xs, .agg ys => cond (E.elem t) ((leaves P 8 t).bind fun ls => eqL ls xs.toList ys.toList) none
  | _, _, _ => none

/-! operators -/
def w64 (n : Int) : Int := IntKind.i64.wrap n
def binI (op : BinOp) (k : IntKind) (a b : Int) (K : Value → Prop) : Prop :=
  match op with
  | .add => K (.int k (k.wrap (a + b)))
  | .sub => K (.int k (k.wrap (a - b)))
  | .mul => K (.int k (k.wrap (a * b)))
  | .quo => chk (b != 0) (K (.int k (k.wrap (a.tdiv b))))
  | .rem => chk (b != 0) (K (.int k (a.tmod b)))
  | .and => K (.int k (k.wrap (BitVec.ofInt k.bits a &&& BitVec.ofInt k.bits b).toNat))
  | .or => K (.int k (k.wrap (BitVec.ofInt k.bits a ||| BitVec.ofInt k.bits b).toNat))
  | .xor => K (.int k (k.wrap (BitVec.ofInt k.bits a ^^^ BitVec.ofInt k.bits b).toNat))
  | .andNot => K (.int k (k.wrap (BitVec.ofInt k.bits a &&& ~~~BitVec.ofInt k.bits b).toNat))
  | .eql => K (.bool (a == b))
  | .neq => K (.bool (a != b))
  | .lss => K (.bool (decide (a < b)))
  | .leq => K (.bool (decide (a ≤ b)))
  | .gtr => K (.bool (decide (a > b)))
  | .geq => K (.bool (decide (a ≥ b)))
  | _ => False
def binS (op : BinOp) (a b : ByteArray) (K : Value → Prop) : Prop :=
  match op with
  | .add => chk (decide (a.size + b.size ≤ 1000000000000)) (K (.string (a ++ b)))
  | .eql => K (.bool (a.toList == b.toList))
  | .neq => K (.bool (!(a.toList == b.toList)))
  | .lss => K (.bool (Op.bytesLess a.toList b.toList))
  | .leq => K (.bool (Op.bytesLess a.toList b.toList || a.toList == b.toList))
  | .gtr => K (.bool (!(Op.bytesLess a.toList b.toList || a.toList == b.toList)))
  | .geq => K (.bool (!(Op.bytesLess a.toList b.toList)))
  | _ => False
def shiftK (op : BinOp) (k : IntKind) (a b : Int) (K : Value → Prop) : Prop :=
  match op with
  | .shl => chk (decide (0 ≤ b)) (K (.int k (k.wrap (a * 2 ^ (min b.toNat k.bits)))))
  | .shr => chk (decide (0 ≤ b)) (K (.int k (a.fdiv (2 ^ (min b.toNat k.bits)))))
  | _ => False
def binK (P : Program) (E : List TypeId) (op : BinOp) (t : TypeId) (x y : Value) (K : Value → Prop) : Prop :=
  match op, x, y with
  | .shl, .int k a, .int _ b => shiftK .shl k a b K
  | .shr, .int k a, .int _ b => shiftK .shr k a b K
  | op, .int j a, .int k b => cond (kEq j k) (binI op j a b K) False
  | op, .string a, .string b => binS op a b K
  | .eql, x, y => get (eqK P E t x y) fun r => K (.bool r)
  | .neq, x, y => get (eqK P E t x y) fun r => K (.bool (!r))
  | _, _, _ => False
def unK (op : UnOp) (x : Value) (K : Value → Prop) : Prop :=
  match op, x with
  | .neg, .int k n => K (.int k (k.wrap (0 - n)))
  | .not, .bool b => K (.bool (!b))
  | _, _ => False

/-! strings -/
def byteAt (s : ByteArray) (i : Int) : Int := ((s.data[i.toNat]?).getD 0).toNat
def idx (i : Int) (n : Nat) : Bool := decide (0 ≤ i) && decide (i < (n : Int))
def bytesOf : List Value → Option (List UInt8)
  | [] => some []
  | .int .u8 n :: r => (bytesOf r).map fun l => UInt8.ofNat n.toNat :: l
  | _ => none

def convK (P : Program) (h : Heap) (s d : TypeId) (x : Value) (K : Value → Prop) : Prop :=
  match P.underlying s, P.underlying d, x with
  | some (.int _), some (.int k), .int _ n => K (.int k (k.wrap n))
  | some .string, some .string, .string t => K (.string t)
  | some (.slice e), some .string, .slice a len _ => match P.underlying e with
    | some (.int .u8) => optK a (K (.string .empty)) fun a => get (h.rdN ⟨a.block, a.off, none⟩ len) fun l => get (bytesOf l) fun l => K (.string ⟨l.toArray⟩)
    | _ => False
  | _, _, _ => False

/-! addresses -/
def fieldK (P : Program) (t : TypeId) (a : Addr) (i : Nat) (K : Addr → Prop) : Prop :=
  match P.underlying t with
  | some (.struct fs) => get (fs[i]?) fun f => get (sizeT P f.type) fun n => cond (Nat.beq n 0) False (K ⟨a.block, a.off + f.offset, none⟩)
  | _ => False
def indexK (P : Program) (t : TypeId) (x : Value) (i : Int) (K : Addr → Prop) : Prop :=
  match P.underlying t with
  | some (.array n e) => addrK x fun a => get (sizeT P e) fun s => chk (idx i n) (K ⟨a.block, a.off + i.toNat * s, none⟩)
  | some (.slice e) => sliceK x fun l => get l.a fun a => get (sizeT P e) fun s => chk (idx i l.len) (K ⟨a.block, a.off + i.toNat * s, none⟩)
  | _ => False
def partK (P : Program) (t : TypeId) (cs : List Value) (off : Nat) (K : Value → Prop) : Prop :=
  match P.underlying t with
  | none => False
  | some d => cond (isAggD d) (get (sizeT P t) fun n => cond (Nat.ble (off + n) cs.length) (K (.agg ((cs.drop off).take n).toArray)) False) ((lkOf d).view cs[off]? K)
def fieldV (P : Program) (t : TypeId) (x : Value) (i : Nat) (K : Value → Prop) : Prop :=
  match P.underlying t with
  | some (.struct fs) => get (fs[i]?) fun f => aggK x fun cs => partK P f.type cs f.offset K
  | _ => False
def indexV (P : Program) (t : TypeId) (x : Value) (i : Int) (K : Value → Prop) : Prop :=
  match P.underlying t with
  | some (.array n e) => aggK x fun cs => get (sizeT P e) fun s => chk (idx i n) (partK P e cs (i.toNat * s) K)
  | some .string => strK x fun s => chk (idx i s.size) (K (.int .u8 (byteAt s i)))
  | _ => False

/-! slices -/
/-- What is known of a row's end: 'some 0': the slice has just so much room; 'some (k + 1)': the row ends where the room ends, its elements having k cells. -/
def cutSpot (k : Nat) : Option Nat → Option Nat
  | some 0 => some 0
  | some (j + 1) => cond (Nat.beq j k) (some (j + 1)) none
  | none => none
def Sl.cut (s : Sl) (k lo hi : Nat) : Sl := ⟨s.a.map fun a => ⟨a.block, a.off + lo * k, cutSpot k a.spot⟩, hi - lo, s.cap - lo⟩
def Sl.cut3 (s : Sl) (k lo hi m : Nat) : Sl := ⟨s.a.map fun a => ⟨a.block, a.off + lo * k, some 0⟩, hi - lo, m - lo⟩
def optI (f : Fr) (x : Option Operand) (d : Int) (K : Int → Prop) : Prop :=
  match x with
  | none => K d
  | some x => get (f.ev x) fun v => intK v fun _ n => K n
def within (a b c : Int) : Bool := decide (0 ≤ a) && (decide (a ≤ b) && decide (b ≤ c))
def resliceK (P : Program) (f : Fr) (t : TypeId) (x : Value) (lo hi mx : Option Operand) (K : Value → Prop) : Prop :=
  match P.underlying t with
  | some .string => strK x fun s => match mx with
    | some _ => False
    | none => optI f lo 0 fun l => optI f hi s.size fun r => chk (within l r s.size) (K (.string (s.extract l.toNat r.toNat)))
  | some (.slice e) => sliceK x fun s => get (sizeT P e) fun k => match mx with
    | none => optI f lo 0 fun l => optI f hi s.len fun r => chk (within l r s.cap) (K (s.cut k l.toNat r.toNat).v)
    | some m => cond hi.isSome (get (f.ev m) fun v => intK v fun _ m => optI f lo 0 fun l => optI f hi s.len fun r => chk (within l r m && decide (m ≤ (s.cap : Int))) (K (s.cut3 k l.toNat r.toNat m.toNat).v)) False
  | some (.array n e) => addrK x fun a => get (sizeT P e) fun k => match mx with
    | none => optI f lo 0 fun l => optI f hi n fun r => chk (within l r n) (K ((⟨some ⟨a.block, a.off, some 0⟩, n, n⟩ : Sl).cut k l.toNat r.toNat).v)
    | some _ => False
  | _ => False

/-- 'append': where the row is surely large enough it is written; else it is let go (a new one, which may be the old one, has its cells). -/
def small (n bytes : Nat) : Bool := decide (n * bytes ≤ 70368744177664) && decide (n ≤ 70368744177664)
def Heap.app (h : Heap) (k bytes : Nat) (s : Sl) (n : Nat) (news : List Value) : Option (Sl × Heap) :=
  cond (Nat.beq n 0) (some (s, h)) (cond (small (s.len + n) bytes) (match s.a with
    | none => some (⟨some ⟨h.next, 0, some (k + 1)⟩, n, n⟩, h.new (.cells news false))
    | some a => cond (Nat.ble (s.len + n) s.cap)
        ((h.wr ⟨a.block, a.off + s.len * k, none⟩ news).map fun h' => (⟨some a, s.len + n, s.cap⟩, h'))
        ((h.rdN ⟨a.block, a.off, none⟩ (s.len * k)).bind fun olds => match a.spot with
          | some 0 => some (⟨some ⟨h.next, 0, some (k + 1)⟩, s.len + n, s.len + n⟩, h.new (.cells (olds ++ news) false))
          | some (j + 1) => cond (Nat.beq j k) ((h.own a.block).map fun _ => (⟨some ⟨h.next, 0, some (k + 1)⟩, s.len + n, s.len + n⟩, (h.put a.block .dead).new (.cells (olds ++ news) false))) none
          | none => none)) none)
def bytesT (P : Program) (t : TypeId) : Option Nat := (P.info? t).map (·.bytes)

/-! maps -/
def Heap.mp (h : Heap) (m : Nat) : Option (List (Value × Value)) := match h.get m with | some (.map es) => some es | _ => none
def findV (P : Program) (E : List TypeId) (t : TypeId) (k : Value) : List (Value × Value) → Nat → Option (Option (Nat × Value))
  | [], _ => some none
  | e :: es, i => (eqK P E t k e.1).bind fun b => cond b (some (some (i, e.2))) (findV P E t k es (i + 1))
def keyOK (P : Program) (E : List TypeId) (t : TypeId) (k : Value) : Bool :=
  match P.underlying t, k with
  | some (.int _), .int _ _ | some .string, .string _ | some .bool, .bool _ => true
  | some (.struct _), .agg xs | some (.array _ _), .agg xs => E.elem t && (((leaves P 8 t).bind fun ls => eqL ls xs.toList xs.toList).isSome)
  | _, _ => false
def lookK (P : Program) (E : List TypeId) (h : Heap) (t : TypeId) (m : Nat) (k : Value) (ok : Bool) (K : Value → Prop) : Prop :=
  match P.underlying t with
  | some (.map kt et) => cond (keyOK P E kt k) (get (h.mp m) fun es => get (findV P E kt k es 0) fun r => get (zeroT P et) fun z =>
      (lkT P et).view (some ((r.map (·.2)).getD z)) fun v => K (cond ok (.tuple #[v, .bool r.isSome]) v)) False
  | _ => False
def setAt : List (Value × Value) → Nat → Value → Value → List (Value × Value)
  | [], _, _, _ => []
  | _ :: es, 0, k, v => (k, v) :: es
  | e :: es, i + 1, k, v => e :: setAt es i k v
def upK (P : Program) (E : List TypeId) (h : Heap) (t : TypeId) (m : Nat) (k v : Value) (K : Heap → Prop) : Prop :=
  match P.underlying t with
  | some (.map kt _) => cond (keyOK P E kt k) (get (h.mp m) fun es => get (findV P E kt k es 0) fun r =>
      optK r (K (h.put m (.map (es ++ [(k, v)])))) fun p => K (h.put m (.map (setAt es p.1 k v)))) False
  | _ => False

end Go.AM
