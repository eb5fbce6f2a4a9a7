/- The abstract machine: one operation. -/
import Derived.Test.YtalmoilcehhjkaaAmDefs
set_option linter.unusedVariables false
set_option linter.unusedSimpArgs false
namespace Go.AM

def goI (n : Int) : Value := .int .i64 n

def bltK (P : Program) (b : Builtin) (tys : List TypeId) (args : List Value) (h : Heap) (K : Value → Heap → Prop) : Prop :=
  match b, tys, args with
  | .len, t :: _, [x] => match P.underlying t with
    | some .string => strK x fun s => K (goI s.size) h
    | some (.slice _) => sliceK x fun s => K (goI s.len) h
    | some (.array n _) => K (goI n) h
    | some (.map _ _) => mapK x fun m => get (h.mp m) fun es => K (goI es.length) h
    | _ => False
  | .cap, t :: _, [_] => match P.underlying t with
    | some (.array n _) => K (goI n) h
    | _ => False
  | .append, [t, u], [s, x] => match P.underlying t, P.underlying u with
    | some (.slice e), some (.slice _) => chk (Nat.beq t u) <| get (sizeT P e) fun k => get (bytesT P e) fun by_ => get (zcells P e) fun z => chk (Nat.beq z.length k) <| sliceK s fun s => sliceK x fun x =>
        optK x.a (K s.v h) fun a => get (h.rdN ⟨a.block, a.off, none⟩ (x.len * k)) fun news => get (h.app k by_ s x.len news) fun r => K r.1.v r.2
    | _, _ => False
  | .min, _, [x, y] => intK x fun k a => intK y fun _ b => K (.int k (if b < a then b else a)) h
  | .max, _, [x, y] => intK x fun k a => intK y fun _ b => K (.int k (if b > a then b else a)) h
  | .copy, [t, u], [d, s] => match P.underlying t, P.underlying u with
    | some (.slice e), some (.slice _) => get (sizeT P e) fun k => sliceK d fun d => sliceK s fun s =>
        optK d.a (K (goI 0) h) fun a => optK s.a (K (goI 0) h) fun b =>
          get (h.rdN ⟨b.block, b.off, none⟩ (Nat.min s.len d.len * k)) fun l => get (h.wr ⟨a.block, a.off, none⟩ l) fun h' => K (goI (Nat.min s.len d.len : Nat)) h'
    | _, _ => False
  | .clear, [t], [x] => match P.underlying t with
    | some (.slice e) => sliceK x fun s => optK s.a (K undef h) fun a => get (zcells P e) fun z => get (h.wr ⟨a.block, a.off, none⟩ (rep z s.len)) fun h' => K undef h'
    | _ => False
  | _, _, _ => False

def opV (P : Program) (E : List TypeId) (f : Fr) (h : Heap) (o : Op) (K : Value → Heap → Prop) : Prop :=
  match o with
  | .move x | .assign x => get (f.ev x) fun v => K v h
  | .pick c x y => get (f.ev c) fun c => boolK c fun b => branch b (get (f.ev x) fun v => K v h) (get (f.ev y) fun v => K v h)
  | .alloc t => get (zcells P t) fun z => K (.pointer (some ⟨h.next, 0, none⟩)) (h.new (.cells z false))
  | .box _ x => get (f.ev x) fun v => chk (v.cells.toList.all Value.oneCell') (K (.pointer (some ⟨h.next, 0, none⟩)) (h.new (.cells v.cells.toList false)))
  | .build t ps => get (parts f ps.toList) fun l => get (buildV P t l) fun cs => K (.agg cs.toArray) h
  | .buildSlice t len ps => match P.underlying t with
    | some (.slice e) => get (parts f ps.toList) fun l => get (buildS P e len l) fun cs => chk (cs.all Value.oneCell') <| K (.slice (some ⟨h.next, 0, some 0⟩) len len) (h.new (.cells cs false))
    | _ => False
  | .load t x => get (f.ev x) fun v => addrK v fun a => loadK P h t a fun v => K v h
  | .store t x y => get (f.ev x) fun v => addrK v fun a => get (f.ev y) fun v => storeK P h t a v fun h' => K undef h'
  | .nilCheck x => get (f.ev x) fun v => match v with
    | .pointer a => get a fun a => K (.pointer (some a)) h
    | .func (.func g) xs cs => K (.func (.func g) xs cs) h
    | .iface t v => K (.iface t v) h
    | _ => False
  | .binOp op t x y _ => get (f.ev x) fun a => get (f.ev y) fun b => binK P E op t a b fun v => K v h
  | .unOp op _ x => get (f.ev x) fun a => unK op a fun v => K v h
  | .convert s d x => get (f.ev x) fun a => convK P h s d a fun v => K v h
  | .makeInterface t x => match P.underlying t with
    | none | some (.interface _) => False
    | _ => get (f.ev x) fun v => K (.iface t v) h
  | .makeFunc fn xs cs => chk (notY fn) <| get (evs f xs.toList) fun xs => get (evs f cs.toList) fun cs => K (.func fn xs.toArray cs.toArray) h
  | .makeMap _ none => K (.map (some h.next)) (h.new (.map []))
  | .makeSlice t l c => match P.underlying t with
    | some (.slice e) => get (f.ev l) fun l => intK l fun _ l => get (f.ev c) fun c => intK c fun _ c => get (bytesT P e) fun by_ => get (sizeT P e) fun k => get (zcells P e) fun z =>
        chk (within 0 l c && (decide (c ≤ 1000000000000) && (small c.toNat by_ && Nat.beq z.length k))) (K (.slice (some ⟨h.next, 0, some 0⟩) l.toNat c.toNat) (h.new (.cells (rep z c.toNat) false)))
    | _ => False
  | .slice t x lo hi mx => get (f.ev x) fun v => resliceK P f t v lo hi mx fun v => K v h
  | .fieldAddr t x i => get (f.ev x) fun v => addrK v fun a => fieldK P t a i fun a => K (.pointer (some a)) h
  | .field t x i => get (f.ev x) fun v => fieldV P t v i fun v => K v h
  | .indexAddr t x i => get (f.ev x) fun v => get (f.ev i) fun i => intK i fun _ i => indexK P t v i fun a => K (.pointer (some a)) h
  | .index t x i => get (f.ev x) fun v => get (f.ev i) fun i => intK i fun _ i => indexV P t v i fun v => K v h
  | .lookup t m k ok => get (f.ev m) fun m => mapK m fun m => get (f.ev k) fun k => lookK P E h t m k ok fun v => K v h
  | .mapUpdate t m k v | .insert t m k v => get (f.ev m) fun m => mapK m fun m => get (f.ev k) fun k => get (f.ev v) fun v => upK P E h t m k v fun h' => K undef h'
  | .extract x i => get (f.ev x) fun v => match v with
    | .tuple vs => get (vs[i]?) fun v => K v h
    | _ => False
  | .range t x => match P.underlying t with
    | some .string => get (f.ev x) fun v => strK v fun s => K (.pointer (some ⟨h.next, 0, none⟩)) (h.new (.sit s 0))
    | _ => False
  | .next x true => get (f.ev x) fun v => addrK v fun a => match h.get a.block with
    | some (.sit s pos) => cond (Nat.beq a.off 0) (branch (Nat.blt pos s.size) (K (.tuple #[.bool true, goI pos, .int .i32 (Utf8.decode s pos).1]) (h.put a.block (.sit s (pos + (Utf8.decode s pos).2)))) (K (.tuple #[.bool false]) h)) False
    | _ => False
  | .call { callee := .builtin b, args, argTypes } => get (evs f args.toList) fun l => bltK P b argTypes.toList l h K
  | _ => False

end Go.AM
