/- The abstract machine in use: functions, loops and pieces of code by what the model says of them, with typed values. -/
import Derived.Test.YtalmoilcehhjkaaAmFn
set_option linter.unusedVariables false
set_option linter.unusedSimpArgs false
namespace Go.AM

/-! what the model says of a call -/
def SndF (P : Program) (g : Nat) : AFn := fun args h K => callable P g = true ∧
  ∀ (ι : Inj) (w0 : Base) (w : World) (args' : List Value), VL ι args args' → HR ι w0 h w → Calls P g args'.toArray w (CP ι w0 K)
def SndI (P : Program) (g : Nat) : AIt := fun β cs h Y K => callable P g = true ∧ ∀ (ι : Inj) (w0 : Base) (w : World) (cs' : List Value) (l : Nat) (s : Nat × Nat), ι β = some (l, s) → VL ι cs cs' → HR ι w0 h w → YOK P l w0 ι Y →
    Calls P g (.func (.yield l) #[] #[] :: cs').toArray w (CP ι w0 (fun o h => match o with | .ret _ => K h | .pan _ => False))
theorem CP.mono {ι : Inj} {w0 : Base} {K K' : Out → Heap → Prop} {e : Ending} {w : World} (hK : ∀ o h, K o h → K' o h) (H : CP ι w0 K e w) : CP ι w0 K' e w := by
  obtain ⟨κ, h, h1, h2, h3⟩ := H
  refine ⟨κ, h, h1, h2, ?_⟩
  cases e with
  | returned v' => obtain ⟨v, a, b⟩ := h3; exact ⟨v, a, hK _ _ b⟩
  | panicked chain => obtain ⟨v, v', a, b, c⟩ := h3; exact ⟨v, v', a, b, hK _ _ c⟩
  | outgrown => exact h3
theorem SndF.mono {P : Program} {g : Nat} {args : List Value} {h : Heap} {K K' : Out → Heap → Prop} (hK : ∀ o h, K o h → K' o h) (H : SndF P g args h K) : SndF P g args h K' :=
  ⟨H.1, fun ι w0 w args' hl hr => (H.2 ι w0 w args' hl hr).mono fun _ _ q => q.mono hK⟩
theorem SndF.ok (P : Program) (g : Nat) : FnOK P g (SndF P g) := fun _ _ _ H => H
theorem SndI.ok (P : Program) (g : Nat) : ItOK P g (SndI P g) := fun _ _ _ _ _ H => H
theorem SndI.mono {P : Program} {g β : Nat} {cs : List Value} {h : Heap} {Y Y' : AYld} {K K' : Heap → Prop} (hY : ∀ vs h k, Y vs h k → Y' vs h k) (hK : ∀ h, K h → K' h) (H : SndI P g β cs h Y K) : SndI P g β cs h Y' K' :=
  ⟨H.1, fun ι w0 w cs' l s h1 h2 h3 h4 => (H.2 ι w0 w cs' l s h1 h2 h3 (fun B κ h w args args' K a b c d e => h4 B κ h w args args' K a b c d (hY _ _ _ e))).mono fun _ _ q => q.mono fun o h => by
    cases o with
    | ret _ => exact hK h
    | pan _ => exact id⟩
theorem fnOK_of_snd {P : Program} {g : Nat} {G : AFn} (H : ∀ args h K, G args h K → SndF P g args h K) : FnOK P g G := H

/-! shapes of the printed texts, and that they are monotone -/
def retK (A : Value → Heap → Prop) : Out → Heap → Prop := fun o h => match o with
  | .ret v => A v h
  | .pan _ => False
def guardK (v : Value) (A : Bool → Prop) (B : Prop) : Prop := match v with
  | .bool b => A b
  | .tuple _ => B
  | _ => False
theorem get_mono {α : Type} {o : Option α} {A B : α → Prop} (h : ∀ a, A a → B a) : get o A → get o B := by cases o with | none => exact id | some a => exact h a
theorem chk_mono {b : Bool} {A B : Prop} (h : A → B) : chk b A → chk b B := by cases b with | true => exact h | false => exact id
theorem branch_mono {b : Bool} {A A' B B' : Prop} (h : A → B) (g : A' → B') : branch b A A' → branch b B B' := by cases b with | true => exact h | false => exact g
theorem optK_mono {α : Type} {o : Option α} {A B : Prop} {F G : α → Prop} (h : A → B) (g : ∀ a, F a → G a) : optK o A F → optK o B G := by cases o with | none => exact h | some a => exact g a
theorem withH_mono {h : Heap} {A B : Heap → Prop} (g : ∀ h, A h → B h) : withH h A → withH h B := g h
theorem boolK_mono {v : Value} {A B : Bool → Prop} (g : ∀ b, A b → B b) : boolK v A → boolK v B := by cases v <;> first | exact g _ | exact id
theorem unK_mono {op : UnOp} {v : Value} {A B : Value → Prop} (g : ∀ b, A b → B b) : unK op v A → unK op v B := by
  unfold unK; split <;> first | exact g _ | exact id
theorem guardK_mono {v : Value} {A A' : Bool → Prop} {B B' : Prop} (h : ∀ b, A b → A' b) (g : B → B') : guardK v A B → guardK v A' B' := by
  unfold guardK; split
  · exact h _
  · exact g
  · exact id
theorem retK_mono {A B : Value → Heap → Prop} (h : ∀ v k, A v k → B v k) (o : Out) (k : Heap) : retK A o k → retK B o k := by cases o with | ret v => exact h v k | pan v => exact id
theorem get_pd {α : Type} {o : Option α} {A B : α → Prop} {R : Prop} (h : ∀ a, A a → B a ∧ R) : get o A → get o B ∧ R := by cases o with | none => exact fun h => h.elim | some a => exact h a
theorem chk_pd {b : Bool} {A B : Prop} {R : Prop} (h : A → B ∧ R) : chk b A → chk b B ∧ R := by cases b with | true => exact h | false => exact fun h => h.elim
theorem branch_pd {b : Bool} {A A' B B' R : Prop} (h : A → B ∧ R) (g : A' → B' ∧ R) : branch b A A' → branch b B B' ∧ R := by cases b with | true => exact h | false => exact g
theorem val_pd {x y : Value} {R : Prop} (h : chk (valE x y) R) : x = y ∧ R := by
  obtain ⟨a, b⟩ := (chk_iff _ _).1 h
  exact ⟨valE_eq a, b⟩
theorem obj_pd {x y : Option AObj} {R : Prop} (h : chk (objE x y) R) : x = y ∧ R := by
  obtain ⟨a, b⟩ := (chk_iff _ _).1 h
  exact ⟨objE_eq a, b⟩
theorem and_mono {A B C D : Prop} (h : A → B ∧ C) (g : C → D) : A → B ∧ D := fun a => ⟨(h a).1, g (h a).2⟩

/-- A closed run, anywhere. -/
theorem closed_snd {P : Program} {g : Nat} {args : List Value} {v : Value} (hp : args.all plainV = true) (hv : plainV v = true) (H : SndF P g args Heap0 (fun o _ => match o with | .ret u => u = v | .pan _ => False))
    {h : Heap} {K : Out → Heap → Prop} (hK : K (.ret v) h) : SndF P g args h K := by
  obtain ⟨h1, h2⟩ := H
  refine ⟨h1, fun ι w0 w as hl hr => ?_⟩
  have hself : as = args := by
    apply List.ext_getElem? fun i => ?_
    rcases Nat.lt_or_ge i args.length with g | g
    · have e1 : args[i]? = some args[i] := List.getElem?_eq_getElem g
      obtain ⟨y, e2, e3⟩ := hl.get e1
      have hpl := List.all_eq_true.1 hp args[i] (List.getElem_mem g)
      rw [e1, e2]
      exact congrArg some (plain_eq hpl e3)
    · rw [List.getElem?_eq_none g, List.getElem?_eq_none (by rw [← hl.1]; exact g)]
  subst hself
  let B : Base := ⟨w, fun k => k < w.heap.size, fun _ h => h⟩
  have hr0 : HR ⟨fun _ => none, 0⟩ B Heap0 w := ⟨Keep.refl B, rfl, fun β p e => (by cases e), fun β _ => rfl, fun β o b s _ e => (by cases e), fun β γ b s t o p _ e => (by cases e)⟩
  have hl0 : VL ⟨fun _ => none, 0⟩ as as := ⟨rfl, fun i x y hx hy => by
    rw [hx] at hy; cases hy
    exact V.of_plain _ (List.all_eq_true.1 hp x (List.mem_of_getElem? hx))⟩
  refine (h2 _ B w as hl0 hr0).mono fun e w' q => ?_
  obtain ⟨κ, h', q1, q2, q3⟩ := q
  have hold : ∀ k, k < w.heap.size → w'.heap[k]? = w.heap[k]? := fun k hk => q2.below.block k hk
  have hkeep : Keep w0 w' := ⟨q2.below.os.trans hr.below.os, q2.below.tape.trans hr.below.tape, q2.below.output.trans hr.below.output, Nat.le_trans hr.below.size q2.below.size, fun k hk => (hold k (Nat.lt_of_lt_of_le (w0.lt k hk) hr.below.size)).trans (hr.below.block k hk)⟩
  refine ⟨ι, h, Inj.le_refl ι, hr.turn hkeep fun b x hb _ _ => ⟨hold b (Array.getElem?_eq_some_iff.1 hb).1, fun h => h⟩, ?_⟩
  cases e with
  | returned v' =>
    obtain ⟨u, h3, h4⟩ := q3
    have h4 : u = v := h4
    subst h4
    rw [plain_eq hv h3]
    exact ⟨u, V.of_plain ι hv, hK⟩
  | panicked chain => obtain ⟨_, _, _, _, h⟩ := q3; exact h.elim
  | outgrown => exact q3.elim

/-! typed values -/
structure SP where
  T : Type
  to : T → Value
  of : Value → Option T
  ok : ∀ v x, of v = some x → v = to x
def iP (k : IntKind) : SP := ⟨Int, fun n => .int k n, fun v => asI k (some v), fun v x h => by
  cases v <;> simp only [asI, reduceCtorEq] at h
  rename_i k' n
  cases e : kEq k' k with
  | false => rw [e] at h; cases h
  | true => rw [e] at h; cases h; rw [kEq_eq e]⟩
def bP : SP := ⟨Bool, fun b => .bool b, fun v => asB (some v), fun v x h => by cases v <;> simp only [asB, reduceCtorEq, Option.some.injEq] at h; subst h; rfl⟩
def tP : SP := ⟨ByteArray, fun b => .string b, fun v => asT (some v), fun v x h => by cases v <;> simp only [asT, reduceCtorEq, Option.some.injEq] at h; subst h; rfl⟩
def pP : SP := ⟨Option Addr, fun b => .pointer b, fun v => asP (some v), fun v x h => by cases v <;> simp only [asP, reduceCtorEq, Option.some.injEq] at h; subst h; rfl⟩
def sP : SP := ⟨Sl, fun s => .slice s.a s.len s.cap, fun v => asS (some v), fun v x h => by cases v <;> simp only [asS, reduceCtorEq, Option.some.injEq] at h; subst h; rfl⟩
def mP : SP := ⟨Option Nat, fun b => .map b, fun v => asM (some v), fun v x h => by cases v <;> simp only [asM, reduceCtorEq, Option.some.injEq] at h; subst h; rfl⟩
def vP : SP := ⟨Value, fun v => v, some, fun v x h => by cases h; rfl⟩
def lOf : Value → Option (List Value)
  | .agg xs => some xs.toList
  | _ => none
def lP : SP := ⟨List Value, fun l => .agg ⟨l⟩, lOf, fun v x h => by cases v <;> simp only [lOf, reduceCtorEq, Option.some.injEq] at h; subst h; rfl⟩
def yOf : Value → Option Nat
  | .func (.yield n) ⟨[]⟩ ⟨[]⟩ => some n
  | _ => none
def yP : SP := ⟨Nat, fun n => .func (.yield n) #[] #[], yOf, fun v x h => by
  unfold yOf at h
  split at h
  · cases h; rfl
  · cases h⟩
def Tup : List SP → Type
  | [] => Unit
  | s :: l => s.T × Tup l
def tupTo : (l : List SP) → Tup l → List Value
  | [], _ => []
  | s :: l, x => s.to x.1 :: tupTo l x.2
def tupOf : (l : List SP) → List Value → Option (Tup l)
  | [], vs => match vs with | [] => some () | _ :: _ => none
  | s :: l, vs => match vs with | [] => none | v :: vs => (s.of v).bind fun x => (tupOf l vs).map fun y => (x, y)
theorem tup_ok : ∀ (l : List SP) (vs : List Value) (x : Tup l), tupOf l vs = some x → vs = tupTo l x
  | [], vs, x, h => by cases vs with | nil => rfl | cons _ _ => cases h
  | s :: l, vs, x, h => by
    cases vs with
    | nil => cases h
    | cons v vs =>
      obtain ⟨a, ha, h⟩ := Option.bind_eq_some_iff.1 h
      obtain ⟨b, hb, h⟩ := Option.map_eq_some_iff.1 h
      subst h
      rw [s.ok v a ha, tup_ok l vs b hb]; rfl
def aggOf (l : List SP) : Value → Option (Tup l)
  | .agg xs => tupOf l xs.toList
  | _ => none
def aggP (l : List SP) : SP := ⟨Tup l, fun x => .agg ⟨tupTo l x⟩, aggOf l, fun v x h => by
  cases v <;> simp only [aggOf, reduceCtorEq] at h
  rw [← tup_ok l _ x h]⟩
def tuOf (l : List SP) : Value → Option (Tup l)
  | .tuple xs => tupOf l xs.toList
  | _ => none
def tuP (l : List SP) : SP := ⟨Tup l, fun x => .tuple ⟨tupTo l x⟩, tuOf l, fun v x h => by
  cases v <;> simp only [tuOf, reduceCtorEq] at h
  rw [← tup_ok l _ x h]⟩
/-- A closure of a known function. -/
def cOf (g : Nat) (l : List SP) : Value → Option (Tup l)
  | .func (.func k) ⟨[]⟩ xs => cond (Nat.beq k g) (tupOf l xs.toList) none
  | _ => none
theorem cOf_ok (g : Nat) (l : List SP) (v : Value) (x : Tup l) (h : cOf g l v = some x) : v = .func (.func g) #[] ⟨tupTo l x⟩ := by
  unfold cOf at h
  split at h
  · rename_i k xs
    cases hb : Nat.beq k g with
    | false => rw [hb] at h; cases h
    | true =>
      rw [hb] at h; simp only [cond_true] at h
      have := Nat.eq_of_beq_eq_true hb
      subst this
      rw [← tup_ok l _ x h]
  · cases h
def cP (g : Nat) (l : List SP) : SP := ⟨Tup l, fun x => .func (.func g) #[] ⟨tupTo l x⟩, cOf g l, cOf_ok g l⟩
/-- A method bound to its receiver. -/
def mvOf (g : Nat) (l : List SP) : Value → Option (Tup l)
  | .func (.func k) xs ⟨[]⟩ => cond (Nat.beq k g) (tupOf l xs.toList) none
  | _ => none
theorem mvOf_ok (g : Nat) (l : List SP) (v : Value) (x : Tup l) (h : mvOf g l v = some x) : v = .func (.func g) ⟨tupTo l x⟩ #[] := by
  unfold mvOf at h
  split at h
  · rename_i k xs
    cases hb : Nat.beq k g with
    | false => rw [hb] at h; cases h
    | true =>
      rw [hb] at h; simp only [cond_true] at h
      have := Nat.eq_of_beq_eq_true hb
      subst this
      rw [← tup_ok l _ x h]
  · cases h
def mvP (g : Nat) (l : List SP) : SP := ⟨Tup l, fun x => .func (.func g) ⟨tupTo l x⟩ #[], mvOf g l, mvOf_ok g l⟩

/-- Functions of typed values, one by one. -/
def Cur : List SP → Type 1 → Type 1
  | [], R => R
  | s :: l, R => s.T → Cur l R
def CurH : List SP → Type
  | [] => Heap → Prop
  | s :: l => s.T → CurH l
def CurT (R : Type) : List SP → Type
  | [] => R
  | s :: l => s.T → CurT R l
def mapC {R S : Type} (F : R → S) : (l : List SP) → CurT R l → CurT S l
  | [], t => F t
  | _ :: l, t => fun x => mapC F l (t x)
def packC {R : Type} : (l : List SP) → (List Value → R) → CurT R l
  | [], F => F []
  | s :: l, F => fun x => packC l fun vs => F (s.to x :: vs)
def argsC : (l : List SP) → List Value → CurT Prop l → Prop
  | [], vs, X => match vs with | [] => X | _ :: _ => False
  | s :: l, vs, X => match vs with | [] => False | v :: vs => get (s.of v) fun x => argsC l vs (X x)
def listC : (l : List SP) → List Value → CurH l → Heap → Prop
  | [], vs, X => match vs with | [] => X | _ :: _ => fun _ => False
  | s :: l, vs, X => match vs with | [] => fun _ => False | v :: vs => fun h => get (s.of v) fun x => listC l vs (X x) h
def tupL : Value → Option (List Value)
  | .tuple xs => some xs.toList
  | _ => none
def outV : (l : List SP) → CurH l → Value → Heap → Prop
  | [], K => fun v h => get (tupL v) fun vs => listC [] vs K h
  | s :: l, K => match l, K with
    | [], K => fun v h => get (s.of v) fun x => K x h
    | t :: l, K => fun v h => get (tupL v) fun vs => listC (s :: t :: l) vs K h
/-- What is done with what a call gives. -/
def outC (l : List SP) (K : CurH l) : Out → Heap → Prop := fun o h => match o with
  | .ret v => outV l K v h
  | .pan _ => False
def retL : (l : List SP) → (List Value → Heap → Prop) → CurH l
  | [], F => F []
  | s :: l, F => fun x => retL l fun vs => F (s.to x :: vs)
def retC (l : List SP) (F : Value → Heap → Prop) : CurH l := retL l fun vs => F (tup vs)

/-- A call of typed values. -/
def tC (P : Program) (g : Nat) (as rs : List SP) : CurT (Heap → CurH rs → Prop) as := packC as fun vs h K => SndF P g vs h (outC rs K)
/-- The same as a function of the abstract machine's. -/
def wC (as rs : List SP) (T : CurT (Heap → CurH rs → Prop) as) : AFn := fun args h K => argsC as args (mapC (fun t => t h (retC rs fun v h => K (.ret v) h)) as T)

theorem listC_ret : ∀ (l : List SP) (F : List Value → Heap → Prop) (vs : List Value) (h : Heap), listC l vs (retL l F) h → F vs h
  | [], F, vs, h, H => by cases vs with | nil => exact H | cons _ _ => exact H.elim
  | s :: l, F, vs, h, H => by
    cases vs with
    | nil => exact H.elim
    | cons v vs =>
      simp only [listC, retL, get_iff] at H
      obtain ⟨x, hx, H⟩ := H
      rw [s.ok v x hx]
      exact listC_ret l (fun vs => F (s.to x :: vs)) vs h H
theorem listC_len : ∀ (l : List SP) (K : CurH l) (vs : List Value) (h : Heap), listC l vs K h → vs.length = l.length
  | [], K, vs, h, H => by cases vs with | nil => rfl | cons _ _ => exact H.elim
  | s :: l, K, vs, h, H => by
    cases vs with
    | nil => exact H.elim
    | cons v vs =>
      simp only [listC, get_iff] at H
      obtain ⟨x, _, H⟩ := H
      simp [listC_len l _ vs h H]
theorem tupL_some {v : Value} {l : List Value} (h : tupL v = some l) (hl : l.length ≠ 1) : v = AM.tup l := by
  cases v <;> simp only [tupL, reduceCtorEq, Option.some.injEq] at h
  subst h
  rename_i xs
  obtain ⟨l⟩ := xs
  match l, hl with
  | [], _ => rfl
  | [a], hl => exact absurd rfl hl
  | a :: b :: l, _ => rfl
theorem outV_ret : ∀ {l : List SP} {F : Value → Heap → Prop} {v : Value} {h : Heap}, outV l (retC l F) v h → F v h
  | [], F, v, h, H => by
    obtain ⟨vs, hv, H⟩ := (get_iff _ _).1 H
    have hl := listC_len [] _ vs h H
    rw [tupL_some hv (by simp [hl])]
    exact listC_ret [] (fun vs => F (AM.tup vs)) vs h H
  | [s], F, v, h, H => by
    obtain ⟨x, hx, H⟩ := (get_iff _ _).1 H
    rw [s.ok v x hx]; exact H
  | s :: t :: l, F, v, h, H => by
    obtain ⟨vs, hv, H⟩ := (get_iff _ _).1 H
    have hl := listC_len (s :: t :: l) _ vs h H
    rw [tupL_some hv (by simp [hl])]
    exact listC_ret (s :: t :: l) (fun vs => F (AM.tup vs)) vs h H
theorem outC_ret {l : List SP} {K : Out → Heap → Prop} {o : Out} {h : Heap} (H : outC l (retC l fun v h => K (.ret v) h) o h) : K o h := by
  cases o with
  | ret v => exact outV_ret H
  | pan v => exact H.elim
theorem args_pack {R : Type} (F : R → Prop) : ∀ (as : List SP) (vs : List Value) (G : List Value → R), argsC as vs (mapC F as (packC as G)) → F (G vs)
  | [], vs, G, H => by cases vs with | nil => exact H | cons _ _ => exact H.elim
  | s :: l, vs, G, H => by
    cases vs with
    | nil => exact H.elim
    | cons v vs =>
      simp only [argsC, get_iff] at H
      obtain ⟨x, hx, H⟩ := H
      rw [s.ok v x hx]
      exact args_pack F l vs (fun vs => G (s.to x :: vs)) H
theorem wC_snd (P : Program) (g : Nat) (as rs : List SP) {args : List Value} {h : Heap} {K : Out → Heap → Prop} (H : wC as rs (tC P g as rs) args h K) : SndF P g args h K :=
  SndF.mono (fun _ _ => outC_ret) (args_pack _ as args _ H)
theorem wC_ok (P : Program) (g : Nat) (as rs : List SP) : FnOK P g (wC as rs (tC P g as rs)) := fun _ _ _ H => wC_snd P g as rs H

/-! a range over a function, typed -/
def yldC : (l : List SP) → CurT (Heap → (Heap → Prop) → Prop) l → AYld
  | [], Y => fun vs h K => match vs with | [] => Y h K | _ :: _ => False
  | s :: l, Y => fun vs h K => match vs with | v :: vs => get (s.of v) fun x => yldC l (Y x) vs h K | [] => False
/-- The yield function, typed. -/
def yC (l : List SP) (Y : AYld) : CurT (Heap → (Heap → Prop) → Prop) l := packC l fun vs h K => Y vs h K
theorem yldC_yC : ∀ (l : List SP) (Y : AYld) (vs : List Value) (h : Heap) (K : Heap → Prop), yldC l (yC l Y) vs h K → Y vs h K
  | [], Y, vs, h, K, H => by cases vs with | nil => exact H | cons _ _ => exact H.elim
  | s :: l, Y, vs, h, K, H => by
    cases vs with
    | nil => exact H.elim
    | cons v vs =>
      simp only [yldC, get_iff] at H
      obtain ⟨x, hx, H⟩ := H
      rw [s.ok v x hx]
      exact yldC_yC l (fun vs => Y (s.to x :: vs)) vs h K H
abbrev CurY (l : List SP) : Type := CurT (Heap → (Heap → Prop) → Prop) l
/-- A function that yields, called on typed values. -/
def tI (P : Program) (g : Nat) (as ys : List SP) (β : Nat) : CurT (Heap → CurY ys → (Heap → Prop) → Prop) as := packC as fun cs h Y K => SndI P g β cs h (yldC ys Y) K
def wI (as ys : List SP) (T : Nat → CurT (Heap → CurY ys → (Heap → Prop) → Prop) as) : AIt := fun β cs h Y K => argsC as cs (mapC (fun t => t h (yC ys Y) K) as (T β))
theorem wI_ok (P : Program) (g : Nat) (as ys : List SP) : ItOK P g (wI as ys (tI P g as ys)) := fun β cs h Y K H =>
  SndI.mono (fun vs h k => yldC_yC ys Y vs h k) (fun _ h => h) (args_pack _ as cs _ H)

/-! frames, typed -/
abbrev SL := List (Nat × SP)
def SL.ts (l : SL) : List SP := l.map (·.2)
def CurS : SL → Type
  | [] => Heap → Prop
  | s :: l => s.2.T → CurS l
def frC (K : Fr → Heap → Prop) : (l : SL) → Fr → CurS l
  | [], f => K f
  | (t, _) :: l, f => fun x => frC K l (f.put (some t) (SP.to _ x))
def grabS (f : Fr) : (l : SL) → CurS l → Heap → Prop
  | [], X => X
  | (t, s) :: l, X => fun h => get ((f.get t).bind s.of) fun x => grabS f l (X x) h
def grabC (N : Nat) (l : SL) (X : CurS l) (f : Fr) (h : Heap) : Prop := cond (Nat.beq f.n N) (grabS f l X h) False
def Fr0 (N : Nat) : Fr := ⟨N, .nil⟩

theorem put_le {f g : Fr} {t : Nat} {v : Value} (h : g.le f) (e : f.get t = some v) : (g.put (some t) v).le f := by
  refine ⟨by rw [Fr.put_n]; exact h.1, fun i u hu => ?_⟩
  by_cases hd : t < g.n
  · rw [Fr.get_put_some _ _ _ _ hd] at hu
    split at hu
    · subst i; cases hu; exact e
    · exact h.2 i u hu
  · have hb : Nat.blt t g.n = false := by rw [Bool.eq_false_iff, ne_eq, Nat.blt_eq]; exact hd
    simp only [Fr.put, hb, cond_false] at hu
    exact h.2 i u hu
theorem grabS_fr (K : Fr → Heap → Prop) {f : Fr} {h : Heap} : ∀ (l : SL) (g : Fr), g.le f → grabS f l (frC K l g) h → ∃ f', f'.le f ∧ K f' h
  | [], g, hg, H => ⟨g, hg, H⟩
  | (t, s) :: l, g, hg, H => by
    simp only [grabS, get_iff, Option.bind_eq_some_iff] at H
    obtain ⟨x, ⟨v, hv, hx⟩, H⟩ := H
    refine grabS_fr K l _ (put_le hg ?_) H
    rw [← s.ok v x hx]; exact hv
theorem grabC_fr {K : Fr → Heap → Prop} {N : Nat} {l : SL} {f : Fr} {h : Heap} (H : grabC N l (frC K l (Fr0 N)) f h) : ∃ f', f'.le f ∧ K f' h := by
  unfold grabC at H
  cases hn : Nat.beq f.n N with
  | false => rw [hn] at H; exact H.elim
  | true =>
    rw [hn] at H
    exact grabS_fr K l _ ⟨(Nat.eq_of_beq_eq_true hn).symm, fun i v e => by cases e⟩ H

/-- How a loop or a piece is left. -/
def exC : List (Nat × (Fr → Heap → Prop)) → Nat → Fr → Heap → Prop
  | [], _ => fun _ _ => False
  | (i, G) :: l, n => fun f h => cond (Nat.beq i n) (G f h) (exC l n f h)
def outE (nor ret : Fr → Heap → Prop) (exs : List (Nat × (Fr → Heap → Prop))) : EX → Fr → Heap → Prop
  | .normal => nor
  | .ret => ret
  | .exit i => exC exs i
  | .pan _ => fun _ _ => False
def noE : Fr → Heap → Prop := fun _ _ => False
def optE (N : Nat) (K : Fr → Heap → Prop) : Option SL → Fr → Heap → Prop
  | none => noE
  | some s => grabC N s (frC K s (Fr0 N))
def ooE (N : Nat) (nor ret : Option SL) (exs : List (Nat × SL)) (K : EX → Fr → Heap → Prop) : EX → Fr → Heap → Prop :=
  outE (optE N (K .normal) nor) (optE N (K .ret) ret) (exs.map fun p => (p.1, grabC N p.2 (frC (K (.exit p.1)) p.2 (Fr0 N))))
theorem optE_le {N : Nat} {K : Fr → Heap → Prop} {o : Option SL} {f : Fr} {h : Heap} (H : optE N K o f h) : ∃ f', f'.le f ∧ K f' h := by
  cases o with
  | none => exact H.elim
  | some s => exact grabC_fr H
theorem exC_le {N : Nat} {K : EX → Fr → Heap → Prop} {f : Fr} {h : Heap} {n : Nat} : ∀ {exs : List (Nat × SL)}, exC (exs.map fun p => (p.1, grabC N p.2 (frC (K (.exit p.1)) p.2 (Fr0 N)))) n f h → ∃ f', f'.le f ∧ K (.exit n) f' h
  | [], H => H.elim
  | (i, s) :: l, H => by
    simp only [List.map_cons, exC] at H
    cases hb : Nat.beq i n with
    | true =>
      rw [hb] at H; simp only [cond_true] at H
      have := Nat.eq_of_beq_eq_true hb
      subst this
      exact grabC_fr H
    | false => rw [hb] at H; exact exC_le H
theorem ooE_le {N : Nat} {nor ret : Option SL} {exs : List (Nat × SL)} {K : EX → Fr → Heap → Prop} (x : EX) (f : Fr) (h : Heap) (H : ooE N nor ret exs K x f h) : ∃ f', f'.le f ∧ K x f' h := by
  cases x with
  | normal => exact optE_le H
  | ret => exact optE_le H
  | exit i => exact exC_le H
  | pan v => exact H.elim

/-- The plainest context. -/
def ctx0 (P : Program) (y : Option (Nat × AYld)) : Ctx := { P := P, E := [], fns := none1, cuts := none1, its := none1, yld := y }
def SndP (P : Program) (y : Option (Nat × AYld)) (c : Code) (f : Fr) (h : Heap) (K : EX → Fr → Heap → Prop) : Prop := Snd (ctx0 P y) c f h K
/-- A loop, its body ahead. -/
def SndL (P : Program) (y : Option (Nat × AYld)) (b : Code) (f : Fr) (h : Heap) (K : EX → Fr → Heap → Prop) : Prop :=
  ∀ (r : Option Nat) (z : Nat → Prop) (ι : Inj) (w0 : Base) (a : Act) (w : World), r.isSome = false → (∀ k, z k → w0.prot k) → YD (ctx0 P y) w0 ι → FR ι f a.tmps → HR ι w0 h w → Marks z w0 a.defers →
    ∀ (fb : Frame) (k : List Item) (cs : List Frame), fb.roundOf = (fen r).round → (fen r).fn fb.fn → (fen r).room (cs.length + 1 + 0) →
      ∃ e a' w', QC z ι w0 K e a' w' ∧ ArrivesIn (Machine.fenced P (fen r)) P (lone (fb.atR a (.code b :: .inLoop b :: k)) cs w) fb k cs e a' w'
theorem SndL.snd {P : Program} {y : Option (Nat × AYld)} {b : Code} {f : Fr} {h : Heap} {K : EX → Fr → Heap → Prop} (H : SndL P y b f h K) : SndP P y (.loop b) f h K := by
  intro r z ι w0 a w hrd hz hy hf hr hd fb k cs hro hfn hroom
  obtain ⟨e, a', w', hq, harr⟩ := H r z ι w0 a w hrd hz hy hf hr hd fb k cs hro hfn hroom
  exact ⟨e, a', w', hq, .of_steps (.one (fenced_calm hfn hroom rfl) stepR_loop) harr⟩
theorem QC.out {z : Nat → Prop} {ι : Inj} {w0 : Base} {K0 K : EX → Fr → Heap → Prop} {e : Exit} {a : Act} {w : World} (hK : ∀ x f h, K0 x f h → ∃ f', f'.le f ∧ K x f' h) (q : QC z ι w0 K0 e a w) : QC z ι w0 K e a w := by
  obtain ⟨μ, x, f1, h1, B, q1, q2, qB, q3, q4, q5, q6⟩ := q
  obtain ⟨f', hle, hk⟩ := hK x f1 h1 q6
  exact ⟨μ, x, f', h1, B, q1, q2.le hle, qB, q3, q4, q5, hk⟩
theorem Snd.weaken {C : Ctx} {c : Code} {f0 f : Fr} {h : Heap} {K0 K : EX → Fr → Heap → Prop} (H : Snd C c f0 h K0) (hf : f0.le f) (hK : ∀ x f h, K0 x f h → ∃ f', f'.le f ∧ K x f' h) : Snd C c f h K :=
  fun r z ι w0 a w hrd hz hy hfr hr hd => wpIn_mono (H r z ι w0 a w hrd hz hy (hfr.le hf) hr hd) fun _ _ _ q => q.out hK
theorem SndL.weaken {P : Program} {y : Option (Nat × AYld)} {b : Code} {f0 f : Fr} {h : Heap} {K0 K : EX → Fr → Heap → Prop} (H : SndL P y b f0 h K0) (hf : f0.le f) (hK : ∀ x f h, K0 x f h → ∃ f', f'.le f ∧ K x f' h) : SndL P y b f h K := by
  intro r z ι w0 a w hrd hz hy hfr hr hd fb k cs hro hfn hroom
  obtain ⟨e, a', w', hq, harr⟩ := H r z ι w0 a w hrd hz hy (hfr.le hf) hr hd fb k cs hro hfn hroom
  exact ⟨e, a', w', hq.out hK, harr⟩
theorem Snd.cast {C D : Ctx} (h1 : D.P = C.P) (h2 : D.yld = C.yld) (h3 : D.rnd = C.rnd) {c : Code} {f : Fr} {h : Heap} {K : EX → Fr → Heap → Prop} (H : Snd C c f h K) : Snd D c f h K := by
  intro r z ι w0 a w hrd hz hy hf hr hd
  have := H r z ι w0 a w (by rw [hrd, h3]) hz (fun y e => by have := hy y (by rw [h2]; exact e); rwa [h1] at this) hf hr hd
  rwa [h1]

/-- A piece of code of typed values. -/
def qC (P : Program) (y : Option (Nat × AYld)) (c : Code) (N : Nat) (keep : SL) (K : EX → Fr → Heap → Prop) : CurS keep := frC (fun f h => SndP P y c f h K) keep (Fr0 N)
/-- A loop of typed values. -/
def lC (P : Program) (y : Option (Nat × AYld)) (b : Code) (N : Nat) (keep : SL) (K : EX → Fr → Heap → Prop) : CurS keep := frC (fun f h => SndL P y b f h K) keep (Fr0 N)
def gC (N : Nat) (keep : SL) (nor ret : Option SL) (exs : List (Nat × SL)) (l : (EX → Fr → Heap → Prop) → CurS keep) : Cut := fun f h K => grabC N keep (l (ooE N nor ret exs K)) f h
theorem qC_ok {C : Ctx} (hr : C.rnd = false) {c : Code} {N : Nat} {keep : SL} {nor ret : Option SL} {exs : List (Nat × SL)} : CutOK C c (gC N keep nor ret exs (qC C.P C.yld c N keep)) := by
  intro f h K H
  obtain ⟨f', hle, H⟩ := grabC_fr H
  exact (Snd.cast (C := ctx0 C.P C.yld) (D := C) rfl rfl hr H).weaken hle ooE_le
theorem lC_ok {C : Ctx} (hr : C.rnd = false) {b : Code} {N : Nat} {keep : SL} {nor ret : Option SL} {exs : List (Nat × SL)} : CutOK C (.loop b) (gC N keep nor ret exs (lC C.P C.yld b N keep)) := by
  intro f h K H
  obtain ⟨f', hle, H⟩ := grabC_fr H
  exact (Snd.cast (C := ctx0 C.P C.yld) (D := C) rfl rfl hr (SndL.snd H)).weaken hle ooE_le

def loopE (G : Fr → Heap → Prop) (K : EX → Fr → Heap → Prop) : EX → Fr → Heap → Prop
  | .normal => G
  | .ret => K .ret
  | .exit i => K (.exit i)
  | .pan v => K (.pan v)
/-- One round of a loop. -/
theorem loop_step {C : Ctx} {body b : Code} {p N : Nat} {keep : SL} (hC : CtxOK C body) (hrn : C.rnd = false) (hp : subN body (2 * p + 1) = some b) {K : EX → Fr → Heap → Prop} {f : Fr} {h : Heap}
    (hx : exec C b false (2 * p + 1) f h (loopE (grabC N keep (lC C.P C.yld b N keep K)) K)) : SndL C.P C.yld b f h K := by
  intro r z ι w0 a w hrd hz hy hf hr hd fb k cs hro hfn hroom
  have hw := exec_sound b C hC false (2 * p + 1) f h _ hp hx r z ι w0 a w (by rw [hrd, hrn]) hz hy hf hr hd
  obtain ⟨e, a1, w1, ⟨μ, x, f1, h1, B1, q1, q2, qB, q3, q4, q5, q6⟩, harr⟩ := hw fb (.inLoop b :: k) cs hro hfn hroom
  have out : x ≠ .normal → QC z ι w0 K e a1 w1 := by
    intro hx
    cases x with
    | normal => exact absurd rfl hx
    | ret => exact ⟨μ, .ret, f1, h1, B1, q1, q2, qB, q3, q4, q5, q6⟩
    | exit i => exact ⟨μ, .exit i, f1, h1, B1, q1, q2, qB, q3, q4, q5, q6⟩
    | pan v => exact ⟨μ, .pan v, f1, h1, B1, q1, q2, qB, q3, q4, q5, q6⟩
  cases e with
  | normal =>
    cases x <;> first | exact q5.elim | skip
    obtain ⟨f2, hle, q6⟩ := grabC_fr q6
    have q6 := SndL.weaken q6 hle (fun x f h H => ⟨f, ⟨rfl, fun _ _ e => e⟩, H⟩)
    obtain ⟨e2, a2, w2, hq2, harr2⟩ := q6 r z μ B1 a1 w1 hrd (fun k hk => qB.1 k (hz k hk)) (YD.mono (C := ctx0 C.P C.yld) hy qB q1) q2 q3 q4 fb k cs hro hfn hroom
    exact ⟨e2, a2, w2, hq2.mono_inj q1 qB, .of_steps (StepsIn.trans harr (.one (fenced_calm hfn hroom rfl) stepR_inLoop)) harr2⟩
  | exit id =>
    have hx : x ≠ .normal := by intro g; subst g; exact q5
    exact ⟨_, a1, w1, out hx, .pass (x := .inLoop b) rfl (fun _ _ => .inl (by simp)) harr⟩
  | goto l =>
    have hx : x ≠ .normal := by intro g; subst g; exact q5
    exact ⟨_, a1, w1, out hx, .pass (x := .inLoop b) rfl (fun _ _ => .inl (by simp)) harr⟩
  | ret =>
    have hx : x ≠ .normal := by intro g; subst g; exact q5
    exact ⟨_, a1, w1, out hx, .pass (x := .inLoop b) rfl (fun _ _ => .inl (by simp)) harr⟩
  | panic ch =>
    have hx : x ≠ .normal := by intro g; subst g; exact q5
    exact ⟨_, a1, w1, out hx, .pass (x := .inLoop b) rfl (fun _ _ => .inl (by simp)) harr⟩
  | outgrown =>
    have hx : x ≠ .normal := by intro g; subst g; exact q5
    exact ⟨_, a1, w1, out hx, .pass (x := .inLoop b) rfl (fun _ _ => .inl (by simp)) harr⟩
/-- A piece of code. -/
theorem piece_step {C : Ctx} {body c : Code} {p : Nat} (hC : CtxOK C body) (hrn : C.rnd = false) (hp : subN body p = some c) {K : EX → Fr → Heap → Prop} {f : Fr} {h : Heap} (hx : exec C c true p f h K) : SndP C.P C.yld c f h K :=
  Snd.cast (C := C) (D := ctx0 C.P C.yld) rfl rfl hrn.symm (exec_sound c C hC true p f h K hp hx)
/-- A function. -/
theorem fn_step {C : Ctx} {body : Code} {g : Nat} {fn : Func} (hC : CtxOK C body) (hnr : C.rnd = false) (hny : C.yld = none) (hfn : C.P.funcs[g]? = some fn) (hb : fn.body = some body) (hname : (fn.name == "runtime.NumGoroutine") = false)
    {args : List Value} {h : Heap} {K : Out → Heap → Prop} (H : fnK C fn.results.toList fn.ntmps body args h K) : SndF C.P g args h K :=
  ⟨by simp [callable, hfn, hname, hb], fun _ _ _ _ hl hr => body_ok hC hnr hfn hb H (fun y e => by rw [hny] at e; cases e) hl hr⟩
/-- A function that yields. -/
theorem it_step {C : Ctx} {body : Code} {g β : Nat} {fn : Func} {Y : AYld} (hC : CtxOK { C with yld := some (β, Y) } body) (hnr : C.rnd = false) (hfn : C.P.funcs[g]? = some fn) (hb : fn.body = some body) (hname : (fn.name == "runtime.NumGoroutine") = false)
    {cs : List Value} {h : Heap} {K : Heap → Prop} (H : itK C fn.results.toList fn.ntmps body β cs h Y K) : SndI C.P g β cs h Y K :=
  ⟨by simp [callable, hfn, hname, hb], fun _ _ _ _ _ _ hβ hl hr hy => it_body hC hnr hfn hb H hβ hl hr hy⟩

/-! the same, told by an equation -/
theorem loop_stepE {C : Ctx} {body b : Code} {p N : Nat} {keep : SL} (hC : CtxOK C body) (hrn : C.rnd = false) (hp : subN body (2 * p + 1) = some b) {K : EX → Fr → Heap → Prop} {f : Fr} {h : Heap} {T X : Prop}
    (hx : exec C b false (2 * p + 1) f h (loopE (grabC N keep (lC C.P C.yld b N keep K)) K) = X) (hT : T = SndL C.P C.yld b f h K) (H : X) : T := by
  rw [hT]; exact loop_step hC hrn hp (by rw [hx]; exact H)
theorem piece_stepE {C : Ctx} {body c : Code} {p : Nat} (hC : CtxOK C body) (hrn : C.rnd = false) (hp : subN body p = some c) {K : EX → Fr → Heap → Prop} {f : Fr} {h : Heap} {T X : Prop} (hx : exec C c true p f h K = X) (hT : T = SndP C.P C.yld c f h K) (H : X) : T := by
  rw [hT]; exact piece_step hC hrn hp (by rw [hx]; exact H)
theorem fn_stepE {C : Ctx} {body : Code} {g : Nat} {fn : Func} (hC : CtxOK C body) (hnr : C.rnd = false) (hny : C.yld = none) (hfn : C.P.funcs[g]? = some fn) (hb : fn.body = some body) (hname : (fn.name == "runtime.NumGoroutine") = false)
    {args : List Value} {h : Heap} {K : Out → Heap → Prop} {T X : Prop} (hx : fnK C fn.results.toList fn.ntmps body args h K = X) (hT : T = SndF C.P g args h K) (H : X) : T := by
  rw [hT]; exact fn_step hC hnr hny hfn hb hname (by rw [hx]; exact H)
theorem it_stepE {C : Ctx} {body : Code} {g β : Nat} {fn : Func} {Y : AYld} (hC : CtxOK { C with yld := some (β, Y) } body) (hnr : C.rnd = false) (hfn : C.P.funcs[g]? = some fn) (hb : fn.body = some body) (hname : (fn.name == "runtime.NumGoroutine") = false)
    {cs : List Value} {h : Heap} {K : Heap → Prop} {T X : Prop} (hx : itK C fn.results.toList fn.ntmps body β cs h Y K = X) (hT : T = SndI C.P g β cs h Y K) (H : X) : T := by
  rw [hT]; exact it_step hC hnr hfn hb hname (by rw [hx]; exact H)

/-! function values in closed runs -/
abbrev EV := Value → List Value → Heap → (Out → Heap → Prop) → Prop
def VOK (wAll : Nat → Option AFn) (V : EV) : Prop := ∀ v l h Ke, V v l h Ke → ∃ g xs cs G, v = .func (.func g) xs cs ∧ wAll g = some G ∧ ∀ Kt : Out → Heap → Prop, (∀ o h, Ke o h → Kt o h) → G (xs.toList ++ (l ++ cs.toList)) h Kt
def FnsOK (wAll fns : Nat → Option AFn) : Prop := ∀ g G, wAll g = some G → ∃ G', fns g = some G' ∧ ∀ args h K, G args h K → G' args h K
theorem VOK.call {wAll : Nat → Option AFn} {V : EV} (hV : VOK wAll V) {C : Ctx} (hC : FnsOK wAll C.fns) {v : Value} {l : List Value} {h : Heap} {Ke Kt : Out → Heap → Prop} (hK : ∀ o h, Ke o h → Kt o h) (H : V v l h Ke) : callV C v l h Kt := by
  obtain ⟨g, xs, cs, G, rfl, hg, hG⟩ := hV v l h Ke H
  obtain ⟨G', h1, h2⟩ := hC g G hg
  show get (C.fns g) _
  rw [h1]
  exact h2 _ _ _ (hG Kt hK)
theorem FnsOK.base {P : Program} {wAll : Nat → Option AFn} (h : ∀ g G, wAll g = some G → FnOK P g G) : FnsOK wAll (fun g => some (SndF P g)) := fun g G hg => ⟨_, rfl, fun args k K H => h g G hg args k K H⟩
theorem FnsOK.cons {wAll fns : Nat → Option AFn} {j : Nat} {w : AFn} (h : FnsOK wAll fns) (hj : ∀ G, wAll j = some G → ∀ args h K, G args h K → w args h K) : FnsOK wAll (cons1 j w fns) := by
  intro g G hg
  cases hb : Nat.beq j g with
  | true =>
    have := Nat.eq_of_beq_eq_true hb
    subst this
    exact ⟨w, by simp [cons1, hb], hj G hg⟩
  | false => simpa [cons1, hb] using h g G hg
theorem fnOK_cons {P : Program} {f : Nat → Option AFn} {j : Nat} {w : AFn} (h : ∀ g G, f g = some G → FnOK P g G) (hj : FnOK P j w) (g : Nat) (G : AFn) (e : cons1 j w f g = some G) : FnOK P g G := by
  cases hb : Nat.beq j g with
  | true =>
    have := Nat.eq_of_beq_eq_true hb
    subst this
    simp only [cons1, hb, cond_true, Option.some.injEq] at e
    rw [← e]; exact hj
  | false => simp only [cons1, hb, cond_false] at e; exact h g G e
theorem fnOK_none {P : Program} (g : Nat) (G : AFn) (e : none1 g = some G) : FnOK P g G := by cases e

def AllC {R S : Type} (rel : R → S → Prop) : (as : List SP) → CurT R as → CurT S as → Prop
  | [], a, b => rel a b
  | s :: l, a, b => ∀ x : s.T, AllC rel l (a x) (b x)
theorem argsC_rel {R S : Type} {F : R → Prop} {G : S → Prop} : ∀ {sp : List SP} {A : CurT R sp} {B : CurT S sp} {vs : List Value}, AllC (fun a b => F a → G b) sp A B → argsC sp vs (mapC F sp A) → argsC sp vs (mapC G sp B)
  | [], A, B, vs, h => by cases vs with | nil => exact h | cons _ _ => exact id
  | s :: l, A, B, vs, h => by cases vs with | nil => exact id | cons v vs => exact get_mono fun x => argsC_rel (h x)
theorem VOK.zero (wAll : Nat → Option AFn) : VOK wAll (fun _ _ _ _ => False) := fun _ _ _ _ H => H.elim
def EvOK (wAll es : Nat → Option AFn) : Prop := ∀ g E, es g = some E → ∃ G, wAll g = some G ∧ ∀ args h Ke Kt, (∀ o h, Ke o h → Kt o h) → E args h Ke → G args h Kt
theorem EvOK.none (wAll : Nat → Option AFn) : EvOK wAll none1 := fun _ _ e => by cases e
theorem EvOK.cons {wAll es : Nat → Option AFn} {j : Nat} {E G : AFn} (h : EvOK wAll es) (hj : wAll j = some G) (hG : ∀ args h Ke Kt, (∀ o h, Ke o h → Kt o h) → E args h Ke → G args h Kt) : EvOK wAll (cons1 j E es) := by
  intro g E' hg
  cases hb : Nat.beq j g with
  | true =>
    have := Nat.eq_of_beq_eq_true hb
    subst this
    simp only [cons1, hb, cond_true, Option.some.injEq] at hg
    subst hg
    exact ⟨G, hj, hG⟩
  | false => simp only [cons1, hb, cond_false] at hg; exact h g E' hg
def evK (es : Nat → Option AFn) : EV := fun v l h K => match v with
  | .func (.func g) xs cs => Option.elim (es g) False fun G => G (xs.toList ++ (l ++ cs.toList)) h K
  | _ => False
theorem EvOK.vok {wAll es : Nat → Option AFn} (H : EvOK wAll es) : VOK wAll (evK es) := by
  intro v l h Ke hv
  unfold evK at hv
  split at hv
  · rename_i g xs cs
    cases he : es g with
    | none => rw [he] at hv; exact hv.elim
    | some E =>
      rw [he] at hv
      obtain ⟨G, h1, h2⟩ := H g E he
      exact ⟨g, xs, cs, G, rfl, h1, fun Kt hK => h2 _ _ _ _ hK hv⟩
  · exact hv.elim

/-! contexts -/
def baseC (P : Program) (E : List TypeId) (y : Option (Nat × AYld)) (fns : Nat → Option AFn) (its : Nat → Option AIt) (cuts : Nat → Option Cut) : Ctx := { P := P, E := E, fns := fns, cuts := cuts, its := its, yld := y }
def allF (P : Program) (g : Nat) : Option AFn := some (SndF P g)
def allI (P : Program) (g : Nat) : Option AIt := some (SndI P g)
theorem base_ok {P : Program} {E : List TypeId} (hE : EqOK P E) (hm : P.follows .mixedOrders = true) (y : Option (Nat × AYld)) (body : Code) : CtxOK (baseC P E y (allF P) (allI P) none1) body :=
  { eq := hE, mix := hm, fns := fun g G h => (by cases h; exact SndF.ok P g), cuts := fun _ _ _ h _ => (by cases h), its := fun g G h => (by cases h; exact SndI.ok P g) }
theorem addF {P : Program} {E : List TypeId} {y : Option (Nat × AYld)} {fns : Nat → Option AFn} {its : Nat → Option AIt} {cuts : Nat → Option Cut} {body : Code} {g : Nat} {G : AFn} (hC : CtxOK (baseC P E y fns its cuts) body) (h : FnOK P g G) :
    CtxOK (baseC P E y (cons1 g G fns) its cuts) body := CtxOK.addFn hC h
theorem addI {P : Program} {E : List TypeId} {y : Option (Nat × AYld)} {fns : Nat → Option AFn} {its : Nat → Option AIt} {cuts : Nat → Option Cut} {body : Code} {g : Nat} {G : AIt} (hC : CtxOK (baseC P E y fns its cuts) body) (h : ItOK P g G) :
    CtxOK (baseC P E y fns (cons1 g G its) cuts) body := CtxOK.addIt hC h
theorem addQ {P : Program} {E : List TypeId} {y : Option (Nat × AYld)} {fns : Nat → Option AFn} {its : Nat → Option AIt} {cuts : Nat → Option Cut} {body c : Code} {p N : Nat} {keep : SL} {nor ret : Option SL} {exs : List (Nat × SL)}
    (hC : CtxOK (baseC P E y fns its cuts) body) (hp : subN body p = some c) : CtxOK (baseC P E y fns its (cons1 p (gC N keep nor ret exs (qC P y c N keep)) cuts)) body := CtxOK.addCut hC hp (qC_ok (C := baseC P E y fns its cuts) rfl)
theorem addL {P : Program} {E : List TypeId} {y : Option (Nat × AYld)} {fns : Nat → Option AFn} {its : Nat → Option AIt} {cuts : Nat → Option Cut} {body b : Code} {p N : Nat} {keep : SL} {nor ret : Option SL} {exs : List (Nat × SL)}
    (hC : CtxOK (baseC P E y fns its cuts) body) (hp : subN body p = some (.loop b)) : CtxOK (baseC P E y fns its (cons1 p (gC N keep nor ret exs (lC P y b N keep)) cuts)) body := CtxOK.addCut hC hp (lC_ok (C := baseC P E y fns its cuts) rfl)
end Go.AM
