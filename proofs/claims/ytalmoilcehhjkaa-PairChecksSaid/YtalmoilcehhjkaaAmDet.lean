/- The abstract machine: operations that only compute or read; operations that only make something new. -/
import Derived.Test.YtalmoilcehhjkaaAmSnd9
import Derived.Test.YtalmoilcehhjkaaAmExec
set_option linter.unusedVariables false
set_option linter.unusedSimpArgs false
namespace Go.AM

/-! one answer -/
def Det {ρ κ : Type} (R : ρ → κ → Prop) (F : κ → Prop) : Prop := ∀ K, F K → ∃ v, R v K ∧ ∀ K', R v K' → F K'
section
variable {ρ κ : Type} {R : ρ → κ → Prop}
theorem det_leaf (v : ρ) : Det R (fun K => R v K) := fun _ h => ⟨v, h, fun _ h => h⟩
theorem det_false : Det R (fun _ => False) := fun _ h => h.elim
theorem det_get {α : Type} {o : Option α} {F : α → κ → Prop} (h : ∀ a, Det R (F a)) : Det R (fun K => get o fun a => F a K) := by
  cases o with
  | none => exact det_false
  | some a => exact h a
theorem det_chk {b : Bool} {F : κ → Prop} (h : Det R F) : Det R (fun K => chk b (F K)) := by
  cases b with
  | false => exact det_false
  | true => exact h
theorem det_cond {b : Bool} {F G : κ → Prop} (h : Det R F) (g : Det R G) : Det R (fun K => cond b (F K) (G K)) := by
  cases b with
  | false => exact g
  | true => exact h
theorem det_elim {α : Type} {o : Option α} {G : κ → Prop} {F : α → κ → Prop} (g : Det R G) (h : ∀ a, Det R (F a)) : Det R (fun K => o.elim (G K) fun a => F a K) := by
  cases o with
  | none => exact g
  | some a => exact h a
theorem det_branch {b : Bool} {F G : κ → Prop} (h : Det R F) (g : Det R G) : Det R (fun K => branch b (F K) (G K)) := det_cond h g
theorem det_opt {α : Type} {o : Option α} {G : κ → Prop} {F : α → κ → Prop} (g : Det R G) (h : ∀ a, Det R (F a)) : Det R (fun K => optK o (G K) fun a => F a K) := det_elim g h
theorem det_boolK {v : Value} {F : Bool → κ → Prop} (h : ∀ a, Det R (F a)) : Det R (fun K => boolK v fun a => F a K) := by
  unfold boolK; cases v <;> first | exact h _ | exact det_false
theorem det_intK {v : Value} {F : IntKind → Int → κ → Prop} (h : ∀ k a, Det R (F k a)) : Det R (fun K => intK v fun k a => F k a K) := by
  unfold intK; cases v <;> first | exact h _ _ | exact det_false
theorem det_strK {v : Value} {F : ByteArray → κ → Prop} (h : ∀ a, Det R (F a)) : Det R (fun K => strK v fun a => F a K) := by
  unfold strK; cases v <;> first | exact h _ | exact det_false
theorem det_addrK {v : Value} {F : Addr → κ → Prop} (h : ∀ a, Det R (F a)) : Det R (fun K => addrK v fun a => F a K) := by
  unfold addrK; cases v <;> first | exact det_get h | exact det_false
theorem det_sliceK {v : Value} {F : Sl → κ → Prop} (h : ∀ a, Det R (F a)) : Det R (fun K => sliceK v fun a => F a K) := by
  unfold sliceK; cases v <;> first | exact h _ | exact det_false
theorem det_aggK {v : Value} {F : List Value → κ → Prop} (h : ∀ a, Det R (F a)) : Det R (fun K => aggK v fun a => F a K) := by
  unfold aggK; cases v <;> first | exact h _ | exact det_false
theorem det_mapK {v : Value} {F : Nat → κ → Prop} (h : ∀ a, Det R (F a)) : Det R (fun K => mapK v fun a => F a K) := by
  unfold mapK; cases v <;> first | exact det_get h | exact det_false
theorem det_view {l : LK} {v : Option Value} {F : Value → κ → Prop} (h : ∀ a, Det R (F a)) : Det R (fun K => l.view v fun a => F a K) := by
  unfold LK.view
  cases l <;> exact det_get fun _ => h _
theorem det_views {F : List Value → κ → Prop} (h : ∀ a, Det R (F a)) : ∀ {ls : List LK} {vs : List (Option Value)} {acc : List Value}, Det R (fun K => views ls vs acc fun a => F a K)
  | [], [], _ => h _
  | [], _ :: _, _ => det_false
  | _ :: _, [], _ => det_false
  | l :: ls, v :: vs, acc => by
    simp only [views]
    exact det_view fun x => det_views h
theorem det_loadK {P : Program} {h : Heap} {t : TypeId} {a : Addr} {F : Value → κ → Prop} (hF : ∀ a, Det R (F a)) : Det R (fun K => loadK P h t a fun a => F a K) := by
  unfold loadK
  cases P.underlying t with
  | none => exact det_false
  | some d =>
    exact det_cond (det_get fun n => det_cond (det_get fun ls => det_cond (det_views fun l => hF _) det_false) (det_get fun l => hF _)) (det_view hF)
theorem det_partK {P : Program} {t : TypeId} {cs : List Value} {off : Nat} {F : Value → κ → Prop} (hF : ∀ a, Det R (F a)) : Det R (fun K => partK P t cs off fun a => F a K) := by
  unfold partK
  cases P.underlying t with
  | none => exact det_false
  | some d => exact det_cond (det_get fun n => det_cond (hF _) det_false) (det_view hF)
theorem det_fieldV {P : Program} {t : TypeId} {x : Value} {i : Nat} {F : Value → κ → Prop} (hF : ∀ a, Det R (F a)) : Det R (fun K => fieldV P t x i fun a => F a K) := by
  unfold fieldV
  cases hd : P.underlying t with
  | none => exact det_false
  | some d => cases d <;> first | exact det_false | exact det_get fun _ => det_aggK fun _ => det_partK hF
theorem det_indexV {P : Program} {t : TypeId} {x : Value} {i : Int} {F : Value → κ → Prop} (hF : ∀ a, Det R (F a)) : Det R (fun K => indexV P t x i fun a => F a K) := by
  unfold indexV
  cases hd : P.underlying t with
  | none => exact det_false
  | some d => cases d <;> first
    | exact det_false
    | exact det_aggK fun _ => det_get fun _ => det_chk (det_partK hF)
    | exact det_strK fun _ => det_chk (hF _)
theorem det_fieldK {P : Program} {t : TypeId} {a : Addr} {i : Nat} {F : Addr → κ → Prop} (hF : ∀ a, Det R (F a)) : Det R (fun K => fieldK P t a i fun a => F a K) := by
  unfold fieldK
  cases hd : P.underlying t with
  | none => exact det_false
  | some d => cases d <;> first | exact det_false | exact det_get fun _ => det_get fun _ => det_cond det_false (hF _)
theorem det_indexK {P : Program} {t : TypeId} {x : Value} {i : Int} {F : Addr → κ → Prop} (hF : ∀ a, Det R (F a)) : Det R (fun K => indexK P t x i fun a => F a K) := by
  unfold indexK
  cases hd : P.underlying t with
  | none => exact det_false
  | some d => cases d <;> first
    | exact det_false
    | exact det_addrK fun _ => det_get fun _ => det_chk (hF _)
    | exact det_sliceK fun _ => det_get fun _ => det_get fun _ => det_chk (hF _)
theorem det_optI {f : Fr} {x : Option Operand} {d : Int} {F : Int → κ → Prop} (hF : ∀ a, Det R (F a)) : Det R (fun K => optI f x d fun a => F a K) := by
  cases x with
  | none => exact hF _
  | some x => exact det_get fun _ => det_intK fun _ _ => hF _
theorem det_resliceK {P : Program} {f : Fr} {t : TypeId} {x : Value} {lo hi mx : Option Operand} {F : Value → κ → Prop} (hF : ∀ a, Det R (F a)) : Det R (fun K => resliceK P f t x lo hi mx fun a => F a K) := by
  unfold resliceK
  cases hd : P.underlying t with
  | none => exact det_false
  | some d => cases d <;> first
    | exact det_false
    | (cases mx <;> first
        | exact det_strK fun _ => det_optI fun _ => det_optI fun _ => det_chk (hF _)
        | exact det_strK fun _ => det_false)
    | (cases mx <;> first
        | exact det_sliceK fun _ => det_get fun _ => det_optI fun _ => det_optI fun _ => det_chk (hF _)
        | exact det_sliceK fun _ => det_get fun _ => det_cond (det_get fun _ => det_intK fun _ _ => det_optI fun _ => det_optI fun _ => det_chk (hF _)) det_false)
    | (cases mx <;> first
        | exact det_addrK fun _ => det_get fun _ => det_optI fun _ => det_optI fun _ => det_chk (hF _)
        | exact det_addrK fun _ => det_get fun _ => det_false)
theorem det_lookK {P : Program} {E : List TypeId} {h : Heap} {t : TypeId} {m : Nat} {k : Value} {ok : Bool} {F : Value → κ → Prop} (hF : ∀ a, Det R (F a)) : Det R (fun K => lookK P E h t m k ok fun a => F a K) := by
  unfold lookK
  cases hd : P.underlying t with
  | none => exact det_false
  | some d => cases d <;> first | exact det_false | exact det_cond (det_get fun _ => det_get fun _ => det_get fun _ => det_view fun _ => hF _) det_false
theorem det_convK {P : Program} {h : Heap} {s d : TypeId} {x : Value} {F : Value → κ → Prop} (hF : ∀ a, Det R (F a)) : Det R (fun K => convK P h s d x fun a => F a K) := by
  unfold convK
  split
  · exact hF _
  · exact hF _
  · split
    · exact det_opt (hF _) fun _ => det_get fun _ => det_get fun _ => hF _
    · exact det_false
  · exact det_false
theorem det_unK {op : UnOp} {x : Value} {F : Value → κ → Prop} (hF : ∀ a, Det R (F a)) : Det R (fun K => unK op x fun a => F a K) := by
  unfold unK
  split <;> first | exact hF _ | exact det_false
theorem det_binI {op : BinOp} {k : IntKind} {a b : Int} {F : Value → κ → Prop} (hF : ∀ a, Det R (F a)) : Det R (fun K => binI op k a b fun a => F a K) := by
  cases op <;> first | exact hF _ | exact det_chk (hF _) | exact det_false
theorem det_binS {op : BinOp} {a b : ByteArray} {F : Value → κ → Prop} (hF : ∀ a, Det R (F a)) : Det R (fun K => binS op a b fun a => F a K) := by
  cases op <;> first | exact hF _ | exact det_chk (hF _) | exact det_false
theorem det_shiftK {op : BinOp} {k : IntKind} {a b : Int} {F : Value → κ → Prop} (hF : ∀ a, Det R (F a)) : Det R (fun K => shiftK op k a b fun a => F a K) := by
  cases op <;> first | exact det_chk (hF _) | exact det_false
theorem det_binK {P : Program} {E : List TypeId} {op : BinOp} {t : TypeId} {x y : Value} {F : Value → κ → Prop} (hF : ∀ a, Det R (F a)) : Det R (fun K => binK P E op t x y fun a => F a K) := by
  unfold binK
  split <;> first
    | exact det_shiftK hF
    | exact det_cond (det_binI hF) det_false
    | exact det_binS hF
    | exact det_get fun _ => hF _
    | exact det_false
end

theorem opV_det {P : Program} {E : List TypeId} {f : Fr} {h : Heap} {o : Op} (hR : isR o = true) : Det (fun v (K : Value → Heap → Prop) => K v h) (opV P E f h o) := by
  have leaf : ∀ v : Value, Det (fun v (K : Value → Heap → Prop) => K v h) (fun K => K v h) := fun v => det_leaf v
  unfold opV
  cases o <;> first | (cases hR; done) | skip
  case move x => exact det_get leaf
  case pick c x y => exact det_get fun _ => det_boolK fun _ => det_branch (det_get leaf) (det_get leaf)
  case build t ps => exact det_get fun _ => det_get fun _ => leaf _
  case load t x => exact det_get fun _ => det_addrK fun _ => det_loadK leaf
  case nilCheck x =>
    refine det_get fun v => ?_
    split
    · exact det_get fun _ => leaf _
    · exact leaf _
    · exact leaf _
    · exact det_false
  case binOp op t x y s => exact det_get fun _ => det_get fun _ => det_binK leaf
  case unOp op t x => exact det_get fun _ => det_unK leaf
  case convert s d x => exact det_get fun _ => det_convK leaf
  case makeInterface t x =>
    simp only
    split
    · exact det_false
    · exact det_false
    · exact det_get fun _ => leaf _
  case makeFunc fn xs cs => exact det_chk (det_get fun _ => det_get fun _ => leaf _)
  case slice t x lo hi mx => exact det_get fun _ => det_resliceK leaf
  case fieldAddr t x i => exact det_get fun _ => det_addrK fun _ => det_fieldK fun _ => leaf _
  case field t x i => exact det_get fun _ => det_fieldV leaf
  case indexAddr t x i => exact det_get fun _ => det_get fun _ => det_intK fun _ _ => det_indexK fun _ => leaf _
  case index t x i => exact det_get fun _ => det_get fun _ => det_intK fun _ _ => det_indexV leaf
  case lookup t m k ok => exact det_get fun _ => det_mapK fun _ => det_get fun _ => det_lookK leaf
  case extract x i =>
    refine det_get fun v => ?_
    split
    · exact det_get leaf
    · exact det_false
  case call c =>
    obtain ⟨callee, args, tys⟩ := c
    cases callee with
    | value v => cases hR
    | invoke r m => cases hR
    | builtin b =>
      refine det_get fun l => ?_
      unfold bltK
      cases b <;> first | (cases hR; done) | skip
      all_goals
        split <;> first
          | contradiction
          | exact det_false
          | exact det_intK fun _ _ => det_intK fun _ _ => leaf _
          | (split <;> first
              | exact det_false
              | exact leaf _
              | exact det_strK fun _ => leaf _
              | exact det_sliceK fun _ => leaf _
              | exact det_mapK fun _ => det_get fun _ => leaf _)

/-! more of the heap -/
def Heap.sub (h h' : Heap) : Prop := ∀ β x, h.get β = some x → h'.get β = some x
section
variable {P : Program} {E : List TypeId} {h h' : Heap}
theorem Heap.sub_refl (h : Heap) : h.sub h := fun _ _ e => e
theorem Heap.sub_trans {a b c : Heap} (h : a.sub b) (g : b.sub c) : a.sub c := fun β x e => g β x (h β x e)
theorem Heap.sub_blk (s : h.sub h') {b : Nat} {c : List Value} (e : h.blk b = some c) : h'.blk b = some c := by
  obtain ⟨ro, e⟩ := Heap.blk_some e
  unfold Heap.blk; rw [s _ _ e]
theorem Heap.sub_rd (s : h.sub h') {a : Addr} {v : Value} (e : h.rd a = some v) : h'.rd a = some v := by
  simp only [Heap.rd, Option.bind_eq_some_iff] at e ⊢
  obtain ⟨c, h1, h2⟩ := e
  exact ⟨c, Heap.sub_blk s h1, h2⟩
theorem Heap.sub_rdN (s : h.sub h') {a : Addr} {n : Nat} {v : List Value} (e : h.rdN a n = some v) : h'.rdN a n = some v := by
  simp only [Heap.rdN, Option.bind_eq_some_iff] at e ⊢
  obtain ⟨c, h1, h2⟩ := e
  exact ⟨c, Heap.sub_blk s h1, h2⟩
theorem Heap.sub_mp (s : h.sub h') {m : Nat} {es : List (Value × Value)} (e : h.mp m = some es) : h'.mp m = some es := by
  unfold Heap.mp at e ⊢
  split at e
  · rename_i es' hg; cases e; rw [s _ _ hg]
  · cases e
theorem rds_sub (s : h.sub h') {b : Nat} : ∀ {n o : Nat} {l : List Value}, rds h b o n = l.map some → rds h' b o n = l.map some
  | 0, o, l, e => e
  | n + 1, o, l, e => by
    cases l with
    | nil => simp [rds] at e
    | cons x l =>
      simp only [rds, List.map_cons, List.cons.injEq] at e ⊢
      exact ⟨Heap.sub_rd s e.1, rds_sub s e.2⟩
theorem view_sub {l : LK} {u v : Option Value} {K : Value → Prop} (e : ∀ x, u = some x → v = some x) (H : l.view u K) : l.view v K := by
  obtain ⟨x, rfl, _⟩ := LK.view_spec H
  rw [e x rfl]; exact H
theorem loadK_sub (s : h.sub h') {t : TypeId} {a : Addr} {K : Value → Prop} (H : loadK P h t a K) : loadK P h' t a K := by
  unfold loadK at H ⊢
  cases hd : P.underlying t with
  | none => rw [hd] at H; exact H.elim
  | some d =>
    rw [hd] at H
    simp only at H ⊢
    cases hg : isAggD d with
    | false => rw [hg] at H; exact view_sub (fun x e => Heap.sub_rd s e) H
    | true =>
      rw [hg] at H
      simp only [cond_true, get_iff] at H ⊢
      obtain ⟨n, hn, H⟩ := H
      refine ⟨n, hn, ?_⟩
      cases hb : Nat.ble n 8 with
      | false =>
        rw [hb] at H
        simp only [cond_false, get_iff] at H ⊢
        obtain ⟨l, hl, H⟩ := H
        exact ⟨l, Heap.sub_rdN s hl, H⟩
      | true =>
        rw [hb] at H
        simp only [cond_true, get_iff] at H ⊢
        obtain ⟨ls, hls, H⟩ := H
        refine ⟨ls, hls, ?_⟩
        cases hq : Nat.beq ls.length n with
        | false => rw [hq] at H; exact H.elim
        | true =>
          rw [hq] at H
          simp only [cond_true] at H ⊢
          obtain ⟨l, hl, _⟩ := views_spec H
          rw [rds_sub s hl, ← hl]; exact H

theorem len_sub (s : h.sub h') {tys : List TypeId} {l : List Value} {Q : Value → Prop} (H : bltK P .len tys l h (fun v _ => Q v)) : bltK P .len tys l h' (fun v _ => Q v) := by
  cases tys with
  | nil => exact H
  | cons t ts =>
    rcases l with _ | ⟨x, _ | ⟨y, l⟩⟩
    · exact H
    · unfold bltK at H ⊢
      simp only at H ⊢
      cases hd : P.underlying t with
      | none => rw [hd] at H; exact H
      | some d =>
        rw [hd] at H
        cases d <;> first | exact H | skip
        replace H := mapK_inv H; obtain ⟨mm, rfl, H⟩ := H
        simp only [get_iff] at H
        obtain ⟨es, hes, H⟩ := H
        show get (h'.mp mm) _
        exact (get_iff _ _).2 ⟨es, Heap.sub_mp s hes, H⟩
    · exact H
theorem blt_same {b : Builtin} (hb : b = .cap ∨ b = .min ∨ b = .max) {tys : List TypeId} {l : List Value} {Q : Value → Prop} (H : bltK P b tys l h (fun v _ => Q v)) : bltK P b tys l h' (fun v _ => Q v) := by
  rcases hb with rfl | rfl | rfl
  all_goals
    rcases tys with _ | ⟨t, _ | ⟨t2, _ | ⟨t3, tys⟩⟩⟩ <;> rcases l with _ | ⟨x, _ | ⟨y, _ | ⟨z, l⟩⟩⟩ <;> exact H
theorem opV_sub (s : h.sub h') {f : Fr} {o : Op} (hR : isR o = true) {Q : Value → Prop} (H : opV P E f h o (fun v _ => Q v)) : opV P E f h' o (fun v _ => Q v) := by
  unfold opV at H ⊢
  cases o <;> first | (cases hR; done) | exact H | skip
  case load t x =>
    obtain ⟨v, hv, H⟩ := (get_iff _ _).1 H
    replace H := addrK_inv H; obtain ⟨b, rfl, H⟩ := H
    exact (get_iff _ _).2 ⟨_, hv, loadK_sub s H⟩
  case convert sx d x =>
    obtain ⟨v, hv, H⟩ := (get_iff _ _).1 H
    refine (get_iff _ _).2 ⟨_, hv, ?_⟩
    unfold convK at H ⊢
    split at H
    · rename_i h1 h2; simp only [h1, h2]; exact H
    · rename_i h1 h2; simp only [h1, h2]; exact H
    · rename_i e a len _ h1 h2
      simp only [h1, h2]
      split at H
      · cases a with
        | none => exact H
        | some a =>
          simp only [optK, Option.elim, get_iff] at H ⊢
          obtain ⟨l, hl, H⟩ := H
          exact ⟨l, Heap.sub_rdN s hl, H⟩
      · exact H.elim
    · exact H.elim
  case lookup t m k ok =>
    obtain ⟨v, hv, H⟩ := (get_iff _ _).1 H
    replace H := mapK_inv H; obtain ⟨mm, rfl, H⟩ := H
    obtain ⟨vk, hvk, H⟩ := (get_iff _ _).1 H
    refine (get_iff _ _).2 ⟨_, hv, ?_⟩
    show get (f.ev k) _
    refine (get_iff _ _).2 ⟨_, hvk, ?_⟩
    unfold lookK at H ⊢
    split at H
    · simp only at H ⊢
      cases hk : keyOK P E _ vk with
      | false => rw [hk] at H; exact H.elim
      | true =>
        rw [hk] at H
        simp only [cond_true, get_iff] at H ⊢
        obtain ⟨es, hes, H⟩ := H
        exact ⟨es, Heap.sub_mp s hes, H⟩
    · exact H.elim
  case call c =>
    obtain ⟨callee, args, tys⟩ := c
    cases callee with
    | value v => cases hR
    | invoke r m => cases hR
    | builtin b =>
      obtain ⟨l, hl, H⟩ := (get_iff _ _).1 H
      refine (get_iff _ _).2 ⟨_, hl, ?_⟩
      cases b <;> first | (cases hR; done) | exact len_sub s H | skip
      all_goals exact blt_same (by simp) H
end

/-- Something new, by itself. -/
theorem opV_alc {P : Program} {E : List TypeId} {f : Fr} {h : Heap} {o : Oper} (hA : isA o.op = true) {K : Value → Heap → Prop} (H : opV P E f h o.op K) :
    ∃ obj mk, obj.loose = false ∧ K (mk h.next) (h.new obj) ∧ ∀ (ι : Inj) (a : Act) (w : World), FR ι f a.tmps → ∃ s, Alc P s ι w obj mk ∧ execOp a.eval o = (do pure (.value (← s))) := by
  obtain ⟨dst, op, ty, pos, after, guard⟩ := o
  simp only at hA H
  unfold opV at H
  cases op <;> first | (cases hA; done) | skip
  case alloc t =>
    obtain ⟨z, hz, hK⟩ := (get_iff _ _).1 H
    exact ⟨_, _, rfl, hK, fun ι a w hf => ⟨_, alloc_alc ι w hz, rfl⟩⟩
  case box t x =>
    obtain ⟨v, hv, H⟩ := (get_iff _ _).1 H
    obtain ⟨h1, hK⟩ := (chk_iff _ _).1 H
    exact ⟨_, _, rfl, hK, fun ι a w hf => ⟨_, box_alc w (hf.ev hv) h1, rfl⟩⟩
  case buildSlice t n ps =>
    simp only at H
    split at H
    · rename_i e hd
      simp only [get_iff, chk_iff] at H
      obtain ⟨l, hl, cs, hcs, ho, hK⟩ := H
      refine ⟨_, _, rfl, hK, fun ι a w hf => ⟨_, buildSlice_alc w hd (hf.parts hl) hcs ho, ?_⟩⟩
      have he : (ps.map fun (p : Nat × Operand) => (p.1, a.eval p.2)) = (ps.toList.map fun p => (p.1, a.eval p.2)).toArray := by
        apply Array.ext'; simp
      rw [← he]; rfl
    · exact H.elim
  case makeMap t r =>
    cases r with
    | some x => cases hA
    | none => exact ⟨_, _, rfl, H, fun ι a w hf => ⟨_, makeMap_alc ι w t, rfl⟩⟩
  case makeSlice t l c =>
    simp only at H
    split at H
    · rename_i e hd
      obtain ⟨vl, hvl, H⟩ := (get_iff _ _).1 H
      replace H := intK_inv H; obtain ⟨kl, nl, rfl, H⟩ := H
      obtain ⟨vc, hvc, H⟩ := (get_iff _ _).1 H
      replace H := intK_inv H
      obtain ⟨kc, nc, rfl, H⟩ := H
      simp only [get_iff, chk_iff] at H
      obtain ⟨by_, hby, k, hk, z, hz, hc, hK⟩ := H
      refine ⟨_, fun n => .slice (some ⟨n, 0, some 0⟩) nl.toNat nc.toNat, rfl, hK, fun ι a w hf => ⟨_, makeSlice_alc ι w hd hby hk hz hc (kl := kl) (kc := kc), ?_⟩⟩
      unfold execOp
      simp only
      rw [(hf.ev hvl).int_inv, (hf.ev hvc).int_inv]
    · exact H.elim
  case range t x =>
    simp only at H
    split at H
    · rename_i hd
      obtain ⟨v, hv, H⟩ := (get_iff _ _).1 H
      replace H := strK_inv H; obtain ⟨s, rfl, hK⟩ := H
      refine ⟨_, _, rfl, hK, fun ι a w hf => ⟨_, range_alc ι w hd, ?_⟩⟩
      unfold execOp
      simp only
      rw [(hf.ev hv).str_inv]
    · exact H.elim
end Go.AM
