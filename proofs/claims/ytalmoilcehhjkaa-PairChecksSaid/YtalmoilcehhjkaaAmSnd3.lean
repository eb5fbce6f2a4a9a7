/- The abstract machine's operations are sound: operators, addresses, slices. -/
import Derived.Test.YtalmoilcehhjkaaAmSnd2
set_option linter.unusedVariables false
set_option linter.unusedSimpArgs false
namespace Go.AM

/-- What the program's aggregates that are compared must meet. -/
structure EqOK (P : Program) (E : List TypeId) : Prop where
  eq : ∀ t ls xs ys b, E.elem t = true → leaves P 8 t = some ls → eqL ls xs ys = some b → ∀ w : World, (Op.equal t (.agg xs.toArray) (.agg ys.toArray)).run P w = .ok b w
  guard : ∀ t, E.elem t = true → P.eqGuardType P.depth t = false
  key : ∀ t ls xs b, E.elem t = true → leaves P 8 t = some ls → eqL ls xs xs = some b → ∀ (e : Bool) (w : World), (Instr.checkKey e 10000 t (.agg xs.toArray)).run P w = .ok () w

section
variable {P : Program} {E : List TypeId} {ι : Inj} {w0 : Base} {w : World} {h : Heap} {f : Fr} {a : Act}

theorem eqL_plain : ∀ {ls : List LK} {xs ys : List Value} {b : Bool} {xs' ys' : List Value}, eqL ls xs ys = some b → VL ι xs xs' → VL ι ys ys' → xs' = xs ∧ ys' = ys
  | [], xs, ys, b, xs', ys', e, hx, hy => by
    cases xs <;> cases ys <;> simp [eqL] at e
    exact ⟨hx.nil_inv, hy.nil_inv⟩
  | l :: ls, xs, ys, b, xs', ys', e, hx, hy => by
    cases xs with
    | nil => cases l <;> simp [eqL] at e
    | cons x xs =>
      cases ys with
      | nil => cases l <;> simp [eqL] at e
      | cons y ys =>
        obtain ⟨x', xs'', rfl, hx1, hx2⟩ := hx.cons_inv
        obtain ⟨y', ys'', rfl, hy1, hy2⟩ := hy.cons_inv
        cases l <;> cases x <;> cases y <;> simp only [eqL, Option.map_eq_some_iff, reduceCtorEq] at e
        · rename_i k i a j b'
          cases hc : (kEq i k && kEq j k) with
          | false => rw [hc] at e; simp at e
          | true =>
            rw [hc] at e
            simp only [cond_true, Option.map_eq_some_iff] at e
            obtain ⟨r, hr, _⟩ := e
            obtain ⟨h1, h2⟩ := eqL_plain hr hx2 hy2
            rw [hx1.int_inv, hy1.int_inv, h1, h2]; exact ⟨rfl, rfl⟩
        · obtain ⟨r, hr, _⟩ := e
          obtain ⟨h1, h2⟩ := eqL_plain hr hx2 hy2
          rw [hx1.bool_inv, hy1.bool_inv, h1, h2]; exact ⟨rfl, rfl⟩
        · obtain ⟨r, hr, _⟩ := e
          obtain ⟨h1, h2⟩ := eqL_plain hr hx2 hy2
          rw [hx1.str_inv, hy1.str_inv, h1, h2]; exact ⟨rfl, rfl⟩

theorem agg_list {xs : Array Value} : Value.agg xs = .agg xs.toList.toArray := by simp

theorem V.ptr_none {a : Option Addr} {v : Value} (h : V ι (.pointer a) v) : ∃ a', v = .pointer a' ∧ a'.isNone = a.isNone := by cases h <;> exact ⟨_, rfl, rfl⟩
theorem V.slice_none {a : Option Addr} {l c : Nat} {v : Value} (h : V ι (.slice a l c) v) : ∃ a' c', v = .slice a' l c' ∧ a'.isNone = a.isNone := by cases h <;> exact ⟨_, _, rfl, rfl⟩

theorem equalIn_nil_right (d : Nat) {t el : TypeId} (hd : P.underlying t = some (.pointer el)) (a : Option Addr) (w : World) : (Op.equalIn (d + 1) t (.pointer a) (.pointer none)).run P w = .ok a.isNone w := by
  cases a <;> simp [Op.equalIn, run_underlying hd]
theorem equalIn_nil_left (d : Nat) {t el : TypeId} (hd : P.underlying t = some (.pointer el)) (a : Option Addr) (w : World) : (Op.equalIn (d + 1) t (.pointer none) (.pointer a)).run P w = .ok a.isNone w := by
  cases a <;> simp [Op.equalIn, run_underlying hd]
theorem equalIn_nil_slice (d : Nat) {t el : TypeId} (hd : P.underlying t = some (.slice el)) (a : Option Addr) (l c l2 c2 : Nat) (w : World) : (Op.equalIn (d + 1) t (.slice a l c) (.slice none l2 c2)).run P w = .ok a.isNone w := by
  cases a <;> simp [Op.equalIn, run_underlying hd]
/-- Equality: the model's answer, and its guard. -/
theorem eqK_sound (hE : EqOK P E) {t : TypeId} {x y x' y' : Value} {r : Bool} (hx : V ι x x') (hy : V ι y y') (e : eqK P E t x y = some r) :
    (∀ w : World, (Op.equal t x' y').run P w = .ok r w) ∧ (∀ (op : BinOp) (u v : Operand) (w : World), (eqGuard op t u v x' y').run P w = .ok () w) := by
  have agg : ∀ (xs ys : Array Value), x = .agg xs → y = .agg ys → cond (E.elem t) ((leaves P 8 t).bind fun ls => eqL ls xs.toList ys.toList) none = some r →
      (∀ w : World, (Op.equal t x' y').run P w = .ok r w) ∧ (∀ (op : BinOp) (u v : Operand) (w : World), (eqGuard op t u v x' y').run P w = .ok () w) := by
    rintro xs ys rfl rfl e
    cases hel : E.elem t with
    | false => rw [hel] at e; cases e
    | true =>
      rw [hel] at e
      simp only [cond_true, Option.bind_eq_some_iff] at e
      obtain ⟨ls, hls, e⟩ := e
      obtain ⟨xs', rfl, hx'⟩ := hx.agg_inv
      obtain ⟨ys', rfl, hy'⟩ := hy.agg_inv
      obtain ⟨h1, h2⟩ := eqL_plain e hx' hy'
      have h1' : xs' = xs := by apply Array.ext'; exact h1
      have h2' : ys' = ys := by apply Array.ext'; exact h2
      subst h1'; subst h2'
      refine ⟨fun w => ?_, fun op u v w => run_eqGuard_agg w op t u v _ _ (hE.guard t hel)⟩
      have := hE.eq t ls _ _ r hel hls e w
      simpa using this
  unfold eqK at e
  split at e
  · rename_i j i a k b hd
    cases hc : kEq i k with
    | false => rw [hc] at e; cases e
    | true =>
      rw [hc] at e
      simp only [cond_true, Option.some.injEq] at e
      subst e
      rw [hx.int_inv, hy.int_inv, kEq_eq hc]
      exact ⟨fun w => run_equalIn_int w 9999 _ _ _ _ _ hd, fun op u v w => by cases op <;> simp [eqGuard]⟩
  · rename_i a b hd
    simp only [Option.some.injEq] at e
    subst e
    rw [hx.str_inv, hy.str_inv]
    exact ⟨fun w => run_equalIn_string w 9999 _ _ _ hd, fun op u v w => by cases op <;> simp [eqGuard]⟩
  · rename_i a b hd
    simp only [Option.some.injEq] at e
    subst e
    rw [hx.bool_inv, hy.bool_inv]
    exact ⟨fun w => run_equalIn_bool' w 9999 _ _ _ hd, fun op u v w => by cases op <;> simp [eqGuard]⟩
  · rename_i el a hd
    simp only [Option.some.injEq] at e
    subst e
    obtain ⟨a', rfl, ha⟩ := hx.ptr_none
    have : y' = .pointer none := by cases hy; rfl
    subst this
    refine ⟨fun w => ?_, fun op u v w => by cases op <;> simp [eqGuard]⟩
    rw [← ha]; exact equalIn_nil_right 9999 hd a' w
  · rename_i el a hd
    simp only [Option.some.injEq] at e
    subst e
    obtain ⟨a', rfl, ha⟩ := hy.ptr_none
    have : x' = .pointer none := by cases hx; rfl
    subst this
    refine ⟨fun w => ?_, fun op u v w => by cases op <;> simp [eqGuard]⟩
    rw [← ha]; exact equalIn_nil_left 9999 hd a' w
  · rename_i el a l c l2 c2 hd
    simp only [Option.some.injEq] at e
    subst e
    obtain ⟨a', c', rfl, ha⟩ := hx.slice_none
    obtain ⟨b', c3, rfl, hb⟩ := hy.slice_none
    have : b' = none := by cases b' <;> simp at hb; rfl
    subst this
    refine ⟨fun w => ?_, fun op u v w => by cases op <;> simp [eqGuard]⟩
    rw [← ha]; exact equalIn_nil_slice 9999 hd a' _ _ _ _ w
  · exact agg _ _ rfl rfl e
  · exact agg _ _ rfl rfl e
  · cases e

theorem guard_int (op : BinOp) (t : TypeId) (x y : Operand) (j k : IntKind) (a b : Int) : (eqGuard op t x y (.int j a) (.int k b)).run P w = .ok () w := by cases op <;> simp [eqGuard]
theorem guard_str (op : BinOp) (t : TypeId) (x y : Operand) (a b : ByteArray) : (eqGuard op t x y (.string a) (.string b)).run P w = .ok () w := by cases op <;> simp [eqGuard]

theorem binI_sound {op : BinOp} {k : IntKind} {a b : Int} {K : Value → Prop} (h1 : op ≠ .shl) (h2 : op ≠ .shr) (H : binI op k a b K) (t : TypeId) : ∃ v, (binOp op t (.int k a) (.int k b)).run P w = .ok v w ∧ V ι v v ∧ K v := by
  have hbin : binOp op t (.int k a) (.int k b) = (match op with
      | .add | .sub | .mul => Op.intArith op k a b
      | .quo | .rem => Op.intDiv op k a b
      | .and | .or | .xor | .andNot => Op.intBits op k a b
      | _ => Op.intCmp op a b) := by
    cases op <;> first | (exact absurd rfl h1) | (exact absurd rfl h2) | simp [binOp]
  rw [hbin]
  cases op <;> simp only [binI] at H
  case add => exact ⟨_, rfl, .int _ _, H⟩
  case sub => exact ⟨_, rfl, .int _ _, H⟩
  case mul => exact ⟨_, rfl, .int _ _, H⟩
  case quo =>
    obtain ⟨hb, H⟩ := (chk_iff _ _).1 H
    have : b ≠ 0 := by simpa using hb
    exact ⟨_, by simp [Op.intDiv, this], .int _ _, H⟩
  case rem =>
    obtain ⟨hb, H⟩ := (chk_iff _ _).1 H
    have : b ≠ 0 := by simpa using hb
    exact ⟨_, by simp [Op.intDiv, this], .int _ _, H⟩
  case and => exact ⟨_, rfl, .int _ _, H⟩
  case or => exact ⟨_, rfl, .int _ _, H⟩
  case xor => exact ⟨_, rfl, .int _ _, H⟩
  case andNot => exact ⟨_, rfl, .int _ _, H⟩
  all_goals exact ⟨_, rfl, .bool _, H⟩

theorem binS_sound {op : BinOp} {a b : ByteArray} {K : Value → Prop} (H : binS op a b K) (t : TypeId) : ∃ v, (binOp op t (.string a) (.string b)).run P w = .ok v w ∧ V ι v v ∧ K v := by
  have hbin : op ≠ .shl → op ≠ .shr → binOp op t (.string a) (.string b) = Op.stringOp op a b := by
    intro h1 h2
    cases op <;> first | (exact absurd rfl h1) | (exact absurd rfl h2) | simp [binOp]
  cases op <;> simp only [binS] at H <;> rw [hbin (by simp) (by simp)]
  case add =>
    obtain ⟨hb, H⟩ := (chk_iff _ _).1 H
    simp only [decide_eq_true_eq] at hb
    refine ⟨_, ?_, .str _, H⟩
    simp only [Op.stringOp]
    rw [if_neg]
    · rfl
    · simp [IntKind.max, IntKind.signed, IntKind.bits]; omega
  all_goals exact ⟨_, rfl, .bool _, H⟩

theorem shiftK_sound {op : BinOp} {k yk : IntKind} {a b : Int} {K : Value → Prop} (H : shiftK op k a b K) (t : TypeId) : ∃ v, (binOp op t (.int k a) (.int yk b)).run P w = .ok v w ∧ V ι v v ∧ K v := by
  cases op <;> simp only [shiftK] at H
  case shl =>
    obtain ⟨hb, H⟩ := (chk_iff _ _).1 H
    simp only [decide_eq_true_eq] at hb
    exact ⟨_, by simp [binOp, Op.shift, show ¬ b < 0 from by omega], .int _ _, H⟩
  case shr =>
    obtain ⟨hb, H⟩ := (chk_iff _ _).1 H
    simp only [decide_eq_true_eq] at hb
    exact ⟨_, by simp [binOp, Op.shift, show ¬ b < 0 from by omega], .int _ _, H⟩

theorem binK_sound (hE : EqOK P E) {op : BinOp} {t : TypeId} {x y x' y' : Value} {K : Value → Prop} (hx : V ι x x') (hy : V ι y y') (H : binK P E op t x y K) (u v : Operand) :
    ∃ r, (do eqGuard op t u v x' y'; binOp op t x' y' : Sem Value).run P w = .ok r w ∧ V ι r r ∧ K r := by
  unfold binK at H
  split at H
  · rename_i k a j b
    rw [hx.int_inv, hy.int_inv]
    obtain ⟨r, h1, h2, h3⟩ := shiftK_sound (P := P) (ι := ι) (w := w) (yk := j) H t
    exact ⟨r, by rw [Sem.run_bind, guard_int]; exact h1, h2, h3⟩
  · rename_i k a j b
    rw [hx.int_inv, hy.int_inv]
    obtain ⟨r, h1, h2, h3⟩ := shiftK_sound (P := P) (ι := ι) (w := w) (yk := j) H t
    exact ⟨r, by rw [Sem.run_bind, guard_int]; exact h1, h2, h3⟩
  · rename_i op j a k b h1 h2
    cases hc : kEq j k with
    | false => rw [hc] at H; exact H.elim
    | true =>
      rw [hc] at H
      simp only [cond_true] at H
      have := kEq_eq hc
      subst this
      rw [hx.int_inv, hy.int_inv]
      obtain ⟨r, h3, h4, h5⟩ := binI_sound (P := P) (ι := ι) (w := w) (fun e => by subst e; simp at h1) (fun e => by subst e; simp at h2) H t
      exact ⟨r, by rw [Sem.run_bind, guard_int]; exact h3, h4, h5⟩
  · rename_i op a b
    rw [hx.str_inv, hy.str_inv]
    obtain ⟨r, h3, h4, h5⟩ := binS_sound (P := P) (ι := ι) (w := w) H t
    exact ⟨r, by rw [Sem.run_bind, guard_str]; exact h3, h4, h5⟩
  · rename_i x y n1 n2 n3
    obtain ⟨r, hr, hK⟩ := (get_iff _ _).1 H
    obtain ⟨h1, h2⟩ := eqK_sound hE hx hy hr
    refine ⟨.bool r, ?_, .bool _, hK⟩
    rw [Sem.run_bind, h2, Result.andThen_ok]
    have : binOp .eql t x' y' = (do pure (.bool (← Op.equal t x' y'))) := by
      unfold eqK at hr
      split at hr
      · exact absurd rfl (n2 _ _ _ _ rfl)
      · exact absurd rfl (n3 _ _ rfl)
      all_goals first
        | (cases hr; done)
        | (cases hx <;> cases hy <;> rfl)
    rw [this]
    simp [h1]
  · rename_i x y n1 n2 n3
    obtain ⟨r, hr, hK⟩ := (get_iff _ _).1 H
    obtain ⟨h1, h2⟩ := eqK_sound hE hx hy hr
    refine ⟨.bool (!r), ?_, .bool _, hK⟩
    rw [Sem.run_bind, h2, Result.andThen_ok]
    have : binOp .neq t x' y' = (do pure (.bool (!(← Op.equal t x' y')))) := by
      unfold eqK at hr
      split at hr
      · exact absurd rfl (n2 _ _ _ _ rfl)
      · exact absurd rfl (n3 _ _ rfl)
      all_goals first
        | (cases hr; done)
        | (cases hx <;> cases hy <;> rfl)
    rw [this]
    simp [h1]
  · exact H.elim

theorem unK_sound {op : UnOp} {x x' : Value} {K : Value → Prop} (hx : V ι x x') (H : unK op x K) : ∃ r, (Op.unary op x').run P w = .ok r w ∧ V ι r r ∧ K r := by
  unfold unK at H
  split at H
  · rw [hx.int_inv]; exact ⟨_, rfl, .int _ _, H⟩
  · rw [hx.bool_inv]; exact ⟨_, rfl, .bool _, H⟩
  · exact H.elim
end
end Go.AM
