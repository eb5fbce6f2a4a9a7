/- The abstract machine's operations are sound: slices of slices, append, make, copy, clear. -/
import Derived.Test.YtalmoilcehhjkaaAmSnd4
set_option linter.unusedVariables false
set_option linter.unusedSimpArgs false
namespace Go.AM

section
variable {P : Program} {E : List TypeId} {ι : Inj} {w0 : Base} {w : World} {h : Heap} {f : Fr} {a : Act}

theorem V.ptr_inv2 {x : Addr} {v : Value} (h : V ι (.pointer (some x)) v) : ∃ b s, ι x.block = some (b, s) ∧ x.spot = none ∧ v = .pointer (some ⟨b, x.off + s.1, none⟩) := by
  cases h with
  | ptr hi ho => exact ⟨_, _, hi, rfl, by rw [ho]⟩
theorem cutSpot_zero {k : Nat} {sp : Option Nat} (e : cutSpot k sp = some 0) : sp = some 0 := by
  unfold cutSpot at e
  split at e
  · rfl
  · rename_i j
    cases hb : Nat.beq j k <;> rw [hb] at e <;> simp at e
  · cases e
theorem cutSpot_succ {k j : Nat} {sp : Option Nat} (e : cutSpot k sp = some (j + 1)) : sp = some (j + 1) ∧ k = j := by
  unfold cutSpot at e
  split at e
  · cases e
  · rename_i i
    cases hb : Nat.beq i k <;> rw [hb] at e <;> simp at e
    subst e; exact ⟨rfl, (Nat.eq_of_beq_eq_true hb).symm⟩
  · cases e
theorem within_spec {a b c : Int} (e : within a b c = true) : 0 ≤ a ∧ a ≤ b ∧ b ≤ c := by simpa [within, and_assoc] using e

/-- What an optional operand evaluates to, as the model takes it. -/
theorem run_bound {k : IntKind} {i : Int} {y : Nat} {c : BoundsCode} (h1 : 0 ≤ i) (h2 : i ≤ y) : (Instr.sliceBound (.int k i) y c).run P w = .ok i.toNat w := by
  simp [Instr.sliceBound, asIntOf, h1, h2]

theorem run_bounds2 {isS : Bool} {len cap : Nat} {lo hi : Option Value} {l r : Int} (hlo : (lo = none ∧ l = 0) ∨ ∃ k, lo = some (.int k l)) (hhi : (hi = none ∧ r = len) ∨ ∃ k, hi = some (.int k r))
    (h1 : 0 ≤ l) (h2 : l ≤ r) (h3 : r ≤ cap) : (Instr.sliceBounds isS len cap lo hi none).run P w = .ok (l.toNat, r.toNat, cap) w := by
  rcases hlo with ⟨rfl, rfl⟩ | ⟨k, rfl⟩ <;> rcases hhi with ⟨rfl, rfl⟩ | ⟨j, rfl⟩
  · simp [Instr.sliceBounds]
  · simp [Instr.sliceBounds, run_bound (P := P) (w := w) (k := j) (show 0 ≤ r by omega) h3]
  · simp [Instr.sliceBounds, run_bound (P := P) (w := w) (k := k) h1 h2]
  · simp [Instr.sliceBounds, run_bound (P := P) (w := w) (k := j) (show 0 ≤ r by omega) h3, run_bound (P := P) (w := w) (k := k) (y := r.toNat) h1 (by omega)]

theorem run_bounds3 {isS : Bool} {len cap : Nat} {lo : Option Value} {l r m : Int} {km kr : IntKind} (hlo : (lo = none ∧ l = 0) ∨ ∃ k, lo = some (.int k l))
    (h1 : 0 ≤ l) (h2 : l ≤ r) (h3 : r ≤ m) (h4 : m ≤ cap) : (Instr.sliceBounds isS len cap lo (some (.int kr r)) (some (.int km m))).run P w = .ok (l.toNat, r.toNat, m.toNat) w := by
  rcases hlo with ⟨rfl, rfl⟩ | ⟨k, rfl⟩
  · simp [Instr.sliceBounds, run_bound (P := P) (w := w) (k := km) (show 0 ≤ m by omega) h4, run_bound (P := P) (w := w) (k := kr) (y := m.toNat) (show 0 ≤ r by omega) (by omega)]
  · simp [Instr.sliceBounds, run_bound (P := P) (w := w) (k := km) (show 0 ≤ m by omega) h4, run_bound (P := P) (w := w) (k := kr) (y := m.toNat) (show 0 ≤ r by omega) (by omega), run_bound (P := P) (w := w) (k := k) (y := r.toNat) h1 (by omega)]

theorem optI_val (hf : FR ι f a.tmps) {x : Option Operand} {d : Int} {K : Int → Prop} (H : optI f x d K) : ∃ n, K n ∧ ((x.map a.eval = none ∧ n = d) ∨ ∃ k, x.map a.eval = some (.int k n)) := by
  obtain ⟨n, hK, h⟩ := optI_sound hf H
  refine ⟨n, hK, ?_⟩
  rcases h with ⟨rfl, rfl⟩ | ⟨y, k, rfl, e⟩
  · exact .inl ⟨rfl, rfl⟩
  · exact .inr ⟨k, by simp [e]⟩

theorem resliceK_sound (hf : FR ι f a.tmps) {t : TypeId} {x x' : Value} {lo hi mx : Option Operand} {K : Value → Prop} (hx : V ι x x') (H : resliceK P f t x lo hi mx K) :
    ∃ v v', (Instr.sliceAt t x' (lo.map a.eval) (hi.map a.eval) (mx.map a.eval)).run P w = .ok v' w ∧ V ι v v' ∧ K v := by
  unfold resliceK at H
  split at H
  · rename_i hd
    replace H := strK_inv H; obtain ⟨s, rfl, H⟩ := H
    cases mx with
    | some m => exact H.elim
    | none =>
      simp only at H
      obtain ⟨l, H, hl⟩ := optI_val hf H
      obtain ⟨r, H, hr⟩ := optI_val hf H
      obtain ⟨hc, hK⟩ := (chk_iff _ _).1 H
      obtain ⟨g1, g2, g3⟩ := within_spec hc
      rw [hx.str_inv]
      refine ⟨_, _, ?_, .str _, hK⟩
      simp [Instr.sliceAt, run_underlying hd, Instr.slice, run_bounds2 hl hr g1 g2 g3]
  · rename_i e hd
    replace H := sliceK_inv H; obtain ⟨s, rfl, H⟩ := H
    obtain ⟨k, hk, H⟩ := (get_iff _ _).1 H
    cases mx with
    | none =>
      simp only at H
      obtain ⟨l, H, hl⟩ := optI_val hf H
      obtain ⟨r, H, hr⟩ := optI_val hf H
      obtain ⟨hc, hK⟩ := (chk_iff _ _).1 H
      obtain ⟨g1, g2, g3⟩ := within_spec hc
      rcases hx.slice_inv with ⟨h1, h2, h3, rfl⟩ | ⟨β, b, t', o, sp, a', cap, h1, hi', hsp, hcap, hex, hlen, had, rfl⟩
      · have hl0 : l = 0 := by omega
        have hr0 : r = 0 := by omega
        subst hl0; subst hr0
        refine ⟨_, .slice none 0 0, ?_, ?_, hK⟩
        · rw [h2] at hr
          have hb := run_bounds2 (P := P) (w := w) (isS := true) (len := 0) (cap := 0) hl hr (by omega) (by omega) (by omega)
          simp [Instr.sliceAt, run_underlying hd, Instr.slice, hb, run_sizeT hk]
        · simp only [Sl.cut, h1, h3, Option.map_none]; exact .sliceNil
      · refine ⟨_, .slice (some (if cap = l.toNat then a' else a'.add (l.toNat * k))) (r.toNat - l.toNat) (cap - l.toNat), ?_, ?_, hK⟩
        · have hb := run_bounds2 (P := P) (w := w) (isS := true) (len := s.len) (cap := cap) hl hr g1 g2 (by omega)
          simp only [Instr.sliceAt, Sem.run_bind, run_underlying hd, Result.andThen_ok, Instr.slice, Option.map_none, hb, run_sizeT hk, Sem.run_pure]
          by_cases e1 : cap = l.toNat
          · rw [if_pos e1, if_pos e1]
          · rw [if_neg e1, if_neg e1]; rfl
        · simp only [Sl.cut, h1, Option.map_some]
          refine .slice hi' (by show s.cap - l.toNat ≤ _; omega) (fun e => by show _ = s.cap - l.toNat; rw [hex (cutSpot_zero e)]) (fun j e => ?_) (by show r.toNat - l.toNat ≤ s.cap - l.toNat; omega) ?_
          · obtain ⟨e1, rfl⟩ := cutSpot_succ e
            have := hsp _ e1
            rw [Nat.sub_mul]
            have hle : l.toNat * k ≤ cap * k := Nat.mul_le_mul_right _ (by omega)
            omega
          by_cases e1 : cap = l.toNat
          · exact .inl (by omega)
          · rw [if_neg e1]
            rcases had with had | had
            · exact .inl (by omega)
            · subst had; right; rw [add_zero']; congr 1; omega
    | some m =>
      cases hi with
      | none => exact H.elim
      | some hi =>
      simp only [Option.isSome_some, cond_true] at H
      obtain ⟨vm, hvm, H⟩ := (get_iff _ _).1 H
      replace H := intK_inv H; obtain ⟨km, m', rfl, H⟩ := H
      have hm := (hf.ev hvm).int_inv
      obtain ⟨l, H, hl⟩ := optI_val hf H
      obtain ⟨r, H, hr⟩ := optI_val hf H
      obtain ⟨hc, hK⟩ := (chk_iff _ _).1 H
      simp only [Bool.and_eq_true, decide_eq_true_eq] at hc
      obtain ⟨hc, g4⟩ := hc
      obtain ⟨g1, g2, g3⟩ := within_spec hc
      rcases hr with ⟨hr, _⟩ | ⟨kr, hr⟩
      · cases hr
      simp only [Option.map_some, Option.some.injEq] at hr
      rcases hx.slice_inv with ⟨h1, h2, h3, rfl⟩ | ⟨β, b, t', o, sp, a', cap, h1, hi', hsp, hcap, hex, hlen, had, rfl⟩
      · have hl0 : l = 0 := by omega
        have hr0 : r = 0 := by omega
        have hm0 : m' = 0 := by omega
        subst hl0; subst hr0; subst hm0
        refine ⟨_, .slice none 0 0, ?_, ?_, hK⟩
        · have hb := run_bounds3 (P := P) (w := w) (isS := true) (len := 0) (cap := 0) (km := km) (kr := kr) hl (by omega) (by omega) (by omega) (by omega)
          simp [Instr.sliceAt, run_underlying hd, Instr.slice, hm, hr, hb, run_sizeT hk]
        · simp only [Sl.cut3, h1, Option.map_none]; exact .sliceNil
      · refine ⟨_, .slice (some (if m' = l.toNat then a' else a'.add (l.toNat * k))) (r.toNat - l.toNat) (m'.toNat - l.toNat), ?_, ?_, hK⟩
        · have hb := run_bounds3 (P := P) (w := w) (isS := true) (len := s.len) (cap := cap) (km := km) (kr := kr) hl g1 g2 g3 (by omega)
          simp only [Instr.sliceAt, Sem.run_bind, run_underlying hd, Result.andThen_ok, Instr.slice, Option.map_some, hm, hr, hb, run_sizeT hk, Sem.run_pure]
          by_cases e1 : m'.toNat = l.toNat
          · rw [if_pos e1, if_pos (by omega)]
          · rw [if_neg e1, if_neg (by omega)]
        · simp only [Sl.cut3, h1, Option.map_some]
          refine .slice hi' (Nat.le_refl _) (fun _ => rfl) (fun j e => by cases e) (by show r.toNat - l.toNat ≤ m'.toNat - l.toNat; omega) ?_
          by_cases e1 : m' = l.toNat
          · exact .inl (by omega)
          · rw [if_neg e1]
            rcases had with had | had
            · exact .inl (by omega)
            · subst had; right; rw [add_zero']; congr 1; omega
  · rename_i n e hd
    replace H := addrK_inv H; obtain ⟨ad, rfl, H⟩ := H
    obtain ⟨k, hk, H⟩ := (get_iff _ _).1 H
    cases mx with
    | some m => exact H.elim
    | none =>
      simp only at H
      obtain ⟨l, H, hl⟩ := optI_val hf H
      obtain ⟨r, H, hr⟩ := optI_val hf H
      obtain ⟨hc, hK⟩ := (chk_iff _ _).1 H
      obtain ⟨g1, g2, g3⟩ := within_spec hc
      obtain ⟨b, sh, hi', hsp, rfl⟩ := hx.ptr_inv2
      refine ⟨_, .slice (some (if n = l.toNat then ⟨b, ad.off + sh.1, none⟩ else (⟨b, ad.off + sh.1, none⟩ : Addr).add (l.toNat * k))) (r.toNat - l.toNat) (n - l.toNat), ?_, ?_, hK⟩
      · have hb := run_bounds2 (P := P) (w := w) (isS := false) (len := n) (cap := n) hl hr g1 g2 g3
        simp only [Instr.sliceAt, Sem.run_bind, run_underlying hd, Result.andThen_ok, Instr.sureAddr, Sem.run_pure, hb, run_sizeT hk, Option.map_none]
      · simp only [Sl.cut, Option.map_some]
        refine .slice hi' (Nat.le_refl _) (fun _ => rfl) (fun j e => by cases e) (by show r.toNat - l.toNat ≤ n - l.toNat; omega) ?_
        by_cases e1 : n = l.toNat
        · exact .inl (by omega)
        · rw [if_neg e1]
          right; rw [add_zero']; congr 1; omega
  · exact H.elim
end
end Go.AM
