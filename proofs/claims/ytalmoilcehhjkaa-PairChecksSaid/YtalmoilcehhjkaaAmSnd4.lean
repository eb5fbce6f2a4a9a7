/- The abstract machine's operations are sound: conversions, places, slices, append. -/
import Derived.Test.YtalmoilcehhjkaaAmSnd3
set_option linter.unusedVariables false
set_option linter.unusedSimpArgs false
namespace Go.AM

section
variable {P : Program} {E : List TypeId} {ι : Inj} {w0 : Base} {w : World} {h : Heap} {f : Fr} {a : Act}

theorem optI_sound (hf : FR ι f a.tmps) {x : Option Operand} {d : Int} {K : Int → Prop} (H : optI f x d K) : ∃ n, K n ∧ ((x = none ∧ n = d) ∨ ∃ y k, x = some y ∧ a.eval y = .int k n) := by
  cases x with
  | none => exact ⟨d, H, .inl ⟨rfl, rfl⟩⟩
  | some y =>
    obtain ⟨v, hv, H⟩ := (get_iff _ _).1 H
    obtain ⟨k, n, rfl, hK⟩ := intK_inv H
    exact ⟨n, hK, .inr ⟨y, k, rfl, (hf.ev hv).int_inv⟩⟩

theorem V.slice_inv {s : Sl} {v : Value} (h : V ι s.v v) : (s.a = none ∧ s.len = 0 ∧ s.cap = 0 ∧ v = .slice none 0 0) ∨
    ∃ β b t o sp a' cap, s.a = some ⟨β, o, sp⟩ ∧ ι β = some (b, t) ∧ (∀ k, sp = some (k + 1) → o + t.1 + cap * k ≤ t.2) ∧ s.cap ≤ cap ∧ (sp = some 0 → cap = s.cap) ∧ s.len ≤ s.cap ∧ (cap = 0 ∨ a' = ⟨b, o + t.1, none⟩) ∧
      v = .slice (some a') s.len cap := by
  obtain ⟨sa, sl, sc⟩ := s
  cases h with
  | sliceNil => exact .inl ⟨rfl, rfl, rfl, rfl⟩
  | slice e hlb hex hro hl ha => exact .inr ⟨_, _, _, _, _, _, _, rfl, e, hro, hlb, hex, hl, ha, rfl⟩

/-- A slice's elements, as a place to read. -/
theorem HR.rdS (hr : HR ι w0 h w) {s : Sl} {v : Value} (hv : V ι s.v v) {a : Addr} (ha : s.a = some a) {k n : Nat} {l : List Value} (hn : n ≤ s.len) (e : h.rdN ⟨a.block, a.off, none⟩ (n * k) = some l) :
    ∃ a' cap l', v = .slice (some a') s.len cap ∧ (loadCells a' (n * k)).run P w = .ok l'.toArray w ∧ VL ι l l' ∧ (∀ (i : Nat) (v : Value), l'[i]? = some v → w.cell? (a'.add i) = some v) := by
  rcases hv.slice_inv with ⟨h1, _, _, _⟩ | ⟨β, b, t, o, sp, a', cap, h1, hi, hsp, hcap, hex, hl, had, rfl⟩
  · rw [ha] at h1; cases h1
  · rw [ha] at h1; cases h1
    rcases had with had | had
    · have h0 : n = 0 := by omega
      subst h0
      have : l = [] := by
        have hp : V ι (.pointer (some ⟨β, o, none⟩)) (.pointer (some ⟨b, o + t.1, none⟩)) := .ptr hi rfl
        obtain ⟨l', h3, h4, _⟩ := hr.rdN (P := P) hp e
        simp [loadCells, loadCellsFrom] at h3
        subst h3
        have := h4.1
        simpa using this
      subst this
      exact ⟨a', cap, [], rfl, by simp [loadCells, loadCellsFrom], VL.nil ι, fun i v hv => by simp at hv⟩
    · subst had
      have hp : V ι (.pointer (some ⟨β, o, none⟩)) (.pointer (some ⟨b, o + t.1, none⟩)) := .ptr hi rfl
      obtain ⟨l', h3, h4, h5⟩ := hr.rdN (P := P) hp e
      exact ⟨_, cap, l', rfl, h3, h4, h5⟩

theorem bytesOf_cons {x : Value} {l : List Value} {r : List UInt8} (e : bytesOf (x :: l) = some r) : ∃ n r', x = .int .u8 n ∧ bytesOf l = some r' ∧ r = UInt8.ofNat n.toNat :: r' := by
  unfold bytesOf at e
  split at e
  · rename_i h; cases h
  · rename_i n l' h
    cases h
    simp only [Option.map_eq_some_iff] at e
    obtain ⟨r', h1, h2⟩ := e
    exact ⟨n, r', rfl, h1, h2.symm⟩
  · cases e
theorem bytesOf_spec : ∀ {l : List Value} {r : List UInt8} {l' : List Value}, bytesOf l = some r → VL ι l l' → l' = l
  | [], r, l', e, h => h.nil_inv
  | x :: l, r, l', e, h => by
    obtain ⟨y, l'', rfl, h1, h2⟩ := h.cons_inv
    obtain ⟨n, r', rfl, hr', _⟩ := bytesOf_cons e
    rw [bytesOf_spec hr' h2, h1.int_inv]

theorem run_bytes_loop : ∀ (l : List Value) (r : List UInt8) (s : ByteArray) (w : World), bytesOf l = some r →
    (forIn l s (fun c (s : ByteArray) => (match c with
      | .int .u8 n => pure (ForInStep.yield (s.push (UInt8.ofNat n.toNat)))
      | _ => do
        (stuck "bytesToString: byte expected" : Sem PUnit)
        pure (ForInStep.yield s) : Sem (ForInStep ByteArray)))).run P w = .ok (⟨(s.data.toList ++ r).toArray⟩) w
  | [], r, s, w, e => by cases e; simp
  | x :: l, r, s, w, e => by
    obtain ⟨n, r', rfl, hr', rfl⟩ := bytesOf_cons e
    have ih := run_bytes_loop l r' (s.push (UInt8.ofNat n.toNat)) w hr'
    simp only [List.forIn_cons, Sem.run_bind, Sem.run_pure, Result.andThen_ok]
    rw [ih]
    congr 2
    simp [ByteArray.push]

theorem convK_sound (hr : HR ι w0 h w) {s d : TypeId} {x x' : Value} {K : Value → Prop} (hx : V ι x x') (H : convK P h s d x K) : ∃ r, (convert s d x').run P w = .ok r w ∧ V ι r r ∧ K r := by
  unfold convK at H
  split at H
  · rename_i j k i n hs hd
    rw [hx.int_inv]
    refine ⟨_, ?_, .int _ _, H⟩
    unfold convert
    simp [run_underlying hs, run_underlying hd, Conv.intToInt]
  · rename_i t hs hd
    rw [hx.str_inv]
    refine ⟨_, ?_, .str _, H⟩
    unfold convert
    simp [run_underlying hs, run_underlying hd]
  · rename_i e a len cap hs hd
    cases he : P.underlying e with
    | none => rw [he] at H; exact H.elim
    | some de =>
      rw [he] at H
      split at H
      · rename_i heq
        cases heq
        have hc : ∀ x' : Value, (∃ a l c, x' = .slice a l c) → (convert s d x').run P w = (Conv.bytesToString x').run P w := by
          rintro _ ⟨a, l, c, rfl⟩
          unfold convert
          simp [run_underlying hs, run_underlying hd, run_underlying he]
        cases a with
        | none =>
          have : x' = .slice none 0 0 := by cases hx; rfl
          subst this
          exact ⟨_, by rw [hc _ ⟨_, _, _, rfl⟩]; rfl, .str _, H⟩
        | some a =>
          simp only [optK, Option.elim, get_iff] at H
          obtain ⟨l, hl, r, hrb, hK⟩ := H
          have hl' : h.rdN ⟨a.block, a.off, none⟩ (len * 1) = some l := by simpa using hl
          obtain ⟨a', cap', l', rfl, h3, h4, _⟩ := hr.rdS (P := P) (s := ⟨some a, len, cap⟩) hx rfl (Nat.le_refl _) hl'
          have := bytesOf_spec hrb h4
          subst this
          refine ⟨_, ?_, .str _, hK⟩
          rw [hc _ ⟨_, _, _, rfl⟩]
          simp only [Nat.mul_one] at h3
          simp only [Conv.bytesToString, Sem.run_bind, h3, Result.andThen_ok]
          rw [← Array.forIn_toList]
          have := run_bytes_loop (P := P) l' r ByteArray.empty w hrb
          simp only [] at this ⊢
          rw [show (ByteArray.empty.data.toList ++ r) = r from rfl] at this
          exact congrArg (fun x => Result.andThen x fun a w' => Sem.run P (pure (Value.string a)) w') this
      · exact H.elim
  · exact H.elim

theorem fieldK_sound {t : TypeId} {a a' : Addr} {i : Nat} {K : Addr → Prop} (ha : V ι (.pointer (some a)) (.pointer (some a'))) (H : fieldK P t a i K) :
    ∃ r r', (Instr.fieldAt t (.pointer (some a')) i).run P w = .ok (.pointer (some r')) w ∧ V ι (.pointer (some r)) (.pointer (some r')) ∧ K r := by
  unfold fieldK at H
  split at H
  · rename_i fs hd
    simp only [get_iff] at H
    obtain ⟨fl, hfl, n, hn, H⟩ := H
    cases h0 : Nat.beq n 0 with
    | true => rw [h0] at H; exact H.elim
    | false =>
      rw [h0] at H
      simp only [cond_false] at H
      have hn0 : n ≠ 0 := by intro e; subst e; simp at h0
      cases ha with
      | ptr hi ho =>
        rename_i β b o o' s
        refine ⟨_, ⟨b, o' + fl.offset, none⟩, ?_, .ptr hi (by simp; omega), H⟩
        simp [Instr.fieldAt, run_underlying hd, hfl, Instr.sureAddr, fieldPlace, run_sizeT hn, hn0, add_zero']
  · exact H.elim

theorem idx_spec {i : Int} {n : Nat} (e : idx i n = true) : 0 ≤ i ∧ i < n := by simpa [idx] using e

theorem indexK_sound {t : TypeId} {x x' : Value} {k : IntKind} {i : Int} {K : Addr → Prop} (hx : V ι x x') (H : indexK P t x i K) :
    ∃ r r', (Instr.indexAt t x' (.int k i)).run P w = .ok (.pointer (some r')) w ∧ V ι (.pointer (some r)) (.pointer (some r')) ∧ K r := by
  unfold indexK at H
  split at H
  · rename_i n e hd
    obtain ⟨a, rfl, H⟩ := addrK_inv H
    simp only [get_iff, chk_iff] at H
    obtain ⟨s, hs, hc, hK⟩ := H
    obtain ⟨h1, h2⟩ := idx_spec hc
    cases hx with
    | ptr hi ho =>
      rename_i β b o o' t
      refine ⟨_, ⟨b, o' + i.toNat * s, none⟩, ?_, .ptr hi (by simp; omega), hK⟩
      simp [Instr.indexAt, asIntOf, run_underlying hd, Instr.sureAddr, h1, h2, run_sizeT hs, add_zero']
  · rename_i e hd
    obtain ⟨sl, rfl, H⟩ := sliceK_inv H
    simp only [get_iff, chk_iff] at H
    obtain ⟨a, ha, s, hs, hc, hK⟩ := H
    obtain ⟨h1, h2⟩ := idx_spec hc
    rcases hx.slice_inv with ⟨h3, _, _, _⟩ | ⟨β, b, t, o, sp, a', cap, h3, hi, hsp, hcap, hex, hl, had, rfl⟩
    · rw [ha] at h3; cases h3
    · rw [ha] at h3; cases h3
      rcases had with had | had
      · simp only at hcap hl h2; omega
      · subst had
        refine ⟨_, ⟨b, o + t.1 + i.toNat * s, none⟩, ?_, .ptr hi (by simp; omega), hK⟩
        simp [Instr.indexAt, asIntOf, run_underlying hd, h1, h2, run_sizeT hs, add_zero']
  · exact H.elim

theorem partK_sound {t : TypeId} {cs cs' : List Value} {off : Nat} {K : Value → Prop} (hc : VL ι cs cs') (H : partK P t cs off K) :
    ∃ v v', (part t cs'.toArray off).run P w = .ok v' w ∧ V ι v v' ∧ K v := by
  unfold partK at H
  cases hd : P.underlying t with
  | none => rw [hd] at H; exact H.elim
  | some d =>
    rw [hd] at H
    simp only at H
    cases hg : isAggD d with
    | true =>
      rw [hg] at H
      simp only [cond_true, get_iff] at H
      obtain ⟨n, hn, H⟩ := H
      cases hb : Nat.ble (off + n) cs.length with
      | false => rw [hb] at H; exact H.elim
      | true =>
        rw [hb] at H
        simp only [cond_true] at H
        refine ⟨_, .agg ((cs'.drop off).take n).toArray, ?_, V.agg_iff.2 (by simpa using (hc.drop off).take n), H⟩
        have hle := Nat.le_of_ble_eq_true hb
        have : cs'.toArray.extract off (off + n) = ((cs'.drop off).take n).toArray := by
          apply Array.ext'
          simp
        simp [part, run_isAgg hd, hg, run_sizeT hn]
    | false =>
      rw [hg] at H
      simp only [cond_false] at H
      obtain ⟨x, hx, hK⟩ := LK.view_spec H
      obtain ⟨y, hy, hxy⟩ := hc.get hx
      refine ⟨x, y, ?_, hxy, hK⟩
      have hy' : cs'.toArray[off]? = some y := by simpa using hy
      simp [part, run_isAgg hd, hg, hy]

theorem fieldV_sound {t : TypeId} {x x' : Value} {i : Nat} {K : Value → Prop} (hx : V ι x x') (H : fieldV P t x i K) : ∃ v v', (Instr.field t x' i).run P w = .ok v' w ∧ V ι v v' ∧ K v := by
  unfold fieldV at H
  split at H
  · rename_i fs hd
    simp only [get_iff] at H
    obtain ⟨fl, hfl, H⟩ := H
    obtain ⟨cs, rfl, H⟩ := aggK_inv H
    obtain ⟨cs', rfl, hc⟩ := hx.agg_inv
    obtain ⟨v, v', h1, h2, h3⟩ := partK_sound (P := P) (w := w) hc H
    refine ⟨v, v', ?_, h2, h3⟩
    simp only [Array.toArray_toList] at h1
    simp [Instr.field, run_underlying hd, hfl, asAgg, h1]
  · exact H.elim

theorem indexV_sound {t : TypeId} {x x' : Value} {k : IntKind} {i : Int} {K : Value → Prop} (hx : V ι x x') (H : indexV P t x i K) : ∃ v v', (Instr.index t x' (.int k i)).run P w = .ok v' w ∧ V ι v v' ∧ K v := by
  unfold indexV at H
  split at H
  · rename_i n e hd
    obtain ⟨cs, rfl, H⟩ := aggK_inv H
    simp only [get_iff, chk_iff] at H
    obtain ⟨s, hs, hc, hK⟩ := H
    obtain ⟨g1, g2⟩ := idx_spec hc
    obtain ⟨cs', rfl, hc⟩ := hx.agg_inv
    obtain ⟨v, v', h1, h2, h3⟩ := partK_sound (P := P) (w := w) hc hK
    refine ⟨v, v', ?_, h2, h3⟩
    simp only [Array.toArray_toList] at h1
    simp [Instr.index, asIntOf, run_underlying hd, g1, g2, run_sizeT hs, h1]
  · rename_i hd
    obtain ⟨s, rfl, H⟩ := strK_inv H
    obtain ⟨hc, hK⟩ := (chk_iff _ _).1 H
    obtain ⟨g1, g2⟩ := idx_spec hc
    rw [hx.str_inv]
    refine ⟨_, _, ?_, .int _ _, hK⟩
    have hlt : i.toNat < s.size := by omega
    have hb : s[i.toNat]? = some s[i.toNat] := getElem?_pos s i.toNat hlt
    have : byteAt s i = (s[i.toNat]).toNat := by
      unfold byteAt
      rw [show s.data[i.toNat]? = some s[i.toNat] from Array.getElem?_eq_getElem hlt]; rfl
    simp [Instr.index, asIntOf, run_underlying hd, g1, hb, this]
  · exact H.elim
end
end Go.AM
