/- The abstract machine: an operation is sound. -/
import Derived.Test.YtalmoilcehhjkaaAmSnd8
set_option linter.unusedVariables false
set_option linter.unusedSimpArgs false
namespace Go.AM

def GoodN (P : Program) (s : Sem Next) (ι : Inj) (w0 : Base) (w : World) (K : Value → Heap → Prop) : Prop :=
  ∃ n v' w', s.run P w = .ok n w' ∧ (n = .value v' ∨ (n = .skip ∧ v' = undef)) ∧ Post ι w0 K v' w'

section
variable {P : Program} {E : List TypeId} {ι : Inj} {w0 : Base} {w : World} {h : Heap} {f : Fr} {a : Act}

theorem Good.next {s : Sem Value} {K : Value → Heap → Prop} (g : Good P s ι w0 w K) : GoodN P (do pure (.value (← s))) ι w0 w K := by
  obtain ⟨v', w', h1, h2⟩ := g
  exact ⟨.value v', v', w', by simp [h1], .inl rfl, h2⟩
theorem Good.pure (hr : HR ι w0 h w) {K : Value → Heap → Prop} {s : Sem Value} (e : ∃ v v', s.run P w = .ok v' w ∧ V ι v v' ∧ K v h) : Good P s ι w0 w K := by
  obtain ⟨v, v', h1, h2, h3⟩ := e
  exact Good.val hr h1 h2 h3
theorem GoodN.skip {s : Sem Unit} {K : Value → Heap → Prop} (e : ∃ w' h', s.run P w = .ok () w' ∧ HR ι w0 h' w' ∧ K undef h') : GoodN P (do s; Pure.pure .skip) ι w0 w K := by
  obtain ⟨w', h', h1, h2, h3⟩ := e
  exact ⟨.skip, undef, w', by simp [h1], .inr ⟨rfl, rfl⟩, ι, undef, h', Inj.le_refl ι, V.undef ι, h2, h3⟩

theorem next_sound (hr : HR ι w0 h w) {x : Value} {b : Addr} {ty : TypeId} {s : ByteArray} {pos : Nat} {K : Value → Heap → Prop} (hx : V ι (.pointer (some b)) x) (hg : h.get b.block = some (.sit s pos)) (ho : Nat.beq b.off 0 = true)
    (H : cond (Nat.blt pos s.size) (K (.tuple #[.bool true, goI pos, .int .i32 (Utf8.decode s pos).1]) (h.put b.block (.sit s (pos + (Utf8.decode s pos).2)))) (K (.tuple #[.bool false]) h)) :
    Good P (Instr.next x true ty) ι w0 w K := by
  obtain ⟨c, t, hi, hsp, rfl⟩ := hx.ptr_inv2
  have ho' := Nat.eq_of_beq_eq_true ho
  obtain ⟨h0, h2, h1⟩ := hr.objs _ _ _ _ hg hi
  rw [ho', h2]
  cases hlt : Nat.blt pos s.size with
  | true =>
    rw [hlt] at H
    simp only [cond_true] at H
    have hlt' : pos < s.size := by simpa [Nat.blt_eq] using hlt
    have hb : c < w.heap.size := (Array.getElem?_eq_some_iff.1 h1).1
    have hr' := hr.put (w' := { w with heap := w.heap.setIfInBounds c (.stringIter s (pos + (Utf8.decode s pos).2)) }) (o' := .sit s (pos + (Utf8.decode s pos).2)) hg hi rfl h0 (by simp) rfl rfl rfl
      (fun k hk => Array.getElem?_setIfInBounds_ne (Ne.symm hk)) ⟨h0, h2, by simp [hb]⟩
    refine ⟨.tuple #[.bool true, goI pos, .int .i32 (Utf8.decode s pos).1], _, ?_, ι, _, _, Inj.le_refl ι, V.tuple_iff.2 (VL.cons (.bool _) (VL.cons (.int _ _) (VL.cons (.int _ _) (VL.nil ι)))), hr', H⟩
    simp [Instr.next, getObj, setObj, Sem.run, h1, hlt', goInt, goI]
  | false =>
    rw [hlt] at H
    simp only [cond_false] at H
    have hlt' : ¬ pos < s.size := by
      intro g; rw [show Nat.blt pos s.size = true from by simpa [Nat.blt_eq] using g] at hlt; cases hlt
    refine ⟨.tuple #[.bool false], w, ?_, ι, _, _, Inj.le_refl ι, V.tuple_iff.2 (VL.cons (.bool _) (VL.nil ι)), hr, H⟩
    simp [Instr.next, getObj, Sem.run, h1, hlt']

theorem range_alc (ι : Inj) (w : World) {t : TypeId} {s : ByteArray} (ht : P.underlying t = some .string) : Alc P (Instr.range t (.string s)) ι w (.sit s 0) (fun n => .pointer (some ⟨n, 0, none⟩)) := by
  refine ⟨.pointer (some ⟨w.heap.size, 0, none⟩), .stringIter s 0, (0, 0), ?_, fun κ prot _ hp => ⟨hp, rfl, by simp⟩, fun κ n hκ => .ptr hκ rfl⟩
  simp [Instr.range, run_underlying ht, newObj, Sem.run]
theorem makeMap_alc (ι : Inj) (w : World) (t : TypeId) : Alc P (Instr.makeMap t none) ι w (.map []) (fun n => .map (some n)) := by
  refine ⟨.map (some w.heap.size), .map #[] 0, (0, 0), ?_, fun κ prot _ hp => ⟨hp, #[], 0, by simp, rfl, fun i p e hp => by simp at hp, fun i e he => by simp at he, rfl⟩, fun κ n hκ => .map hκ⟩
  simp [Instr.makeMap, newObj, Sem.run]

theorem bltK_sound (hr : HR ι w0 h w) {b : Builtin} {tys : Array TypeId} {ty : TypeId} {l l' : List Value} {cs : Array Bool} {K : Value → Heap → Prop} (hl : VL ι l l') (H : bltK P b tys.toList l h K) :
    GoodN P (builtin b tys ty cs l'.toArray) ι w0 w K := by
  obtain ⟨tys⟩ := tys
  simp only at H
  unfold bltK at H
  split at H
  · rename_i t rest x
    obtain ⟨x', l2, rfl, hx, h2⟩ := hl.cons_inv
    have := h2.nil_inv; subst this
    refine Good.next ?_
    split at H
    · rename_i hd
      replace H := strK_inv H; obtain ⟨s, rfl, hK⟩ := H
      rw [hx.str_inv]
      exact Good.val hr (by simp [Builtin.len_, run_underlying hd]; rfl) (.int _ _) hK
    · rename_i e hd
      replace H := sliceK_inv H; obtain ⟨s, rfl, hK⟩ := H
      rcases hx.slice_inv with ⟨h1, h3, h4, rfl⟩ | ⟨β, b2, t2, o, sp, a', cap, h1, hi2, hsp, hcap, hex, hl2, had, rfl⟩
      · rw [h3] at hK
        exact Good.val hr (by simp [Builtin.len_, run_underlying hd]; rfl) (.int _ _) hK
      · exact Good.val hr (by simp [Builtin.len_, run_underlying hd]; rfl) (.int _ _) hK
    · rename_i n e hd
      exact Good.val hr (by simp [Builtin.len_, run_underlying hd]; rfl) (.int _ _) H
    · rename_i k e hd
      replace H := mapK_inv H; obtain ⟨m, rfl, hK⟩ := H
      obtain ⟨es, hes, hK⟩ := (get_iff _ _).1 hK
      obtain ⟨b, s, ents, rfl, hi, hg, h0, h1, h2, h3⟩ := hr.map hx hes
      have hget := run_getMap (P := P) h1
      have hlen := h2.1
      simp only [Array.length_toList] at hlen
      refine Good.val hr (v := goI es.length) (v' := goI es.length) ?_ (.int _ _) hK
      simp [Builtin.len_, run_underlying hd, hget, goInt, goI, hlen]
    · exact H.elim
  · rename_i t rest x
    obtain ⟨x', l2, rfl, hx, h2⟩ := hl.cons_inv
    have := h2.nil_inv; subst this
    refine Good.next ?_
    split at H
    · rename_i n e hd
      exact Good.val hr (by simp [Builtin.cap_, run_underlying hd]; rfl) (.int _ _) H
    · exact H.elim
  · rename_i t u s x
    obtain ⟨s', l2, rfl, hs, h2⟩ := hl.cons_inv
    obtain ⟨x', l3, rfl, hx, h3⟩ := h2.cons_inv
    have := h3.nil_inv; subst this
    refine Good.next ?_
    split at H
    · rename_i e e2 hd hd2
      simp only [chk_iff, get_iff] at H
      obtain ⟨htu, k, hk, by_, hby, z, hz, hzk, H⟩ := H
      have := Nat.eq_of_beq_eq_true htu
      subst this
      obtain ⟨s, rfl, H2⟩ := sliceK_inv H
      clear H
      obtain ⟨x, rfl, H⟩ := sliceK_inv H2
      cases hxa : x.a with
      | none =>
        rw [hxa] at H
        simp only [optK, Option.elim] at H
        have hx2 : x' = .slice none 0 0 := by
          rcases hx.slice_inv with ⟨_, _, _, h⟩ | ⟨β, b2, t2, o, sp, a', cap, h1, _⟩
          · exact h
          · rw [hxa] at h1; cases h1
        subst hx2
        obtain ⟨i, hi, hib⟩ := bytesT_some hby
        rcases hs.slice_inv with ⟨h1, h3, h4, rfl⟩ | ⟨β, b2, t2, o, sp, a', cap, h1, hi2, hsp, hcap, hex, hl2, had, rfl⟩
        · exact Good.val hr (run_append_zero hd hi ⟨none, rfl⟩ (Nat.le_refl _)) hs H
        · exact Good.val hr (run_append_zero hd hi ⟨none, rfl⟩ (by omega)) hs H
      | some b =>
        rw [hxa] at H
        simp only [optK, Option.elim, get_iff] at H
        obtain ⟨news, hn, r, hr2, hK⟩ := H
        exact app_sound hr hd hk hby hz (Nat.eq_of_beq_eq_true hzk) hs hx hxa hn hr2 hK
    · exact H.elim
  · rename_i x y
    obtain ⟨x', l2, rfl, hx, h2⟩ := hl.cons_inv
    obtain ⟨y', l3, rfl, hy, h3⟩ := h2.cons_inv
    have := h3.nil_inv; subst this
    obtain ⟨k, m, rfl, H2⟩ := intK_inv H
    obtain ⟨j, n, rfl, hK⟩ := intK_inv H2
    rw [hx.int_inv, hy.int_inv]
    exact Good.next (Good.val hr (by simp [Builtin.min_, Builtin.min2]) (.int _ _) hK)
  · rename_i x y
    obtain ⟨x', l2, rfl, hx, h2⟩ := hl.cons_inv
    obtain ⟨y', l3, rfl, hy, h3⟩ := h2.cons_inv
    have := h3.nil_inv; subst this
    obtain ⟨k, m, rfl, H2⟩ := intK_inv H
    obtain ⟨j, n, rfl, hK⟩ := intK_inv H2
    rw [hx.int_inv, hy.int_inv]
    exact Good.next (Good.val hr (by simp [Builtin.max_, Builtin.max2]) (.int _ _) hK)
  · rename_i t u d s
    obtain ⟨d', l2, rfl, hd', h2⟩ := hl.cons_inv
    obtain ⟨s', l3, rfl, hs', h3⟩ := h2.cons_inv
    have := h3.nil_inv; subst this
    refine Good.next ?_
    split at H
    · rename_i e e2 hd hd2
      obtain ⟨k, hk, H1⟩ := (get_iff _ _).1 H
      clear H
      obtain ⟨d, rfl, H2⟩ := sliceK_inv H1
      obtain ⟨s, rfl, H⟩ := sliceK_inv H2
      exact copy_sound hr hd hk hd' hs' H
    · exact H.elim
  · rename_i t x
    obtain ⟨x', l2, rfl, hx, h2⟩ := hl.cons_inv
    have := h2.nil_inv; subst this
    refine Good.next ?_
    split at H
    · rename_i e hd
      replace H := sliceK_inv H
      obtain ⟨s, rfl, H⟩ := H
      cases hz : zcells P e with
      | none =>
        rw [hz] at H
        cases hsa : s.a with
        | some a => rw [hsa] at H; exact H.elim
        | none =>
          rw [hsa] at H
          rcases hx.slice_inv with ⟨_, _, _, rfl⟩ | ⟨β, b2, t2, o, sp, a', cap, h1, _⟩
          · exact Good.val hr (v := undef) (by simp [Builtin.clear_, run_underlying hd, undef]) (V.undef ι) H
          · rw [hsa] at h1; cases h1
      | some z =>
        refine clear_sound hr hd hz hx ?_
        cases hsa : s.a with
        | none => rw [hsa] at H; exact H
        | some a => rw [hsa, hz] at H; exact H
    · exact H.elim
  · exact H.elim

theorem opV_sound (hE : EqOK P E) (hf : FR ι f a.tmps) (hr : HR ι w0 h w) {o : Oper} {K : Value → Heap → Prop} (H : opV P E f h o.op K) : GoodN P (execOp a.eval o) ι w0 w K := by
  obtain ⟨dst, op, ty, pos, after, guard⟩ := o
  simp only at H
  cases op <;> simp only [opV] at H <;> simp only [execOp]
  case move x =>
    obtain ⟨v, hv, hK⟩ := (get_iff _ _).1 H
    exact ⟨_, _, w, rfl, .inl rfl, ι, v, h, Inj.le_refl ι, hf.ev hv, hr, hK⟩
  case assign x =>
    obtain ⟨v, hv, hK⟩ := (get_iff _ _).1 H
    exact ⟨_, _, w, rfl, .inl rfl, ι, v, h, Inj.le_refl ι, hf.ev hv, hr, hK⟩
  case pick c x y =>
    obtain ⟨vc, hvc, H⟩ := (get_iff _ _).1 H
    replace H := boolK_inv H; obtain ⟨b, rfl, H⟩ := H
    have hc := (hf.ev hvc).bool_inv
    cases b with
    | true =>
      simp only [cond_true, get_iff] at H
      obtain ⟨v, hv, hK⟩ := H
      exact ⟨.value (a.eval x), _, w, by simp [hc, asBool], .inl rfl, ι, v, h, Inj.le_refl ι, hf.ev hv, hr, hK⟩
    | false =>
      simp only [cond_false, get_iff] at H
      obtain ⟨v, hv, hK⟩ := H
      exact ⟨.value (a.eval y), _, w, by simp [hc, asBool], .inl rfl, ι, v, h, Inj.le_refl ι, hf.ev hv, hr, hK⟩
  case alloc t =>
    obtain ⟨z, hz, hK⟩ := (get_iff _ _).1 H
    exact ((alloc_alc ι w hz).good hr hK).next
  case box t x =>
    obtain ⟨v, hv, H⟩ := (get_iff _ _).1 H
    obtain ⟨h1, hK⟩ := (chk_iff _ _).1 H
    exact ((box_alc w (hf.ev hv) h1).good hr hK).next
  case build t ps =>
    simp only [get_iff] at H
    obtain ⟨l, hl, cs, hcs, hK⟩ := H
    obtain ⟨cs', h1, h2⟩ := build_sound (P := P) (w := w) (hf.parts hl) hcs
    have he : (ps.map fun (p : Nat × Operand) => (p.1, a.eval p.2)) = (ps.toList.map fun p => (p.1, a.eval p.2)).toArray := by
      apply Array.ext'; simp
    refine (Good.val hr (v := .agg cs.toArray) (v' := .agg cs'.toArray) ?_ (V.agg_iff.2 (by simpa using h2)) hK).next
    rw [he]; exact h1
  case buildSlice t n ps =>
    split at H
    · rename_i e hd
      simp only [get_iff, chk_iff] at H
      obtain ⟨l, hl, cs, hcs, ho, hK⟩ := H
      have he : (ps.map fun (p : Nat × Operand) => (p.1, a.eval p.2)) = (ps.toList.map fun p => (p.1, a.eval p.2)).toArray := by
        apply Array.ext'; simp
      have := ((buildSlice_alc w hd (hf.parts hl) hcs ho).good hr hK).next
      rw [← he] at this
      exact this
    · exact H.elim
  case load t x =>
    obtain ⟨v, hv, H⟩ := (get_iff _ _).1 H
    replace H := addrK_inv H; obtain ⟨b, rfl, H⟩ := H
    obtain ⟨b', hb, hbv⟩ := (hf.ev hv).ptr_inv
    obtain ⟨u, u', h1, h2, h3⟩ := loadK_sound (P := P) hr hbv H
    refine (Good.val hr (v := u) (v' := u') ?_ h2 h3).next
    simp [Instr.loadAt, hb, Instr.sureAddr, h1]
  case store t x y =>
    obtain ⟨v, hv, H⟩ := (get_iff _ _).1 H
    replace H := addrK_inv H; obtain ⟨b, rfl, H⟩ := H
    obtain ⟨b', hb, hbv⟩ := (hf.ev hv).ptr_inv
    obtain ⟨u, hu, H⟩ := (get_iff _ _).1 H
    obtain ⟨w', h', h1, h2, h3⟩ := storeK_sound (P := P) hr hbv (hf.ev hu) H
    refine GoodN.skip ⟨w', h', ?_, h2, h3⟩
    simp [Instr.storeAt, hb, Instr.sureAddr, h1]
  case nilCheck x =>
    obtain ⟨v, hv, H⟩ := (get_iff _ _).1 H
    have hvx := hf.ev hv
    split at H
    · rename_i p
      obtain ⟨b, rfl, hK⟩ := (get_iff _ _).1 H
      obtain ⟨b', hb, hbv⟩ := hvx.ptr_inv
      exact ⟨.value (.pointer (some b')), _, w, by rw [hb]; rfl, .inl rfl, ι, _, h, Inj.le_refl ι, hbv, hr, hK⟩
    · rename_i g xs cs
      generalize a.eval x = u at hvx ⊢
      cases hvx with
      | func hfn h1 h2 h3 h4 =>
        rename_i fn' _ _
        have hfe : fn' = .func g := hfn
        subst hfe
        exact ⟨_, _, w, rfl, .inl rfl, ι, _, h, Inj.le_refl ι, .func hfn h1 h2 h3 h4, hr, H⟩
    · rename_i t y
      generalize a.eval x = u at hvx ⊢
      cases hvx with
      | iface t h1 => exact ⟨_, _, w, rfl, .inl rfl, ι, _, h, Inj.le_refl ι, .iface t h1, hr, H⟩
    · exact H.elim
  case binOp op t x y yt =>
    simp only [get_iff] at H
    obtain ⟨u, hu, v, hv, H⟩ := H
    obtain ⟨r, h1, h2, h3⟩ := binK_sound (w := w) hE (hf.ev hu) (hf.ev hv) H x y
    exact (Good.val hr h1 h2 h3).next
  case unOp op t x =>
    obtain ⟨u, hu, H⟩ := (get_iff _ _).1 H
    obtain ⟨r, h1, h2, h3⟩ := unK_sound (P := P) (w := w) (hf.ev hu) H
    exact (Good.val hr h1 h2 h3).next
  case convert s d x =>
    obtain ⟨u, hu, H⟩ := (get_iff _ _).1 H
    obtain ⟨r, h1, h2, h3⟩ := convK_sound (P := P) hr (hf.ev hu) H
    exact (Good.val hr h1 h2 h3).next
  case makeInterface t x =>
    split at H
    · exact H.elim
    · exact H.elim
    · rename_i n1 n2
      obtain ⟨u, hu, hK⟩ := (get_iff _ _).1 H
      refine (Good.val hr (v := .iface t u) (v' := .iface t (a.eval x)) ?_ (.iface t (hf.ev hu)) hK).next
      cases hd : P.underlying t with
      | none => exact absurd hd n1
      | some d =>
        simp only [Instr.makeInterface, Sem.run_bind, run_underlying hd, Result.andThen_ok]
        cases d <;> first | rfl | exact absurd hd (n2 _)
  case makeFunc fn xs cs =>
    simp only [get_iff, chk_iff] at H
    obtain ⟨hny, l, hl, m, hm, hK⟩ := H
    have h1 := hf.evs hl
    have h2 := hf.evs hm
    refine (Good.val hr (v := .func fn l.toArray m.toArray) (v' := .func fn (xs.map a.eval) (cs.map a.eval)) rfl ?_ hK).next
    refine .func (fnR.self ι hny) ?_ ?_ ?_ ?_
    · have := h1.1; simpa using this
    · intro i u v hu hv
      exact h1.2 i u v (by simpa using hu) (by simpa using hv)
    · have := h2.1; simpa using this
    · intro i u v hu hv
      exact h2.2 i u v (by simpa using hu) (by simpa using hv)
  case makeMap t r =>
    cases r with
    | some x => exact H.elim
    | none =>
      exact ((makeMap_alc ι w t).good hr H).next
  case makeSlice t l c =>
    split at H
    · rename_i e hd
      obtain ⟨vl, hvl, H⟩ := (get_iff _ _).1 H
      replace H := intK_inv H; obtain ⟨kl, nl, rfl, H⟩ := H
      obtain ⟨vc, hvc, H⟩ := (get_iff _ _).1 H
      replace H := intK_inv H
      obtain ⟨kc, nc, rfl, H⟩ := H
      simp only [get_iff, chk_iff] at H
      obtain ⟨by_, hby, k, hk, z, hz, hc, hK⟩ := H
      have := ((makeSlice_alc ι w hd hby hk hz hc (kl := kl) (kc := kc)).good hr hK).next
      rw [(hf.ev hvl).int_inv, (hf.ev hvc).int_inv]
      exact this
    · exact H.elim
  case slice t x lo hi mx =>
    obtain ⟨v, hv, H⟩ := (get_iff _ _).1 H
    obtain ⟨u, u', h1, h2, h3⟩ := resliceK_sound (w := w) hf (hf.ev hv) H
    exact (Good.val hr h1 h2 h3).next
  case fieldAddr t x i =>
    obtain ⟨v, hv, H⟩ := (get_iff _ _).1 H
    replace H := addrK_inv H; obtain ⟨b, rfl, H⟩ := H
    obtain ⟨b', hb, hbv⟩ := (hf.ev hv).ptr_inv
    obtain ⟨r, r', h1, h2, h3⟩ := fieldK_sound (P := P) (w := w) hbv H
    rw [hb]
    exact (Good.val hr h1 h2 h3).next
  case field t x i =>
    obtain ⟨v, hv, H⟩ := (get_iff _ _).1 H
    obtain ⟨u, u', h1, h2, h3⟩ := fieldV_sound (w := w) (hf.ev hv) H
    exact (Good.val hr h1 h2 h3).next
  case indexAddr t x i =>
    obtain ⟨v, hv, H⟩ := (get_iff _ _).1 H
    obtain ⟨vi, hvi, H⟩ := (get_iff _ _).1 H
    replace H := intK_inv H; obtain ⟨k, n, rfl, H⟩ := H
    obtain ⟨r, r', h1, h2, h3⟩ := indexK_sound (P := P) (w := w) (k := k) (hf.ev hv) H
    rw [(hf.ev hvi).int_inv]
    exact (Good.val hr h1 h2 h3).next
  case index t x i =>
    obtain ⟨v, hv, H⟩ := (get_iff _ _).1 H
    obtain ⟨vi, hvi, H⟩ := (get_iff _ _).1 H
    replace H := intK_inv H; obtain ⟨k, n, rfl, H⟩ := H
    obtain ⟨r, r', h1, h2, h3⟩ := indexV_sound (P := P) (w := w) (k := k) (hf.ev hv) H
    rw [(hf.ev hvi).int_inv]
    exact (Good.val hr h1 h2 h3).next
  case lookup t m k ok =>
    obtain ⟨v, hv, H⟩ := (get_iff _ _).1 H
    replace H := mapK_inv H; obtain ⟨mm, rfl, H⟩ := H
    obtain ⟨vk, hvk, H⟩ := (get_iff _ _).1 H
    obtain ⟨r, r', h1, h2, h3⟩ := lookK_sound hE hr (hf.ev hv) (hf.ev hvk) H
    exact (Good.val hr h1 h2 h3).next
  case mapUpdate t m k x =>
    obtain ⟨v, hv, H⟩ := (get_iff _ _).1 H
    replace H := mapK_inv H; obtain ⟨mm, rfl, H⟩ := H
    simp only [get_iff] at H
    obtain ⟨vk, hvk, vx, hvx, H⟩ := H
    exact GoodN.skip (upK_sound hE hr (hf.ev hv) (hf.ev hvk) (hf.ev hvx) H)
  case insert t m k x =>
    obtain ⟨v, hv, H⟩ := (get_iff _ _).1 H
    replace H := mapK_inv H; obtain ⟨mm, rfl, H⟩ := H
    simp only [get_iff] at H
    obtain ⟨vk, hvk, vx, hvx, H⟩ := H
    exact GoodN.skip (upK_sound hE hr (hf.ev hv) (hf.ev hvk) (hf.ev hvx) H)
  case extract x i =>
    obtain ⟨v, hv, H⟩ := (get_iff _ _).1 H
    split at H
    · rename_i vs
      obtain ⟨u, hu, hK⟩ := (get_iff _ _).1 H
      obtain ⟨ys, hy, hl⟩ := (hf.ev hv).tuple_inv
      obtain ⟨y, h1, h2⟩ := hl.get (show vs.toList[i]? = some u by simpa using hu)
      refine (Good.val hr (v := u) (v' := y) ?_ h2 hK).next
      have h1' : ys[i]? = some y := by simpa using h1
      simp [hy, Instr.extract, h1']
    · exact H.elim
  case range t x =>
    split at H
    · rename_i hd
      obtain ⟨v, hv, H⟩ := (get_iff _ _).1 H
      replace H := strK_inv H; obtain ⟨s, rfl, hK⟩ := H
      rw [(hf.ev hv).str_inv]
      exact ((range_alc ι w hd).good hr hK).next
    · exact H.elim
  case next x isS =>
    cases isS with
    | false => exact H.elim
    | true =>
      obtain ⟨v, hv, H⟩ := (get_iff _ _).1 H
      replace H := addrK_inv H; obtain ⟨b, rfl, H⟩ := H
      split at H
      · rename_i s pos hg
        cases ho : Nat.beq b.off 0 with
        | false => rw [ho] at H; exact H.elim
        | true => rw [ho] at H; exact (next_sound hr (hf.ev hv) hg ho H).next
      · exact H.elim
  case call c =>
    obtain ⟨callee, args, tys⟩ := c
    cases callee with
    | value v => exact H.elim
    | invoke r m => exact H.elim
    | builtin b =>
      obtain ⟨l, hl, H⟩ := (get_iff _ _).1 H
      have := bltK_sound (ty := ty) (cs := args.map fun | .const _ => true | _ => false) hr (hf.evs hl) H
      have he : (args.toList.map a.eval).toArray = args.map a.eval := by apply Array.ext'; simp
      rw [he] at this
      obtain ⟨n, v', w', h1, h2⟩ := this
      refine ⟨n, v', w', ?_, h2⟩
      simp only [resolve, Sem.run_bind, Sem.run_pure, Result.andThen_ok, invoke]
      exact h1
  all_goals exact H.elim
end
end Go.AM
