/- The abstract machine: regions whose order is drawn. -/
import Derived.Test.YtalmoilcehhjkaaAmDet
import Derived.Test.YtalmoilcehhjkaaAmOpK
import Derived.OrdersIn
set_option linter.unusedVariables false
set_option linter.unusedSimpArgs false
namespace Go.AM

theorem onlyT_get (f : Fr) (s : Nat) : ∀ ts : List Nat, (onlyT f ts).get s = if s ∈ ts then f.get s else none
  | [] => by simp [onlyT, Tr.get_nil]
  | t :: ts => by
    unfold onlyT
    cases hf : f.get t with
    | none =>
      simp only [onlyT_get f s ts, List.mem_cons]
      by_cases e : s = t
      · subst e; by_cases h : s ∈ ts <;> simp [h, hf]
      · simp [e]
    | some v =>
      simp only [Tr.get_set, onlyT_get f s ts, List.mem_cons]
      by_cases e : s = t
      · subst e; simp [hf]
      · simp [e]
theorem Fr.get_only (f : Fr) (ts : List Nat) (s : Nat) : (f.only ts).get s = if s ∈ ts then f.get s else none := onlyT_get f s ts

theorem mask_bit {acc : List Nat} {j : Nat} : ∀ {es : List Nat}, (maskOf acc es).testBit j = true → ∃ e ∈ es, e = j ∨ (acc.getD e 0).testBit j = true
  | [], h => by simp [maskOf] at h
  | e :: es, h => by
    simp only [maskOf, Nat.testBit_or, Bool.or_eq_true, Nat.testBit_two_pow, decide_eq_true_eq] at h
    rcases h with h | h | h
    · obtain ⟨d, hd, hx⟩ := mask_bit h
      exact ⟨d, by simp [hd], hx⟩
    · exact ⟨e, by simp, .inl h⟩
    · exact ⟨e, by simp, .inr h⟩

structure OKD (ops : List Oper) (anc ord : List Nat) : Prop where
  ancs : ∀ i o, ops[i]? = some o → anc.getD i 0 = maskOf (anc.take i) (edgesOf o)
  lt : ∀ i o e, ops[i]? = some o → e ∈ edgesOf o → e < i
  looks : ∀ (i : Nat) (o : Oper) (t : Nat) (j : Nat) (p : Oper), ops[i]? = some o → t ∈ looks ops o → ops[j]? = some p → p.dst = some t → (anc.getD i 0).testBit j = true ∨ (isW p.op = true ∧ p.guard = none ∧ (anc.getD j 0).testBit i = true)
  dst : ∀ (i : Nat) (o : Oper) (j : Nat) (p : Oper) (t : Nat), ops[i]? = some o → ops[j]? = some p → j < i → o.dst = some t → p.dst = some t → False
  cover : ∀ i o, ops[i]? = some o → i ∈ ord
  ordlt : ∀ i ∈ ord, i < ops.length
  ok : ordOK ops anc ord = true

theorem okD_spec {ops : List Oper} {anc ord : List Nat} (h : okD ops anc ord = true) : OKD ops anc ord := by
  unfold okD at h
  simp only [Bool.and_eq_true, List.all_eq_true, List.mem_range] at h
  obtain ⟨h1, h2, h3⟩ := h
  have at_ : ∀ i o, ops[i]? = some o → i < ops.length := fun i o e => by
    rcases Nat.lt_or_ge i ops.length with g | g
    · exact g
    · rw [List.getElem?_eq_none g] at e; cases e
  have key : ∀ i o, ops[i]? = some o → _ := fun i o e => by
    have := h1 i (at_ i o e)
    rw [e] at this
    simp only [Option.map_some, Option.getD_some, Bool.and_eq_true] at this
    exact this
  refine ⟨fun i o e => Nat.eq_of_beq_eq_true (key i o e).1, fun i o d e hd => ?_, fun i o t j p e ht hp hd => ?_, fun i o j p t e hp hj ho hd => ?_, fun i o e => ?_, fun i hi => ?_, h3⟩
  · have := List.all_eq_true.1 (key i o e).2.1.1.1 d hd
    simpa [Nat.blt_eq] using this
  · have := List.all_eq_true.1 (key i o e).2.1.1.2 t ht
    have := List.all_eq_true.1 this j (List.mem_range.2 (at_ j p hp))
    rw [hp] at this
    simp only [Option.map_some, hd, beq_self_eq_true, Option.getD_some, Bool.not_true, Bool.false_or, Bool.or_eq_true, Bool.and_eq_true, Option.isNone_iff_eq_none] at this
    rcases this with g | ⟨⟨g1, g2⟩, g3⟩
    · exact .inl g
    · exact .inr ⟨g1, g2, g3⟩
  · have := List.all_eq_true.1 (key i o e).2.1.2 j (List.mem_range.2 hj)
    rw [hp, ho] at this
    simp [hd] at this
  · have := (key i o e).2.2
    simpa using this
  · have := h2 i hi
    simpa [Nat.blt_eq] using this

theorem anc_in {ops : List Oper} {anc ord : List Nat} (ok : OKD ops anc ord) {D : Nat → Bool} (hc : ∀ i o, ops[i]? = some o → D i = true → ∀ e ∈ edgesOf o, D e = true) {j : Nat} :
    ∀ (n i : Nat) (o : Oper), i < n → ops[i]? = some o → (∀ e ∈ edgesOf o, D e = true) → (anc.getD i 0).testBit j = true → D j = true
  | 0, i, o, hi, _, _, _ => by omega
  | n + 1, i, o, hi, ho, he, hb => by
    rw [ok.ancs i o ho] at hb
    obtain ⟨e, hem, hx⟩ := mask_bit hb
    have hlt := ok.lt i o e ho hem
    rcases hx with rfl | hx
    · exact he _ hem
    · have hg : (anc.take i).getD e 0 = anc.getD e 0 := by
        simp only [List.getD_eq_getElem?_getD, List.getElem?_take, hlt, if_true]
      rw [hg] at hx
      have hlen : i < ops.length := by
        rcases Nat.lt_or_ge i ops.length with g | g
        · exact g
        · rw [List.getElem?_eq_none g] at ho; cases ho
      have hoe : ops[e]? = some (ops[e]'(by omega)) := List.getElem?_eq_getElem (by omega)
      exact anc_in ok hc n e _ (by omega) hoe (hc e _ hoe (he e hem)) hx

/-- Frames of which some slots are not yet so. -/
structure FRd (ι : Inj) (ops : List Oper) (D : Nat → Bool) (f : Fr) (t : Array Value) : Prop where
  size : f.n = t.size
  wf : ∀ s v, f.get s = some v → s < f.n
  known : ∀ s v, f.get s = some v → (∀ i o, ops[i]? = some o → o.dst = some s → D i = true) → ∃ v', t[s]? = some v' ∧ V ι v v'
theorem FRd.anti {ι : Inj} {ops : List Oper} {D E : Nat → Bool} (h : ∀ j, E j = true → D j = true) {f : Fr} {t : Array Value} (r : FRd ι ops D f t) : FRd ι ops E f t :=
  ⟨r.size, r.wf, fun s v e k => r.known s v e fun i o a b => h i (k i o a b)⟩
theorem FRd.wk {ι κ : Inj} (h : ι.wk κ) {ops : List Oper} {D : Nat → Bool} {f : Fr} {t : Array Value} (r : FRd ι ops D f t) : FRd κ ops D f t :=
  ⟨r.size, r.wf, fun s v e k => let ⟨v', a, b⟩ := r.known s v e k; ⟨v', a, b.wk h⟩⟩

def guardIs (ops : List Oper) (g : Fr) (o : Oper) (b : Bool) : Prop :=
  match o.guard with
  | none => b = true
  | some (j, want) => ∃ t u, (ops[j]?).bind (·.dst) = some t ∧ g.get t = some u ∧ ((∃ c, u = .bool c ∧ (c == want) = b) ∨ (∃ xs, u = .tuple xs ∧ b = false))

theorem guard_wanted {ι : Inj} {ops : Array Oper} {g : Fr} {o : Oper} {b : Bool} {t : Array Value} (hf : FR ι g t) (h : guardIs ops.toList g o b) : Region.wanted o (yielded ops t) = b := by
  unfold guardIs at h
  split at h
  · rename_i hg; subst h; simp [Region.wanted, hg]
  · rename_i j want hg
    obtain ⟨s, u, h1, h2, h3⟩ := h
    obtain ⟨u', h4, h5⟩ := hf.2 _ _ h2
    have hj : (ops[j]?).bind (·.dst) = some s := by simpa using h1
    rcases h3 with ⟨c, rfl, rfl⟩ | ⟨xs, rfl, rfl⟩
    · have := h5.bool_inv
      subst this
      have hy : yielded ops t j = some c := by simp [yielded, hj, h4]
      simp only [Region.wanted, hg, hy]
      cases c <;> cases want <;> rfl
    · obtain ⟨ys, rfl, _⟩ := h5.tuple_inv
      have hy : yielded ops t j = none := by simp [yielded, hj, h4]
      simp [Region.wanted, hg, hy]

/-- The same slots. -/
def Fr.same (f g : Fr) : Prop := g.n = f.n ∧ ∀ s, g.get s = f.get s
theorem Fr.same_refl (f : Fr) : f.same f := ⟨rfl, fun _ => rfl⟩
theorem Fr.same.trans {f g h : Fr} (a : f.same g) (b : g.same h) : f.same h := ⟨b.1.trans a.1, fun s => (b.2 s).trans (a.2 s)⟩
theorem Fr.same.symm {f g : Fr} (a : f.same g) : g.same f := ⟨a.1.symm, fun s => (a.2 s).symm⟩
theorem Fr.same_put {f : Fr} {t : Nat} {v : Value} (h : f.get t = some v) : f.same (f.put (some t) v) := by
  refine ⟨Fr.put_n .., fun s => ?_⟩
  by_cases hd : t < f.n
  · rw [Fr.get_put_some _ _ _ _ hd]
    split
    · subst s; exact h.symm
    · rfl
  · have hb : Nat.blt t f.n = false := by rw [Bool.eq_false_iff, ne_eq, Nat.blt_eq]; exact hd
    simp [Fr.put, hb]
theorem wantK_inv {ops : List Oper} {f : Fr} {o : Oper} {yes no : Fr → Prop} (h : wantK ops f o yes no) :
    ∃ f1, f.same f1 ∧ ((guardIs ops (f1.only (looks ops o)) o true ∧ yes f1) ∨ (guardIs ops (f1.only (looks ops o)) o false ∧ no f1)) := by
  unfold wantK at h
  split at h
  · rename_i hg; exact ⟨f, Fr.same_refl f, .inl ⟨by simp [guardIs, hg], h⟩⟩
  · rename_i j want hg
    simp only [get_iff] at h
    obtain ⟨t, ht, u, hu, h⟩ := h
    have hm : t ∈ looks ops o := by simp [looks, guardSlot, hg, ht]
    split at h
    · rename_i b
      have hs := Fr.same_put hu
      have mk : ∀ r, (b == want) = r → guardIs ops ((f.put (some t) (.bool b)).only (looks ops o)) o r := fun r hr => by
        simp only [guardIs, hg]
        refine ⟨t, _, ht, ?_, .inl ⟨b, rfl, hr⟩⟩
        rw [Fr.get_only, if_pos hm, hs.2]; exact hu
      refine ⟨_, hs, ?_⟩
      cases b <;> cases want
      · exact .inl ⟨mk _ rfl, h⟩
      · exact .inr ⟨mk _ rfl, h⟩
      · exact .inr ⟨mk _ rfl, h⟩
      · exact .inl ⟨mk _ rfl, h⟩
    · rename_i xs
      refine ⟨f, Fr.same_refl f, .inr ⟨?_, h⟩⟩
      simp only [guardIs, hg]
      exact ⟨t, _, ht, by rw [Fr.get_only, if_pos hm]; exact hu, .inr ⟨xs, rfl, trivial⟩⟩
    · exact h.elim

/-- An operation that the plan has passed, and the world not yet. -/
def Pending (C : Ctx) (ops : List Oper) (b0 : Nat) (ι : Inj) (f : Fr) (H : Heap) (pd : List Pd) (i : Nat) (o : Oper) : Prop :=
  ∃ g, g.le f ∧ (∀ s v, g.get s = some v → s ∈ looks ops o) ∧
    ((guardIs ops g o false ∧ ∀ d, o.dst = some d → d < f.n → f.get d = some undef) ∨
     (guardIs ops g o true ∧ isR o.op = true ∧ ∃ v, (∀ d, o.dst = some d → d < f.n → f.get d = some v) ∧ opV C.P C.E g H o.op (fun v' _ => v' = v) ∧ (isHeap o.op = true → Pd.rd i o.op g v ∈ pd)) ∨
     (guardIs ops g o true ∧ isA o.op = true ∧ ∃ n obj mk h0, (∀ d, o.dst = some d → d < f.n → f.get d = some (mk n)) ∧ H.get n = some obj ∧ h0.get n = some obj ∧ Pd.al i n h0 ∈ pd ∧ ι n = none ∧ b0 ≤ n ∧ n < H.next ∧
        obj.loose = false ∧ ∀ (ι : Inj) (a : Act) (w : World), FR ι g a.tmps → ∃ s, Alc C.P s ι w obj mk ∧ execOp a.eval o = (do pure (.value (← s)))))

theorem opV_noheap {P : Program} {E : List TypeId} {f : Fr} {h h' : Heap} {o : Op} (hR : isR o = true) (hh : isHeap o = false) {Q : Value → Prop} (H : opV P E f h o (fun v _ => Q v)) : opV P E f h' o (fun v _ => Q v) := by
  unfold opV at H ⊢
  cases o <;> first | (cases hR; done) | (cases hh; done) | exact H | skip
  case call c =>
    obtain ⟨callee, args, tys⟩ := c
    cases callee with
    | value v => cases hR
    | invoke r m => cases hR
    | builtin b =>
      obtain ⟨l, hl, H⟩ := (get_iff _ _).1 H
      refine (get_iff _ _).2 ⟨_, hl, ?_⟩
      cases b <;> first | (cases hR; done) | (cases hh; done) | skip
      all_goals exact blt_same (by simp) H

theorem HR.ghost {ι : Inj} {w0 : Base} {h : Heap} {w : World} (r : HR ι w0 h w) (o : AObj) : HR ⟨ι.f, ι.bound + 1⟩ w0 (h.new o) w := by
  have hne : ∀ β p, ι β = some p → β ≠ h.next := fun β p e => Nat.ne_of_lt (r.dom β p e)
  refine ⟨r.below, by simp [r.bnd], fun β p e => Nat.lt_succ_of_lt (r.dom β p e), fun β hβ => ?_, fun β x b s h1 h2 => ?_, fun β γ b s t x y hn h1 h2 h3 h4 => ?_⟩
  · simp at hβ
    rw [Heap.get_new, if_neg (by omega)]; exact r.fresh β (by omega)
  · rw [Heap.get_new, if_neg (hne β _ h2)] at h1
    exact OR.wk (ι := ι) (κ := ⟨ι.f, ι.bound + 1⟩) (w := w) (w' := w) (show Inj.wk ι _ from fun _ _ e => e) rfl (r.objs β x b s h1 h2)
  · rw [Heap.get_new, if_neg (hne _ _ h1)] at h3
    rw [Heap.get_new, if_neg (hne _ _ h2)] at h4
    exact r.inj β γ b s t x y hn h1 h2 h3 h4

theorem HR.realize {ι : Inj} {w0 : Base} {h : Heap} {w : World} (r : HR ι w0 h w) {n : Nat} {x : Obj} {s : Nat × Nat} {obj : AObj} (hg : h.get n = some obj) (hn : ι n = none) (hlt : n < h.next)
    (ho : OR (ι.set n (w.heap.size, s)) w0.prot { w with heap := w.heap.push x } w.heap.size s obj) : HR (ι.set n (w.heap.size, s)) w0 h { w with heap := w.heap.push x } := by
  have hw := Inj.wk_set hn (w.heap.size, s)
  have hpush : ∀ k, k < w.heap.size → (w.heap.push x)[k]? = w.heap[k]? := fun k hk => by rw [Array.getElem?_push, if_neg (by omega)]
  refine ⟨⟨r.below.os, r.below.tape, r.below.output, ?_, fun k hk => ?_⟩, ?_, ?_, r.fresh, ?_, ?_⟩
  · have := r.below.size; simp; omega
  · have := r.below.size
    show (w.heap.push x)[k]? = _
    rw [hpush k (by have := w0.lt k hk; omega)]; exact r.below.block k hk
  · have := r.bnd
    show Nat.max ι.bound (n + 1) = h.next
    rw [this]; exact Nat.max_eq_left hlt
  · intro β p hp
    rw [Inj.set_at] at hp
    split at hp
    · subst β; exact hlt
    · exact r.dom β p hp
  · intro β o' b t h1 h2
    rw [Inj.set_at] at h2
    split at h2
    · rename_i e; subst e; cases h2; rw [hg] at h1; cases h1; exact ho
    · have hr := r.objs β o' b t h1 h2
      by_cases hd : o' = .dead
      · subst hd; trivial
      · exact hr.wk hw (hpush b (hr.lt hd))
  · intro β γ b s' t o1 p1 hne h1 h2 h3 h4
    rw [Inj.set_at] at h1 h2
    by_cases e1 : β = n
    · by_cases e2 : γ = n
      · exact absurd (e1.trans e2.symm) hne
      · rw [if_pos e1] at h1; rw [if_neg e2] at h2
        cases h1
        by_cases hd : p1 = .dead
        · exact .inr (.inr hd)
        · exact absurd ((r.objs γ p1 _ _ h4 h2).lt hd) (Nat.lt_irrefl _)
    · by_cases e2 : γ = n
      · rw [if_neg e1] at h1; rw [if_pos e2] at h2
        cases h2
        by_cases hd : o1 = .dead
        · exact .inr (.inl hd)
        · exact absurd ((r.objs β o1 _ _ h3 h1).lt hd) (Nat.lt_irrefl _)
      · rw [if_neg e1] at h1; rw [if_neg e2] at h2
        exact r.inj β γ b s' t o1 p1 hne h1 h2 h3 h4

section
variable {C : Ctx} {body : Code} {ops : Array Oper} {anc ord : List Nat} {KN : Fr → Heap → Prop} {KP : Value → Fr → Heap → Prop} {ι0 : Inj} {w0 : Base} {D : Nat → Bool} {rr : Option Nat} {ds : List Deferred}

structure Inv (C : Ctx) (ops : List Oper) (anc : List Nat) (KN : Fr → Heap → Prop) (KP : Value → Fr → Heap → Prop) (ι0 : Inj) (w0 : Base) (D : Nat → Bool) (ds : List Deferred) (rest : List Nat) (pd : List Pd) (ι : Inj) (f : Fr) (H : Heap) (a : Act) (w : World) : Prop where
  le : ι0.le ι
  fr : FRd ι ops (fun j => D j || rest.contains j) f a.tmps
  hr : HR ι w0 H w
  df : a.defers = ds
  closed : ∀ i o, ops[i]? = some o → D i = true → ∀ e ∈ edgesOf o, D e = true
  nrest : ∀ i, D i = true → i ∉ rest
  ord : ordOK ops anc rest = true
  before : ∀ i k, i ∉ rest → k ∈ rest → i < ops.length → (anc.getD i 0).testBit k = false
  restlt : ∀ i ∈ rest, i < ops.length
  pend : ∀ i o, ops[i]? = some o → D i = false → i ∉ rest → Pending C ops ι0.bound ι f H pd i o
  pdlt : ∀ i n h0, Pd.al i n h0 ∈ pd → n < H.next
  pdinj : ∀ i n h0 j m h1, Pd.al i n h0 ∈ pd → Pd.al j m h1 ∈ pd → i ≠ j → n ≠ m
  pdR : ∀ i o g v, Pd.rd i o g v ∈ pd → isR o = true
  run : ∃ f0, f0.same f ∧ runD C ops anc rest pd f0 H KN KP

theorem FRd.same {ι : Inj} {ops : List Oper} {f g : Fr} {t : Array Value} (s : f.same g) (r : FRd ι ops D f t) : FRd ι ops D g t :=
  ⟨s.1.trans r.size, fun i v e => by rw [s.1]; exact r.wf i v (by rw [← s.2]; exact e), fun i v e k => r.known i v (by rw [← s.2]; exact e) k⟩
theorem Pending.same {b0 : Nat} {ι : Inj} {f g : Fr} {H : Heap} {pd : List Pd} {i : Nat} {o : Oper} {ops : List Oper} (s : f.same g) (h : Pending C ops b0 ι f H pd i o) : Pending C ops b0 ι g H pd i o := by
  obtain ⟨c, h1, h2, h3⟩ := h
  refine ⟨c, ⟨h1.1.trans s.1.symm, fun t v e => by rw [s.2]; exact h1.2 t v e⟩, h2, ?_⟩
  have keep : ∀ u, (∀ d, o.dst = some d → d < f.n → f.get d = some u) → ∀ d, o.dst = some d → d < g.n → g.get d = some u := fun u hu d e hl => by
    rw [s.2]; exact hu d e (by rw [← s.1]; exact hl)
  rcases h3 with ⟨e1, e2⟩ | ⟨e1, e2, u, e3, e4⟩ | ⟨e1, e2, n, obj, mk, h0, e3, e4⟩
  · exact .inl ⟨e1, keep _ e2⟩
  · exact .inr (.inl ⟨e1, e2, u, keep _ e3, e4⟩)
  · exact .inr (.inr ⟨e1, e2, n, obj, mk, h0, keep _ e3, e4⟩)
theorem Inv.same {ops : List Oper} {rest : List Nat} {pd : List Pd} {ι : Inj} {f g : Fr} {H : Heap} {a : Act} {w : World} (s : f.same g) (I : Inv C ops anc KN KP ι0 w0 D ds rest pd ι f H a w) :
    Inv C ops anc KN KP ι0 w0 D ds rest pd ι g H a w :=
  ⟨I.le, I.fr.same s, I.hr, I.df, I.closed, I.nrest, I.ord, I.before, I.restlt, fun i o h1 h2 h3 => (I.pend i o h1 h2 h3).same s, I.pdlt, I.pdinj, I.pdR, let ⟨f0, h1, h2⟩ := I.run; ⟨f0, h1.trans s, h2⟩⟩
theorem getlt {ops : List Oper} {i : Nat} {o : Oper} (e : ops[i]? = some o) : i < ops.length := by
  rcases Nat.lt_or_ge i ops.length with g | g
  · exact g
  · rw [List.getElem?_eq_none g] at e; cases e

/-- A slot that is put is not looked at by the pending ones. -/
theorem Pending.put (ok : OKD ops.toList anc ord) {ι ι' : Inj} {f : Fr} {H H' : Heap} {pd pd' : List Pd} {i k : Nat} {o p : Oper} {v : Value} (h : Pending C ops.toList ι0.bound ι f H pd i o) (hi : ops.toList[i]? = some o) (hk : ops.toList[k]? = some p)
    (hne : i ≠ k) (hb : (anc.getD i 0).testBit k = false) (hb2 : isW p.op = true → p.guard = none → (anc.getD k 0).testBit i = false) (hH : H.sub H') (hn : H.next ≤ H'.next) (hpd : ∀ x ∈ pd, x ∈ pd') (hι : ∀ n, n < H.next → ι n = none → ι' n = none) : Pending C ops.toList ι0.bound ι' (f.put p.dst v) H' pd' i o := by
  obtain ⟨g, h1, h2, h3⟩ := h
  have hdst : ∀ d, o.dst = some d → p.dst ≠ some d := fun d e1 e2 => by
    rcases Nat.lt_or_gt_of_ne hne with g | g
    · exact ok.dst k p i o d hk hi g e2 e1
    · exact ok.dst i o k p d hi hk g e1 e2
  have hlook : ∀ s, s ∈ looks ops.toList o → p.dst ≠ some s := fun s hs e => by
    rcases ok.looks i o s k p hi hs hk e with h | ⟨h1, h2, h3⟩
    · rw [h] at hb; cases hb
    · rw [hb2 h1 h2] at h3; cases h3
  have hget : ∀ s, p.dst ≠ some s → (f.put p.dst v).get s = f.get s := fun s hs => by
    cases hd : p.dst with
    | none => rfl
    | some d =>
      by_cases hlt : d < f.n
      · rw [Fr.get_put_some _ _ _ _ hlt, if_neg (fun e => hs (by rw [hd, e]))]
      · have hb : Nat.blt d f.n = false := by rw [Bool.eq_false_iff, ne_eq, Nat.blt_eq]; exact hlt
        simp [Fr.put, hb]
  have keep : ∀ u, (∀ d, o.dst = some d → d < f.n → f.get d = some u) → ∀ d, o.dst = some d → d < (f.put p.dst v).n → (f.put p.dst v).get d = some u := fun u hu d e hlt => by
    rw [Fr.put_n] at hlt
    rw [hget d (hdst d e)]; exact hu d e hlt
  refine ⟨g, ⟨h1.1.trans (Fr.put_n ..).symm, fun s u hs => by rw [hget s (hlook s (h2 s u hs))]; exact h1.2 s u hs⟩, h2, ?_⟩
  rcases h3 with ⟨e1, e2⟩ | ⟨e1, e2, u, e3, e4, e5⟩ | ⟨e1, e2, n, obj, mk, h0, e3, e4, e5, e6, e7, e8, e9, e10, e11⟩
  · exact .inl ⟨e1, keep _ e2⟩
  · exact .inr (.inl ⟨e1, e2, u, keep _ e3, opV_sub hH e2 e4, fun e => hpd _ (e5 e)⟩)
  · exact .inr (.inr ⟨e1, e2, n, obj, mk, h0, keep _ e3, hH _ _ e4, e5, hpd _ e6, hι _ e9 e7, e8, Nat.lt_of_lt_of_le e9 hn, e10, e11⟩)

theorem FRd.put {ι : Inj} {ops : List Oper} {f : Fr} {t : Array Value} (r : FRd ι ops D f t) {i : Nat} {o : Oper} (hi : ops[i]? = some o) (hD : D i = false) (v : Value) : FRd ι ops D (f.put o.dst v) t := by
  cases hd : o.dst with
  | none => exact r
  | some d =>
    by_cases hlt : d < f.n
    · refine ⟨by rw [Fr.put_n]; exact r.size, fun s u hs => ?_, fun s u hs hk => ?_⟩
      · rw [Fr.get_put_some _ _ _ _ hlt] at hs
        rw [Fr.put_n]
        split at hs
        · subst s; exact hlt
        · exact r.wf s u hs
      · rw [Fr.get_put_some _ _ _ _ hlt] at hs
        split at hs
        · subst s; rw [hk i o hi hd] at hD; cases hD
        · exact r.known s u hs hk
    · have hb : Nat.blt d f.n = false := by rw [Bool.eq_false_iff, ne_eq, Nat.blt_eq]; exact hlt
      simp only [Fr.put, hb, cond_false]; exact r

/-- The plan goes on to the next writing operation. -/
theorem settle (ok : OKD ops.toList anc ord) {a : Act} {w : World} : ∀ (rest : List Nat) (pd : List Pd) (ι : Inj) (f : Fr) (H : Heap), Inv C ops.toList anc KN KP ι0 w0 D ds rest pd ι f H a w →
    ∃ rest' pd' ι' f' H', Inv C ops.toList anc KN KP ι0 w0 D ds rest' pd' ι' f' H' a w ∧ (rest' = [] ∨ ∃ i post o, rest' = i :: post ∧ ops.toList[i]? = some o ∧ isW o.op = true ∧ guardIs ops.toList (f'.only (looks ops.toList o)) o true ∧
      opK C (f'.only (looks ops.toList o)) H' o.op (fun v h' => pdsK C h' (anc.getD i 0) pd' (runD C ops.toList anc post pd' (f'.put o.dst v) h' KN KP)) (fun v h' => KP v ⟨f'.n, .nil⟩ h'))
  | [], pd, ι, f, H, I => ⟨[], pd, ι, f, H, I, .inl rfl⟩
  | i :: post, pd, ι, fI, H, II => by
    obtain ⟨f0, hs0, hrun⟩ := II.run
    simp only [runD, get_iff] at hrun
    obtain ⟨o, ho, hrun⟩ := hrun
    obtain ⟨f, hs1, hcase⟩ := wantK_inv hrun
    have I := II.same (hs0.symm.trans hs1)
    clear hrun
    have hD : D i = false := by
      cases e : D i with
      | false => rfl
      | true => exact absurd (by simp) (I.nrest i e)
    have hord := I.ord
    simp only [ordOK, Bool.and_eq_true, List.all_eq_true] at hord
    have hnot : ∀ k ∈ post, (anc.getD i 0).testBit k = false ∧ i ≠ k := fun k hk => by
      have := (hord.1 k hk).2
      simp only [Bool.not_eq_true'] at this
      exact ⟨this.1, fun e => by subst e; simp [Nat.beq_refl] at this⟩
    have hgle : (f.only (looks ops.toList o)).le f := ⟨rfl, fun s v hs => by rw [Fr.get_only] at hs; split at hs <;> simp_all⟩
    have hglk : ∀ s v, (f.only (looks ops.toList o)).get s = some v → s ∈ looks ops.toList o := fun s v hs => by
      rw [Fr.get_only] at hs; split at hs
      · assumption
      · cases hs
    have hlookd : ∀ s, s ∈ looks ops.toList o → o.dst ≠ some s := fun s hs e => by
      have hb : (anc.getD i 0).testBit i = true := by
        rcases ok.looks i o s i o ho hs ho e with h | ⟨_, _, h⟩ <;> exact h
      -- an operation is not ahead of itself
      have : ∀ (n k : Nat) (p : Oper), k < n → ops.toList[k]? = some p → (anc.getD k 0).testBit i = true → i < k := by
        intro n
        induction n with
        | zero => intro k p hk; omega
        | succ n ih =>
          intro k p hk hp hb
          rw [ok.ancs k p hp] at hb
          obtain ⟨e, he, hx⟩ := mask_bit hb
          have hlt := ok.lt k p e hp he
          rcases hx with rfl | hx
          · exact hlt
          · have hg : (anc.take k).getD e 0 = anc.getD e 0 := by simp only [List.getD_eq_getElem?_getD, List.getElem?_take, hlt, if_true]
            rw [hg] at hx
            have hel : e < ops.toList.length := Nat.lt_trans hlt (getlt hp)
            have := ih e _ (by omega) (List.getElem?_eq_getElem hel) hx
            omega
      have := this (i + 1) i o (by omega) ho hb
      omega
    have hle2 : ∀ v, (f.only (looks ops.toList o)).le (f.put o.dst v) := fun v => ⟨(Fr.put_n f o.dst v).symm, fun s u hs => by
      have h1 := hlookd s (hglk s u hs)
      rw [← hgle.2 s u hs]
      cases hd : o.dst with
      | none => rfl
      | some d =>
        by_cases hlt : d < f.n
        · rw [Fr.get_put_some _ _ _ _ hlt, if_neg (fun e => h1 (by rw [hd, e]))]
        · have hb : Nat.blt d f.n = false := by rw [Bool.eq_false_iff, ne_eq, Nat.blt_eq]; exact hlt
          simp [Fr.put, hb]⟩
    have hown : ∀ v d, o.dst = some d → d < (f.put o.dst v).n → (f.put o.dst v).get d = some v := fun v d e hlt => by
      rw [Fr.put_n] at hlt
      rw [e, Fr.get_put_some _ _ _ _ hlt, if_pos rfl]
    -- one step of the plan
    have hirest : post.contains i = false := by
      rw [Bool.eq_false_iff]
      intro h
      exact (hnot i (by simpa using h)).2 rfl
    have step : (isW o.op = true → o.guard = none → False) → ∀ (pd' : List Pd) (ι' : Inj) (v : Value) (H' : Heap), ι.le ι' → (∀ n, n < H.next → ι n = none → ι' n = none) → HR ι' w0 H' w → H.sub H' → H.next ≤ H'.next → (∀ x ∈ pd, x ∈ pd') →
        Pending C ops.toList ι0.bound ι' (f.put o.dst v) H' pd' i o → (∀ i n h0, Pd.al i n h0 ∈ pd' → n < H'.next) → (∀ i n h0 j m h1, Pd.al i n h0 ∈ pd' → Pd.al j m h1 ∈ pd' → i ≠ j → n ≠ m) → (∀ i o g v, Pd.rd i o g v ∈ pd' → isR o = true) →
        runD C ops.toList anc post pd' (f.put o.dst v) H' KN KP → Inv C ops.toList anc KN KP ι0 w0 D ds post pd' ι' (f.put o.dst v) H' a w := by
      intro hnW pd' ι' v H' h1 h2 h3 h4 h5 h6 h7 h8 h9 h9b h10
      refine ⟨Inj.le_trans I.le h1, ((I.fr.wk h1.1).anti (fun j hj => by
        simp only [Bool.or_eq_true, List.contains_cons] at hj ⊢
        rcases hj with h | h
        · exact .inl h
        · exact .inr (.inr h))).put ho (by simp only [hD, hirest, Bool.or_false]) v, h3, I.df, I.closed, fun k hk hm => I.nrest k hk (by simp [hm]), hord.2, fun k m hk hm hlen => ?_, fun k hk => I.restlt k (by simp [hk]), fun k p hp hDk hk => ?_, h8, h9, h9b, ⟨_, Fr.same_refl _, h10⟩⟩
      · by_cases e : k = i
        · subst e; exact (hnot m hm).1
        · exact I.before k m (by simp [e, hk]) (by simp [hm]) hlen
      · by_cases e : k = i
        · subst e; rw [ho] at hp; cases hp; exact h7
        · exact (I.pend k p hp hDk (by simp [e, hk])).put ok hp ho e (I.before k i (by simp [e, hk]) (by simp) (getlt hp)) (fun h1 h2 => (hnW h1 h2).elim) h4 h5 h6 h2
    rcases hcase with ⟨hg, hone⟩ | ⟨hg, hskip⟩
    · cases hR : isR o.op with
      | true =>
        simp only [oneD, hR, cond_true] at hone
        obtain ⟨v, hK, hrep⟩ := opV_det hR _ hone
        refine settle ok post _ ι _ H (step (fun h _ => by simp [isW, hR] at h) (cond (isHeap o.op) (.rd i o.op (f.only (looks ops.toList o)) v :: pd) pd) ι v H (Inj.le_refl ι) (fun _ _ e => e) I.hr (Heap.sub_refl H) (Nat.le_refl _)
          (fun x hx => by cases isHeap o.op <;> simp [hx]) ⟨_, hle2 v, hglk, .inr (.inl ⟨hg, hR, v, hown v, hrep _ rfl, fun e => by rw [e]; simp⟩)⟩ (fun j n h0 hm => ?_) (fun j n h0 k m h1 hm1 hm2 hne => ?_) (fun j o' g' v' hm => ?_) hK)
        · cases hh : isHeap o.op <;> rw [hh] at hm <;> simp at hm <;> exact I.pdlt j n h0 hm
        · cases hh : isHeap o.op <;> rw [hh] at hm1 hm2 <;> simp at hm1 hm2 <;> exact I.pdinj j n h0 k m h1 hm1 hm2 hne
        · cases hh : isHeap o.op <;> rw [hh] at hm <;> simp at hm
          · exact I.pdR j o' g' v' hm
          · rcases hm with ⟨_, rfl, _⟩ | hm
            · exact hR
            · exact I.pdR j o' g' v' hm
      | false =>
        cases hA : isA o.op with
        | true =>
          simp only [oneD, hR, hA, cond_true, cond_false, withHF_eq] at hone
          obtain ⟨obj, mk, hlo, hK, halc⟩ := opV_alc hA hone
          have hK' : runD C ops.toList anc post (.al i H.next (H.new obj) :: pd) (f.put o.dst (mk H.next)) (H.new obj) KN KP := hK
          have hsub : H.sub (H.new obj) := fun β x e => by
            rw [Heap.get_new, if_neg]
            · exact e
            · intro e2; subst e2; rw [I.hr.fresh _ (Nat.le_refl _)] at e; cases e
          have hself : (H.new obj).get H.next = some obj := by rw [Heap.get_new, if_pos rfl]
          have hb0 : ι0.bound ≤ H.next := by rw [← I.hr.bnd]; exact I.le.2.1
          have hnone : ι H.next = none := by
            cases e : ι H.next with
            | none => rfl
            | some p => exact absurd (I.hr.dom _ _ e) (Nat.lt_irrefl _)
          refine settle ok post _ ⟨ι.f, ι.bound + 1⟩ _ (H.new obj) (step (fun h _ => by simp [isW, hA] at h) (.al i H.next (H.new obj) :: pd) ⟨ι.f, ι.bound + 1⟩ (mk H.next) (H.new obj) ⟨fun _ _ e => e, Nat.le_succ _, fun _ _ e => e⟩ (fun _ _ e => e) (I.hr.ghost obj) hsub (Nat.le_succ _)
            (fun x hx => by simp [hx]) ⟨_, hle2 _, hglk, .inr (.inr ⟨hg, hA, H.next, obj, mk, H.new obj, hown _, hself, hself, by simp, hnone, hb0, Nat.lt_succ_self _, hlo, fun ι a w hf => by
              obtain ⟨dst, op, ty, pos, after, guard⟩ := o
              exact halc ι a w hf⟩)⟩ (fun j n h0 hm => ?_) (fun j n h0 k m h1 hm1 hm2 hne => ?_) (fun j o' g' v' hm => by simp at hm; exact I.pdR j o' g' v' hm) hK')
          · simp only [List.mem_cons, Pd.al.injEq] at hm
            rcases hm with ⟨_, rfl, _⟩ | hm
            · exact Nat.lt_succ_self _
            · exact Nat.lt_succ_of_lt (I.pdlt j n h0 hm)
          · simp only [List.mem_cons, Pd.al.injEq] at hm1 hm2
            rcases hm1 with ⟨rfl, rfl, _⟩ | hm1 <;> rcases hm2 with ⟨rfl, rfl, _⟩ | hm2
            · exact absurd rfl hne
            · exact Nat.ne_of_gt (I.pdlt k m h1 hm2)
            · exact Nat.ne_of_lt (I.pdlt j n h0 hm1)
            · exact I.pdinj j n h0 k m h1 hm1 hm2 hne
        | false =>
          simp only [oneD, hR, hA, cond_false] at hone
          exact ⟨i :: post, pd, ι, f, H, I, .inr ⟨i, post, o, rfl, ho, by simp [isW, hR, hA], hg, hone⟩⟩
    · exact settle ok post _ ι _ H (step (fun _ h => by simp [guardIs, h] at hg) pd ι undef H (Inj.le_refl ι) (fun _ _ e => e) I.hr (Heap.sub_refl H) (Nat.le_refl _) (fun _ h => h) ⟨_, hle2 _, hglk, .inl ⟨hg, hown _⟩⟩ I.pdlt I.pdinj I.pdR hskip)

theorem FRd.step {ι : Inj} {ops : Array Oper} {D : Nat → Bool} {f : Fr} {a : Act} (r : FRd ι ops.toList D f a.tmps) {i : Nat} {o : Oper} {v v' : Value} (hi : ops.toList[i]? = some o) (hd : ∀ d, o.dst = some d → d < f.n → f.get d = some v) (hv : V ι v v')
    (hother : ∀ j p t, ops.toList[j]? = some p → j ≠ i → o.dst = some t → p.dst ≠ some t) : FRd ι ops.toList (fun j => cond (Nat.beq j i) true (D j)) f (a.put o.dst v').tmps := by
  have hD : ∀ s, (∀ j p, ops.toList[j]? = some p → p.dst = some s → cond (Nat.beq j i) true (D j) = true) → o.dst ≠ some s → ∀ j p, ops.toList[j]? = some p → p.dst = some s → D j = true := fun s h hne j p hj hp => by
    have := h j p hj hp
    cases hb : Nat.beq j i with
    | true =>
      have := Nat.eq_of_beq_eq_true hb
      subst this; rw [hi] at hj; cases hj; exact absurd hp hne
    | false => rw [hb] at this; exact this
  cases hod : o.dst with
  | none => exact ⟨r.size, r.wf, fun s u hs hk => r.known s u hs (hD s hk (by simp [hod]))⟩
  | some d =>
    refine ⟨by simp [Act.put, r.size], r.wf, fun s u hs hk => ?_⟩
    by_cases e : s = d
    · subst e
      have hlt := r.wf s u hs
      rw [hd s hod hlt] at hs; cases hs
      exact ⟨v', by simp [Act.put, ← r.size, hlt], hv⟩
    · obtain ⟨u', h1, h2⟩ := r.known s u hs (hD s hk (by rw [hod]; intro g; cases g; exact e rfl))
      refine ⟨u', ?_, h2⟩
      simp only [Act.put]
      rw [Array.getElem?_setIfInBounds_ne (fun h => e h.symm)]; exact h1

theorem kEq_of {j k : IntKind} (h : kEq j k = true) : j = k := kEq_eq h
theorem scalE_eq {x y : Value} (h : scalE x y = true) : x = y := by
  unfold scalE at h
  split at h <;> (try simp only [Bool.and_eq_true, beq_iff_eq] at h)
  · rw [kEq_eq h.1, h.2]
  · rw [h]
  · rename_i a b
    have : a = b := bytes_eq (by simpa using h)
    rw [this]
  · rfl
  · rw [addrE_eq h]
  · rw [Nat.eq_of_beq_eq_true h.1, Nat.eq_of_beq_eq_true h.2]
  · rw [addrE_eq h.1, Nat.eq_of_beq_eq_true h.2.1, Nat.eq_of_beq_eq_true h.2.2]
  · rfl
  · rw [Nat.eq_of_beq_eq_true h]
  · cases h
theorem cellsE_eq : ∀ {xs ys : List Value}, cellsE xs ys = true → xs = ys
  | [], [], _ => rfl
  | [], _ :: _, h => by cases h
  | _ :: _, [], h => by cases h
  | x :: xs, y :: ys, h => by
    simp only [cellsE, Bool.and_eq_true] at h
    rw [scalE_eq h.1, cellsE_eq h.2]
theorem valE_eq {x y : Value} (h : valE x y = true) : x = y := by
  unfold valE at h
  split at h
  · rename_i xs ys
    have := cellsE_eq h
    rw [Array.toList_inj.1 this]
  · exact scalE_eq h
theorem objE_eq {x y : Option AObj} (h : objE x y = true) : x = y := by
  unfold objE at h
  split at h
  · simp only [Bool.and_eq_true, beq_iff_eq] at h
    rw [cellsE_eq h.1, h.2]
  · rfl
  · cases h

theorem pdsK_inv {h : Heap} {m : Nat} {k : Prop} : ∀ {pd : List Pd}, (∀ i o g v, Pd.rd i o g v ∈ pd → isR o = true) → pdsK C h m pd k → k ∧ (∀ i o g v, Pd.rd i o g v ∈ pd → m.testBit i = false → opV C.P C.E g h o (fun v' _ => v' = v)) ∧ (∀ i n h0, Pd.al i n h0 ∈ pd → m.testBit i = false → h.get n = h0.get n)
  | [], _, hk => ⟨hk, by simp, by simp⟩
  | .rd i o g v :: r, hR, hk => by
    have hR' : ∀ i o g v, Pd.rd i o g v ∈ r → isR o = true := fun i o g v hm => hR i o g v (by simp [hm])
    simp only [pdsK] at hk
    cases hb : m.testBit i with
    | true =>
      rw [hb] at hk
      obtain ⟨h1, h2, h3⟩ := pdsK_inv hR' hk
      exact ⟨h1, fun j p g' u hm hj => by
        simp only [List.mem_cons, Pd.rd.injEq] at hm
        rcases hm with ⟨rfl, _⟩ | hm
        · rw [hb] at hj; cases hj
        · exact h2 j p g' u hm hj, fun j n h0 hm hj => by simp at hm; exact h3 j n h0 hm hj⟩
    | false =>
      rw [hb] at hk
      have hk' : opV C.P C.E g h o (fun v' _ => v' = v) ∧ pdsK C h m r k := by
        cases hf : Nat.beq C.fuel 0 with
        | true => rw [hf] at hk; exact hk
        | false =>
          rw [hf] at hk
          have hk2 : opV C.P C.E g h o (fun v' _ => chk (valE v' v) (pdsK C h m r k)) := hk
          obtain ⟨u, hu, hrep⟩ := opV_det (hR i o g v (by simp)) _ hk2
          obtain ⟨e, hu⟩ := (chk_iff _ _).1 hu
          exact ⟨hrep _ (valE_eq e), hu⟩
      obtain ⟨hv, hk⟩ := hk'
      obtain ⟨h1, h2, h3⟩ := pdsK_inv hR' hk
      exact ⟨h1, fun j p g' u hm hj => by
        simp only [List.mem_cons, Pd.rd.injEq] at hm
        rcases hm with ⟨rfl, rfl, rfl, rfl⟩ | hm
        · exact hv
        · exact h2 j p g' u hm hj, fun j n h0 hm hj => by simp at hm; exact h3 j n h0 hm hj⟩
  | .al i n h0 :: r, hR, hk => by
    have hR' : ∀ i o g v, Pd.rd i o g v ∈ r → isR o = true := fun i o g v hm => hR i o g v (by simp [hm])
    simp only [pdsK] at hk
    cases hb : m.testBit i with
    | true =>
      rw [hb] at hk
      obtain ⟨h1, h2, h3⟩ := pdsK_inv hR' hk
      exact ⟨h1, fun j p g' u hm hj => by simp at hm; exact h2 j p g' u hm hj, fun j n' h0' hm hj => by
        simp only [List.mem_cons, Pd.al.injEq] at hm
        rcases hm with ⟨rfl, _⟩ | hm
        · rw [hb] at hj; cases hj
        · exact h3 j n' h0' hm hj⟩
    | false =>
      rw [hb] at hk
      have hk' : h.get n = h0.get n ∧ pdsK C h m r k := by
        cases hf : Nat.beq C.fuel 0 with
        | true => rw [hf] at hk; exact hk
        | false =>
          rw [hf] at hk
          obtain ⟨e, hu⟩ := (chk_iff _ _).1 hk
          exact ⟨objE_eq e, hu⟩
      obtain ⟨hv, hk⟩ := hk'
      obtain ⟨h1, h2, h3⟩ := pdsK_inv hR' hk
      exact ⟨h1, fun j p g' u hm hj => by simp at hm; exact h2 j p g' u hm hj, fun j n' h0' hm hj => by
        simp only [List.mem_cons, Pd.al.injEq] at hm
        rcases hm with ⟨rfl, rfl, rfl⟩ | hm
        · exact hv
        · exact h3 j n' h0' hm hj⟩

/-- Where a pending operation stands, its frame is so. -/
theorem FRd.cut {ι : Inj} {ops : List Oper} {D' : Nat → Bool} {f g : Fr} {t : Array Value} (ok : OKD ops anc ord) (r : FRd ι ops D' f t) (hDD : ∀ j, D j = true → D' j = true) (hc : ∀ i o, ops[i]? = some o → D i = true → ∀ e ∈ edgesOf o, D e = true)
    {i : Nat} {o : Oper} (hi : ops[i]? = some o) (he : ∀ e ∈ edgesOf o, D e = true) (hW : ∀ j p, ops[j]? = some p → isW p.op = true → p.guard = none → (anc.getD j 0).testBit i = true → D' j = true) (hg : g.le f) (hl : ∀ s v, g.get s = some v → s ∈ looks ops o) : FR ι g t :=
  ⟨hg.1.trans r.size, fun s v hs => r.known s v (hg.2 s v hs) fun j p hj hp => by
    rcases ok.looks i o s j p hi (hl s v hs) hj hp with h | ⟨h1, h2, h3⟩
    · exact hDD j (anc_in ok hc (i + 1) i o (by omega) hi he h)
    · exact hW j p hj h1 h2 h3⟩
/-- A writing operation that is not yet listed is ahead. -/
theorem Inv.ahead {ops : List Oper} {rest : List Nat} {pd : List Pd} {ι : Inj} {f : Fr} {H : Heap} {a : Act} {w : World} (ok : OKD ops anc ord) (I : Inv C ops anc KN KP ι0 w0 D ds rest pd ι f H a w) {i : Nat} (hi : D i = false) (j : Nat) (p : Oper) (hj : ops[j]? = some p) (h1 : isW p.op = true) (h2 : p.guard = none)
    (h3 : (anc.getD j 0).testBit i = true) : (D j || rest.contains j) = true := by
  have hDj : D j = false := by
    cases e : D j with
    | false => rfl
    | true =>
      have := anc_in ok I.closed (j + 1) j p (by omega) hj (I.closed j p hj e) h3
      rw [hi] at this; cases this
  rw [hDj, Bool.false_or]
  by_cases hm : j ∈ rest
  · simpa using hm
  · obtain ⟨g, _, _, h⟩ := I.pend j p hj hDj hm
    rcases h with ⟨e1, _⟩ | ⟨e1, e2, _⟩ | ⟨e1, e2, _⟩
    · simp [guardIs, h2] at e1
    · simp [isW, e2] at h1
    · simp [isW, e2] at h1

theorem any_order (hC : CtxOK C body) (hy : YD C w0 ι0) (ok : OKD ops.toList anc ord) {Q : Exit → Act → World → Prop}
    (hQ : ∀ κ f h a w, ι0.le κ → FR κ f a.tmps → HR κ w0 h w → a.defers = ds → KN f h → Q .normal a w)
    (hP : ∀ κ v v' n h a w, ι0.le κ → V κ v v' → n = a.tmps.size → HR κ w0 h w → a.defers = ds → KP v ⟨n, .nil⟩ h → Q (.panic [{ v := v', recovered := false }]) a w) :
    ∀ (fuel : Nat) (listed : Array Bool) (left rest : List Nat) (pd : List Pd) (ι : Inj) (f : Fr) (H : Heap) (a : Act) (w : World), listed.size = ops.size → left.length ≤ fuel → (∀ i, i < ops.size → listed.getD i false = false → i ∈ left) →
      Inv C ops.toList anc KN KP ι0 w0 (fun i => listed.getD i false) ds rest pd ι f H a w → wpAnyIn (fen rr) 0 C.P .any ops Q fuel listed a w := by
  have nothing : ∀ (listed : Array Bool) (rest : List Nat) (pd : List Pd) (ι : Inj) (f : Fr) (H : Heap) (a : Act) (w : World), (∀ i, i < ops.size → listed.getD i false = true) →
      Inv C ops.toList anc KN KP ι0 w0 (fun i => listed.getD i false) ds rest pd ι f H a w → Q .normal a w := by
    intro listed rest pd ι f H a w hall I
    have hrest : rest = [] := by
      cases rest with
      | nil => rfl
      | cons i r =>
        have hi := I.restlt i (by simp)
        exact absurd (List.mem_cons_self ..) (I.nrest i (hall i (by simpa using hi)))
    subst hrest
    obtain ⟨f0, hs0, hK⟩ := I.run
    simp only [runD] at hK
    have I0 := I.same hs0.symm
    refine hQ ι f0 H a w I.le ⟨I0.fr.size, fun s v hs => I0.fr.known s v hs fun i o hi _ => by rw [hall i (by simpa using getlt hi)]; rfl⟩ I.hr I.df hK
  intro fuel
  induction fuel with
  | zero =>
    intro listed left rest pd ι f H a w hsz hl hin I
    have hnil : left = [] := List.eq_nil_of_length_eq_zero (by omega)
    have hall : ∀ i, i < ops.size → listed.getD i false = true := fun i hi => by
      cases e : listed.getD i false with
      | true => rfl
      | false => have := hin i hi e; rw [hnil] at this; cases this
    refine ⟨?_, nothing listed rest pd ι f H a w hall I⟩
    apply List.eq_nil_iff_forall_not_mem.2
    intro j hj
    obtain ⟨h1, o, h2, _⟩ := mem_ready.1 hj
    have hj' : j < ops.size := (Array.getElem?_eq_some_iff.1 h2).1
    have := hall j hj'
    simp [Array.getD_eq_getD_getElem?, hsz, hj'] at h1 this
    rw [h1] at this; cases this
  | succ fuel ih =>
    intro listed left rest pd ι f H a w hsz hl hin I
    obtain ⟨rest, pd, ι, f, H, I, hstop⟩ := settle ok rest pd ι f H I
    refine ⟨fun hr => ?_, fun i hi => ?_⟩
    · refine nothing listed rest pd ι f H a w (fun i => ?_) I
      -- the least one that is left would be ready
      induction i using Nat.strongRecOn with
      | ind i ihi =>
        intro hi
        cases e : listed.getD i false with
        | true => rfl
        | false =>
          exfalso
          have hoi : ops[i]? = some ops[i] := Array.getElem?_eq_getElem hi
          have hoi' : ops.toList[i]? = some ops[i] := by simp
          have : i ∈ Region.ready .any ops listed := by
            refine mem_ready.2 ⟨?_, ops[i], hoi, fun ed he hb => ?_⟩
            · simp [Array.getD_eq_getD_getElem?, hsz, hi] at e ⊢; exact e
            · have hem : ed.on ∈ edgesOf ops[i] := by
                simp only [edgesOf, List.mem_map, List.mem_filter]
                exact ⟨ed, ⟨by simpa using he, hb⟩, rfl⟩
              have hlt := ok.lt i _ _ hoi' hem
              exact ihi _ hlt (by omega)
          rw [hr] at this; cases this
    · obtain ⟨hli, o, ho, hafter⟩ := mem_ready.1 hi
      have hilt : i < ops.size := (Array.getElem?_eq_some_iff.1 ho).1
      have ho' : ops.toList[i]? = some o := by simpa using ho
      have hDi : listed.getD i false = false := by simp [Array.getD_eq_getD_getElem?, hsz, hilt] at hli ⊢; exact hli
      have hedge : ∀ e ∈ edgesOf o, listed.getD e false = true := fun e he => by
        simp only [edgesOf, List.mem_map, List.mem_filter] at he
        obtain ⟨ed, ⟨h1, h2⟩, rfl⟩ := he
        exact hafter ed (by simpa using h1) h2
      have hanc : ∀ j, (anc.getD i 0).testBit j = true → listed.getD j false = true := fun j hj => anc_in ok I.closed (i + 1) i o (by omega) ho' hedge hj
      have hset : ∀ j, (listed.setIfInBounds i true).getD j false = cond (Nat.beq j i) true (listed.getD j false) := fun j => by
        by_cases e : j = i
        · subst e; simp [Array.getD_eq_getD_getElem?, hsz, hilt]
        · have hb : Nat.beq j i = false := by
            cases hb : Nat.beq j i with
            | false => rfl
            | true => exact absurd (Nat.eq_of_beq_eq_true hb) e
          rw [hb]; exact getD_set_ne false (fun h => e h.symm)
      have hother : ∀ j p t, ops.toList[j]? = some p → j ≠ i → o.dst = some t → p.dst ≠ some t := fun j p t hj hne h1 h2 => by
        rcases Nat.lt_or_gt_of_ne hne with g | g
        · exact ok.dst i o j p t ho' hj g h1 h2
        · exact ok.dst j p i o t hj ho' g h2 h1
      have hleft : ∀ j, j < ops.size → (listed.setIfInBounds i true).getD j false = false → j ∈ left.erase i := fun j hj e => by
        rw [hset] at e
        cases hb : Nat.beq j i with
        | true => rw [hb] at e; cases e
        | false =>
          rw [hb] at e
          exact (List.mem_erase_of_ne (fun h => by subst h; simp [Nat.beq_refl] at hb)).2 (hin j hj e)
      have hlen : (left.erase i).length ≤ fuel := by
        rw [List.length_erase_of_mem (hin i hilt hDi)]; omega
      have hsz' : (listed.setIfInBounds i true).size = ops.size := by simp [hsz]
      have hclosed : ∀ k p, ops.toList[k]? = some p → (listed.setIfInBounds i true).getD k false = true → ∀ e ∈ edgesOf p, (listed.setIfInBounds i true).getD e false = true := fun k p hk hD e he => by
        rw [hset] at hD ⊢
        have : listed.getD e false = true := by
          cases hb : Nat.beq k i with
          | true => have := Nat.eq_of_beq_eq_true hb; subst this; rw [ho'] at hk; cases hk; exact hedge e he
          | false => rw [hb] at hD; exact I.closed k p hk hD e he
        rw [this]; cases Nat.beq e i <;> rfl
      have hfun : (fun j => (listed.setIfInBounds i true).getD j false) = fun j => cond (Nat.beq j i) true (listed.getD j false) := funext hset
      -- the writing operation, or one that is pending
      by_cases hm : i ∈ rest
      · rcases hstop with rfl | ⟨k, post, p, rfl, hk, hW, hg, hop⟩
        · cases hm
        · have hik : i = k := by
            rcases List.mem_cons.1 hm with e | hm
            · exact e
            · exfalso
              have hord := I.ord
              simp only [ordOK, Bool.and_eq_true, List.all_eq_true] at hord
              have := (hord.1 i hm).1
              rw [hk] at this
              simp only [Option.map_some, Option.getD_some, hW, Bool.not_true, Bool.false_or] at this
              exact I.nrest k (hanc k this) (by simp)
          subst hik
          rw [ho'] at hk; cases hk
          have hgle : (f.only (looks ops.toList o)).le f := ⟨rfl, fun s v hs => by rw [Fr.get_only] at hs; split at hs <;> simp_all⟩
          have hglk : ∀ s v, (f.only (looks ops.toList o)).get s = some v → s ∈ looks ops.toList o := fun s v hs => by
            rw [Fr.get_only] at hs; split at hs
            · assumption
            · cases hs
          have hfr := I.fr.cut ok (fun j hj => by rw [hj]; rfl) I.closed ho' hedge (I.ahead ok hDi) hgle hglk
          have hord := I.ord
          simp only [ordOK, Bool.and_eq_true, List.all_eq_true] at hord
          have hnot : ∀ k ∈ post, (anc.getD i 0).testBit k = false ∧ i ≠ k := fun k hk => by
            have := (hord.1 k hk).2
            simp only [Bool.not_eq_true'] at this
            exact ⟨this.1, fun e => by subst e; simp [Nat.beq_refl] at this⟩
          unfold wpOpIn
          simp only [ho, guard_wanted hfr hg, if_true]
          refine opK_sound hC (hy.mono (Over.refl w0) I.le) hfr I.hr hop (fun κ v v' h' w' h1 h2 h3 h4 => ?_) (fun κ v v' h' w' h1 h2 h3 h4 => hP κ v v' _ h' a w' (Inj.le_trans I.le h1) h2 I.fr.size h3 I.df h4)
          obtain ⟨hrun, hrd, hal⟩ := pdsK_inv I.pdR h4
          have hnx : H.next ≤ h'.next := by rw [← I.hr.bnd, ← h3.bnd]; exact h1.2.1
          refine ih _ (left.erase i) post pd κ (f.put o.dst v) h' _ w' hsz' hlen hleft ⟨Inj.le_trans I.le h1, ?_, h3, by cases o.dst <;> exact I.df, hclosed, fun k hk hmk => ?_, hord.2, fun k m hkp hmp hkl => ?_, fun k hk => I.restlt k (by simp [hk]), fun k p hp hDk hk => ?_,
            fun j n h0 hm => Nat.lt_of_lt_of_le (I.pdlt j n h0 hm) hnx, I.pdinj, I.pdR, ⟨_, Fr.same_refl _, hrun⟩⟩
          · have hip : post.contains i = false := by
              rw [Bool.eq_false_iff]
              intro h
              exact (hnot i (by simpa using h)).2 rfl
            refine FRd.anti (D := fun j => cond (Nat.beq j i) true (listed.getD j false || post.contains j)) (fun j hj => ?_) <| FRd.step (D := fun j => listed.getD j false || post.contains j) (((I.fr.wk h1.1).anti (fun j hj => by
              simp only [Bool.or_eq_true, List.contains_cons] at hj ⊢
              rcases hj with h | h
              · exact .inl h
              · exact .inr (.inr h))).put ho' (by simp only [hDi, hip, Bool.or_false]) v) ho' (fun d e hlt => ?_) h2 hother
            · rw [hset] at hj
              cases hb : Nat.beq j i with
              | true => rfl
              | false => rw [hb] at hj; exact hj
            rw [Fr.put_n] at hlt
            rw [e, Fr.get_put_some _ _ _ _ hlt, if_pos rfl]
          · simp only [hset] at hk
            cases hb : Nat.beq k i with
            | true => exact (hnot k hmk).2 (Nat.eq_of_beq_eq_true hb).symm
            | false => rw [hb] at hk; exact I.nrest k hk (by simp [hmk])
          · by_cases e : k = i
            · subst e; exact (hnot m hmp).1
            · exact I.before k m (by simp [e, hkp]) (by simp [hmp]) hkl
          · simp only [hset] at hDk
            have hki : k ≠ i := fun e => by subst e; simp [Nat.beq_refl] at hDk
            have hDk' : listed.getD k false = false := by
              cases hb : Nat.beq k i with
              | true => rw [hb] at hDk; cases hDk
              | false => rw [hb] at hDk; exact hDk
            have hbit : (anc.getD i 0).testBit k = false := by
              cases e : (anc.getD i 0).testBit k with
              | false => rfl
              | true => have := hanc k e; rw [hDk'] at this; cases this
            have hpe : Pending C ops.toList ι0.bound κ f h' pd k p := by
              obtain ⟨g, g1, g2, g3⟩ := I.pend k p hp hDk' (by simp [hki, hk])
              refine ⟨g, g1, g2, ?_⟩
              rcases g3 with ⟨e1, e2⟩ | ⟨e1, e2, u, e3, e4, e5⟩ | ⟨e1, e2, n, obj, mk, h0, e3, e4, e5, e6, e7, e8, e9, e10, e11⟩
              · exact .inl ⟨e1, e2⟩
              · refine .inr (.inl ⟨e1, e2, u, e3, ?_, e5⟩)
                cases hh : isHeap p.op with
                | false => exact opV_noheap e2 hh e4
                | true => exact hrd k p.op g u (e5 hh) hbit
              · refine .inr (.inr ⟨e1, e2, n, obj, mk, h0, e3, (hal k n h0 e6 hbit).trans e5, e5, e6, h1.2.2 n (by rw [I.hr.bnd]; exact e9) e7, e8, Nat.lt_of_lt_of_le e9 hnx, e10, e11⟩)
            exact hpe.put ok hp ho' hki (I.before k i (by simp [hki, hk]) (by simp) (getlt hp)) (fun _ _ => hbit) (Heap.sub_refl h') (Nat.le_refl _) (fun _ h => h) (fun _ _ e => e)
      · obtain ⟨g, g1, g2, g3⟩ := I.pend i o ho' hDi hm
        have hfr := I.fr.cut ok (fun j hj => by rw [hj]; rfl) I.closed ho' hedge (I.ahead ok hDi) g1 g2
        -- the world catches up
        have done : ∀ (κ : Inj) (v v' : Value) (w' : World), ι.wk κ → ι0.le κ → HR κ w0 H w' → V κ v v' → (∀ d, o.dst = some d → d < f.n → f.get d = some v) →
            (∀ k p, ops.toList[k]? = some p → listed.getD k false = false → k ∉ rest → k ≠ i → Pending C ops.toList ι0.bound κ f H pd k p) → wpAnyIn (fen rr) 0 C.P .any ops Q fuel (listed.setIfInBounds i true) (a.put o.dst v') w' := by
          intro κ v v' w' h1 h2 h3 h4 h5 h6
          refine ih _ (left.erase i) rest pd κ f H _ w' hsz' hlen hleft ⟨h2, ?_, h3, by cases o.dst <;> exact I.df, hclosed, fun k hk hmk => ?_, I.ord, I.before, I.restlt, fun k p hp hDk hk => ?_, I.pdlt, I.pdinj, I.pdR, I.run⟩
          · refine FRd.anti (D := fun j => cond (Nat.beq j i) true (listed.getD j false || rest.contains j)) (fun j hj => ?_) <| FRd.step (D := fun j => listed.getD j false || rest.contains j) (I.fr.wk h1) ho' h5 h4 hother
            rw [hset] at hj
            cases hb : Nat.beq j i with
            | true => rfl
            | false => rw [hb] at hj; exact hj
          · simp only [hset] at hk
            cases hb : Nat.beq k i with
            | true => have := Nat.eq_of_beq_eq_true hb; subst this; exact hm hmk
            | false => rw [hb] at hk; exact I.nrest k hk hmk
          · simp only [hset] at hDk
            have hki : k ≠ i := fun e => by subst e; simp [Nat.beq_refl] at hDk
            have hDk' : listed.getD k false = false := by
              cases hb : Nat.beq k i with
              | true => rw [hb] at hDk; cases hDk
              | false => rw [hb] at hDk; exact hDk
            exact h6 k p hp hDk' hk hki
        unfold wpOpIn
        simp only [ho]
        rcases g3 with ⟨e1, e2⟩ | ⟨e1, e2, u, e3, e4, e5⟩ | ⟨e1, e2, n, obj, mk, h0, e3, e4, e5, e6, e7, e8, e9, e10, e11⟩
        · simp only [guard_wanted hfr e1, Bool.false_eq_true, if_false]
          refine ⟨fun _ _ => trivial, ?_⟩
          exact done ι undef undef w (Inj.wk_refl ι) I.le I.hr (V.undef ι) e2 (fun k p hp hk hr _ => I.pend k p hp hk hr)
        · simp only [guard_wanted hfr e1, if_true]
          have hnd : ∀ c, o.op ≠ .defer c := fun c e => by rw [e] at e2; cases e2
          have hrep : opV C.P C.E g H o.op (fun v' h' => v' = u ∧ h' = H) := by
            obtain ⟨x, hx, hrep⟩ := opV_det e2 _ e4
            exact hrep _ ⟨hx, rfl⟩
          obtain ⟨n, v', w', q1, q2, κ, v, h', q3, q4, q5, rfl, rfl⟩ := opV_sound hC.eq hfr I.hr hrep
          refine ⟨fun _ _ => trivial, ?_⟩
          rw [Oper.semAt_eq _ _ _ hnd, q1]
          have hpend : ∀ k p, ops.toList[k]? = some p → listed.getD k false = false → k ∉ rest → k ≠ i → Pending C ops.toList ι0.bound κ f h' pd k p := fun k p hp hk hr _ => by
            obtain ⟨g, f1, f2, f3⟩ := I.pend k p hp hk hr
            refine ⟨g, f1, f2, ?_⟩
            rcases f3 with f3 | f3 | ⟨d1, d2, n, obj, mk, h0, d3, d4, d5, d6, d7, d8, d9, d10, d11⟩
            · exact .inl f3
            · exact .inr (.inl f3)
            · exact .inr (.inr ⟨d1, d2, n, obj, mk, h0, d3, d4, d5, d6, q3.2.2 n (by rw [I.hr.bnd]; exact d9) d7, d8, d9, d10, d11⟩)
          rcases q2 with rfl | ⟨rfl, rfl⟩
          · exact done κ v v' w' q3.1 (Inj.le_trans I.le q3) q5 q4 e3 hpend
          · exact done κ v undef w' q3.1 (Inj.le_trans I.le q3) q5 q4 e3 hpend
        · simp only [guard_wanted hfr e1, if_true]
          have hnd : ∀ c, o.op ≠ .defer c := fun c e => by rw [e] at e2; cases e2
          obtain ⟨s, ⟨v', x, sz, q1, q2, q3⟩, q4⟩ := e11 ι a w hfr
          have hw := Inj.wk_set e7 (w.heap.size, sz)
          have hrel := I.hr.realize e4 e7 e9 (q2 _ _ hw I.hr.newOK)
          refine ⟨fun _ _ => trivial, ?_⟩
          rw [Oper.semAt_eq _ _ _ hnd, q4, Sem.run_bind, q1]
          refine done _ (mk n) v' _ hw ⟨Inj.wk_trans I.le.1 hw, Nat.le_trans I.le.2.1 (Nat.le_max_left ..), fun b hb e => ?_⟩ hrel (q3 _ n (Inj.set_self ..)) e3 (fun k p hp hk hr hki => ?_)
          · rw [Inj.set_at, if_neg (by omega)]; exact I.le.2.2 b hb e
          · obtain ⟨g, f1, f2, f3⟩ := I.pend k p hp hk hr
            refine ⟨g, f1, f2, ?_⟩
            rcases f3 with f3 | f3 | ⟨d1, d2, n', obj', mk', h0', d3, d4, d5, d6, d7, d8, d9, d10, d11⟩
            · exact .inl f3
            · exact .inr (.inl f3)
            · exact .inr (.inr ⟨d1, d2, n', obj', mk', h0', d3, d4, d5, d6, by rw [Inj.set_at, if_neg (I.pdinj k n' h0' i n h0 d6 e6 hki)]; exact d7, d8, d9, d10, d11⟩)

theorem drawK_sound (hC : CtxOK C body) {ι : Inj} {f : Fr} {h : Heap} {a : Act} {w : World} {id : Nat} {Q : Exit → Act → World → Prop}
    (hQ : ∀ κ f h a w, ι.le κ → FR κ f a.tmps → HR κ w0 h w → a.defers = ds → KN f h → Q .normal a w)
    (hP : ∀ κ v v' n h a w, ι.le κ → V κ v v' → n = a.tmps.size → HR κ w0 h w → a.defers = ds → KP v ⟨n, .nil⟩ h → Q (.panic [{ v := v', recovered := false }]) a w)
    (hy : YD C w0 ι) (hf : FR ι f a.tmps) (hr : HR ι w0 h w) (hd : a.defers = ds) (H : drawK C ops.toList f h KN KP) : (Code.region id ops true).wpIn (fen rr) 0 C.P Q a w := by
  obtain ⟨h1, h2⟩ := (chk_iff _ _).1 H
  have ok := okD_spec h1
  refine wpIn_region_any hC.mix ?_
  have hno : ∀ i, (Array.replicate ops.size false).getD i false = false := fun i => by
    simp [Array.getD_eq_getD_getElem?]
    by_cases hi : i < ops.size <;> simp [hi]
  refine any_order (ord := ordD ops.toList (ancD ops.toList)) hC hy ok hQ hP ops.size _ (List.range ops.size) (ordD ops.toList (ancD ops.toList)) [] ι f h a _ (by simp) (by simp) (fun i hi _ => List.mem_range.2 hi) ?_
  refine ⟨Inj.le_refl ι, ⟨hf.1, fun s v hs => ?_, fun s v hs _ => hf.2 s v hs⟩, hr.drewN _, hd, fun i o _ e => ?_, fun i e => ?_, ok.ok, fun i k hi _ hl => ?_, ok.ordlt, fun i o ho _ hi => absurd (ok.cover i o ho) hi, by simp, by simp, by simp, ⟨_, Fr.same_refl _, h2⟩⟩
  · obtain ⟨v', e, _⟩ := hf.2 s v hs
    rw [hf.1]; exact (Array.getElem?_eq_some_iff.1 e).1
  · rw [hno] at e; cases e
  · rw [hno] at e; cases e
  · exact absurd (ok.cover i _ (List.getElem?_eq_getElem hl)) hi
end
end Go.AM
