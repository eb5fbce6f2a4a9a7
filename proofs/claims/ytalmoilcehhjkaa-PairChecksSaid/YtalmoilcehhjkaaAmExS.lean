/- The abstract machine: code is sound. -/
import Derived.Test.YtalmoilcehhjkaaAmDraw
import Derived.RangeFuncLeaves
set_option linter.unusedVariables false
set_option linter.unusedSimpArgs false
namespace Go.AM

section
variable {C : Ctx} {body : Code} {ι : Inj} {w0 : Base} {w : World} {h : Heap} {f : Fr} {a : Act}

/-- Another base, and what no object of ours says has turned. -/
theorem HR.turn {ι : Inj} {B B' : Base} {h : Heap} {w w' : World} (r : HR ι B h w) (hk : Keep B' w')
    (hp : ∀ (b : Nat) (x : Obj), w.heap[b]? = some x → (∀ l, x ≠ .loop l) → (∀ l, x ≠ .deferred l) → w'.heap[b]? = w.heap[b]? ∧ (¬ B.prot b → ¬ B'.prot b)) : HR ι B' h w' := by
  refine ⟨hk, r.bnd, r.dom, r.fresh, fun β o b s h1 h2 => ?_, r.inj⟩
  have hr := r.objs β o b s h1 h2
  cases o with
  | cells c ro =>
    obtain ⟨cc, e, fz, g1, g0, g2, g3, g4⟩ := hr
    obtain ⟨e1, e2⟩ := hp b _ g1 (by simp) (by simp)
    exact ⟨cc, e, fz, e1.trans g1, g0, g2, fun e => ⟨e2 (g3 e).1, (g3 e).2⟩, g4⟩
  | map es =>
    obtain ⟨g0, ents, clock, g1, g2⟩ := hr
    obtain ⟨e1, e2⟩ := hp b _ g1 (by simp) (by simp)
    exact ⟨e2 g0, ents, clock, e1.trans g1, g2⟩
  | sit t pos =>
    obtain ⟨g0, g1, g2⟩ := hr
    obtain ⟨e1, e2⟩ := hp b _ g2 (by simp) (by simp)
    exact ⟨e2 g0, g1, e1.trans g2⟩
  | dead => trivial

theorem putL_FR {κ : Inj} : ∀ (ps : List Nat) (vs vs' : List Value) (f : Fr) (t : Array Value), VL κ vs vs' → FR κ f t → FR κ (putL f ps vs) ((ps.zip vs').foldl (fun t (p : Nat × Value) => t.setIfInBounds p.1 p.2) t)
  | [], vs, vs', f, t, _, hf => by cases vs <;> simpa [putL] using hf
  | p :: ps, [], vs', f, t, hv, hf => by
    rw [hv.nil_inv]; simpa [putL] using hf
  | p :: ps, v :: vs, vs', f, t, hv, hf => by
    obtain ⟨v', l, rfl, h1, h2⟩ := hv.cons_inv
    simp only [putL, List.zip_cons_cons, List.foldl_cons]
    refine putL_FR ps vs l _ _ h2 ?_
    exact FR.put (a := { tmps := t, defers := [] }) hf (some p) h1

theorem loop_snd {C : Ctx} {b : Code} {E : Fr → Heap → (EX → Fr → Heap → Prop) → Prop} (hE : ∀ f h K, E f h K → Snd C b f h K) : ∀ (n : Nat) (f : Fr) (h : Heap) (K : EX → Fr → Heap → Prop), loopI E n f h K → Snd C (.loop b) f h K := by
  intro n f h K HG r z ι w0 a w hrd hz hy hf hr hd
  intro fb k cs hro hfn hroom
  have key : ∀ (n : Nat) (κ : Inj) (B : Base) (f : Fr) (h : Heap) (a : Act) (w : World), ι.le κ → Over w0 B → FR κ f a.tmps → HR κ B h w → Marks z B a.defers → loopI E n f h K →
      ∃ e a' w', QC z ι w0 K e a' w' ∧ ArrivesIn (Machine.fenced C.P (fen r)) C.P (lone (fb.atR a (.code b :: .inLoop b :: k)) cs w) fb k cs e a' w' := by
    intro n
    induction n with
    | zero => intro κ B f h a w _ _ _ _ _ hG; exact hG.elim
    | succ n ih =>
      intro κ B f h a w hle hB hf hr hd hG
      have hw := hE f h _ hG r z κ B a w hrd (fun k hk => hB.1 k (hz k hk)) (hy.mono hB hle) hf hr hd
      obtain ⟨e, a1, w1, ⟨μ, x, f1, h1, B1, q1, q2, qB, q3, q4, q5, q6⟩, harr⟩ := hw fb (.inLoop b :: k) cs hro hfn hroom
      have out : x ≠ .normal → QC z ι w0 K e a1 w1 := by
        intro hx
        cases x with
        | normal => exact absurd rfl hx
        | ret => exact ⟨μ, .ret, f1, h1, B1, Inj.le_trans hle q1, q2, hB.trans qB, q3, q4, q5, q6⟩
        | exit i => exact ⟨μ, .exit i, f1, h1, B1, Inj.le_trans hle q1, q2, hB.trans qB, q3, q4, q5, q6⟩
        | pan v => exact ⟨μ, .pan v, f1, h1, B1, Inj.le_trans hle q1, q2, hB.trans qB, q3, q4, q5, q6⟩
      cases e with
      | normal =>
        cases x <;> first | exact q5.elim | skip
        obtain ⟨e2, a2, w2, hq2, harr2⟩ := ih μ B1 f1 h1 a1 w1 (Inj.le_trans hle q1) (hB.trans qB) q2 q3 q4 q6
        exact ⟨e2, a2, w2, hq2, .of_steps (StepsIn.trans harr (.one (fenced_calm hfn hroom rfl) stepR_inLoop)) harr2⟩
      | exit id =>
        have hx : x ≠ .normal := by intro g; subst g; exact q5
        exact ⟨_, a1, w1, out hx, .pass (x := .inLoop b) rfl (fun _ _ => .inl (by simp)) harr⟩
      | goto l =>
        have hx : x ≠ .normal := by intro g; subst g; exact q5
        exact ⟨_, a1, w1, out hx, .pass (x := .inLoop b) rfl (fun _ _ => .inl (by simp)) harr⟩
      | ret =>
        have hx : x ≠ .normal := by intro g; subst g; exact q5
        exact ⟨_, a1, w1, out hx, .pass (x := .inLoop b) rfl (fun _ _ => .inl (by simp)) harr⟩
      | panic ch =>
        have hx : x ≠ .normal := by intro g; subst g; exact q5
        exact ⟨_, a1, w1, out hx, .pass (x := .inLoop b) rfl (fun _ _ => .inl (by simp)) harr⟩
      | outgrown =>
        have hx : x ≠ .normal := by intro g; subst g; exact q5
        exact ⟨_, a1, w1, out hx, .pass (x := .inLoop b) rfl (fun _ _ => .inl (by simp)) harr⟩
  obtain ⟨e, a', w', hq, harr⟩ := key n ι w0 f h a w (Inj.le_refl ι) (Over.refl w0) hf hr hd HG
  exact ⟨e, a', w', hq, .of_steps (.one (fenced_calm hfn hroom rfl) stepR_loop) harr⟩

theorem exec_sound {body : Code} : ∀ (c : Code) (C : Ctx) (_ : CtxOK C body) (s : Bool) (p : Nat) (f : Fr) (h : Heap) (K : EX → Fr → Heap → Prop), subN body p = some c → exec C c s p f h K → Snd C c f h K := by
  have cut : ∀ (c : Code) (C : Ctx) (_ : CtxOK C body) (s : Bool) (p : Nat) (f : Fr) (h : Heap) (K : EX → Fr → Heap → Prop) (node : Prop), subN body p = some c → (node → Snd C c f h K) → cutK C s p f h K node → Snd C c f h K := by
    intro c C hC s p f h K node hp hnode H
    unfold cutK at H
    cases s with
    | true => exact hnode H
    | false =>
      simp only [cond_false] at H
      split at H
      · rename_i G hG
        exact hC.cuts p G c hG hp f h K H
      · exact hnode H
  intro c
  induction c with
  | skip => exact fun C hC s p f h K hp H => cut _ C hC s p f h K _ hp (fun hK r z ι w0 a w hrd hz hy hf hr hd => wpIn_skip ⟨ι, .normal, f, h, w0, Inj.le_refl ι, hf, Over.refl w0, hr, hd, trivial, hK⟩) H
  | region id ops draw =>
    intro C hC s p f h K hp H
    cases draw with
    | true =>
      exact cut _ C hC s p f h K _ hp (fun hK r z ι w0 a w hrd hz hy hf hr hd => drawK_sound (ds := a.defers) hC (KN := fun f h => K .normal f h) (KP := fun v f h => K (.pan v) f h)
        (fun κ f h a' w h1 h2 h3 h4 h5 => ⟨κ, .normal, f, h, w0, h1, h2, Over.refl w0, h3, by rw [h4]; exact hd, trivial, h5⟩)
        (fun κ v v' n h a' w h1 h2 h3 h4 h5 h6 => ⟨κ, .pan v, _, h, w0, h1, ⟨h3, fun i v e => by cases e⟩, Over.refl w0, h4, by rw [h5]; exact hd, ⟨v', rfl, h2⟩, h6⟩) hy hf hr rfl hK) H
    | false =>
      refine cut _ C hC s p f h K _ hp (fun hK r z ι w0 a w hrd hz hy hf hr hd => wpIn_region ?_) H
      have := runOps_sound (rr := r) (ops := ops) (K := fun f h => K .normal f h) (KP := fun v f h => K (.pan v) f h) (ι0 := ι) (w0 := w0) (Q := QC z ι w0 K) (ds := a.defers) hC hy
        (fun κ f h a' w h1 h2 h3 h4 h5 => ⟨κ, .normal, f, h, w0, h1, h2, Over.refl w0, h3, by rw [h4]; exact hd, trivial, h5⟩)
        (fun κ v v' f h a' w h1 h2 h3 h4 h5 h6 => ⟨κ, .pan v, f, h, w0, h1, h3, Over.refl w0, h4, by rw [h5]; exact hd, ⟨v', rfl, h2⟩, h6⟩)
        ops.toList 0 ι f h a w rfl (Inj.le_refl ι) (Inj.le_refl ι) hf hr rfl hK
      rw [List.range_eq_range']
      simpa using this
  | seq x y ihx ihy =>
    intro C hC s p f h K hp H
    refine cut _ C hC s p f h K _ hp (fun hK r z ι w0 a w hrd hz hy hf hr hd => wpIn_seq ?_) H
    have hx := ihx C hC false (2 * p + 1) f h _ (by rw [subN_left, hp]; rfl) hK r z ι w0 a w hrd hz hy hf hr hd
    refine wpIn_mono hx fun e a' w' q => ?_
    obtain ⟨κ, ex, f', h', B, h1, h2, hB, h3, h4, h5, h6⟩ := q
    cases ex with
    | normal =>
      cases e <;> first | exact h5.elim | skip
      exact wpIn_mono (ihy C hC false (2 * p + 2) f' h' K (by rw [subN_right, hp]; rfl) h6 r z κ B a' w' hrd (fun k hk => hB.1 k (hz k hk)) (hy.mono hB h1) h2 h3 h4) fun e a w q => q.mono_inj h1 hB
    | ret =>
      cases e <;> first | exact h5.elim | skip
      exact ⟨κ, .ret, f', h', B, h1, h2, hB, h3, h4, h5, h6⟩
    | exit i =>
      cases e <;> first | exact h5.elim | skip
      exact ⟨κ, .exit i, f', h', B, h1, h2, hB, h3, h4, h5, h6⟩
    | pan v =>
      cases e <;> first | exact h5.elim | skip
      exact ⟨κ, .pan v, f', h', B, h1, h2, hB, h3, h4, h5, h6⟩
  | cond c x y ihx ihy =>
    intro C hC s p f h K hp H
    refine cut _ C hC s p f h K _ hp (fun hK r z ι w0 a w hrd hz hy hf hr hd => ?_) H
    obtain ⟨v, hv, hK⟩ := (get_iff _ _).1 hK
    replace hK := boolK_inv hK
    obtain ⟨b, rfl, hK⟩ := hK
    have hc := (hf.ev hv).bool_inv
    cases b with
    | true => exact wpIn_cond hc (ihx C hC false (2 * p + 1) f h K (by rw [subN_left, hp]; rfl) hK r z ι w0 a w hrd hz hy hf hr hd)
    | false => exact wpIn_cond hc (ihy C hC false (2 * p + 2) f h K (by rw [subN_right, hp]; rfl) hK r z ι w0 a w hrd hz hy hf hr hd)
  | block id b ih =>
    intro C hC s p f h K hp H
    refine cut _ C hC s p f h K _ hp (fun hK r z ι w0 a w hrd hz hy hf hr hd => wpIn_block ?_) H
    have hx := ih C hC false (2 * p + 1) f h _ (by rw [subN_left, hp]; rfl) hK r z ι w0 a w hrd hz hy hf hr hd
    refine wpIn_mono hx fun e a' w' q => ?_
    obtain ⟨κ, ex, f', h', B, h1, h2, hB, h3, h4, h5, h6⟩ := q
    cases ex with
    | normal =>
      cases e <;> first | exact h5.elim | skip
      exact ⟨κ, .normal, f', h', B, h1, h2, hB, h3, h4, h5, h6⟩
    | ret =>
      cases e <;> first | exact h5.elim | skip
      exact ⟨κ, .ret, f', h', B, h1, h2, hB, h3, h4, h5, h6⟩
    | exit i =>
      cases e <;> first | exact h5.elim | skip
      rename_i j
      have : i = j := h5
      subst this
      simp only [Exit.inBlock]
      by_cases hid : i = id
      · subst hid
        rw [if_pos rfl]
        have hb : Nat.beq i i = true := Nat.beq_refl i
        simp only [hb, cond_true] at h6
        exact ⟨κ, .normal, f', h', B, h1, h2, hB, h3, h4, trivial, h6⟩
      · rw [if_neg hid]
        have hb : Nat.beq i id = false := by
          cases hb : Nat.beq i id with
          | false => rfl
          | true => exact absurd (Nat.eq_of_beq_eq_true hb) hid
        simp only [hb, cond_false] at h6
        exact ⟨κ, .exit i, f', h', B, h1, h2, hB, h3, h4, rfl, h6⟩
    | pan v =>
      cases e <;> first | exact h5.elim | skip
      exact ⟨κ, .pan v, f', h', B, h1, h2, hB, h3, h4, h5, h6⟩
  | loop b ih => exact fun C hC s p f h K hp H => cut _ C hC s p f h K _ hp (fun hK => loop_snd (fun f h K he => ih C hC false (2 * p + 1) f h K (by rw [subN_left, hp]; rfl) he) C.fuel f h K hK) H
  | rangeFunc g ps x y ihx ihy =>
    intro C hC s p f h K hp H
    refine cut _ C hC s p f h K _ hp (fun hK r z ι w0 a w hrd hz hy hf hr hd => ?_) H
    obtain ⟨hnr, hK⟩ := (chk_iff _ _).1 hK
    obtain ⟨v, hv, hK⟩ := (get_iff _ _).1 hK
    split at hK
    case h_2 => exact hK.elim
    rename_i gi xs cs
    obtain ⟨hxe, hK⟩ := (chk_iff _ _).1 hK
    obtain ⟨It, hIt, hKK⟩ := (get_iff _ _).1 hK
    have hrn : r = none := by
      cases r with
      | none => rfl
      | some l => have e : C.rnd = true := hrd.symm; simp [e] at hnr
    subst hrn
    obtain ⟨hcall, hsound⟩ := hC.its gi It hIt _ _ _ _ _ hKK
    have hfx := hf.ev hv
    generalize hg : a.eval g = fx at hfx
    cases hfx with
    | func hfn h1 h2 h3 h4 =>
      rename_i fn' ys dd
      have hfe : fn' = .func gi := hfn
      subst hfe
      have hxs0 : xs = #[] := by simpa using hxe
      subst hxs0
      have hys : ys = #[] := by
        have : ys.size = 0 := by simpa using h1.symm
        exact Array.eq_empty_of_size_eq_zero this
      subst hys
      have hcs : VL ι cs.toList dd.toList := ⟨by simpa using h3, fun i u v hu hv => h4 i u v (by simpa using hu) (by simpa using hv)⟩
      refine wpIn_rangeFunc fun fid _ => ?_
      -- the record
      let l := w.heap.size + 1
      let rec_ : Loop := { state := .ready, pending := none, fn := fid, tmps := a.tmps, params := ps, assign := x, body := y, defers := w.heap.size }
      let W1 : World := (w.alloc (.deferred (some []))).alloc (.loop rec_)
      have hW1 : W1.heap = (w.heap.push (.deferred (some []))).push (.loop rec_) := rfl
      have hW1l : W1.heap[l]? = some (.loop rec_) := by rw [hW1, Array.getElem?_push, if_pos (show l = (w.heap.push _).size by rw [Array.size_push])]
      have hW1d : W1.heap[w.heap.size]? = some (.deferred (some [])) := by
        rw [hW1, Array.getElem?_push, if_neg (show ¬ w.heap.size = (w.heap.push _).size by rw [Array.size_push]; omega), Array.getElem?_push, if_pos rfl]
      have hW1o : ∀ k, k < w.heap.size → W1.heap[k]? = w.heap[k]? := fun k hk => by
        rw [hW1, Array.getElem?_push, if_neg (by simp; omega), Array.getElem?_push, if_neg (by omega)]
      have hlt0 : ∀ k, w0.prot k → k < w.heap.size := fun k hk => Nat.lt_of_lt_of_le (w0.lt k hk) hr.below.size
      let B1 : Base := ⟨W1, fun k => w0.prot k ∨ k = w.heap.size ∨ k = l, fun k hk => by
        rw [hW1]; simp only [Array.size_push]
        rcases hk with hk | hk | hk
        · have := hlt0 k hk; omega
        · omega
        · simp only [l] at hk; omega⟩
      have hr1 : HR ι B1 h W1 := hr.turn (Keep.refl B1) fun b x0 hb _ _ => by
        have hlt : b < w.heap.size := (Array.getElem?_eq_some_iff.1 hb).1
        refine ⟨hW1o b hlt, fun hn hh => ?_⟩
        rcases hh with hh | hh | hh
        · exact hn hh
        · omega
        · simp only [l] at hh; omega
      have hover : Over w0 B1 := ⟨fun k hk => .inl hk, hr.below.os, hr.below.tape, hr.below.output, by rw [hW1]; simp; have := hr.below.size; omega, fun k hk => (hW1o k (hlt0 k hk)).trans (hr.below.block k hk)⟩
      obtain ⟨hr2, hle2⟩ := hr1.newDead (l, (0, 0))
      have hYOK : YOK C.P l B1 (ι.set h.next (l, (0, 0))) (fun vs h1 K1 => chk (Nat.beq vs.length ps.size) (exec { C with rnd := true, cuts := fun _ => none } x false (2 * p + 1) (putL f ps.toList vs) h1 fun e f1 h1 => match e with
            | .normal => exec { C with rnd := true, cuts := fun _ => none } y false (2 * p + 2) f1 h1 fun e _ h1 => match e with
              | .normal => K1 h1
              | _ => False
            | _ => False)) := by
        intro B κ h1 w1 args args' K1 ho hle0 hvl hr1 hY
        have hle := Inj.le_trans hle2 hle0
        obtain ⟨hlen, hY⟩ := (chk_iff _ _).1 hY
        have hlen := Nat.eq_of_beq_eq_true hlen
        have hC' : CtxOK { C with rnd := true, cuts := fun _ => none } body := ⟨hC.eq, hC.mix, hC.fns, fun _ _ _ h _ => (by cases h), hC.its⟩
        have hBl : B.prot l := ho.1 l (.inr (.inr rfl))
        have hwl : w1.heap[l]? = some (.loop rec_) := (hr1.below.block l hBl).trans ((ho.2.block l (.inr (.inr rfl))).trans hW1l)
        have hyield := run_yield (P := C.P) (args := args'.toArray) hwl (show args'.toArray.size = ps.size by simp [← hvl.1, hlen])
        refine ⟨_, _, _, _, hyield, roundIn_of_wpIn trivial ?_⟩
        have hfr : FR κ (putL f ps.toList args) ((ps.zip args'.toArray).foldl (fun tmps (t, a) => tmps.setIfInBounds t a) a.tmps) := by
          have := putL_FR ps.toList args args' f a.tmps hvl (hf.mono hle)
          rw [← Array.foldl_toList, Array.toList_zip]
          exact this
        have hw := ihx { C with rnd := true, cuts := fun _ => none } hC' false (2 * p + 1) _ h1 _ (by rw [subN_left, hp]; rfl) hY (some l) (fun _ => False) κ B { tmps := _, defers := [] } w1 rfl (fun _ h => h.elim) (hy.mono (hover.trans ho) hle) hfr hr1 (Marks.nil _ B)
        refine wpIn_mono hw fun e a2 w2 q => ?_
        obtain ⟨μ, ex, f2, h2, B2, q1, q2, qB, q3, q4, q5, q6⟩ := q
        cases ex <;> first | exact q6.elim | skip
        cases e <;> first | exact q5.elim | skip
        have hB2l : B2.prot l := qB.1 l hBl
        have hw2l : w2.heap[l]? = some (.loop rec_) := ((qB.keep q3.below).block l hBl).trans ((hr1.below.block l hBl).symm.trans hwl)
        refine ⟨_, run_beginRound hw2l rfl, ?_⟩
        let W3 : World := w2.putObj l (.loop { rec_ with state := .busy })
        let B3 : Base := ⟨W3, B2.prot, fun k hk => by rw [World.putObj_size]; exact Nat.lt_of_lt_of_le (B2.lt k hk) q3.below.size⟩
        have hl2 : l < w2.heap.size := (Array.getElem?_eq_some_iff.1 hw2l).1
        have hW3l : W3.heap[l]? = some (.loop { rec_ with state := .busy }) := World.putObj_heap_same hl2
        have hr3 : HR μ B3 h2 W3 := q3.turn (Keep.refl B3) fun b x0 hb hx _ => ⟨World.putObj_heap_other (fun e => by subst e; rw [hw2l] at hb; cases hb; exact hx _ rfl), fun h => h⟩
        have hyd : YD { C with rnd := true, cuts := fun _ => none } B3 μ := by
          have hO : Over w0 B3 := by
            have k1 : Keep w0 w2 := ((hover.trans ho).trans qB).keep q3.below
            refine ⟨fun k hk => qB.1 k (ho.1 k (.inl hk)), k1.os, k1.tape, k1.output, by show w0.w.heap.size ≤ W3.heap.size; rw [World.putObj_size]; exact k1.size, fun k hk => ?_⟩
            have : k ≠ l := by have := hlt0 k hk; simp only [l]; omega
            exact (World.putObj_heap_other this).trans (k1.block k hk)
          exact YD.mono (C := { C with rnd := true, cuts := fun _ => none }) hy hO (Inj.le_trans hle q1)
        have hw3 := ihy { C with rnd := true, cuts := fun _ => none } hC' false (2 * p + 2) f2 h2 _ (by rw [subN_right, hp]; rfl) q6 (some l) (fun _ => False) μ B3 a2 W3 rfl (fun _ h => h.elim) hyd q2 hr3 (by
          obtain ⟨rs, m1, m2, m3⟩ := q4
          refine ⟨rs, m1, m2, fun r hr' => ⟨(m3 r hr').1, ?_, fun h => h⟩⟩
          have : w2.heap[r]? = some (.deferred (some [])) := (q3.below.block r (m3 r hr').1).trans (m3 r hr').2.1
          have hne : r ≠ l := fun e => by subst e; rw [hw2l] at this; cases this
          exact (World.putObj_heap_other hne).trans this)
        refine wpIn_mono hw3 fun e a4 w4 q' => ?_
        obtain ⟨ν, ex, f4, h4', B4, p1, p2, pB, p3, p4, p5, p6⟩ := q'
        cases ex <;> first | exact p6.elim | skip
        cases e <;> first | exact p5.elim | skip
        have k4 : Keep B3 w4 := pB.keep p3.below
        have hw4l : w4.heap[l]? = some (.loop { rec_ with state := .busy }) := (k4.block l hB2l).trans hW3l
        have hl4 : l < w4.heap.size := (Array.getElem?_eq_some_iff.1 hw4l).1
        refine ⟨_, _, run_endRound none hw4l, rfl, ν, h4', Inj.le_trans q1 p1, ?_, p6⟩
        have k2 : Keep B w2 := qB.keep q3.below
        refine (p3.down pB).turn (B' := B) ⟨k4.os.trans k2.os, k4.tape.trans k2.tape, k4.output.trans k2.output, ?_, fun k hk => ?_⟩ fun b x0 hb hx _ => ⟨World.putObj_heap_other (fun e => by subst e; rw [hw4l] at hb; cases hb; exact hx _ rfl), fun h1 h2 => h1 (qB.1 b h2)⟩
        · rw [World.putObj_size]
          have s4 := k4.size
          have : W3.heap.size = w2.heap.size := World.putObj_size
          have := k2.size
          simp only [B3] at s4
          omega
        · by_cases e : k = l
          · subst e
            rw [World.putObj_heap_same hl4]
            exact ((hr1.below.block l hBl).symm.trans hwl).symm
          · rw [World.putObj_heap_other e]
            have e1 := k4.block k (qB.1 k hk)
            have e2 : W3.heap[k]? = w2.heap[k]? := World.putObj_heap_other e
            exact e1.trans (e2.trans (k2.block k hk))
      have hcalls := hsound _ B1 W1 dd.toList l (0, 0) (Inj.set_self ..) (hcs.mono hle2) hr2 hYOK
      have hinv : (invoke (.fn (.func gi) dd) #[.func (.yield l) #[] #[]]).run C.P W1 = .ok (.enter gi (.func (.yield l) #[] #[] :: dd.toList).toArray) W1 := by
        unfold callable at hcall
        cases hfn : C.P.funcs[gi]? with
        | none => rw [hfn] at hcall; cases hcall
        | some fn =>
          rw [hfn] at hcall
          simp only [Bool.and_eq_true, Bool.not_eq_true'] at hcall
          have hb : fn.body.isNone = false := by cases hfb : fn.body <;> simp_all
          have e1 : (#[Value.func (.yield l) #[] #[]] ++ dd) = (Value.func (.yield l) #[] #[] :: dd.toList).toArray := by apply Array.ext'; simp
          simp only [invoke, callFunc, Sem.run_bind, run_program, Result.andThen_ok, hfn, hcall.1, hb, Bool.false_eq_true, if_false, e1, Sem.run_pure]
      refine ⟨l, [{ target := .collected w.heap.size, args := #[] }], W1, { target := .fn (.func gi) dd, args := #[.func (.yield l) #[] #[]] }, W1, gi, _, W1, run_enterLoop_outer .., ?_, fun _ _ => trivial, hinv, fun e => (by cases e), ?_⟩
      · have hev : a.eval (.const (.func (.yield l) #[] #[])) = .func (.yield l) #[] #[] := rfl
        simp only [resolve, rangeCall, Sem.run_bind, hg, Deferred.ofValue, Sem.run_pure, Result.andThen_ok]
        simp [hev]
      · refine callsIn_wide.2 (hcalls.mono fun e w3 q => ?_)
        obtain ⟨κ, h', q0, q2, q3⟩ := q
        have q1 := Inj.le_trans hle2 q0
        cases e with
        | panicked chain => obtain ⟨_, _, _, _, q3⟩ := q3; exact q3.elim
        | outgrown => exact q3.elim
        | returned v =>
          obtain ⟨_, _, q3⟩ := q3
          have hw3l : w3.heap[l]? = some (.loop rec_) := (q2.below.block l (.inr (.inr rfl))).trans hW1l
          have hw3d : w3.heap[w.heap.size]? = some (.deferred (some [])) := (q2.below.block _ (.inr (.inl rfl))).trans hW1d
          have hl3 : l < w3.heap.size := (Array.getElem?_eq_some_iff.1 hw3l).1
          refine ⟨_, _, run_endLoop hw3l (by simp [rec_]), ?_⟩
          let W5 : World := w3.putObj l (.loop { rec_ with state := .exhausted })
          let B5 : Base := ⟨W5, B1.prot, fun k hk => by rw [World.putObj_size]; exact Nat.lt_of_lt_of_le (B1.lt k hk) q2.below.size⟩
          have hr5 : HR κ B5 h' W5 := q2.turn (Keep.refl B5) fun b x0 hb hx _ => ⟨World.putObj_heap_other (fun e => by subst e; rw [hw3l] at hb; cases hb; exact hx _ rfl), fun h => h⟩
          have k3 : Keep w0 w3 := hover.keep q2.below
          have hO5 : Over w0 B5 := by
            refine ⟨fun k hk => .inl hk, k3.os, k3.tape, k3.output, by show w0.w.heap.size ≤ W5.heap.size; rw [World.putObj_size]; exact k3.size, fun k hk => ?_⟩
            have : k ≠ l := by have := hlt0 k hk; simp only [l]; omega
            exact (World.putObj_heap_other this).trans (k3.block k hk)
          refine ⟨κ, .normal, f, h', B5, q1, hf.mono q1, hO5, hr5, ?_, trivial, q3⟩
          obtain ⟨rs, m1, m2, m3⟩ := hd
          refine ⟨w.heap.size :: rs, List.nodup_cons.2 ⟨fun hm => ?_, m1⟩, by simp [m2], fun r hr' => ?_⟩
          · have := hlt0 _ (m3 _ hm).1; omega
          · rcases List.mem_cons.1 hr' with rfl | hr'
            · exact ⟨.inr (.inl rfl), (World.putObj_heap_other (by simp [l])).trans hw3d, fun hh => by have := hlt0 _ (hz _ hh); omega⟩
            · exact ⟨.inl (m3 r hr').1, (hO5.2.block r (m3 r hr').1).trans (m3 r hr').2.1, (m3 r hr').2.2⟩
  | exit id => exact fun C hC s p f h K hp H => cut _ C hC s p f h K _ hp (fun hK r z ι w0 a w hrd hz hy hf hr hd => wpIn_exit ⟨ι, .exit id, f, h, w0, Inj.le_refl ι, hf, Over.refl w0, hr, hd, rfl, hK⟩) H
  | scope b ih => exact fun C hC s p f h K hp H => cut _ C hC s p f h K _ hp (fun hK => hK.elim) H
  | label l => exact fun C hC s p f h K hp H => cut _ C hC s p f h K _ hp (fun hK r z ι w0 a w hrd hz hy hf hr hd => wpIn_label ⟨ι, .normal, f, h, w0, Inj.le_refl ι, hf, Over.refl w0, hr, hd, trivial, hK⟩) H
  | goto l => exact fun C hC s p f h K hp H => cut _ C hC s p f h K _ hp (fun hK => hK.elim) H
  | ret => exact fun C hC s p f h K hp H => cut _ C hC s p f h K _ hp (fun hK r z ι w0 a w hrd hz hy hf hr hd => wpIn_ret ⟨ι, .ret, f, h, w0, Inj.le_refl ι, hf, Over.refl w0, hr, hd, trivial, hK⟩) H
  | refuse y => exact fun C hC s p f h K hp H => cut _ C hC s p f h K _ hp (fun hK => hK.elim) H
end
end Go.AM
