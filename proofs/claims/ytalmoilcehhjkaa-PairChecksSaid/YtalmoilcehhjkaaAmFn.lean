/- The abstract machine: loops, pieces and functions are sound. -/
import Derived.Test.YtalmoilcehhjkaaAmExS
set_option linter.unusedVariables false
set_option linter.unusedSimpArgs false
namespace Go.AM

theorem grabs_at {f : Fr} : ∀ {ts : List Nat} {vs : List Value}, grabs f ts = some vs → ∀ t v, (t, v) ∈ zipV ts vs → f.get t = some v
  | [], vs, e, t, v, hm => by cases e; simp [zipV] at hm
  | s :: ts, vs, e, t, v, hm => by
    simp only [grabs, Option.bind_eq_some_iff, Option.map_eq_some_iff] at e
    obtain ⟨u, hu, l, hl, rfl⟩ := e
    simp only [zipV, List.mem_cons, Prod.mk.injEq] at hm
    rcases hm with ⟨rfl, rfl⟩ | hm
    · exact hu
    · exact grabs_at hl t v hm
theorem fold_le {g : Fr} : ∀ (l : List (Nat × Value)) (f : Fr), f.le g → (∀ t v, (t, v) ∈ l → g.get t = some v) → (l.foldl (fun f p => f.put (some p.1) p.2) f).le g
  | [], f, hf, _ => hf
  | (t, v) :: l, f, hf, hl => by
    refine fold_le l _ ⟨by rw [Fr.put_n]; exact hf.1, fun i u hu => ?_⟩ (fun t' v' hm => hl t' v' (by simp [hm]))
    by_cases hd : t < f.n
    · rw [Fr.get_put_some _ _ _ _ hd] at hu
      split at hu
      · rename_i e; subst e; cases hu; exact hl _ _ (by simp)
      · exact hf.2 _ _ hu
    · have hb : Nat.blt t f.n = false := by rw [Bool.eq_false_iff, ne_eq, Nat.blt_eq]; exact hd
      have hp : f.put (some t) v = f := by simp [Fr.put, hb]
      simp only at hu
      rw [hp] at hu
      exact hf.2 _ _ hu
theorem grab_le {f : Fr} {n : Nat} {ts : List Nat} {vs : List Value} (e : f.grab n ts = some vs) : (Fr.of n (zipV ts vs)).le f := by
  unfold Fr.grab at e
  cases hn : Nat.beq f.n n with
  | false => rw [hn] at e; cases e
  | true =>
    rw [hn] at e
    simp only [cond_true] at e
    have hn' := Nat.eq_of_beq_eq_true hn
    exact fold_le _ _ ⟨hn'.symm, fun i v h => by cases h⟩ (grabs_at e)

/-- A loop, told by what its rounds do. -/
theorem loop_ok {C : Ctx} {body b : Code} {p N : Nat} {ts : List Nat} {o : Outs} {G : Nat → Cut} (hC : CtxOK C body) (hp : subN body p = some (.loop b)) (h0 : ∀ f h K, ¬ G 0 f h K)
    (hs : ∀ n f h K, G (n + 1) f h K → ∃ vs, f.grab N ts = some vs ∧ exec C b false (2 * p + 1) (Fr.of N (zipV ts vs)) h (contK N (G n) o K)) (n : Nat) : CutOK C (.loop b) (G n) := by
  intro f h K HG r z ι w0 a w hrd hz hy hf hr hd
  have hb : subN body (2 * p + 1) = some b := by rw [subN_left, hp]; rfl
  intro fb k cs hro hfn hroom
  have key : ∀ (n : Nat) (κ : Inj) (B : Base) (f : Fr) (h : Heap) (a : Act) (w : World), ι.le κ → Over w0 B → FR κ f a.tmps → HR κ B h w → Marks z B a.defers → G n f h K →
      ∃ e a' w', QC z ι w0 K e a' w' ∧ ArrivesIn (Machine.fenced C.P (fen r)) C.P (lone (fb.atR a (.code b :: .inLoop b :: k)) cs w) fb k cs e a' w' := by
    intro n
    induction n with
    | zero => intro κ B f h a w _ _ _ _ _ hG; exact absurd hG (h0 f h K)
    | succ n ih =>
      intro κ B f h a w hle hB hf hr hd hG
      obtain ⟨vs, hv, hx⟩ := hs n f h K hG
      have hw := exec_sound b C hC false (2 * p + 1) _ h _ hb hx r z κ B a w hrd (fun k hk => hB.1 k (hz k hk)) (hy.mono hB hle) (hf.le (grab_le hv)) hr hd
      obtain ⟨e, a1, w1, ⟨μ, x, f1, h1, B1, q1, q2, qB, q3, q4, q5, q6⟩, harr⟩ := hw fb (.inLoop b :: k) cs hro hfn hroom
      have out : x ≠ .normal → QC z ι w0 K e a1 w1 := by
        intro hx
        unfold contK at q6
        cases x with
        | normal => exact absurd rfl hx
        | ret =>
          simp only [get_iff] at q6
          obtain ⟨ss, _, us, hus, hK⟩ := q6
          exact ⟨μ, _, _, h1, B1, Inj.le_trans hle q1, q2.le (grab_le hus), hB.trans qB, q3, q4, q5, hK⟩
        | exit i =>
          simp only [get_iff] at q6
          obtain ⟨ss, _, us, hus, hK⟩ := q6
          exact ⟨μ, _, _, h1, B1, Inj.le_trans hle q1, q2.le (grab_le hus), hB.trans qB, q3, q4, q5, hK⟩
        | pan v =>
          simp only [get_iff] at q6
          obtain ⟨ss, _, us, hus, hK⟩ := q6
          exact ⟨μ, _, _, h1, B1, Inj.le_trans hle q1, q2.le (grab_le hus), hB.trans qB, q3, q4, q5, hK⟩
      cases e with
      | normal =>
        cases x <;> first | exact q5.elim | skip
        obtain ⟨e2, a2, w2, hq2, harr2⟩ := ih μ B1 f1 h1 a1 w1 (Inj.le_trans hle q1) (hB.trans qB) q2 q3 q4 q6
        exact ⟨e2, a2, w2, hq2, .of_steps (StepsIn.trans harr (.one (fenced_calm hfn hroom rfl) stepR_inLoop)) harr2⟩
      | exit id =>
        have hx : x ≠ .normal := by intro g; subst g; exact q5
        exact ⟨_, a1, w1, out hx, .pass (x := .inLoop b) rfl (fun _ _ => .inl (by simp)) harr⟩
      | goto l =>
        have hx : x ≠ .normal := by intro g; subst g; exact q5
        exact ⟨_, a1, w1, out hx, .pass (x := .inLoop b) rfl (fun _ _ => .inl (by simp)) harr⟩
      | ret =>
        have hx : x ≠ .normal := by intro g; subst g; exact q5
        exact ⟨_, a1, w1, out hx, .pass (x := .inLoop b) rfl (fun _ _ => .inl (by simp)) harr⟩
      | panic ch =>
        have hx : x ≠ .normal := by intro g; subst g; exact q5
        exact ⟨_, a1, w1, out hx, .pass (x := .inLoop b) rfl (fun _ _ => .inl (by simp)) harr⟩
      | outgrown =>
        have hx : x ≠ .normal := by intro g; subst g; exact q5
        exact ⟨_, a1, w1, out hx, .pass (x := .inLoop b) rfl (fun _ _ => .inl (by simp)) harr⟩
  obtain ⟨e, a', w', hq, harr⟩ := key n ι w0 f h a w (Inj.le_refl ι) (Over.refl w0) hf hr hd HG
  exact ⟨e, a', w', hq, .of_steps (.one (fenced_calm hfn hroom rfl) stepR_loop) harr⟩

/-- A piece of code, told by itself. -/
theorem piece_ok {C : Ctx} {body c : Code} {p N : Nat} {ts nor : List Nat} {o : Outs} {G : Cut} (hC : CtxOK C body) (hp : subN body p = some c)
    (hs : ∀ f h K, G f h K → ∃ vs, f.grab N ts = some vs ∧ exec C c true p (Fr.of N (zipV ts vs)) h (pieceK N nor o K)) : CutOK C c G := by
  intro f h K HG r z ι w0 a w hrd hz hy hf hr hd
  obtain ⟨vs, hv, hx⟩ := hs f h K HG
  have hw := exec_sound c C hC true p _ h _ hp hx r z ι w0 a w hrd hz hy (hf.le (grab_le hv)) hr hd
  refine wpIn_mono hw fun e a1 w1 q => ?_
  obtain ⟨μ, x, f1, h1, B, q1, q2, qB, q3, q4, q5, q6⟩ := q
  unfold pieceK at q6
  cases x <;> simp only [get_iff] at q6
  · obtain ⟨us, hus, hK⟩ := q6
    exact ⟨μ, _, _, h1, B, q1, q2.le (grab_le hus), qB, q3, q4, q5, hK⟩
  all_goals
    obtain ⟨ss, _, us, hus, hK⟩ := q6
    exact ⟨μ, _, _, h1, B, q1, q2.le (grab_le hus), qB, q3, q4, q5, hK⟩

section
variable {C : Ctx} {body : Code} {ι : Inj} {w0 : Base} {w : World} {h : Heap} {f : Fr} {a : Act}

theorem plain1_eq {ι : Inj} {v v' : Value} (hp : plain1 v = true) (h : V ι v v') : v' = v := by
  cases h <;> first | rfl | cases hp
theorem plain_eq {ι : Inj} {v v' : Value} (hp : plainV v = true) (h : V ι v v') : v' = v := by
  cases h with
  | agg h1 h2 =>
    rename_i xs ys
    have : ys = xs := by
      apply Array.ext h1.symm
      intro i hi1 hi2
      have e := h2 i xs[i] ys[i] (Array.getElem?_eq_getElem hi2) (Array.getElem?_eq_getElem hi1)
      have hall : xs.toList.all plain1 = true := hp
      exact plain1_eq (List.all_eq_true.1 hall _ (by simp)) e
    rw [this]
  | tuple h1 h2 =>
    rename_i xs ys
    have hx : xs = #[] := by simpa [plainV] using hp
    subst hx
    have : ys = #[] := Array.eq_empty_of_size_eq_zero (by simpa using h1.symm)
    rw [this]
  | _ => first | rfl | cases hp
def resS (tmps : Array Value) : ResultVar → Sem Value
  | .tmp t => pure (tmps.getD t undef)
  | .cell a t => do loadVar t (← asAddr (tmps.getD a undef))
theorem resK_sound {P : Program} (hf : FR ι f a.tmps) (hr : HR ι w0 h w) : ∀ {l : List ResultVar} {acc acc' : List Value} {K : List Value → Prop}, resK P f h l acc K → VL ι acc acc' →
    ∃ vs vs', (l.mapM (resS a.tmps)).run P w = .ok vs' w ∧ VL ι vs vs' ∧ K (acc.reverse ++ vs)
  | [], acc, acc', K, H, _ => ⟨[], [], rfl, VL.nil ι, by simpa [resK] using H⟩
  | .tmp t :: r, acc, acc', K, H, hv => by
    simp only [resK, get_iff] at H
    obtain ⟨v, hg, H⟩ := H
    obtain ⟨v', h1, h2⟩ := hf.2 _ _ hg
    obtain ⟨vs, vs', h3, h4, h5⟩ := resK_sound hf hr H (VL.cons h2 hv)
    refine ⟨v :: vs, v' :: vs', ?_, VL.cons h2 h4, by simpa using h5⟩
    have hd : a.tmps.getD t undef = v' := by simp [Array.getD_eq_getD_getElem?, h1]
    simp only [List.mapM_cons, Sem.run_bind, resS, hd, Sem.run_pure, Result.andThen_ok, h3]
  | .cell x t :: r, acc, acc', K, H, hv => by
    simp only [resK, get_iff] at H
    obtain ⟨v, hg, H⟩ := H
    replace H := addrK_inv H
    obtain ⟨b, rfl, H⟩ := H
    obtain ⟨v', h1, h2⟩ := hf.2 _ _ hg
    obtain ⟨b', rfl, hb⟩ := h2.ptr_inv
    obtain ⟨u, u', h6, h7, H⟩ := loadK_sound (P := P) hr hb H
    obtain ⟨vs, vs', h3, h4, h5⟩ := resK_sound hf hr H (VL.cons h7 hv)
    refine ⟨u :: vs, u' :: vs', ?_, VL.cons h7 h4, by simpa using h5⟩
    have hd : a.tmps.getD x undef = .pointer (some b') := by simp [Array.getD_eq_getD_getElem?, h1]
    simp only [List.mapM_cons, Sem.run_bind, resS, hd, asAddr, Sem.run_pure, Result.andThen_ok, h6, h3]

theorem run_results {P : Program} {fn : Func} {tmps : Array Value} {vs : List Value} (h : (fn.results.toList.mapM (resS tmps)).run P w = .ok vs w) : (results fn tmps).run P w = .ok (tup vs) w := by
  have e : results fn tmps = (do
      let vs ← fn.results.mapM (resS tmps)
      pure (if h : vs.size = 1 then vs[0] else .tuple vs)) := by
    unfold results
    congr 1
  rw [e, Array.mapM_eq_mapM_toList]
  simp only [Sem.run_bind, map_eq_pure_bind, h, Result.andThen_ok, Sem.run_pure]
  match vs with
  | [] => rfl
  | [v] => rfl
  | v :: u :: vs => rfl

theorem tup_V {vs vs' : List Value} (h : VL ι vs vs') : V ι (tup vs) (tup vs') := by
  match vs, vs', h with
  | [], vs', h => rw [h.nil_inv]; exact V.tuple_iff.2 (VL.nil ι)
  | [v], vs', h =>
    obtain ⟨v', l, rfl, h1, h2⟩ := h.cons_inv
    rw [h2.nil_inv]; exact h1
  | v :: u :: vs, vs', h =>
    obtain ⟨v', l, rfl, h1, h2⟩ := h.cons_inv
    obtain ⟨u', l, rfl, h3, h4⟩ := h2.cons_inv
    exact V.tuple_iff.2 (by simpa using h)

theorem args_FR {n : Nat} : ∀ (l l' : List Value) (i : Nat) (f : Fr) (t : Array Value), VL ι l l' → FR ι f t → (∀ j v, l'[j]? = some v → t[i + j]? = some v) → FR ι (Fr.args n l i f) t
  | [], l', i, f, t, _, hf, _ => hf
  | v :: l, l', i, f, t, hl, hf, ht => by
    obtain ⟨v', l2, rfl, h1, h2⟩ := hl.cons_inv
    refine args_FR l l2 (i + 1) _ t h2 ?_ (fun j u hj => by rw [show i + 1 + j = i + (j + 1) from by omega]; exact ht (j + 1) u (by simpa using hj))
    refine ⟨by rw [Fr.put_n]; exact hf.1, fun k u hu => ?_⟩
    by_cases hd : i < f.n
    · rw [Fr.get_put_some _ _ _ _ hd] at hu
      split at hu
      · rename_i e; subst e; cases hu; exact ⟨v', ht 0 v' rfl, h1⟩
      · exact hf.2 _ _ hu
    · have hb : Nat.blt i f.n = false := by rw [Bool.eq_false_iff, ne_eq, Nat.blt_eq]; exact hd
      have hp : f.put (some i) v = f := by simp [Fr.put, hb]
      rw [hp] at hu
      exact hf.2 _ _ hu

/-- The marks are taken. -/
theorem leaves_ok {P : Program} {fn : Func} {tmps : Array Value} {R : Ending → World → Prop} {κ : Inj} {u : FrameMode} (hu : u ≠ .run) : ∀ (rs : List Nat) (w : World), rs.Nodup → HR κ w0 h w → (∀ r ∈ rs, w.heap[r]? = some (.deferred (some [])) ∧ ¬ w0.prot r) →
    (∀ w', HR κ w0 h w' → LeavesIn (fen none) 0 P fn tmps R [] u w') → LeavesInM (fen none) 0 P fn tmps R (rs.map fun r => ({ target := .collected r, args := #[] } : Deferred)) u w
  | [], w, _, hr, _, hl => hl w hr
  | r :: rs, w, hn, hr, hm, hl => by
    obtain ⟨h1, h2⟩ := hm r (by simp)
    have hlt : r < w.heap.size := (Array.getElem?_eq_some_iff.1 h1).1
    refine ⟨hu, .inl ⟨r, _, rfl, run_takeDeferred h1, leaves_ok hu rs _ (List.nodup_cons.1 hn).2 ?_ (fun q hq => ⟨?_, (hm q (by simp [hq])).2⟩) hl⟩⟩
    · refine hr.turn ⟨hr.below.os, hr.below.tape, hr.below.output, by rw [World.putObj_size]; exact hr.below.size, fun k hk => ?_⟩ fun b x hb _ hx => ⟨World.putObj_heap_other (fun e => by subst e; rw [h1] at hb; cases hb; exact hx _ rfl), fun h => h⟩
      exact (World.putObj_heap_other (k := k) (fun e => h2 (by rw [← e]; exact hk))).trans (hr.below.block k hk)
    · exact (World.putObj_heap_other (k := q) (fun e => (List.nodup_cons.1 hn).1 (by rw [← e]; exact hq))).trans (hm q (by simp [hq])).1

theorem body_ok {g : Nat} {fn : Func} (hC : CtxOK C body) (hnr : C.rnd = false) (hfn : C.P.funcs[g]? = some fn) (hb : fn.body = some body) {args args' : List Value} {K : Out → Heap → Prop}
    (H : fnK C fn.results.toList fn.ntmps body args h K) (hy : YD C w0 ι) (hl : VL ι args args') (hr : HR ι w0 h w) : Calls C.P g args'.toArray w (CP ι w0 K) := by
  unfold fnK at H
  obtain ⟨hle, H⟩ := (chk_iff _ _).1 H
  have hle' := Nat.le_of_ble_eq_true hle
  refine callsIn_wide.1 (callsIn_of_wp_marks (F := Fence.wide) (n := 0) hfn hb trivial ?_)
  have hl1 := hl.1
  have hf0 : FR ι (Fr.args fn.ntmps args 0 ⟨fn.ntmps, .nil⟩) (args'.toArray ++ Array.replicate (fn.ntmps - args'.toArray.size) undef) := by
    refine args_FR args args' 0 _ _ hl ⟨by simp; omega, fun i v h => by cases h⟩ (fun j v hj => ?_)
    have hlt : j < args'.length := by
      rcases Nat.lt_or_ge j args'.length with g | g
      · exact g
      · rw [List.getElem?_eq_none g] at hj; cases hj
    rw [Nat.zero_add, Array.getElem?_append_left (by simpa using hlt)]
    simpa using hj
  have hw := exec_sound body C hC false 0 _ h _ (subN_zero body) H none w0.prot ι w0 { tmps := args'.toArray ++ Array.replicate (fn.ntmps - args'.toArray.size) undef, defers := [] } w hnr.symm (fun _ h => h) hy hf0 hr (Marks.nil _ _)
  refine wpIn_mono hw fun e a1 w1 q => ?_
  obtain ⟨μ, x, f1, h1, B, q1, q2, qB, q3, q4, q5, q6⟩ := q
  obtain ⟨rs, m1, m2, m3⟩ := q4
  have hmarks : ∀ r ∈ rs, w1.heap[r]? = some (.deferred (some [])) ∧ ¬ w0.prot r := fun r hr' => ⟨(q3.below.block r (m3 r hr').1).trans (m3 r hr').2.1, (m3 r hr').2.2⟩
  have hdown := q3.down qB
  have fin : resK C.P f1 h1 fn.results.toList [] (fun l => K (.ret (tup l)) h1) → LeavesInM (fen none) 0 C.P fn a1.tmps (CP ι w0 K) a1.defers .returning w1 := by
    intro hres
    rw [m2]
    refine leaves_ok (by simp) rs w1 m1 hdown hmarks fun w' hr' => ?_
    obtain ⟨vs, vs', g1, g2, g3⟩ := resK_sound q2 hr' hres (VL.nil μ)
    exact ⟨_, run_results g1, μ, h1, q1, hr', tup vs, tup_V g2, by simpa using g3⟩
  cases x with
  | normal =>
    cases e <;> first | exact q5.elim | skip
    exact fin q6
  | ret =>
    cases e <;> first | exact q5.elim | skip
    exact fin q6
  | exit i => exact q6.elim
  | pan v =>
    cases e <;> first | exact q5.elim | skip
    obtain ⟨v', rfl, hv⟩ := q5
    show LeavesInM (fen none) 0 C.P fn a1.tmps (CP ι w0 K) a1.defers (.panicking _) w1
    rw [m2]
    exact leaves_ok (by simp) rs w1 m1 hdown hmarks fun w' hr' => ⟨μ, h1, q1, hr', v, v', rfl, hv, q6⟩

/-- A function, told by what its body does. -/
theorem fn_ok {g : Nat} {fn : Func} {G : AFn} (hC : CtxOK C body) (hnr : C.rnd = false) (hny : C.yld = none) (hfn : C.P.funcs[g]? = some fn) (hb : fn.body = some body) (hname : (fn.name == "runtime.NumGoroutine") = false)
    (hs : ∀ args h K, G args h K → fnK C fn.results.toList fn.ntmps body args h K) : FnOK C.P g G :=
  fun args h K HG => ⟨by simp [callable, hfn, hname, hb], fun ι w0 w args' hl hr => body_ok hC hnr hfn hb (hs args h K HG) (fun y e => by rw [hny] at e; cases e) hl hr⟩
/-- A function that yields. -/
theorem it_body {g : Nat} {fn : Func} {β : Nat} {cs : List Value} {Y : AYld} {K : Heap → Prop} (hC : CtxOK { C with yld := some (β, Y) } body) (hnr : C.rnd = false) (hfn : C.P.funcs[g]? = some fn) (hb : fn.body = some body)
    (H : itK C fn.results.toList fn.ntmps body β cs h Y K) {cs' : List Value} {l : Nat} {s : Nat × Nat} (hβ : ι β = some (l, s)) (hl : VL ι cs cs') (hr : HR ι w0 h w) (hy : YOK C.P l w0 ι Y) :
    Calls C.P g (.func (.yield l) #[] #[] :: cs').toArray w (CP ι w0 (fun o h => match o with | .ret _ => K h | .pan _ => False)) :=
  body_ok (C := { C with yld := some (β, Y) }) hC hnr hfn hb H (fun y e => by cases e; exact ⟨l, s, hβ, hy⟩) (VL.cons (.func (show fnR ι (.yield β) (.yield l) from ⟨l, s, hβ, rfl⟩) rfl (fun i x y h => by simp at h) rfl (fun i x y h => by simp at h)) hl) hr
theorem it_ok {g : Nat} {fn : Func} {It : AIt} (hC : ∀ y, CtxOK { C with yld := some y } body) (hnr : C.rnd = false) (hfn : C.P.funcs[g]? = some fn) (hb : fn.body = some body) (hname : (fn.name == "runtime.NumGoroutine") = false)
    (hs : ∀ β cs h Y K, It β cs h Y K → itK C fn.results.toList fn.ntmps body β cs h Y K) : ItOK C.P g It :=
  fun β cs h Y K HI => ⟨by simp [callable, hfn, hname, hb], fun ι w0 w cs' l s hβ hl hr hy => it_body (hC _) hnr hfn hb (hs β cs h Y K HI) hβ hl hr hy⟩

/-- Contexts. -/
theorem CtxOK.empty {P : Program} {E : List TypeId} (hE : EqOK P E) (hm : P.follows .mixedOrders = true) (body : Code) : CtxOK { P := P, E := E, fns := none1, cuts := none1, its := none1 } body :=
  { eq := hE, mix := hm, fns := fun _ _ h => (by cases h), cuts := fun _ _ _ h _ => (by cases h), its := fun _ _ h => (by cases h) }
theorem CtxOK.emptyY {P : Program} {E : List TypeId} (hE : EqOK P E) (hm : P.follows .mixedOrders = true) (y : Nat × AYld) (body : Code) : CtxOK { P := P, E := E, fns := none1, cuts := none1, its := none1, yld := some y } body :=
  { eq := hE, mix := hm, fns := fun _ _ h => (by cases h), cuts := fun _ _ _ h _ => (by cases h), its := fun _ _ h => (by cases h) }
/-- The cuts do not mind more functions. -/
def Ctx.le (C D : Ctx) : Prop := D.P = C.P ∧ D.yld = C.yld ∧ D.rnd = C.rnd
theorem CutOK.cast {C D : Ctx} (h : C.le D) {c : Code} {G : Cut} (hc : CutOK C c G) : CutOK D c G := by
  obtain ⟨h1, h2, h3⟩ := h
  intro f hh K HG r z ι w0 a w hrd hz hy hf hr hd
  have := hc f hh K HG r z ι w0 a w (by rw [hrd, h3]) hz (fun y e => by have := hy y (by rw [h2]; exact e); rwa [h1] at this) hf hr hd
  rwa [h1]
theorem CtxOK.addFn {g : Nat} {G : AFn} (hC : CtxOK C body) (h : FnOK C.P g G) : CtxOK { C with fns := cons1 g G C.fns } body := by
  refine ⟨hC.eq, hC.mix, fun k H hk => ?_, fun p G c h1 h2 => (hC.cuts p G c h1 h2).cast ⟨rfl, rfl, rfl⟩, hC.its⟩
  simp only [cons1] at hk
  cases hb : Nat.beq g k with
  | true => rw [hb] at hk; cases hk; rw [← Nat.eq_of_beq_eq_true hb]; exact h
  | false => rw [hb] at hk; exact hC.fns k H hk
theorem CtxOK.addIt {g : Nat} {G : AIt} (hC : CtxOK C body) (h : ItOK C.P g G) : CtxOK { C with its := cons1 g G C.its } body := by
  refine ⟨hC.eq, hC.mix, hC.fns, fun p G c h1 h2 => (hC.cuts p G c h1 h2).cast ⟨rfl, rfl, rfl⟩, fun k H hk => ?_⟩
  simp only [cons1] at hk
  cases hb : Nat.beq g k with
  | true => rw [hb] at hk; cases hk; rw [← Nat.eq_of_beq_eq_true hb]; exact h
  | false => rw [hb] at hk; exact hC.its k H hk
theorem CtxOK.addCut {p : Nat} {c : Code} {G : Cut} (hC : CtxOK C body) (hp : subN body p = some c) (h : CutOK C c G) : CtxOK { C with cuts := cons1 p G C.cuts } body := by
  refine ⟨hC.eq, hC.mix, hC.fns, fun k H d hk hd => ?_, hC.its⟩
  simp only [cons1] at hk
  cases hb : Nat.beq p k with
  | true =>
    rw [hb] at hk; cases hk
    have := Nat.eq_of_beq_eq_true hb
    subst this
    rw [hp] at hd; cases hd; exact h.cast ⟨rfl, rfl, rfl⟩
  | false => rw [hb] at hk; exact (hC.cuts k H d hk hd).cast ⟨rfl, rfl, rfl⟩

/-! closed runs -/
theorem auto_ok {P : Program} {E : List TypeId} {fuel : Nat} (hE : EqOK P E) (hm : P.follows .mixedOrders = true) (hall : ∀ (g : Nat) (fn : Func), P.funcs[g]? = some fn → (fn.name == "runtime.NumGoroutine") = false) :
    ∀ (n g : Nat), FnOK P g (autoF P E fuel n g)
  | 0, g => fun args h K H => H.elim
  | n + 1, g => by
    intro args h K H
    unfold autoF at H
    obtain ⟨fn, hfn, H⟩ := (get_iff _ _).1 H
    obtain ⟨body, hb, H⟩ := (get_iff _ _).1 H
    have ih := auto_ok (fuel := fuel) hE hm hall n
    have hits : ∀ g, ItOK P g (fun β cs h Y K => get P.funcs[g]? fun fn => get fn.body fun body =>
        itK (autoC P E fuel (autoF P E fuel n) (fun _ _ _ _ _ _ => False)) fn.results.toList fn.ntmps body β cs h Y K) := by
      intro g β cs h Y K H
      obtain ⟨fn, hfn, H⟩ := (get_iff _ _).1 H
      obtain ⟨body, hb, H⟩ := (get_iff _ _).1 H
      have hC : CtxOK { autoC P E fuel (autoF P E fuel n) (fun _ _ _ _ _ _ => False) with yld := some (β, Y) } body :=
        { eq := hE, mix := hm, fns := fun g G e => by cases e; exact ih g, cuts := fun _ _ _ e _ => (by cases e), its := fun g G e => by cases e; exact fun _ _ _ _ _ h => h.elim }
      exact ⟨by simp [callable, hfn, hall g fn hfn, hb], fun ι w0 w cs' l s hβ hl hr hy => it_body hC rfl hfn hb H hβ hl hr hy⟩
    have hC : CtxOK (autoC P E fuel (autoF P E fuel n) (fun g β cs h Y K => get P.funcs[g]? fun fn => get fn.body fun body =>
        itK (autoC P E fuel (autoF P E fuel n) (fun _ _ _ _ _ _ => False)) fn.results.toList fn.ntmps body β cs h Y K)) body :=
      { eq := hE, mix := hm, fns := fun g G e => by cases e; exact ih g, cuts := fun _ _ _ e _ => (by cases e), its := fun g G e => by cases e; exact hits g }
    exact ⟨by simp [callable, hfn, hall g fn hfn, hb], fun ι w0 w args' hl hr => body_ok hC rfl hfn hb H (fun y e => by cases e) hl hr⟩

def Heap0 : Heap := ⟨0, .nil⟩
/-- A closed run, anywhere. -/
theorem closed_ok {P : Program} {E : List TypeId} {fuel n g : Nat} (hE : EqOK P E) (hm : P.follows .mixedOrders = true) (hall : ∀ (g : Nat) (fn : Func), P.funcs[g]? = some fn → (fn.name == "runtime.NumGoroutine") = false)
    {args : List Value} {v : Value} (hp : args.all plainV = true) (hv : plainV v = true) (H : autoF P E fuel n g args Heap0 (fun o _ => match o with | .ret u => u = v | .pan _ => False)) :
    FnOK P g (fun args' h K => args' = args ∧ K (.ret v) h) := by
  intro args' h K hK
  obtain ⟨rfl, hK⟩ := hK
  obtain ⟨h1, h2⟩ := auto_ok hE hm hall n g _ _ _ H
  refine ⟨h1, fun ι w0 w as hl hr => ?_⟩
  have hself : as = args' := by
    apply List.ext_getElem? fun i => ?_
    rcases Nat.lt_or_ge i args'.length with g | g
    · have e1 : args'[i]? = some args'[i] := List.getElem?_eq_getElem g
      obtain ⟨y, e2, e3⟩ := hl.get e1
      have hpl := List.all_eq_true.1 hp args'[i] (List.getElem_mem g)
      rw [e1, e2]
      exact congrArg some (plain_eq hpl e3)
    · rw [List.getElem?_eq_none g, List.getElem?_eq_none (by rw [← hl.1]; exact g)]
  subst hself
  let B : Base := ⟨w, fun k => k < w.heap.size, fun _ h => h⟩
  have hr0 : HR ⟨fun _ => none, 0⟩ B Heap0 w := ⟨Keep.refl B, rfl, fun β p e => (by cases e), fun β _ => rfl, fun β o b s _ e => (by cases e), fun β γ b s t o p _ e => (by cases e)⟩
  have hl0 : VL ⟨fun _ => none, 0⟩ as as := ⟨rfl, fun i x y hx hy => by
    rw [hx] at hy; cases hy
    exact V.of_plain _ (List.all_eq_true.1 hp x (List.mem_of_getElem? hx))⟩
  refine (h2 _ B w as hl0 hr0).mono fun e w' q => ?_
  obtain ⟨κ, h', q1, q2, q3⟩ := q
  have hold : ∀ k, k < w.heap.size → w'.heap[k]? = w.heap[k]? := fun k hk => q2.below.block k hk
  have hkeep : Keep w0 w' := ⟨q2.below.os.trans hr.below.os, q2.below.tape.trans hr.below.tape, q2.below.output.trans hr.below.output, Nat.le_trans hr.below.size q2.below.size, fun k hk => (hold k (Nat.lt_of_lt_of_le (w0.lt k hk) hr.below.size)).trans (hr.below.block k hk)⟩
  refine ⟨ι, h, Inj.le_refl ι, hr.turn hkeep fun b x hb _ _ => ⟨hold b (Array.getElem?_eq_some_iff.1 hb).1, fun h => h⟩, ?_⟩
  cases e with
  | returned v' =>
    obtain ⟨u, h3, h4⟩ := q3
    have h4 : u = v := h4
    subst h4
    rw [plain_eq hv h3]
    exact ⟨u, V.of_plain ι hv, hK⟩
  | panicked chain => obtain ⟨_, _, _, _, h⟩ := q3; exact h.elim
  | outgrown => exact q3.elim
end
end Go.AM
