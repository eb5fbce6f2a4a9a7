/- The abstract machine: one operation with calls; regions in their order. -/
import Derived.Test.YtalmoilcehhjkaaAmExec
import Derived.RangeFuncRecord
import Derived.Test.YtalmoilcehhjkaaAmSnd9
set_option linter.unusedVariables false
set_option linter.unusedSimpArgs false
namespace Go.AM

theorem subF_more (c : Code) : ∀ (n p : Nat), p < n → subF n c p = subF (p + 1) c p
  | 0, p, h => by omega
  | n + 1, p, h => by
    by_cases h0 : p = 0
    · subst h0; rfl
    · have e : Nat.beq p 0 = false := by
        cases hb : Nat.beq p 0 with
        | false => rfl
        | true => exact absurd (Nat.eq_of_beq_eq_true hb) h0
      simp only [subF, e, cond_false]
      rw [subF_more c n ((p - 1) / 2) (by omega), subF_more c p ((p - 1) / 2) (by omega)]
theorem subN_zero (c : Code) : subN c 0 = some c := rfl
theorem subN_left (c : Code) (p : Nat) : subN c (2 * p + 1) = (subN c p).bind leftOf := by
  have e : Nat.beq (2 * p + 1) 0 = false := rfl
  have e2 : Nat.beq ((2 * p + 1) % 2) 1 = true := by rw [show (2 * p + 1) % 2 = 1 from by omega]; rfl
  unfold subN
  rw [subF, e, cond_false, e2, show (2 * p + 1 - 1) / 2 = p from by omega, subF_more c _ p (by omega)]
  rfl
theorem subN_right (c : Code) (p : Nat) : subN c (2 * p + 2) = (subN c p).bind rightOf := by
  have e : Nat.beq (2 * p + 2) 0 = false := rfl
  have e2 : Nat.beq ((2 * p + 2) % 2) 1 = false := by rw [show (2 * p + 2) % 2 = 0 from by omega]; rfl
  unfold subN
  rw [subF, e, cond_false, e2, show (2 * p + 2 - 1) / 2 = p from by omega, subF_more c _ p (by omega)]
  rfl

def EXR (κ : Inj) : EX → Exit → Prop
  | .normal, .normal => True
  | .ret, .ret => True
  | .exit i, .exit j => i = j
  | .pan v, .panic chain => ∃ v', chain = [{ v := v', recovered := false }] ∧ V κ v v'
  | _, _ => False

/-- A fence that keeps nothing out. -/
def fen (r : Option Nat) : Fence := { Fence.wide with round := r }
/-- A later base: more is protected. -/
def Over (B B' : Base) : Prop := (∀ k, B.prot k → B'.prot k) ∧ Keep B B'.w
theorem Keep.refl (B : Base) : Keep B B.w := ⟨rfl, rfl, rfl, Nat.le_refl _, fun _ _ => rfl⟩
theorem Over.refl (B : Base) : Over B B := ⟨fun _ h => h, Keep.refl B⟩
theorem Over.keep {B B' : Base} {w : World} (o : Over B B') (k : Keep B' w) : Keep B w :=
  ⟨k.os.trans o.2.os, k.tape.trans o.2.tape, k.output.trans o.2.output, Nat.le_trans o.2.size k.size, fun i hi => (k.block i (o.1 i hi)).trans (o.2.block i hi)⟩
theorem Over.trans {A B C : Base} (h : Over A B) (g : Over B C) : Over A C := ⟨fun k hk => g.1 k (h.1 k hk), h.keep g.2⟩
theorem OR.prot {ι : Inj} {B B' : Nat → Prop} {w : World} {b : Nat} {s : Nat × Nat} {o : AObj} (h : ∀ k, B k → B' k) (r : OR ι B' w b s o) : OR ι B w b s o := by
  cases o with
  | cells c ro =>
    obtain ⟨cc, e, fz, h1, h0, h2, h3, h4⟩ := r
    exact ⟨cc, e, fz, h1, h0, h2, fun e => ⟨fun hb => (h3 e).1 (h _ hb), (h3 e).2⟩, h4⟩
  | map es =>
    obtain ⟨h0, r⟩ := r
    exact ⟨fun hb => h0 (h _ hb), r⟩
  | sit t pos => exact ⟨fun hb => r.1 (h _ hb), r.2⟩
  | dead => trivial
theorem HR.down {ι : Inj} {B B' : Base} {h : Heap} {w : World} (o : Over B B') (r : HR ι B' h w) : HR ι B h w :=
  ⟨o.keep r.below, r.bnd, r.dom, r.fresh, fun β x b s h1 h2 => (r.objs β x b s h1 h2).prot o.1, r.inj⟩
/-- The deferred calls that are only marks of ranges over functions. -/
def Marks (z : Nat → Prop) (B : Base) (ds : List Deferred) : Prop :=
  ∃ rs : List Nat, rs.Nodup ∧ ds = rs.map (fun r => ({ target := .collected r, args := #[] } : Deferred)) ∧ ∀ r ∈ rs, B.prot r ∧ B.w.heap[r]? = some (.deferred (some [])) ∧ ¬ z r
theorem Marks.nil (z : Nat → Prop) (B : Base) : Marks z B [] := ⟨[], .nil, rfl, by simp⟩

/-- How a piece of code ends. -/
def QC (z : Nat → Prop) (ι : Inj) (w0 : Base) (K : EX → Fr → Heap → Prop) (e : Exit) (a : Act) (w : World) : Prop :=
  ∃ κ x f h B, ι.le κ ∧ FR κ f a.tmps ∧ Over w0 B ∧ HR κ B h w ∧ Marks z B a.defers ∧ EXR κ x e ∧ K x f h

/-- How a call ends. -/
def CP (ι : Inj) (w0 : Base) (K : Out → Heap → Prop) (e : Ending) (w : World) : Prop :=
  ∃ κ h, ι.le κ ∧ HR κ w0 h w ∧ match e with
    | .returned v' => ∃ v, V κ v v' ∧ K (.ret v) h
    | .panicked chain => ∃ v v', chain = [{ v := v', recovered := false }] ∧ V κ v v' ∧ K (.pan v) h
    | .outgrown => False
def FnOK (P : Program) (g : Nat) (G : AFn) : Prop :=
  ∀ args h K, G args h K → callable P g = true ∧ ∀ (ι : Inj) (w0 : Base) (w : World) (args' : List Value), VL ι args args' → HR ι w0 h w → Calls P g args'.toArray w (CP ι w0 K)
/-- What is yielded in a round of a loop's. -/
def YOK (P : Program) (l : Nat) (w0 : Base) (ι : Inj) (Y : AYld) : Prop :=
  ∀ (B : Base) (κ : Inj) (h : Heap) (w : World) (args args' : List Value) (K : Heap → Prop), Over w0 B → ι.le κ → VL κ args args' → HR κ B h w → Y args h K →
    ∃ fn tmps x y, (Instr.yield l args'.toArray).run P w = .ok (.round l fn tmps x y) w ∧ RoundIn (fen none) 0 P l fn tmps x y w (fun e w' => e = .returned (.bool true) ∧ ∃ μ h', κ.le μ ∧ HR μ B h' w' ∧ K h')
def ItOK (P : Program) (g : Nat) (It : AIt) : Prop :=
  ∀ β cs h Y K, It β cs h Y K → callable P g = true ∧ ∀ (ι : Inj) (w0 : Base) (w : World) (cs' : List Value) (l : Nat) (s : Nat × Nat), ι β = some (l, s) → VL ι cs cs' → HR ι w0 h w → YOK P l w0 ι Y →
    Calls P g (.func (.yield l) #[] #[] :: cs').toArray w (CP ι w0 (fun o h => match o with | .ret _ => K h | .pan _ => False))
def YD (C : Ctx) (w0 : Base) (ι : Inj) : Prop := ∀ y, C.yld = some y → ∃ l s, ι y.1 = some (l, s) ∧ YOK C.P l w0 ι y.2
theorem YD.mono {C : Ctx} {w0 B : Base} {ι κ : Inj} (h : YD C w0 ι) (o : Over w0 B) (hle : ι.le κ) : YD C B κ :=
  fun y hy => let ⟨l, s, e, hY⟩ := h y hy; ⟨l, s, hle.1 _ _ e, fun B' μ hh w args args' K ho hl hv hr H => hY B' μ hh w args args' K (o.trans ho) (Inj.le_trans hle hl) hv hr H⟩
/-- A piece of code, from here: what the machine says of it holds. -/
def Snd (C : Ctx) (c : Code) (f : Fr) (h : Heap) (K : EX → Fr → Heap → Prop) : Prop :=
  ∀ (r : Option Nat) (z : Nat → Prop) (ι : Inj) (w0 : Base) (a : Act) (w : World), r.isSome = C.rnd → (∀ k, z k → w0.prot k) → YD C w0 ι → FR ι f a.tmps → HR ι w0 h w → Marks z w0 a.defers → c.wpIn (fen r) 0 C.P (QC z ι w0 K) a w
def CutOK (C : Ctx) (c : Code) (G : Cut) : Prop := ∀ f h K, G f h K → Snd C c f h K

structure CtxOK (C : Ctx) (body : Code) : Prop where
  eq : EqOK C.P C.E
  mix : C.P.follows .mixedOrders = true
  fns : ∀ g G, C.fns g = some G → FnOK C.P g G
  cuts : ∀ p G c, C.cuts p = some G → subN body p = some c → CutOK C c G
  its : ∀ g G, C.its g = some G → ItOK C.P g G

section
variable {C : Ctx} {body : Code} {rr : Option Nat} {ds : List Deferred} {ι : Inj} {w0 : Base} {w : World} {h : Heap} {f : Fr} {a : Act}

theorem QC.mono_inj {z : Nat → Prop} {ι κ : Inj} {B : Base} (h : ι.le κ) (o : Over w0 B) {K : EX → Fr → Heap → Prop} {e : Exit} {a : Act} {w : World} (q : QC z κ B K e a w) : QC z ι w0 K e a w := by
  obtain ⟨μ, x, f, hh, B', h1, h2, h3, h4⟩ := q
  exact ⟨μ, x, f, hh, B', Inj.le_trans h h1, h2, o.trans h3, h4⟩

/-- The rest of a region. -/
def RNext (P : Program) (ι : Inj) (w0 : Base) (KN : Fr → Heap → Prop) (next : Act → World → Prop) : Prop :=
  ∀ (κ : Inj) (f : Fr) (h : Heap) (a : Act) (w : World), ι.le κ → FR κ f a.tmps → HR κ w0 h w → a.defers = ds → KN f h → next a w

/-- One operation, calls too. -/
theorem opK_sound (hC : CtxOK C body) {o : Oper} {K KP : Value → Heap → Prop} (hy : YD C w0 ι) (hf : FR ι f a.tmps) (hr : HR ι w0 h w) (H : opK C f h o.op K KP)
    {next : Act → World → Prop} {Q : Exit → Act → World → Prop}
    (hn : ∀ (κ : Inj) (v v' : Value) (h' : Heap) (w' : World), ι.le κ → V κ v v' → HR κ w0 h' w' → K v h' → next (a.put o.dst v') w')
    (hp : ∀ (κ : Inj) (v v' : Value) (h' : Heap) (w' : World), ι.le κ → V κ v v' → HR κ w0 h' w' → KP v h' → Q (.panic [{ v := v', recovered := false }]) a w') :
    o.wpIn (fen rr) 0 C.P a w next Q := by
  have viaV : opV C.P C.E f h o.op K → o.wpIn (fen rr) 0 C.P a w next Q := by
    intro H
    obtain ⟨n, v', w', h1, h2, κ, v, h', h3, h4, h5, h6⟩ := opV_sound hC.eq hf hr H
    refine ⟨fun _ _ => trivial, ?_⟩
    rw [Oper.semAt_eq _ _ _ (fun c e => by rw [e] at H; exact H), h1]
    rcases h2 with rfl | ⟨rfl, rfl⟩
    · exact hn κ v v' h' w' h3 h4 h5 h6
    · exact hn κ v undef h' w' h3 h4 h5 h6
  unfold opK at H
  split at H
  · rename_i x args tys hop
    simp only [get_iff] at H
    obtain ⟨fv, hfv, l, hl, H⟩ := H
    unfold callV at H
    split at H
    · rename_i g xs cs
      obtain ⟨G, hG, H⟩ := (get_iff _ _).1 H
      obtain ⟨hcall, hsound⟩ := hC.fns g G hG _ h _ H
      have hfx := hf.ev hfv
      have hargs := hf.evs hl
      generalize hx : a.eval x = fx at hfx
      cases hfx with
      | func hfn h1 h2 h3 h4 =>
        rename_i fn' ys ds
        have hfe : fn' = .func g := hfn
        subst hfe
        have hxs : VL ι xs.toList ys.toList := ⟨by simpa using h1, fun i u v hu hv => h2 i u v (by simpa using hu) (by simpa using hv)⟩
        have hcs : VL ι cs.toList ds.toList := ⟨by simpa using h3, fun i u v hu hv => h4 i u v (by simpa using hu) (by simpa using hv)⟩
        have hall := hxs.append (hargs.append hcs)
        have hc := hsound ι w0 w _ hall hr
        refine ⟨fun _ _ => trivial, ?_⟩
        rw [Oper.semAt_eq _ _ _ (fun c e => by rw [e] at hop; cases hop)]
        have hrun : (execOp a.eval o).run C.P w = .ok (.enter g (ys.toList ++ (args.toList.map a.eval ++ ds.toList)).toArray) w := by
          unfold execOp
          rw [hop]
          unfold callable at hcall
          cases hfn : C.P.funcs[g]? with
          | none => rw [hfn] at hcall; cases hcall
          | some fn =>
            rw [hfn] at hcall
            simp only [Bool.and_eq_true, Bool.not_eq_true'] at hcall
            have hb : fn.body.isNone = false := by cases hfb : fn.body <;> simp_all
            have e1 : (ys ++ args.map a.eval ++ ds) = (ys.toList ++ (args.toList.map a.eval ++ ds.toList)).toArray := by apply Array.ext'; simp
            simp only [resolve, Sem.run_bind, hx, Deferred.ofValue, Sem.run_pure, Result.andThen_ok, invoke, callFunc, run_program, hfn, hcall.1, hb, Bool.false_eq_true, if_false, e1]
        rw [hrun]
        refine ⟨fun e => (by cases e), ?_⟩
        show CallsIn Fence.wide 0 C.P g _ w _
        refine callsIn_wide.2 (hc.mono fun e w' hcp => ?_)
        obtain ⟨κ, h', hle, hr', hm⟩ := hcp
        cases e with
        | returned v' =>
          obtain ⟨v, hv, hK⟩ := hm
          exact hn κ v v' h' w' hle hv hr' hK
        | panicked chain =>
          obtain ⟨v, v', rfl, hv, hK⟩ := hm
          exact hp κ v v' h' w' hle hv hr' hK
        | outgrown => exact hm.elim
    · rename_i n xs cs
      simp only [get_iff, chk_iff] at H
      obtain ⟨y, hyl, hn', H⟩ := H
      have := Nat.eq_of_beq_eq_true hn'
      subst this
      have hfx := hf.ev hfv
      have hargs := hf.evs hl
      generalize hx : a.eval x = fx at hfx
      cases hfx with
      | func hfn h1 h2 h3 h4 =>
        rename_i fn' ys ds'
        obtain ⟨l1, s1, e1, hYk⟩ := hy y hyl
        obtain ⟨l2, s2, e2, rfl⟩ := hfn
        rw [e1] at e2; cases e2
        have hxs : VL ι xs.toList ys.toList := ⟨by simpa using h1, fun i u v hu hv => h2 i u v (by simpa using hu) (by simpa using hv)⟩
        obtain ⟨fn, tmps, x1, y1, g1, g2⟩ := hYk w0 ι h w _ _ _ (Over.refl w0) (Inj.le_refl ι) (hxs.append hargs) hr H
        refine ⟨fun _ _ => trivial, ?_⟩
        rw [Oper.semAt_eq _ _ _ (fun c e => by rw [e] at hop; cases hop)]
        have hrun : (execOp a.eval o).run C.P w = .ok (.round l1 fn tmps x1 y1) w := by
          unfold execOp
          rw [hop]
          have e1 : (ys ++ args.map a.eval) = (ys.toList ++ args.toList.map a.eval).toArray := by apply Array.ext'; simp
          simp only [resolve, Sem.run_bind, hx, Deferred.ofValue, Sem.run_pure, Result.andThen_ok, invoke, e1, g1]
        rw [hrun]
        refine ⟨fun e => (by cases e), ?_⟩
        refine RoundIn.mono (F := fen rr) g2 fun e w' q => ?_
        obtain ⟨rfl, μ, h', q1, q2, q3⟩ := q
        exact hn μ (.bool true) (.bool true) h' w' q1 (.bool true) q2 q3
    · exact H.elim
  · rename_i x hop
    obtain ⟨v, hv, H⟩ := (get_iff _ _).1 H
    split at H
    · rename_i t u
      have hx := hf.ev hv
      generalize hxe : a.eval x = y at hx
      cases hx with
      | iface t hu =>
        rename_i u'
        refine ⟨fun _ _ => trivial, ?_⟩
        rw [Oper.semAt_eq _ _ _ (fun c e => by rw [e] at hop; cases hop)]
        have hrun : (execOp a.eval o).run C.P w = .halt (.panic (.iface t u')) w := by
          unfold execOp
          rw [hop]
          simp only [hxe, Instr.panic, Sem.run_bind, goPanic]
          rfl
        rw [hrun]
        exact hp ι _ _ h w (Inj.le_refl ι) (.iface t hu) hr H
    · exact H.elim
  · rename_i o' n1 n2
    simp only [withHF_eq] at H
    exact viaV H

theorem FR.known (hf : FR ι f a.tmps) {t : Nat} {v : Value} (h : f.get t = some v) : FR ι (f.put (some t) v) a.tmps := by
  refine ⟨by rw [Fr.put_n]; exact hf.1, fun i u hu => ?_⟩
  by_cases hd : t < f.n
  · rw [Fr.get_put_some _ _ _ _ hd] at hu
    split at hu
    · rename_i e; subst e; cases hu; exact hf.2 _ _ h
    · exact hf.2 _ _ hu
  · have hb : Nat.blt t f.n = false := by rw [Bool.eq_false_iff, ne_eq, Nat.blt_eq]; exact hd
    have hp : f.put (some t) v = f := by simp [Fr.put, hb]
    rw [hp] at hu
    exact hf.2 _ _ hu

theorem runOps_sound (hC : CtxOK C body) {ιy : Inj} (hy : YD C w0 ιy) {ops : Array Oper} {K : Fr → Heap → Prop} {KP : Value → Fr → Heap → Prop} {ι0 : Inj} {Q : Exit → Act → World → Prop}
    (hQ : ∀ κ f h a w, ι0.le κ → FR κ f a.tmps → HR κ w0 h w → a.defers = ds → K f h → Q .normal a w)
    (hP : ∀ κ v v' f h a w, ι0.le κ → V κ v v' → FR κ f a.tmps → HR κ w0 h w → a.defers = ds → KP v f h → Q (.panic [{ v := v', recovered := false }]) a w) :
    ∀ (l : List Oper) (k : Nat) (ι : Inj) (f : Fr) (h : Heap) (a : Act) (w : World), ops.toList.drop k = l → ι0.le ι → ιy.le ι → FR ι f a.tmps → HR ι w0 h w → a.defers = ds →
      runOps C ops.toList l f h K KP → wpOpsIn (fen rr) 0 C.P ops Q (List.range' k l.length) a w
  | [], k, ι, f, h, a, w, hl, hle, hly, hf, hr, hd, H => hQ ι f h a w hle hf hr hd H
  | o :: rest, k, ι, f, h, a, w, hl, hle, hly, hf, hr, hd, H => by
    have hk : ops[k]? = some o := by
      have h1 : (ops.toList.drop k)[0]? = some o := by rw [hl]; rfl
      rw [List.getElem?_drop] at h1
      simpa using h1
    have hrest : ops.toList.drop (k + 1) = rest := by
      have := congrArg List.tail hl
      simpa [List.tail_drop] using this
    have ih := fun ι f h a w => runOps_sound hC hy hQ hP rest (k + 1) ι f h a w hrest
    have step : ∀ (f1 : Fr), FR ι f1 a.tmps → Region.wanted o (yielded ops a.tmps) = true →
        opK C f1 h o.op (fun v h' => runOps C ops.toList rest (f1.put o.dst v) h' K KP) (fun v h' => KP v f h') → wpOpsIn (fen rr) 0 C.P ops Q (List.range' k (o :: rest).length) a w := by
      intro f1 hf1 hw H
      rw [List.length_cons, List.range'_succ]
      simp only [wpOpsIn, hk, hw, if_true]
      refine opK_sound hC (hy.mono (Over.refl w0) hly) hf1 hr H (fun κ v v' h' w' h1 h2 h3 h4 => ?_) (fun κ v v' h' w' h1 h2 h3 h4 => ?_)
      · exact ih κ _ h' _ w' (Inj.le_trans hle h1) (Inj.le_trans hly h1) ((hf1.mono h1).put o.dst h2) h3 (by cases o.dst <;> exact hd) h4
      · exact hP κ v v' f h' a w' (Inj.le_trans hle h1) h2 (hf.mono h1) h3 hd h4
    have skip : ∀ (f1 : Fr), FR ι f1 a.tmps → Region.wanted o (yielded ops a.tmps) = false → runOps C ops.toList rest (f1.put o.dst undef) h K KP → wpOpsIn (fen rr) 0 C.P ops Q (List.range' k (o :: rest).length) a w := by
      intro f1 hf1 hw H
      rw [List.length_cons, List.range'_succ]
      simp only [wpOpsIn, hk, hw, Bool.false_eq_true, if_false]
      exact ⟨fun _ _ => trivial, ih ι _ h _ w hle hly (hf1.put o.dst (V.undef ι)) hr (by cases o.dst <;> exact hd) H⟩
    unfold runOps at H
    split at H
    · rename_i hg
      exact step f hf (by simp [Region.wanted, hg]) H
    · rename_i j want hg
      simp only [get_iff] at H
      obtain ⟨t, ht, g, hgt, H⟩ := H
      have hjt : (ops[j]?).bind (·.dst) = some t := by simpa using ht
      obtain ⟨g', hg1, hg2⟩ := hf.2 _ _ hgt
      split at H
      · rename_i b
        have := hg2.bool_inv
        subst this
        have hy : yielded ops a.tmps j = some b := by simp [yielded, hjt, hg1]
        cases b with
        | true =>
          simp only [branch_true] at H
          have hf1 := hf.known hgt
          cases want with
          | true => exact step _ hf1 (by simp [Region.wanted, hg, hy]) H
          | false => exact skip _ hf1 (by simp [Region.wanted, hg, hy]) H
        | false =>
          simp only [branch_false] at H
          have hf1 := hf.known hgt
          cases want with
          | true => exact skip _ hf1 (by simp [Region.wanted, hg, hy]) H
          | false => exact step _ hf1 (by simp [Region.wanted, hg, hy]) H
      · rename_i xs
        obtain ⟨ys, rfl, _⟩ := hg2.tuple_inv
        have hy : yielded ops a.tmps j = none := by simp [yielded, hjt, hg1]
        exact skip f hf (by simp [Region.wanted, hg, hy]) H
      · exact H.elim
end
end Go.AM
