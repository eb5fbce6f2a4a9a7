/- From the abstract machine to a law's row: readings that stay, arguments that are read. -/
import Derived.Test.YtalmoilcehhjkaaAmHp
import Derived.ChangeSlices
import Derived.RowKit
import Derived.RowKit3
import Derived.WalkKit
import Derived.ProofKit
import Derived.OpenShut
set_option linter.unusedVariables false
set_option linter.unusedSimpArgs false
namespace Go.AM
open Go.ChangeShapes Go.WideShapes

/-- Types of data that the laws take. -/
def simpleT (P : Program) : Nat → TypeId → Bool
  | 0, _ => false
  | d + 1, t => match P.underlying t with
    | some .bool | some (.int _) | some .string => true
    | some (.slice e) => simpleT P d e && decide (0 < P.cellsOf e)
    | some (.struct fs) => fs.toList.all fun f => simpleT P d f.type
    | some (.array _ e) => simpleT P d e
    | _ => false

theorem mapM_keep {α β : Type} {f g : α → Option β} : ∀ {l : List α} {ys : List β}, l.mapM f = some ys → (∀ a ∈ l, ∀ y ∈ ys, f a = some y → g a = some y) → l.mapM g = some ys
  | [], ys, h, _ => by simpa using h
  | a :: l, ys, h, hg => by
    rw [List.mapM_cons] at h ⊢
    simp only [bind, Option.bind_eq_some_iff, pure, Option.some.injEq] at h ⊢
    obtain ⟨y, hy, ys', h', rfl⟩ := h
    exact ⟨y, hg a (by simp) y (by simp) hy, ys', mapM_keep h' (fun a ha y hy => hg a (by simp [ha]) y (by simp [hy])), rfl⟩

section
variable {H : Type} {enc : TypeId × Value → H} {P : Program} {W W' : World}

theorem cells?_keep (hk : ∀ k, k < W.heap.size → W'.heap[k]? = W.heap[k]?) {base : Nat} {a : Addr} {n : Nat} {cs : List Value} (hn : 0 < n) (h : W.cells? base a n = some cs) : W'.cells? base a n = some cs := by
  unfold World.cells? at h ⊢
  split at h
  · rename_i hb
    rw [if_pos hb]
    refine mapM_keep h fun i hi y hy hf => ?_
    have hlt : (a.add i).block < W.heap.size := by
      unfold World.cell? at hf
      split at hf
      · rename_i c t e hc
        exact (Array.getElem?_eq_some_iff.1 hc).1
      · cases hf
    unfold World.cell? at hf ⊢
    rw [hk _ hlt]; exact hf
  · cases h

theorem row_mem {a : Addr} {n : Nat} (hn : 0 < n) : ∃ p ∈ MemPlace.row a n, p.block = a.block := by
  obtain ⟨m, rfl⟩ : ∃ m, n = m + 1 := ⟨n - 1, by omega⟩
  refine ⟨.cell a.block (a.off + 0), ?_, rfl⟩
  simp only [MemPlace.row, List.mem_map, List.mem_range]
  exact ⟨0, by omega, by simp⟩

theorem mapM_of_get {β : Type} {f : Nat → Option β} : ∀ {n : Nat} {ys : List β}, ys.length = n → (∀ i, i < n → f i = ys[i]?) → (List.range n).mapM f = some ys := by
  intro n ys hl hf
  have : ∀ (l : List Nat) (k : Nat), l = (List.range' k (ys.length - k)) → k ≤ ys.length → l.mapM f = some (ys.drop k) := by
    intro l
    induction l with
    | nil =>
      intro k hk hle
      have := congrArg List.length hk
      simp at this
      rw [List.drop_eq_nil_of_le (by omega)]; rfl
    | cons a l ih =>
      intro k hk hle
      have hlen := congrArg List.length hk
      simp at hlen
      have hlt : k < ys.length := by omega
      obtain ⟨m, hm⟩ : ∃ m, ys.length - k = m + 1 := ⟨ys.length - k - 1, by omega⟩
      rw [hm, List.range'_succ] at hk
      obtain ⟨rfl, hk⟩ := List.cons.inj hk
      rw [List.mapM_cons, hf a (by omega), List.getElem?_eq_getElem hlt, ih (a + 1) (by rw [hk]; congr 1; omega) (by omega), List.drop_eq_getElem_cons hlt]
      rfl
  have := this (List.range n) 0 (by rw [List.range_eq_range', hl]; rfl) (Nat.zero_le _)
  simpa using this

theorem trod_keep (hk : ∀ k, k < W.heap.size → W'.heap[k]? = W.heap[k]?) {base : Nat} {sp : Nat → Bool} {held : Bool} : ∀ (n d : Nat) (t : TypeId) (cs : List Value) (x : DataW H × List MemPlace), simpleT P d t = true →
    DataW.trod enc P W base (fun _ => true) held n t cs = some x → (∀ p ∈ x.2, sp p.block = true) → DataW.trod enc P W' base sp held n t cs = some x
  | 0, d, t, cs, x, _, h, _ => by simp [DataW.trod] at h
  | n + 1, 0, t, cs, x, hs, h, _ => by cases hs
  | n + 1, d + 1, t, cs, x, hs, h, hp => by
    unfold simpleT at hs
    cases hu : P.underlying t with
    | none => simp [hu] at hs
    | some k =>
      rw [hu] at hs
      cases k <;> simp only [Bool.false_eq_true] at hs
      case bool =>
        obtain ⟨b, rfl, rfl⟩ := DataW.trod_bool hu h
        unfold DataW.trod; rw [hu]
      case int k =>
        obtain ⟨b, rfl, rfl, hw⟩ := DataW.trod_int hu h
        unfold DataW.trod; rw [hu]; simp [hw]
      case string =>
        obtain ⟨b, rfl, rfl, hw⟩ := DataW.trod_string hu h
        unfold DataW.trod; rw [hu]; simp [hw]
      case slice e =>
        simp only [Bool.and_eq_true, decide_eq_true_eq] at hs
        rcases DataW.trod_slice hu h with ⟨rfl, rfl⟩ | ⟨a, len, cap, elems, rest, m, hm, rfl, rfl, hb, hl, hc, hlen, hel, hsp, _⟩
        · unfold DataW.trod; rw [hu]; rfl
        · cases hm
          obtain ⟨hrl, hr⟩ := hsp rfl
          have sub : ∀ y ∈ elems ++ rest, ∀ p ∈ y.2, sp p.block = true := fun y hy p hpy => hp p (by
            simp only [List.mem_append, List.mem_flatMap]
            exact .inr ⟨y, by simpa using hy, hpy⟩)
          have one : ∀ i y, y ∈ elems ++ rest → (W.cells? base (a.add (i * P.cellsOf e)) (P.cellsOf e)).bind (DataW.trod enc P W base (fun _ => true) held n e) = some y →
              (W'.cells? base (a.add (i * P.cellsOf e)) (P.cellsOf e)).bind (DataW.trod enc P W' base sp held n e) = some y := by
            intro i y hy h
            simp only [Option.bind_eq_some_iff] at h ⊢
            obtain ⟨cs, c1, c2⟩ := h
            exact ⟨cs, cells?_keep hk hs.2 c1, trod_keep hk n d e cs y hs.1 c2 (sub y hy)⟩
          have h1 : (List.range len).mapM (fun i => (W'.cells? base (a.add (i * P.cellsOf e)) (P.cellsOf e)).bind (DataW.trod enc P W' base sp held n e)) = some elems :=
            mapM_of_get hlen fun i hi => by
              have hi' : i < elems.length := by omega
              rw [List.getElem?_eq_getElem hi']
              exact one i _ (by simp) (by rw [hel i hi, List.getElem?_eq_getElem hi'])
          have h2 : (if sp a.block = true then (List.range (cap - len)).mapM (fun j => (W'.cells? base (a.add ((len + j) * P.cellsOf e)) (P.cellsOf e)).bind (DataW.trod enc P W' base sp held n e)) else some []) = some rest := by
            by_cases hz : elems.length + rest.length = 0
            · have : rest = [] := List.eq_nil_of_length_eq_zero (by omega)
              subst this
              have : cap - len = 0 := by simpa using hrl.symm
              rw [this]
              split <;> rfl
            · have hspa : sp a.block = true := by
                obtain ⟨p, hm, hb⟩ := row_mem (a := a) (n := (elems.length + rest.length) * P.cellsOf e) (Nat.mul_pos (by omega) hs.2)
                rw [← hb]
                exact hp p (List.mem_append_left _ hm)
              rw [if_pos hspa]
              exact mapM_of_get hrl fun j hj => by
                have hj' : j < rest.length := by omega
                rw [List.getElem?_eq_getElem hj']
                exact one (len + j) _ (by simp) (by rw [hr j hj, List.getElem?_eq_getElem hj'])
          unfold DataW.trod; rw [hu]
          simp only [if_pos (show base ≤ a.block ∧ len ≤ cap ∧ cap ≤ maxLen from ⟨hb, hl, hc⟩), h1, Option.bind_some, h2, Option.map_some]
      case struct fs =>
        unfold DataW.trod at h ⊢
        rw [hu] at h ⊢
        simp only at h ⊢
        split at h
        · rename_i hl
          rw [if_pos hl]
          simp only [Option.map_eq_some_iff] at h ⊢
          obtain ⟨xs, h1, rfl⟩ := h
          refine ⟨xs, mapM_keep h1 fun f hf y hy h => trod_keep hk n d f.type _ y (List.all_eq_true.1 hs f hf) h fun p hpy => hp p ?_, rfl⟩
          simp only [List.mem_flatMap]
          exact ⟨y, hy, hpy⟩
        · cases h
      case array m e =>
        unfold DataW.trod at h ⊢
        rw [hu] at h ⊢
        simp only at h ⊢
        split at h
        · rename_i hl
          rw [if_pos hl]
          simp only [Option.map_eq_some_iff] at h ⊢
          obtain ⟨xs, h1, rfl⟩ := h
          refine ⟨xs, mapM_keep h1 fun f hf y hy h => trod_keep hk n d e _ y hs h fun p hpy => hp p ?_, rfl⟩
          simp only [List.mem_flatMap]
          exact ⟨y, hy, hpy⟩
        · cases h
theorem TrodAll_keep (hk : ∀ k, k < W.heap.size → W'.heap[k]? = W.heap[k]?) {base : Nat} {sp : Nat → Bool} {held : Bool} {d : Nat} : ∀ {ts : List TypeId} {vs : List Value} {ds : List (DataW H)} {ps : List MemPlace}, (∀ t ∈ ts, simpleT P d t = true) →
    DataW.TrodAll enc P W base (fun _ => true) held ts vs ds ps → (∀ p ∈ ps, sp p.block = true) → DataW.TrodAll enc P W' base sp held ts vs ds ps
  | [], _, _, _, _, h, _ => by
    obtain ⟨rfl, rfl, rfl⟩ := trodAll_nil h
    rfl
  | t :: ts, _, _, _, hs, h, hp => by
    obtain ⟨v, vs1, dd, ds1, a, b, rfl, rfl, rfl, ⟨n, h1⟩, h2⟩ := trodAll_cons h
    exact ⟨a, b, ⟨n, trod_keep hk n d t _ _ (hs t (by simp)) h1 fun p hm => hp p (by simp [hm])⟩, TrodAll_keep hk (fun t ht => hs t (by simp [ht])) h2 fun p hm => hp p (by simp [hm]), rfl⟩

/-- All blocks are as they were. -/
theorem post_of_keep {f : Func} {s : ChangeSpec} {apart fresh handsOn again : Bool} {args : Array Value} {v : Value} {ds gs : List (DataW H)} {before : List MemPlace} {d : Nat}
    (hW : DataW.Whole enc P f.params.toList s.vars apart W args.toList ds gs before) (hv : s.vars = []) (hsim : ∀ t ∈ f.params.toList, simpleT P d t = true)
    (hk : Keep ⟨W, fun k => k < W.heap.size, fun _ h => h⟩ W')
    (hres : ∀ (b : Nat) (sp : Nat → Bool) (hd : Bool), DataW.TrodAll enc P W' b sp hd f.resultTypes.toList (v.resultList f.resultTypes.size) (s.fn H (ds ++ gs)).results [])
    (hargs : (s.fn H (ds ++ gs)).args = ds) (hvs : (s.fn H (ds ++ gs)).vars = [])
    (hok : ∀ (j : Nat) (t : TypeId) (r : Value), f.resultTypes[j]? = some t → (v.resultList f.resultTypes.size)[j]? = some r → Value.okWide P W' .any 0 t r) :
    s.post enc P f apart fresh handsOn again W args v W' := by
  obtain ⟨p, q, hA, hV, rfl, hfz, hnd⟩ := id hW
  rw [hv] at hV
  obtain ⟨rfl, rfl⟩ := trodVars_none hV
  have hblock : ∀ k, k < W.heap.size → W'.heap[k]? = W.heap[k]? := hk.block
  have hfr : ∀ a : Addr, a.block < W.heap.size → W'.frozen? a = W.frozen? a := fun a ha => by
    unfold World.frozen?; rw [hblock _ ha]
  have hlt : ∀ x ∈ p, x.block < W.heap.size := fun x hx => hW.lt x (by simp [hx])
  have argsK : ∀ sp : Nat → Bool, (∀ x ∈ p, sp x.block = true) → DataW.TrodAll enc P W' 0 sp true f.params.toList args.toList (s.fn H (ds ++ [])).args p := fun sp hsp => by
    rw [hargs]; exact TrodAll_keep hblock hsim hA hsp
  have varsK : ∀ sp : Nat → Bool, DataW.TrodVars enc P W' sp s.vars (s.fn H (ds ++ [])).vars [] := fun sp => by
    rw [hv, hvs]; rfl
  refine ⟨ds, [], p ++ [], [], p, [], hW, hres _ _ _, argsK _ (fun x hx => by simpa using hlt x hx), varsK _, ?_, fun _ => ?_⟩
  · refine ⟨hk.os, hk.output, fun i hi => ?_⟩
    rw [hblock i hi]
    split
    · rename_i c t fr c' t' fr' e1 e2
      rw [e1] at e2; cases e2
      exact ⟨rfl, rfl, rfl, fun _ _ => rfl⟩
    · rename_i es c es' c' e1 e2
      rw [e1] at e2; cases e2
      exact .inr ⟨rfl, rfl⟩
    · rfl
  · refine ⟨hok, _, _, ([] ++ p) ++ [], ⟨[] ++ p, [], trodAll_append (argsK _ (fun _ _ => rfl)) (hres _ _ _), varsK _, rfl, ?_, ?_⟩, ?_⟩
    · intro b off hp
      have hm : MemPlace.cell b off ∈ p := by simpa using hp
      rw [hfr _ (hlt _ hm)]
      exact hfz b off (by simpa using hm)
    · intro ha
      simpa using hnd ha
    · intro x hx _
      simpa using hx
end

/-! what is read of the arguments -/
section
variable {H : Type} {enc : TypeId × Value → H} {P : Program} {W : World}
/-- What is read of a slice of pairs. -/
theorem open_pairs {t e ei : TypeId} (ht : P.underlying t = some (.slice e)) (he : P.underlying e = some (.array 2 ei)) (hi : P.underlying ei = some (.int .i64)) (c2 : P.cellsOf e = 2) (c1 : P.cellsOf ei = 1) {r : Reach} {b0 base fuel : Nat} {held : Bool} {v : Value} {x : DataW H × List MemPlace}
    (hval : Cell.okWide P W r b0 t v) (hd : DataW.trod enc P W base (fun _ => true) held fuel t [v] = some x) :
    v = .slice none 0 0 ∨ ∃ (b off len cap : Nat) (cc : Array Value) (el : TypeId) (fz : Nat × Nat) (es : List (Int × Int)), v = .slice (some ⟨b, off, none⟩) len cap ∧ len ≤ cap ∧ cap ≤ maxLen ∧ W.heap[b]? = some (.cells cc el fz) ∧ es.length = len ∧
      ∀ (i : Nat) (u : Value), (flat es)[i]? = some u → cc[i + off]? = some u := by
  rcases DataW.trod_slice ht hd with ⟨h0, _⟩ | ⟨a, len, cap, elems, rest, m, _, h0, rfl, hb, hl, hc, hlen, hel, _, _⟩
  · exact .inl (by simpa using h0)
  · right
    have hv : v = .slice (some a) len cap := by simpa using h0
    subst hv
    have hca : Cell.ok P W r b0 t (.slice (some a) len cap) := by simpa [Cell.okWide, ht] using hval
    simp only [Cell.ok, ht] at hca
    obtain ⟨_, _, _, hsp, row, cells, hshape, _⟩ := hca
    obtain ⟨b, off, sp⟩ := a
    have hsp : sp = none := hsp
    subst hsp
    have hblk : ∃ cc el fz, W.heap[b]? = some (.cells cc el fz) := by
      simp only [World.shape?] at hshape
      split at hshape
      · exact ⟨_, _, _, by assumption⟩
      · cases hshape
    obtain ⟨cc, el, fz, hblk⟩ := hblk
    have cell : ∀ j v, W.cell? ⟨b, j, none⟩ = some v → cc[j]? = some v := fun j v h => by
      simpa [World.cell?, hblk] using h
    have each : ∀ i, i < len → ∃ p : Int × Int, cc[off + i * 2]? = some (.int .i64 p.1) ∧ cc[off + i * 2 + 1]? = some (.int .i64 p.2) := by
      intro i hi'
      have h1 := hel i hi'
      rw [c2, List.getElem?_eq_getElem (by omega)] at h1
      obtain ⟨cs, h2, h3⟩ := Option.bind_eq_some_iff.1 h1
      obtain ⟨xs, k, _, _, _, _, h4⟩ := DataW.trod_array he h3
      have g0 := h4 0 (by omega)
      have g1 := h4 1 (by omega)
      have hcl := (World.cells?_some h2)
      have hl2 : cs.length = 2 := hcl.2.1
      match cs, hl2 with
      | [x0, x1], _ =>
        rw [c1] at g0 g1
        simp only [Nat.zero_mul, List.drop_zero, List.take_succ_cons, List.take_zero, Nat.one_mul, List.drop_succ_cons] at g0 g1
        have y0 : ∃ y, xs[0]? = some y := by
          cases e : xs[0]? with
          | some y => exact ⟨y, rfl⟩
          | none => simp_all
        have y1 : ∃ y, xs[1]? = some y := by
          cases e : xs[1]? with
          | some y => exact ⟨y, rfl⟩
          | none => simp_all
        obtain ⟨y0, e0⟩ := y0
        obtain ⟨y1, e1⟩ := y1
        rw [e0] at g0; rw [e1] at g1
        obtain ⟨n0, f0, _, _⟩ := DataW.trod_int hi g0
        obtain ⟨n1, f1, _, _⟩ := DataW.trod_int hi g1
        simp at f0 f1
        subst f0; subst f1
        have a0 := hcl.2.2 0 (by omega)
        have a1 := hcl.2.2 1 (by omega)
        rw [add_zero', add_zero'] at a0 a1
        exact ⟨(n0, n1), cell _ _ (by simpa using a0), cell _ _ (by simpa using a1)⟩
    have build : ∀ n, n ≤ len → ∃ es : List (Int × Int), es.length = n ∧ ∀ (i : Nat) (u : Value), (flat es)[i]? = some u → cc[i + (off + (len - n) * 2)]? = some u := by
      intro n
      induction n with
      | zero => exact fun _ => ⟨[], rfl, fun i u h => by simp [flat] at h⟩
      | succ n ih =>
        intro hn
        obtain ⟨es, h1, h2⟩ := ih (by omega)
        obtain ⟨p, q0, q1⟩ := each (len - (n + 1)) (by omega)
        refine ⟨p :: es, by simp [h1], fun i u h => ?_⟩
        match i, h with
        | 0, h => simp [flat] at h; subst h; rw [← q0]; congr 1; omega
        | 1, h => simp [flat] at h; subst h; rw [← q1]; congr 1; omega
        | i + 2, h =>
          simp [flat] at h
          rw [← h2 i u h]; congr 1; omega
    obtain ⟨es, h1, h2⟩ := build len (Nat.le_refl _)
    exact ⟨b, off, len, cap, cc, el, fz, es, rfl, hl, hc, hblk, h1, fun i u h => by have := h2 i u h; simpa using this⟩
end

/-- A block of the world's, to be read alone. -/
theorem HR.newRo {ι : Inj} {w0 : Base} {h : Heap} {w : World} (r : HR ι w0 h w) (hl : ∀ β o, h.get β = some o → o.loose = true) {b : Nat} {cc : Array Value} {e : TypeId} {fz : Nat × Nat} (hb : w.heap[b]? = some (.cells cc e fz))
    {c : List Value} {o : Nat} (hc : ∀ (i : Nat) (v : Value), c[i]? = some v → ∃ v', cc[i + o]? = some v' ∧ V ι v v') (h1 : ∀ v ∈ c, v.oneCell' = true) :
    HR (ι.set h.next (b, (o, cc.size))) w0 (h.new (.cells c true)) w ∧ ι.le (ι.set h.next (b, (o, cc.size))) := by
  have hn : ι h.next = none := by
    cases e : ι h.next with
    | none => rfl
    | some p => exact absurd (r.dom _ _ e) (Nat.lt_irrefl _)
  have hle := Inj.le_set hn (Nat.le_of_eq r.bnd) (b, (o, cc.size))
  refine ⟨⟨r.below, by simp [Inj.set, r.bnd], ?_, ?_, ?_, ?_⟩, hle⟩
  · intro β q hq
    rw [Inj.set_at] at hq
    split at hq
    · subst β; simp
    · have := r.dom β q hq; simp; omega
  · intro β hβ
    rw [Heap.get_new, if_neg (by simp at hβ; omega)]
    exact r.fresh β (by simp at hβ; omega)
  · intro β o' b' t h1' h2
    rw [Heap.get_new] at h1'
    rw [Inj.set_at] at h2
    split at h1'
    · rename_i ee; subst ee; cases h1'; rw [if_pos rfl] at h2; cases h2
      exact ⟨cc, e, fz, hb, rfl, fun i v hv => let ⟨v', a1, a2⟩ := hc i v hv; ⟨v', a1, a2.mono hle⟩, (fun h => nomatch h), h1⟩
    · rename_i ee; rw [if_neg ee] at h2
      exact (r.objs β o' b' t h1' h2).mono hle rfl
  · intro β γ b' s' t o1 p1 hne h1' h2 h3 h4
    have lo : ∀ x y, (h.new (.cells c true)).get x = some y → y.loose = true := fun x y hx => by
      rw [Heap.get_new] at hx
      split at hx
      · cases hx; rfl
      · exact hl x y hx
    exact .inl ⟨lo _ _ h3, lo _ _ h4⟩

/-! a law's call -/
def BaseOf (W : World) : Base := ⟨W, fun k => k < W.heap.size, fun _ h => h⟩
def Inj0 : Inj := ⟨fun _ => none, 0⟩
theorem HR.start (W : World) : HR Inj0 (BaseOf W) Heap0 W :=
  ⟨Keep.refl (BaseOf W), rfl, fun β p e => (by cases e), fun β _ => rfl, fun β o b s _ e => (by cases e), fun β γ b s t o p _ e => (by cases e)⟩
theorem Heap0.loose (β : Nat) (o : AObj) (e : Heap0.get β = some o) : o.loose = true := by cases e
/-- The law's answer. -/
theorem law_calls {P : Program} {g : Nat} {args args' : List Value} {h : Heap} {W : World} {ι : Inj} (H : SndF P g args h (outC [bP] fun r _ => r = true)) (hl : VL ι args args') (hr : HR ι (BaseOf W) h W) :
    Calls P g args'.toArray W fun e W' => e = .returned (.bool true) ∧ Keep (BaseOf W) W' := by
  refine (H.2 ι (BaseOf W) W args' hl hr).mono fun e W' q => ?_
  obtain ⟨κ, h', q1, q2, q3⟩ := q
  cases e with
  | returned v' =>
    obtain ⟨v, h3, h4⟩ := q3
    obtain ⟨x, hx, hxt⟩ := (get_iff _ _).1 h4
    have hv := bP.ok v x hx
    have hxt : x = true := hxt
    subst hxt
    subst hv
    have : v' = .bool true := by cases h3; rfl
    subst this
    exact ⟨rfl, q2.below⟩
  | panicked chain => obtain ⟨v, v', _, _, h⟩ := q3; exact h.elim
  | outgrown => exact q3.elim
theorem flat_one : ∀ (es : List (Int × Int)), ∀ v ∈ flat es, v.oneCell' = true ∧ ∃ n, v = .int .i64 n
  | [], v, h => by simp [flat] at h
  | (a, b) :: r, v, h => by
    simp only [flat, List.mem_cons] at h
    rcases h with rfl | rfl | h
    · exact ⟨rfl, _, rfl⟩
    · exact ⟨rfl, _, rfl⟩
    · exact flat_one r v h
/-- A slice of pairs that came in. -/
theorem pairs_in {ι : Inj} {w0 : Base} {h : Heap} {w : World} (r : HR ι w0 h w) (hl : ∀ β o, h.get β = some o → o.loose = true) {b off len cap : Nat} {cc : Array Value} {el : TypeId} {fz : Nat × Nat} {es : List (Int × Int)}
    (hb : w.heap[b]? = some (.cells cc el fz)) (hlen : es.length = len) (hc : len ≤ cap) (hcells : ∀ (i : Nat) (u : Value), (flat es)[i]? = some u → cc[i + off]? = some u) :
    ∃ ι' : Inj, HR ι' w0 (h.new (.cells (flat es) true)) w ∧ ι.le ι' ∧ V ι' (.slice (some ⟨h.next, 0, none⟩) len len) (.slice (some ⟨b, off, none⟩) len cap) ∧
      PsAt (h.new (.cells (flat es) true)) ⟨some ⟨h.next, 0, none⟩, len, len⟩ es ∧ (∀ β o, (h.new (.cells (flat es) true)).get β = some o → o.loose = true) := by
  obtain ⟨h1, h2⟩ := r.newRo hl hb (c := flat es) (o := off) (fun i v hv => ⟨v, hcells i v hv, by
    obtain ⟨_, n, rfl⟩ := flat_one es v (List.mem_of_getElem? hv)
    exact .int _ _⟩) (fun v hv => (flat_one es v hv).1)
  refine ⟨_, h1, h2, ?_, SlAt.new h 2 len len (flat es) true none (by rw [flat_length]; omega) (Nat.le_refl _), fun β o e => ?_⟩
  · exact .slice (Inj.set_self ι h.next _) hc (fun e => by cases e) (fun k e => by cases e) (Nat.le_refl _) (.inr (by simp))
  · rw [Heap.get_new] at e
    split at e
    · cases e; rfl
    · exact hl β o e
end Go.AM
