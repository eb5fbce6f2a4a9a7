/- The abstract machine's operations are sound: append, make, copy, clear, maps, strings' runes. -/
import Derived.Test.YtalmoilcehhjkaaAmSnd5
set_option linter.unusedVariables false
set_option linter.unusedSimpArgs false
namespace Go.AM

section
variable {P : Program} {E : List TypeId} {ι : Inj} {w0 : Base} {w : World} {h : Heap} {f : Fr} {a : Act}

theorem bytesT_some {t : TypeId} {n : Nat} (e : bytesT P t = some n) : ∃ i, P.info? t = some i ∧ i.bytes = n := by
  simpa [bytesT] using e
theorem sizeT_some {t : TypeId} {n : Nat} (e : sizeT P t = some n) : ∃ i, P.info? t = some i ∧ i.size = n := by
  simpa [sizeT] using e

/-- The model's append, where there is room. -/
theorem run_append_fits {t ty e : TypeId} {i : TypeInfo} (ht : P.underlying t = some (.slice e)) (hi : P.info? e = some i) {a b : Addr} {sLen sCap n c : Nat} {l : List Value} {w' : World}
    (hroom : sLen + n ≤ sCap) (hl : (loadCells b (n * i.size)).run P w = .ok l.toArray w) (hst : (storeCells (a.add (sLen * i.size)) l).run P w = .ok () w') :
    (Builtin.append_ #[t, t] ty #[.slice (some a) sLen sCap, .slice (some b) n c]).run P w = .ok (.slice (some a) (sLen + n) sCap) w' := by
  simp [Builtin.append_, run_underlying ht, sizeOf, typeInfo, hi, Builtin.lenOf, hroom, Builtin.firstCells, hl, hst]
/-- Nothing is appended. -/
theorem run_append_zero {t ty e : TypeId} {i : TypeInfo} (ht : P.underlying t = some (.slice e)) (hi : P.info? e = some i) {x : Option Addr} {sLen sCap c : Nat} {y : Value} (hy : ∃ b, y = .slice b 0 c)
    (hroom : sLen ≤ sCap) : (Builtin.append_ #[t, t] ty #[.slice x sLen sCap, y]).run P w = .ok (.slice x sLen sCap) w := by
  obtain ⟨b, rfl⟩ := hy
  cases b <;> cases x <;> simp [Builtin.append_, run_underlying ht, sizeOf, typeInfo, hi, Builtin.lenOf, hroom, Builtin.firstCells, loadCells, loadCellsFrom, storeCells]

theorem small_spec {n by_ : Nat} (e : small n by_ = true) : n * by_ ≤ 70368744177664 ∧ n ≤ 70368744177664 := by simpa [small] using e

/-- New cells behind a draw. -/
theorem Good.newDrawn (hr : HR ι w0 h w) {s : Sem Value} {K : Value → Heap → Prop} {c : List Value} {cc : Array Value} {e : TypeId} {v v' : Value}
    (hrun : s.run P w = .ok v' (w.drew.alloc (.cells cc e))) (hc : ∀ (i : Nat) (v : Value), c[i]? = some v → ∃ v', cc[i]? = some v' ∧ V ι v v') (h1 : ∀ v ∈ c, v.oneCell' = true)
    (hv : ∀ κ : Inj, κ h.next = some (w.heap.size, (0, cc.size)) → V κ v v') (hK : K v (h.new (.cells c false))) : Good P s ι w0 w K := by
  have hr' := hr.drewN (w.drawn + 1)
  obtain ⟨κ, h1', h2, h3⟩ := hr'.newCells e hc h1
  exact ⟨_, _, hrun, κ, _, _, h1', hv κ h3, h2, hK⟩

theorem zeros_get {z : Array Value} {l : List Value} {n : Nat} {i : Nat} {v : Value} (hv : l[i]? = some v) : (l.toArray ++ Builtin.zeroCells z n)[i]? = some v := by
  have hi : i < l.length := by
    rcases Nat.lt_or_ge i l.length with g | g
    · exact g
    · rw [List.getElem?_eq_none g] at hv; cases hv
  rw [Array.getElem?_append_left (by simpa using hi)]
  simpa using hv

theorem app_sound (hr : HR ι w0 h w) {t ty e' : TypeId} {k by_ : Nat} {z : List Value} {s x : Sl} {v y : Value} {b : Addr} {news : List Value} {r : Sl × Heap} {K : Value → Heap → Prop}
    (ht : P.underlying t = some (.slice e')) (hk : sizeT P e' = some k) (hby : bytesT P e' = some by_) (hz : zcells P e' = some z) (hzk : z.length = k) (hs : V ι s.v v) (hx : V ι x.v y) (hb : x.a = some b)
    (hn : h.rdN ⟨b.block, b.off, none⟩ (x.len * k) = some news) (ha : h.app k by_ s x.len news = some r) (hK : K r.1.v r.2) : Good P (Builtin.append_ #[t, t] ty #[v, y]) ι w0 w K := by
  obtain ⟨b', cap', l', rfl, hl, hvl, hcell⟩ := hr.rdS (P := P) hx hb (Nat.le_refl _) hn
  obtain ⟨i, hi, hib⟩ := bytesT_some hby
  have his : i.size = k := by
    obtain ⟨j, hj, hjs⟩ := sizeT_some hk
    rw [hi] at hj; cases hj; exact hjs
  obtain ⟨zv, hz1, hzc, hzp, _⟩ := zcells_some hz
  have hzs : zv.cells.size = k := by rw [← hzk, hzc]; simp
  have hz0 : i.zero = some zv := by
    have hh := hz1
    simp only [zeroT, hi, Option.bind_some, Option.bind_eq_some_iff] at hh
    obtain ⟨y, hy, hc⟩ := hh
    cases hp : plainV y with
    | false => rw [hp] at hc; cases hc
    | true => rw [hp] at hc; cases hc; exact hy
  have hnews1 : ∀ u ∈ news, u.oneCell' = true := by
    rcases hx.slice_inv with ⟨h1, _⟩ | ⟨β, b2, t2, o, sp, a', cap, h1, hi2, _⟩
    · rw [hb] at h1; cases h1
    · rw [hb] at h1; cases h1
      simp only [Heap.rdN, Option.bind_eq_some_iff] at hn
      obtain ⟨c, hc, hn⟩ := hn
      cases hle : Nat.ble (o + x.len * k) c.length with
      | false => rw [hle] at hn; cases hn
      | true =>
        rw [hle] at hn; cases hn
        intro u hu
        exact hr.one hc hi2 u (List.mem_of_mem_drop (List.mem_of_mem_take hu))
  have hlen : l'.length = x.len * k := by
    have h1 := hvl.1
    simp only [Heap.rdN, Option.bind_eq_some_iff] at hn
    obtain ⟨c, hc, hn⟩ := hn
    cases hle : Nat.ble (b.off + x.len * k) c.length with
    | false => rw [hle] at hn; cases hn
    | true =>
      rw [hle] at hn; cases hn
      have := Nat.le_of_ble_eq_true hle
      simp at h1; omega
  unfold Heap.app at ha
  cases h0 : Nat.beq x.len 0 with
  | true =>
    rw [h0] at ha
    simp only [cond_true, Option.some.injEq] at ha
    subst ha
    have hx0 : x.len = 0 := Nat.eq_of_beq_eq_true h0
    rw [hx0]
    rcases hs.slice_inv with ⟨h1, h2, h3, rfl⟩ | ⟨β, b2, t2, o, sp, a', cap, h1, hi2, hsp, hcap, hex, hl2, had, rfl⟩
    · exact Good.val hr (run_append_zero ht hi ⟨some b', rfl⟩ (Nat.le_refl _)) hs hK
    · exact Good.val hr (run_append_zero ht hi ⟨some b', rfl⟩ (by omega)) hs hK
  | false =>
    have hx0 : x.len ≠ 0 := by intro e; rw [e] at h0; simp at h0
    rw [h0] at ha
    simp only [cond_false] at ha
    cases hsm : small (s.len + x.len) by_ with
    | false => rw [hsm] at ha; cases ha
    | true =>
      rw [hsm] at ha
      simp only [cond_true] at ha
      obtain ⟨hsm1, hsm2⟩ := small_spec hsm
      rcases hs.slice_inv with ⟨h1, h2, h3, rfl⟩ | ⟨β, b2, t2, o, sp, a', cap, h1, hi2, hsp, hcap, hex, hl2, had, rfl⟩
      · rw [h1] at ha
        simp only [Option.some.injEq] at ha
        subst ha
        have hrun := run_append_nil (P := P) w t ty e' i zv ht hi hz0 b' x.len cap' l' (by rw [his]; exact hlen) hcell (by omega) (by omega) (by rw [hib]; rw [h2] at hsm1; simp only [Nat.zero_add] at hsm1; omega)
        refine Good.newDrawn hr hrun (c := news) (fun j u hu => ?_) hnews1 (fun κ hκ => .slice hκ ?_ (by simp) (fun j e => ?_) (Nat.le_refl _) (.inr rfl)) hK
        · obtain ⟨u', h5, h6⟩ := hvl.get hu
          exact ⟨u', zeros_get h5, h6⟩
        · simp only [grownCap, Question.cut]; exact Nat.le_add_right _ _
        · simp only [Option.some.injEq, Nat.add_right_cancel_iff] at e
          subst e
          have hge : x.len ≤ grownCap w x.len 0 e' := by simp only [grownCap, Question.cut]; exact Nat.le_add_right _ _
          simp only [Array.size_append, List.size_toArray, size_zeroCells, hzs, hlen]
          rw [← Nat.add_mul]
          simp only [Nat.zero_add]
          exact Nat.mul_le_mul_right _ (by omega)
      · rw [h1] at ha
        simp only at ha
        cases hroom : Nat.ble (s.len + x.len) s.cap with
        | true =>
          rw [hroom] at ha
          simp only [cond_true, Option.map_eq_some_iff] at ha
          obtain ⟨h', hw, rfl⟩ := ha
          have hroom' := Nat.le_of_ble_eq_true hroom
          have had' : a' = ⟨b2, o + t2.1, none⟩ := by
            rcases had with g | g
            · omega
            · exact g
          subst had'
          have hp : V ι (.pointer (some ⟨β, o + s.len * k, none⟩)) (.pointer (some ⟨b2, o + s.len * k + t2.1, none⟩)) := .ptr hi2 rfl
          obtain ⟨w', hst, hr'⟩ := hr.wr (P := P) hp hvl hnews1 hw
          have hst' : (storeCells ((⟨b2, o + t2.1, none⟩ : Addr).add (s.len * i.size)) l').run P w = .ok () w' := by
            rw [add_zero', his, show o + t2.1 + s.len * k = o + s.len * k + t2.1 from by omega]; exact hst
          have hrun := run_append_fits (P := P) (w := w) (ty := ty) ht hi (a := ⟨b2, o + t2.1, none⟩) (b := b') (sLen := s.len) (sCap := cap) (n := x.len) (c := cap') (by omega) (by rw [his]; exact hl) hst'
          exact ⟨_, _, hrun, ι, _, _, Inj.le_refl ι, .slice hi2 hcap hex hsp hroom' (.inr rfl), hr', hK⟩
        | false =>
          have hroom' : ¬ (s.len + x.len ≤ s.cap) := by
            intro g; rw [Nat.ble_eq_true_of_le g] at hroom; cases hroom
          rw [hroom] at ha
          simp only [cond_false, Option.bind_eq_some_iff] at ha
          obtain ⟨olds, holds, ha⟩ := ha
          obtain ⟨a2, cap2, o', heq, hlo, hvo, hco⟩ := hr.rdS (P := P) (n := s.len) hs h1 (Nat.le_refl _) holds
          cases heq
          have hol : o'.length = s.len * k := by
            have h1 := hvo.1
            simp only [Heap.rdN, Option.bind_eq_some_iff] at holds
            obtain ⟨c, hc, hn⟩ := holds
            cases hle : Nat.ble (o + s.len * k) c.length with
            | false => rw [hle] at hn; cases hn
            | true =>
              rw [hle] at hn; cases hn
              have := Nat.le_of_ble_eq_true hle
              simp at h1; omega
          have hold1 : ∀ u ∈ olds, u.oneCell' = true := by
            simp only [Heap.rdN, Option.bind_eq_some_iff] at holds
            obtain ⟨c, hc, hn⟩ := holds
            cases hle : Nat.ble (o + s.len * k) c.length with
            | false => rw [hle] at hn; cases hn
            | true =>
              rw [hle] at hn; cases hn
              intro u hu
              exact hr.one hc hi2 u (List.mem_of_mem_drop (List.mem_of_mem_take hu))
          have hcells : ∀ (j : Nat) (u : Value), (olds ++ news)[j]? = some u → ∃ u', (o'.toArray ++ l'.toArray ++ Builtin.zeroCells zv.cells (grownCap w (s.len + x.len) cap e' - (s.len + x.len)))[j]? = some u' ∧ V ι u u' := by
            intro j u hu
            obtain ⟨u', h5, h6⟩ := (hvo.append hvl).get hu
            refine ⟨u', ?_, h6⟩
            have := zeros_get (z := zv.cells) (n := grownCap w (s.len + x.len) cap e' - (s.len + x.len)) h5
            simpa using this
          have hone : ∀ u ∈ olds ++ news, u.oneCell' = true := by
            intro u hu
            rcases List.mem_append.1 hu with g | g
            · exact hold1 u g
            · exact hnews1 u g
          have hge : s.len + x.len ≤ grownCap w (s.len + x.len) cap e' := by simp only [grownCap, Question.cut]; omega
          have hroomy : ∀ j, some (k + 1) = some (j + 1) → 0 + 0 + grownCap w (s.len + x.len) cap e' * j ≤ (o'.toArray ++ l'.toArray ++ Builtin.zeroCells zv.cells (grownCap w (s.len + x.len) cap e' - (s.len + x.len))).size := by
            intro j e
            simp only [Option.some.injEq, Nat.add_right_cancel_iff] at e
            subst e
            simp only [Array.size_append, List.size_toArray, size_zeroCells, hzs, hlen, hol]
            rw [← Nat.add_mul, ← Nat.add_mul]
            simp only [Nat.zero_add]
            exact Nat.mul_le_mul_right _ (by omega)
          by_cases hcc : s.len + x.len ≤ cap
          · -- there is room in the world
            rcases sp with _ | q | q
            · cases ha
            · exact absurd (hex rfl) (by omega)
            · simp only at ha
              cases hqk : Nat.beq q k with
              | false => rw [hqk] at ha; cases ha
              | true =>
                have hq := Nat.eq_of_beq_eq_true hqk
                subst hq
                rw [hqk] at ha
                simp only [cond_true, Option.map_eq_some_iff] at ha
                obtain ⟨c, hown, rfl⟩ := ha
                have had' : a' = ⟨b2, o + t2.1, none⟩ := by
                  rcases had with g | g
                  · omega
                  · exact g
                subst had'
                have hfit := hsp q rfl
                have hg := Heap.own_some hown
                obtain ⟨cc, et, fz, g1, g0, g2, g3, g5⟩ := hr.objs β _ b2 t2 hg hi2
                obtain ⟨g4, rfl⟩ := g3 rfl
                have hmul : (s.len + x.len) * q ≤ cap * q := Nat.mul_le_mul_right _ hcc
                rw [Nat.add_mul] at hmul
                have hst := run_storeCells_at P b2 (o + t2.1 + s.len * q) et l' 0 cc w g1 (by omega) (hvl.one hnews1)
                have hst' : (storeCells ((⟨b2, o + t2.1, none⟩ : Addr).add (s.len * i.size)) l').run P w = .ok () (w.setRow b2 (cc.toList.take (o + t2.1 + s.len * q + 0) ++ l' ++ cc.toList.drop (o + t2.1 + s.len * q + 0 + l'.length)).toArray) := by
                  rw [add_zero', his]; exact hst
                have hrun := run_append_fits (P := P) (w := w) (ty := ty) ht hi (a := ⟨b2, o + t2.1, none⟩) (b := b') (sLen := s.len) (sCap := cap) (n := x.len) (c := cap') (by omega) (by rw [his]; exact hl) hst'
                have hn : ι h.next = none := by
                  cases e : ι h.next with
                  | none => rfl
                  | some p => exact absurd (hr.dom _ _ e) (Nat.lt_irrefl _)
                have hle := Inj.le_set hn (Nat.le_of_eq hr.bnd) (b2, ((o + t2.1), t2.2))
                have hβ : β < h.next := hr.dom _ _ hi2
                refine ⟨_, _, hrun, ι.set h.next (b2, ((o + t2.1), t2.2)), _, _, hle, .slice (Inj.set_self ..) hcc (by simp) (fun j e => ?_) (Nat.le_refl _) (.inr (by simp)), ?_, hK⟩
                · simp only [Option.some.injEq, Nat.add_right_cancel_iff] at e
                  subst e
                  simp only [Nat.zero_add]; exact hfit
                · refine (hr.kill hβ).inherit hi2 hn g4 (by simp [World.setRow]) rfl rfl rfl (fun k hk => by simp [World.setRow, Array.getElem?_modify, Ne.symm hk]) (fun γ c' t p hne h5 h6 h7 e => ?_) ?_
                  · subst e
                    rcases hr.inj γ β _ _ _ _ _ hne h5 hi2 h6 hg with ⟨_, g⟩ | g | g
                    · cases g
                    · exact h7 g
                    · cases g
                  have hnew := setRow_heap w b2 cc (cc.toList.take (o + t2.1 + s.len * q + 0) ++ l' ++ cc.toList.drop (o + t2.1 + s.len * q + 0 + l'.length)).toArray et (0, 0) g1
                  refine ⟨_, et, (0, 0), hnew, by simp; omega, fun j u hu => ?_, fun _ => ⟨g4, rfl⟩, hone⟩
                  have hget : ∀ j, (cc.toList.take (o + t2.1 + s.len * q + 0) ++ l' ++ cc.toList.drop (o + t2.1 + s.len * q + 0 + l'.length)).toArray[j]? =
                      if o + t2.1 + s.len * q ≤ j ∧ j < o + t2.1 + s.len * q + l'.length then l'[j - (o + t2.1 + s.len * q)]? else cc[j]? := by
                    intro j
                    simp only [Nat.add_zero, List.getElem?_toArray]
                    have hlt : (cc.toList.take (o + t2.1 + s.len * q)).length = o + t2.1 + s.len * q := by simp; omega
                    by_cases e1 : j < o + t2.1 + s.len * q
                    · rw [if_neg (by omega), List.append_assoc, List.getElem?_append_left (by omega), List.getElem?_take_of_lt e1]; simp
                    · by_cases e2 : j < o + t2.1 + s.len * q + l'.length
                      · rw [if_pos ⟨by omega, e2⟩, List.append_assoc, List.getElem?_append_right (by omega), hlt, List.getElem?_append_left (by omega)]
                      · rw [if_neg (by omega), List.getElem?_append_right (by simp; omega), List.getElem?_drop]
                        simp only [List.length_append, hlt]
                        rw [show o + t2.1 + s.len * q + l'.length + (j - (o + t2.1 + s.len * q + l'.length)) = j from by omega]; simp
                  rw [hget]
                  have holen : olds.length = s.len * q := by have := hvo.1; omega
                  by_cases e1 : j < olds.length
                  · rw [if_neg (by simp only []; omega)]
                    rw [List.getElem?_append_left e1] at hu
                    obtain ⟨u', h5, h6⟩ := hvo.get hu
                    have hc := hco j u' h5
                    rw [add_zero', cell?_of g1] at hc
                    exact ⟨u', by simp only []; rw [show j + (o + t2.1) = o + t2.1 + j from by omega]; exact hc, h6.mono hle⟩
                  · rw [List.getElem?_append_right (by omega)] at hu
                    have hjl : j - olds.length < news.length := by
                      rcases Nat.lt_or_ge (j - olds.length) news.length with g | g
                      · exact g
                      · rw [List.getElem?_eq_none g] at hu; cases hu
                    have hnl := hvl.1
                    rw [if_pos (by simp only []; omega)]
                    obtain ⟨u', h5, h6⟩ := hvl.get hu
                    exact ⟨u', by simp only []; rw [show j + (o + t2.1) - (o + t2.1 + s.len * q) = j - olds.length from by omega]; exact h5, h6.mono hle⟩
          · have hrun := run_append_grow (P := P) w t ty e' i zv ht hi hz0 a' s.len cap o' (by rw [his]; exact hol) hco b' x.len cap' l' (by rw [his]; exact hlen) hcell (by omega) (by omega)
              (growslice_fits (by omega) (by rw [hib]; omega))
            rcases sp with _ | q | q
            · cases ha
            · simp only [Option.some.injEq] at ha
              subst ha
              exact Good.newDrawn hr hrun hcells hone (fun κ hκ => .slice hκ hge (by simp) hroomy (Nat.le_refl _) (.inr rfl)) hK
            · simp only at ha
              cases hqk : Nat.beq q k with
              | false => rw [hqk] at ha; cases ha
              | true =>
                rw [hqk] at ha
                simp only [cond_true, Option.map_eq_some_iff] at ha
                obtain ⟨c, hown, rfl⟩ := ha
                have hβ : β < h.next := hr.dom _ _ hi2
                exact Good.newDrawn (hr.kill hβ) (h := h.put β .dead) hrun hcells hone (fun κ hκ => .slice hκ hge (by simp) hroomy (Nat.le_refl _) (.inr rfl)) hK
end
end Go.AM
