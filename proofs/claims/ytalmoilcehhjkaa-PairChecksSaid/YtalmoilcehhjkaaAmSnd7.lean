/- The abstract machine's operations are sound: make, copy, clear, maps, strings' runes. -/
import Derived.Test.YtalmoilcehhjkaaAmSnd6
set_option linter.unusedVariables false
set_option linter.unusedSimpArgs false
namespace Go.AM

section
variable {P : Program} {E : List TypeId} {ι : Inj} {w0 : Base} {w : World} {h : Heap} {f : Fr} {a : Act}

theorem wrap64_id {n : Int} (h0 : -9223372036854775808 ≤ n) (h1 : n ≤ 9223372036854775807) : IntKind.i64.wrap n = n := by
  rw [IntKind.wrap_i64]; omega
theorem wrap64_small {n : Int} (h0 : 0 ≤ n) (h1 : n ≤ 1000000000000) : IntKind.i64.wrap n = n := wrap64_id (by omega) (by omega)

theorem makeSlice_alc (ι : Inj) (w : World) {t e : TypeId} {l c : Int} {kl kc : IntKind} {by_ k : Nat} {z : List Value} (ht : P.underlying t = some (.slice e))
    (hby : bytesT P e = some by_) (hk : sizeT P e = some k) (hz : zcells P e = some z) (hc : (within 0 l c && (decide (c ≤ 1000000000000) && (small c.toNat by_ && Nat.beq z.length k))) = true) :
    Alc P (Instr.makeSlice t (.int kl l) (.int kc c)) ι w (.cells (rep z c.toNat) false) (fun n => .slice (some ⟨n, 0, some 0⟩) l.toNat c.toNat) := by
  simp only [Bool.and_eq_true, decide_eq_true_eq] at hc
  obtain ⟨hc1, hc2, hc3, hc4⟩ := hc
  obtain ⟨g1, g2, g3⟩ := within_spec hc1
  obtain ⟨s1, s2⟩ := small_spec hc3
  obtain ⟨zv, hz1, hzc, hzp, hz1c⟩ := zcells_some hz
  have hzs : zv.cells.size = k := by have := Nat.eq_of_beq_eq_true hc4; rw [← this, hzc]; simp
  obtain ⟨i, hi, hib⟩ := bytesT_some hby
  have hti : (typeInfo e).run P w = .ok i w := by simp [typeInfo, hi]
  have hw1 := wrap64_small (n := l) g2 (by omega)
  have hw2 := wrap64_small (n := c) (by omega) hc2
  have hbig : ¬ ((i.bytes : Int) * c > 2 ^ 48) := by
    rw [hib]
    have : (by_ : Int) * c = ((c.toNat * by_ : Nat) : Int) := by
      rw [Int.natCast_mul, Int.toNat_of_nonneg (by omega), Int.mul_comm]
    rw [this]
    have : (2 : Int) ^ 48 = 281474976710656 := by decide
    omega
  have hroom : ¬ (c.toNat * i.bytes > roomBytes) := by
    rw [hib]; unfold roomBytes; omega
  have hlen : ∀ u ∈ rep z c.toNat, u.oneCell' = true := by
    intro u hu
    have : ∀ n, ∀ u ∈ rep z n, u.oneCell' = true := by
      intro n
      induction n with
      | zero => intro u hu; simp [rep] at hu
      | succ n ih =>
        intro u hu
        rcases List.mem_append.1 hu with g | g
        · exact hz1c u (hzc ▸ g)
        · exact ih u g
    exact this _ u hu
  have hzv := (run_zeroT hz1 w).1
  have hrep := rep_zero zv c.toNat k hzs
  refine Alc.newCells (cc := (rep z c.toNat).toArray) (e := e) (c := rep z c.toNat) (.slice (some ⟨w.heap.size, 0, none⟩) l.toNat c.toNat) ?_ (fun j u hu => ⟨u, by simpa using hu, ?_⟩) hlen
    (fun κ n hκ => .slice hκ (Nat.le_refl _) (fun _ => rfl) (fun _ e => by cases e) (by omega) (.inr rfl))
  · have hlneg : ¬ (l < 0) := by omega
    have hcneg : ¬ (c < 0) := by omega
    have hlc : ¬ (l > c) := by omega
    by_cases h0 : c.toNat * k = 0
    · have hr0 : rep z c.toNat = [] := by
        apply List.eq_nil_of_length_eq_zero
        have := rep_length z c.toNat
        rw [this, hzc]; simp [hzs, h0]
      have he : (Array.range 0).map (fun i : Nat => (#[] : Array Value)[i % (#[] : Array Value).size]!) = #[] := by simp
      simp only [Instr.makeSlice, Sem.run_bind, run_underlying ht, Result.andThen_ok, asInt, asIntOf, Sem.run_pure, hti, hw1, hw2, Sem.run_ite]
      simp only [hcneg, hbig, hlneg, hlc, decide_false, Bool.or_false, Bool.false_eq_true, if_false, askRoom, hroom, Sem.run_pure, Result.andThen_ok, Sem.run_bind, run_sizeT hk, h0, if_true, Sem.run_ite, he, newRow, newObj, Sem.run, hr0]
    · rw [hzc, ← hrep]
      simp only [Instr.makeSlice, Sem.run_bind, run_underlying ht, Result.andThen_ok, asInt, asIntOf, Sem.run_pure, hti, hw1, hw2, Sem.run_ite]
      simp only [hcneg, hbig, hlneg, hlc, decide_false, Bool.or_false, Bool.false_eq_true, if_false, askRoom, hroom, Sem.run_pure, Result.andThen_ok, Sem.run_bind, run_sizeT hk, h0, Sem.run_ite, hzv, newRow, newObj, Sem.run]
  · exact (rep_VL (by rw [hzc]; exact (V.of_plain ι hzp).cells) c.toNat).2 j u u hu hu

theorem HR.one_rd (hr : HR ι w0 h w) {a a' : Addr} (ha : V ι (.pointer (some a)) (.pointer (some a'))) {n : Nat} {l : List Value} (e : h.rdN a n = some l) : ∀ u ∈ l, u.oneCell' = true := by
  obtain ⟨b, s, hi, _, _⟩ := ha.ptr_inv2
  simp only [Heap.rdN, Option.bind_eq_some_iff] at e
  obtain ⟨c, hc, hn⟩ := e
  cases hle : Nat.ble (a.off + n) c.length with
  | false => rw [hle] at hn; cases hn
  | true =>
    rw [hle] at hn; cases hn
    intro u hu
    exact hr.one hc hi u (List.mem_of_mem_drop (List.mem_of_mem_take hu))

theorem rdN_length {a : Addr} {n : Nat} {l : List Value} (e : h.rdN a n = some l) : l.length = n := by
  simp only [Heap.rdN, Option.bind_eq_some_iff] at e
  obtain ⟨c, hc, hn⟩ := e
  cases hle : Nat.ble (a.off + n) c.length with
  | false => rw [hle] at hn; cases hn
  | true =>
    rw [hle] at hn; cases hn
    have := Nat.le_of_ble_eq_true hle
    simp; omega

theorem copy_sound (hr : HR ι w0 h w) {t u ty e : TypeId} {k : Nat} {d s : Sl} {v y : Value} {K : Value → Heap → Prop} (ht : P.underlying t = some (.slice e)) (hk : sizeT P e = some k) (hd : V ι d.v v) (hs : V ι s.v y)
    (H : d.a.elim (K (goI 0) h) fun a => s.a.elim (K (goI 0) h) fun b => get (h.rdN ⟨b.block, b.off, none⟩ (Nat.min s.len d.len * k)) fun l => get (h.wr ⟨a.block, a.off, none⟩ l) fun h' => K (goI (Nat.min s.len d.len : Nat)) h') :
    Good P (Builtin.copy_ #[t, u] ty #[v, y]) ι w0 w K := by
  rcases hd.slice_inv with ⟨h1, h2, h3, rfl⟩ | ⟨β, b2, t2, o, sp, a', cap, h1, hi2, hsp, hcap, hex, hl2, had, rfl⟩
  · rw [h1] at H
    rcases hs.slice_inv with ⟨g1, g2, g3, rfl⟩ | ⟨β, b2, t2, o, sp, a', cap, g1, hi2, hsp, hcap, hex, hl2, had, rfl⟩
    · refine Good.val hr (v := goI 0) ?_ (.int _ _) H
      simp [Builtin.copy_, run_underlying ht, run_sizeT hk, Builtin.lenOf, Builtin.firstCells, goInt, goI]
    · refine Good.val hr (v := goI 0) ?_ (.int _ _) H
      simp [Builtin.copy_, run_underlying ht, run_sizeT hk, Builtin.lenOf, Builtin.firstCells, goInt, goI, loadCells, loadCellsFrom]
  · rw [h1] at H
    simp only [optK, Option.elim] at H
    rcases hs.slice_inv with ⟨g1, g2, g3, rfl⟩ | ⟨γ, b3, t3, p, sq, a3, cap3, g1, gi, _, gcap, _, gl, gad, rfl⟩
    · rw [g1] at H
      refine Good.val hr (v := goI 0) ?_ (.int _ _) H
      simp [Builtin.copy_, run_underlying ht, run_sizeT hk, Builtin.lenOf, Builtin.firstCells, goInt, goI, storeCells]
    · rw [g1] at H
      simp only [get_iff] at H
      obtain ⟨l, hl, h', hw, hK⟩ := H
      obtain ⟨a4, cap4, l', heq, hlo, hvl, _⟩ := hr.rdS (P := P) (n := Nat.min s.len d.len) hs g1 (Nat.min_le_left _ _) hl
      cases heq
      have hones : ∀ u ∈ l, u.oneCell' = true := hr.one_rd (a := ⟨γ, p, none⟩) (.ptr gi rfl) hl
      rcases had with had | had
      · -- no room at all: nothing is copied
        have hd0 : d.len = 0 := by omega
        have hl0 : l = [] := by
          apply List.eq_nil_of_length_eq_zero
          rw [rdN_length hl, hd0]; simp
        subst hl0
        have hl0' : l' = [] := hvl.nil_inv
        subst hl0'
        have hp : V ι (.pointer (some ⟨β, o, none⟩)) (.pointer (some ⟨b2, o + t2.1, none⟩)) := .ptr hi2 rfl
        obtain ⟨w', hst, hr'⟩ := hr.wr (P := P) hp (VL.nil ι) (by simp) hw
        have hw' : w' = w := by simp [storeCells] at hst; exact hst.symm
        subst hw'
        refine ⟨_, _, ?_, ι, goI (Nat.min s.len d.len : Nat), _, Inj.le_refl ι, .int _ _, hr', hK⟩
        simp [Builtin.copy_, run_underlying ht, run_sizeT hk, Builtin.lenOf, Builtin.firstCells, goInt, goI, hlo, storeCells]
      · subst had
        have hp : V ι (.pointer (some ⟨β, o, none⟩)) (.pointer (some ⟨b2, o + t2.1, none⟩)) := .ptr hi2 rfl
        obtain ⟨w', hst, hr'⟩ := hr.wr (P := P) hp hvl hones hw
        refine ⟨_, _, ?_, ι, goI (Nat.min s.len d.len : Nat), _, Inj.le_refl ι, .int _ _, hr', hK⟩
        simp [Builtin.copy_, run_underlying ht, run_sizeT hk, Builtin.lenOf, Builtin.firstCells, goInt, goI, hlo, hst]

theorem clear_sound (hr : HR ι w0 h w) {t ty e : TypeId} {z : List Value} {s : Sl} {v : Value} {K : Value → Heap → Prop} (ht : P.underlying t = some (.slice e)) (hz : zcells P e = some z) (hs : V ι s.v v)
    (H : s.a.elim (K undef h) fun a => get (h.wr ⟨a.block, a.off, none⟩ (rep z s.len)) fun h' => K undef h') : Good P (Builtin.clear_ #[t] ty #[v]) ι w0 w K := by
  rcases hs.slice_inv with ⟨h1, h2, h3, rfl⟩ | ⟨β, b2, t2, o, sp, a', cap, h1, hi2, hsp, hcap, hex, hl2, had, rfl⟩
  · rw [h1] at H
    refine Good.val hr (v := undef) ?_ (V.undef ι) H
    simp [Builtin.clear_, run_underlying ht, undef]
  · rw [h1] at H
    simp only [optK, Option.elim, get_iff] at H
    obtain ⟨h', hw, hK⟩ := H
    obtain ⟨zv, hz1, hzc, hzp, hz1c⟩ := zcells_some hz
    have hzv := (run_zeroT hz1 w).1
    have hp : V ι (.pointer (some ⟨β, o, none⟩)) (.pointer (some ⟨b2, o + t2.1, none⟩)) := .ptr hi2 rfl
    have hones : ∀ u ∈ rep z s.len, u.oneCell' = true := by
      have : ∀ n, ∀ u ∈ rep z n, u.oneCell' = true := by
        intro n
        induction n with
        | zero => intro u hu; simp [rep] at hu
        | succ n ih =>
          intro u hu
          rcases List.mem_append.1 hu with g | g
          · exact hz1c u (hzc ▸ g)
          · exact ih u g
      exact this _
    have hvl : VL ι (rep z s.len) (rep z s.len) := rep_VL (by rw [hzc]; exact (V.of_plain ι hzp).cells) s.len
    obtain ⟨w', hst, hr'⟩ := hr.wr (P := P) hp hvl hones hw
    cases hn : s.len with
    | zero =>
      rw [hn] at hst
      have hw' : w' = w := by simp [storeCells, rep] at hst; exact hst.symm
      subst hw'
      refine ⟨_, _, ?_, ι, undef, _, Inj.le_refl ι, V.undef ι, hr', hK⟩
      simp [Builtin.clear_, run_underlying ht, undef]
    | succ n =>
      have had' : a' = ⟨b2, o + t2.1, none⟩ := by
        rcases had with g | g
        · omega
        · exact g
      subst had'
      refine ⟨_, _, ?_, ι, undef, _, Inj.le_refl ι, V.undef ι, hr', hK⟩
      have hrep : Builtin.zeroCells zv.cells (n + 1) = (rep z s.len).toArray := by
        unfold Builtin.zeroCells
        rw [rep_zero zv (n + 1) _ rfl, hzc, hn]
      simp [Builtin.clear_, run_underlying ht, undef, hzv, hrep, hst]
end
end Go.AM
