/- What Check and the reference's Check compute. -/
import Derived.Test.YtalmoilcehhjkaaAw
import Derived.Test.YtalmoilcehhjkaaAmHp
set_option linter.unusedVariables false
set_option linter.unusedSimpArgs false
set_option maxHeartbeats 1000000
namespace Go.Proofs.Ytalmoilcehhjkaa
open Go hiding Expr
open Go.AM hiding get

def mn (a b : Int) : Int := if b < a then b else a
def mx (a b : Int) : Int := if b > a then b else a
def encE (e : Int × Int) : Value := .agg ⟨[.int .i64 e.1, .int .i64 e.2]⟩
def ckGo (n : Int) (seen : List (Int × Int)) : List (Int × Int) → Int
  | [] => 0
  | (a, b) :: r => if mn a b < 0 ∨ mx a b ≥ n ∨ mn a b = mx a b ∨ (mn a b, mx a b) ∈ seen then 40 else ckGo n (seen ++ [(mn a b, mx a b)]) r
def ckM (n : Int) (es : List (Int × Int)) : Int := if n < 1 ∨ n > 40 ∨ es.length > 300 then 40 else ckGo n [] es
theorem ckGo_cases (n : Int) : ∀ (es seen : List (Int × Int)), ckGo n seen es = 0 ∨ ckGo n seen es = 40
  | [], _ => .inl rfl
  | (a, b) :: r, seen => by
    unfold ckGo
    split
    · exact .inr rfl
    · exact ckGo_cases n r _

theorem eq95 (a b c d : Int) : eqK Try.prog [95, 75] 95 (.agg ⟨[.int .i64 a, .int .i64 b]⟩) (.agg ⟨[.int .i64 c, .int .i64 d]⟩) = some ((a == c) && ((b == d) && true)) := by kernel_rfl
theorem findE (e : Int × Int) : ∀ (seen : List (Int × Int)) (i : Nat), ∃ r, findV Try.prog [95, 75] 95 (encE e) (seen.map fun x => (encE x, Value.bool true)) i = some r ∧ (e ∈ seen → ∃ j, r = some (j, .bool true)) ∧ (e ∉ seen → r = none)
  | [], i => ⟨none, rfl, fun h => (by cases h), fun _ => rfl⟩
  | x :: seen, i => by
    obtain ⟨r, h1, h2, h3⟩ := findE e seen (i + 1)
    have he : eqK Try.prog [95, 75] 95 (encE e) (encE x) = some ((e.1 == x.1) && ((e.2 == x.2) && true)) := eq95 ..
    simp only [List.map_cons, findV, he, Option.bind_some]
    by_cases h : e = x
    · subst h
      refine ⟨some (i, .bool true), by simp, fun _ => ⟨i, rfl⟩, fun h => absurd (List.mem_cons_self ..) h⟩
    · have hb : ((e.1 == x.1) && ((e.2 == x.2) && true)) = false := by
        rw [Bool.eq_false_iff]
        intro hh
        simp at hh
        exact h (Prod.ext hh.1 hh.2)
      rw [hb]
      refine ⟨r, by simpa using h1, fun hm => h2 ?_, fun hm => h3 fun g => hm (List.mem_cons_of_mem _ g)⟩
      rcases List.mem_cons.1 hm with g | g
      · exact absurd g h
      · exact g

theorem l33_ok {es : List (Int × Int)} {s : Sl} {n : Int} {h0 : Heap} (hs : PsAt h0 s es) (hl : es.length ≤ 300) {g m : Nat} {XR : Int → Heap → Prop} {X0 : Heap → Prop} :
    ∀ (rest : List (Int × Int)) (i : Nat) (seen : List (Int × Int)) (h : Heap), es.drop i = rest → i ≤ es.length → Ext h0 h → g < h.next → (∃ v, h.blk g = some [.int .i64 n, v]) → m < h.next → h0.next ≤ m → h0.next ≤ g →
      h.mp m = some (seen.map fun x => (encE x, Value.bool true)) → (∀ h', Ext h0 h' → (ckGo n seen rest = 40 → XR 40 h') ∧ (ckGo n seen rest = 0 → X0 h')) → l33_121 XR X0 (some ⟨g, 0, none⟩) (some m) s es.length i h := by
  intro rest
  induction rest with
  | nil =>
    intro i seen h hd hi he hg hgv hm h0m h0g hmp hK
    have : i = es.length := by
      have := congrArg List.length hd
      simp at this; omega
    apply r33_121
    unfold z33_121
    simp only [branch_iff]
    refine ⟨fun h => by simp at h; omega, fun _ => (hK h he).2 rfl⟩
  | cons p rest ih =>
    intro i seen h hd hi he hg hgv hm h0m h0g hmp hK
    obtain ⟨a, b⟩ := p
    have hil : i < es.length := by
      rcases Nat.lt_or_ge i es.length with g | g
      · exact g
      · rw [List.drop_eq_nil_of_le g] at hd; cases hd
    have hp : es[i]? = some (a, b) := by
      have := congrArg (fun l => l[0]?) hd
      simpa using this
    have hd' : es.drop (i + 1) = rest := by
      rw [← List.drop_drop, hd]; rfl
    obtain ⟨sb, so, ssp, hsa, hsb, hsr⟩ := hs.rd hil
    obtain ⟨r1, r2⟩ := hsr h he i (a, b) none hp
    obtain ⟨v, hgv⟩ := hgv
    apply r33_121
    unfold z33_121
    rw [branch_iff]
    refine ⟨fun _ => ?_, fun h => by simp at h; omega⟩
    simp only [hsa, AM.get_some, hs.len, idx_ok hil, chk_true, Int.toNat_natCast, r1, r2, asI_int, withH]
    have hgb := Heap.blk_some hgv
    obtain ⟨ro, hgb⟩ := hgb
    have hmb : h.get m = some (.map (seen.map fun x => (encE x, Value.bool true))) := by
      unfold Heap.mp at hmp; split at hmp
      · rename_i es' e; cases hmp; exact e
      · cases hmp
    have g1 : g ≠ h.next := by omega
    have g2 : g ≠ h.next + 1 := by omega
    have m1 : m ≠ h.next := by omega
    have m2 : m ≠ h.next + 1 := by omega
    simp [wr_if, Heap.rd, Heap.blk, Heap.own, Heap.mp, Heap.get_new, Heap.get_put, over, hgb, hmb, g1, g2, m1, m2]
    have e1 : (if b < a then b else a) = mn a b := rfl
    have e2 : (if a < b then b else a) = mx a b := by simp [mx]
    simp only [e1, e2]
    generalize hk : ((((h.new (AObj.cells [Value.int IntKind.i64 0, Value.int IntKind.i64 0] false)).put h.next
        (AObj.cells [Value.int IntKind.i64 a, Value.int IntKind.i64 b] false)).new (AObj.cells [Value.int IntKind.i64 0, Value.int IntKind.i64 0] false)).put
        (h.next + 1) (AObj.cells [Value.int IntKind.i64 (mn a b), Value.int IntKind.i64 (mx a b)] false)) = k
    have hek : Ext h k := by
      rw [← hk]
      exact (((Ext.refl h).new _ |>.put (Nat.le_refl _) _).new _).put (by simp) _
    have hkn : k.next = h.next + 2 := by rw [← hk]; rfl
    have hkg : k.get g = h.get g := hek.2 g hg
    have hkm : k.get m = h.get m := hek.2 m hm
    have hKk := hK k (he.trans hek)
    have hgm : g ≠ m := by
      intro e; subst e; rw [hgb] at hmb; cases hmb
    have h40 : mn a b < 0 ∨ mx a b ≥ n ∨ mn a b = mx a b ∨ (mn a b, mx a b) ∈ seen → XR 40 k := fun hc => hKk.1 (by simp only [ckGo, if_pos hc])
    rw [branch_iff]
    refine ⟨fun c => h40 (.inl (by simpa using c)), fun c1 => ?_⟩
    rw [branch_iff]
    refine ⟨fun c => h40 (.inr (.inl (by simpa using c))), fun c2 => ?_⟩
    rw [branch_iff]
    refine ⟨fun c => h40 (.inr (.inr (.inl (by simpa using c)))), fun c3 => ?_⟩
    obtain ⟨r, f1, f2, f3⟩ := findE (mn a b, mx a b) seen 0
    have f1' : findV Try.prog [95, 75] 95 (Value.agg ⟨[Value.int IntKind.i64 (mn a b), Value.int IntKind.i64 (mx a b)]⟩) (List.map (fun x => (encE x, Value.bool true)) seen) 0 = some r := f1
    simp only [f1', AM.get_some]
    by_cases hin : (mn a b, mx a b) ∈ seen
    · obtain ⟨j, rfl⟩ := f2 hin
      simp only [Option.map_some, Option.getD_some, asB_bool, AM.get_some, branch_true]
      exact h40 (.inr (.inr (.inr hin)))
    · have := f3 hin
      subst this
      simp only [Option.map_none, Option.getD_none, asB_bool, AM.get_some, branch_false, optK_none]
      have hw : IntKind.i64.wrap ((i : Int) + 1) = ((i + 1 : Nat) : Int) := by rw [wrap64 (by omega) (by omega)]; simp
      rw [hw]
      have hno : ¬ (mn a b < 0 ∨ mx a b ≥ n ∨ mn a b = mx a b ∨ (mn a b, mx a b) ∈ seen) := by
        simp at c1 c2 c3
        rintro (h | h | h | h)
        · omega
        · omega
        · exact c3 h
        · exact hin h
      refine ih (i + 1) (seen ++ [(mn a b, mx a b)]) _ hd' (by omega) ((he.trans hek).put h0m _) (by simp [hkn]; omega) ⟨v, ?_⟩ (by simp [hkn]; omega) h0m h0g ?_ (fun h' hx => ?_)
      · simp [Heap.blk, Heap.get_put, hgm, hkg, hgb]
      · simp [Heap.mp, Heap.get_put, encE]
      · have := hK h' hx
        simpa only [ckGo, if_neg hno] using this

/-- Check. -/
theorem check_ct {n : Int} {s : Sl} {es : List (Int × Int)} {h : Heap} {K : Int → Heap → Prop} (hs : PsAt h s es) (hb : es.length < 4611686018427387904) (hK : ∀ h', Ext h h' → K (ckM n es) h') : t33 (n, s, ()) h K := by
  apply r33
  unfold z33
  simp [withH, Heap.rd, Heap.blk, Heap.get_new]
  have e0 : Ext h (h.new (.cells [.int .i64 n, .slice s.a s.len s.cap] false)) := (Ext.refl h).new _
  rw [branch_iff]
  refine ⟨fun c => ?_, fun c1 => ?_⟩
  · have := hK _ e0
    simp only [ckM, if_pos (show n < 1 ∨ n > 40 ∨ es.length > 300 from .inl (by simpa using c))] at this
    exact this
  rw [branch_iff]
  refine ⟨fun c => ?_, fun c2 => ?_⟩
  · have := hK _ e0
    simp only [ckM, if_pos (show n < 1 ∨ n > 40 ∨ es.length > 300 from .inr (.inl (by simpa using c)))] at this
    exact this
  rw [branch_iff]
  refine ⟨fun c => ?_, fun c3 => ?_⟩
  · have := hK _ e0
    simp only [ckM, if_pos (show n < 1 ∨ n > 40 ∨ es.length > 300 from .inr (.inr (by have := hs.len; simp at c; omega)))] at this
    exact this
  · have hl : es.length ≤ 300 := by have := hs.len; simp at c3; omega
    have hno : ¬ (n < 1 ∨ n > 40 ∨ es.length > 300) := by simp at c1 c2; omega
    have key := l33_ok (n := n) (g := h.next) (m := h.next + 1) (XR := fun z h => K z h) (X0 := fun h => K 0 h) hs hl es 0 [] _ rfl (Nat.zero_le _) (e0.new (.map [])) (by simp; omega) ⟨.slice s.a s.len s.cap, by simp [Heap.blk, Heap.get_new]⟩ (by simp) (by simp) (Nat.le_refl _) (by simp [Heap.mp, Heap.get_new]) (fun h' hx => by
      have := hK h' hx
      simp only [ckM, if_neg hno] at this
      exact ⟨fun e => by rw [e] at this; exact this, fun e => by rw [e] at this; exact this⟩)
    rw [← hs.len] at key
    exact key

/-! the reference -/
def rkIn (a b : Int) : List (Int × Int) → Bool
  | [] => false
  | (c, d) :: r => (c == a && d == b) || (c == b && d == a) || rkIn a b r
def rkGo (n : Int) (seen : List (Int × Int)) : List (Int × Int) → Int
  | [] => 0
  | (a, b) :: r => if a < 0 ∨ a ≥ n ∨ b < 0 ∨ b ≥ n ∨ a = b ∨ rkIn a b seen = true then 40 else rkGo n (seen ++ [(a, b)]) r
def rkM (n : Int) (es : List (Int × Int)) : Int := if n < 1 ∨ n > 40 ∨ es.length > 300 then 40 else rkGo n [] es
theorem rkGo_cases (n : Int) : ∀ (es seen : List (Int × Int)), rkGo n seen es = 0 ∨ rkGo n seen es = 40
  | [], _ => .inl rfl
  | (a, b) :: r, seen => by
    unfold rkGo
    split
    · exact .inr rfl
    · exact rkGo_cases n r _

theorem l32in_ok {es : List (Int × Int)} {s : Sl} {h0 : Heap} (hs : PsAt h0 s es) (hl : es.length ≤ 300) {g i : Nat} {n a b : Int} (hi : i ≤ es.length) {XR : Int → Heap → Prop} {X2 : Option Addr → Int → Heap → Prop} {h : Heap} (he : Ext h0 h)
    (hg : h.get g = some (.cells [.int .i64 n, .slice s.a s.len s.cap] false)) : ∀ (k j : Nat), j + k = i → (rkIn a b ((es.take i).drop j) = true → XR 40 h) → (rkIn a b ((es.take i).drop j) = false → X2 (some ⟨g, 0, none⟩) i h) →
      l32_14925 XR X2 (some ⟨g, 0, none⟩) i a b j h := by
  intro k
  induction k with
  | zero =>
    intro j hj h1 h2
    have : j = i := by omega
    subst this
    apply r32_14925
    unfold z32_14925
    rw [branch_iff]
    refine ⟨fun c => by simp at c, fun _ => h2 (by rw [List.drop_eq_nil_of_le (by simp; omega)]; rfl)⟩
  | succ k ih =>
    intro j hj h1 h2
    have hje : j < es.length := by omega
    obtain ⟨sb, so, ssp, hsa, hsb, hsr⟩ := hs.rd hje
    have hp : es[j]? = some es[j] := List.getElem?_eq_getElem hje
    obtain ⟨r1, r2⟩ := hsr h he j _ none hp
    have hd : (es.take i).drop j = es[j] :: (es.take i).drop (j + 1) := by
      rw [List.drop_eq_getElem_cons (by simp; omega)]; simp
    apply r32_14925
    unfold z32_14925
    rw [branch_iff]
    refine ⟨fun _ => ?_, fun c => by simp at c; omega⟩
    simp [Heap.rd, Heap.blk, hg]
    simp only [hsa, AM.get_some, hs.len, idx_ok hje, chk_true, Int.toNat_natCast]
    have r1' := r1; have r2' := r2
    simp only [Heap.rd, Heap.blk] at r1 r2
    simp only [r1, r2, asI_int, AM.get_some]
    rw [hd] at h1 h2
    generalize es[j] = p at h1 h2
    obtain ⟨c, d⟩ := p
    simp only [rkIn] at h1 h2
    have hw : IntKind.i64.wrap ((j : Int) + 1) = ((j + 1 : Nat) : Int) := by rw [wrap64 (by omega) (by omega)]; simp
    rw [hw]
    rw [branch_iff]
    refine ⟨fun c1 => h1 (by simp at c1; simp [c1]), fun c1 => ?_⟩
    rw [branch_iff]
    refine ⟨fun c2 => h1 (by simp at c2; simp [c2]), fun c2 => ?_⟩
    have n1 : (c == a && d == b) = false := by simpa using c1
    have n2 : (c == b && d == a) = false := by simpa using c2
    simp only [n1, n2, Bool.false_or] at h1 h2
    exact ih (j + 1) (by omega) h1 h2

theorem l32_ok {es : List (Int × Int)} {s : Sl} {h0 : Heap} (hs : PsAt h0 s es) (hl : es.length ≤ 300) {g : Nat} {n : Int} {XR : Int → Heap → Prop} {X0 : Heap → Prop} {h : Heap} (he : Ext h0 h)
    (hg : h.get g = some (.cells [.int .i64 n, .slice s.a s.len s.cap] false)) : ∀ (rest : List (Int × Int)) (i : Nat), es.drop i = rest → i ≤ es.length → (rkGo n (es.take i) rest = 40 → XR 40 h) → (rkGo n (es.take i) rest = 0 → X0 h) →
      l32_57 XR X0 (some ⟨g, 0, none⟩) i h := by
  intro rest
  induction rest with
  | nil =>
    intro i hd hi h1 h2
    have : i = es.length := by
      have := congrArg List.length hd
      simp at this; omega
    apply r32_57
    unfold z32_57
    simp [Heap.rd, Heap.blk, hg]
    rw [branch_iff]
    refine ⟨fun c => by have := hs.len; simp at c; omega, fun _ => h2 rfl⟩
  | cons p rest ih =>
    intro i hd hi h1 h2
    obtain ⟨a, b⟩ := p
    have hil : i < es.length := by
      rcases Nat.lt_or_ge i es.length with g | g
      · exact g
      · rw [List.drop_eq_nil_of_le g] at hd; cases hd
    have hp : es[i]? = some (a, b) := by
      have := congrArg (fun l => l[0]?) hd
      simpa using this
    have hd' : es.drop (i + 1) = rest := by
      rw [← List.drop_drop, hd]; rfl
    have htk : es.take (i + 1) = es.take i ++ [(a, b)] := by
      rw [List.take_add_one, hp]; rfl
    obtain ⟨sb, so, ssp, hsa, hsb, hsr⟩ := hs.rd hil
    obtain ⟨r1, r2⟩ := hsr h he i (a, b) none hp
    apply r32_57
    unfold z32_57
    simp [Heap.rd, Heap.blk, hg]
    rw [branch_iff]
    refine ⟨fun _ => ?_, fun c => by have := hs.len; simp at c; omega⟩
    simp only [hsa, AM.get_some, hs.len, idx_ok hil, chk_true, Int.toNat_natCast]
    simp only [Heap.rd, Heap.blk] at r1 r2
    simp only [r1, r2, asI_int, AM.get_some]
    simp only [true_and]
    have h40 : a < 0 ∨ a ≥ n ∨ b < 0 ∨ b ≥ n ∨ a = b ∨ rkIn a b (es.take i) = true → XR 40 h := fun c => h1 (by simp only [rkGo, if_pos c])
    rw [branch_iff]
    refine ⟨fun c => h40 (.inl (by simpa using c)), fun c1 => ?_⟩
    rw [branch_iff]
    refine ⟨fun c => h40 (.inr (.inl (by simpa using c))), fun c2 => ?_⟩
    rw [branch_iff]
    refine ⟨fun c => h40 (.inr (.inr (.inl (by simpa using c)))), fun c3 => ?_⟩
    rw [branch_iff]
    refine ⟨fun c => h40 (.inr (.inr (.inr (.inl (by simpa using c))))), fun c4 => ?_⟩
    rw [branch_iff]
    refine ⟨fun c => h40 (.inr (.inr (.inr (.inr (.inl (by simpa using c)))))), fun c5 => ?_⟩
    have hw : ∀ i : Nat, i < es.length → IntKind.i64.wrap ((i : Int) + 1) = ((i + 1 : Nat) : Int) := fun i _ => by rw [wrap64 (by omega) (by omega)]; simp
    refine l32in_ok hs hl (a := a) (b := b) hi he hg i 0 (by omega) (fun c => h40 (.inr (.inr (.inr (.inr (.inr (by simpa using c))))))) (fun c => ?_)
    rw [hw i hil]
    have hno : ¬ (a < 0 ∨ a ≥ n ∨ b < 0 ∨ b ≥ n ∨ a = b ∨ rkIn a b (es.take i) = true) := by
      simp at c1 c2 c3 c4 c5 c
      rintro (h | h | h | h | h | h)
      · omega
      · omega
      · omega
      · omega
      · exact c5 h
      · rw [c] at h; cases h
    refine ih (i + 1) hd' (by omega) (fun e => h1 ?_) (fun e => h2 ?_)
    · simp only [rkGo, if_neg hno]; rw [← htk]; exact e
    · simp only [rkGo, if_neg hno]; rw [← htk]; exact e

/-- The reference's Check. -/
theorem rcheck_ct {n : Int} {s : Sl} {es : List (Int × Int)} {h : Heap} {K : Int → Heap → Prop} (hs : PsAt h s es) (hK : ∀ h', Ext h h' → K (rkM n es) h') : t32 (n, s, ()) h K := by
  apply r32
  unfold z32
  simp [withH, Heap.rd, Heap.blk, Heap.get_new]
  have e0 : Ext h (h.new (.cells [.int .i64 n, .slice s.a s.len s.cap] false)) := (Ext.refl h).new _
  rw [branch_iff]
  refine ⟨fun c => ?_, fun c1 => ?_⟩
  · have := hK _ e0
    simp only [rkM, if_pos (show n < 1 ∨ n > 40 ∨ es.length > 300 from .inl (by simpa using c))] at this
    exact this
  rw [branch_iff]
  refine ⟨fun c => ?_, fun c2 => ?_⟩
  · have := hK _ e0
    simp only [rkM, if_pos (show n < 1 ∨ n > 40 ∨ es.length > 300 from .inr (.inl (by simpa using c)))] at this
    exact this
  rw [branch_iff]
  refine ⟨fun c => ?_, fun c3 => ?_⟩
  · have := hK _ e0
    simp only [rkM, if_pos (show n < 1 ∨ n > 40 ∨ es.length > 300 from .inr (.inr (by have := hs.len; simp at c; omega)))] at this
    exact this
  · have hl : es.length ≤ 300 := by have := hs.len; simp at c3; omega
    have hno : ¬ (n < 1 ∨ n > 40 ∨ es.length > 300) := by simp at c1 c2; omega
    have hK := hK _ e0
    simp only [rkM, if_neg hno] at hK
    exact l32_ok (n := n) (g := h.next) hs hl e0 (by simp [Heap.get_new]) es 0 rfl (Nat.zero_le _) (fun e => by rw [show es.take 0 = [] from rfl] at e; rw [e] at hK; exact hK) (fun e => by rw [show es.take 0 = [] from rfl] at e; rw [e] at hK; exact hK)

/-! both are the same -/
theorem rkIn_iff (a b : Int) : ∀ l : List (Int × Int), rkIn a b l = true ↔ (mn a b, mx a b) ∈ l.map fun p => (mn p.1 p.2, mx p.1 p.2)
  | [] => by simp [rkIn]
  | (c, d) :: r => by
    simp only [rkIn, Bool.or_eq_true, Bool.and_eq_true, beq_iff_eq, rkIn_iff a b r, List.map_cons, List.mem_cons, Prod.mk.injEq, mn, mx]
    constructor
    · rintro ((⟨rfl, rfl⟩ | ⟨rfl, rfl⟩) | h)
      · exact .inl ⟨rfl, rfl⟩
      · left; constructor <;> split <;> split <;> omega
      · exact .inr h
    · rintro (⟨h1, h2⟩ | h)
      · left
        split at h1 <;> split at h1 <;> split at h2 <;> split at h2 <;> omega
      · exact .inr h
theorem ck_rk (n : Int) : ∀ (es seen : List (Int × Int)), ckGo n (seen.map fun p => (mn p.1 p.2, mx p.1 p.2)) es = rkGo n seen es
  | [], _ => rfl
  | (a, b) :: r, seen => by
    have key : (mn a b < 0 ∨ mx a b ≥ n ∨ mn a b = mx a b ∨ (mn a b, mx a b) ∈ seen.map fun p => (mn p.1 p.2, mx p.1 p.2)) ↔ (a < 0 ∨ a ≥ n ∨ b < 0 ∨ b ≥ n ∨ a = b ∨ rkIn a b seen = true) := by
      rw [rkIn_iff]
      have h1 : mn a b < 0 ↔ a < 0 ∨ b < 0 := by simp only [mn]; split <;> omega
      have h2 : mx a b ≥ n ↔ a ≥ n ∨ b ≥ n := by simp only [mx]; split <;> omega
      have h3 : mn a b = mx a b ↔ a = b := by simp only [mn, mx]; split <;> split <;> omega
      rw [h1, h2, h3]
      constructor
      · rintro ((h | h) | (h | h) | h | h) <;> simp [h]
      · rintro (h | h | h | h | h | h) <;> simp [h]
    unfold ckGo rkGo
    by_cases c : (a < 0 ∨ a ≥ n ∨ b < 0 ∨ b ≥ n ∨ a = b ∨ rkIn a b seen = true)
    · rw [if_pos c, if_pos (key.2 c)]
    · rw [if_neg c, if_neg (fun g => c (key.1 g))]
      have := ck_rk n r (seen ++ [(a, b)])
      simpa using this
theorem ckM_rkM (n : Int) (es : List (Int × Int)) : ckM n es = rkM n es := by
  unfold ckM rkM
  split
  · rfl
  · exact ck_rk n es []
theorem rkM_cases (n : Int) (es : List (Int × Int)) : rkM n es = 0 ∨ rkM n es = 40 := by
  unfold rkM
  split
  · exact .inr rfl
  · exact rkGo_cases n es []
end Go.Proofs.Ytalmoilcehhjkaa
