/- PairChecks: whether anything is a graph; if not, every call refuses it. -/
import Derived.Test.YtalmoilcehhjkaaCk
set_option linter.unusedVariables false
set_option linter.unusedSimpArgs false
set_option maxHeartbeats 1000000
namespace Go.Proofs.Ytalmoilcehhjkaa
open Go hiding Expr
open Go.AM hiding get

theorem give_ct {n : Int} {s : Sl} {h : Heap} {K : (Int × Sl × Unit) → Heap → Prop} (hK : ∀ h', Ext h h' → K (n, s, ()) h') : t11 (n, s, ()) h K := by
  apply r11
  unfold z11
  simp [withH, wr_if, Heap.rd, Heap.blk, Heap.own, Heap.get_new, Heap.get_put, over]
  exact hK _ (((Ext.refl h).new _ |>.new _).put (by simp) _)

section
variable {n : Int} {s : Sl} {es : List (Int × Int)} {h : Heap} (hs : PsAt h s es) (hb : es.length < 4611686018427387904) (hc : ckM n es = 40)
include hs hb hc
theorem match_no {K : Sl → Int → Heap → Prop} (hK : ∀ h', Ext h h' → K ⟨none, 0, 0⟩ 40 h') : t12 (n, s, ()) h K := by
  apply r12
  unfold z12
  simp [withH, Heap.rd, Heap.blk, Heap.get_new]
  have e0 : Ext h (h.new (.cells [.int .i64 n, .slice s.a s.len s.cap] false)) := (Ext.refl h).new _
  refine check_ct (hs.ext e0) hb fun h' e => ?_
  rw [hc]
  exact hK h' (e0.trans e)
theorem isPairing_no {p1 : Sl} {K : Int → Bool → Heap → Prop} (hK : ∀ h', Ext h h' → K 0 false h') : t13 (n, s, ()) p1 h K := by
  apply r13
  unfold z13
  simp [withH, Heap.rd, Heap.blk, Heap.get_new]
  have e0 : Ext h (h.new (.cells [.int .i64 n, .slice s.a s.len s.cap] false)) := (Ext.refl h).new _
  refine check_ct (hs.ext e0) hb fun h' e => ?_
  rw [hc]
  exact hK h' (e0.trans e)
theorem isBarrier_no {p1 : Sl} {p2 : Int} {K : Bool → Heap → Prop} (hK : ∀ h', Ext h h' → K false h') : t14 (n, s, ()) p1 p2 h K := by
  apply r14
  unfold z14
  simp [withH, Heap.rd, Heap.blk, Heap.get_new]
  have e0 : Ext h (h.new (.cells [.int .i64 n, .slice s.a s.len s.cap] false)) := (Ext.refl h).new _
  refine check_ct (hs.ext e0) hb fun h' e => ?_
  rw [hc]
  exact hK h' (e0.trans e)
theorem divide_no {K : (Sl × Sl × Sl × Unit) → Int → Heap → Prop} (hK : ∀ h', Ext h h' → K (⟨none, 0, 0⟩, ⟨none, 0, 0⟩, ⟨none, 0, 0⟩, ()) 40 h') : t16 (n, s, ()) h K := by
  apply r16
  unfold z16
  simp [withH, Heap.rd, Heap.blk, Heap.get_new]
  have e0 : Ext h ((h.new (.cells [.int .i64 n, .slice s.a s.len s.cap] false)).new (.cells [.slice none 0 0, .slice none 0 0, .slice none 0 0] false)) := ((Ext.refl h).new _).new _
  refine check_ct (hs.ext e0) hb fun h' e => ?_
  rw [hc]
  have hg : h'.get (h.next + 1) = some (.cells [.slice none 0 0, .slice none 0 0, .slice none 0 0] false) := by
    rw [e.2 _ (by simp)]; simp [Heap.get_new]
  simp [wr_if, Heap.rd, Heap.blk, Heap.own, Heap.get_put, over, hg]
  exact hK _ ((e0.trans e).put (by omega) _)
theorem barrier_no {K : Sl → Int → Heap → Prop} (hK : ∀ h', Ext h h' → K ⟨none, 0, 0⟩ 40 h') : t34 (n, s, ()) h K := by
  apply r34
  unfold z34
  simp [withH, Heap.rd, Heap.blk, Heap.get_new]
  have e0 : Ext h (h.new (.cells [.int .i64 n, .slice s.a s.len s.cap] false)) := (Ext.refl h).new _
  refine divide_no (hs.ext e0) hb hc fun h' e => ?_
  simp [wr_if, Heap.rd, Heap.blk, Heap.own, Heap.get_put, Heap.get_new, over]
  exact hK _ ((e0.trans e).new _ |>.put (by have := e.1; simp at this; omega) _)
theorem cover_no {K : Sl → Bool → Int → Heap → Prop} (hK : ∀ h', Ext h h' → K ⟨none, 0, 0⟩ false 40 h') : t35 (n, s, ()) h K := by
  apply r35
  unfold z35
  simp [withH, Heap.rd, Heap.blk, Heap.get_new]
  have e0 : Ext h (h.new (.cells [.int .i64 n, .slice s.a s.len s.cap] false)) := (Ext.refl h).new _
  refine check_ct (hs.ext e0) hb fun h' e => ?_
  rw [hc]
  exact hK h' (e0.trans e)
end

theorem q7_ok {n : Int} {s : Sl} {es : List (Int × Int)} {h : Heap} (hs : PsAt h s es) (hb : es.length < 4611686018427387904) {g : Nat} (hg : h.get g = some (.cells [.int .i64 n, .slice s.a s.len s.cap] false)) (hgn : g < h.next)
    {XR : Bool → Heap → Prop} (hK : ∀ h', Ext h h' → XR true h') : q7_14 XR (some ⟨g, 0, none⟩) h := by
  apply r7_14
  unfold z7_14
  simp [Heap.rd, Heap.blk, hg]
  refine give_ct fun h1 e1 => ?_
  have hg1 : h1.get g = some (.cells [.int .i64 n, .slice s.a s.len s.cap] false) := (e1.2 g hgn).trans hg
  have gn : g ≠ h1.next := by have := e1.1; omega
  simp [withH, wr_if, Heap.blk, Heap.own, Heap.get_new, Heap.get_put, over, hg1, gn]
  generalize hk : ((h1.new (.cells [.int .i64 0, .slice none 0 0] false)).put h1.next (.cells [.int .i64 n, .slice s.a s.len s.cap] false)) = k
  have ek : Ext h k := by rw [← hk]; exact (e1.new _).put (by have := e1.1; omega) _
  have hx : h1.next < k.next := by rw [← hk]; simp
  have hkx : k.get h1.next = some (.cells [.int .i64 n, .slice s.a s.len s.cap] false) := by rw [← hk]; simp [Heap.get_put]
  refine rcheck_ct (hs.ext ek) fun h2 e2 => ?_
  have hx2 := (e2.2 _ hx).trans hkx
  simp [hx2]
  have e2' := ek.trans e2
  refine check_ct (hs.ext e2') hb fun h3 e3 => ?_
  have hx3 := (e3.2 _ (Nat.lt_of_lt_of_le hx e2.1)).trans hx2
  have e3' := e2'.trans e3
  rw [ckM_rkM]
  have l3 : h1.next < h3.next := Nat.lt_of_lt_of_le hx (Nat.le_trans e2.1 e3.1)
  simp only [bne_self_eq_false, branch_false]
  rcases rkM_cases n es with h0 | h0
  · simp only [h0, beq_self_eq_true, branch_true]
    exact awake_ok (hK _ e3')
  have hc : ckM n es = 40 := by rw [ckM_rkM]; exact h0
  simp only [h0]
  simp [hx3]
  refine match_no (hs.ext e3') hb hc fun h4 e4 => ?_
  have hx4 := (e4.2 _ l3).trans hx3
  have l4 := Nat.lt_of_lt_of_le l3 e4.1
  have e4' := e3'.trans e4
  simp [hx4]
  refine barrier_no (hs.ext e4') hb hc fun h5 e5 => ?_
  have hx5 := (e5.2 _ l4).trans hx4
  have l5 := Nat.lt_of_lt_of_le l4 e5.1
  have e5' := e4'.trans e5
  simp [hx5]
  refine divide_no (hs.ext e5') hb hc fun h6 e6 => ?_
  have hx6 := (e6.2 _ l5).trans hx5
  have l6 := Nat.lt_of_lt_of_le l5 e6.1
  have e6' := e5'.trans e6
  have d6 : h1.next ≠ h6.next := by omega
  simp [withH, wr_if, Heap.get_new, Heap.get_put, over, hx6, d6]
  generalize hk6 : ((h6.new (.cells [.slice none 0 0, .slice none 0 0, .slice none 0 0] false)).put h6.next (.cells [.slice none 0 0, .slice none 0 0, .slice none 0 0] false)) = k6
  have ek6 : Ext h6 k6 := by rw [← hk6]; exact ((Ext.refl h6).new _).put (Nat.le_refl _) _
  have hd6 : k6.get h6.next = some (.cells [.slice none 0 0, .slice none 0 0, .slice none 0 0] false) := by rw [← hk6]; simp [Heap.get_put]
  have ld6 : h6.next < k6.next := by rw [← hk6]; simp
  have hxk6 := (ek6.2 _ l6).trans hx6
  refine cover_no (hs.ext (e6'.trans ek6)) hb hc fun h7 e7 => ?_
  have hx7 := (e7.2 _ (Nat.lt_of_lt_of_le l6 ek6.1)).trans hxk6
  have hd7 := (e7.2 _ ld6).trans hd6
  have l7 : h1.next < h7.next := Nat.lt_of_lt_of_le (Nat.lt_of_lt_of_le l6 ek6.1) e7.1
  have ld7 := Nat.lt_of_lt_of_le ld6 e7.1
  have e7' := (e6'.trans ek6).trans e7
  simp [hx7]
  refine isPairing_no (hs.ext (e7'.new _)) hb hc fun h8 e8 => ?_
  have hx8 : h8.get h1.next = some (.cells [.int .i64 n, .slice s.a s.len s.cap] false) := (e8.2 _ (by simp; omega)).trans (by rw [Heap.get_new, if_neg (by omega)]; exact hx7)
  have hd8 : h8.get h6.next = some (.cells [.slice none 0 0, .slice none 0 0, .slice none 0 0] false) := (e8.2 _ (by simp; omega)).trans (by rw [Heap.get_new, if_neg (by omega)]; exact hd7)
  have e8' := (e7'.new _).trans e8
  simp [hx8, hd8]
  have hw : (IntKind.i64.wrap (IntKind.i64.wrap 0) == 0) = true := by rw [wrap64 (n := 0) (by omega) (by omega), wrap64 (by omega) (by omega)]; rfl
  rw [hw]
  simp only [branch_true]
  refine isBarrier_no (hs.ext e8') hb hc fun h9 e9 => ?_
  simp only [Bool.not_false, branch_true]
  exact awake_ok (hK _ (e8'.trans e9))

theorem flat_take : ∀ (es : List (Int × Int)) (k : Nat), flat (es.take k) = (flat es).take (k * 2)
  | [], k => by simp [flat]
  | (a, b) :: r, 0 => by simp [flat]
  | (a, b) :: r, k + 1 => by
    rw [show (k + 1) * 2 = k * 2 + 2 from by omega]
    simp [flat, flat_take r k]

/-- PairChecks. -/
theorem pairChecks_ct {n : Int} {s : Sl} {es : List (Int × Int)} {h : Heap} {K : Bool → Heap → Prop} (hs : PsAt h s es) (hK : ∀ h', Ext h h' → K true h') : t7 (n, s, ()) h K := by
  apply r7
  unfold z7
  simp [withH, Heap.rd, Heap.blk, Heap.get_new]
  have hsl := hs.len
  generalize hm : min es.length 301 = m
  have hml : m ≤ es.length := by omega
  have hm3 : m ≤ 301 := by omega
  have hif : (if (301 : Int) < (s.len : Int) then (301 : Int) else (s.len : Int)) = (m : Int) := by split <;> omega
  rw [hif]
  have hcap : s.len ≤ s.cap := hs.2.1
  have hwi : within 0 (m : Int) (s.cap : Int) = true := by simp [within]; omega
  rw [hwi]
  simp only [chk_true, Sl.cut, Int.toNat_natCast, Nat.sub_zero, Nat.zero_mul, Nat.add_zero]
  have hown : PsAt h ⟨none, 0, 0⟩ [] := SlAt.nil h 2 0
  have fin : ∀ (k : Heap) (s' : Sl), Ext h k → PsAt k s' (es.take m) → k.get (h.next + 1) = some (.cells [.int .i64 n, .slice s'.a s'.len s'.cap] false) → h.next + 1 < k.next → q7_14 (fun z h => K z h) (some ⟨h.next + 1, 0, none⟩) k :=
    fun k s' ek hk hg hl => q7_ok hk (by simp; omega) hg hl (fun h' e => hK h' (ek.trans e))
  cases hsa : s.a with
  | none =>
    have hes : es = [] := by
      have := hs.2.2
      rw [hsa] at this
      cases es with
      | nil => rfl
      | cons p r => obtain ⟨a, b⟩ := p; cases this
    simp only [Option.map_none, optK_none]
    simp [wr_if, Heap.own, Heap.get_new, over]
    refine fin _ ⟨none, 0, 0⟩ (((Ext.refl h).new _ |>.new _).put (by simp) _) (by rw [hes]; simp only [List.take_nil]; exact SlAt.nil _ 2 0) (by simp [Heap.get_put]) (by simp)
  | some a =>
    simp only [Option.map_some, optK_some]
    have e2 : Ext h ((h.new (.cells [.int .i64 n, s.v] false)).new (.cells [.int .i64 0, .slice none 0 0] false)) := ((Ext.refl h).new _).new _
    rw [SlAt.rdN hs hsa e2 (by rw [flat_length]; omega)]
    simp only [AM.get_some]
    rw [← flat_take]
    rcases Nat.eq_zero_or_pos m with h0 | h0
    · simp [h0, Heap.app, wr_if, Heap.own, Heap.get_new, over]
      refine fin _ ⟨none, 0, 0⟩ (e2.put (by simp) _) (by rw [h0]; exact SlAt.nil _ 2 0) (by simp [Heap.get_put]) (by simp)
    · rw [app_nil (by omega) (small_ok (by omega) (by omega))]
      have nn : h.next ≠ h.next + 1 + 1 := by omega
      simp [wr_if, Heap.own, Heap.get_new, over, nn]
      refine fin _ ⟨some ⟨h.next + 1 + 1, 0, some (2 + 1)⟩, m, m⟩ ?_ ?_ ?_ ?_
      · exact (e2.new _).put (by simp) _
      rotate_left
      · simp [Heap.get_put]
      · simp
      have hln : m * 2 = (flat (es.take m)).length := by rw [flat_length]; simp; omega
      refine ⟨hln, Nat.le_refl _, by simp, flat (es.take m), ?_, by simp, by simp⟩
      simp [Heap.blk, Heap.get_put, Heap.get_new]
end Go.Proofs.Ytalmoilcehhjkaa
