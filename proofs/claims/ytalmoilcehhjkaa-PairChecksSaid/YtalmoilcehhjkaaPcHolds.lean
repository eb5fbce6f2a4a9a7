/- PairChecks: whether anything is a graph; if not, every call refuses it: the law's row, with no condition. -/
import Derived.Test.YtalmoilcehhjkaaRows
import Derived.Test.YtalmoilcehhjkaaPc
import Derived.Test.YtalmoilcehhjkaaAmJoin
set_option linter.unusedVariables false
set_option linter.unusedSimpArgs false
namespace Go.Proofs.Ytalmoilcehhjkaa.pairChecks
open Go.ChangeShapes Go.WideShapes Go.ChangeAt Go.RowKit Go.AM

theorem own : ownKnob Try.prog.godebug = none := by kernel_rfl
theorem u24 : Try.prog.underlying 24 = some (.struct (Try.prog.fieldsOf 24)) := by kernel_rfl
theorem u22 : Try.prog.underlying 22 = some (.slice 75) := by kernel_rfl
theorem u75 : Try.prog.underlying 75 = some (.array 2 3) := by kernel_rfl
theorem u3 : Try.prog.underlying 3 = some (.int .i64) := by kernel_rfl
theorem u4 : Try.prog.underlying 4 = some .bool := by kernel_rfl

theorem run (n : Int) (v : Value) (W : World) (hv : v = .slice none 0 0 ∨ ∃ (b off len cap : Nat) (cc : Array Value) (el : TypeId) (fz : Nat × Nat) (es : List (Int × Int)), v = .slice (some ⟨b, off, none⟩) len cap ∧ len ≤ cap ∧ cap ≤ maxLen ∧ W.heap[b]? = some (.cells cc el fz) ∧ es.length = len ∧
      ∀ (i : Nat) (u : Value), (flat es)[i]? = some u → cc[i + off]? = some u) : Calls Try.prog 7 #[.agg #[.int .i64 n, v]] W fun e W' => e = .returned (.bool true) ∧ Keep (BaseOf W) W' := by
  rcases hv with rfl | ⟨b, off, len, cap, cc, el, fz, es, rfl, hl, hc, hb, hlen, hcells⟩
  · have H : t7 (n, ⟨none, 0, 0⟩, ()) Heap0 (fun r _ => r = true) := pairChecks_ct (es := []) (SlAt.nil _ 2 0) fun _ _ => rfl
    refine law_calls (ι := Inj0) (args := [.agg ⟨[.int .i64 n, .slice none 0 0]⟩]) (args' := [.agg #[.int .i64 n, .slice none 0 0]]) H ?_ (HR.start W)
    exact VL.cons (V.agg_iff.2 (VL.cons (.int _ _) (VL.cons .sliceNil (VL.nil _)))) (VL.nil _)
  · obtain ⟨ι, h1, _, h3, h4, _⟩ := pairs_in (HR.start W) Heap0.loose hb hlen hl hcells
    have H : t7 (n, ⟨some ⟨Heap0.next, 0, none⟩, len, len⟩, ()) _ (fun r _ => r = true) := pairChecks_ct h4 fun _ _ => rfl
    refine law_calls (ι := ι) (args := [.agg ⟨[.int .i64 n, .slice (some ⟨Heap0.next, 0, none⟩) len len]⟩]) (args' := [.agg #[.int .i64 n, .slice (some ⟨b, off, none⟩) len cap]]) H ?_ h1
    exact VL.cons (V.agg_iff.2 (VL.cons (.int _ _) (VL.cons h3 (VL.nil _)))) (VL.nil _)

theorem hps : Try.f7.params = #[24] := by kernel_rfl
theorem hcells : Try.prog.cellsOf 24 = 2 := by kernel_rfl
theorem hct : Try.prog.cellTypes Try.prog.depth 24 = some [3, 22] := by kernel_rfl
theorem field0 : ∃ f, (Try.prog.fieldsOf 24)[0]? = some f ∧ f.type = 3 ∧ f.offset = 0 := ⟨(Try.prog.fieldsOf 24)[0]'(by decide +kernel), by kernel_rfl, by kernel_rfl, by kernel_rfl⟩
theorem field1 : ∃ f, (Try.prog.fieldsOf 24)[1]? = some f ∧ f.type = 22 ∧ f.offset = 1 := ⟨(Try.prog.fieldsOf 24)[1]'(by decide +kernel), by kernel_rfl, by kernel_rfl, by kernel_rfl⟩
theorem fsize : (Try.prog.fieldsOf 24).size = 2 := by kernel_rfl
theorem c3 : Try.prog.cellsOf 3 = 1 := by kernel_rfl
theorem c22 : Try.prog.cellsOf 22 = 1 := by kernel_rfl
theorem c75 : Try.prog.cellsOf 75 = 2 := by kernel_rfl
theorem res1 : Try.f7.resultTypes = #[4] := by kernel_rfl
theorem simp24 : simpleT Try.prog 5 24 = true := by kernel_rfl
set_option maxRecDepth 100000 in
theorem contract (H : Type) (enc : TypeId × Value → H) (W : World) (base : Nat) (args : Array Value) (ds gs : List (DataW H)) (before : List MemPlace)
    (hval : ∀ (j : Nat) t v, Try.f7.params[j]? = some t → args[j]? = some v → Value.okWide Try.prog W .any base t v)
    (hW : DataW.Whole enc Try.prog Try.f7.params.toList Rows.pairChecksSpec.vars false W args.toList ds gs before) :
    Calls Try.prog 7 args W fun e W' => ∃ v, e = .returned v ∧ Rows.pairChecksSpec.post enc Try.prog Try.f7 false true false false W args v W' := by
  have hW' := hW
  obtain ⟨p, q, hA0, hV, rfl, hfz, hnd⟩ := hW
  have hA : DataW.TrodAll enc Try.prog W 0 (fun _ => true) true Try.f7.params.toList args.toList ds p := hA0
  rw [hps] at hA hval
  obtain ⟨v0, vs0, d0, ds0, p0, q0, hargs, rfl, rfl, h0, r0⟩ := trodAll_cons hA
  obtain ⟨rfl, rfl, rfl⟩ := trodAll_nil r0
  obtain rfl : args = #[v0] := by cases args; simp_all
  obtain ⟨rfl, rfl⟩ := trodVars_none hV
  have hv0 := hval 0 24 v0 rfl rfl
  simp only [Value.okWide, u24] at hv0
  obtain ⟨cs, rfl, hsz, ts, hts, _, hrow⟩ := hv0
  rw [hct] at hts; cases hts
  obtain ⟨fuel, hf⟩ := h0
  obtain ⟨xs, m, _, _, hl, _, hfl⟩ := DataW.trod_struct u24 hf
  obtain ⟨l⟩ := cs
  rw [hcells] at hsz
  match l, hsz with
  | [x0, x1], _ =>
    obtain ⟨f0, g0, t0, o0⟩ := field0
    obtain ⟨f1, g1, t1, o1⟩ := field1
    have r0 := hfl 0 f0 g0
    have r1 := hfl 1 f1 g1
    rw [t0, o0, c3] at r0
    rw [t1, o1, c22] at r1
    simp only [Value.cells, List.drop_zero, List.take_succ_cons, List.take_zero, List.drop_succ_cons] at r0 r1
    have hxl : xs.length = 2 := by
      have hsz2 : (Try.prog.fieldsOf 24).size = 2 := fsize
      omega
    rw [List.getElem?_eq_getElem (by omega)] at r0 r1
    obtain ⟨n, e0, _, _⟩ := DataW.trod_int u3 r0
    have e0 : x0 = .int .i64 n := by simpa using e0
    subst e0
    obtain ⟨u, hu, hcell⟩ := hrow 1 x1 rfl
    have : u = 22 := by simpa using hu.symm
    subst this
    have hv := open_pairs u22 u75 u3 c75 c3 hcell r1
    refine (run n x1 W hv).mono fun e W' ⟨he, hk⟩ => ?_
    subst he
    refine ⟨_, rfl, post_of_keep (d := 5) hW' rfl ?_ hk ?_ rfl rfl (ok_one res1 rfl (okWide_bool_mk u4 _))⟩
    · intro t ht
      have ht : t ∈ Try.f7.params.toList := ht
      rw [hps] at ht
      have : t = 24 := by simpa using ht
      subst this
      exact simp24
    · intro b sp hd
      have hr : Try.f7.resultTypes.toList = [4] := by rw [res1]
      rw [hr]
      exact trodAll_cons_mk (shut_bool u4 _) trodAll_mk0

set_option maxRecDepth 100000 in
theorem lifted (os : Os) (started : os.Started) (H : Type) (enc : TypeId × Value → H) :
    ReturnsInHanded {} Try.checked os 7 .any (Rows.pairChecksSpec.pre6 enc Try.prog Try.f7 Rows.pairChecksRow.domain false) (Rows.pairChecksSpec.post enc Try.prog Try.f7 false true false false) := by
  refine returnsInHanded_of_change (C := Try.checked) own started (by kernel_rfl) Try.func7
    (ChangeSpec.witness6 (enc := enc) (C := Try.checked) false ⟨#[], #[.agg #[.int .i64 0, .slice none 0 0]], []⟩ 8 (by kernel_rfl) (by kernel_rfl) (by kernel_rfl) (by kernel_rfl)) ?_
  intro W base args ds gs before hval hW _ _
  exact contract H enc W base args ds gs before hval hW

/-- PairChecks: for every input the law returns true, and its argument reads as it did. -/
theorem holds : Rows.PairChecksSaid :=
  OpenClaim.holds_of_wide 7 Try.f7 rfl rfl rfl rfl rfl rfl rfl ⟨rfl, rfl, rfl, rfl, rfl⟩ rfl rfl rfl rfl rfl (by kernel_rfl) Try.func7 (by kernel_rfl)
    (of_decide_eq_true (by kernel_rfl)) (by unfold Func.isWrapper; first | (rw [if_pos (by decide +kernel)]; kernel_rfl) | (rw [if_neg (by decide +kernel)]; exact ⟨rfl, rfl⟩))
    (fun os started H enc _ => lifted os started H enc)
end Go.Proofs.Ytalmoilcehhjkaa.pairChecks
#print axioms Go.Proofs.Ytalmoilcehhjkaa.pairChecks.holds
