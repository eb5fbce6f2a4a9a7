/- PRINTED BY A PROGRAM OF OURS: what the functions do, step by step, and that the model says so. -/
import Derived.Test.YtalmoilcehhjkaaHeads
set_option linter.unusedVariables false
set_option linter.unusedSimpArgs false
namespace Go.Proofs.Ytalmoilcehhjkaa
open Go hiding Expr
open Go.AM hiding get
/-! 70: minikin/flow.Most -/
noncomputable def b70 : Code := Try.f70.body.getD .skip
noncomputable def c70_505 : Code := (subN b70 1011).getD .skip
theorem s70_505 : subN b70 1011 = some c70_505 := by kernel_rfl
theorem sl70_505 : subN b70 505 = some (.loop c70_505) := by kernel_rfl
noncomputable def l70_505 (X0 : Int → Sl → Heap → Prop) : Int → Sl → Option Addr → Sl → Int → Int → Heap → Prop := lC Try.prog none c70_505 54 [(6, iP .i64), (7, sP), (10, pP), (31, sP), (32, iP .i64), (33, iP .i64)] (outE noE noE [(0, (grabC 54 [(6, iP .i64), (7, sP)] X0))])
noncomputable def C70 : Ctx := baseC Try.prog [95, 75] none (cons1 87 w87 (cons1 86 w86 (cons1 85 w85 (cons1 84 w84 (allF Try.prog))))) (allI Try.prog) (cons1 505 (gC 54 [(6, iP .i64), (7, sP), (10, pP), (31, sP), (32, iP .i64), (33, iP .i64)] none none [(0, [(6, iP .i64), (7, sP)])] (lC Try.prog none c70_505 54 [(6, iP .i64), (7, sP), (10, pP), (31, sP), (32, iP .i64), (33, iP .i64)])) none1)
theorem o70 : CtxOK (C70) b70 := (addL (addF (addF (addF (addF (base_ok eqOK mixOK none b70) (wC_ok Try.prog 84 [aggP [iP .i64, sP]] [iP .i64])) (wC_ok Try.prog 85 [iP .i64, iP .i64, iP .i64] [bP])) (wC_ok Try.prog 86 [vP] [pP])) (wC_ok Try.prog 87 [pP, iP .i64, iP .i64] [iP .i64])) sl70_505)
def z70_505 (X0 : Int → Sl → Heap → Prop) (v31 : Int) (v32 : Sl) (v33 : Option Addr) (v34 : Sl) (v35 : Int) (v36 : Int) (h37 : Heap) : Prop :=
 (branch (decide (v36 < v35))
 (Go.AM.get v34.a fun a44 =>
 (chk (idx v36 v34.len) <|
 (Go.AM.get (asI .i64 (Heap.rd h37 ⟨a44.block, (a44.off + ((Int.toNat v36) * 3)), none⟩)) fun y45 =>
 (Go.AM.get (asI .i64 (Heap.rd h37 ⟨a44.block, ((a44.off + ((Int.toNat v36) * 3)) + 1), none⟩)) fun y46 =>
 (Go.AM.get (asI .i64 (Heap.rd h37 ⟨a44.block, ((a44.off + ((Int.toNat v36) * 3)) + 2), none⟩)) fun y47 =>
 (withH (Heap.new h37 (.cells [(.int .i64 0), (.int .i64 0), (.int .i64 0)] false)) fun h48 =>
 (Go.AM.get (Heap.wr h48 ⟨h37.next, 0, none⟩ [(.int .i64 y45), (.int .i64 y46), (.int .i64 y47)]) fun h49 =>
 (Go.AM.get (asI .i64 (Heap.rd h49 ⟨h37.next, 2, none⟩)) fun y50 =>
 (Go.AM.get v33 fun a51 =>
 (chk (idx (IntKind.wrap .i64 (2 * v36)) 400) <|
 (Go.AM.get (asI .i64 (Heap.rd h49 ⟨a51.block, ((a51.off + 401) + ((Int.toNat (IntKind.wrap .i64 (2 * v36))) * 1)), none⟩)) fun y52 =>
 (withH (Heap.new h49 (.cells [(.int .i64 (IntKind.wrap .i64 (y50 - y52)))] false)) fun h53 =>
 (Go.AM.get (Heap.rdN h53 ⟨h49.next, 0, none⟩ 1) fun y54 =>
 (Go.AM.get (Heap.app h53 1 8 v32 1 y54) fun r55 =>
 (l70_505 X0 v31 r55.1 v33 v34 v35 (IntKind.wrap .i64 (v36 + 1)) r55.2)))))))))))))))
 (X0 v31 v32 h37))
theorem k70_505 (X0 : Int → Sl → Heap → Prop) (v31 : Int) (v32 : Sl) (v33 : Option Addr) (v34 : Sl) (v35 : Int) (v36 : Int) (h37 : Heap) : (exec (C70) c70_505 false 1011 (Fr.put (Fr.put (Fr.put (Fr.put (Fr.put (Fr.put (Fr0 54) (some 6) (.int .i64 v31)) (some 7) (Sl.v v32)) (some 10) (.pointer v33)) (some 31) (Sl.v v34)) (some 32) (.int .i64 v35)) (some 33) (.int .i64 v36)) h37 (loopE (grabC 54 [(6, iP .i64), (7, sP), (10, pP), (31, sP), (32, iP .i64), (33, iP .i64)] (lC (C70).P (C70).yld c70_505 54 [(6, iP .i64), (7, sP), (10, pP), (31, sP), (32, iP .i64), (33, iP .i64)] (outE noE noE [(0, (grabC 54 [(6, iP .i64), (7, sP)] X0))]))) (outE noE noE [(0, (grabC 54 [(6, iP .i64), (7, sP)] X0))]))) = z70_505 X0 v31 v32 v33 v34 v35 v36 h37 := by kernel_rfl
theorem r70_505 (X0 : Int → Sl → Heap → Prop) (v31 : Int) (v32 : Sl) (v33 : Option Addr) (v34 : Sl) (v35 : Int) (v36 : Int) (h37 : Heap) (H : z70_505 X0 v31 v32 v33 v34 v35 v36 h37) : l70_505 X0 v31 v32 v33 v34 v35 v36 h37 := loop_stepE (p := 505) (N := 54) (keep := [(6, iP .i64), (7, sP), (10, pP), (31, sP), (32, iP .i64), (33, iP .i64)]) (o70) rfl s70_505 (k70_505 X0 v31 v32 v33 v34 v35 v36 h37) (by kernel_rfl) H
def z70 (p0 : (Int × Sl × Unit)) (p1 : Int) (p2 : Int) (h : Heap) (K : Int → Sl → Int → Heap → Prop) : Prop :=
 (withH (Heap.new h (.cells [(.int .i64 p0.1), (Sl.v p0.2.1)] false)) fun h2 =>
 (Go.AM.get (asI .i64 (Heap.rd h2 ⟨h.next, 0, none⟩)) fun y11 =>
 (Go.AM.get (asS (Heap.rd h2 ⟨h.next, 1, none⟩)) fun y12 =>
 (t84 (y11, y12, ()) h2 fun r13 h14 =>
 (branch (r13 != 0)
 (K 0 (Sl.mk none 0 0) r13 h14)
 (Go.AM.get (asI .i64 (Heap.rd h14 ⟨h.next, 0, none⟩)) fun y18 =>
 (t85 y18 p1 p2 h14 fun r19 h20 =>
 (branch (!r19)
 (K 0 (Sl.mk none 0 0) 1 h20)
 (t86 (.iface 143 (.pointer (some ⟨h.next, 0, none⟩))) h20 fun r23 h24 =>
 (t87 r23 p1 p2 h24 fun r27 h28 =>
 (Go.AM.get (asS (Heap.rd h28 ⟨h.next, 1, none⟩)) fun y30 =>
 (l70_505
 (fun z56 z57 h58 =>
 (K z56 z57 0 h58))
 r27 (Sl.mk none 0 0) r23 y30 ((y30.len : Nat) : Int) 0 h28))))))))))))
theorem k70 (p0 : (Int × Sl × Unit)) (p1 : Int) (p2 : Int) (h : Heap) (K : Int → Sl → Int → Heap → Prop) : fnK C70 Try.f70.results.toList Try.f70.ntmps b70 [(.agg ⟨[(.int .i64 p0.1), (Sl.v p0.2.1)]⟩), (.int .i64 p1), (.int .i64 p2)] h (outC [iP .i64, sP, iP .i64] K) = z70 p0 p1 p2 h K := by kernel_rfl
theorem r70 (p0 : (Int × Sl × Unit)) (p1 : Int) (p2 : Int) (h : Heap) (K : Int → Sl → Int → Heap → Prop) (H : z70 p0 p1 p2 h K) : t70 p0 p1 p2 h K := fn_stepE (C := C70) (fn := Try.f70) (g := 70) o70 rfl rfl (by kernel_rfl) (by kernel_rfl) (by kernel_rfl) (k70 p0 p1 p2 h K) (by kernel_rfl) H

/-! 72: (*minikin/pair.order).pairs -/
noncomputable def b72 : Code := Try.f72.body.getD .skip
noncomputable def C72 : Ctx := baseC Try.prog [95, 75] none (allF Try.prog) (allI Try.prog) none1
theorem o72 : CtxOK (C72) b72 := (base_ok eqOK mixOK none b72)
def z72 (p0 : Option Addr) (h : Heap) (K : (Option Addr × Unit) → Heap → Prop) : Prop :=
 (withH (Heap.new h (.cells [(.pointer p0)] false)) fun h1 =>
 (K ((some ⟨h.next, 0, none⟩), ()) h1))
theorem k72 (p0 : Option Addr) (h : Heap) (K : (Option Addr × Unit) → Heap → Prop) : fnK C72 Try.f72.results.toList Try.f72.ntmps b72 [(.pointer p0)] h (outC [cP 90 [pP]] K) = z72 p0 h K := by kernel_rfl
theorem r72 (p0 : Option Addr) (h : Heap) (K : (Option Addr × Unit) → Heap → Prop) (H : z72 p0 h K) : t72 p0 h K := fn_stepE (C := C72) (fn := Try.f72) (g := 72) o72 rfl rfl (by kernel_rfl) (by kernel_rfl) (by kernel_rfl) (k72 p0 h K) (by kernel_rfl) H

/-! 73: (*minikin/pair.order).chained$1 -/
noncomputable def b73 : Code := Try.f73.body.getD .skip
noncomputable def c73_25 : Code := (subN b73 51).getD .skip
theorem s73_25 : subN b73 51 = some c73_25 := by kernel_rfl
theorem sl73_25 : subN b73 25 = some (.loop c73_25) := by kernel_rfl
noncomputable def l73_25 (XR : Bool → Heap → Prop) (X0 : Heap → Prop) : Int → Option Addr → Option Addr → Option Addr → Option Addr → Sl → Int → Int → Heap → Prop := lC Try.prog none c73_25 41 [(0, iP .i64), (2, pP), (3, pP), (4, pP), (5, pP), (12, sP), (13, iP .i64), (14, iP .i64)] (outE noE (grabC 41 [(7, bP)] XR) [(0, (grabC 41 [] X0))])
noncomputable def C73 : Ctx := baseC Try.prog [95, 75] none (allF Try.prog) (allI Try.prog) (cons1 25 (gC 41 [(0, iP .i64), (2, pP), (3, pP), (4, pP), (5, pP), (12, sP), (13, iP .i64), (14, iP .i64)] none (some [(7, bP)]) [(0, [])] (lC Try.prog none c73_25 41 [(0, iP .i64), (2, pP), (3, pP), (4, pP), (5, pP), (12, sP), (13, iP .i64), (14, iP .i64)])) none1)
theorem o73 : CtxOK (C73) b73 := (addL (base_ok eqOK mixOK none b73) sl73_25)
def z73_25 (XR : Bool → Heap → Prop) (X0 : Heap → Prop) (v5 : Int) (v6 : Option Addr) (v7 : Option Addr) (v8 : Option Addr) (v9 : Option Addr) (v10 : Sl) (v11 : Int) (v12 : Int) (h13 : Heap) : Prop :=
 (branch (decide (v12 < v11))
 (Go.AM.get v10.a fun a16 =>
 (chk (idx v12 v10.len) <|
 (Go.AM.get (asI .i64 (Heap.rd h13 ⟨a16.block, (a16.off + ((Int.toNat v12) * 1)), none⟩)) fun y17 =>
 (Go.AM.get v6 fun a20 =>
 (chk (idx y17 40) <|
 (Go.AM.get (asB (Heap.rd h13 ⟨a20.block, (a20.off + ((Int.toNat y17) * 1)), none⟩)) fun y21 =>
 (branch y21
 (l73_25 XR X0 v5 v6 v7 v8 v9 v10 v11 (IntKind.wrap .i64 (v12 + 1)) h13)
 (Go.AM.get v6 fun a24 =>
 (chk (idx y17 40) <|
 (Go.AM.get (Heap.wr h13 ⟨a24.block, (a24.off + ((Int.toNat y17) * 1)), none⟩ [(.bool true)]) fun h25 =>
 (Go.AM.get v7 fun a35 =>
 (chk (idx y17 40) <|
 (Go.AM.get (asI .i64 (Heap.rd h25 ⟨a35.block, (a35.off + ((Int.toNat y17) * 1)), none⟩)) fun y36 =>
 (branch (decide (y36 < 0))
 (Go.AM.get v9 fun a37 =>
 (chk (idx v5 40) <|
 (Go.AM.get (Heap.wr h25 ⟨a37.block, (a37.off + ((Int.toNat v5) * 1)), none⟩ [(.int .i64 y17)]) fun h38 =>
 (Go.AM.get v7 fun a39 =>
 (chk (idx y17 40) <|
 (Go.AM.get (Heap.wr h38 ⟨a39.block, (a39.off + ((Int.toNat y17) * 1)), none⟩ [(.int .i64 v5)]) fun h40 =>
 (XR true h40)))))))
 (Go.AM.get v8 fun a41 =>
 (Go.AM.get (Heap.rd h25 a41) fun y42 =>
 (Go.AM.get v7 fun a43 =>
 (chk (idx y17 40) <|
 (Go.AM.get (asI .i64 (Heap.rd h25 ⟨a43.block, (a43.off + ((Int.toNat y17) * 1)), none⟩)) fun y44 =>
 (callV (C73) y42 [(.int .i64 y44)] h25 (retK fun r45 h46 =>
 (boolK r45 fun b48 => (branch b48
 (Go.AM.get v9 fun a49 =>
 (chk (idx v5 40) <|
 (Go.AM.get (Heap.wr h46 ⟨a49.block, (a49.off + ((Int.toNat v5) * 1)), none⟩ [(.int .i64 y17)]) fun h50 =>
 (Go.AM.get v7 fun a51 =>
 (chk (idx y17 40) <|
 (Go.AM.get (Heap.wr h50 ⟨a51.block, (a51.off + ((Int.toNat y17) * 1)), none⟩ [(.int .i64 v5)]) fun h52 =>
 (XR true h52)))))))
 (l73_25 XR X0 v5 v6 v7 v8 v9 v10 v11 (IntKind.wrap .i64 (v12 + 1)) h46))))))))))))))))))))))))
 (X0 h13))
theorem k73_25 (XR : Bool → Heap → Prop) (X0 : Heap → Prop) (v5 : Int) (v6 : Option Addr) (v7 : Option Addr) (v8 : Option Addr) (v9 : Option Addr) (v10 : Sl) (v11 : Int) (v12 : Int) (h13 : Heap) : (exec (C73) c73_25 false 51 (Fr.put (Fr.put (Fr.put (Fr.put (Fr.put (Fr.put (Fr.put (Fr.put (Fr0 41) (some 0) (.int .i64 v5)) (some 2) (.pointer v6)) (some 3) (.pointer v7)) (some 4) (.pointer v8)) (some 5) (.pointer v9)) (some 12) (Sl.v v10)) (some 13) (.int .i64 v11)) (some 14) (.int .i64 v12)) h13 (loopE (grabC 41 [(0, iP .i64), (2, pP), (3, pP), (4, pP), (5, pP), (12, sP), (13, iP .i64), (14, iP .i64)] (lC (C73).P (C73).yld c73_25 41 [(0, iP .i64), (2, pP), (3, pP), (4, pP), (5, pP), (12, sP), (13, iP .i64), (14, iP .i64)] (outE noE (grabC 41 [(7, bP)] XR) [(0, (grabC 41 [] X0))]))) (outE noE (grabC 41 [(7, bP)] XR) [(0, (grabC 41 [] X0))]))) = z73_25 XR X0 v5 v6 v7 v8 v9 v10 v11 v12 h13 := by kernel_rfl
theorem r73_25 (XR : Bool → Heap → Prop) (X0 : Heap → Prop) (v5 : Int) (v6 : Option Addr) (v7 : Option Addr) (v8 : Option Addr) (v9 : Option Addr) (v10 : Sl) (v11 : Int) (v12 : Int) (h13 : Heap) (H : z73_25 XR X0 v5 v6 v7 v8 v9 v10 v11 v12 h13) : l73_25 XR X0 v5 v6 v7 v8 v9 v10 v11 v12 h13 := loop_stepE (p := 25) (N := 41) (keep := [(0, iP .i64), (2, pP), (3, pP), (4, pP), (5, pP), (12, sP), (13, iP .i64), (14, iP .i64)]) (o73) rfl s73_25 (k73_25 XR X0 v5 v6 v7 v8 v9 v10 v11 v12 h13) (by kernel_rfl) H
def z73 (p0 : Int) (p1 : Option Addr) (p2 : Option Addr) (p3 : Option Addr) (p4 : Option Addr) (p5 : Option Addr) (h : Heap) (K : Bool → Heap → Prop) : Prop :=
 (Go.AM.get p1 fun a3 =>
 (chk (idx p0 40) <|
 (Go.AM.get (asS (Heap.rd h ⟨a3.block, (a3.off + ((Int.toNat p0) * 1)), none⟩)) fun y4 =>
 (l73_25
 (fun z53 h54 =>
 (K z53 h54))
 (fun h55 =>
 (K false h55))
 p0 p2 p3 p4 p5 y4 ((y4.len : Nat) : Int) 0 h))))
theorem k73 (p0 : Int) (p1 : Option Addr) (p2 : Option Addr) (p3 : Option Addr) (p4 : Option Addr) (p5 : Option Addr) (h : Heap) (K : Bool → Heap → Prop) : fnK C73 Try.f73.results.toList Try.f73.ntmps b73 [(.int .i64 p0), (.pointer p1), (.pointer p2), (.pointer p3), (.pointer p4), (.pointer p5)] h (outC [bP] K) = z73 p0 p1 p2 p3 p4 p5 h K := by kernel_rfl
theorem r73 (p0 : Int) (p1 : Option Addr) (p2 : Option Addr) (p3 : Option Addr) (p4 : Option Addr) (p5 : Option Addr) (h : Heap) (K : Bool → Heap → Prop) (H : z73 p0 p1 p2 p3 p4 p5 h K) : t73 p0 p1 p2 p3 p4 p5 h K := fn_stepE (C := C73) (fn := Try.f73) (g := 73) o73 rfl rfl (by kernel_rfl) (by kernel_rfl) (by kernel_rfl) (k73 p0 p1 p2 p3 p4 p5 h K) (by kernel_rfl) H

/-! 74: slices.ContainsFunc[[][]int64,[]int64] -/
noncomputable def b74 : Code := Try.f74.body.getD .skip
noncomputable def C74 : Ctx := baseC Try.prog [95, 75] none (cons1 91 w91 (allF Try.prog)) (allI Try.prog) none1
theorem o74 : CtxOK (C74) b74 := (addF (base_ok eqOK mixOK none b74) (wC_ok Try.prog 91 [sP, vP] [iP .i64]))
def z74 (p0 : Sl) (p1 : Value) (h : Heap) (K : Bool → Heap → Prop) : Prop :=
 (t91 p0 p1 h fun r1 h2 =>
 (K (decide (r1 ≥ 0)) h2))
theorem k74 (p0 : Sl) (p1 : Value) (h : Heap) (K : Bool → Heap → Prop) : fnK C74 Try.f74.results.toList Try.f74.ntmps b74 [(Sl.v p0), p1] h (outC [bP] K) = z74 p0 p1 h K := by kernel_rfl
theorem r74 (p0 : Sl) (p1 : Value) (h : Heap) (K : Bool → Heap → Prop) (H : z74 p0 p1 h K) : t74 p0 p1 h K := fn_stepE (C := C74) (fn := Try.f74) (g := 74) o74 rfl rfl (by kernel_rfl) (by kernel_rfl) (by kernel_rfl) (k74 p0 p1 h K) (by kernel_rfl) H

/-! 75: minikin/pair.checkOffer$1 -/
noncomputable def b75 : Code := Try.f75.body.getD .skip
noncomputable def C75 : Ctx := baseC Try.prog [95, 75] none (allF Try.prog) (allI Try.prog) none1
theorem o75 : CtxOK (C75) b75 := (base_ok eqOK mixOK none b75)
def z75 (p0 : Sl) (p1 : Option Addr) (h : Heap) (K : Bool → Heap → Prop) : Prop :=
 (Go.AM.get p1 fun a1 =>
 (Go.AM.get (asI .i64 (Heap.rd h a1)) fun y2 =>
 (K (((p0.len : Nat) : Int) != y2) h)))
theorem k75 (p0 : Sl) (p1 : Option Addr) (h : Heap) (K : Bool → Heap → Prop) : fnK C75 Try.f75.results.toList Try.f75.ntmps b75 [(Sl.v p0), (.pointer p1)] h (outC [bP] K) = z75 p0 p1 h K := by kernel_rfl
theorem r75 (p0 : Sl) (p1 : Option Addr) (h : Heap) (K : Bool → Heap → Prop) (H : z75 p0 p1 h K) : t75 p0 p1 h K := fn_stepE (C := C75) (fn := Try.f75) (g := 75) o75 rfl rfl (by kernel_rfl) (by kernel_rfl) (by kernel_rfl) (k75 p0 p1 h K) (by kernel_rfl) H

/-! 76: minikin/pair.checkOffer$2 -/
noncomputable def b76 : Code := Try.f76.body.getD .skip
noncomputable def C76 : Ctx := baseC Try.prog [95, 75] none (allF Try.prog) (allI Try.prog) none1
theorem o76 : CtxOK (C76) b76 := (base_ok eqOK mixOK none b76)
def z76 (p0 : Int) (h : Heap) (K : Bool → Heap → Prop) : Prop :=
 (branch (decide (p0 < (-1000000)))
 (K true h)
 (K (decide (p0 > 1000000)) h))
theorem k76 (p0 : Int) (h : Heap) (K : Bool → Heap → Prop) : fnK C76 Try.f76.results.toList Try.f76.ntmps b76 [(.int .i64 p0)] h (outC [bP] K) = z76 p0 h K := by kernel_rfl
theorem r76 (p0 : Int) (h : Heap) (K : Bool → Heap → Prop) (H : z76 p0 h K) : t76 p0 h K := fn_stepE (C := C76) (fn := Try.f76) (g := 76) o76 rfl rfl (by kernel_rfl) (by kernel_rfl) (by kernel_rfl) (k76 p0 h K) (by kernel_rfl) H

/-! 77: minikin/pair.worth -/
noncomputable def b77 : Code := Try.f77.body.getD .skip
noncomputable def c77_57 : Code := (subN b77 115).getD .skip
theorem s77_57 : subN b77 115 = some c77_57 := by kernel_rfl
theorem sl77_57 : subN b77 57 = some (.loop c77_57) := by kernel_rfl
noncomputable def l77_57 (X0 : Int → Heap → Prop) : Sl → Int → Sl → Int → Int → Heap → Prop := lC Try.prog none c77_57 26 [(0, sP), (5, iP .i64), (8, sP), (9, iP .i64), (10, iP .i64)] (outE noE noE [(0, (grabC 26 [(5, iP .i64)] X0))])
noncomputable def C77 : Ctx := baseC Try.prog [95, 75] none (allF Try.prog) (allI Try.prog) (cons1 57 (gC 26 [(0, sP), (5, iP .i64), (8, sP), (9, iP .i64), (10, iP .i64)] none none [(0, [(5, iP .i64)])] (lC Try.prog none c77_57 26 [(0, sP), (5, iP .i64), (8, sP), (9, iP .i64), (10, iP .i64)])) none1)
theorem o77 : CtxOK (C77) b77 := (addL (base_ok eqOK mixOK none b77) sl77_57)
def z77_57 (X0 : Int → Heap → Prop) (v1 : Sl) (v2 : Int) (v3 : Sl) (v4 : Int) (v5 : Int) (h6 : Heap) : Prop :=
 (branch (decide (v5 < v4))
 (Go.AM.get v3.a fun a9 =>
 (chk (idx v5 v3.len) <|
 (Go.AM.get (asI .i64 (Heap.rd h6 ⟨a9.block, (a9.off + ((Int.toNat v5) * 1)), none⟩)) fun y10 =>
 (Go.AM.get v1.a fun a11 =>
 (chk (idx v5 v1.len) <|
 (Go.AM.get (asS (Heap.rd h6 ⟨a11.block, (a11.off + ((Int.toNat v5) * 1)), none⟩)) fun y12 =>
 (Go.AM.get y12.a fun a13 =>
 (chk (idx y10 y12.len) <|
 (Go.AM.get (asI .i64 (Heap.rd h6 ⟨a13.block, (a13.off + ((Int.toNat y10) * 1)), none⟩)) fun y14 =>
 (l77_57 X0 v1 (IntKind.wrap .i64 (v2 + y14)) v3 v4 (IntKind.wrap .i64 (v5 + 1)) h6))))))))))
 (X0 v2 h6))
theorem k77_57 (X0 : Int → Heap → Prop) (v1 : Sl) (v2 : Int) (v3 : Sl) (v4 : Int) (v5 : Int) (h6 : Heap) : (exec (C77) c77_57 false 115 (Fr.put (Fr.put (Fr.put (Fr.put (Fr.put (Fr0 26) (some 0) (Sl.v v1)) (some 5) (.int .i64 v2)) (some 8) (Sl.v v3)) (some 9) (.int .i64 v4)) (some 10) (.int .i64 v5)) h6 (loopE (grabC 26 [(0, sP), (5, iP .i64), (8, sP), (9, iP .i64), (10, iP .i64)] (lC (C77).P (C77).yld c77_57 26 [(0, sP), (5, iP .i64), (8, sP), (9, iP .i64), (10, iP .i64)] (outE noE noE [(0, (grabC 26 [(5, iP .i64)] X0))]))) (outE noE noE [(0, (grabC 26 [(5, iP .i64)] X0))]))) = z77_57 X0 v1 v2 v3 v4 v5 h6 := by kernel_rfl
theorem r77_57 (X0 : Int → Heap → Prop) (v1 : Sl) (v2 : Int) (v3 : Sl) (v4 : Int) (v5 : Int) (h6 : Heap) (H : z77_57 X0 v1 v2 v3 v4 v5 h6) : l77_57 X0 v1 v2 v3 v4 v5 h6 := loop_stepE (p := 57) (N := 26) (keep := [(0, sP), (5, iP .i64), (8, sP), (9, iP .i64), (10, iP .i64)]) (o77) rfl s77_57 (k77_57 X0 v1 v2 v3 v4 v5 h6) (by kernel_rfl) H
def z77 (p0 : Sl) (p1 : Sl) (h : Heap) (K : Int → Heap → Prop) : Prop :=
 (l77_57
 (fun z15 h16 =>
 (K z15 h16))
 p0 0 p1 ((p1.len : Nat) : Int) 0 h)
theorem k77 (p0 : Sl) (p1 : Sl) (h : Heap) (K : Int → Heap → Prop) : fnK C77 Try.f77.results.toList Try.f77.ntmps b77 [(Sl.v p0), (Sl.v p1)] h (outC [iP .i64] K) = z77 p0 p1 h K := by kernel_rfl
theorem r77 (p0 : Sl) (p1 : Sl) (h : Heap) (K : Int → Heap → Prop) (H : z77 p0 p1 h K) : t77 p0 p1 h K := fn_stepE (C := C77) (fn := Try.f77) (g := 77) o77 rfl rfl (by kernel_rfl) (by kernel_rfl) (by kernel_rfl) (k77 p0 p1 h K) (by kernel_rfl) H

/-! 78: slices.Delete[[]int64,int64] -/
noncomputable def b78 : Code := Try.f78.body.getD .skip
noncomputable def C78 : Ctx := baseC Try.prog [95, 75] none (allF Try.prog) (allI Try.prog) none1
theorem o78 : CtxOK (C78) b78 := (base_ok eqOK mixOK none b78)
def z78 (p0 : Sl) (p1 : Int) (p2 : Int) (h : Heap) (K : Sl → Heap → Prop) : Prop :=
 (chk ((within p1 p2 ((p0.len : Nat) : Int)) && decide (((p0.len : Nat) : Int) ≤ ((p0.cap : Nat) : Int))) <|
 (branch (p1 == p2)
 (K p0 h)
 (chk (within 0 p1 ((p0.cap : Nat) : Int)) <|
 (chk (within p2 ((p0.len : Nat) : Int) ((p0.cap : Nat) : Int)) <|
 (optK (Sl.cut p0 1 (Int.toNat p2) (Int.toNat ((p0.len : Nat) : Int))).a
 (chk (within (((Sl.cut p0 1 0 (Int.toNat p1)).len : Nat) : Int) ((p0.len : Nat) : Int) (((Sl.cut p0 1 0 (Int.toNat p1)).cap : Nat) : Int)) <|
 (optK (Sl.cut (Sl.cut p0 1 0 (Int.toNat p1)) 1 (Int.toNat (((Sl.cut p0 1 0 (Int.toNat p1)).len : Nat) : Int)) (Int.toNat ((p0.len : Nat) : Int))).a
 (K (Sl.cut p0 1 0 (Int.toNat p1)) h)
 fun a5 =>
 (Go.AM.get (Heap.wr h ⟨a5.block, a5.off, none⟩ (rep [(.int .i64 0)] ((Sl.cut (Sl.cut p0 1 0 (Int.toNat p1)) 1 (Int.toNat (((Sl.cut p0 1 0 (Int.toNat p1)).len : Nat) : Int)) (Int.toNat ((p0.len : Nat) : Int))).len))) fun h6 =>
 (K (Sl.cut p0 1 0 (Int.toNat p1)) h6))))
 fun a4 =>
 (Go.AM.get (Heap.rdN h ⟨a4.block, a4.off, none⟩ (((Sl.cut p0 1 (Int.toNat p2) (Int.toNat ((p0.len : Nat) : Int))).len) * 1)) fun y7 =>
 (Go.AM.get (Heap.app h 1 8 (Sl.cut p0 1 0 (Int.toNat p1)) ((Sl.cut p0 1 (Int.toNat p2) (Int.toNat ((p0.len : Nat) : Int))).len) y7) fun r8 =>
 (chk (within ((r8.1.len : Nat) : Int) ((p0.len : Nat) : Int) ((r8.1.cap : Nat) : Int)) <|
 (optK (Sl.cut r8.1 1 (Int.toNat ((r8.1.len : Nat) : Int)) (Int.toNat ((p0.len : Nat) : Int))).a
 (K r8.1 r8.2)
 fun a9 =>
 (Go.AM.get (Heap.wr r8.2 ⟨a9.block, a9.off, none⟩ (rep [(.int .i64 0)] ((Sl.cut r8.1 1 (Int.toNat ((r8.1.len : Nat) : Int)) (Int.toNat ((p0.len : Nat) : Int))).len))) fun h10 =>
 (K r8.1 h10)))))))))))
theorem k78 (p0 : Sl) (p1 : Int) (p2 : Int) (h : Heap) (K : Sl → Heap → Prop) : fnK C78 Try.f78.results.toList Try.f78.ntmps b78 [(Sl.v p0), (.int .i64 p1), (.int .i64 p2)] h (outC [sP] K) = z78 p0 p1 p2 h K := by kernel_rfl
theorem r78 (p0 : Sl) (p1 : Int) (p2 : Int) (h : Heap) (K : Sl → Heap → Prop) (H : z78 p0 p1 p2 h K) : t78 p0 p1 p2 h K := fn_stepE (C := C78) (fn := Try.f78) (g := 78) o78 rfl rfl (by kernel_rfl) (by kernel_rfl) (by kernel_rfl) (k78 p0 p1 p2 h K) (by kernel_rfl) H

/-! 79: slices.Clone[[]int64,int64] -/
noncomputable def b79 : Code := Try.f79.body.getD .skip
noncomputable def C79 : Ctx := baseC Try.prog [95, 75] none (allF Try.prog) (allI Try.prog) none1
theorem o79 : CtxOK (C79) b79 := (base_ok eqOK mixOK none b79)
def z79 (p0 : Sl) (h : Heap) (K : Sl → Heap → Prop) : Prop :=
 (branch (Option.isNone p0.a)
 (K (Sl.mk none 0 0) h)
 (withH (Heap.new h (.cells [] false)) fun h1 =>
 (optK p0.a
 (K (Sl.mk (some ⟨h.next, 0, (some 0)⟩) 0 0) h1)
 fun a2 =>
 (Go.AM.get (Heap.rdN h1 ⟨a2.block, a2.off, none⟩ (p0.len * 1)) fun y3 =>
 (Go.AM.get (Heap.app h1 1 8 (Sl.mk (some ⟨h.next, 0, (some 0)⟩) 0 0) p0.len y3) fun r4 =>
 (K r4.1 r4.2))))))
theorem k79 (p0 : Sl) (h : Heap) (K : Sl → Heap → Prop) : fnK C79 Try.f79.results.toList Try.f79.ntmps b79 [(Sl.v p0)] h (outC [sP] K) = z79 p0 h K := by kernel_rfl
theorem r79 (p0 : Sl) (h : Heap) (K : Sl → Heap → Prop) (H : z79 p0 h K) : t79 p0 h K := fn_stepE (C := C79) (fn := Try.f79) (g := 79) o79 rfl rfl (by kernel_rfl) (by kernel_rfl) (by kernel_rfl) (k79 p0 h K) (by kernel_rfl) H

/-! 80: slices.Repeat[[]int,int] -/
noncomputable def b80 : Code := Try.f80.body.getD .skip
noncomputable def c80_507 : Code := (subN b80 1015).getD .skip
theorem s80_507 : subN b80 1015 = some c80_507 := by kernel_rfl
theorem sl80_507 : subN b80 507 = some (.loop c80_507) := by kernel_rfl
noncomputable def l80_507 (X0 : Sl → Heap → Prop) : Sl → Int → Heap → Prop := lC Try.prog none c80_507 48 [(7, sP), (8, iP .i64)] (outE noE noE [(0, (grabC 48 [(7, sP)] X0))])
noncomputable def c80_126 : Code := (subN b80 126).getD .skip
theorem s80_126 : subN b80 126 = some c80_126 := by kernel_rfl
noncomputable def q80_126 (XR : Sl → Heap → Prop) : Sl → Int → Heap → Prop := qC Try.prog none c80_126 48 [(7, sP), (8, iP .i64)] (outE noE (grabC 48 [(4, sP)] XR) [])
noncomputable def C80 : Ctx := baseC Try.prog [95, 75] none (cons1 92 w92 (allF Try.prog)) (allI Try.prog) (cons1 126 (gC 48 [(7, sP), (8, iP .i64)] none (some [(4, sP)]) [] (qC Try.prog none c80_126 48 [(7, sP), (8, iP .i64)])) (cons1 507 (gC 48 [(7, sP), (8, iP .i64)] none none [(0, [(7, sP)])] (lC Try.prog none c80_507 48 [(7, sP), (8, iP .i64)])) none1))
theorem o80 : CtxOK (C80) b80 := (addQ (addL (addF (base_ok eqOK mixOK none b80) (wC_ok Try.prog 92 [iP .u64, iP .u64] [iP .u64, iP .u64])) sl80_507) s80_126)
def z80_507 (X0 : Sl → Heap → Prop) (v15 : Sl) (v16 : Int) (h17 : Heap) : Prop :=
 (branch (decide (v16 < ((v15.len : Nat) : Int)))
 (chk (within v16 ((v15.len : Nat) : Int) ((v15.cap : Nat) : Int)) <|
 (chk (within 0 v16 ((v15.cap : Nat) : Int)) <|
 (optK (Sl.cut v15 1 (Int.toNat v16) (Int.toNat ((v15.len : Nat) : Int))).a
 (l80_507 X0 v15 (IntKind.wrap .i64 (v16 + 0)) h17)
 fun a18 =>
 (optK (Sl.cut v15 1 0 (Int.toNat v16)).a
 (l80_507 X0 v15 (IntKind.wrap .i64 (v16 + 0)) h17)
 fun a19 =>
 (Go.AM.get (Heap.rdN h17 ⟨a19.block, a19.off, none⟩ ((Nat.min ((Sl.cut v15 1 0 (Int.toNat v16)).len) ((Sl.cut v15 1 (Int.toNat v16) (Int.toNat ((v15.len : Nat) : Int))).len)) * 1)) fun y20 =>
 Go.AM.get (Heap.wr h17 ⟨a18.block, a18.off, none⟩ y20) fun h21 =>
 (l80_507 X0 v15 (IntKind.wrap .i64 (v16 + (((Nat.min ((Sl.cut v15 1 0 (Int.toNat v16)).len) ((Sl.cut v15 1 (Int.toNat v16) (Int.toNat ((v15.len : Nat) : Int))).len)) : Nat) : Int))) h21))))))
 (X0 v15 h17))
theorem k80_507 (X0 : Sl → Heap → Prop) (v15 : Sl) (v16 : Int) (h17 : Heap) : (exec (C80) c80_507 false 1015 (Fr.put (Fr.put (Fr0 48) (some 7) (Sl.v v15)) (some 8) (.int .i64 v16)) h17 (loopE (grabC 48 [(7, sP), (8, iP .i64)] (lC (C80).P (C80).yld c80_507 48 [(7, sP), (8, iP .i64)] (outE noE noE [(0, (grabC 48 [(7, sP)] X0))]))) (outE noE noE [(0, (grabC 48 [(7, sP)] X0))]))) = z80_507 X0 v15 v16 h17 := by kernel_rfl
theorem r80_507 (X0 : Sl → Heap → Prop) (v15 : Sl) (v16 : Int) (h17 : Heap) (H : z80_507 X0 v15 v16 h17) : l80_507 X0 v15 v16 h17 := loop_stepE (p := 507) (N := 48) (keep := [(7, sP), (8, iP .i64)]) (o80) rfl s80_507 (k80_507 X0 v15 v16 h17) (by kernel_rfl) H
def z80_126 (XR : Sl → Heap → Prop) (v12 : Sl) (v13 : Int) (h14 : Heap) : Prop :=
 (l80_507
 (fun z22 h23 =>
 (XR z22 h23))
 v12 v13 h14)
theorem k80_126 (XR : Sl → Heap → Prop) (v12 : Sl) (v13 : Int) (h14 : Heap) : (exec (C80) c80_126 true 126 (Fr.put (Fr.put (Fr0 48) (some 7) (Sl.v v12)) (some 8) (.int .i64 v13)) h14 (outE noE (grabC 48 [(4, sP)] XR) [])) = z80_126 XR v12 v13 h14 := by kernel_rfl
theorem r80_126 (XR : Sl → Heap → Prop) (v12 : Sl) (v13 : Int) (h14 : Heap) (H : z80_126 XR v12 v13 h14) : q80_126 XR v12 v13 h14 := piece_stepE (p := 126) (o80) rfl s80_126 (k80_126 XR v12 v13 h14) (by kernel_rfl) H
def z80 (p0 : Sl) (p1 : Int) (h : Heap) (K : Sl → Heap → Prop) : Prop :=
 (branch (decide (p1 < 0))
 False
 (t92 (IntKind.wrap .u64 ((p0.len : Nat) : Int)) (IntKind.wrap .u64 p1) h fun r4 r5 h6 =>
 (branch (decide (r4 > 0))
 False
 (branch (decide (r5 > 9223372036854775807))
 False
 (chk (within 0 (IntKind.wrap .i64 r5) (IntKind.wrap .i64 r5) && (decide ((IntKind.wrap .i64 r5) ≤ 1000000000000) && (small (Int.toNat (IntKind.wrap .i64 r5)) 8 && true))) <|
 (withH (Heap.new h6 (.cells (rep [(.int .i64 0)] (Int.toNat (IntKind.wrap .i64 r5))) false)) fun h8 =>
 (optK p0.a
 (q80_126
 (fun z25 h26 =>
 (K z25 h26))
 (Sl.mk (some ⟨h6.next, 0, (some 0)⟩) (Int.toNat (IntKind.wrap .i64 r5)) (Int.toNat (IntKind.wrap .i64 r5))) 0 h8)
 fun a24 =>
 (Go.AM.get (Heap.rdN h8 ⟨a24.block, a24.off, none⟩ ((Nat.min p0.len (Int.toNat (IntKind.wrap .i64 r5))) * 1)) fun y27 =>
 Go.AM.get (Heap.wr h8 ⟨h6.next, 0, none⟩ y27) fun h28 =>
 (q80_126
 (fun z29 h30 =>
 (K z29 h30))
 (Sl.mk (some ⟨h6.next, 0, (some 0)⟩) (Int.toNat (IntKind.wrap .i64 r5)) (Int.toNat (IntKind.wrap .i64 r5))) (((Nat.min p0.len (Int.toNat (IntKind.wrap .i64 r5))) : Nat) : Int) h28)))))))))
theorem k80 (p0 : Sl) (p1 : Int) (h : Heap) (K : Sl → Heap → Prop) : fnK C80 Try.f80.results.toList Try.f80.ntmps b80 [(Sl.v p0), (.int .i64 p1)] h (outC [sP] K) = z80 p0 p1 h K := by kernel_rfl
theorem r80 (p0 : Sl) (p1 : Int) (h : Heap) (K : Sl → Heap → Prop) (H : z80 p0 p1 h K) : t80 p0 p1 h K := fn_stepE (C := C80) (fn := Try.f80) (g := 80) o80 rfl rfl (by kernel_rfl) (by kernel_rfl) (by kernel_rfl) (k80 p0 p1 h K) (by kernel_rfl) H

/-! 81: slices.Max[[]int64,int64] -/
noncomputable def b81 : Code := Try.f81.body.getD .skip
noncomputable def c81_121 : Code := (subN b81 243).getD .skip
theorem s81_121 : subN b81 243 = some c81_121 := by kernel_rfl
theorem sl81_121 : subN b81 121 = some (.loop c81_121) := by kernel_rfl
noncomputable def l81_121 (X0 : Int → Heap → Prop) : Sl → Int → Int → Heap → Prop := lC Try.prog none c81_121 25 [(0, sP), (3, iP .i64), (4, iP .i64)] (outE noE noE [(0, (grabC 25 [(3, iP .i64)] X0))])
noncomputable def C81 : Ctx := baseC Try.prog [95, 75] none (allF Try.prog) (allI Try.prog) (cons1 121 (gC 25 [(0, sP), (3, iP .i64), (4, iP .i64)] none none [(0, [(3, iP .i64)])] (lC Try.prog none c81_121 25 [(0, sP), (3, iP .i64), (4, iP .i64)])) none1)
theorem o81 : CtxOK (C81) b81 := (addL (base_ok eqOK mixOK none b81) sl81_121)
def z81_121 (X0 : Int → Heap → Prop) (v5 : Sl) (v6 : Int) (v7 : Int) (h8 : Heap) : Prop :=
 (branch (decide (v7 < ((v5.len : Nat) : Int)))
 (Go.AM.get v5.a fun a9 =>
 (chk (idx v7 v5.len) <|
 (Go.AM.get (asI .i64 (Heap.rd h8 ⟨a9.block, (a9.off + ((Int.toNat v7) * 1)), none⟩)) fun y10 =>
 (l81_121 X0 v5 (if y10 > v6 then y10 else v6) (IntKind.wrap .i64 (v7 + 1)) h8))))
 (X0 v6 h8))
theorem k81_121 (X0 : Int → Heap → Prop) (v5 : Sl) (v6 : Int) (v7 : Int) (h8 : Heap) : (exec (C81) c81_121 false 243 (Fr.put (Fr.put (Fr.put (Fr0 25) (some 0) (Sl.v v5)) (some 3) (.int .i64 v6)) (some 4) (.int .i64 v7)) h8 (loopE (grabC 25 [(0, sP), (3, iP .i64), (4, iP .i64)] (lC (C81).P (C81).yld c81_121 25 [(0, sP), (3, iP .i64), (4, iP .i64)] (outE noE noE [(0, (grabC 25 [(3, iP .i64)] X0))]))) (outE noE noE [(0, (grabC 25 [(3, iP .i64)] X0))]))) = z81_121 X0 v5 v6 v7 h8 := by kernel_rfl
theorem r81_121 (X0 : Int → Heap → Prop) (v5 : Sl) (v6 : Int) (v7 : Int) (h8 : Heap) (H : z81_121 X0 v5 v6 v7 h8) : l81_121 X0 v5 v6 v7 h8 := loop_stepE (p := 121) (N := 25) (keep := [(0, sP), (3, iP .i64), (4, iP .i64)]) (o81) rfl s81_121 (k81_121 X0 v5 v6 v7 h8) (by kernel_rfl) H
def z81 (p0 : Sl) (h : Heap) (K : Int → Heap → Prop) : Prop :=
 (branch (decide (((p0.len : Nat) : Int) < 1))
 False
 (Go.AM.get p0.a fun a3 =>
 (chk (idx 0 p0.len) <|
 (Go.AM.get (asI .i64 (Heap.rd h ⟨a3.block, a3.off, none⟩)) fun y4 =>
 (l81_121
 (fun z11 h12 =>
 (K z11 h12))
 p0 y4 1 h)))))
theorem k81 (p0 : Sl) (h : Heap) (K : Int → Heap → Prop) : fnK C81 Try.f81.results.toList Try.f81.ntmps b81 [(Sl.v p0)] h (outC [iP .i64] K) = z81 p0 h K := by kernel_rfl
theorem r81 (p0 : Sl) (h : Heap) (K : Int → Heap → Prop) (H : z81 p0 h K) : t81 p0 h K := fn_stepE (C := C81) (fn := Try.f81) (g := 81) o81 rfl rfl (by kernel_rfl) (by kernel_rfl) (by kernel_rfl) (k81 p0 h K) (by kernel_rfl) H

/-! 82: slices.Repeat[[]int64,int64] -/
noncomputable def b82 : Code := Try.f82.body.getD .skip
noncomputable def c82_507 : Code := (subN b82 1015).getD .skip
theorem s82_507 : subN b82 1015 = some c82_507 := by kernel_rfl
theorem sl82_507 : subN b82 507 = some (.loop c82_507) := by kernel_rfl
noncomputable def l82_507 (X0 : Sl → Heap → Prop) : Sl → Int → Heap → Prop := lC Try.prog none c82_507 48 [(7, sP), (8, iP .i64)] (outE noE noE [(0, (grabC 48 [(7, sP)] X0))])
noncomputable def c82_126 : Code := (subN b82 126).getD .skip
theorem s82_126 : subN b82 126 = some c82_126 := by kernel_rfl
noncomputable def q82_126 (XR : Sl → Heap → Prop) : Sl → Int → Heap → Prop := qC Try.prog none c82_126 48 [(7, sP), (8, iP .i64)] (outE noE (grabC 48 [(4, sP)] XR) [])
noncomputable def C82 : Ctx := baseC Try.prog [95, 75] none (cons1 92 w92 (allF Try.prog)) (allI Try.prog) (cons1 126 (gC 48 [(7, sP), (8, iP .i64)] none (some [(4, sP)]) [] (qC Try.prog none c82_126 48 [(7, sP), (8, iP .i64)])) (cons1 507 (gC 48 [(7, sP), (8, iP .i64)] none none [(0, [(7, sP)])] (lC Try.prog none c82_507 48 [(7, sP), (8, iP .i64)])) none1))
theorem o82 : CtxOK (C82) b82 := (addQ (addL (addF (base_ok eqOK mixOK none b82) (wC_ok Try.prog 92 [iP .u64, iP .u64] [iP .u64, iP .u64])) sl82_507) s82_126)
def z82_507 (X0 : Sl → Heap → Prop) (v15 : Sl) (v16 : Int) (h17 : Heap) : Prop :=
 (branch (decide (v16 < ((v15.len : Nat) : Int)))
 (chk (within v16 ((v15.len : Nat) : Int) ((v15.cap : Nat) : Int)) <|
 (chk (within 0 v16 ((v15.cap : Nat) : Int)) <|
 (optK (Sl.cut v15 1 (Int.toNat v16) (Int.toNat ((v15.len : Nat) : Int))).a
 (l82_507 X0 v15 (IntKind.wrap .i64 (v16 + 0)) h17)
 fun a18 =>
 (optK (Sl.cut v15 1 0 (Int.toNat v16)).a
 (l82_507 X0 v15 (IntKind.wrap .i64 (v16 + 0)) h17)
 fun a19 =>
 (Go.AM.get (Heap.rdN h17 ⟨a19.block, a19.off, none⟩ ((Nat.min ((Sl.cut v15 1 0 (Int.toNat v16)).len) ((Sl.cut v15 1 (Int.toNat v16) (Int.toNat ((v15.len : Nat) : Int))).len)) * 1)) fun y20 =>
 Go.AM.get (Heap.wr h17 ⟨a18.block, a18.off, none⟩ y20) fun h21 =>
 (l82_507 X0 v15 (IntKind.wrap .i64 (v16 + (((Nat.min ((Sl.cut v15 1 0 (Int.toNat v16)).len) ((Sl.cut v15 1 (Int.toNat v16) (Int.toNat ((v15.len : Nat) : Int))).len)) : Nat) : Int))) h21))))))
 (X0 v15 h17))
theorem k82_507 (X0 : Sl → Heap → Prop) (v15 : Sl) (v16 : Int) (h17 : Heap) : (exec (C82) c82_507 false 1015 (Fr.put (Fr.put (Fr0 48) (some 7) (Sl.v v15)) (some 8) (.int .i64 v16)) h17 (loopE (grabC 48 [(7, sP), (8, iP .i64)] (lC (C82).P (C82).yld c82_507 48 [(7, sP), (8, iP .i64)] (outE noE noE [(0, (grabC 48 [(7, sP)] X0))]))) (outE noE noE [(0, (grabC 48 [(7, sP)] X0))]))) = z82_507 X0 v15 v16 h17 := by kernel_rfl
theorem r82_507 (X0 : Sl → Heap → Prop) (v15 : Sl) (v16 : Int) (h17 : Heap) (H : z82_507 X0 v15 v16 h17) : l82_507 X0 v15 v16 h17 := loop_stepE (p := 507) (N := 48) (keep := [(7, sP), (8, iP .i64)]) (o82) rfl s82_507 (k82_507 X0 v15 v16 h17) (by kernel_rfl) H
def z82_126 (XR : Sl → Heap → Prop) (v12 : Sl) (v13 : Int) (h14 : Heap) : Prop :=
 (l82_507
 (fun z22 h23 =>
 (XR z22 h23))
 v12 v13 h14)
theorem k82_126 (XR : Sl → Heap → Prop) (v12 : Sl) (v13 : Int) (h14 : Heap) : (exec (C82) c82_126 true 126 (Fr.put (Fr.put (Fr0 48) (some 7) (Sl.v v12)) (some 8) (.int .i64 v13)) h14 (outE noE (grabC 48 [(4, sP)] XR) [])) = z82_126 XR v12 v13 h14 := by kernel_rfl
theorem r82_126 (XR : Sl → Heap → Prop) (v12 : Sl) (v13 : Int) (h14 : Heap) (H : z82_126 XR v12 v13 h14) : q82_126 XR v12 v13 h14 := piece_stepE (p := 126) (o82) rfl s82_126 (k82_126 XR v12 v13 h14) (by kernel_rfl) H
def z82 (p0 : Sl) (p1 : Int) (h : Heap) (K : Sl → Heap → Prop) : Prop :=
 (branch (decide (p1 < 0))
 False
 (t92 (IntKind.wrap .u64 ((p0.len : Nat) : Int)) (IntKind.wrap .u64 p1) h fun r4 r5 h6 =>
 (branch (decide (r4 > 0))
 False
 (branch (decide (r5 > 9223372036854775807))
 False
 (chk (within 0 (IntKind.wrap .i64 r5) (IntKind.wrap .i64 r5) && (decide ((IntKind.wrap .i64 r5) ≤ 1000000000000) && (small (Int.toNat (IntKind.wrap .i64 r5)) 8 && true))) <|
 (withH (Heap.new h6 (.cells (rep [(.int .i64 0)] (Int.toNat (IntKind.wrap .i64 r5))) false)) fun h8 =>
 (optK p0.a
 (q82_126
 (fun z25 h26 =>
 (K z25 h26))
 (Sl.mk (some ⟨h6.next, 0, (some 0)⟩) (Int.toNat (IntKind.wrap .i64 r5)) (Int.toNat (IntKind.wrap .i64 r5))) 0 h8)
 fun a24 =>
 (Go.AM.get (Heap.rdN h8 ⟨a24.block, a24.off, none⟩ ((Nat.min p0.len (Int.toNat (IntKind.wrap .i64 r5))) * 1)) fun y27 =>
 Go.AM.get (Heap.wr h8 ⟨h6.next, 0, none⟩ y27) fun h28 =>
 (q82_126
 (fun z29 h30 =>
 (K z29 h30))
 (Sl.mk (some ⟨h6.next, 0, (some 0)⟩) (Int.toNat (IntKind.wrap .i64 r5)) (Int.toNat (IntKind.wrap .i64 r5))) (((Nat.min p0.len (Int.toNat (IntKind.wrap .i64 r5))) : Nat) : Int) h28)))))))))
theorem k82 (p0 : Sl) (p1 : Int) (h : Heap) (K : Sl → Heap → Prop) : fnK C82 Try.f82.results.toList Try.f82.ntmps b82 [(Sl.v p0), (.int .i64 p1)] h (outC [sP] K) = z82 p0 p1 h K := by kernel_rfl
theorem r82 (p0 : Sl) (p1 : Int) (h : Heap) (K : Sl → Heap → Prop) (H : z82 p0 p1 h K) : t82 p0 p1 h K := fn_stepE (C := C82) (fn := Try.f82) (g := 82) o82 rfl rfl (by kernel_rfl) (by kernel_rfl) (by kernel_rfl) (k82 p0 p1 h K) (by kernel_rfl) H

/-! 83: slices.IndexFunc[[]int64,int64] -/
noncomputable def b83 : Code := Try.f83.body.getD .skip
noncomputable def c83_25 : Code := (subN b83 51).getD .skip
theorem s83_25 : subN b83 51 = some c83_25 := by kernel_rfl
theorem sl83_25 : subN b83 25 = some (.loop c83_25) := by kernel_rfl
noncomputable def l83_25 (XR : Int → Heap → Prop) (X0 : Heap → Prop) : Sl → Value → Int → Int → Heap → Prop := lC Try.prog none c83_25 19 [(0, sP), (1, vP), (7, iP .i64), (8, iP .i64)] (outE noE (grabC 19 [(4, iP .i64)] XR) [(0, (grabC 19 [] X0))])
noncomputable def C83 : Ctx := baseC Try.prog [95, 75] none (allF Try.prog) (allI Try.prog) (cons1 25 (gC 19 [(0, sP), (1, vP), (7, iP .i64), (8, iP .i64)] none (some [(4, iP .i64)]) [(0, [])] (lC Try.prog none c83_25 19 [(0, sP), (1, vP), (7, iP .i64), (8, iP .i64)])) none1)
theorem o83 : CtxOK (C83) b83 := (addL (base_ok eqOK mixOK none b83) sl83_25)
def z83_25 (XR : Int → Heap → Prop) (X0 : Heap → Prop) (v1 : Sl) (v2 : Value) (v3 : Int) (v4 : Int) (h5 : Heap) : Prop :=
 (branch (decide (v4 < v3))
 (Go.AM.get v1.a fun a6 =>
 (chk (idx v4 v1.len) <|
 (Go.AM.get (asI .i64 (Heap.rd h5 ⟨a6.block, (a6.off + ((Int.toNat v4) * 1)), none⟩)) fun y7 =>
 (callV (C83) v2 [(.int .i64 y7)] h5 (retK fun r8 h9 =>
 (boolK r8 fun b11 => (branch b11
 (XR v4 h9)
 (l83_25 XR X0 v1 v2 v3 (IntKind.wrap .i64 (v4 + 1)) h9))))))))
 (X0 h5))
theorem k83_25 (XR : Int → Heap → Prop) (X0 : Heap → Prop) (v1 : Sl) (v2 : Value) (v3 : Int) (v4 : Int) (h5 : Heap) : (exec (C83) c83_25 false 51 (Fr.put (Fr.put (Fr.put (Fr.put (Fr0 19) (some 0) (Sl.v v1)) (some 1) v2) (some 7) (.int .i64 v3)) (some 8) (.int .i64 v4)) h5 (loopE (grabC 19 [(0, sP), (1, vP), (7, iP .i64), (8, iP .i64)] (lC (C83).P (C83).yld c83_25 19 [(0, sP), (1, vP), (7, iP .i64), (8, iP .i64)] (outE noE (grabC 19 [(4, iP .i64)] XR) [(0, (grabC 19 [] X0))]))) (outE noE (grabC 19 [(4, iP .i64)] XR) [(0, (grabC 19 [] X0))]))) = z83_25 XR X0 v1 v2 v3 v4 h5 := by kernel_rfl
theorem r83_25 (XR : Int → Heap → Prop) (X0 : Heap → Prop) (v1 : Sl) (v2 : Value) (v3 : Int) (v4 : Int) (h5 : Heap) (H : z83_25 XR X0 v1 v2 v3 v4 h5) : l83_25 XR X0 v1 v2 v3 v4 h5 := loop_stepE (p := 25) (N := 19) (keep := [(0, sP), (1, vP), (7, iP .i64), (8, iP .i64)]) (o83) rfl s83_25 (k83_25 XR X0 v1 v2 v3 v4 h5) (by kernel_rfl) H
def z83 (p0 : Sl) (p1 : Value) (h : Heap) (K : Int → Heap → Prop) : Prop :=
 (l83_25
 (fun z12 h13 =>
 (K z12 h13))
 (fun h14 =>
 (K (-1) h14))
 p0 p1 ((p0.len : Nat) : Int) 0 h)
theorem k83 (p0 : Sl) (p1 : Value) (h : Heap) (K : Int → Heap → Prop) : fnK C83 Try.f83.results.toList Try.f83.ntmps b83 [(Sl.v p0), p1] h (outC [iP .i64] K) = z83 p0 p1 h K := by kernel_rfl
theorem r83 (p0 : Sl) (p1 : Value) (h : Heap) (K : Int → Heap → Prop) (H : z83 p0 p1 h K) : t83 p0 p1 h K := fn_stepE (C := C83) (fn := Try.f83) (g := 83) o83 rfl rfl (by kernel_rfl) (by kernel_rfl) (by kernel_rfl) (k83 p0 p1 h K) (by kernel_rfl) H

/-! 84: minikin/flow.Check -/
noncomputable def b84 : Code := Try.f84.body.getD .skip
noncomputable def C84 : Ctx := baseC Try.prog [95, 75] none (cons1 93 w93 (allF Try.prog)) (allI Try.prog) none1
theorem o84 : CtxOK (C84) b84 := (addF (base_ok eqOK mixOK none b84) (wC_ok Try.prog 93 [sP, vP] [bP]))
def z84 (p0 : (Int × Sl × Unit)) (h : Heap) (K : Int → Heap → Prop) : Prop :=
 (withH (Heap.new h (.cells [(.int .i64 p0.1), (Sl.v p0.2.1)] false)) fun h2 =>
 (Go.AM.get (asI .i64 (Heap.rd h2 ⟨h.next, 0, none⟩)) fun y3 =>
 (branch (decide (y3 < 2))
 (K 30 h2)
 (Go.AM.get (asI .i64 (Heap.rd h2 ⟨h.next, 0, none⟩)) fun y4 =>
 (branch (decide (y4 > 24))
 (K 30 h2)
 (Go.AM.get (asS (Heap.rd h2 ⟨h.next, 1, none⟩)) fun y5 =>
 (branch (decide (((y5.len : Nat) : Int) > 200))
 (K 30 h2)
 (Go.AM.get (asS (Heap.rd h2 ⟨h.next, 1, none⟩)) fun y6 =>
 (t93 y6 (.func (.func 94) #[] ⟨[(.pointer (some ⟨h.next, 0, none⟩))]⟩) h2 fun r7 h8 =>
 (branch r7
 (K 30 h8)
 (K 0 h8)))))))))))
theorem k84 (p0 : (Int × Sl × Unit)) (h : Heap) (K : Int → Heap → Prop) : fnK C84 Try.f84.results.toList Try.f84.ntmps b84 [(.agg ⟨[(.int .i64 p0.1), (Sl.v p0.2.1)]⟩)] h (outC [iP .i64] K) = z84 p0 h K := by kernel_rfl
theorem r84 (p0 : (Int × Sl × Unit)) (h : Heap) (K : Int → Heap → Prop) (H : z84 p0 h K) : t84 p0 h K := fn_stepE (C := C84) (fn := Try.f84) (g := 84) o84 rfl rfl (by kernel_rfl) (by kernel_rfl) (by kernel_rfl) (k84 p0 h K) (by kernel_rfl) H

/-! 85: minikin/flow.areEnds -/
noncomputable def b85 : Code := Try.f85.body.getD .skip
noncomputable def C85 : Ctx := baseC Try.prog [95, 75] none (allF Try.prog) (allI Try.prog) none1
theorem o85 : CtxOK (C85) b85 := (base_ok eqOK mixOK none b85)
def z85 (p0 : Int) (p1 : Int) (p2 : Int) (h : Heap) (K : Bool → Heap → Prop) : Prop :=
 (branch (decide ((if p2 < p1 then p2 else p1) ≥ 0))
 (branch (decide ((if p2 > p1 then p2 else p1) < p0))
 (K (p1 != p2) h)
 (K false h))
 (K false h))
theorem k85 (p0 : Int) (p1 : Int) (p2 : Int) (h : Heap) (K : Bool → Heap → Prop) : fnK C85 Try.f85.results.toList Try.f85.ntmps b85 [(.int .i64 p0), (.int .i64 p1), (.int .i64 p2)] h (outC [bP] K) = z85 p0 p1 p2 h K := by kernel_rfl
theorem r85 (p0 : Int) (p1 : Int) (p2 : Int) (h : Heap) (K : Bool → Heap → Prop) (H : z85 p0 p1 p2 h K) : t85 p0 p1 p2 h K := fn_stepE (C := C85) (fn := Try.f85) (g := 85) o85 rfl rfl (by kernel_rfl) (by kernel_rfl) (by kernel_rfl) (k85 p0 p1 p2 h K) (by kernel_rfl) H

end Go.Proofs.Ytalmoilcehhjkaa
