/- PRINTED BY A PROGRAM OF OURS: what the functions do, step by step, and that the model says so. -/
import Derived.Test.YtalmoilcehhjkaaHeads
set_option linter.unusedVariables false
set_option linter.unusedSimpArgs false
namespace Go.Proofs.Ytalmoilcehhjkaa
open Go hiding Expr
open Go.AM hiding get
/-! 22: minikin/pair.Chains -/
noncomputable def b22 : Code := Try.f22.body.getD .skip
noncomputable def c22_1037113 : Code := (subN b22 2074227).getD .skip
theorem s22_1037113 : subN b22 2074227 = some c22_1037113 := by kernel_rfl
theorem sl22_1037113 : subN b22 1037113 = some (.loop c22_1037113) := by kernel_rfl
noncomputable def l22_1037113 (X2 : Option Addr → Option Addr → Sl → Sl → Int → Int → Heap → Prop) : Option Addr → Option Addr → Sl → Sl → Int → Int → Int → Heap → Prop := lC Try.prog none c22_1037113 52 [(8, pP), (9, pP), (10, sP), (12, sP), (13, iP .i64), (28, iP .i64), (29, iP .i64)] (outE noE noE [(2, (grabC 52 [(8, pP), (9, pP), (10, sP), (12, sP), (28, iP .i64), (29, iP .i64)] X2))])
noncomputable def c22_505 : Code := (subN b22 1011).getD .skip
theorem s22_505 : subN b22 1011 = some c22_505 := by kernel_rfl
theorem sl22_505 : subN b22 505 = some (.loop c22_505) := by kernel_rfl
noncomputable def l22_505 (X0 : Sl → Heap → Prop) : Option Addr → Option Addr → Sl → Int → Int → Heap → Prop := lC Try.prog none c22_505 52 [(8, pP), (9, pP), (10, sP), (28, iP .i64), (29, iP .i64)] (outE noE noE [(0, (grabC 52 [(10, sP)] X0))])
noncomputable def C22 : Ctx := baseC Try.prog [95, 75] none (cons1 56 w56 (cons1 55 w55 (allF Try.prog))) (allI Try.prog) (cons1 505 (gC 52 [(8, pP), (9, pP), (10, sP), (28, iP .i64), (29, iP .i64)] none none [(0, [(10, sP)])] (lC Try.prog none c22_505 52 [(8, pP), (9, pP), (10, sP), (28, iP .i64), (29, iP .i64)])) (cons1 1037113 (gC 52 [(8, pP), (9, pP), (10, sP), (12, sP), (13, iP .i64), (28, iP .i64), (29, iP .i64)] none none [(2, [(8, pP), (9, pP), (10, sP), (12, sP), (28, iP .i64), (29, iP .i64)])] (lC Try.prog none c22_1037113 52 [(8, pP), (9, pP), (10, sP), (12, sP), (13, iP .i64), (28, iP .i64), (29, iP .i64)])) none1))
theorem o22 : CtxOK (C22) b22 := (addL (addL (addF (addF (base_ok eqOK mixOK none b22) (wC_ok Try.prog 55 [iP .i64, sP] [pP, iP .i64])) (wC_ok Try.prog 56 [pP] [lP, lP])) sl22_1037113) sl22_505)
def z22_1037113 (X2 : Option Addr → Option Addr → Sl → Sl → Int → Int → Heap → Prop) (v31 : Option Addr) (v32 : Option Addr) (v33 : Sl) (v34 : Sl) (v35 : Int) (v36 : Int) (v37 : Int) (h38 : Heap) : Prop :=
 (branch (decide (v35 ≥ 0))
 (withH (Heap.new h38 (.cells [(.int .i64 v35)] false)) fun h39 =>
 (Go.AM.get (Heap.rdN h39 ⟨h38.next, 0, none⟩ 1) fun y40 =>
 (Go.AM.get (Heap.app h39 1 8 v34 1 y40) fun r41 =>
 (Go.AM.get v31 fun a42 =>
 (chk (idx v35 40) <|
 (Go.AM.get (asI .i64 (Heap.rd r41.2 ⟨a42.block, (a42.off + ((Int.toNat v35) * 1)), none⟩)) fun y43 =>
 (l22_1037113 X2 v31 v32 v33 r41.1 y43 v36 v37 r41.2)))))))
 (X2 v31 v32 v33 v34 v36 v37 h38))
theorem k22_1037113 (X2 : Option Addr → Option Addr → Sl → Sl → Int → Int → Heap → Prop) (v31 : Option Addr) (v32 : Option Addr) (v33 : Sl) (v34 : Sl) (v35 : Int) (v36 : Int) (v37 : Int) (h38 : Heap) : (exec (C22) c22_1037113 false 2074227 (Fr.put (Fr.put (Fr.put (Fr.put (Fr.put (Fr.put (Fr.put (Fr0 52) (some 8) (.pointer v31)) (some 9) (.pointer v32)) (some 10) (Sl.v v33)) (some 12) (Sl.v v34)) (some 13) (.int .i64 v35)) (some 28) (.int .i64 v36)) (some 29) (.int .i64 v37)) h38 (loopE (grabC 52 [(8, pP), (9, pP), (10, sP), (12, sP), (13, iP .i64), (28, iP .i64), (29, iP .i64)] (lC (C22).P (C22).yld c22_1037113 52 [(8, pP), (9, pP), (10, sP), (12, sP), (13, iP .i64), (28, iP .i64), (29, iP .i64)] (outE noE noE [(2, (grabC 52 [(8, pP), (9, pP), (10, sP), (12, sP), (28, iP .i64), (29, iP .i64)] X2))]))) (outE noE noE [(2, (grabC 52 [(8, pP), (9, pP), (10, sP), (12, sP), (28, iP .i64), (29, iP .i64)] X2))]))) = z22_1037113 X2 v31 v32 v33 v34 v35 v36 v37 h38 := by kernel_rfl
theorem r22_1037113 (X2 : Option Addr → Option Addr → Sl → Sl → Int → Int → Heap → Prop) (v31 : Option Addr) (v32 : Option Addr) (v33 : Sl) (v34 : Sl) (v35 : Int) (v36 : Int) (v37 : Int) (h38 : Heap) (H : z22_1037113 X2 v31 v32 v33 v34 v35 v36 v37 h38) : l22_1037113 X2 v31 v32 v33 v34 v35 v36 v37 h38 := loop_stepE (p := 1037113) (N := 52) (keep := [(8, pP), (9, pP), (10, sP), (12, sP), (13, iP .i64), (28, iP .i64), (29, iP .i64)]) (o22) rfl s22_1037113 (k22_1037113 X2 v31 v32 v33 v34 v35 v36 v37 h38) (by kernel_rfl) H
def z22_505 (X0 : Sl → Heap → Prop) (v21 : Option Addr) (v22 : Option Addr) (v23 : Sl) (v24 : Int) (v25 : Int) (h26 : Heap) : Prop :=
 (branch (decide (v25 < v24))
 (Go.AM.get v22 fun a29 =>
 (chk (idx v25 40) <|
 (Go.AM.get (asI .i64 (Heap.rd h26 ⟨a29.block, (a29.off + ((Int.toNat v25) * 1)), none⟩)) fun y30 =>
 (branch (decide (y30 ≥ 0))
 (l22_505 X0 v21 v22 v23 v24 (IntKind.wrap .i64 (v25 + 1)) h26)
 (l22_1037113
 (fun z44 z45 z46 z47 z48 z49 h50 =>
 (withH (Heap.new h50 (.cells [(Sl.v z47)] false)) fun h51 =>
 (Go.AM.get (Heap.rdN h51 ⟨h50.next, 0, none⟩ 1) fun y52 =>
 (Go.AM.get (Heap.app h51 1 24 z46 1 y52) fun r53 =>
 (l22_505 X0 z44 z45 r53.1 z48 (IntKind.wrap .i64 (z49 + 1)) r53.2)))))
 v21 v22 v23 (Sl.mk none 0 0) v25 v24 v25 h26)))))
 (X0 v23 h26))
theorem k22_505 (X0 : Sl → Heap → Prop) (v21 : Option Addr) (v22 : Option Addr) (v23 : Sl) (v24 : Int) (v25 : Int) (h26 : Heap) : (exec (C22) c22_505 false 1011 (Fr.put (Fr.put (Fr.put (Fr.put (Fr.put (Fr0 52) (some 8) (.pointer v21)) (some 9) (.pointer v22)) (some 10) (Sl.v v23)) (some 28) (.int .i64 v24)) (some 29) (.int .i64 v25)) h26 (loopE (grabC 52 [(8, pP), (9, pP), (10, sP), (28, iP .i64), (29, iP .i64)] (lC (C22).P (C22).yld c22_505 52 [(8, pP), (9, pP), (10, sP), (28, iP .i64), (29, iP .i64)] (outE noE noE [(0, (grabC 52 [(10, sP)] X0))]))) (outE noE noE [(0, (grabC 52 [(10, sP)] X0))]))) = z22_505 X0 v21 v22 v23 v24 v25 h26 := by kernel_rfl
theorem r22_505 (X0 : Sl → Heap → Prop) (v21 : Option Addr) (v22 : Option Addr) (v23 : Sl) (v24 : Int) (v25 : Int) (h26 : Heap) (H : z22_505 X0 v21 v22 v23 v24 v25 h26) : l22_505 X0 v21 v22 v23 v24 v25 h26 := loop_stepE (p := 505) (N := 52) (keep := [(8, pP), (9, pP), (10, sP), (28, iP .i64), (29, iP .i64)]) (o22) rfl s22_505 (k22_505 X0 v21 v22 v23 v24 v25 h26) (by kernel_rfl) H
def z22 (p0 : Int) (p1 : Sl) (h : Heap) (K : Sl → Int → Heap → Prop) : Prop :=
 (t55 p0 p1 h fun r4 r5 h6 =>
 (branch (r5 != 0)
 (K (Sl.mk none 0 0) r5 h6)
 (t56 r4 h6 fun r14 r15 h16 =>
 (withH (Heap.new h16 (.cells (List.replicate 40 (.int .i64 0)) false)) fun h17 =>
 (withH (Heap.new h17 (.cells (List.replicate 40 (.int .i64 0)) false)) fun h18 =>
 (chk (Nat.beq (List.length r14) 40 && List.all r14 Value.oneCell') <|
 (Go.AM.get (Heap.wr h18 ⟨h16.next, 0, none⟩ r14) fun h19 =>
 (chk (Nat.beq (List.length r15) 40 && List.all r15 Value.oneCell') <|
 (Go.AM.get (Heap.wr h19 ⟨h17.next, 0, none⟩ r15) fun h20 =>
 (l22_505
 (fun z54 h55 =>
 (K z54 0 h55))
 (some ⟨h16.next, 0, none⟩) (some ⟨h17.next, 0, none⟩) (Sl.mk none 0 0) p0 0 h20))))))))))
theorem k22 (p0 : Int) (p1 : Sl) (h : Heap) (K : Sl → Int → Heap → Prop) : fnK C22 Try.f22.results.toList Try.f22.ntmps b22 [(.int .i64 p0), (Sl.v p1)] h (outC [sP, iP .i64] K) = z22 p0 p1 h K := by kernel_rfl
theorem r22 (p0 : Int) (p1 : Sl) (h : Heap) (K : Sl → Int → Heap → Prop) (H : z22 p0 p1 h K) : t22 p0 p1 h K := fn_stepE (C := C22) (fn := Try.f22) (g := 22) o22 rfl rfl (by kernel_rfl) (by kernel_rfl) (by kernel_rfl) (k22 p0 p1 h K) (by kernel_rfl) H

/-! 23: minikin/pair.Antichain -/
noncomputable def b23 : Code := Try.f23.body.getD .skip
noncomputable def c23_2041 : Code := (subN b23 4083).getD .skip
theorem s23_2041 : subN b23 4083 = some c23_2041 := by kernel_rfl
theorem sl23_2041 : subN b23 2041 = some (.loop c23_2041) := by kernel_rfl
noncomputable def l23_2041 (X0 : Option Addr → Option Addr → Option Addr → Heap → Prop) : Option Addr → Option Addr → Option Addr → Option Addr → Option Addr → Int → Int → Heap → Prop := lC Try.prog none c23_2041 68 [(2, pP), (8, pP), (10, pP), (11, pP), (12, pP), (31, iP .i64), (32, iP .i64)] (outE noE noE [(0, (grabC 68 [(2, pP), (10, pP), (11, pP)] X0))])
noncomputable def c23_8185 : Code := (subN b23 16371).getD .skip
theorem s23_8185 : subN b23 16371 = some c23_8185 := by kernel_rfl
theorem sl23_8185 : subN b23 8185 = some (.loop c23_8185) := by kernel_rfl
noncomputable def l23_8185 (X2 : Sl → Heap → Prop) : Option Addr → Option Addr → Sl → Int → Int → Heap → Prop := lC Try.prog none c23_8185 68 [(10, pP), (11, pP), (14, sP), (49, iP .i64), (50, iP .i64)] (outE noE noE [(2, (grabC 68 [(14, sP)] X2))])
noncomputable def c23_126 : Code := (subN b23 126).getD .skip
theorem s23_126 : subN b23 126 = some c23_126 := by kernel_rfl
noncomputable def q23_126 (XR : Sl → Int → Heap → Prop) : Option Addr → Option Addr → Option Addr → Option Addr → Option Addr → Option Addr → Option Addr → Heap → Prop := qC Try.prog none c23_126 68 [(2, pP), (6, pP), (8, pP), (9, pP), (10, pP), (11, pP), (12, pP)] (outE noE (grabC 68 [(4, sP), (5, iP .i64)] XR) [])
noncomputable def C23 : Ctx := baseC Try.prog [95, 75] none (cons1 56 w56 (cons1 55 w55 (allF Try.prog))) (allI Try.prog) (cons1 126 (gC 68 [(2, pP), (6, pP), (8, pP), (9, pP), (10, pP), (11, pP), (12, pP)] none (some [(4, sP), (5, iP .i64)]) [] (qC Try.prog none c23_126 68 [(2, pP), (6, pP), (8, pP), (9, pP), (10, pP), (11, pP), (12, pP)])) (cons1 8185 (gC 68 [(10, pP), (11, pP), (14, sP), (49, iP .i64), (50, iP .i64)] none none [(2, [(14, sP)])] (lC Try.prog none c23_8185 68 [(10, pP), (11, pP), (14, sP), (49, iP .i64), (50, iP .i64)])) (cons1 2041 (gC 68 [(2, pP), (8, pP), (10, pP), (11, pP), (12, pP), (31, iP .i64), (32, iP .i64)] none none [(0, [(2, pP), (10, pP), (11, pP)])] (lC Try.prog none c23_2041 68 [(2, pP), (8, pP), (10, pP), (11, pP), (12, pP), (31, iP .i64), (32, iP .i64)])) none1)))
theorem o23 : CtxOK (C23) b23 := (addQ (addL (addL (addF (addF (base_ok eqOK mixOK none b23) (wC_ok Try.prog 55 [iP .i64, sP] [pP, iP .i64])) (wC_ok Try.prog 56 [pP] [lP, lP])) sl23_2041) sl23_8185) s23_126)
def z23_2041 (X0 : Option Addr → Option Addr → Option Addr → Heap → Prop) (v52 : Option Addr) (v53 : Option Addr) (v54 : Option Addr) (v55 : Option Addr) (v56 : Option Addr) (v57 : Int) (v58 : Int) (h59 : Heap) : Prop :=
 (branch (decide (v58 < v57))
 (Go.AM.get v53 fun a60 =>
 (chk (idx v58 40) <|
 (Go.AM.get (asI .i64 (Heap.rd h59 ⟨a60.block, (a60.off + ((Int.toNat v58) * 1)), none⟩)) fun y61 =>
 (branch (decide (y61 < 0))
 (Go.AM.get v54 fun a62 =>
 (chk (idx v58 40) <|
 (Go.AM.get (asB (Heap.rd h59 ⟨a62.block, (a62.off + ((Int.toNat v58) * 1)), none⟩)) fun y63 =>
 (branch (!y63)
 (Go.AM.get v56 fun a64 =>
 (Go.AM.get (Heap.rd h59 a64) fun y65 =>
 (callV (C23) y65 [(.int .i64 v58)] h59 (retK fun r66 h67 =>
 (l23_2041 X0 v52 v53 v54 v55 v56 v57 (IntKind.wrap .i64 (v58 + 1)) h67)))))
 (l23_2041 X0 v52 v53 v54 v55 v56 v57 (IntKind.wrap .i64 (v58 + 1)) h59)))))
 (l23_2041 X0 v52 v53 v54 v55 v56 v57 (IntKind.wrap .i64 (v58 + 1)) h59)))))
 (X0 v52 v54 v55 h59))
theorem k23_2041 (X0 : Option Addr → Option Addr → Option Addr → Heap → Prop) (v52 : Option Addr) (v53 : Option Addr) (v54 : Option Addr) (v55 : Option Addr) (v56 : Option Addr) (v57 : Int) (v58 : Int) (h59 : Heap) : (exec (C23) c23_2041 false 4083 (Fr.put (Fr.put (Fr.put (Fr.put (Fr.put (Fr.put (Fr.put (Fr0 68) (some 2) (.pointer v52)) (some 8) (.pointer v53)) (some 10) (.pointer v54)) (some 11) (.pointer v55)) (some 12) (.pointer v56)) (some 31) (.int .i64 v57)) (some 32) (.int .i64 v58)) h59 (loopE (grabC 68 [(2, pP), (8, pP), (10, pP), (11, pP), (12, pP), (31, iP .i64), (32, iP .i64)] (lC (C23).P (C23).yld c23_2041 68 [(2, pP), (8, pP), (10, pP), (11, pP), (12, pP), (31, iP .i64), (32, iP .i64)] (outE noE noE [(0, (grabC 68 [(2, pP), (10, pP), (11, pP)] X0))]))) (outE noE noE [(0, (grabC 68 [(2, pP), (10, pP), (11, pP)] X0))]))) = z23_2041 X0 v52 v53 v54 v55 v56 v57 v58 h59 := by kernel_rfl
theorem r23_2041 (X0 : Option Addr → Option Addr → Option Addr → Heap → Prop) (v52 : Option Addr) (v53 : Option Addr) (v54 : Option Addr) (v55 : Option Addr) (v56 : Option Addr) (v57 : Int) (v58 : Int) (h59 : Heap) (H : z23_2041 X0 v52 v53 v54 v55 v56 v57 v58 h59) : l23_2041 X0 v52 v53 v54 v55 v56 v57 v58 h59 := loop_stepE (p := 2041) (N := 68) (keep := [(2, pP), (8, pP), (10, pP), (11, pP), (12, pP), (31, iP .i64), (32, iP .i64)]) (o23) rfl s23_2041 (k23_2041 X0 v52 v53 v54 v55 v56 v57 v58 h59) (by kernel_rfl) H
def z23_8185 (X2 : Sl → Heap → Prop) (v83 : Option Addr) (v84 : Option Addr) (v85 : Sl) (v86 : Int) (v87 : Int) (h88 : Heap) : Prop :=
 (branch (decide (v87 < v86))
 (Go.AM.get v83 fun a93 =>
 (chk (idx v87 40) <|
 (Go.AM.get (asB (Heap.rd h88 ⟨a93.block, (a93.off + ((Int.toNat v87) * 1)), none⟩)) fun y94 =>
 (branch y94
 (Go.AM.get v84 fun a95 =>
 (chk (idx v87 40) <|
 (Go.AM.get (asB (Heap.rd h88 ⟨a95.block, (a95.off + ((Int.toNat v87) * 1)), none⟩)) fun y96 =>
 (branch (!y96)
 (withH (Heap.new h88 (.cells [(.int .i64 v87)] false)) fun h97 =>
 (Go.AM.get (Heap.rdN h97 ⟨h88.next, 0, none⟩ 1) fun y98 =>
 (Go.AM.get (Heap.app h97 1 8 v85 1 y98) fun r99 =>
 (l23_8185 X2 v83 v84 r99.1 v86 (IntKind.wrap .i64 (v87 + 1)) r99.2))))
 (l23_8185 X2 v83 v84 v85 v86 (IntKind.wrap .i64 (v87 + 1)) h88)))))
 (l23_8185 X2 v83 v84 v85 v86 (IntKind.wrap .i64 (v87 + 1)) h88)))))
 (X2 v85 h88))
theorem k23_8185 (X2 : Sl → Heap → Prop) (v83 : Option Addr) (v84 : Option Addr) (v85 : Sl) (v86 : Int) (v87 : Int) (h88 : Heap) : (exec (C23) c23_8185 false 16371 (Fr.put (Fr.put (Fr.put (Fr.put (Fr.put (Fr0 68) (some 10) (.pointer v83)) (some 11) (.pointer v84)) (some 14) (Sl.v v85)) (some 49) (.int .i64 v86)) (some 50) (.int .i64 v87)) h88 (loopE (grabC 68 [(10, pP), (11, pP), (14, sP), (49, iP .i64), (50, iP .i64)] (lC (C23).P (C23).yld c23_8185 68 [(10, pP), (11, pP), (14, sP), (49, iP .i64), (50, iP .i64)] (outE noE noE [(2, (grabC 68 [(14, sP)] X2))]))) (outE noE noE [(2, (grabC 68 [(14, sP)] X2))]))) = z23_8185 X2 v83 v84 v85 v86 v87 h88 := by kernel_rfl
theorem r23_8185 (X2 : Sl → Heap → Prop) (v83 : Option Addr) (v84 : Option Addr) (v85 : Sl) (v86 : Int) (v87 : Int) (h88 : Heap) (H : z23_8185 X2 v83 v84 v85 v86 v87 h88) : l23_8185 X2 v83 v84 v85 v86 v87 h88 := loop_stepE (p := 8185) (N := 68) (keep := [(10, pP), (11, pP), (14, sP), (49, iP .i64), (50, iP .i64)]) (o23) rfl s23_8185 (k23_8185 X2 v83 v84 v85 v86 v87 h88) (by kernel_rfl) H
def z23_126 (XR : Sl → Int → Heap → Prop) (v36 : Option Addr) (v37 : Option Addr) (v38 : Option Addr) (v39 : Option Addr) (v40 : Option Addr) (v41 : Option Addr) (v42 : Option Addr) (h43 : Heap) : Prop :=
 (Go.AM.get v42 fun a46 =>
 (Go.AM.get (Heap.wr h43 a46 [(.func (.func 57) #[] ⟨[(.pointer v40), (.pointer v36), (.pointer v37), (.pointer v41), (.pointer v39), (.pointer v42)]⟩)]) fun h47 =>
 (Go.AM.get v36 fun a73 =>
 (Go.AM.get (asI .i64 (Heap.rd h47 a73)) fun y74 =>
 (l23_2041
 (fun z75 z76 z77 h78 =>
 (Go.AM.get z75 fun a81 =>
 (Go.AM.get (asI .i64 (Heap.rd h78 a81)) fun y82 =>
 (l23_8185
 (fun z100 h101 =>
 (XR z100 0 h101))
 z76 z77 (Sl.mk none 0 0) y82 0 h78))))
 v36 v38 v40 v41 v42 y74 0 h47)))))
theorem k23_126 (XR : Sl → Int → Heap → Prop) (v36 : Option Addr) (v37 : Option Addr) (v38 : Option Addr) (v39 : Option Addr) (v40 : Option Addr) (v41 : Option Addr) (v42 : Option Addr) (h43 : Heap) : (exec (C23) c23_126 true 126 (Fr.put (Fr.put (Fr.put (Fr.put (Fr.put (Fr.put (Fr.put (Fr0 68) (some 2) (.pointer v36)) (some 6) (.pointer v37)) (some 8) (.pointer v38)) (some 9) (.pointer v39)) (some 10) (.pointer v40)) (some 11) (.pointer v41)) (some 12) (.pointer v42)) h43 (outE noE (grabC 68 [(4, sP), (5, iP .i64)] XR) [])) = z23_126 XR v36 v37 v38 v39 v40 v41 v42 h43 := by kernel_rfl
theorem r23_126 (XR : Sl → Int → Heap → Prop) (v36 : Option Addr) (v37 : Option Addr) (v38 : Option Addr) (v39 : Option Addr) (v40 : Option Addr) (v41 : Option Addr) (v42 : Option Addr) (h43 : Heap) (H : z23_126 XR v36 v37 v38 v39 v40 v41 v42 h43) : q23_126 XR v36 v37 v38 v39 v40 v41 v42 h43 := piece_stepE (p := 126) (o23) rfl s23_126 (k23_126 XR v36 v37 v38 v39 v40 v41 v42 h43) (by kernel_rfl) H
def z23 (p0 : Int) (p1 : Sl) (h : Heap) (K : Sl → Int → Heap → Prop) : Prop :=
 (withH (Heap.new h (.cells [(.int .i64 p0)] false)) fun h2 =>
 (Go.AM.get (asI .i64 (Heap.rd h2 ⟨h.next, 0, none⟩)) fun y9 =>
 (t55 y9 p1 h2 fun r10 r11 h12 =>
 (withH (Heap.new h12 (.cells [(.pointer none)] false)) fun h13 =>
 (Go.AM.get (Heap.wr h13 ⟨h12.next, 0, none⟩ [(.pointer r10)]) fun h14 =>
 (branch (r11 != 0)
 (K (Sl.mk none 0 0) r11 h14)
 (Go.AM.get (asP (Heap.rd h14 ⟨h12.next, 0, none⟩)) fun y23 =>
 (t56 y23 h14 fun r24 r25 h26 =>
 (withH (Heap.new h26 (.cells (List.replicate 40 (.int .i64 0)) false)) fun h27 =>
 (withH (Heap.new h27 (.cells (List.replicate 40 (.int .i64 0)) false)) fun h28 =>
 (chk (Nat.beq (List.length r24) 40 && List.all r24 Value.oneCell') <|
 (Go.AM.get (Heap.wr h28 ⟨h26.next, 0, none⟩ r24) fun h29 =>
 (chk (Nat.beq (List.length r25) 40 && List.all r25 Value.oneCell') <|
 (Go.AM.get (Heap.wr h29 ⟨h27.next, 0, none⟩ r25) fun h30 =>
 (withH (Heap.new h30 (.cells (List.replicate 40 (.bool false)) false)) fun h33 =>
 (withH (Heap.new h33 (.cells (List.replicate 40 (.bool false)) false)) fun h34 =>
 (withH (Heap.new h34 (.cells [.nilFunc] false)) fun h102 =>
 (q23_126
 (fun z103 z104 h105 =>
 (K z103 z104 h105))
 (some ⟨h.next, 0, none⟩) (some ⟨h12.next, 0, none⟩) (some ⟨h26.next, 0, none⟩) (some ⟨h27.next, 0, none⟩) (some ⟨h30.next, 0, none⟩) (some ⟨h33.next, 0, none⟩) (some ⟨h34.next, 0, none⟩) h102))))))))))))))))))
theorem k23 (p0 : Int) (p1 : Sl) (h : Heap) (K : Sl → Int → Heap → Prop) : fnK C23 Try.f23.results.toList Try.f23.ntmps b23 [(.int .i64 p0), (Sl.v p1)] h (outC [sP, iP .i64] K) = z23 p0 p1 h K := by kernel_rfl
theorem r23 (p0 : Int) (p1 : Sl) (h : Heap) (K : Sl → Int → Heap → Prop) (H : z23 p0 p1 h K) : t23 p0 p1 h K := fn_stepE (C := C23) (fn := Try.f23) (g := 23) o23 rfl rfl (by kernel_rfl) (by kernel_rfl) (by kernel_rfl) (k23 p0 p1 h K) (by kernel_rfl) H

/-! 24: minikin/pair.Levels -/
noncomputable def b24 : Code := Try.f24.body.getD .skip
noncomputable def C24 : Ctx := baseC Try.prog [95, 75] none (cons1 51 w51 (cons1 58 w58 (cons1 55 w55 (allF Try.prog)))) (allI Try.prog) none1
theorem o24 : CtxOK (C24) b24 := (addF (addF (addF (base_ok eqOK mixOK none b24) (wC_ok Try.prog 55 [iP .i64, sP] [pP, iP .i64])) (wC_ok Try.prog 58 [pP, bP] [lP])) (wC_ok Try.prog 51 [sP] [sP]))
def z24 (p0 : Int) (p1 : Sl) (h : Heap) (K : Sl → Int → Heap → Prop) : Prop :=
 (t55 p0 p1 h fun r4 r5 h6 =>
 (branch (r5 != 0)
 (K (Sl.mk none 0 0) r5 h6)
 (t58 r4 true h6 fun r7 h8 =>
 (withH (Heap.new h8 (.cells (List.replicate 40 (.int .i64 0)) false)) fun h9 =>
 (chk (Nat.beq (List.length r7) 40 && List.all r7 Value.oneCell') <|
 (Go.AM.get (Heap.wr h9 ⟨h8.next, 0, none⟩ r7) fun h10 =>
 (chk (within 0 p0 40) <|
 (t51 (Sl.cut (Sl.mk (some ⟨h8.next, 0, some 0⟩) 40 40) 1 0 (Int.toNat p0)) h10 fun r11 h12 =>
 (K r11 0 h12)))))))))
theorem k24 (p0 : Int) (p1 : Sl) (h : Heap) (K : Sl → Int → Heap → Prop) : fnK C24 Try.f24.results.toList Try.f24.ntmps b24 [(.int .i64 p0), (Sl.v p1)] h (outC [sP, iP .i64] K) = z24 p0 p1 h K := by kernel_rfl
theorem r24 (p0 : Int) (p1 : Sl) (h : Heap) (K : Sl → Int → Heap → Prop) (H : z24 p0 p1 h K) : t24 p0 p1 h K := fn_stepE (C := C24) (fn := Try.f24) (g := 24) o24 rfl rfl (by kernel_rfl) (by kernel_rfl) (by kernel_rfl) (k24 p0 p1 h K) (by kernel_rfl) H

/-! 25: minikin/pair.Longest -/
noncomputable def b25 : Code := Try.f25.body.getD .skip
noncomputable def c25_4147506 : Code := (subN b25 4147506).getD .skip
theorem s25_4147506 : subN b25 4147506 = some c25_4147506 := by kernel_rfl
noncomputable def q25_4147506 (XN : Int → Option Addr → Option Addr → Sl → Int → Int → Int → Heap → Prop) (X2 : Int → Option Addr → Option Addr → Sl → Int → Heap → Prop) : Int → Option Addr → Option Addr → Sl → Int → Int → Int → Int → Bool → Heap → Prop := qC Try.prog none c25_4147506 65 [(0, iP .i64), (6, pP), (8, pP), (9, sP), (10, iP .i64), (11, iP .i64), (30, iP .i64), (31, iP .i64), (58, bP)] (outE (grabC 65 [(0, iP .i64), (6, pP), (8, pP), (9, sP), (10, iP .i64), (30, iP .i64), (31, iP .i64)] XN) noE [(2, (grabC 65 [(0, iP .i64), (6, pP), (8, pP), (9, sP), (10, iP .i64)] X2))])
noncomputable def c25_32401 : Code := (subN b25 64803).getD .skip
theorem s25_32401 : subN b25 64803 = some c25_32401 := by kernel_rfl
theorem sl25_32401 : subN b25 32401 = some (.loop c25_32401) := by kernel_rfl
noncomputable def l25_32401 (X2 : Int → Option Addr → Option Addr → Sl → Int → Heap → Prop) : Int → Option Addr → Option Addr → Sl → Int → Int → Int → Heap → Prop := lC Try.prog none c25_32401 65 [(0, iP .i64), (6, pP), (8, pP), (9, sP), (10, iP .i64), (30, iP .i64), (31, iP .i64)] (outE noE noE [(2, (grabC 65 [(0, iP .i64), (6, pP), (8, pP), (9, sP), (10, iP .i64)] X2))])
noncomputable def c25_505 : Code := (subN b25 1011).getD .skip
theorem s25_505 : subN b25 1011 = some c25_505 := by kernel_rfl
theorem sl25_505 : subN b25 505 = some (.loop c25_505) := by kernel_rfl
noncomputable def l25_505 (X0 : Sl → Heap → Prop) : Int → Option Addr → Option Addr → Sl → Int → Heap → Prop := lC Try.prog none c25_505 65 [(0, iP .i64), (6, pP), (8, pP), (9, sP), (10, iP .i64)] (outE noE noE [(0, (grabC 65 [(9, sP)] X0))])
noncomputable def C25 : Ctx := baseC Try.prog [95, 75] none (cons1 59 w59 (cons1 58 w58 (cons1 55 w55 (allF Try.prog)))) (allI Try.prog) (cons1 505 (gC 65 [(0, iP .i64), (6, pP), (8, pP), (9, sP), (10, iP .i64)] none none [(0, [(9, sP)])] (lC Try.prog none c25_505 65 [(0, iP .i64), (6, pP), (8, pP), (9, sP), (10, iP .i64)])) (cons1 32401 (gC 65 [(0, iP .i64), (6, pP), (8, pP), (9, sP), (10, iP .i64), (30, iP .i64), (31, iP .i64)] none none [(2, [(0, iP .i64), (6, pP), (8, pP), (9, sP), (10, iP .i64)])] (lC Try.prog none c25_32401 65 [(0, iP .i64), (6, pP), (8, pP), (9, sP), (10, iP .i64), (30, iP .i64), (31, iP .i64)])) (cons1 4147506 (gC 65 [(0, iP .i64), (6, pP), (8, pP), (9, sP), (10, iP .i64), (11, iP .i64), (30, iP .i64), (31, iP .i64), (58, bP)] (some [(0, iP .i64), (6, pP), (8, pP), (9, sP), (10, iP .i64), (30, iP .i64), (31, iP .i64)]) none [(2, [(0, iP .i64), (6, pP), (8, pP), (9, sP), (10, iP .i64)])] (qC Try.prog none c25_4147506 65 [(0, iP .i64), (6, pP), (8, pP), (9, sP), (10, iP .i64), (11, iP .i64), (30, iP .i64), (31, iP .i64), (58, bP)])) none1)))
theorem o25 : CtxOK (C25) b25 := (addL (addL (addQ (addF (addF (addF (base_ok eqOK mixOK none b25) (wC_ok Try.prog 55 [iP .i64, sP] [pP, iP .i64])) (wC_ok Try.prog 58 [pP, bP] [lP])) (wC_ok Try.prog 59 [sP] [iP .i64])) s25_4147506) sl25_32401) sl25_505)
def z25_4147506 (XN : Int → Option Addr → Option Addr → Sl → Int → Int → Int → Heap → Prop) (X2 : Int → Option Addr → Option Addr → Sl → Int → Heap → Prop) (v39 : Int) (v40 : Option Addr) (v41 : Option Addr) (v42 : Sl) (v43 : Int) (v44 : Int) (v45 : Int) (v46 : Int) (v47 : Bool) (h48 : Heap) : Prop :=
 (branch v47
 (withH (Heap.new h48 (.cells [(.int .i64 v44)] false)) fun h49 =>
 (Go.AM.get (Heap.rdN h49 ⟨h48.next, 0, none⟩ 1) fun y50 =>
 (Go.AM.get (Heap.app h49 1 8 v42 1 y50) fun r51 =>
 (X2 v39 v40 v41 r51.1 v43 r51.2))))
 (XN v39 v40 v41 v42 v43 v45 v46 h48))
theorem k25_4147506 (XN : Int → Option Addr → Option Addr → Sl → Int → Int → Int → Heap → Prop) (X2 : Int → Option Addr → Option Addr → Sl → Int → Heap → Prop) (v39 : Int) (v40 : Option Addr) (v41 : Option Addr) (v42 : Sl) (v43 : Int) (v44 : Int) (v45 : Int) (v46 : Int) (v47 : Bool) (h48 : Heap) : (exec (C25) c25_4147506 true 4147506 (Fr.put (Fr.put (Fr.put (Fr.put (Fr.put (Fr.put (Fr.put (Fr.put (Fr.put (Fr0 65) (some 0) (.int .i64 v39)) (some 6) (.pointer v40)) (some 8) (.pointer v41)) (some 9) (Sl.v v42)) (some 10) (.int .i64 v43)) (some 11) (.int .i64 v44)) (some 30) (.int .i64 v45)) (some 31) (.int .i64 v46)) (some 58) (.bool v47)) h48 (outE (grabC 65 [(0, iP .i64), (6, pP), (8, pP), (9, sP), (10, iP .i64), (30, iP .i64), (31, iP .i64)] XN) noE [(2, (grabC 65 [(0, iP .i64), (6, pP), (8, pP), (9, sP), (10, iP .i64)] X2))])) = z25_4147506 XN X2 v39 v40 v41 v42 v43 v44 v45 v46 v47 h48 := by kernel_rfl
theorem r25_4147506 (XN : Int → Option Addr → Option Addr → Sl → Int → Int → Int → Heap → Prop) (X2 : Int → Option Addr → Option Addr → Sl → Int → Heap → Prop) (v39 : Int) (v40 : Option Addr) (v41 : Option Addr) (v42 : Sl) (v43 : Int) (v44 : Int) (v45 : Int) (v46 : Int) (v47 : Bool) (h48 : Heap) (H : z25_4147506 XN X2 v39 v40 v41 v42 v43 v44 v45 v46 v47 h48) : q25_4147506 XN X2 v39 v40 v41 v42 v43 v44 v45 v46 v47 h48 := piece_stepE (p := 4147506) (o25) rfl s25_4147506 (k25_4147506 XN X2 v39 v40 v41 v42 v43 v44 v45 v46 v47 h48) (by kernel_rfl) H
def z25_32401 (X2 : Int → Option Addr → Option Addr → Sl → Int → Heap → Prop) (v25 : Int) (v26 : Option Addr) (v27 : Option Addr) (v28 : Sl) (v29 : Int) (v30 : Int) (v31 : Int) (h32 : Heap) : Prop :=
 (branch (decide (v31 < v30))
 (Go.AM.get v27 fun a52 =>
 (chk (idx v31 40) <|
 (Go.AM.get (asI .i64 (Heap.rd h32 ⟨a52.block, (a52.off + ((Int.toNat v31) * 1)), none⟩)) fun y53 =>
 (branch (y53 == v29)
 (branch (((v28.len : Nat) : Int) == 0)
 (q25_4147506
 (fun z54 z55 z56 z57 z58 z59 z60 h61 =>
 (l25_32401 X2 z54 z55 z56 z57 z58 z59 (IntKind.wrap .i64 (z60 + 1)) h61))
 (fun z62 z63 z64 z65 z66 h67 =>
 (X2 z62 z63 z64 z65 z66 h67))
 v25 v26 v27 v28 v29 v31 v30 v31 true h32)
 (Go.AM.get v28.a fun a68 =>
 (chk (idx (IntKind.wrap .i64 (((v28.len : Nat) : Int) - 1)) v28.len) <|
 (Go.AM.get (asI .i64 (Heap.rd h32 ⟨a68.block, (a68.off + ((Int.toNat (IntKind.wrap .i64 (((v28.len : Nat) : Int) - 1))) * 1)), none⟩)) fun y69 =>
 (Go.AM.get v26 fun a70 =>
 (chk (idx y69 40) <|
 (chk (idx v31 40) <|
 (Go.AM.get (asB (Heap.rd h32 ⟨a70.block, (((a70.off + 1) + ((Int.toNat y69) * 40)) + ((Int.toNat v31) * 1)), none⟩)) fun y71 =>
 (q25_4147506
 (fun z72 z73 z74 z75 z76 z77 z78 h79 =>
 (l25_32401 X2 z72 z73 z74 z75 z76 z77 (IntKind.wrap .i64 (z78 + 1)) h79))
 (fun z80 z81 z82 z83 z84 h85 =>
 (X2 z80 z81 z82 z83 z84 h85))
 v25 v26 v27 v28 v29 v31 v30 v31 y71 h32)))))))))
 (q25_4147506
 (fun z86 z87 z88 z89 z90 z91 z92 h93 =>
 (l25_32401 X2 z86 z87 z88 z89 z90 z91 (IntKind.wrap .i64 (z92 + 1)) h93))
 (fun z94 z95 z96 z97 z98 h99 =>
 (X2 z94 z95 z96 z97 z98 h99))
 v25 v26 v27 v28 v29 v31 v30 v31 false h32)))))
 (X2 v25 v26 v27 v28 v29 h32))
theorem k25_32401 (X2 : Int → Option Addr → Option Addr → Sl → Int → Heap → Prop) (v25 : Int) (v26 : Option Addr) (v27 : Option Addr) (v28 : Sl) (v29 : Int) (v30 : Int) (v31 : Int) (h32 : Heap) : (exec (C25) c25_32401 false 64803 (Fr.put (Fr.put (Fr.put (Fr.put (Fr.put (Fr.put (Fr.put (Fr0 65) (some 0) (.int .i64 v25)) (some 6) (.pointer v26)) (some 8) (.pointer v27)) (some 9) (Sl.v v28)) (some 10) (.int .i64 v29)) (some 30) (.int .i64 v30)) (some 31) (.int .i64 v31)) h32 (loopE (grabC 65 [(0, iP .i64), (6, pP), (8, pP), (9, sP), (10, iP .i64), (30, iP .i64), (31, iP .i64)] (lC (C25).P (C25).yld c25_32401 65 [(0, iP .i64), (6, pP), (8, pP), (9, sP), (10, iP .i64), (30, iP .i64), (31, iP .i64)] (outE noE noE [(2, (grabC 65 [(0, iP .i64), (6, pP), (8, pP), (9, sP), (10, iP .i64)] X2))]))) (outE noE noE [(2, (grabC 65 [(0, iP .i64), (6, pP), (8, pP), (9, sP), (10, iP .i64)] X2))]))) = z25_32401 X2 v25 v26 v27 v28 v29 v30 v31 h32 := by kernel_rfl
theorem r25_32401 (X2 : Int → Option Addr → Option Addr → Sl → Int → Heap → Prop) (v25 : Int) (v26 : Option Addr) (v27 : Option Addr) (v28 : Sl) (v29 : Int) (v30 : Int) (v31 : Int) (h32 : Heap) (H : z25_32401 X2 v25 v26 v27 v28 v29 v30 v31 h32) : l25_32401 X2 v25 v26 v27 v28 v29 v30 v31 h32 := loop_stepE (p := 32401) (N := 65) (keep := [(0, iP .i64), (6, pP), (8, pP), (9, sP), (10, iP .i64), (30, iP .i64), (31, iP .i64)]) (o25) rfl s25_32401 (k25_32401 X2 v25 v26 v27 v28 v29 v30 v31 h32) (by kernel_rfl) H
def z25_505 (X0 : Sl → Heap → Prop) (v19 : Int) (v20 : Option Addr) (v21 : Option Addr) (v22 : Sl) (v23 : Int) (h24 : Heap) : Prop :=
 (branch (decide (v23 ≥ 0))
 (l25_32401
 (fun z100 z101 z102 z103 z104 h105 =>
 (l25_505 X0 z100 z101 z102 z103 (IntKind.wrap .i64 (z104 - 1)) h105))
 v19 v20 v21 v22 v23 v19 0 h24)
 (X0 v22 h24))
theorem k25_505 (X0 : Sl → Heap → Prop) (v19 : Int) (v20 : Option Addr) (v21 : Option Addr) (v22 : Sl) (v23 : Int) (h24 : Heap) : (exec (C25) c25_505 false 1011 (Fr.put (Fr.put (Fr.put (Fr.put (Fr.put (Fr0 65) (some 0) (.int .i64 v19)) (some 6) (.pointer v20)) (some 8) (.pointer v21)) (some 9) (Sl.v v22)) (some 10) (.int .i64 v23)) h24 (loopE (grabC 65 [(0, iP .i64), (6, pP), (8, pP), (9, sP), (10, iP .i64)] (lC (C25).P (C25).yld c25_505 65 [(0, iP .i64), (6, pP), (8, pP), (9, sP), (10, iP .i64)] (outE noE noE [(0, (grabC 65 [(9, sP)] X0))]))) (outE noE noE [(0, (grabC 65 [(9, sP)] X0))]))) = z25_505 X0 v19 v20 v21 v22 v23 h24 := by kernel_rfl
theorem r25_505 (X0 : Sl → Heap → Prop) (v19 : Int) (v20 : Option Addr) (v21 : Option Addr) (v22 : Sl) (v23 : Int) (h24 : Heap) (H : z25_505 X0 v19 v20 v21 v22 v23 h24) : l25_505 X0 v19 v20 v21 v22 v23 h24 := loop_stepE (p := 505) (N := 65) (keep := [(0, iP .i64), (6, pP), (8, pP), (9, sP), (10, iP .i64)]) (o25) rfl s25_505 (k25_505 X0 v19 v20 v21 v22 v23 h24) (by kernel_rfl) H
def z25 (p0 : Int) (p1 : Sl) (h : Heap) (K : Sl → Int → Heap → Prop) : Prop :=
 (t55 p0 p1 h fun r4 r5 h6 =>
 (branch (r5 != 0)
 (K (Sl.mk none 0 0) r5 h6)
 (t58 r4 false h6 fun r11 h12 =>
 (withH (Heap.new h12 (.cells (List.replicate 40 (.int .i64 0)) false)) fun h13 =>
 (chk (Nat.beq (List.length r11) 40 && List.all r11 Value.oneCell') <|
 (Go.AM.get (Heap.wr h13 ⟨h12.next, 0, none⟩ r11) fun h14 =>
 (chk (within 0 p0 40) <|
 (t59 (Sl.cut (Sl.mk (some ⟨h12.next, 0, some 0⟩) 40 40) 1 0 (Int.toNat p0)) h14 fun r17 h18 =>
 (l25_505
 (fun z106 h107 =>
 (K z106 0 h107))
 p0 r4 (some ⟨h12.next, 0, none⟩) (Sl.mk none 0 0) r17 h18)))))))))
theorem k25 (p0 : Int) (p1 : Sl) (h : Heap) (K : Sl → Int → Heap → Prop) : fnK C25 Try.f25.results.toList Try.f25.ntmps b25 [(.int .i64 p0), (Sl.v p1)] h (outC [sP, iP .i64] K) = z25 p0 p1 h K := by kernel_rfl
theorem r25 (p0 : Int) (p1 : Sl) (h : Heap) (K : Sl → Int → Heap → Prop) (H : z25 p0 p1 h K) : t25 p0 p1 h K := fn_stepE (C := C25) (fn := Try.f25) (g := 25) o25 rfl rfl (by kernel_rfl) (by kernel_rfl) (by kernel_rfl) (k25 p0 p1 h K) (by kernel_rfl) H

/-! 26: minikin/minikinref04.AreChains -/
noncomputable def b26 : Code := Try.f26.body.getD .skip
noncomputable def c26_15649 : Code := (subN b26 31299).getD .skip
theorem s26_15649 : subN b26 31299 = some c26_15649 := by kernel_rfl
theorem sl26_15649 : subN b26 15649 = some (.loop c26_15649) := by kernel_rfl
noncomputable def l26_15649 (XR : Bool → Heap → Prop) (X2 : Sl → Sl → Sl → Int → Int → Heap → Prop) : Sl → Sl → Sl → Int → Int → Int → Heap → Prop := lC Try.prog none c26_15649 85 [(0, sP), (1, sP), (5, sP), (6, iP .i64), (7, iP .i64), (8, iP .i64)] (outE noE (grabC 85 [(4, bP)] XR) [(2, (grabC 85 [(0, sP), (1, sP), (5, sP), (6, iP .i64), (7, iP .i64)] X2))])
noncomputable def c26_121 : Code := (subN b26 243).getD .skip
theorem s26_121 : subN b26 243 = some c26_121 := by kernel_rfl
theorem sl26_121 : subN b26 121 = some (.loop c26_121) := by kernel_rfl
noncomputable def l26_121 (XR : Bool → Heap → Prop) (X0 : Sl → Int → Heap → Prop) : Sl → Sl → Sl → Int → Int → Heap → Prop := lC Try.prog none c26_121 85 [(0, sP), (1, sP), (5, sP), (6, iP .i64), (7, iP .i64)] (outE noE (grabC 85 [(4, bP)] XR) [(0, (grabC 85 [(0, sP), (6, iP .i64)] X0))])
noncomputable def C26 : Ctx := baseC Try.prog [95, 75] none (allF Try.prog) (allI Try.prog) (cons1 121 (gC 85 [(0, sP), (1, sP), (5, sP), (6, iP .i64), (7, iP .i64)] none (some [(4, bP)]) [(0, [(0, sP), (6, iP .i64)])] (lC Try.prog none c26_121 85 [(0, sP), (1, sP), (5, sP), (6, iP .i64), (7, iP .i64)])) (cons1 15649 (gC 85 [(0, sP), (1, sP), (5, sP), (6, iP .i64), (7, iP .i64), (8, iP .i64)] none (some [(4, bP)]) [(2, [(0, sP), (1, sP), (5, sP), (6, iP .i64), (7, iP .i64)])] (lC Try.prog none c26_15649 85 [(0, sP), (1, sP), (5, sP), (6, iP .i64), (7, iP .i64), (8, iP .i64)])) none1))
theorem o26 : CtxOK (C26) b26 := (addL (addL (base_ok eqOK mixOK none b26) sl26_15649) sl26_121)
def z26_15649 (XR : Bool → Heap → Prop) (X2 : Sl → Sl → Sl → Int → Int → Heap → Prop) (v9 : Sl) (v10 : Sl) (v11 : Sl) (v12 : Int) (v13 : Int) (v14 : Int) (h15 : Heap) : Prop :=
 (Go.AM.get v10.a fun a18 =>
 (chk (idx v13 v10.len) <|
 (Go.AM.get (asS (Heap.rd h15 ⟨a18.block, (a18.off + ((Int.toNat v13) * 1)), none⟩)) fun y19 =>
 (branch (decide (v14 < ((y19.len : Nat) : Int)))
 (Go.AM.get v10.a fun a24 =>
 (chk (idx v13 v10.len) <|
 (Go.AM.get (asS (Heap.rd h15 ⟨a24.block, (a24.off + ((Int.toNat v13) * 1)), none⟩)) fun y25 =>
 (Go.AM.get y25.a fun a26 =>
 (chk (idx v14 y25.len) <|
 (Go.AM.get (asI .i64 (Heap.rd h15 ⟨a26.block, (a26.off + ((Int.toNat v14) * 1)), none⟩)) fun y27 =>
 (branch (decide (y27 < 0))
 (XR false h15)
 (branch (decide (y27 ≥ ((v9.len : Nat) : Int)))
 (XR false h15)
 (Go.AM.get v11.a fun a38 =>
 (chk (idx y27 v11.len) <|
 (Go.AM.get (asB (Heap.rd h15 ⟨a38.block, (a38.off + ((Int.toNat y27) * 1)), none⟩)) fun y39 =>
 (branch y39
 (XR false h15)
 (branch (decide (v14 > 0))
 (Go.AM.get v10.a fun a40 =>
 (chk (idx v13 v10.len) <|
 (Go.AM.get (asS (Heap.rd h15 ⟨a40.block, (a40.off + ((Int.toNat v13) * 1)), none⟩)) fun y41 =>
 (Go.AM.get y41.a fun a42 =>
 (chk (idx (IntKind.wrap .i64 (v14 - 1)) y41.len) <|
 (Go.AM.get (asI .i64 (Heap.rd h15 ⟨a42.block, (a42.off + ((Int.toNat (IntKind.wrap .i64 (v14 - 1))) * 1)), none⟩)) fun y43 =>
 (Go.AM.get v9.a fun a44 =>
 (chk (idx y43 v9.len) <|
 (Go.AM.get (asS (Heap.rd h15 ⟨a44.block, (a44.off + ((Int.toNat y43) * 1)), none⟩)) fun y45 =>
 (Go.AM.get y45.a fun a46 =>
 (chk (idx y27 y45.len) <|
 (Go.AM.get (asB (Heap.rd h15 ⟨a46.block, (a46.off + ((Int.toNat y27) * 1)), none⟩)) fun y47 =>
 (branch (!y47)
 (XR false h15)
 (Go.AM.get v11.a fun a48 =>
 (chk (idx y27 v11.len) <|
 (Go.AM.get (Heap.wr h15 ⟨a48.block, (a48.off + ((Int.toNat y27) * 1)), none⟩ [(.bool true)]) fun h49 =>
 (l26_15649 XR X2 v9 v10 v11 (IntKind.wrap .i64 (v12 + 1)) v13 (IntKind.wrap .i64 (v14 + 1)) h49)))))))))))))))))
 (Go.AM.get v11.a fun a50 =>
 (chk (idx y27 v11.len) <|
 (Go.AM.get (Heap.wr h15 ⟨a50.block, (a50.off + ((Int.toNat y27) * 1)), none⟩ [(.bool true)]) fun h51 =>
 (l26_15649 XR X2 v9 v10 v11 (IntKind.wrap .i64 (v12 + 1)) v13 (IntKind.wrap .i64 (v14 + 1)) h51)))))))))))))))))
 (X2 v9 v10 v11 v12 v13 h15)))))
theorem k26_15649 (XR : Bool → Heap → Prop) (X2 : Sl → Sl → Sl → Int → Int → Heap → Prop) (v9 : Sl) (v10 : Sl) (v11 : Sl) (v12 : Int) (v13 : Int) (v14 : Int) (h15 : Heap) : (exec (C26) c26_15649 false 31299 (Fr.put (Fr.put (Fr.put (Fr.put (Fr.put (Fr.put (Fr0 85) (some 0) (Sl.v v9)) (some 1) (Sl.v v10)) (some 5) (Sl.v v11)) (some 6) (.int .i64 v12)) (some 7) (.int .i64 v13)) (some 8) (.int .i64 v14)) h15 (loopE (grabC 85 [(0, sP), (1, sP), (5, sP), (6, iP .i64), (7, iP .i64), (8, iP .i64)] (lC (C26).P (C26).yld c26_15649 85 [(0, sP), (1, sP), (5, sP), (6, iP .i64), (7, iP .i64), (8, iP .i64)] (outE noE (grabC 85 [(4, bP)] XR) [(2, (grabC 85 [(0, sP), (1, sP), (5, sP), (6, iP .i64), (7, iP .i64)] X2))]))) (outE noE (grabC 85 [(4, bP)] XR) [(2, (grabC 85 [(0, sP), (1, sP), (5, sP), (6, iP .i64), (7, iP .i64)] X2))]))) = z26_15649 XR X2 v9 v10 v11 v12 v13 v14 h15 := by kernel_rfl
theorem r26_15649 (XR : Bool → Heap → Prop) (X2 : Sl → Sl → Sl → Int → Int → Heap → Prop) (v9 : Sl) (v10 : Sl) (v11 : Sl) (v12 : Int) (v13 : Int) (v14 : Int) (h15 : Heap) (H : z26_15649 XR X2 v9 v10 v11 v12 v13 v14 h15) : l26_15649 XR X2 v9 v10 v11 v12 v13 v14 h15 := loop_stepE (p := 15649) (N := 85) (keep := [(0, sP), (1, sP), (5, sP), (6, iP .i64), (7, iP .i64), (8, iP .i64)]) (o26) rfl s26_15649 (k26_15649 XR X2 v9 v10 v11 v12 v13 v14 h15) (by kernel_rfl) H
def z26_121 (XR : Bool → Heap → Prop) (X0 : Sl → Int → Heap → Prop) (v3 : Sl) (v4 : Sl) (v5 : Sl) (v6 : Int) (v7 : Int) (h8 : Heap) : Prop :=
 (branch (decide (v7 < ((v4.len : Nat) : Int)))
 (l26_15649
 (fun z60 h61 =>
 (XR z60 h61))
 (fun z62 z63 z64 z65 z66 h67 =>
 (Go.AM.get z63.a fun a68 =>
 (chk (idx z66 z63.len) <|
 (Go.AM.get (asS (Heap.rd h67 ⟨a68.block, (a68.off + ((Int.toNat z66) * 1)), none⟩)) fun y69 =>
 (branch (((y69.len : Nat) : Int) == 0)
 (XR false h67)
 (l26_121 XR X0 z62 z63 z64 z65 (IntKind.wrap .i64 (z66 + 1)) h67))))))
 v3 v4 v5 v6 v7 0 h8)
 (X0 v3 v6 h8))
theorem k26_121 (XR : Bool → Heap → Prop) (X0 : Sl → Int → Heap → Prop) (v3 : Sl) (v4 : Sl) (v5 : Sl) (v6 : Int) (v7 : Int) (h8 : Heap) : (exec (C26) c26_121 false 243 (Fr.put (Fr.put (Fr.put (Fr.put (Fr.put (Fr0 85) (some 0) (Sl.v v3)) (some 1) (Sl.v v4)) (some 5) (Sl.v v5)) (some 6) (.int .i64 v6)) (some 7) (.int .i64 v7)) h8 (loopE (grabC 85 [(0, sP), (1, sP), (5, sP), (6, iP .i64), (7, iP .i64)] (lC (C26).P (C26).yld c26_121 85 [(0, sP), (1, sP), (5, sP), (6, iP .i64), (7, iP .i64)] (outE noE (grabC 85 [(4, bP)] XR) [(0, (grabC 85 [(0, sP), (6, iP .i64)] X0))]))) (outE noE (grabC 85 [(4, bP)] XR) [(0, (grabC 85 [(0, sP), (6, iP .i64)] X0))]))) = z26_121 XR X0 v3 v4 v5 v6 v7 h8 := by kernel_rfl
theorem r26_121 (XR : Bool → Heap → Prop) (X0 : Sl → Int → Heap → Prop) (v3 : Sl) (v4 : Sl) (v5 : Sl) (v6 : Int) (v7 : Int) (h8 : Heap) (H : z26_121 XR X0 v3 v4 v5 v6 v7 h8) : l26_121 XR X0 v3 v4 v5 v6 v7 h8 := loop_stepE (p := 121) (N := 85) (keep := [(0, sP), (1, sP), (5, sP), (6, iP .i64), (7, iP .i64)]) (o26) rfl s26_121 (k26_121 XR X0 v3 v4 v5 v6 v7 h8) (by kernel_rfl) H
def z26 (p0 : Sl) (p1 : Sl) (h : Heap) (K : Bool → Heap → Prop) : Prop :=
 (chk (within 0 ((p0.len : Nat) : Int) ((p0.len : Nat) : Int) && (decide (((p0.len : Nat) : Int) ≤ 1000000000000) && (small (Int.toNat ((p0.len : Nat) : Int)) 1 && true))) <|
 (withH (Heap.new h (.cells (rep [(.bool false)] (Int.toNat ((p0.len : Nat) : Int))) false)) fun h2 =>
 (l26_121
 (fun z70 h71 =>
 (K z70 h71))
 (fun z72 z73 h74 =>
 (K (z73 == ((z72.len : Nat) : Int)) h74))
 p0 p1 (Sl.mk (some ⟨h.next, 0, (some 0)⟩) (Int.toNat ((p0.len : Nat) : Int)) (Int.toNat ((p0.len : Nat) : Int))) 0 0 h2)))
theorem k26 (p0 : Sl) (p1 : Sl) (h : Heap) (K : Bool → Heap → Prop) : fnK C26 Try.f26.results.toList Try.f26.ntmps b26 [(Sl.v p0), (Sl.v p1)] h (outC [bP] K) = z26 p0 p1 h K := by kernel_rfl
theorem r26 (p0 : Sl) (p1 : Sl) (h : Heap) (K : Bool → Heap → Prop) (H : z26 p0 p1 h K) : t26 p0 p1 h K := fn_stepE (C := C26) (fn := Try.f26) (g := 26) o26 rfl rfl (by kernel_rfl) (by kernel_rfl) (by kernel_rfl) (k26 p0 p1 h K) (by kernel_rfl) H

/-! 27: minikin/minikinref04.IsAntichain -/
noncomputable def b27 : Code := Try.f27.body.getD .skip
noncomputable def c27_3365 : Code := (subN b27 6731).getD .skip
theorem s27_3365 : subN b27 6731 = some c27_3365 := by kernel_rfl
theorem sl27_3365 : subN b27 3365 = some (.loop c27_3365) := by kernel_rfl
noncomputable def l27_3365 (XR : Bool → Heap → Prop) (X2 : Sl → Sl → Int → Heap → Prop) : Sl → Sl → Int → Int → Heap → Prop := lC Try.prog none c27_3365 76 [(0, sP), (1, sP), (5, iP .i64), (6, iP .i64)] (outE noE (grabC 76 [(4, bP)] XR) [(2, (grabC 76 [(0, sP), (1, sP), (5, iP .i64)] X2))])
noncomputable def c27_840 : Code := (subN b27 840).getD .skip
theorem s27_840 : subN b27 840 = some c27_840 := by kernel_rfl
noncomputable def q27_840 (XN : Sl → Sl → Int → Heap → Prop) (XR : Bool → Heap → Prop) : Sl → Sl → Int → Heap → Prop := qC Try.prog none c27_840 76 [(0, sP), (1, sP), (5, iP .i64)] (outE (grabC 76 [(0, sP), (1, sP), (5, iP .i64)] XN) (grabC 76 [(4, bP)] XR) [])
noncomputable def c27_25 : Code := (subN b27 51).getD .skip
theorem s27_25 : subN b27 51 = some c27_25 := by kernel_rfl
theorem sl27_25 : subN b27 25 = some (.loop c27_25) := by kernel_rfl
noncomputable def l27_25 (XR : Bool → Heap → Prop) (X0 : Heap → Prop) : Sl → Sl → Int → Heap → Prop := lC Try.prog none c27_25 76 [(0, sP), (1, sP), (5, iP .i64)] (outE noE (grabC 76 [(4, bP)] XR) [(0, (grabC 76 [] X0))])
noncomputable def C27 : Ctx := baseC Try.prog [95, 75] none (allF Try.prog) (allI Try.prog) (cons1 25 (gC 76 [(0, sP), (1, sP), (5, iP .i64)] none (some [(4, bP)]) [(0, [])] (lC Try.prog none c27_25 76 [(0, sP), (1, sP), (5, iP .i64)])) (cons1 840 (gC 76 [(0, sP), (1, sP), (5, iP .i64)] (some [(0, sP), (1, sP), (5, iP .i64)]) (some [(4, bP)]) [] (qC Try.prog none c27_840 76 [(0, sP), (1, sP), (5, iP .i64)])) (cons1 3365 (gC 76 [(0, sP), (1, sP), (5, iP .i64), (6, iP .i64)] none (some [(4, bP)]) [(2, [(0, sP), (1, sP), (5, iP .i64)])] (lC Try.prog none c27_3365 76 [(0, sP), (1, sP), (5, iP .i64), (6, iP .i64)])) none1)))
theorem o27 : CtxOK (C27) b27 := (addL (addQ (addL (base_ok eqOK mixOK none b27) sl27_3365) s27_840) sl27_25)
def z27_3365 (XR : Bool → Heap → Prop) (X2 : Sl → Sl → Int → Heap → Prop) (v17 : Sl) (v18 : Sl) (v19 : Int) (v20 : Int) (h21 : Heap) : Prop :=
 (branch (decide (v20 < v19))
 (Go.AM.get v18.a fun a22 =>
 (chk (idx v19 v18.len) <|
 (Go.AM.get (asI .i64 (Heap.rd h21 ⟨a22.block, (a22.off + ((Int.toNat v19) * 1)), none⟩)) fun y23 =>
 (Go.AM.get v17.a fun a24 =>
 (chk (idx y23 v17.len) <|
 (Go.AM.get (asS (Heap.rd h21 ⟨a24.block, (a24.off + ((Int.toNat y23) * 1)), none⟩)) fun y25 =>
 (Go.AM.get v18.a fun a26 =>
 (chk (idx v20 v18.len) <|
 (Go.AM.get (asI .i64 (Heap.rd h21 ⟨a26.block, (a26.off + ((Int.toNat v20) * 1)), none⟩)) fun y27 =>
 (Go.AM.get y25.a fun a28 =>
 (chk (idx y27 y25.len) <|
 (Go.AM.get (asB (Heap.rd h21 ⟨a28.block, (a28.off + ((Int.toNat y27) * 1)), none⟩)) fun y29 =>
 (branch y29
 (XR false h21)
 (Go.AM.get v18.a fun a30 =>
 (chk (idx v20 v18.len) <|
 (Go.AM.get (asI .i64 (Heap.rd h21 ⟨a30.block, (a30.off + ((Int.toNat v20) * 1)), none⟩)) fun y31 =>
 (Go.AM.get v17.a fun a32 =>
 (chk (idx y31 v17.len) <|
 (Go.AM.get (asS (Heap.rd h21 ⟨a32.block, (a32.off + ((Int.toNat y31) * 1)), none⟩)) fun y33 =>
 (Go.AM.get v18.a fun a34 =>
 (chk (idx v19 v18.len) <|
 (Go.AM.get (asI .i64 (Heap.rd h21 ⟨a34.block, (a34.off + ((Int.toNat v19) * 1)), none⟩)) fun y35 =>
 (Go.AM.get y33.a fun a36 =>
 (chk (idx y35 y33.len) <|
 (Go.AM.get (asB (Heap.rd h21 ⟨a36.block, (a36.off + ((Int.toNat y35) * 1)), none⟩)) fun y37 =>
 (branch y37
 (XR false h21)
 (l27_3365 XR X2 v17 v18 v19 (IntKind.wrap .i64 (v20 + 1)) h21)))))))))))))))))))))))))))
 (X2 v17 v18 v19 h21))
theorem k27_3365 (XR : Bool → Heap → Prop) (X2 : Sl → Sl → Int → Heap → Prop) (v17 : Sl) (v18 : Sl) (v19 : Int) (v20 : Int) (h21 : Heap) : (exec (C27) c27_3365 false 6731 (Fr.put (Fr.put (Fr.put (Fr.put (Fr0 76) (some 0) (Sl.v v17)) (some 1) (Sl.v v18)) (some 5) (.int .i64 v19)) (some 6) (.int .i64 v20)) h21 (loopE (grabC 76 [(0, sP), (1, sP), (5, iP .i64), (6, iP .i64)] (lC (C27).P (C27).yld c27_3365 76 [(0, sP), (1, sP), (5, iP .i64), (6, iP .i64)] (outE noE (grabC 76 [(4, bP)] XR) [(2, (grabC 76 [(0, sP), (1, sP), (5, iP .i64)] X2))]))) (outE noE (grabC 76 [(4, bP)] XR) [(2, (grabC 76 [(0, sP), (1, sP), (5, iP .i64)] X2))]))) = z27_3365 XR X2 v17 v18 v19 v20 h21 := by kernel_rfl
theorem r27_3365 (XR : Bool → Heap → Prop) (X2 : Sl → Sl → Int → Heap → Prop) (v17 : Sl) (v18 : Sl) (v19 : Int) (v20 : Int) (h21 : Heap) (H : z27_3365 XR X2 v17 v18 v19 v20 h21) : l27_3365 XR X2 v17 v18 v19 v20 h21 := loop_stepE (p := 3365) (N := 76) (keep := [(0, sP), (1, sP), (5, iP .i64), (6, iP .i64)]) (o27) rfl s27_3365 (k27_3365 XR X2 v17 v18 v19 v20 h21) (by kernel_rfl) H
def z27_840 (XN : Sl → Sl → Int → Heap → Prop) (XR : Bool → Heap → Prop) (v13 : Sl) (v14 : Sl) (v15 : Int) (h16 : Heap) : Prop :=
 (l27_3365
 (fun z38 h39 =>
 (XR z38 h39))
 (fun z40 z41 z42 h43 =>
 (XN z40 z41 z42 h43))
 v13 v14 v15 0 h16)
theorem k27_840 (XN : Sl → Sl → Int → Heap → Prop) (XR : Bool → Heap → Prop) (v13 : Sl) (v14 : Sl) (v15 : Int) (h16 : Heap) : (exec (C27) c27_840 true 840 (Fr.put (Fr.put (Fr.put (Fr0 76) (some 0) (Sl.v v13)) (some 1) (Sl.v v14)) (some 5) (.int .i64 v15)) h16 (outE (grabC 76 [(0, sP), (1, sP), (5, iP .i64)] XN) (grabC 76 [(4, bP)] XR) [])) = z27_840 XN XR v13 v14 v15 h16 := by kernel_rfl
theorem r27_840 (XN : Sl → Sl → Int → Heap → Prop) (XR : Bool → Heap → Prop) (v13 : Sl) (v14 : Sl) (v15 : Int) (h16 : Heap) (H : z27_840 XN XR v13 v14 v15 h16) : q27_840 XN XR v13 v14 v15 h16 := piece_stepE (p := 840) (o27) rfl s27_840 (k27_840 XN XR v13 v14 v15 h16) (by kernel_rfl) H
def z27_25 (XR : Bool → Heap → Prop) (X0 : Heap → Prop) (v1 : Sl) (v2 : Sl) (v3 : Int) (h4 : Heap) : Prop :=
 (branch (decide (v3 < ((v2.len : Nat) : Int)))
 (Go.AM.get v2.a fun a44 =>
 (chk (idx v3 v2.len) <|
 (Go.AM.get (asI .i64 (Heap.rd h4 ⟨a44.block, (a44.off + ((Int.toNat v3) * 1)), none⟩)) fun y45 =>
 (branch (decide (y45 < 0))
 (XR false h4)
 (Go.AM.get v2.a fun a46 =>
 (chk (idx v3 v2.len) <|
 (Go.AM.get (asI .i64 (Heap.rd h4 ⟨a46.block, (a46.off + ((Int.toNat v3) * 1)), none⟩)) fun y47 =>
 (branch (decide (y47 ≥ ((v1.len : Nat) : Int)))
 (XR false h4)
 (branch (decide (v3 > 0))
 (Go.AM.get v2.a fun a48 =>
 (chk (idx (IntKind.wrap .i64 (v3 - 1)) v2.len) <|
 (Go.AM.get (asI .i64 (Heap.rd h4 ⟨a48.block, (a48.off + ((Int.toNat (IntKind.wrap .i64 (v3 - 1))) * 1)), none⟩)) fun y49 =>
 (Go.AM.get v2.a fun a50 =>
 (chk (idx v3 v2.len) <|
 (Go.AM.get (asI .i64 (Heap.rd h4 ⟨a50.block, (a50.off + ((Int.toNat v3) * 1)), none⟩)) fun y51 =>
 (branch (decide (y49 ≥ y51))
 (XR false h4)
 (q27_840
 (fun z52 z53 z54 h55 =>
 (l27_25 XR X0 z52 z53 (IntKind.wrap .i64 (z54 + 1)) h55))
 (fun z56 h57 =>
 (XR z56 h57))
 v1 v2 v3 h4))))))))
 (q27_840
 (fun z58 z59 z60 h61 =>
 (l27_25 XR X0 z58 z59 (IntKind.wrap .i64 (z60 + 1)) h61))
 (fun z62 h63 =>
 (XR z62 h63))
 v1 v2 v3 h4))))))))))
 (X0 h4))
theorem k27_25 (XR : Bool → Heap → Prop) (X0 : Heap → Prop) (v1 : Sl) (v2 : Sl) (v3 : Int) (h4 : Heap) : (exec (C27) c27_25 false 51 (Fr.put (Fr.put (Fr.put (Fr0 76) (some 0) (Sl.v v1)) (some 1) (Sl.v v2)) (some 5) (.int .i64 v3)) h4 (loopE (grabC 76 [(0, sP), (1, sP), (5, iP .i64)] (lC (C27).P (C27).yld c27_25 76 [(0, sP), (1, sP), (5, iP .i64)] (outE noE (grabC 76 [(4, bP)] XR) [(0, (grabC 76 [] X0))]))) (outE noE (grabC 76 [(4, bP)] XR) [(0, (grabC 76 [] X0))]))) = z27_25 XR X0 v1 v2 v3 h4 := by kernel_rfl
theorem r27_25 (XR : Bool → Heap → Prop) (X0 : Heap → Prop) (v1 : Sl) (v2 : Sl) (v3 : Int) (h4 : Heap) (H : z27_25 XR X0 v1 v2 v3 h4) : l27_25 XR X0 v1 v2 v3 h4 := loop_stepE (p := 25) (N := 76) (keep := [(0, sP), (1, sP), (5, iP .i64)]) (o27) rfl s27_25 (k27_25 XR X0 v1 v2 v3 h4) (by kernel_rfl) H
def z27 (p0 : Sl) (p1 : Sl) (h : Heap) (K : Bool → Heap → Prop) : Prop :=
 (l27_25
 (fun z64 h65 =>
 (K z64 h65))
 (fun h66 =>
 (K true h66))
 p0 p1 0 h)
theorem k27 (p0 : Sl) (p1 : Sl) (h : Heap) (K : Bool → Heap → Prop) : fnK C27 Try.f27.results.toList Try.f27.ntmps b27 [(Sl.v p0), (Sl.v p1)] h (outC [bP] K) = z27 p0 p1 h K := by kernel_rfl
theorem r27 (p0 : Sl) (p1 : Sl) (h : Heap) (K : Bool → Heap → Prop) (H : z27 p0 p1 h K) : t27 p0 p1 h K := fn_stepE (C := C27) (fn := Try.f27) (g := 27) o27 rfl rfl (by kernel_rfl) (by kernel_rfl) (by kernel_rfl) (k27 p0 p1 h K) (by kernel_rfl) H

/-! 28: minikin/pair.CheckOrder -/
noncomputable def b28 : Code := Try.f28.body.getD .skip
noncomputable def C28 : Ctx := baseC Try.prog [95, 75] none (cons1 55 w55 (allF Try.prog)) (allI Try.prog) none1
theorem o28 : CtxOK (C28) b28 := (addF (base_ok eqOK mixOK none b28) (wC_ok Try.prog 55 [iP .i64, sP] [pP, iP .i64]))
def z28 (p0 : Int) (p1 : Sl) (h : Heap) (K : Int → Heap → Prop) : Prop :=
 (t55 p0 p1 h fun r1 r2 h3 =>
 (K r2 h3))
theorem k28 (p0 : Int) (p1 : Sl) (h : Heap) (K : Int → Heap → Prop) : fnK C28 Try.f28.results.toList Try.f28.ntmps b28 [(.int .i64 p0), (Sl.v p1)] h (outC [iP .i64] K) = z28 p0 p1 h K := by kernel_rfl
theorem r28 (p0 : Int) (p1 : Sl) (h : Heap) (K : Int → Heap → Prop) (H : z28 p0 p1 h K) : t28 p0 p1 h K := fn_stepE (C := C28) (fn := Try.f28) (g := 28) o28 rfl rfl (by kernel_rfl) (by kernel_rfl) (by kernel_rfl) (k28 p0 p1 h K) (by kernel_rfl) H

/-! 29: minikin/minikinlaw04.same -/
noncomputable def b29 : Code := Try.f29.body.getD .skip
noncomputable def c29_57 : Code := (subN b29 115).getD .skip
theorem s29_57 : subN b29 115 = some c29_57 := by kernel_rfl
theorem sl29_57 : subN b29 57 = some (.loop c29_57) := by kernel_rfl
noncomputable def l29_57 (XR : Bool → Heap → Prop) (X0 : Heap → Prop) : Sl → Sl → Int → Heap → Prop := lC Try.prog none c29_57 26 [(0, sP), (1, sP), (5, iP .i64)] (outE noE (grabC 26 [(4, bP)] XR) [(0, (grabC 26 [] X0))])
noncomputable def C29 : Ctx := baseC Try.prog [95, 75] none (allF Try.prog) (allI Try.prog) (cons1 57 (gC 26 [(0, sP), (1, sP), (5, iP .i64)] none (some [(4, bP)]) [(0, [])] (lC Try.prog none c29_57 26 [(0, sP), (1, sP), (5, iP .i64)])) none1)
theorem o29 : CtxOK (C29) b29 := (addL (base_ok eqOK mixOK none b29) sl29_57)
def z29_57 (XR : Bool → Heap → Prop) (X0 : Heap → Prop) (v1 : Sl) (v2 : Sl) (v3 : Int) (h4 : Heap) : Prop :=
 (branch (decide (v3 < ((v1.len : Nat) : Int)))
 (Go.AM.get v1.a fun a5 =>
 (chk (idx v3 v1.len) <|
 (Go.AM.get (asI .i64 (Heap.rd h4 ⟨a5.block, (a5.off + ((Int.toNat v3) * 1)), none⟩)) fun y6 =>
 (Go.AM.get v2.a fun a7 =>
 (chk (idx v3 v2.len) <|
 (Go.AM.get (asI .i64 (Heap.rd h4 ⟨a7.block, (a7.off + ((Int.toNat v3) * 1)), none⟩)) fun y8 =>
 (branch (y6 != y8)
 (XR false h4)
 (l29_57 XR X0 v1 v2 (IntKind.wrap .i64 (v3 + 1)) h4))))))))
 (X0 h4))
theorem k29_57 (XR : Bool → Heap → Prop) (X0 : Heap → Prop) (v1 : Sl) (v2 : Sl) (v3 : Int) (h4 : Heap) : (exec (C29) c29_57 false 115 (Fr.put (Fr.put (Fr.put (Fr0 26) (some 0) (Sl.v v1)) (some 1) (Sl.v v2)) (some 5) (.int .i64 v3)) h4 (loopE (grabC 26 [(0, sP), (1, sP), (5, iP .i64)] (lC (C29).P (C29).yld c29_57 26 [(0, sP), (1, sP), (5, iP .i64)] (outE noE (grabC 26 [(4, bP)] XR) [(0, (grabC 26 [] X0))]))) (outE noE (grabC 26 [(4, bP)] XR) [(0, (grabC 26 [] X0))]))) = z29_57 XR X0 v1 v2 v3 h4 := by kernel_rfl
theorem r29_57 (XR : Bool → Heap → Prop) (X0 : Heap → Prop) (v1 : Sl) (v2 : Sl) (v3 : Int) (h4 : Heap) (H : z29_57 XR X0 v1 v2 v3 h4) : l29_57 XR X0 v1 v2 v3 h4 := loop_stepE (p := 57) (N := 26) (keep := [(0, sP), (1, sP), (5, iP .i64)]) (o29) rfl s29_57 (k29_57 XR X0 v1 v2 v3 h4) (by kernel_rfl) H
def z29 (p0 : Sl) (p1 : Sl) (h : Heap) (K : Bool → Heap → Prop) : Prop :=
 (branch (((p0.len : Nat) : Int) != ((p1.len : Nat) : Int))
 (K false h)
 (l29_57
 (fun z9 h10 =>
 (K z9 h10))
 (fun h11 =>
 (K true h11))
 p0 p1 0 h))
theorem k29 (p0 : Sl) (p1 : Sl) (h : Heap) (K : Bool → Heap → Prop) : fnK C29 Try.f29.results.toList Try.f29.ntmps b29 [(Sl.v p0), (Sl.v p1)] h (outC [bP] K) = z29 p0 p1 h K := by kernel_rfl
theorem r29 (p0 : Sl) (p1 : Sl) (h : Heap) (K : Bool → Heap → Prop) (H : z29 p0 p1 h K) : t29 p0 p1 h K := fn_stepE (C := C29) (fn := Try.f29) (g := 29) o29 rfl rfl (by kernel_rfl) (by kernel_rfl) (by kernel_rfl) (k29 p0 p1 h K) (by kernel_rfl) H

/-! 30: minikin/minikinref04.Levels -/
noncomputable def b30 : Code := Try.f30.body.getD .skip
noncomputable def c30_7647816 : Code := (subN b30 7647816).getD .skip
theorem s30_7647816 : subN b30 7647816 = some c30_7647816 := by kernel_rfl
noncomputable def q30_7647816 (XN : Sl → Sl → Bool → Int → Int → Heap → Prop) : Sl → Sl → Bool → Int → Int → Bool → Heap → Prop := qC Try.prog none c30_7647816 50 [(0, sP), (3, sP), (4, bP), (5, iP .i64), (6, iP .i64), (40, bP)] (outE (grabC 50 [(0, sP), (3, sP), (4, bP), (5, iP .i64), (6, iP .i64)] XN) noE [])
noncomputable def c30_238993 : Code := (subN b30 477987).getD .skip
theorem s30_238993 : subN b30 477987 = some c30_238993 := by kernel_rfl
theorem sl30_238993 : subN b30 238993 = some (.loop c30_238993) := by kernel_rfl
noncomputable def l30_238993 (X4 : Sl → Sl → Bool → Int → Heap → Prop) : Sl → Sl → Bool → Int → Int → Heap → Prop := lC Try.prog none c30_238993 50 [(0, sP), (3, sP), (4, bP), (5, iP .i64), (6, iP .i64)] (outE noE noE [(4, (grabC 50 [(0, sP), (3, sP), (4, bP), (5, iP .i64)] X4))])
noncomputable def c30_3733 : Code := (subN b30 7467).getD .skip
theorem s30_3733 : subN b30 7467 = some c30_3733 := by kernel_rfl
theorem sl30_3733 : subN b30 3733 = some (.loop c30_3733) := by kernel_rfl
noncomputable def l30_3733 (X2 : Sl → Sl → Bool → Heap → Prop) : Sl → Sl → Bool → Int → Heap → Prop := lC Try.prog none c30_3733 50 [(0, sP), (3, sP), (4, bP), (5, iP .i64)] (outE noE noE [(2, (grabC 50 [(0, sP), (3, sP), (4, bP)] X2))])
noncomputable def c30_57 : Code := (subN b30 115).getD .skip
theorem s30_57 : subN b30 115 = some c30_57 := by kernel_rfl
theorem sl30_57 : subN b30 57 = some (.loop c30_57) := by kernel_rfl
noncomputable def l30_57 (X0 : Sl → Heap → Prop) : Sl → Sl → Bool → Heap → Prop := lC Try.prog none c30_57 50 [(0, sP), (3, sP), (4, bP)] (outE noE noE [(0, (grabC 50 [(3, sP)] X0))])
noncomputable def C30 : Ctx := baseC Try.prog [95, 75] none (allF Try.prog) (allI Try.prog) (cons1 57 (gC 50 [(0, sP), (3, sP), (4, bP)] none none [(0, [(3, sP)])] (lC Try.prog none c30_57 50 [(0, sP), (3, sP), (4, bP)])) (cons1 3733 (gC 50 [(0, sP), (3, sP), (4, bP), (5, iP .i64)] none none [(2, [(0, sP), (3, sP), (4, bP)])] (lC Try.prog none c30_3733 50 [(0, sP), (3, sP), (4, bP), (5, iP .i64)])) (cons1 238993 (gC 50 [(0, sP), (3, sP), (4, bP), (5, iP .i64), (6, iP .i64)] none none [(4, [(0, sP), (3, sP), (4, bP), (5, iP .i64)])] (lC Try.prog none c30_238993 50 [(0, sP), (3, sP), (4, bP), (5, iP .i64), (6, iP .i64)])) (cons1 7647816 (gC 50 [(0, sP), (3, sP), (4, bP), (5, iP .i64), (6, iP .i64), (40, bP)] (some [(0, sP), (3, sP), (4, bP), (5, iP .i64), (6, iP .i64)]) none [] (qC Try.prog none c30_7647816 50 [(0, sP), (3, sP), (4, bP), (5, iP .i64), (6, iP .i64), (40, bP)])) none1))))
theorem o30 : CtxOK (C30) b30 := (addL (addL (addL (addQ (base_ok eqOK mixOK none b30) s30_7647816) sl30_238993) sl30_3733) sl30_57)
def z30_7647816 (XN : Sl → Sl → Bool → Int → Int → Heap → Prop) (v26 : Sl) (v27 : Sl) (v28 : Bool) (v29 : Int) (v30 : Int) (v31 : Bool) (h32 : Heap) : Prop :=
 (branch v31
 (Go.AM.get v27.a fun a33 =>
 (chk (idx v30 v27.len) <|
 (Go.AM.get (asI .i64 (Heap.rd h32 ⟨a33.block, (a33.off + ((Int.toNat v30) * 1)), none⟩)) fun y34 =>
 (Go.AM.get v27.a fun a35 =>
 (chk (idx v29 v27.len) <|
 (Go.AM.get (Heap.wr h32 ⟨a35.block, (a35.off + ((Int.toNat v29) * 1)), none⟩ [(.int .i64 (IntKind.wrap .i64 (y34 + 1)))]) fun h36 =>
 (XN v26 v27 true v29 v30 h36)))))))
 (XN v26 v27 v28 v29 v30 h32))
theorem k30_7647816 (XN : Sl → Sl → Bool → Int → Int → Heap → Prop) (v26 : Sl) (v27 : Sl) (v28 : Bool) (v29 : Int) (v30 : Int) (v31 : Bool) (h32 : Heap) : (exec (C30) c30_7647816 true 7647816 (Fr.put (Fr.put (Fr.put (Fr.put (Fr.put (Fr.put (Fr0 50) (some 0) (Sl.v v26)) (some 3) (Sl.v v27)) (some 4) (.bool v28)) (some 5) (.int .i64 v29)) (some 6) (.int .i64 v30)) (some 40) (.bool v31)) h32 (outE (grabC 50 [(0, sP), (3, sP), (4, bP), (5, iP .i64), (6, iP .i64)] XN) noE [])) = z30_7647816 XN v26 v27 v28 v29 v30 v31 h32 := by kernel_rfl
theorem r30_7647816 (XN : Sl → Sl → Bool → Int → Int → Heap → Prop) (v26 : Sl) (v27 : Sl) (v28 : Bool) (v29 : Int) (v30 : Int) (v31 : Bool) (h32 : Heap) (H : z30_7647816 XN v26 v27 v28 v29 v30 v31 h32) : q30_7647816 XN v26 v27 v28 v29 v30 v31 h32 := piece_stepE (p := 7647816) (o30) rfl s30_7647816 (k30_7647816 XN v26 v27 v28 v29 v30 v31 h32) (by kernel_rfl) H
def z30_238993 (X4 : Sl → Sl → Bool → Int → Heap → Prop) (v12 : Sl) (v13 : Sl) (v14 : Bool) (v15 : Int) (v16 : Int) (h17 : Heap) : Prop :=
 (branch (decide (v16 < ((v12.len : Nat) : Int)))
 (Go.AM.get v12.a fun a37 =>
 (chk (idx v16 v12.len) <|
 (Go.AM.get (asS (Heap.rd h17 ⟨a37.block, (a37.off + ((Int.toNat v16) * 1)), none⟩)) fun y38 =>
 (Go.AM.get y38.a fun a39 =>
 (chk (idx v15 y38.len) <|
 (Go.AM.get (asB (Heap.rd h17 ⟨a39.block, (a39.off + ((Int.toNat v15) * 1)), none⟩)) fun y40 =>
 (branch y40
 (Go.AM.get v13.a fun a41 =>
 (chk (idx v15 v13.len) <|
 (Go.AM.get (asI .i64 (Heap.rd h17 ⟨a41.block, (a41.off + ((Int.toNat v15) * 1)), none⟩)) fun y42 =>
 (Go.AM.get v13.a fun a43 =>
 (chk (idx v16 v13.len) <|
 (Go.AM.get (asI .i64 (Heap.rd h17 ⟨a43.block, (a43.off + ((Int.toNat v16) * 1)), none⟩)) fun y44 =>
 (q30_7647816
 (fun z45 z46 z47 z48 z49 h50 =>
 (l30_238993 X4 z45 z46 z47 z48 (IntKind.wrap .i64 (z49 + 1)) h50))
 v12 v13 v14 v15 v16 (decide (y42 ≤ y44)) h17)))))))
 (q30_7647816
 (fun z51 z52 z53 z54 z55 h56 =>
 (l30_238993 X4 z51 z52 z53 z54 (IntKind.wrap .i64 (z55 + 1)) h56))
 v12 v13 v14 v15 v16 false h17))))))))
 (X4 v12 v13 v14 v15 h17))
theorem k30_238993 (X4 : Sl → Sl → Bool → Int → Heap → Prop) (v12 : Sl) (v13 : Sl) (v14 : Bool) (v15 : Int) (v16 : Int) (h17 : Heap) : (exec (C30) c30_238993 false 477987 (Fr.put (Fr.put (Fr.put (Fr.put (Fr.put (Fr0 50) (some 0) (Sl.v v12)) (some 3) (Sl.v v13)) (some 4) (.bool v14)) (some 5) (.int .i64 v15)) (some 6) (.int .i64 v16)) h17 (loopE (grabC 50 [(0, sP), (3, sP), (4, bP), (5, iP .i64), (6, iP .i64)] (lC (C30).P (C30).yld c30_238993 50 [(0, sP), (3, sP), (4, bP), (5, iP .i64), (6, iP .i64)] (outE noE noE [(4, (grabC 50 [(0, sP), (3, sP), (4, bP), (5, iP .i64)] X4))]))) (outE noE noE [(4, (grabC 50 [(0, sP), (3, sP), (4, bP), (5, iP .i64)] X4))]))) = z30_238993 X4 v12 v13 v14 v15 v16 h17 := by kernel_rfl
theorem r30_238993 (X4 : Sl → Sl → Bool → Int → Heap → Prop) (v12 : Sl) (v13 : Sl) (v14 : Bool) (v15 : Int) (v16 : Int) (h17 : Heap) (H : z30_238993 X4 v12 v13 v14 v15 v16 h17) : l30_238993 X4 v12 v13 v14 v15 v16 h17 := loop_stepE (p := 238993) (N := 50) (keep := [(0, sP), (3, sP), (4, bP), (5, iP .i64), (6, iP .i64)]) (o30) rfl s30_238993 (k30_238993 X4 v12 v13 v14 v15 v16 h17) (by kernel_rfl) H
def z30_3733 (X2 : Sl → Sl → Bool → Heap → Prop) (v7 : Sl) (v8 : Sl) (v9 : Bool) (v10 : Int) (h11 : Heap) : Prop :=
 (branch (decide (v10 < ((v7.len : Nat) : Int)))
 (l30_238993
 (fun z57 z58 z59 z60 h61 =>
 (l30_3733 X2 z57 z58 z59 (IntKind.wrap .i64 (z60 + 1)) h61))
 v7 v8 v9 v10 0 h11)
 (X2 v7 v8 v9 h11))
theorem k30_3733 (X2 : Sl → Sl → Bool → Heap → Prop) (v7 : Sl) (v8 : Sl) (v9 : Bool) (v10 : Int) (h11 : Heap) : (exec (C30) c30_3733 false 7467 (Fr.put (Fr.put (Fr.put (Fr.put (Fr0 50) (some 0) (Sl.v v7)) (some 3) (Sl.v v8)) (some 4) (.bool v9)) (some 5) (.int .i64 v10)) h11 (loopE (grabC 50 [(0, sP), (3, sP), (4, bP), (5, iP .i64)] (lC (C30).P (C30).yld c30_3733 50 [(0, sP), (3, sP), (4, bP), (5, iP .i64)] (outE noE noE [(2, (grabC 50 [(0, sP), (3, sP), (4, bP)] X2))]))) (outE noE noE [(2, (grabC 50 [(0, sP), (3, sP), (4, bP)] X2))]))) = z30_3733 X2 v7 v8 v9 v10 h11 := by kernel_rfl
theorem r30_3733 (X2 : Sl → Sl → Bool → Heap → Prop) (v7 : Sl) (v8 : Sl) (v9 : Bool) (v10 : Int) (h11 : Heap) (H : z30_3733 X2 v7 v8 v9 v10 h11) : l30_3733 X2 v7 v8 v9 v10 h11 := loop_stepE (p := 3733) (N := 50) (keep := [(0, sP), (3, sP), (4, bP), (5, iP .i64)]) (o30) rfl s30_3733 (k30_3733 X2 v7 v8 v9 v10 h11) (by kernel_rfl) H
def z30_57 (X0 : Sl → Heap → Prop) (v3 : Sl) (v4 : Sl) (v5 : Bool) (h6 : Heap) : Prop :=
 (branch v5
 (l30_3733
 (fun z62 z63 z64 h65 =>
 (l30_57 X0 z62 z63 z64 h65))
 v3 v4 false 0 h6)
 (X0 v4 h6))
theorem k30_57 (X0 : Sl → Heap → Prop) (v3 : Sl) (v4 : Sl) (v5 : Bool) (h6 : Heap) : (exec (C30) c30_57 false 115 (Fr.put (Fr.put (Fr.put (Fr0 50) (some 0) (Sl.v v3)) (some 3) (Sl.v v4)) (some 4) (.bool v5)) h6 (loopE (grabC 50 [(0, sP), (3, sP), (4, bP)] (lC (C30).P (C30).yld c30_57 50 [(0, sP), (3, sP), (4, bP)] (outE noE noE [(0, (grabC 50 [(3, sP)] X0))]))) (outE noE noE [(0, (grabC 50 [(3, sP)] X0))]))) = z30_57 X0 v3 v4 v5 h6 := by kernel_rfl
theorem r30_57 (X0 : Sl → Heap → Prop) (v3 : Sl) (v4 : Sl) (v5 : Bool) (h6 : Heap) (H : z30_57 X0 v3 v4 v5 h6) : l30_57 X0 v3 v4 v5 h6 := loop_stepE (p := 57) (N := 50) (keep := [(0, sP), (3, sP), (4, bP)]) (o30) rfl s30_57 (k30_57 X0 v3 v4 v5 h6) (by kernel_rfl) H
def z30 (p0 : Sl) (h : Heap) (K : Sl → Heap → Prop) : Prop :=
 (chk (within 0 ((p0.len : Nat) : Int) ((p0.len : Nat) : Int) && (decide (((p0.len : Nat) : Int) ≤ 1000000000000) && (small (Int.toNat ((p0.len : Nat) : Int)) 8 && true))) <|
 (withH (Heap.new h (.cells (rep [(.int .i64 0)] (Int.toNat ((p0.len : Nat) : Int))) false)) fun h2 =>
 (l30_57
 (fun z66 h67 =>
 (K z66 h67))
 p0 (Sl.mk (some ⟨h.next, 0, (some 0)⟩) (Int.toNat ((p0.len : Nat) : Int)) (Int.toNat ((p0.len : Nat) : Int))) true h2)))
theorem k30 (p0 : Sl) (h : Heap) (K : Sl → Heap → Prop) : fnK C30 Try.f30.results.toList Try.f30.ntmps b30 [(Sl.v p0)] h (outC [sP] K) = z30 p0 h K := by kernel_rfl
theorem r30 (p0 : Sl) (h : Heap) (K : Sl → Heap → Prop) (H : z30 p0 h K) : t30 p0 h K := fn_stepE (C := C30) (fn := Try.f30) (g := 30) o30 rfl rfl (by kernel_rfl) (by kernel_rfl) (by kernel_rfl) (k30 p0 h K) (by kernel_rfl) H

/-! 31: minikin/minikinref04.Longest -/
noncomputable def b31 : Code := Try.f31.body.getD .skip
noncomputable def c31_477477 : Code := (subN b31 954955).getD .skip
theorem s31_477477 : subN b31 954955 = some c31_477477 := by kernel_rfl
theorem sl31_477477 : subN b31 477477 = some (.loop c31_477477) := by kernel_rfl
noncomputable def l31_477477 (X4 : Sl → Sl → Int → Int → Heap → Prop) : Sl → Sl → Int → Int → Int → Heap → Prop := lC Try.prog none c31_477477 112 [(0, sP), (3, sP), (4, iP .i64), (5, iP .i64), (6, iP .i64)] (outE noE noE [(4, (grabC 112 [(0, sP), (3, sP), (4, iP .i64), (5, iP .i64)] X4))])
noncomputable def c31_3729 : Code := (subN b31 7459).getD .skip
theorem s31_3729 : subN b31 7459 = some c31_3729 := by kernel_rfl
theorem sl31_3729 : subN b31 3729 = some (.loop c31_3729) := by kernel_rfl
noncomputable def l31_3729 (X2 : Sl → Sl → Int → Heap → Prop) : Sl → Sl → Int → Int → Heap → Prop := lC Try.prog none c31_3729 112 [(0, sP), (3, sP), (4, iP .i64), (5, iP .i64)] (outE noE noE [(2, (grabC 112 [(0, sP), (3, sP), (4, iP .i64)] X2))])
noncomputable def c31_57 : Code := (subN b31 115).getD .skip
theorem s31_57 : subN b31 115 = some c31_57 := by kernel_rfl
theorem sl31_57 : subN b31 57 = some (.loop c31_57) := by kernel_rfl
noncomputable def l31_57 (X0 : Sl → Sl → Heap → Prop) : Sl → Sl → Int → Heap → Prop := lC Try.prog none c31_57 112 [(0, sP), (3, sP), (4, iP .i64)] (outE noE noE [(0, (grabC 112 [(0, sP), (3, sP)] X0))])
noncomputable def c31_249 : Code := (subN b31 499).getD .skip
theorem s31_249 : subN b31 499 = some c31_249 := by kernel_rfl
theorem sl31_249 : subN b31 249 = some (.loop c31_249) := by kernel_rfl
noncomputable def l31_249 (X6 : Sl → Sl → Int → Heap → Prop) : Sl → Sl → Int → Int → Heap → Prop := lC Try.prog none c31_249 112 [(0, sP), (3, sP), (7, iP .i64), (8, iP .i64)] (outE noE noE [(6, (grabC 112 [(0, sP), (3, sP), (7, iP .i64)] X6))])
noncomputable def c31_1040968 : Code := (subN b31 1040968).getD .skip
theorem s31_1040968 : subN b31 1040968 = some c31_1040968 := by kernel_rfl
noncomputable def q31_1040968 (XN : Sl → Sl → Int → Sl → Int → Heap → Prop) (X10 : Sl → Sl → Int → Sl → Heap → Prop) : Sl → Sl → Int → Sl → Int → Bool → Heap → Prop := qC Try.prog none c31_1040968 112 [(0, sP), (3, sP), (7, iP .i64), (9, sP), (10, iP .i64), (106, bP)] (outE (grabC 112 [(0, sP), (3, sP), (7, iP .i64), (9, sP), (10, iP .i64)] XN) noE [(10, (grabC 112 [(0, sP), (3, sP), (7, iP .i64), (9, sP)] X10))])
noncomputable def c31_32529 : Code := (subN b31 65059).getD .skip
theorem s31_32529 : subN b31 65059 = some c31_32529 := by kernel_rfl
theorem sl31_32529 : subN b31 32529 = some (.loop c31_32529) := by kernel_rfl
noncomputable def l31_32529 (X10 : Sl → Sl → Int → Sl → Heap → Prop) : Sl → Sl → Int → Sl → Int → Heap → Prop := lC Try.prog none c31_32529 112 [(0, sP), (3, sP), (7, iP .i64), (9, sP), (10, iP .i64)] (outE noE noE [(10, (grabC 112 [(0, sP), (3, sP), (7, iP .i64), (9, sP)] X10))])
noncomputable def c31_507 : Code := (subN b31 1015).getD .skip
theorem s31_507 : subN b31 1015 = some c31_507 := by kernel_rfl
theorem sl31_507 : subN b31 507 = some (.loop c31_507) := by kernel_rfl
noncomputable def l31_507 (X8 : Sl → Heap → Prop) : Sl → Sl → Int → Sl → Heap → Prop := lC Try.prog none c31_507 112 [(0, sP), (3, sP), (7, iP .i64), (9, sP)] (outE noE noE [(8, (grabC 112 [(9, sP)] X8))])
noncomputable def C31 : Ctx := baseC Try.prog [95, 75] none (allF Try.prog) (allI Try.prog) (cons1 507 (gC 112 [(0, sP), (3, sP), (7, iP .i64), (9, sP)] none none [(8, [(9, sP)])] (lC Try.prog none c31_507 112 [(0, sP), (3, sP), (7, iP .i64), (9, sP)])) (cons1 32529 (gC 112 [(0, sP), (3, sP), (7, iP .i64), (9, sP), (10, iP .i64)] none none [(10, [(0, sP), (3, sP), (7, iP .i64), (9, sP)])] (lC Try.prog none c31_32529 112 [(0, sP), (3, sP), (7, iP .i64), (9, sP), (10, iP .i64)])) (cons1 1040968 (gC 112 [(0, sP), (3, sP), (7, iP .i64), (9, sP), (10, iP .i64), (106, bP)] (some [(0, sP), (3, sP), (7, iP .i64), (9, sP), (10, iP .i64)]) none [(10, [(0, sP), (3, sP), (7, iP .i64), (9, sP)])] (qC Try.prog none c31_1040968 112 [(0, sP), (3, sP), (7, iP .i64), (9, sP), (10, iP .i64), (106, bP)])) (cons1 249 (gC 112 [(0, sP), (3, sP), (7, iP .i64), (8, iP .i64)] none none [(6, [(0, sP), (3, sP), (7, iP .i64)])] (lC Try.prog none c31_249 112 [(0, sP), (3, sP), (7, iP .i64), (8, iP .i64)])) (cons1 57 (gC 112 [(0, sP), (3, sP), (4, iP .i64)] none none [(0, [(0, sP), (3, sP)])] (lC Try.prog none c31_57 112 [(0, sP), (3, sP), (4, iP .i64)])) (cons1 3729 (gC 112 [(0, sP), (3, sP), (4, iP .i64), (5, iP .i64)] none none [(2, [(0, sP), (3, sP), (4, iP .i64)])] (lC Try.prog none c31_3729 112 [(0, sP), (3, sP), (4, iP .i64), (5, iP .i64)])) (cons1 477477 (gC 112 [(0, sP), (3, sP), (4, iP .i64), (5, iP .i64), (6, iP .i64)] none none [(4, [(0, sP), (3, sP), (4, iP .i64), (5, iP .i64)])] (lC Try.prog none c31_477477 112 [(0, sP), (3, sP), (4, iP .i64), (5, iP .i64), (6, iP .i64)])) none1)))))))
theorem o31 : CtxOK (C31) b31 := (addL (addL (addQ (addL (addL (addL (addL (base_ok eqOK mixOK none b31) sl31_477477) sl31_3729) sl31_57) sl31_249) s31_1040968) sl31_32529) sl31_507)
def z31_477477 (X4 : Sl → Sl → Int → Int → Heap → Prop) (v20 : Sl) (v21 : Sl) (v22 : Int) (v23 : Int) (v24 : Int) (h25 : Heap) : Prop :=
 (branch (decide (v24 < ((v20.len : Nat) : Int)))
 (Go.AM.get v20.a fun a30 =>
 (chk (idx v23 v20.len) <|
 (Go.AM.get (asS (Heap.rd h25 ⟨a30.block, (a30.off + ((Int.toNat v23) * 1)), none⟩)) fun y31 =>
 (Go.AM.get y31.a fun a32 =>
 (chk (idx v24 y31.len) <|
 (Go.AM.get (asB (Heap.rd h25 ⟨a32.block, (a32.off + ((Int.toNat v24) * 1)), none⟩)) fun y33 =>
 (branch y33
 (Go.AM.get v21.a fun a34 =>
 (chk (idx v23 v21.len) <|
 (Go.AM.get (asI .i64 (Heap.rd h25 ⟨a34.block, (a34.off + ((Int.toNat v23) * 1)), none⟩)) fun y35 =>
 (Go.AM.get v21.a fun a36 =>
 (chk (idx v24 v21.len) <|
 (Go.AM.get (asI .i64 (Heap.rd h25 ⟨a36.block, (a36.off + ((Int.toNat v24) * 1)), none⟩)) fun y37 =>
 (Go.AM.get v21.a fun a38 =>
 (chk (idx v23 v21.len) <|
 (Go.AM.get (Heap.wr h25 ⟨a38.block, (a38.off + ((Int.toNat v23) * 1)), none⟩ [(.int .i64 (if (IntKind.wrap .i64 (1 + y37)) > y35 then (IntKind.wrap .i64 (1 + y37)) else y35))]) fun h39 =>
 (l31_477477 X4 v20 v21 v22 v23 (IntKind.wrap .i64 (v24 + 1)) h39))))))))))
 (l31_477477 X4 v20 v21 v22 v23 (IntKind.wrap .i64 (v24 + 1)) h25))))))))
 (X4 v20 v21 v22 v23 h25))
theorem k31_477477 (X4 : Sl → Sl → Int → Int → Heap → Prop) (v20 : Sl) (v21 : Sl) (v22 : Int) (v23 : Int) (v24 : Int) (h25 : Heap) : (exec (C31) c31_477477 false 954955 (Fr.put (Fr.put (Fr.put (Fr.put (Fr.put (Fr0 112) (some 0) (Sl.v v20)) (some 3) (Sl.v v21)) (some 4) (.int .i64 v22)) (some 5) (.int .i64 v23)) (some 6) (.int .i64 v24)) h25 (loopE (grabC 112 [(0, sP), (3, sP), (4, iP .i64), (5, iP .i64), (6, iP .i64)] (lC (C31).P (C31).yld c31_477477 112 [(0, sP), (3, sP), (4, iP .i64), (5, iP .i64), (6, iP .i64)] (outE noE noE [(4, (grabC 112 [(0, sP), (3, sP), (4, iP .i64), (5, iP .i64)] X4))]))) (outE noE noE [(4, (grabC 112 [(0, sP), (3, sP), (4, iP .i64), (5, iP .i64)] X4))]))) = z31_477477 X4 v20 v21 v22 v23 v24 h25 := by kernel_rfl
theorem r31_477477 (X4 : Sl → Sl → Int → Int → Heap → Prop) (v20 : Sl) (v21 : Sl) (v22 : Int) (v23 : Int) (v24 : Int) (h25 : Heap) (H : z31_477477 X4 v20 v21 v22 v23 v24 h25) : l31_477477 X4 v20 v21 v22 v23 v24 h25 := loop_stepE (p := 477477) (N := 112) (keep := [(0, sP), (3, sP), (4, iP .i64), (5, iP .i64), (6, iP .i64)]) (o31) rfl s31_477477 (k31_477477 X4 v20 v21 v22 v23 v24 h25) (by kernel_rfl) H
def z31_3729 (X2 : Sl → Sl → Int → Heap → Prop) (v7 : Sl) (v8 : Sl) (v9 : Int) (v10 : Int) (h11 : Heap) : Prop :=
 (branch (decide (v10 < ((v7.len : Nat) : Int)))
 (Go.AM.get v8.a fun a16 =>
 (chk (idx v10 v8.len) <|
 (Go.AM.get (asI .i64 (Heap.rd h11 ⟨a16.block, (a16.off + ((Int.toNat v10) * 1)), none⟩)) fun y17 =>
 (Go.AM.get v8.a fun a18 =>
 (chk (idx v10 v8.len) <|
 (Go.AM.get (Heap.wr h11 ⟨a18.block, (a18.off + ((Int.toNat v10) * 1)), none⟩ [(.int .i64 (if 1 > y17 then 1 else y17))]) fun h19 =>
 (l31_477477
 (fun z40 z41 z42 z43 h44 =>
 (l31_3729 X2 z40 z41 z42 (IntKind.wrap .i64 (z43 + 1)) h44))
 v7 v8 v9 v10 0 h19)))))))
 (X2 v7 v8 v9 h11))
theorem k31_3729 (X2 : Sl → Sl → Int → Heap → Prop) (v7 : Sl) (v8 : Sl) (v9 : Int) (v10 : Int) (h11 : Heap) : (exec (C31) c31_3729 false 7459 (Fr.put (Fr.put (Fr.put (Fr.put (Fr0 112) (some 0) (Sl.v v7)) (some 3) (Sl.v v8)) (some 4) (.int .i64 v9)) (some 5) (.int .i64 v10)) h11 (loopE (grabC 112 [(0, sP), (3, sP), (4, iP .i64), (5, iP .i64)] (lC (C31).P (C31).yld c31_3729 112 [(0, sP), (3, sP), (4, iP .i64), (5, iP .i64)] (outE noE noE [(2, (grabC 112 [(0, sP), (3, sP), (4, iP .i64)] X2))]))) (outE noE noE [(2, (grabC 112 [(0, sP), (3, sP), (4, iP .i64)] X2))]))) = z31_3729 X2 v7 v8 v9 v10 h11 := by kernel_rfl
theorem r31_3729 (X2 : Sl → Sl → Int → Heap → Prop) (v7 : Sl) (v8 : Sl) (v9 : Int) (v10 : Int) (h11 : Heap) (H : z31_3729 X2 v7 v8 v9 v10 h11) : l31_3729 X2 v7 v8 v9 v10 h11 := loop_stepE (p := 3729) (N := 112) (keep := [(0, sP), (3, sP), (4, iP .i64), (5, iP .i64)]) (o31) rfl s31_3729 (k31_3729 X2 v7 v8 v9 v10 h11) (by kernel_rfl) H
def z31_57 (X0 : Sl → Sl → Heap → Prop) (v3 : Sl) (v4 : Sl) (v5 : Int) (h6 : Heap) : Prop :=
 (branch (decide (v5 < ((v3.len : Nat) : Int)))
 (l31_3729
 (fun z45 z46 z47 h48 =>
 (l31_57 X0 z45 z46 (IntKind.wrap .i64 (z47 + 1)) h48))
 v3 v4 v5 0 h6)
 (X0 v3 v4 h6))
theorem k31_57 (X0 : Sl → Sl → Heap → Prop) (v3 : Sl) (v4 : Sl) (v5 : Int) (h6 : Heap) : (exec (C31) c31_57 false 115 (Fr.put (Fr.put (Fr.put (Fr0 112) (some 0) (Sl.v v3)) (some 3) (Sl.v v4)) (some 4) (.int .i64 v5)) h6 (loopE (grabC 112 [(0, sP), (3, sP), (4, iP .i64)] (lC (C31).P (C31).yld c31_57 112 [(0, sP), (3, sP), (4, iP .i64)] (outE noE noE [(0, (grabC 112 [(0, sP), (3, sP)] X0))]))) (outE noE noE [(0, (grabC 112 [(0, sP), (3, sP)] X0))]))) = z31_57 X0 v3 v4 v5 h6 := by kernel_rfl
theorem r31_57 (X0 : Sl → Sl → Heap → Prop) (v3 : Sl) (v4 : Sl) (v5 : Int) (h6 : Heap) (H : z31_57 X0 v3 v4 v5 h6) : l31_57 X0 v3 v4 v5 h6 := loop_stepE (p := 57) (N := 112) (keep := [(0, sP), (3, sP), (4, iP .i64)]) (o31) rfl s31_57 (k31_57 X0 v3 v4 v5 h6) (by kernel_rfl) H
def z31_249 (X6 : Sl → Sl → Int → Heap → Prop) (v55 : Sl) (v56 : Sl) (v57 : Int) (v58 : Int) (h59 : Heap) : Prop :=
 (branch (decide (v58 < ((v55.len : Nat) : Int)))
 (Go.AM.get v56.a fun a60 =>
 (chk (idx v58 v56.len) <|
 (Go.AM.get (asI .i64 (Heap.rd h59 ⟨a60.block, (a60.off + ((Int.toNat v58) * 1)), none⟩)) fun y61 =>
 (l31_249 X6 v55 v56 (if y61 > v57 then y61 else v57) (IntKind.wrap .i64 (v58 + 1)) h59))))
 (X6 v55 v56 v57 h59))
theorem k31_249 (X6 : Sl → Sl → Int → Heap → Prop) (v55 : Sl) (v56 : Sl) (v57 : Int) (v58 : Int) (h59 : Heap) : (exec (C31) c31_249 false 499 (Fr.put (Fr.put (Fr.put (Fr.put (Fr0 112) (some 0) (Sl.v v55)) (some 3) (Sl.v v56)) (some 7) (.int .i64 v57)) (some 8) (.int .i64 v58)) h59 (loopE (grabC 112 [(0, sP), (3, sP), (7, iP .i64), (8, iP .i64)] (lC (C31).P (C31).yld c31_249 112 [(0, sP), (3, sP), (7, iP .i64), (8, iP .i64)] (outE noE noE [(6, (grabC 112 [(0, sP), (3, sP), (7, iP .i64)] X6))]))) (outE noE noE [(6, (grabC 112 [(0, sP), (3, sP), (7, iP .i64)] X6))]))) = z31_249 X6 v55 v56 v57 v58 h59 := by kernel_rfl
theorem r31_249 (X6 : Sl → Sl → Int → Heap → Prop) (v55 : Sl) (v56 : Sl) (v57 : Int) (v58 : Int) (h59 : Heap) (H : z31_249 X6 v55 v56 v57 v58 h59) : l31_249 X6 v55 v56 v57 v58 h59 := loop_stepE (p := 249) (N := 112) (keep := [(0, sP), (3, sP), (7, iP .i64), (8, iP .i64)]) (o31) rfl s31_249 (k31_249 X6 v55 v56 v57 v58 h59) (by kernel_rfl) H
def z31_1040968 (XN : Sl → Sl → Int → Sl → Int → Heap → Prop) (X10 : Sl → Sl → Int → Sl → Heap → Prop) (v89 : Sl) (v90 : Sl) (v91 : Int) (v92 : Sl) (v93 : Int) (v94 : Bool) (h95 : Heap) : Prop :=
 (branch v94
 (withH (Heap.new h95 (.cells [(.int .i64 v93)] false)) fun h96 =>
 (Go.AM.get (Heap.rdN h96 ⟨h95.next, 0, none⟩ 1) fun y97 =>
 (Go.AM.get (Heap.app h96 1 8 v92 1 y97) fun r98 =>
 (X10 v89 v90 v91 r98.1 r98.2))))
 (XN v89 v90 v91 v92 v93 h95))
theorem k31_1040968 (XN : Sl → Sl → Int → Sl → Int → Heap → Prop) (X10 : Sl → Sl → Int → Sl → Heap → Prop) (v89 : Sl) (v90 : Sl) (v91 : Int) (v92 : Sl) (v93 : Int) (v94 : Bool) (h95 : Heap) : (exec (C31) c31_1040968 true 1040968 (Fr.put (Fr.put (Fr.put (Fr.put (Fr.put (Fr.put (Fr0 112) (some 0) (Sl.v v89)) (some 3) (Sl.v v90)) (some 7) (.int .i64 v91)) (some 9) (Sl.v v92)) (some 10) (.int .i64 v93)) (some 106) (.bool v94)) h95 (outE (grabC 112 [(0, sP), (3, sP), (7, iP .i64), (9, sP), (10, iP .i64)] XN) noE [(10, (grabC 112 [(0, sP), (3, sP), (7, iP .i64), (9, sP)] X10))])) = z31_1040968 XN X10 v89 v90 v91 v92 v93 v94 h95 := by kernel_rfl
theorem r31_1040968 (XN : Sl → Sl → Int → Sl → Int → Heap → Prop) (X10 : Sl → Sl → Int → Sl → Heap → Prop) (v89 : Sl) (v90 : Sl) (v91 : Int) (v92 : Sl) (v93 : Int) (v94 : Bool) (h95 : Heap) (H : z31_1040968 XN X10 v89 v90 v91 v92 v93 v94 h95) : q31_1040968 XN X10 v89 v90 v91 v92 v93 v94 h95 := piece_stepE (p := 1040968) (o31) rfl s31_1040968 (k31_1040968 XN X10 v89 v90 v91 v92 v93 v94 h95) (by kernel_rfl) H
def z31_32529 (X10 : Sl → Sl → Int → Sl → Heap → Prop) (v75 : Sl) (v76 : Sl) (v77 : Int) (v78 : Sl) (v79 : Int) (h80 : Heap) : Prop :=
 (branch (decide (v79 < ((v75.len : Nat) : Int)))
 (Go.AM.get v76.a fun a99 =>
 (chk (idx v79 v76.len) <|
 (Go.AM.get (asI .i64 (Heap.rd h80 ⟨a99.block, (a99.off + ((Int.toNat v79) * 1)), none⟩)) fun y100 =>
 (branch (y100 == v77)
 (branch (((v78.len : Nat) : Int) == 0)
 (q31_1040968
 (fun z101 z102 z103 z104 z105 h106 =>
 (l31_32529 X10 z101 z102 z103 z104 (IntKind.wrap .i64 (z105 + 1)) h106))
 (fun z107 z108 z109 z110 h111 =>
 (X10 z107 z108 z109 z110 h111))
 v75 v76 v77 v78 v79 true h80)
 (Go.AM.get v78.a fun a112 =>
 (chk (idx (IntKind.wrap .i64 (((v78.len : Nat) : Int) - 1)) v78.len) <|
 (Go.AM.get (asI .i64 (Heap.rd h80 ⟨a112.block, (a112.off + ((Int.toNat (IntKind.wrap .i64 (((v78.len : Nat) : Int) - 1))) * 1)), none⟩)) fun y113 =>
 (Go.AM.get v75.a fun a114 =>
 (chk (idx y113 v75.len) <|
 (Go.AM.get (asS (Heap.rd h80 ⟨a114.block, (a114.off + ((Int.toNat y113) * 1)), none⟩)) fun y115 =>
 (Go.AM.get y115.a fun a116 =>
 (chk (idx v79 y115.len) <|
 (Go.AM.get (asB (Heap.rd h80 ⟨a116.block, (a116.off + ((Int.toNat v79) * 1)), none⟩)) fun y117 =>
 (q31_1040968
 (fun z118 z119 z120 z121 z122 h123 =>
 (l31_32529 X10 z118 z119 z120 z121 (IntKind.wrap .i64 (z122 + 1)) h123))
 (fun z124 z125 z126 z127 h128 =>
 (X10 z124 z125 z126 z127 h128))
 v75 v76 v77 v78 v79 y117 h80)))))))))))
 (q31_1040968
 (fun z129 z130 z131 z132 z133 h134 =>
 (l31_32529 X10 z129 z130 z131 z132 (IntKind.wrap .i64 (z133 + 1)) h134))
 (fun z135 z136 z137 z138 h139 =>
 (X10 z135 z136 z137 z138 h139))
 v75 v76 v77 v78 v79 false h80)))))
 (X10 v75 v76 v77 v78 h80))
theorem k31_32529 (X10 : Sl → Sl → Int → Sl → Heap → Prop) (v75 : Sl) (v76 : Sl) (v77 : Int) (v78 : Sl) (v79 : Int) (h80 : Heap) : (exec (C31) c31_32529 false 65059 (Fr.put (Fr.put (Fr.put (Fr.put (Fr.put (Fr0 112) (some 0) (Sl.v v75)) (some 3) (Sl.v v76)) (some 7) (.int .i64 v77)) (some 9) (Sl.v v78)) (some 10) (.int .i64 v79)) h80 (loopE (grabC 112 [(0, sP), (3, sP), (7, iP .i64), (9, sP), (10, iP .i64)] (lC (C31).P (C31).yld c31_32529 112 [(0, sP), (3, sP), (7, iP .i64), (9, sP), (10, iP .i64)] (outE noE noE [(10, (grabC 112 [(0, sP), (3, sP), (7, iP .i64), (9, sP)] X10))]))) (outE noE noE [(10, (grabC 112 [(0, sP), (3, sP), (7, iP .i64), (9, sP)] X10))]))) = z31_32529 X10 v75 v76 v77 v78 v79 h80 := by kernel_rfl
theorem r31_32529 (X10 : Sl → Sl → Int → Sl → Heap → Prop) (v75 : Sl) (v76 : Sl) (v77 : Int) (v78 : Sl) (v79 : Int) (h80 : Heap) (H : z31_32529 X10 v75 v76 v77 v78 v79 h80) : l31_32529 X10 v75 v76 v77 v78 v79 h80 := loop_stepE (p := 32529) (N := 112) (keep := [(0, sP), (3, sP), (7, iP .i64), (9, sP), (10, iP .i64)]) (o31) rfl s31_32529 (k31_32529 X10 v75 v76 v77 v78 v79 h80) (by kernel_rfl) H
def z31_507 (X8 : Sl → Heap → Prop) (v70 : Sl) (v71 : Sl) (v72 : Int) (v73 : Sl) (h74 : Heap) : Prop :=
 (branch (decide (v72 > 0))
 (l31_32529
 (fun z140 z141 z142 z143 h144 =>
 (l31_507 X8 z140 z141 (IntKind.wrap .i64 (z142 - 1)) z143 h144))
 v70 v71 v72 v73 0 h74)
 (X8 v73 h74))
theorem k31_507 (X8 : Sl → Heap → Prop) (v70 : Sl) (v71 : Sl) (v72 : Int) (v73 : Sl) (h74 : Heap) : (exec (C31) c31_507 false 1015 (Fr.put (Fr.put (Fr.put (Fr.put (Fr0 112) (some 0) (Sl.v v70)) (some 3) (Sl.v v71)) (some 7) (.int .i64 v72)) (some 9) (Sl.v v73)) h74 (loopE (grabC 112 [(0, sP), (3, sP), (7, iP .i64), (9, sP)] (lC (C31).P (C31).yld c31_507 112 [(0, sP), (3, sP), (7, iP .i64), (9, sP)] (outE noE noE [(8, (grabC 112 [(9, sP)] X8))]))) (outE noE noE [(8, (grabC 112 [(9, sP)] X8))]))) = z31_507 X8 v70 v71 v72 v73 h74 := by kernel_rfl
theorem r31_507 (X8 : Sl → Heap → Prop) (v70 : Sl) (v71 : Sl) (v72 : Int) (v73 : Sl) (h74 : Heap) (H : z31_507 X8 v70 v71 v72 v73 h74) : l31_507 X8 v70 v71 v72 v73 h74 := loop_stepE (p := 507) (N := 112) (keep := [(0, sP), (3, sP), (7, iP .i64), (9, sP)]) (o31) rfl s31_507 (k31_507 X8 v70 v71 v72 v73 h74) (by kernel_rfl) H
def z31 (p0 : Sl) (h : Heap) (K : Sl → Heap → Prop) : Prop :=
 (chk (within 0 ((p0.len : Nat) : Int) ((p0.len : Nat) : Int) && (decide (((p0.len : Nat) : Int) ≤ 1000000000000) && (small (Int.toNat ((p0.len : Nat) : Int)) 8 && true))) <|
 (withH (Heap.new h (.cells (rep [(.int .i64 0)] (Int.toNat ((p0.len : Nat) : Int))) false)) fun h2 =>
 (l31_57
 (fun z52 z53 h54 =>
 (l31_249
 (fun z66 z67 z68 h69 =>
 (l31_507
 (fun z145 h146 =>
 (K z145 h146))
 z66 z67 z68 (Sl.mk none 0 0) h69))
 z52 z53 0 0 h54))
 p0 (Sl.mk (some ⟨h.next, 0, (some 0)⟩) (Int.toNat ((p0.len : Nat) : Int)) (Int.toNat ((p0.len : Nat) : Int))) 0 h2)))
theorem k31 (p0 : Sl) (h : Heap) (K : Sl → Heap → Prop) : fnK C31 Try.f31.results.toList Try.f31.ntmps b31 [(Sl.v p0)] h (outC [sP] K) = z31 p0 h K := by kernel_rfl
theorem r31 (p0 : Sl) (h : Heap) (K : Sl → Heap → Prop) (H : z31 p0 h K) : t31 p0 h K := fn_stepE (C := C31) (fn := Try.f31) (g := 31) o31 rfl rfl (by kernel_rfl) (by kernel_rfl) (by kernel_rfl) (k31 p0 h K) (by kernel_rfl) H

end Go.Proofs.Ytalmoilcehhjkaa
