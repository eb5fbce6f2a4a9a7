/- PRINTED BY A PROGRAM OF OURS: what the functions do, step by step, and that the model says so. -/
import Derived.Test.YtalmoilcehhjkaaHeads
set_option linter.unusedVariables false
set_option linter.unusedSimpArgs false
namespace Go.Proofs.Ytalmoilcehhjkaa
open Go hiding Expr
open Go.AM hiding get
/-! 59: slices.Max[[]int,int] -/
noncomputable def b59 : Code := Try.f59.body.getD .skip
noncomputable def c59_121 : Code := (subN b59 243).getD .skip
theorem s59_121 : subN b59 243 = some c59_121 := by kernel_rfl
theorem sl59_121 : subN b59 121 = some (.loop c59_121) := by kernel_rfl
noncomputable def l59_121 (X0 : Int → Heap → Prop) : Sl → Int → Int → Heap → Prop := lC Try.prog none c59_121 25 [(0, sP), (3, iP .i64), (4, iP .i64)] (outE noE noE [(0, (grabC 25 [(3, iP .i64)] X0))])
noncomputable def C59 : Ctx := baseC Try.prog [95, 75] none (allF Try.prog) (allI Try.prog) (cons1 121 (gC 25 [(0, sP), (3, iP .i64), (4, iP .i64)] none none [(0, [(3, iP .i64)])] (lC Try.prog none c59_121 25 [(0, sP), (3, iP .i64), (4, iP .i64)])) none1)
theorem o59 : CtxOK (C59) b59 := (addL (base_ok eqOK mixOK none b59) sl59_121)
def z59_121 (X0 : Int → Heap → Prop) (v5 : Sl) (v6 : Int) (v7 : Int) (h8 : Heap) : Prop :=
 (branch (decide (v7 < ((v5.len : Nat) : Int)))
 (Go.AM.get v5.a fun a9 =>
 (chk (idx v7 v5.len) <|
 (Go.AM.get (asI .i64 (Heap.rd h8 ⟨a9.block, (a9.off + ((Int.toNat v7) * 1)), none⟩)) fun y10 =>
 (l59_121 X0 v5 (if y10 > v6 then y10 else v6) (IntKind.wrap .i64 (v7 + 1)) h8))))
 (X0 v6 h8))
theorem k59_121 (X0 : Int → Heap → Prop) (v5 : Sl) (v6 : Int) (v7 : Int) (h8 : Heap) : (exec (C59) c59_121 false 243 (Fr.put (Fr.put (Fr.put (Fr0 25) (some 0) (Sl.v v5)) (some 3) (.int .i64 v6)) (some 4) (.int .i64 v7)) h8 (loopE (grabC 25 [(0, sP), (3, iP .i64), (4, iP .i64)] (lC (C59).P (C59).yld c59_121 25 [(0, sP), (3, iP .i64), (4, iP .i64)] (outE noE noE [(0, (grabC 25 [(3, iP .i64)] X0))]))) (outE noE noE [(0, (grabC 25 [(3, iP .i64)] X0))]))) = z59_121 X0 v5 v6 v7 h8 := by kernel_rfl
theorem r59_121 (X0 : Int → Heap → Prop) (v5 : Sl) (v6 : Int) (v7 : Int) (h8 : Heap) (H : z59_121 X0 v5 v6 v7 h8) : l59_121 X0 v5 v6 v7 h8 := loop_stepE (p := 121) (N := 25) (keep := [(0, sP), (3, iP .i64), (4, iP .i64)]) (o59) rfl s59_121 (k59_121 X0 v5 v6 v7 h8) (by kernel_rfl) H
def z59 (p0 : Sl) (h : Heap) (K : Int → Heap → Prop) : Prop :=
 (branch (decide (((p0.len : Nat) : Int) < 1))
 False
 (Go.AM.get p0.a fun a3 =>
 (chk (idx 0 p0.len) <|
 (Go.AM.get (asI .i64 (Heap.rd h ⟨a3.block, a3.off, none⟩)) fun y4 =>
 (l59_121
 (fun z11 h12 =>
 (K z11 h12))
 p0 y4 1 h)))))
theorem k59 (p0 : Sl) (h : Heap) (K : Int → Heap → Prop) : fnK C59 Try.f59.results.toList Try.f59.ntmps b59 [(Sl.v p0)] h (outC [iP .i64] K) = z59 p0 h K := by kernel_rfl
theorem r59 (p0 : Sl) (h : Heap) (K : Int → Heap → Prop) (H : z59 p0 h K) : t59 p0 h K := fn_stepE (C := C59) (fn := Try.f59) (g := 59) o59 rfl rfl (by kernel_rfl) (by kernel_rfl) (by kernel_rfl) (k59 p0 h K) (by kernel_rfl) H

/-! 60: minikin/pair.coloured -/
noncomputable def b60 : Code := Try.f60.body.getD .skip
noncomputable def c60_57 : Code := (subN b60 115).getD .skip
theorem s60_57 : subN b60 115 = some c60_57 := by kernel_rfl
theorem sl60_57 : subN b60 57 = some (.loop c60_57) := by kernel_rfl
noncomputable def l60_57 (X0 : Option Addr → Option Addr → Option Addr → Heap → Prop) : Option Addr → Option Addr → Option Addr → Int → Heap → Prop := lC Try.prog none c60_57 83 [(1, pP), (2, pP), (4, pP), (16, iP .i64)] (outE noE noE [(0, (grabC 83 [(1, pP), (2, pP), (4, pP)] X0))])
noncomputable def c60_2053622066 : Code := (subN b60 2053622066).getD .skip
theorem s60_2053622066 : subN b60 2053622066 = some c60_2053622066 := by kernel_rfl
noncomputable def q60_2053622066 (XN : Option Addr → Option Addr → Sl → Int → Int → Int → Sl → Int → Int → Heap → Prop) (XR : Option Addr → Bool → Heap → Prop) : Option Addr → Option Addr → Sl → Int → Int → Int → Int → Sl → Int → Int → Heap → Prop := qC Try.prog none c60_2053622066 83 [(2, pP), (4, pP), (7, sP), (8, iP .i64), (10, iP .i64), (23, iP .i64), (24, iP .i64), (46, sP), (47, iP .i64), (48, iP .i64)] (outE (grabC 83 [(2, pP), (4, pP), (7, sP), (8, iP .i64), (23, iP .i64), (24, iP .i64), (46, sP), (47, iP .i64), (48, iP .i64)] XN) (grabC 83 [(2, pP), (3, bP)] XR) [])
noncomputable def c60_16043921 : Code := (subN b60 32087843).getD .skip
theorem s60_16043921 : subN b60 32087843 = some c60_16043921 := by kernel_rfl
theorem sl60_16043921 : subN b60 16043921 = some (.loop c60_16043921) := by kernel_rfl
noncomputable def l60_16043921 (XR : Option Addr → Bool → Heap → Prop) (X6 : Option Addr → Option Addr → Sl → Int → Int → Int → Heap → Prop) : Option Addr → Option Addr → Sl → Int → Int → Int → Sl → Int → Int → Heap → Prop := lC Try.prog none c60_16043921 83 [(2, pP), (4, pP), (7, sP), (8, iP .i64), (23, iP .i64), (24, iP .i64), (46, sP), (47, iP .i64), (48, iP .i64)] (outE noE (grabC 83 [(2, pP), (3, bP)] XR) [(6, (grabC 83 [(2, pP), (4, pP), (7, sP), (8, iP .i64), (23, iP .i64), (24, iP .i64)] X6))])
noncomputable def c60_250685 : Code := (subN b60 501371).getD .skip
theorem s60_250685 : subN b60 501371 = some c60_250685 := by kernel_rfl
theorem sl60_250685 : subN b60 250685 = some (.loop c60_250685) := by kernel_rfl
noncomputable def l60_250685 (XR : Option Addr → Bool → Heap → Prop) (X4 : Option Addr → Option Addr → Int → Int → Heap → Prop) : Option Addr → Option Addr → Sl → Int → Int → Int → Heap → Prop := lC Try.prog none c60_250685 83 [(2, pP), (4, pP), (7, sP), (8, iP .i64), (23, iP .i64), (24, iP .i64)] (outE noE (grabC 83 [(2, pP), (3, bP)] XR) [(4, (grabC 83 [(2, pP), (4, pP), (23, iP .i64), (24, iP .i64)] X4))])
noncomputable def c60_121 : Code := (subN b60 243).getD .skip
theorem s60_121 : subN b60 243 = some c60_121 := by kernel_rfl
theorem sl60_121 : subN b60 121 = some (.loop c60_121) := by kernel_rfl
noncomputable def l60_121 (XR : Option Addr → Bool → Heap → Prop) (X2 : Option Addr → Heap → Prop) : Option Addr → Option Addr → Int → Int → Heap → Prop := lC Try.prog none c60_121 83 [(2, pP), (4, pP), (23, iP .i64), (24, iP .i64)] (outE noE (grabC 83 [(2, pP), (3, bP)] XR) [(2, (grabC 83 [(2, pP)] X2))])
noncomputable def C60 : Ctx := baseC Try.prog [95, 75] none (cons1 49 w49 (allF Try.prog)) (allI Try.prog) (cons1 121 (gC 83 [(2, pP), (4, pP), (23, iP .i64), (24, iP .i64)] none (some [(2, pP), (3, bP)]) [(2, [(2, pP)])] (lC Try.prog none c60_121 83 [(2, pP), (4, pP), (23, iP .i64), (24, iP .i64)])) (cons1 250685 (gC 83 [(2, pP), (4, pP), (7, sP), (8, iP .i64), (23, iP .i64), (24, iP .i64)] none (some [(2, pP), (3, bP)]) [(4, [(2, pP), (4, pP), (23, iP .i64), (24, iP .i64)])] (lC Try.prog none c60_250685 83 [(2, pP), (4, pP), (7, sP), (8, iP .i64), (23, iP .i64), (24, iP .i64)])) (cons1 16043921 (gC 83 [(2, pP), (4, pP), (7, sP), (8, iP .i64), (23, iP .i64), (24, iP .i64), (46, sP), (47, iP .i64), (48, iP .i64)] none (some [(2, pP), (3, bP)]) [(6, [(2, pP), (4, pP), (7, sP), (8, iP .i64), (23, iP .i64), (24, iP .i64)])] (lC Try.prog none c60_16043921 83 [(2, pP), (4, pP), (7, sP), (8, iP .i64), (23, iP .i64), (24, iP .i64), (46, sP), (47, iP .i64), (48, iP .i64)])) (cons1 2053622066 (gC 83 [(2, pP), (4, pP), (7, sP), (8, iP .i64), (10, iP .i64), (23, iP .i64), (24, iP .i64), (46, sP), (47, iP .i64), (48, iP .i64)] (some [(2, pP), (4, pP), (7, sP), (8, iP .i64), (23, iP .i64), (24, iP .i64), (46, sP), (47, iP .i64), (48, iP .i64)]) (some [(2, pP), (3, bP)]) [] (qC Try.prog none c60_2053622066 83 [(2, pP), (4, pP), (7, sP), (8, iP .i64), (10, iP .i64), (23, iP .i64), (24, iP .i64), (46, sP), (47, iP .i64), (48, iP .i64)])) (cons1 57 (gC 83 [(1, pP), (2, pP), (4, pP), (16, iP .i64)] none none [(0, [(1, pP), (2, pP), (4, pP)])] (lC Try.prog none c60_57 83 [(1, pP), (2, pP), (4, pP), (16, iP .i64)])) none1)))))
theorem o60 : CtxOK (C60) b60 := (addL (addL (addL (addQ (addL (addF (base_ok eqOK mixOK none b60) (wC_ok Try.prog 49 [aggP [iP .i64, sP], iP .i64] [pP])) sl60_57) s60_2053622066) sl60_16043921) sl60_250685) sl60_121)
def z60_57 (X0 : Option Addr → Option Addr → Option Addr → Heap → Prop) (v21 : Option Addr) (v22 : Option Addr) (v23 : Option Addr) (v24 : Int) (h25 : Heap) : Prop :=
 (branch (decide (v24 < 40))
 (Go.AM.get v22 fun a26 =>
 (chk (idx v24 40) <|
 (Go.AM.get (Heap.wr h25 ⟨a26.block, (a26.off + ((Int.toNat v24) * 1)), none⟩ [(.int .i64 (-1))]) fun h27 =>
 (l60_57 X0 v21 v22 v23 (IntKind.wrap .i64 (v24 + 1)) h27))))
 (X0 v21 v22 v23 h25))
theorem k60_57 (X0 : Option Addr → Option Addr → Option Addr → Heap → Prop) (v21 : Option Addr) (v22 : Option Addr) (v23 : Option Addr) (v24 : Int) (h25 : Heap) : (exec (C60) c60_57 false 115 (Fr.put (Fr.put (Fr.put (Fr.put (Fr0 83) (some 1) (.pointer v21)) (some 2) (.pointer v22)) (some 4) (.pointer v23)) (some 16) (.int .i64 v24)) h25 (loopE (grabC 83 [(1, pP), (2, pP), (4, pP), (16, iP .i64)] (lC (C60).P (C60).yld c60_57 83 [(1, pP), (2, pP), (4, pP), (16, iP .i64)] (outE noE noE [(0, (grabC 83 [(1, pP), (2, pP), (4, pP)] X0))]))) (outE noE noE [(0, (grabC 83 [(1, pP), (2, pP), (4, pP)] X0))]))) = z60_57 X0 v21 v22 v23 v24 h25 := by kernel_rfl
theorem r60_57 (X0 : Option Addr → Option Addr → Option Addr → Heap → Prop) (v21 : Option Addr) (v22 : Option Addr) (v23 : Option Addr) (v24 : Int) (h25 : Heap) (H : z60_57 X0 v21 v22 v23 v24 h25) : l60_57 X0 v21 v22 v23 v24 h25 := loop_stepE (p := 57) (N := 83) (keep := [(1, pP), (2, pP), (4, pP), (16, iP .i64)]) (o60) rfl s60_57 (k60_57 X0 v21 v22 v23 v24 h25) (by kernel_rfl) H
def z60_2053622066 (XN : Option Addr → Option Addr → Sl → Int → Int → Int → Sl → Int → Int → Heap → Prop) (XR : Option Addr → Bool → Heap → Prop) (v97 : Option Addr) (v98 : Option Addr) (v99 : Sl) (v100 : Int) (v101 : Int) (v102 : Int) (v103 : Int) (v104 : Sl) (v105 : Int) (v106 : Int) (h107 : Heap) : Prop :=
 (Go.AM.get v97 fun a108 =>
 (chk (idx v101 40) <|
 (Go.AM.get (asI .i64 (Heap.rd h107 ⟨a108.block, (a108.off + ((Int.toNat v101) * 1)), none⟩)) fun y109 =>
 (Go.AM.get v99.a fun a110 =>
 (chk (idx v100 v99.len) <|
 (Go.AM.get (asI .i64 (Heap.rd h107 ⟨a110.block, (a110.off + ((Int.toNat v100) * 1)), none⟩)) fun y111 =>
 (Go.AM.get v97 fun a112 =>
 (chk (idx y111 40) <|
 (Go.AM.get (asI .i64 (Heap.rd h107 ⟨a112.block, (a112.off + ((Int.toNat y111) * 1)), none⟩)) fun y113 =>
 (branch (y109 == y113)
 (Go.AM.get v97 fun a114 =>
 (Go.AM.get (Heap.rdN h107 a114 40) fun y115 =>
 (Go.AM.get v97 fun a116 =>
 (chk (Nat.beq (List.length y115) 40 && List.all y115 Value.oneCell') <|
 (Go.AM.get (Heap.wr h107 a116 y115) fun h117 =>
 (XR v97 false h117))))))
 (XN v97 v98 v99 v100 v102 v103 v104 v105 v106 h107)))))))))))
theorem k60_2053622066 (XN : Option Addr → Option Addr → Sl → Int → Int → Int → Sl → Int → Int → Heap → Prop) (XR : Option Addr → Bool → Heap → Prop) (v97 : Option Addr) (v98 : Option Addr) (v99 : Sl) (v100 : Int) (v101 : Int) (v102 : Int) (v103 : Int) (v104 : Sl) (v105 : Int) (v106 : Int) (h107 : Heap) : (exec (C60) c60_2053622066 true 2053622066 (Fr.put (Fr.put (Fr.put (Fr.put (Fr.put (Fr.put (Fr.put (Fr.put (Fr.put (Fr.put (Fr0 83) (some 2) (.pointer v97)) (some 4) (.pointer v98)) (some 7) (Sl.v v99)) (some 8) (.int .i64 v100)) (some 10) (.int .i64 v101)) (some 23) (.int .i64 v102)) (some 24) (.int .i64 v103)) (some 46) (Sl.v v104)) (some 47) (.int .i64 v105)) (some 48) (.int .i64 v106)) h107 (outE (grabC 83 [(2, pP), (4, pP), (7, sP), (8, iP .i64), (23, iP .i64), (24, iP .i64), (46, sP), (47, iP .i64), (48, iP .i64)] XN) (grabC 83 [(2, pP), (3, bP)] XR) [])) = z60_2053622066 XN XR v97 v98 v99 v100 v101 v102 v103 v104 v105 v106 h107 := by kernel_rfl
theorem r60_2053622066 (XN : Option Addr → Option Addr → Sl → Int → Int → Int → Sl → Int → Int → Heap → Prop) (XR : Option Addr → Bool → Heap → Prop) (v97 : Option Addr) (v98 : Option Addr) (v99 : Sl) (v100 : Int) (v101 : Int) (v102 : Int) (v103 : Int) (v104 : Sl) (v105 : Int) (v106 : Int) (h107 : Heap) (H : z60_2053622066 XN XR v97 v98 v99 v100 v101 v102 v103 v104 v105 v106 h107) : q60_2053622066 XN XR v97 v98 v99 v100 v101 v102 v103 v104 v105 v106 h107 := piece_stepE (p := 2053622066) (o60) rfl s60_2053622066 (k60_2053622066 XN XR v97 v98 v99 v100 v101 v102 v103 v104 v105 v106 h107) (by kernel_rfl) H
def z60_16043921 (XR : Option Addr → Bool → Heap → Prop) (X6 : Option Addr → Option Addr → Sl → Int → Int → Int → Heap → Prop) (v70 : Option Addr) (v71 : Option Addr) (v72 : Sl) (v73 : Int) (v74 : Int) (v75 : Int) (v76 : Sl) (v77 : Int) (v78 : Int) (h79 : Heap) : Prop :=
 (branch (decide (v78 < v77))
 (Go.AM.get v76.a fun a82 =>
 (chk (idx v78 v76.len) <|
 (Go.AM.get (asI .i64 (Heap.rd h79 ⟨a82.block, (a82.off + ((Int.toNat v78) * 1)), none⟩)) fun y83 =>
 (Go.AM.get v70 fun a118 =>
 (chk (idx y83 40) <|
 (Go.AM.get (asI .i64 (Heap.rd h79 ⟨a118.block, (a118.off + ((Int.toNat y83) * 1)), none⟩)) fun y119 =>
 (branch (decide (y119 < 0))
 (Go.AM.get v72.a fun a120 =>
 (chk (idx v73 v72.len) <|
 (Go.AM.get (asI .i64 (Heap.rd h79 ⟨a120.block, (a120.off + ((Int.toNat v73) * 1)), none⟩)) fun y121 =>
 (Go.AM.get v70 fun a122 =>
 (chk (idx y121 40) <|
 (Go.AM.get (asI .i64 (Heap.rd h79 ⟨a122.block, (a122.off + ((Int.toNat y121) * 1)), none⟩)) fun y123 =>
 (Go.AM.get v70 fun a124 =>
 (chk (idx y83 40) <|
 (Go.AM.get (Heap.wr h79 ⟨a124.block, (a124.off + ((Int.toNat y83) * 1)), none⟩ [(.int .i64 (IntKind.wrap .i64 (1 - y123)))]) fun h125 =>
 (withH (Heap.new h125 (.cells [(.int .i64 y83)] false)) fun h126 =>
 (Go.AM.get (Heap.rdN h126 ⟨h125.next, 0, none⟩ 1) fun y127 =>
 (Go.AM.get (Heap.app h126 1 8 v72 1 y127) fun r128 =>
 (q60_2053622066
 (fun z129 z130 z131 z132 z133 z134 z135 z136 z137 h138 =>
 (l60_16043921 XR X6 z129 z130 z131 z132 z133 z134 z135 z136 (IntKind.wrap .i64 (z137 + 1)) h138))
 (fun z139 z140 h141 =>
 (XR z139 z140 h141))
 v70 v71 r128.1 v73 y83 v74 v75 v76 v77 v78 r128.2)))))))))))))
 (q60_2053622066
 (fun z142 z143 z144 z145 z146 z147 z148 z149 z150 h151 =>
 (l60_16043921 XR X6 z142 z143 z144 z145 z146 z147 z148 z149 (IntKind.wrap .i64 (z150 + 1)) h151))
 (fun z152 z153 h154 =>
 (XR z152 z153 h154))
 v70 v71 v72 v73 y83 v74 v75 v76 v77 v78 h79))))))))
 (X6 v70 v71 v72 v73 v74 v75 h79))
theorem k60_16043921 (XR : Option Addr → Bool → Heap → Prop) (X6 : Option Addr → Option Addr → Sl → Int → Int → Int → Heap → Prop) (v70 : Option Addr) (v71 : Option Addr) (v72 : Sl) (v73 : Int) (v74 : Int) (v75 : Int) (v76 : Sl) (v77 : Int) (v78 : Int) (h79 : Heap) : (exec (C60) c60_16043921 false 32087843 (Fr.put (Fr.put (Fr.put (Fr.put (Fr.put (Fr.put (Fr.put (Fr.put (Fr.put (Fr0 83) (some 2) (.pointer v70)) (some 4) (.pointer v71)) (some 7) (Sl.v v72)) (some 8) (.int .i64 v73)) (some 23) (.int .i64 v74)) (some 24) (.int .i64 v75)) (some 46) (Sl.v v76)) (some 47) (.int .i64 v77)) (some 48) (.int .i64 v78)) h79 (loopE (grabC 83 [(2, pP), (4, pP), (7, sP), (8, iP .i64), (23, iP .i64), (24, iP .i64), (46, sP), (47, iP .i64), (48, iP .i64)] (lC (C60).P (C60).yld c60_16043921 83 [(2, pP), (4, pP), (7, sP), (8, iP .i64), (23, iP .i64), (24, iP .i64), (46, sP), (47, iP .i64), (48, iP .i64)] (outE noE (grabC 83 [(2, pP), (3, bP)] XR) [(6, (grabC 83 [(2, pP), (4, pP), (7, sP), (8, iP .i64), (23, iP .i64), (24, iP .i64)] X6))]))) (outE noE (grabC 83 [(2, pP), (3, bP)] XR) [(6, (grabC 83 [(2, pP), (4, pP), (7, sP), (8, iP .i64), (23, iP .i64), (24, iP .i64)] X6))]))) = z60_16043921 XR X6 v70 v71 v72 v73 v74 v75 v76 v77 v78 h79 := by kernel_rfl
theorem r60_16043921 (XR : Option Addr → Bool → Heap → Prop) (X6 : Option Addr → Option Addr → Sl → Int → Int → Int → Heap → Prop) (v70 : Option Addr) (v71 : Option Addr) (v72 : Sl) (v73 : Int) (v74 : Int) (v75 : Int) (v76 : Sl) (v77 : Int) (v78 : Int) (h79 : Heap) (H : z60_16043921 XR X6 v70 v71 v72 v73 v74 v75 v76 v77 v78 h79) : l60_16043921 XR X6 v70 v71 v72 v73 v74 v75 v76 v77 v78 h79 := loop_stepE (p := 16043921) (N := 83) (keep := [(2, pP), (4, pP), (7, sP), (8, iP .i64), (23, iP .i64), (24, iP .i64), (46, sP), (47, iP .i64), (48, iP .i64)]) (o60) rfl s60_16043921 (k60_16043921 XR X6 v70 v71 v72 v73 v74 v75 v76 v77 v78 h79) (by kernel_rfl) H
def z60_250685 (XR : Option Addr → Bool → Heap → Prop) (X4 : Option Addr → Option Addr → Int → Int → Heap → Prop) (v55 : Option Addr) (v56 : Option Addr) (v57 : Sl) (v58 : Int) (v59 : Int) (v60 : Int) (h61 : Heap) : Prop :=
 (branch (decide (v58 < ((v57.len : Nat) : Int)))
 (Go.AM.get v57.a fun a66 =>
 (chk (idx v58 v57.len) <|
 (Go.AM.get (asI .i64 (Heap.rd h61 ⟨a66.block, (a66.off + ((Int.toNat v58) * 1)), none⟩)) fun y67 =>
 (Go.AM.get v56 fun a68 =>
 (chk (idx y67 40) <|
 (Go.AM.get (asS (Heap.rd h61 ⟨a68.block, (a68.off + ((Int.toNat y67) * 1)), none⟩)) fun y69 =>
 (l60_16043921
 (fun z155 z156 h157 =>
 (XR z155 z156 h157))
 (fun z158 z159 z160 z161 z162 z163 h164 =>
 (l60_250685 XR X4 z158 z159 z160 (IntKind.wrap .i64 (z161 + 1)) z162 z163 h164))
 v55 v56 v57 v58 v59 v60 y69 ((y69.len : Nat) : Int) 0 h61)))))))
 (X4 v55 v56 v59 v60 h61))
theorem k60_250685 (XR : Option Addr → Bool → Heap → Prop) (X4 : Option Addr → Option Addr → Int → Int → Heap → Prop) (v55 : Option Addr) (v56 : Option Addr) (v57 : Sl) (v58 : Int) (v59 : Int) (v60 : Int) (h61 : Heap) : (exec (C60) c60_250685 false 501371 (Fr.put (Fr.put (Fr.put (Fr.put (Fr.put (Fr.put (Fr0 83) (some 2) (.pointer v55)) (some 4) (.pointer v56)) (some 7) (Sl.v v57)) (some 8) (.int .i64 v58)) (some 23) (.int .i64 v59)) (some 24) (.int .i64 v60)) h61 (loopE (grabC 83 [(2, pP), (4, pP), (7, sP), (8, iP .i64), (23, iP .i64), (24, iP .i64)] (lC (C60).P (C60).yld c60_250685 83 [(2, pP), (4, pP), (7, sP), (8, iP .i64), (23, iP .i64), (24, iP .i64)] (outE noE (grabC 83 [(2, pP), (3, bP)] XR) [(4, (grabC 83 [(2, pP), (4, pP), (23, iP .i64), (24, iP .i64)] X4))]))) (outE noE (grabC 83 [(2, pP), (3, bP)] XR) [(4, (grabC 83 [(2, pP), (4, pP), (23, iP .i64), (24, iP .i64)] X4))]))) = z60_250685 XR X4 v55 v56 v57 v58 v59 v60 h61 := by kernel_rfl
theorem r60_250685 (XR : Option Addr → Bool → Heap → Prop) (X4 : Option Addr → Option Addr → Int → Int → Heap → Prop) (v55 : Option Addr) (v56 : Option Addr) (v57 : Sl) (v58 : Int) (v59 : Int) (v60 : Int) (h61 : Heap) (H : z60_250685 XR X4 v55 v56 v57 v58 v59 v60 h61) : l60_250685 XR X4 v55 v56 v57 v58 v59 v60 h61 := loop_stepE (p := 250685) (N := 83) (keep := [(2, pP), (4, pP), (7, sP), (8, iP .i64), (23, iP .i64), (24, iP .i64)]) (o60) rfl s60_250685 (k60_250685 XR X4 v55 v56 v57 v58 v59 v60 h61) (by kernel_rfl) H
def z60_121 (XR : Option Addr → Bool → Heap → Prop) (X2 : Option Addr → Heap → Prop) (v40 : Option Addr) (v41 : Option Addr) (v42 : Int) (v43 : Int) (h44 : Heap) : Prop :=
 (branch (decide (v43 < v42))
 (Go.AM.get v40 fun a47 =>
 (chk (idx v43 40) <|
 (Go.AM.get (asI .i64 (Heap.rd h44 ⟨a47.block, (a47.off + ((Int.toNat v43) * 1)), none⟩)) fun y48 =>
 (branch (decide (y48 ≥ 0))
 (l60_121 XR X2 v40 v41 v42 (IntKind.wrap .i64 (v43 + 1)) h44)
 (Go.AM.get v40 fun a51 =>
 (chk (idx v43 40) <|
 (Go.AM.get (Heap.wr h44 ⟨a51.block, (a51.off + ((Int.toNat v43) * 1)), none⟩ [(.int .i64 0)]) fun h52 =>
 (withH (Heap.new h52 (.cells [(.int .i64 v43)] false)) fun h54 =>
 (l60_250685
 (fun z165 z166 h167 =>
 (XR z165 z166 h167))
 (fun z168 z169 z170 z171 h172 =>
 (l60_121 XR X2 z168 z169 z170 (IntKind.wrap .i64 (z171 + 1)) h172))
 v40 v41 (Sl.mk (some ⟨h52.next, 0, (some 0)⟩) 1 1) 0 v42 v43 h54)))))))))
 (X2 v40 h44))
theorem k60_121 (XR : Option Addr → Bool → Heap → Prop) (X2 : Option Addr → Heap → Prop) (v40 : Option Addr) (v41 : Option Addr) (v42 : Int) (v43 : Int) (h44 : Heap) : (exec (C60) c60_121 false 243 (Fr.put (Fr.put (Fr.put (Fr.put (Fr0 83) (some 2) (.pointer v40)) (some 4) (.pointer v41)) (some 23) (.int .i64 v42)) (some 24) (.int .i64 v43)) h44 (loopE (grabC 83 [(2, pP), (4, pP), (23, iP .i64), (24, iP .i64)] (lC (C60).P (C60).yld c60_121 83 [(2, pP), (4, pP), (23, iP .i64), (24, iP .i64)] (outE noE (grabC 83 [(2, pP), (3, bP)] XR) [(2, (grabC 83 [(2, pP)] X2))]))) (outE noE (grabC 83 [(2, pP), (3, bP)] XR) [(2, (grabC 83 [(2, pP)] X2))]))) = z60_121 XR X2 v40 v41 v42 v43 h44 := by kernel_rfl
theorem r60_121 (XR : Option Addr → Bool → Heap → Prop) (X2 : Option Addr → Heap → Prop) (v40 : Option Addr) (v41 : Option Addr) (v42 : Int) (v43 : Int) (h44 : Heap) (H : z60_121 XR X2 v40 v41 v42 v43 h44) : l60_121 XR X2 v40 v41 v42 v43 h44 := loop_stepE (p := 121) (N := 83) (keep := [(2, pP), (4, pP), (23, iP .i64), (24, iP .i64)]) (o60) rfl s60_121 (k60_121 XR X2 v40 v41 v42 v43 h44) (by kernel_rfl) H
def z60 (p0 : (Int × Sl × Unit)) (h : Heap) (K : List Value → Bool → Heap → Prop) : Prop :=
 (withH (Heap.new h (.cells [(.int .i64 p0.1), (Sl.v p0.2.1)] false)) fun h3 =>
 (withH (Heap.new h3 (.cells (List.replicate 40 (.int .i64 0)) false)) fun h4 =>
 (Go.AM.get (asI .i64 (Heap.rd h4 ⟨h.next, 0, none⟩)) fun y13 =>
 (Go.AM.get (asS (Heap.rd h4 ⟨h.next, 1, none⟩)) fun y14 =>
 (t49 (y13, y14, ()) (-1) h4 fun r15 h16 =>
 (Go.AM.get r15 fun a17 =>
 (Go.AM.get (Heap.rdN h16 ⟨a17.block, (a17.off + 1), none⟩ 40) fun y18 =>
 (withH (Heap.new h16 (.cells (List.replicate 40 (.slice none 0 0)) false)) fun h19 =>
 (chk (Nat.beq (List.length y18) 40 && List.all y18 Value.oneCell') <|
 (Go.AM.get (Heap.wr h19 ⟨h16.next, 0, none⟩ y18) fun h20 =>
 (l60_57
 (fun z32 z33 z34 h35 =>
 (Go.AM.get z32 fun a38 =>
 (Go.AM.get (asI .i64 (Heap.rd h35 ⟨a38.block, a38.off, none⟩)) fun y39 =>
 (l60_121
 (fun z173 z174 h175 =>
 (Go.AM.get z173 fun a176 =>
 (Go.AM.get (Heap.rdN h175 a176 40) fun y177 =>
 (K y177 z174 h175))))
 (fun z178 h179 =>
 (Go.AM.get z178 fun a180 =>
 (Go.AM.get (Heap.rdN h179 a180 40) fun y181 =>
 (Go.AM.get z178 fun a182 =>
 (chk (Nat.beq (List.length y181) 40 && List.all y181 Value.oneCell') <|
 (Go.AM.get (Heap.wr h179 a182 y181) fun h183 =>
 (Go.AM.get z178 fun a184 =>
 (Go.AM.get (Heap.rdN h183 a184 40) fun y185 =>
 (K y185 true h183)))))))))
 z33 z34 y39 0 h35))))
 (some ⟨h.next, 0, none⟩) (some ⟨h3.next, 0, none⟩) (some ⟨h16.next, 0, none⟩) 0 h20)))))))))))
theorem k60 (p0 : (Int × Sl × Unit)) (h : Heap) (K : List Value → Bool → Heap → Prop) : fnK C60 Try.f60.results.toList Try.f60.ntmps b60 [(.agg ⟨[(.int .i64 p0.1), (Sl.v p0.2.1)]⟩)] h (outC [lP, bP] K) = z60 p0 h K := by kernel_rfl
theorem r60 (p0 : (Int × Sl × Unit)) (h : Heap) (K : List Value → Bool → Heap → Prop) (H : z60 p0 h K) : t60 p0 h K := fn_stepE (C := C60) (fn := Try.f60) (g := 60) o60 rfl rfl (by kernel_rfl) (by kernel_rfl) (by kernel_rfl) (k60 p0 h K) (by kernel_rfl) H

/-! 61: minikin/pair.Cover$1 -/
noncomputable def b61 : Code := Try.f61.body.getD .skip
noncomputable def c61_13 : Code := (subN b61 27).getD .skip
theorem s61_13 : subN b61 27 = some c61_13 := by kernel_rfl
theorem sl61_13 : subN b61 13 = some (.loop c61_13) := by kernel_rfl
noncomputable def l61_13 (X0 : Heap → Prop) : Option Addr → Option Addr → Option Addr → Sl → Int → Int → Heap → Prop := lC Try.prog none c61_13 45 [(1, pP), (2, pP), (3, pP), (15, sP), (16, iP .i64), (17, iP .i64)] (outE noE noE [(0, (grabC 45 [] X0))])
noncomputable def C61 : Ctx := baseC Try.prog [95, 75] none (allF Try.prog) (allI Try.prog) (cons1 13 (gC 45 [(1, pP), (2, pP), (3, pP), (15, sP), (16, iP .i64), (17, iP .i64)] none none [(0, [])] (lC Try.prog none c61_13 45 [(1, pP), (2, pP), (3, pP), (15, sP), (16, iP .i64), (17, iP .i64)])) none1)
theorem o61 : CtxOK (C61) b61 := (addL (base_ok eqOK mixOK none b61) sl61_13)
def z61_13 (X0 : Heap → Prop) (v13 : Option Addr) (v14 : Option Addr) (v15 : Option Addr) (v16 : Sl) (v17 : Int) (v18 : Int) (h19 : Heap) : Prop :=
 (branch (decide (v18 < v17))
 (Go.AM.get v16.a fun a22 =>
 (chk (idx v18 v16.len) <|
 (Go.AM.get (asI .i64 (Heap.rd h19 ⟨a22.block, (a22.off + ((Int.toNat v18) * 1)), none⟩)) fun y23 =>
 (Go.AM.get v13 fun a26 =>
 (chk (idx y23 40) <|
 (Go.AM.get (asB (Heap.rd h19 ⟨a26.block, (a26.off + ((Int.toNat y23) * 1)), none⟩)) fun y27 =>
 (branch (!y27)
 (Go.AM.get v13 fun a30 =>
 (chk (idx y23 40) <|
 (Go.AM.get (Heap.wr h19 ⟨a30.block, (a30.off + ((Int.toNat y23) * 1)), none⟩ [(.bool true)]) fun h31 =>
 (Go.AM.get v14 fun a36 =>
 (Go.AM.get (asP (Heap.rd h31 a36)) fun y37 =>
 (Go.AM.get y37 fun a38 =>
 (chk (idx y23 40) <|
 (Go.AM.get (asI .i64 (Heap.rd h31 ⟨a38.block, ((a38.off + 41) + ((Int.toNat y23) * 1)), none⟩)) fun y39 =>
 (branch (decide (y39 ≥ 0))
 (Go.AM.get v13 fun a40 =>
 (chk (idx y39 40) <|
 (Go.AM.get (asB (Heap.rd h31 ⟨a40.block, (a40.off + ((Int.toNat y39) * 1)), none⟩)) fun y41 =>
 (branch (!y41)
 (Go.AM.get v15 fun a42 =>
 (Go.AM.get (Heap.rd h31 a42) fun y43 =>
 (callV (C61) y43 [(.int .i64 y39)] h31 (retK fun r44 h45 =>
 (l61_13 X0 v13 v14 v15 v16 v17 (IntKind.wrap .i64 (v18 + 1)) h45)))))
 (l61_13 X0 v13 v14 v15 v16 v17 (IntKind.wrap .i64 (v18 + 1)) h31)))))
 (l61_13 X0 v13 v14 v15 v16 v17 (IntKind.wrap .i64 (v18 + 1)) h31))))))))))
 (l61_13 X0 v13 v14 v15 v16 v17 (IntKind.wrap .i64 (v18 + 1)) h19))))))))
 (X0 h19))
theorem k61_13 (X0 : Heap → Prop) (v13 : Option Addr) (v14 : Option Addr) (v15 : Option Addr) (v16 : Sl) (v17 : Int) (v18 : Int) (h19 : Heap) : (exec (C61) c61_13 false 27 (Fr.put (Fr.put (Fr.put (Fr.put (Fr.put (Fr.put (Fr0 45) (some 1) (.pointer v13)) (some 2) (.pointer v14)) (some 3) (.pointer v15)) (some 15) (Sl.v v16)) (some 16) (.int .i64 v17)) (some 17) (.int .i64 v18)) h19 (loopE (grabC 45 [(1, pP), (2, pP), (3, pP), (15, sP), (16, iP .i64), (17, iP .i64)] (lC (C61).P (C61).yld c61_13 45 [(1, pP), (2, pP), (3, pP), (15, sP), (16, iP .i64), (17, iP .i64)] (outE noE noE [(0, (grabC 45 [] X0))]))) (outE noE noE [(0, (grabC 45 [] X0))]))) = z61_13 X0 v13 v14 v15 v16 v17 v18 h19 := by kernel_rfl
theorem r61_13 (X0 : Heap → Prop) (v13 : Option Addr) (v14 : Option Addr) (v15 : Option Addr) (v16 : Sl) (v17 : Int) (v18 : Int) (h19 : Heap) (H : z61_13 X0 v13 v14 v15 v16 v17 v18 h19) : l61_13 X0 v13 v14 v15 v16 v17 v18 h19 := loop_stepE (p := 13) (N := 45) (keep := [(1, pP), (2, pP), (3, pP), (15, sP), (16, iP .i64), (17, iP .i64)]) (o61) rfl s61_13 (k61_13 X0 v13 v14 v15 v16 v17 v18 h19) (by kernel_rfl) H
def z61 (p0 : Int) (p1 : Option Addr) (p2 : Option Addr) (p3 : Option Addr) (h : Heap) (K : Heap → Prop) : Prop :=
 (Go.AM.get p1 fun a3 =>
 (chk (idx p0 40) <|
 (Go.AM.get (Heap.wr h ⟨a3.block, (a3.off + ((Int.toNat p0) * 1)), none⟩ [(.bool true)]) fun h4 =>
 (Go.AM.get p2 fun a9 =>
 (Go.AM.get (asP (Heap.rd h4 a9)) fun y10 =>
 (Go.AM.get y10 fun a11 =>
 (chk (idx p0 40) <|
 (Go.AM.get (asS (Heap.rd h4 ⟨a11.block, ((a11.off + 1) + ((Int.toNat p0) * 1)), none⟩)) fun y12 =>
 (l61_13
 (fun h47 =>
 (K h47))
 p1 p2 p3 y12 ((y12.len : Nat) : Int) 0 h4)))))))))
theorem k61 (p0 : Int) (p1 : Option Addr) (p2 : Option Addr) (p3 : Option Addr) (h : Heap) (K : Heap → Prop) : fnK C61 Try.f61.results.toList Try.f61.ntmps b61 [(.int .i64 p0), (.pointer p1), (.pointer p2), (.pointer p3)] h (outC [] K) = z61 p0 p1 p2 p3 h K := by kernel_rfl
theorem r61 (p0 : Int) (p1 : Option Addr) (p2 : Option Addr) (p3 : Option Addr) (h : Heap) (K : Heap → Prop) (H : z61 p0 p1 p2 p3 h K) : t61 p0 p1 p2 p3 h K := fn_stepE (C := C61) (fn := Try.f61) (g := 61) o61 rfl rfl (by kernel_rfl) (by kernel_rfl) (by kernel_rfl) (k61 p0 p1 p2 p3 h K) (by kernel_rfl) H

/-! 62: minikin/minikinref04.Rising -/
noncomputable def b62 : Code := Try.f62.body.getD .skip
noncomputable def c62_25 : Code := (subN b62 51).getD .skip
theorem s62_25 : subN b62 51 = some c62_25 := by kernel_rfl
theorem sl62_25 : subN b62 25 = some (.loop c62_25) := by kernel_rfl
noncomputable def l62_25 (XR : Bool → Heap → Prop) (X0 : Heap → Prop) : Sl → Option Addr → Int → Heap → Prop := lC Try.prog none c62_25 42 [(1, sP), (2, pP), (5, iP .i64)] (outE noE (grabC 42 [(4, bP)] XR) [(0, (grabC 42 [] X0))])
noncomputable def C62 : Ctx := baseC Try.prog [95, 75] none (allF Try.prog) (allI Try.prog) (cons1 25 (gC 42 [(1, sP), (2, pP), (5, iP .i64)] none (some [(4, bP)]) [(0, [])] (lC Try.prog none c62_25 42 [(1, sP), (2, pP), (5, iP .i64)])) none1)
theorem o62 : CtxOK (C62) b62 := (addL (base_ok eqOK mixOK none b62) sl62_25)
def z62_25 (XR : Bool → Heap → Prop) (X0 : Heap → Prop) (v3 : Sl) (v4 : Option Addr) (v5 : Int) (h6 : Heap) : Prop :=
 (branch (decide (v5 < ((v3.len : Nat) : Int)))
 (Go.AM.get v3.a fun a7 =>
 (chk (idx v5 v3.len) <|
 (Go.AM.get (asI .i64 (Heap.rd h6 ⟨a7.block, (a7.off + ((Int.toNat v5) * 1)), none⟩)) fun y8 =>
 (branch (decide (y8 < 0))
 (XR false h6)
 (Go.AM.get v3.a fun a9 =>
 (chk (idx v5 v3.len) <|
 (Go.AM.get (asI .i64 (Heap.rd h6 ⟨a9.block, (a9.off + ((Int.toNat v5) * 1)), none⟩)) fun y10 =>
 (Go.AM.get v4 fun a11 =>
 (Go.AM.get (asI .i64 (Heap.rd h6 ⟨a11.block, a11.off, none⟩)) fun y12 =>
 (branch (decide (y10 ≥ y12))
 (XR false h6)
 (branch (decide (v5 > 0))
 (Go.AM.get v3.a fun a13 =>
 (chk (idx (IntKind.wrap .i64 (v5 - 1)) v3.len) <|
 (Go.AM.get (asI .i64 (Heap.rd h6 ⟨a13.block, (a13.off + ((Int.toNat (IntKind.wrap .i64 (v5 - 1))) * 1)), none⟩)) fun y14 =>
 (Go.AM.get v3.a fun a15 =>
 (chk (idx v5 v3.len) <|
 (Go.AM.get (asI .i64 (Heap.rd h6 ⟨a15.block, (a15.off + ((Int.toNat v5) * 1)), none⟩)) fun y16 =>
 (branch (decide (y14 ≥ y16))
 (XR false h6)
 (l62_25 XR X0 v3 v4 (IntKind.wrap .i64 (v5 + 1)) h6))))))))
 (l62_25 XR X0 v3 v4 (IntKind.wrap .i64 (v5 + 1)) h6))))))))))))
 (X0 h6))
theorem k62_25 (XR : Bool → Heap → Prop) (X0 : Heap → Prop) (v3 : Sl) (v4 : Option Addr) (v5 : Int) (h6 : Heap) : (exec (C62) c62_25 false 51 (Fr.put (Fr.put (Fr.put (Fr0 42) (some 1) (Sl.v v3)) (some 2) (.pointer v4)) (some 5) (.int .i64 v5)) h6 (loopE (grabC 42 [(1, sP), (2, pP), (5, iP .i64)] (lC (C62).P (C62).yld c62_25 42 [(1, sP), (2, pP), (5, iP .i64)] (outE noE (grabC 42 [(4, bP)] XR) [(0, (grabC 42 [] X0))]))) (outE noE (grabC 42 [(4, bP)] XR) [(0, (grabC 42 [] X0))]))) = z62_25 XR X0 v3 v4 v5 h6 := by kernel_rfl
theorem r62_25 (XR : Bool → Heap → Prop) (X0 : Heap → Prop) (v3 : Sl) (v4 : Option Addr) (v5 : Int) (h6 : Heap) (H : z62_25 XR X0 v3 v4 v5 h6) : l62_25 XR X0 v3 v4 v5 h6 := loop_stepE (p := 25) (N := 42) (keep := [(1, sP), (2, pP), (5, iP .i64)]) (o62) rfl s62_25 (k62_25 XR X0 v3 v4 v5 h6) (by kernel_rfl) H
def z62 (p0 : (Int × Sl × Unit)) (p1 : Sl) (h : Heap) (K : Bool → Heap → Prop) : Prop :=
 (withH (Heap.new h (.cells [(.int .i64 p0.1), (Sl.v p0.2.1)] false)) fun h2 =>
 (l62_25
 (fun z17 h18 =>
 (K z17 h18))
 (fun h19 =>
 (K true h19))
 p1 (some ⟨h.next, 0, none⟩) 0 h2))
theorem k62 (p0 : (Int × Sl × Unit)) (p1 : Sl) (h : Heap) (K : Bool → Heap → Prop) : fnK C62 Try.f62.results.toList Try.f62.ntmps b62 [(.agg ⟨[(.int .i64 p0.1), (Sl.v p0.2.1)]⟩), (Sl.v p1)] h (outC [bP] K) = z62 p0 p1 h K := by kernel_rfl
theorem r62 (p0 : (Int × Sl × Unit)) (p1 : Sl) (h : Heap) (K : Bool → Heap → Prop) (H : z62 p0 p1 h K) : t62 p0 p1 h K := fn_stepE (C := C62) (fn := Try.f62) (g := 62) o62 rfl rfl (by kernel_rfl) (by kernel_rfl) (by kernel_rfl) (k62 p0 p1 h K) (by kernel_rfl) H

/-! 63: minikin/pair.checkOffer -/
noncomputable def b63 : Code := Try.f63.body.getD .skip
noncomputable def c63_121 : Code := (subN b63 243).getD .skip
theorem s63_121 : subN b63 243 = some c63_121 := by kernel_rfl
theorem sl63_121 : subN b63 121 = some (.loop c63_121) := by kernel_rfl
noncomputable def l63_121 (XR : Int → Heap → Prop) (X0 : Heap → Prop) : Sl → Int → Int → Heap → Prop := lC Try.prog none c63_121 28 [(19, sP), (20, iP .i64), (21, iP .i64)] (outE noE (grabC 28 [(2, iP .i64)] XR) [(0, (grabC 28 [] X0))])
noncomputable def C63 : Ctx := baseC Try.prog [95, 75] none (cons1 69 w69 (cons1 74 w74 (allF Try.prog))) (allI Try.prog) (cons1 121 (gC 28 [(19, sP), (20, iP .i64), (21, iP .i64)] none (some [(2, iP .i64)]) [(0, [])] (lC Try.prog none c63_121 28 [(19, sP), (20, iP .i64), (21, iP .i64)])) none1)
theorem o63 : CtxOK (C63) b63 := (addL (addF (addF (base_ok eqOK mixOK none b63) (wC_ok Try.prog 74 [sP, vP] [bP])) (wC_ok Try.prog 69 [sP, vP] [bP])) sl63_121)
def z63_121 (XR : Int → Heap → Prop) (X0 : Heap → Prop) (v13 : Sl) (v14 : Int) (v15 : Int) (h16 : Heap) : Prop :=
 (branch (decide (v15 < v14))
 (Go.AM.get v13.a fun a17 =>
 (chk (idx v15 v13.len) <|
 (Go.AM.get (asS (Heap.rd h16 ⟨a17.block, (a17.off + ((Int.toNat v15) * 1)), none⟩)) fun y18 =>
 (t69 y18 (.func (.func 76) #[] ⟨[]⟩) h16 fun r19 h20 =>
 (branch r19
 (XR 1 h20)
 (l63_121 XR X0 v13 v14 (IntKind.wrap .i64 (v15 + 1)) h20))))))
 (X0 h16))
theorem k63_121 (XR : Int → Heap → Prop) (X0 : Heap → Prop) (v13 : Sl) (v14 : Int) (v15 : Int) (h16 : Heap) : (exec (C63) c63_121 false 243 (Fr.put (Fr.put (Fr.put (Fr0 28) (some 19) (Sl.v v13)) (some 20) (.int .i64 v14)) (some 21) (.int .i64 v15)) h16 (loopE (grabC 28 [(19, sP), (20, iP .i64), (21, iP .i64)] (lC (C63).P (C63).yld c63_121 28 [(19, sP), (20, iP .i64), (21, iP .i64)] (outE noE (grabC 28 [(2, iP .i64)] XR) [(0, (grabC 28 [] X0))]))) (outE noE (grabC 28 [(2, iP .i64)] XR) [(0, (grabC 28 [] X0))]))) = z63_121 XR X0 v13 v14 v15 h16 := by kernel_rfl
theorem r63_121 (XR : Int → Heap → Prop) (X0 : Heap → Prop) (v13 : Sl) (v14 : Int) (v15 : Int) (h16 : Heap) (H : z63_121 XR X0 v13 v14 v15 h16) : l63_121 XR X0 v13 v14 v15 h16 := loop_stepE (p := 121) (N := 28) (keep := [(19, sP), (20, iP .i64), (21, iP .i64)]) (o63) rfl s63_121 (k63_121 XR X0 v13 v14 v15 h16) (by kernel_rfl) H
def z63 (p0 : Sl) (h : Heap) (K : Int → Heap → Prop) : Prop :=
 (withH (Heap.new h (.cells [(.int .i64 0)] false)) fun h3 =>
 (Go.AM.get (Heap.wr h3 ⟨h.next, 0, none⟩ [(.int .i64 ((p0.len : Nat) : Int))]) fun h4 =>
 (Go.AM.get (asI .i64 (Heap.rd h4 ⟨h.next, 0, none⟩)) fun y9 =>
 (branch (decide (y9 < 1))
 (K 7 h4)
 (Go.AM.get (asI .i64 (Heap.rd h4 ⟨h.next, 0, none⟩)) fun y10 =>
 (branch (decide (y10 > 12))
 (K 7 h4)
 (t74 p0 (.func (.func 75) #[] ⟨[(.pointer (some ⟨h.next, 0, none⟩))]⟩) h4 fun r11 h12 =>
 (branch r11
 (K 7 h12)
 (l63_121
 (fun z21 h22 =>
 (K z21 h22))
 (fun h23 =>
 (K 0 h23))
 p0 ((p0.len : Nat) : Int) 0 h12)))))))))
theorem k63 (p0 : Sl) (h : Heap) (K : Int → Heap → Prop) : fnK C63 Try.f63.results.toList Try.f63.ntmps b63 [(Sl.v p0)] h (outC [iP .i64] K) = z63 p0 h K := by kernel_rfl
theorem r63 (p0 : Sl) (h : Heap) (K : Int → Heap → Prop) (H : z63 p0 h K) : t63 p0 h K := fn_stepE (C := C63) (fn := Try.f63) (g := 63) o63 rfl rfl (by kernel_rfl) (by kernel_rfl) (by kernel_rfl) (k63 p0 h K) (by kernel_rfl) H

/-! 64: minikin/pair.most -/
noncomputable def b64 : Code := Try.f64.body.getD .skip
noncomputable def C64 : Ctx := baseC Try.prog [95, 75] none (cons1 77 w77 (cons1 67 w67 (allF Try.prog))) (allI Try.prog) none1
theorem o64 : CtxOK (C64) b64 := (addF (addF (base_ok eqOK mixOK none b64) (wC_ok Try.prog 67 [sP] [sP, sP, sP])) (wC_ok Try.prog 77 [sP, sP] [iP .i64]))
def z64 (p0 : Sl) (h : Heap) (K : Int → Heap → Prop) : Prop :=
 (branch (((p0.len : Nat) : Int) == 0)
 (K 0 h)
 (t67 p0 h fun r1 r2 r3 h4 =>
 (t77 p0 r1 h4 fun r5 h6 =>
 (K r5 h6))))
theorem k64 (p0 : Sl) (h : Heap) (K : Int → Heap → Prop) : fnK C64 Try.f64.results.toList Try.f64.ntmps b64 [(Sl.v p0)] h (outC [iP .i64] K) = z64 p0 h K := by kernel_rfl
theorem r64 (p0 : Sl) (h : Heap) (K : Int → Heap → Prop) (H : z64 p0 h K) : t64 p0 h K := fn_stepE (C := C64) (fn := Try.f64) (g := 64) o64 rfl rfl (by kernel_rfl) (by kernel_rfl) (by kernel_rfl) (k64 p0 h K) (by kernel_rfl) H

/-! 65: minikin/pair.without -/
noncomputable def b65 : Code := Try.f65.body.getD .skip
noncomputable def c65_57 : Code := (subN b65 115).getD .skip
theorem s65_57 : subN b65 115 = some c65_57 := by kernel_rfl
theorem sl65_57 : subN b65 57 = some (.loop c65_57) := by kernel_rfl
noncomputable def l65_57 (X0 : Sl → Heap → Prop) : Int → Sl → Sl → Int → Int → Heap → Prop := lC Try.prog none c65_57 26 [(1, iP .i64), (5, sP), (9, sP), (10, iP .i64), (11, iP .i64)] (outE noE noE [(0, (grabC 26 [(5, sP)] X0))])
noncomputable def C65 : Ctx := baseC Try.prog [95, 75] none (cons1 78 w78 (cons1 79 w79 (allF Try.prog))) (allI Try.prog) (cons1 57 (gC 26 [(1, iP .i64), (5, sP), (9, sP), (10, iP .i64), (11, iP .i64)] none none [(0, [(5, sP)])] (lC Try.prog none c65_57 26 [(1, iP .i64), (5, sP), (9, sP), (10, iP .i64), (11, iP .i64)])) none1)
theorem o65 : CtxOK (C65) b65 := (addL (addF (addF (base_ok eqOK mixOK none b65) (wC_ok Try.prog 79 [sP] [sP])) (wC_ok Try.prog 78 [sP, iP .i64, iP .i64] [sP])) sl65_57)
def z65_57 (X0 : Sl → Heap → Prop) (v1 : Int) (v2 : Sl) (v3 : Sl) (v4 : Int) (v5 : Int) (h6 : Heap) : Prop :=
 (branch (decide (v5 < v4))
 (Go.AM.get v3.a fun a9 =>
 (chk (idx v5 v3.len) <|
 (Go.AM.get (asS (Heap.rd h6 ⟨a9.block, (a9.off + ((Int.toNat v5) * 1)), none⟩)) fun y10 =>
 (t79 y10 h6 fun r11 h12 =>
 (t78 r11 v1 (IntKind.wrap .i64 (v1 + 1)) h12 fun r13 h14 =>
 (withH (Heap.new h14 (.cells [(Sl.v r13)] false)) fun h15 =>
 (Go.AM.get (Heap.rdN h15 ⟨h14.next, 0, none⟩ 1) fun y16 =>
 (Go.AM.get (Heap.app h15 1 24 v2 1 y16) fun r17 =>
 (l65_57 X0 v1 r17.1 v3 v4 (IntKind.wrap .i64 (v5 + 1)) r17.2)))))))))
 (X0 v2 h6))
theorem k65_57 (X0 : Sl → Heap → Prop) (v1 : Int) (v2 : Sl) (v3 : Sl) (v4 : Int) (v5 : Int) (h6 : Heap) : (exec (C65) c65_57 false 115 (Fr.put (Fr.put (Fr.put (Fr.put (Fr.put (Fr0 26) (some 1) (.int .i64 v1)) (some 5) (Sl.v v2)) (some 9) (Sl.v v3)) (some 10) (.int .i64 v4)) (some 11) (.int .i64 v5)) h6 (loopE (grabC 26 [(1, iP .i64), (5, sP), (9, sP), (10, iP .i64), (11, iP .i64)] (lC (C65).P (C65).yld c65_57 26 [(1, iP .i64), (5, sP), (9, sP), (10, iP .i64), (11, iP .i64)] (outE noE noE [(0, (grabC 26 [(5, sP)] X0))]))) (outE noE noE [(0, (grabC 26 [(5, sP)] X0))]))) = z65_57 X0 v1 v2 v3 v4 v5 h6 := by kernel_rfl
theorem r65_57 (X0 : Sl → Heap → Prop) (v1 : Int) (v2 : Sl) (v3 : Sl) (v4 : Int) (v5 : Int) (h6 : Heap) (H : z65_57 X0 v1 v2 v3 v4 v5 h6) : l65_57 X0 v1 v2 v3 v4 v5 h6 := loop_stepE (p := 57) (N := 26) (keep := [(1, iP .i64), (5, sP), (9, sP), (10, iP .i64), (11, iP .i64)]) (o65) rfl s65_57 (k65_57 X0 v1 v2 v3 v4 v5 h6) (by kernel_rfl) H
def z65 (p0 : Sl) (p1 : Int) (h : Heap) (K : Sl → Heap → Prop) : Prop :=
 (chk (within 1 ((p0.len : Nat) : Int) ((p0.cap : Nat) : Int)) <|
 (l65_57
 (fun z18 h19 =>
 (K z18 h19))
 p1 (Sl.mk none 0 0) (Sl.cut p0 1 1 (Int.toNat ((p0.len : Nat) : Int))) (((Sl.cut p0 1 1 (Int.toNat ((p0.len : Nat) : Int))).len : Nat) : Int) 0 h))
theorem k65 (p0 : Sl) (p1 : Int) (h : Heap) (K : Sl → Heap → Prop) : fnK C65 Try.f65.results.toList Try.f65.ntmps b65 [(Sl.v p0), (.int .i64 p1)] h (outC [sP] K) = z65 p0 p1 h K := by kernel_rfl
theorem r65 (p0 : Sl) (p1 : Int) (h : Heap) (K : Sl → Heap → Prop) (H : z65 p0 p1 h K) : t65 p0 p1 h K := fn_stepE (C := C65) (fn := Try.f65) (g := 65) o65 rfl rfl (by kernel_rfl) (by kernel_rfl) (by kernel_rfl) (k65 p0 p1 h K) (by kernel_rfl) H

/-! 66: slices.Delete[[]int,int] -/
noncomputable def b66 : Code := Try.f66.body.getD .skip
noncomputable def C66 : Ctx := baseC Try.prog [95, 75] none (allF Try.prog) (allI Try.prog) none1
theorem o66 : CtxOK (C66) b66 := (base_ok eqOK mixOK none b66)
def z66 (p0 : Sl) (p1 : Int) (p2 : Int) (h : Heap) (K : Sl → Heap → Prop) : Prop :=
 (chk ((within p1 p2 ((p0.len : Nat) : Int)) && decide (((p0.len : Nat) : Int) ≤ ((p0.cap : Nat) : Int))) <|
 (branch (p1 == p2)
 (K p0 h)
 (chk (within 0 p1 ((p0.cap : Nat) : Int)) <|
 (chk (within p2 ((p0.len : Nat) : Int) ((p0.cap : Nat) : Int)) <|
 (optK (Sl.cut p0 1 (Int.toNat p2) (Int.toNat ((p0.len : Nat) : Int))).a
 (chk (within (((Sl.cut p0 1 0 (Int.toNat p1)).len : Nat) : Int) ((p0.len : Nat) : Int) (((Sl.cut p0 1 0 (Int.toNat p1)).cap : Nat) : Int)) <|
 (optK (Sl.cut (Sl.cut p0 1 0 (Int.toNat p1)) 1 (Int.toNat (((Sl.cut p0 1 0 (Int.toNat p1)).len : Nat) : Int)) (Int.toNat ((p0.len : Nat) : Int))).a
 (K (Sl.cut p0 1 0 (Int.toNat p1)) h)
 fun a5 =>
 (Go.AM.get (Heap.wr h ⟨a5.block, a5.off, none⟩ (rep [(.int .i64 0)] ((Sl.cut (Sl.cut p0 1 0 (Int.toNat p1)) 1 (Int.toNat (((Sl.cut p0 1 0 (Int.toNat p1)).len : Nat) : Int)) (Int.toNat ((p0.len : Nat) : Int))).len))) fun h6 =>
 (K (Sl.cut p0 1 0 (Int.toNat p1)) h6))))
 fun a4 =>
 (Go.AM.get (Heap.rdN h ⟨a4.block, a4.off, none⟩ (((Sl.cut p0 1 (Int.toNat p2) (Int.toNat ((p0.len : Nat) : Int))).len) * 1)) fun y7 =>
 (Go.AM.get (Heap.app h 1 8 (Sl.cut p0 1 0 (Int.toNat p1)) ((Sl.cut p0 1 (Int.toNat p2) (Int.toNat ((p0.len : Nat) : Int))).len) y7) fun r8 =>
 (chk (within ((r8.1.len : Nat) : Int) ((p0.len : Nat) : Int) ((r8.1.cap : Nat) : Int)) <|
 (optK (Sl.cut r8.1 1 (Int.toNat ((r8.1.len : Nat) : Int)) (Int.toNat ((p0.len : Nat) : Int))).a
 (K r8.1 r8.2)
 fun a9 =>
 (Go.AM.get (Heap.wr r8.2 ⟨a9.block, a9.off, none⟩ (rep [(.int .i64 0)] ((Sl.cut r8.1 1 (Int.toNat ((r8.1.len : Nat) : Int)) (Int.toNat ((p0.len : Nat) : Int))).len))) fun h10 =>
 (K r8.1 h10)))))))))))
theorem k66 (p0 : Sl) (p1 : Int) (p2 : Int) (h : Heap) (K : Sl → Heap → Prop) : fnK C66 Try.f66.results.toList Try.f66.ntmps b66 [(Sl.v p0), (.int .i64 p1), (.int .i64 p2)] h (outC [sP] K) = z66 p0 p1 p2 h K := by kernel_rfl
theorem r66 (p0 : Sl) (p1 : Int) (p2 : Int) (h : Heap) (K : Sl → Heap → Prop) (H : z66 p0 p1 p2 h K) : t66 p0 p1 p2 h K := fn_stepE (C := C66) (fn := Try.f66) (g := 66) o66 rfl rfl (by kernel_rfl) (by kernel_rfl) (by kernel_rfl) (k66 p0 p1 p2 h K) (by kernel_rfl) H

/-! 67: minikin/pair.best -/
noncomputable def b67 : Code := Try.f67.body.getD .skip
noncomputable def c67_33608895078 : Code := (subN b67 33608895078).getD .skip
theorem s67_33608895078 : subN b67 33608895078 = some c67_33608895078 := by kernel_rfl
noncomputable def q67_33608895078 (XN : Sl → Sl → Sl → Int → Sl → Int → Sl → Sl → Sl → Int → Int → Int → Int → Int → Int → Int → Heap → Prop) : Sl → Sl → Sl → Int → Sl → Int → Sl → Sl → Sl → Int → Int → Int → Int → Int → Int → Int → Int → Heap → Prop := qC Try.prog none c67_33608895078 206 [(0, sP), (3, sP), (4, sP), (5, iP .i64), (6, sP), (7, iP .i64), (8, sP), (9, sP), (10, sP), (11, iP .i64), (12, iP .i64), (13, iP .i64), (14, iP .i64), (30, iP .i64), (31, iP .i64), (51, iP .i64), (52, iP .i64)] (outE (grabC 206 [(0, sP), (3, sP), (4, sP), (5, iP .i64), (6, sP), (7, iP .i64), (8, sP), (9, sP), (10, sP), (11, iP .i64), (12, iP .i64), (13, iP .i64), (30, iP .i64), (31, iP .i64), (51, iP .i64), (52, iP .i64)] XN) noE [])
noncomputable def c67_131284745 : Code := (subN b67 262569491).getD .skip
theorem s67_131284745 : subN b67 262569491 = some c67_131284745 := by kernel_rfl
theorem sl67_131284745 : subN b67 131284745 = some (.loop c67_131284745) := by kernel_rfl
noncomputable def l67_131284745 (X4 : Sl → Sl → Sl → Int → Sl → Int → Sl → Sl → Sl → Int → Int → Int → Heap → Prop) : Sl → Sl → Sl → Int → Sl → Int → Sl → Sl → Sl → Int → Int → Int → Int → Int → Int → Int → Heap → Prop := lC Try.prog none c67_131284745 206 [(0, sP), (3, sP), (4, sP), (5, iP .i64), (6, sP), (7, iP .i64), (8, sP), (9, sP), (10, sP), (11, iP .i64), (12, iP .i64), (13, iP .i64), (30, iP .i64), (31, iP .i64), (51, iP .i64), (52, iP .i64)] (outE noE noE [(4, (grabC 206 [(0, sP), (3, sP), (4, sP), (5, iP .i64), (6, sP), (7, iP .i64), (8, sP), (9, sP), (10, sP), (13, iP .i64), (30, iP .i64), (31, iP .i64)] X4))])
noncomputable def c67_1050278009 : Code := (subN b67 2100556019).getD .skip
theorem s67_1050278009 : subN b67 2100556019 = some c67_1050278009 := by kernel_rfl
theorem sl67_1050278009 : subN b67 1050278009 = some (.loop c67_1050278009) := by kernel_rfl
noncomputable def l67_1050278009 (X6 : Sl → Sl → Sl → Int → Sl → Int → Sl → Sl → Sl → Int → Int → Int → Heap → Prop) : Sl → Sl → Sl → Int → Sl → Int → Sl → Sl → Sl → Int → Int → Int → Int → Int → Int → Heap → Prop := lC Try.prog none c67_1050278009 206 [(0, sP), (3, sP), (4, sP), (5, iP .i64), (6, sP), (7, iP .i64), (8, sP), (9, sP), (10, sP), (13, iP .i64), (16, iP .i64), (30, iP .i64), (31, iP .i64), (116, iP .i64), (117, iP .i64)] (outE noE noE [(6, (grabC 206 [(0, sP), (3, sP), (4, sP), (5, iP .i64), (6, sP), (7, iP .i64), (8, sP), (9, sP), (10, sP), (13, iP .i64), (30, iP .i64), (31, iP .i64)] X6))])
noncomputable def c67_2051323 : Code := (subN b67 4102647).getD .skip
theorem s67_2051323 : subN b67 4102647 = some c67_2051323 := by kernel_rfl
theorem sl67_2051323 : subN b67 2051323 = some (.loop c67_2051323) := by kernel_rfl
noncomputable def l67_2051323 (X2 : Sl → Sl → Sl → Int → Sl → Int → Sl → Int → Int → Int → Heap → Prop) : Sl → Sl → Sl → Int → Sl → Int → Sl → Sl → Sl → Int → Int → Int → Int → Heap → Prop := lC Try.prog none c67_2051323 206 [(0, sP), (3, sP), (4, sP), (5, iP .i64), (6, sP), (7, iP .i64), (8, sP), (9, sP), (10, sP), (11, iP .i64), (12, iP .i64), (30, iP .i64), (31, iP .i64)] (outE noE noE [(2, (grabC 206 [(0, sP), (3, sP), (4, sP), (5, iP .i64), (6, sP), (7, iP .i64), (9, sP), (12, iP .i64), (30, iP .i64), (31, iP .i64)] X2))])
noncomputable def c67_4102653 : Code := (subN b67 8205307).getD .skip
theorem s67_4102653 : subN b67 8205307 = some c67_4102653 := by kernel_rfl
theorem sl67_4102653 : subN b67 4102653 = some (.loop c67_4102653) := by kernel_rfl
noncomputable def l67_4102653 (X8 : Sl → Sl → Sl → Int → Sl → Int → Int → Heap → Prop) : Sl → Sl → Sl → Int → Sl → Int → Sl → Int → Int → Int → Heap → Prop := lC Try.prog none c67_4102653 206 [(0, sP), (3, sP), (4, sP), (5, iP .i64), (6, sP), (7, iP .i64), (9, sP), (18, iP .i64), (30, iP .i64), (31, iP .i64)] (outE noE noE [(8, (grabC 206 [(0, sP), (3, sP), (4, sP), (5, iP .i64), (6, sP), (30, iP .i64), (31, iP .i64)] X8))])
noncomputable def c67_249 : Code := (subN b67 499).getD .skip
theorem s67_249 : subN b67 499 = some c67_249 := by kernel_rfl
theorem sl67_249 : subN b67 249 = some (.loop c67_249) := by kernel_rfl
noncomputable def l67_249 (X0 : Sl → Sl → Int → Sl → Heap → Prop) : Sl → Sl → Sl → Int → Sl → Int → Int → Heap → Prop := lC Try.prog none c67_249 206 [(0, sP), (3, sP), (4, sP), (5, iP .i64), (6, sP), (30, iP .i64), (31, iP .i64)] (outE noE noE [(0, (grabC 206 [(3, sP), (4, sP), (5, iP .i64), (6, sP)] X0))])
noncomputable def c67_1017 : Code := (subN b67 2035).getD .skip
theorem s67_1017 : subN b67 2035 = some c67_1017 := by kernel_rfl
theorem sl67_1017 : subN b67 1017 = some (.loop c67_1017) := by kernel_rfl
noncomputable def l67_1017 (X10 : Sl → Sl → Sl → Heap → Prop) : Sl → Sl → Sl → Sl → Int → Int → Heap → Prop := lC Try.prog none c67_1017 206 [(2, sP), (3, sP), (4, sP), (191, sP), (192, iP .i64), (193, iP .i64)] (outE noE noE [(10, (grabC 206 [(2, sP), (3, sP), (4, sP)] X10))])
noncomputable def C67 : Ctx := baseC Try.prog [95, 75] none (cons1 82 w82 (cons1 81 w81 (cons1 80 w80 (allF Try.prog)))) (allI Try.prog) (cons1 1017 (gC 206 [(2, sP), (3, sP), (4, sP), (191, sP), (192, iP .i64), (193, iP .i64)] none none [(10, [(2, sP), (3, sP), (4, sP)])] (lC Try.prog none c67_1017 206 [(2, sP), (3, sP), (4, sP), (191, sP), (192, iP .i64), (193, iP .i64)])) (cons1 249 (gC 206 [(0, sP), (3, sP), (4, sP), (5, iP .i64), (6, sP), (30, iP .i64), (31, iP .i64)] none none [(0, [(3, sP), (4, sP), (5, iP .i64), (6, sP)])] (lC Try.prog none c67_249 206 [(0, sP), (3, sP), (4, sP), (5, iP .i64), (6, sP), (30, iP .i64), (31, iP .i64)])) (cons1 4102653 (gC 206 [(0, sP), (3, sP), (4, sP), (5, iP .i64), (6, sP), (7, iP .i64), (9, sP), (18, iP .i64), (30, iP .i64), (31, iP .i64)] none none [(8, [(0, sP), (3, sP), (4, sP), (5, iP .i64), (6, sP), (30, iP .i64), (31, iP .i64)])] (lC Try.prog none c67_4102653 206 [(0, sP), (3, sP), (4, sP), (5, iP .i64), (6, sP), (7, iP .i64), (9, sP), (18, iP .i64), (30, iP .i64), (31, iP .i64)])) (cons1 2051323 (gC 206 [(0, sP), (3, sP), (4, sP), (5, iP .i64), (6, sP), (7, iP .i64), (8, sP), (9, sP), (10, sP), (11, iP .i64), (12, iP .i64), (30, iP .i64), (31, iP .i64)] none none [(2, [(0, sP), (3, sP), (4, sP), (5, iP .i64), (6, sP), (7, iP .i64), (9, sP), (12, iP .i64), (30, iP .i64), (31, iP .i64)])] (lC Try.prog none c67_2051323 206 [(0, sP), (3, sP), (4, sP), (5, iP .i64), (6, sP), (7, iP .i64), (8, sP), (9, sP), (10, sP), (11, iP .i64), (12, iP .i64), (30, iP .i64), (31, iP .i64)])) (cons1 1050278009 (gC 206 [(0, sP), (3, sP), (4, sP), (5, iP .i64), (6, sP), (7, iP .i64), (8, sP), (9, sP), (10, sP), (13, iP .i64), (16, iP .i64), (30, iP .i64), (31, iP .i64), (116, iP .i64), (117, iP .i64)] none none [(6, [(0, sP), (3, sP), (4, sP), (5, iP .i64), (6, sP), (7, iP .i64), (8, sP), (9, sP), (10, sP), (13, iP .i64), (30, iP .i64), (31, iP .i64)])] (lC Try.prog none c67_1050278009 206 [(0, sP), (3, sP), (4, sP), (5, iP .i64), (6, sP), (7, iP .i64), (8, sP), (9, sP), (10, sP), (13, iP .i64), (16, iP .i64), (30, iP .i64), (31, iP .i64), (116, iP .i64), (117, iP .i64)])) (cons1 131284745 (gC 206 [(0, sP), (3, sP), (4, sP), (5, iP .i64), (6, sP), (7, iP .i64), (8, sP), (9, sP), (10, sP), (11, iP .i64), (12, iP .i64), (13, iP .i64), (30, iP .i64), (31, iP .i64), (51, iP .i64), (52, iP .i64)] none none [(4, [(0, sP), (3, sP), (4, sP), (5, iP .i64), (6, sP), (7, iP .i64), (8, sP), (9, sP), (10, sP), (13, iP .i64), (30, iP .i64), (31, iP .i64)])] (lC Try.prog none c67_131284745 206 [(0, sP), (3, sP), (4, sP), (5, iP .i64), (6, sP), (7, iP .i64), (8, sP), (9, sP), (10, sP), (11, iP .i64), (12, iP .i64), (13, iP .i64), (30, iP .i64), (31, iP .i64), (51, iP .i64), (52, iP .i64)])) (cons1 33608895078 (gC 206 [(0, sP), (3, sP), (4, sP), (5, iP .i64), (6, sP), (7, iP .i64), (8, sP), (9, sP), (10, sP), (11, iP .i64), (12, iP .i64), (13, iP .i64), (14, iP .i64), (30, iP .i64), (31, iP .i64), (51, iP .i64), (52, iP .i64)] (some [(0, sP), (3, sP), (4, sP), (5, iP .i64), (6, sP), (7, iP .i64), (8, sP), (9, sP), (10, sP), (11, iP .i64), (12, iP .i64), (13, iP .i64), (30, iP .i64), (31, iP .i64), (51, iP .i64), (52, iP .i64)]) none [] (qC Try.prog none c67_33608895078 206 [(0, sP), (3, sP), (4, sP), (5, iP .i64), (6, sP), (7, iP .i64), (8, sP), (9, sP), (10, sP), (11, iP .i64), (12, iP .i64), (13, iP .i64), (14, iP .i64), (30, iP .i64), (31, iP .i64), (51, iP .i64), (52, iP .i64)])) none1)))))))
theorem o67 : CtxOK (C67) b67 := (addL (addL (addL (addL (addL (addL (addQ (addF (addF (addF (base_ok eqOK mixOK none b67) (wC_ok Try.prog 80 [sP, iP .i64] [sP])) (wC_ok Try.prog 81 [sP] [iP .i64])) (wC_ok Try.prog 82 [sP, iP .i64] [sP])) s67_33608895078) sl67_131284745) sl67_1050278009) sl67_2051323) sl67_4102653) sl67_249) sl67_1017)
def z67_33608895078 (XN : Sl → Sl → Sl → Int → Sl → Int → Sl → Sl → Sl → Int → Int → Int → Int → Int → Int → Int → Heap → Prop) (v104 : Sl) (v105 : Sl) (v106 : Sl) (v107 : Int) (v108 : Sl) (v109 : Int) (v110 : Sl) (v111 : Sl) (v112 : Sl) (v113 : Int) (v114 : Int) (v115 : Int) (v116 : Int) (v117 : Int) (v118 : Int) (v119 : Int) (v120 : Int) (h121 : Heap) : Prop :=
 (branch (decide (v115 < 0))
 (XN v104 v105 v106 v107 v108 v109 v110 v111 v112 v113 v114 v116 v117 v118 v119 v120 h121)
 (Go.AM.get v110.a fun a122 =>
 (chk (idx v116 v110.len) <|
 (Go.AM.get (asI .i64 (Heap.rd h121 ⟨a122.block, (a122.off + ((Int.toNat v116) * 1)), none⟩)) fun y123 =>
 (Go.AM.get v110.a fun a124 =>
 (chk (idx v115 v110.len) <|
 (Go.AM.get (asI .i64 (Heap.rd h121 ⟨a124.block, (a124.off + ((Int.toNat v115) * 1)), none⟩)) fun y125 =>
 (branch (decide (y123 < y125))
 (XN v104 v105 v106 v107 v108 v109 v110 v111 v112 v113 v114 v116 v117 v118 v119 v120 h121)
 (XN v104 v105 v106 v107 v108 v109 v110 v111 v112 v113 v114 v115 v117 v118 v119 v120 h121)))))))))
theorem k67_33608895078 (XN : Sl → Sl → Sl → Int → Sl → Int → Sl → Sl → Sl → Int → Int → Int → Int → Int → Int → Int → Heap → Prop) (v104 : Sl) (v105 : Sl) (v106 : Sl) (v107 : Int) (v108 : Sl) (v109 : Int) (v110 : Sl) (v111 : Sl) (v112 : Sl) (v113 : Int) (v114 : Int) (v115 : Int) (v116 : Int) (v117 : Int) (v118 : Int) (v119 : Int) (v120 : Int) (h121 : Heap) : (exec (C67) c67_33608895078 true 33608895078 (Fr.put (Fr.put (Fr.put (Fr.put (Fr.put (Fr.put (Fr.put (Fr.put (Fr.put (Fr.put (Fr.put (Fr.put (Fr.put (Fr.put (Fr.put (Fr.put (Fr.put (Fr0 206) (some 0) (Sl.v v104)) (some 3) (Sl.v v105)) (some 4) (Sl.v v106)) (some 5) (.int .i64 v107)) (some 6) (Sl.v v108)) (some 7) (.int .i64 v109)) (some 8) (Sl.v v110)) (some 9) (Sl.v v111)) (some 10) (Sl.v v112)) (some 11) (.int .i64 v113)) (some 12) (.int .i64 v114)) (some 13) (.int .i64 v115)) (some 14) (.int .i64 v116)) (some 30) (.int .i64 v117)) (some 31) (.int .i64 v118)) (some 51) (.int .i64 v119)) (some 52) (.int .i64 v120)) h121 (outE (grabC 206 [(0, sP), (3, sP), (4, sP), (5, iP .i64), (6, sP), (7, iP .i64), (8, sP), (9, sP), (10, sP), (11, iP .i64), (12, iP .i64), (13, iP .i64), (30, iP .i64), (31, iP .i64), (51, iP .i64), (52, iP .i64)] XN) noE [])) = z67_33608895078 XN v104 v105 v106 v107 v108 v109 v110 v111 v112 v113 v114 v115 v116 v117 v118 v119 v120 h121 := by kernel_rfl
theorem r67_33608895078 (XN : Sl → Sl → Sl → Int → Sl → Int → Sl → Sl → Sl → Int → Int → Int → Int → Int → Int → Int → Heap → Prop) (v104 : Sl) (v105 : Sl) (v106 : Sl) (v107 : Int) (v108 : Sl) (v109 : Int) (v110 : Sl) (v111 : Sl) (v112 : Sl) (v113 : Int) (v114 : Int) (v115 : Int) (v116 : Int) (v117 : Int) (v118 : Int) (v119 : Int) (v120 : Int) (h121 : Heap) (H : z67_33608895078 XN v104 v105 v106 v107 v108 v109 v110 v111 v112 v113 v114 v115 v116 v117 v118 v119 v120 h121) : q67_33608895078 XN v104 v105 v106 v107 v108 v109 v110 v111 v112 v113 v114 v115 v116 v117 v118 v119 v120 h121 := piece_stepE (p := 33608895078) (o67) rfl s67_33608895078 (k67_33608895078 XN v104 v105 v106 v107 v108 v109 v110 v111 v112 v113 v114 v115 v116 v117 v118 v119 v120 h121) (by kernel_rfl) H
def z67_131284745 (X4 : Sl → Sl → Sl → Int → Sl → Int → Sl → Sl → Sl → Int → Int → Int → Heap → Prop) (v59 : Sl) (v60 : Sl) (v61 : Sl) (v62 : Int) (v63 : Sl) (v64 : Int) (v65 : Sl) (v66 : Sl) (v67 : Sl) (v68 : Int) (v69 : Int) (v70 : Int) (v71 : Int) (v72 : Int) (v73 : Int) (v74 : Int) (h75 : Heap) : Prop :=
 (branch (decide (v74 < v73))
 (Go.AM.get v67.a fun a78 =>
 (chk (idx v74 v67.len) <|
 (Go.AM.get (asB (Heap.rd h75 ⟨a78.block, (a78.off + ((Int.toNat v74) * 1)), none⟩)) fun y79 =>
 (branch y79
 (l67_131284745 X4 v59 v60 v61 v62 v63 v64 v65 v66 v67 v68 v69 v70 v71 v72 v73 (IntKind.wrap .i64 (v74 + 1)) h75)
 (Go.AM.get v60.a fun a126 =>
 (chk (idx v68 v60.len) <|
 (Go.AM.get (asI .i64 (Heap.rd h75 ⟨a126.block, (a126.off + ((Int.toNat v68) * 1)), none⟩)) fun y127 =>
 (Go.AM.get v61.a fun a128 =>
 (chk (idx v74 v61.len) <|
 (Go.AM.get (asI .i64 (Heap.rd h75 ⟨a128.block, (a128.off + ((Int.toNat v74) * 1)), none⟩)) fun y129 =>
 (Go.AM.get v59.a fun a130 =>
 (chk (idx v68 v59.len) <|
 (Go.AM.get (asS (Heap.rd h75 ⟨a130.block, (a130.off + ((Int.toNat v68) * 1)), none⟩)) fun y131 =>
 (Go.AM.get y131.a fun a132 =>
 (chk (idx v74 y131.len) <|
 (Go.AM.get (asI .i64 (Heap.rd h75 ⟨a132.block, (a132.off + ((Int.toNat v74) * 1)), none⟩)) fun y133 =>
 (Go.AM.get v65.a fun a134 =>
 (chk (idx v74 v65.len) <|
 (Go.AM.get (asI .i64 (Heap.rd h75 ⟨a134.block, (a134.off + ((Int.toNat v74) * 1)), none⟩)) fun y135 =>
 (branch (decide ((IntKind.wrap .i64 ((IntKind.wrap .i64 (y127 + y129)) - y133)) < y135))
 (Go.AM.get v65.a fun a136 =>
 (chk (idx v74 v65.len) <|
 (Go.AM.get (Heap.wr h75 ⟨a136.block, (a136.off + ((Int.toNat v74) * 1)), none⟩ [(.int .i64 (IntKind.wrap .i64 ((IntKind.wrap .i64 (y127 + y129)) - y133)))]) fun h137 =>
 (Go.AM.get v66.a fun a138 =>
 (chk (idx v74 v66.len) <|
 (Go.AM.get (Heap.wr h137 ⟨a138.block, (a138.off + ((Int.toNat v74) * 1)), none⟩ [(.int .i64 v69)]) fun h139 =>
 (q67_33608895078
 (fun z140 z141 z142 z143 z144 z145 z146 z147 z148 z149 z150 z151 z152 z153 z154 z155 h156 =>
 (l67_131284745 X4 z140 z141 z142 z143 z144 z145 z146 z147 z148 z149 z150 z151 z152 z153 z154 (IntKind.wrap .i64 (z155 + 1)) h156))
 v59 v60 v61 v62 v63 v64 v65 v66 v67 v68 v69 v70 v74 v71 v72 v73 v74 h139)))))))
 (q67_33608895078
 (fun z157 z158 z159 z160 z161 z162 z163 z164 z165 z166 z167 z168 z169 z170 z171 z172 h173 =>
 (l67_131284745 X4 z157 z158 z159 z160 z161 z162 z163 z164 z165 z166 z167 z168 z169 z170 z171 (IntKind.wrap .i64 (z172 + 1)) h173))
 v59 v60 v61 v62 v63 v64 v65 v66 v67 v68 v69 v70 v74 v71 v72 v73 v74 h75)))))))))))))))))))))
 (X4 v59 v60 v61 v62 v63 v64 v65 v66 v67 v70 v71 v72 h75))
theorem k67_131284745 (X4 : Sl → Sl → Sl → Int → Sl → Int → Sl → Sl → Sl → Int → Int → Int → Heap → Prop) (v59 : Sl) (v60 : Sl) (v61 : Sl) (v62 : Int) (v63 : Sl) (v64 : Int) (v65 : Sl) (v66 : Sl) (v67 : Sl) (v68 : Int) (v69 : Int) (v70 : Int) (v71 : Int) (v72 : Int) (v73 : Int) (v74 : Int) (h75 : Heap) : (exec (C67) c67_131284745 false 262569491 (Fr.put (Fr.put (Fr.put (Fr.put (Fr.put (Fr.put (Fr.put (Fr.put (Fr.put (Fr.put (Fr.put (Fr.put (Fr.put (Fr.put (Fr.put (Fr.put (Fr0 206) (some 0) (Sl.v v59)) (some 3) (Sl.v v60)) (some 4) (Sl.v v61)) (some 5) (.int .i64 v62)) (some 6) (Sl.v v63)) (some 7) (.int .i64 v64)) (some 8) (Sl.v v65)) (some 9) (Sl.v v66)) (some 10) (Sl.v v67)) (some 11) (.int .i64 v68)) (some 12) (.int .i64 v69)) (some 13) (.int .i64 v70)) (some 30) (.int .i64 v71)) (some 31) (.int .i64 v72)) (some 51) (.int .i64 v73)) (some 52) (.int .i64 v74)) h75 (loopE (grabC 206 [(0, sP), (3, sP), (4, sP), (5, iP .i64), (6, sP), (7, iP .i64), (8, sP), (9, sP), (10, sP), (11, iP .i64), (12, iP .i64), (13, iP .i64), (30, iP .i64), (31, iP .i64), (51, iP .i64), (52, iP .i64)] (lC (C67).P (C67).yld c67_131284745 206 [(0, sP), (3, sP), (4, sP), (5, iP .i64), (6, sP), (7, iP .i64), (8, sP), (9, sP), (10, sP), (11, iP .i64), (12, iP .i64), (13, iP .i64), (30, iP .i64), (31, iP .i64), (51, iP .i64), (52, iP .i64)] (outE noE noE [(4, (grabC 206 [(0, sP), (3, sP), (4, sP), (5, iP .i64), (6, sP), (7, iP .i64), (8, sP), (9, sP), (10, sP), (13, iP .i64), (30, iP .i64), (31, iP .i64)] X4))]))) (outE noE noE [(4, (grabC 206 [(0, sP), (3, sP), (4, sP), (5, iP .i64), (6, sP), (7, iP .i64), (8, sP), (9, sP), (10, sP), (13, iP .i64), (30, iP .i64), (31, iP .i64)] X4))]))) = z67_131284745 X4 v59 v60 v61 v62 v63 v64 v65 v66 v67 v68 v69 v70 v71 v72 v73 v74 h75 := by kernel_rfl
theorem r67_131284745 (X4 : Sl → Sl → Sl → Int → Sl → Int → Sl → Sl → Sl → Int → Int → Int → Heap → Prop) (v59 : Sl) (v60 : Sl) (v61 : Sl) (v62 : Int) (v63 : Sl) (v64 : Int) (v65 : Sl) (v66 : Sl) (v67 : Sl) (v68 : Int) (v69 : Int) (v70 : Int) (v71 : Int) (v72 : Int) (v73 : Int) (v74 : Int) (h75 : Heap) (H : z67_131284745 X4 v59 v60 v61 v62 v63 v64 v65 v66 v67 v68 v69 v70 v71 v72 v73 v74 h75) : l67_131284745 X4 v59 v60 v61 v62 v63 v64 v65 v66 v67 v68 v69 v70 v71 v72 v73 v74 h75 := loop_stepE (p := 131284745) (N := 206) (keep := [(0, sP), (3, sP), (4, sP), (5, iP .i64), (6, sP), (7, iP .i64), (8, sP), (9, sP), (10, sP), (11, iP .i64), (12, iP .i64), (13, iP .i64), (30, iP .i64), (31, iP .i64), (51, iP .i64), (52, iP .i64)]) (o67) rfl s67_131284745 (k67_131284745 X4 v59 v60 v61 v62 v63 v64 v65 v66 v67 v68 v69 v70 v71 v72 v73 v74 h75) (by kernel_rfl) H
def z67_1050278009 (X6 : Sl → Sl → Sl → Int → Sl → Int → Sl → Sl → Sl → Int → Int → Int → Heap → Prop) (v212 : Sl) (v213 : Sl) (v214 : Sl) (v215 : Int) (v216 : Sl) (v217 : Int) (v218 : Sl) (v219 : Sl) (v220 : Sl) (v221 : Int) (v222 : Int) (v223 : Int) (v224 : Int) (v225 : Int) (v226 : Int) (h227 : Heap) : Prop :=
 (branch (decide (v226 < v225))
 (Go.AM.get v220.a fun a230 =>
 (chk (idx v226 v220.len) <|
 (Go.AM.get (asB (Heap.rd h227 ⟨a230.block, (a230.off + ((Int.toNat v226) * 1)), none⟩)) fun y231 =>
 (branch y231
 (Go.AM.get v216.a fun a238 =>
 (chk (idx v226 v216.len) <|
 (Go.AM.get (asI .i64 (Heap.rd h227 ⟨a238.block, (a238.off + ((Int.toNat v226) * 1)), none⟩)) fun y239 =>
 (Go.AM.get v213.a fun a240 =>
 (chk (idx y239 v213.len) <|
 (Go.AM.get (asI .i64 (Heap.rd h227 ⟨a240.block, (a240.off + ((Int.toNat y239) * 1)), none⟩)) fun y241 =>
 (Go.AM.get v213.a fun a242 =>
 (chk (idx y239 v213.len) <|
 (Go.AM.get (Heap.wr h227 ⟨a242.block, (a242.off + ((Int.toNat y239) * 1)), none⟩ [(.int .i64 (IntKind.wrap .i64 (y241 - v222)))]) fun h243 =>
 (Go.AM.get v214.a fun a244 =>
 (chk (idx v226 v214.len) <|
 (Go.AM.get (asI .i64 (Heap.rd h243 ⟨a244.block, (a244.off + ((Int.toNat v226) * 1)), none⟩)) fun y245 =>
 (Go.AM.get v214.a fun a246 =>
 (chk (idx v226 v214.len) <|
 (Go.AM.get (Heap.wr h243 ⟨a246.block, (a246.off + ((Int.toNat v226) * 1)), none⟩ [(.int .i64 (IntKind.wrap .i64 (y245 + v222)))]) fun h247 =>
 (l67_1050278009 X6 v212 v213 v214 v215 v216 v217 v218 v219 v220 v221 v222 v223 v224 v225 (IntKind.wrap .i64 (v226 + 1)) h247))))))))))))))))
 (Go.AM.get v218.a fun a248 =>
 (chk (idx v226 v218.len) <|
 (Go.AM.get (asI .i64 (Heap.rd h227 ⟨a248.block, (a248.off + ((Int.toNat v226) * 1)), none⟩)) fun y249 =>
 (Go.AM.get v218.a fun a250 =>
 (chk (idx v226 v218.len) <|
 (Go.AM.get (Heap.wr h227 ⟨a250.block, (a250.off + ((Int.toNat v226) * 1)), none⟩ [(.int .i64 (IntKind.wrap .i64 (y249 - v222)))]) fun h251 =>
 (l67_1050278009 X6 v212 v213 v214 v215 v216 v217 v218 v219 v220 v221 v222 v223 v224 v225 (IntKind.wrap .i64 (v226 + 1)) h251)))))))))))
 (X6 v212 v213 v214 v215 v216 v217 v218 v219 v220 v221 v223 v224 h227))
theorem k67_1050278009 (X6 : Sl → Sl → Sl → Int → Sl → Int → Sl → Sl → Sl → Int → Int → Int → Heap → Prop) (v212 : Sl) (v213 : Sl) (v214 : Sl) (v215 : Int) (v216 : Sl) (v217 : Int) (v218 : Sl) (v219 : Sl) (v220 : Sl) (v221 : Int) (v222 : Int) (v223 : Int) (v224 : Int) (v225 : Int) (v226 : Int) (h227 : Heap) : (exec (C67) c67_1050278009 false 2100556019 (Fr.put (Fr.put (Fr.put (Fr.put (Fr.put (Fr.put (Fr.put (Fr.put (Fr.put (Fr.put (Fr.put (Fr.put (Fr.put (Fr.put (Fr.put (Fr0 206) (some 0) (Sl.v v212)) (some 3) (Sl.v v213)) (some 4) (Sl.v v214)) (some 5) (.int .i64 v215)) (some 6) (Sl.v v216)) (some 7) (.int .i64 v217)) (some 8) (Sl.v v218)) (some 9) (Sl.v v219)) (some 10) (Sl.v v220)) (some 13) (.int .i64 v221)) (some 16) (.int .i64 v222)) (some 30) (.int .i64 v223)) (some 31) (.int .i64 v224)) (some 116) (.int .i64 v225)) (some 117) (.int .i64 v226)) h227 (loopE (grabC 206 [(0, sP), (3, sP), (4, sP), (5, iP .i64), (6, sP), (7, iP .i64), (8, sP), (9, sP), (10, sP), (13, iP .i64), (16, iP .i64), (30, iP .i64), (31, iP .i64), (116, iP .i64), (117, iP .i64)] (lC (C67).P (C67).yld c67_1050278009 206 [(0, sP), (3, sP), (4, sP), (5, iP .i64), (6, sP), (7, iP .i64), (8, sP), (9, sP), (10, sP), (13, iP .i64), (16, iP .i64), (30, iP .i64), (31, iP .i64), (116, iP .i64), (117, iP .i64)] (outE noE noE [(6, (grabC 206 [(0, sP), (3, sP), (4, sP), (5, iP .i64), (6, sP), (7, iP .i64), (8, sP), (9, sP), (10, sP), (13, iP .i64), (30, iP .i64), (31, iP .i64)] X6))]))) (outE noE noE [(6, (grabC 206 [(0, sP), (3, sP), (4, sP), (5, iP .i64), (6, sP), (7, iP .i64), (8, sP), (9, sP), (10, sP), (13, iP .i64), (30, iP .i64), (31, iP .i64)] X6))]))) = z67_1050278009 X6 v212 v213 v214 v215 v216 v217 v218 v219 v220 v221 v222 v223 v224 v225 v226 h227 := by kernel_rfl
theorem r67_1050278009 (X6 : Sl → Sl → Sl → Int → Sl → Int → Sl → Sl → Sl → Int → Int → Int → Heap → Prop) (v212 : Sl) (v213 : Sl) (v214 : Sl) (v215 : Int) (v216 : Sl) (v217 : Int) (v218 : Sl) (v219 : Sl) (v220 : Sl) (v221 : Int) (v222 : Int) (v223 : Int) (v224 : Int) (v225 : Int) (v226 : Int) (h227 : Heap) (H : z67_1050278009 X6 v212 v213 v214 v215 v216 v217 v218 v219 v220 v221 v222 v223 v224 v225 v226 h227) : l67_1050278009 X6 v212 v213 v214 v215 v216 v217 v218 v219 v220 v221 v222 v223 v224 v225 v226 h227 := loop_stepE (p := 1050278009) (N := 206) (keep := [(0, sP), (3, sP), (4, sP), (5, iP .i64), (6, sP), (7, iP .i64), (8, sP), (9, sP), (10, sP), (13, iP .i64), (16, iP .i64), (30, iP .i64), (31, iP .i64), (116, iP .i64), (117, iP .i64)]) (o67) rfl s67_1050278009 (k67_1050278009 X6 v212 v213 v214 v215 v216 v217 v218 v219 v220 v221 v222 v223 v224 v225 v226 h227) (by kernel_rfl) H
def z67_2051323 (X2 : Sl → Sl → Sl → Int → Sl → Int → Sl → Int → Int → Int → Heap → Prop) (v45 : Sl) (v46 : Sl) (v47 : Sl) (v48 : Int) (v49 : Sl) (v50 : Int) (v51 : Sl) (v52 : Sl) (v53 : Sl) (v54 : Int) (v55 : Int) (v56 : Int) (v57 : Int) (h58 : Heap) : Prop :=
 (l67_131284745
 (fun z187 z188 z189 z190 z191 z192 z193 z194 z195 z196 z197 z198 h199 =>
 (Go.AM.get z193.a fun a202 =>
 (chk (idx z196 z193.len) <|
 (Go.AM.get (asI .i64 (Heap.rd h199 ⟨a202.block, (a202.off + ((Int.toNat z196) * 1)), none⟩)) fun y203 =>
 (Go.AM.get z188.a fun a208 =>
 (chk (idx z192 z188.len) <|
 (Go.AM.get (asI .i64 (Heap.rd h199 ⟨a208.block, (a208.off + ((Int.toNat z192) * 1)), none⟩)) fun y209 =>
 (Go.AM.get z188.a fun a210 =>
 (chk (idx z192 z188.len) <|
 (Go.AM.get (Heap.wr h199 ⟨a210.block, (a210.off + ((Int.toNat z192) * 1)), none⟩ [(.int .i64 (IntKind.wrap .i64 (y209 - y203)))]) fun h211 =>
 (l67_1050278009
 (fun z265 z266 z267 z268 z269 z270 z271 z272 z273 z274 z275 z276 h277 =>
 (Go.AM.get z273.a fun a280 =>
 (chk (idx z274 z273.len) <|
 (Go.AM.get (Heap.wr h277 ⟨a280.block, (a280.off + ((Int.toNat z274) * 1)), none⟩ [(.bool true)]) fun h281 =>
 (Go.AM.get z269.a fun a282 =>
 (chk (idx z274 z269.len) <|
 (Go.AM.get (asI .i64 (Heap.rd h281 ⟨a282.block, (a282.off + ((Int.toNat z274) * 1)), none⟩)) fun y283 =>
 (branch (decide (y283 < 0))
 (X2 z265 z266 z267 z268 z269 z270 z272 z274 z275 z276 h281)
 (Go.AM.get z269.a fun a284 =>
 (chk (idx z274 z269.len) <|
 (Go.AM.get (asI .i64 (Heap.rd h281 ⟨a284.block, (a284.off + ((Int.toNat z274) * 1)), none⟩)) fun y285 =>
 (l67_2051323 X2 z265 z266 z267 z268 z269 z270 z271 z272 z273 y285 z274 z275 z276 h281))))))))))))
 z187 z188 z189 z190 z191 z192 z193 z194 z195 z196 y203 z197 z198 z190 0 h211)))))))))))
 v45 v46 v47 v48 v49 v50 v51 v52 v53 v54 v55 (-1) v56 v57 v48 0 h58)
theorem k67_2051323 (X2 : Sl → Sl → Sl → Int → Sl → Int → Sl → Int → Int → Int → Heap → Prop) (v45 : Sl) (v46 : Sl) (v47 : Sl) (v48 : Int) (v49 : Sl) (v50 : Int) (v51 : Sl) (v52 : Sl) (v53 : Sl) (v54 : Int) (v55 : Int) (v56 : Int) (v57 : Int) (h58 : Heap) : (exec (C67) c67_2051323 false 4102647 (Fr.put (Fr.put (Fr.put (Fr.put (Fr.put (Fr.put (Fr.put (Fr.put (Fr.put (Fr.put (Fr.put (Fr.put (Fr.put (Fr0 206) (some 0) (Sl.v v45)) (some 3) (Sl.v v46)) (some 4) (Sl.v v47)) (some 5) (.int .i64 v48)) (some 6) (Sl.v v49)) (some 7) (.int .i64 v50)) (some 8) (Sl.v v51)) (some 9) (Sl.v v52)) (some 10) (Sl.v v53)) (some 11) (.int .i64 v54)) (some 12) (.int .i64 v55)) (some 30) (.int .i64 v56)) (some 31) (.int .i64 v57)) h58 (loopE (grabC 206 [(0, sP), (3, sP), (4, sP), (5, iP .i64), (6, sP), (7, iP .i64), (8, sP), (9, sP), (10, sP), (11, iP .i64), (12, iP .i64), (30, iP .i64), (31, iP .i64)] (lC (C67).P (C67).yld c67_2051323 206 [(0, sP), (3, sP), (4, sP), (5, iP .i64), (6, sP), (7, iP .i64), (8, sP), (9, sP), (10, sP), (11, iP .i64), (12, iP .i64), (30, iP .i64), (31, iP .i64)] (outE noE noE [(2, (grabC 206 [(0, sP), (3, sP), (4, sP), (5, iP .i64), (6, sP), (7, iP .i64), (9, sP), (12, iP .i64), (30, iP .i64), (31, iP .i64)] X2))]))) (outE noE noE [(2, (grabC 206 [(0, sP), (3, sP), (4, sP), (5, iP .i64), (6, sP), (7, iP .i64), (9, sP), (12, iP .i64), (30, iP .i64), (31, iP .i64)] X2))]))) = z67_2051323 X2 v45 v46 v47 v48 v49 v50 v51 v52 v53 v54 v55 v56 v57 h58 := by kernel_rfl
theorem r67_2051323 (X2 : Sl → Sl → Sl → Int → Sl → Int → Sl → Int → Int → Int → Heap → Prop) (v45 : Sl) (v46 : Sl) (v47 : Sl) (v48 : Int) (v49 : Sl) (v50 : Int) (v51 : Sl) (v52 : Sl) (v53 : Sl) (v54 : Int) (v55 : Int) (v56 : Int) (v57 : Int) (h58 : Heap) (H : z67_2051323 X2 v45 v46 v47 v48 v49 v50 v51 v52 v53 v54 v55 v56 v57 h58) : l67_2051323 X2 v45 v46 v47 v48 v49 v50 v51 v52 v53 v54 v55 v56 v57 h58 := loop_stepE (p := 2051323) (N := 206) (keep := [(0, sP), (3, sP), (4, sP), (5, iP .i64), (6, sP), (7, iP .i64), (8, sP), (9, sP), (10, sP), (11, iP .i64), (12, iP .i64), (30, iP .i64), (31, iP .i64)]) (o67) rfl s67_2051323 (k67_2051323 X2 v45 v46 v47 v48 v49 v50 v51 v52 v53 v54 v55 v56 v57 h58) (by kernel_rfl) H
def z67_4102653 (X8 : Sl → Sl → Sl → Int → Sl → Int → Int → Heap → Prop) (v308 : Sl) (v309 : Sl) (v310 : Sl) (v311 : Int) (v312 : Sl) (v313 : Int) (v314 : Sl) (v315 : Int) (v316 : Int) (v317 : Int) (h318 : Heap) : Prop :=
 (branch (decide (v315 ≥ 0))
 (Go.AM.get v314.a fun a321 =>
 (chk (idx v315 v314.len) <|
 (Go.AM.get (asI .i64 (Heap.rd h318 ⟨a321.block, (a321.off + ((Int.toNat v315) * 1)), none⟩)) fun y322 =>
 (branch (decide (y322 ≥ 0))
 (Go.AM.get v314.a fun a323 =>
 (chk (idx v315 v314.len) <|
 (Go.AM.get (asI .i64 (Heap.rd h318 ⟨a323.block, (a323.off + ((Int.toNat v315) * 1)), none⟩)) fun y324 =>
 (Go.AM.get v312.a fun a325 =>
 (chk (idx y324 v312.len) <|
 (Go.AM.get (asI .i64 (Heap.rd h318 ⟨a325.block, (a325.off + ((Int.toNat y324) * 1)), none⟩)) fun y326 =>
 (Go.AM.get v312.a fun a327 =>
 (chk (idx v315 v312.len) <|
 (Go.AM.get (Heap.wr h318 ⟨a327.block, (a327.off + ((Int.toNat v315) * 1)), none⟩ [(.int .i64 y326)]) fun h328 =>
 (Go.AM.get v314.a fun a329 =>
 (chk (idx v315 v314.len) <|
 (Go.AM.get (asI .i64 (Heap.rd h328 ⟨a329.block, (a329.off + ((Int.toNat v315) * 1)), none⟩)) fun y330 =>
 (l67_4102653 X8 v308 v309 v310 v311 v312 v313 v314 y330 v316 v317 h328)))))))))))))
 (Go.AM.get v312.a fun a331 =>
 (chk (idx v315 v312.len) <|
 (Go.AM.get (Heap.wr h318 ⟨a331.block, (a331.off + ((Int.toNat v315) * 1)), none⟩ [(.int .i64 v313)]) fun h332 =>
 (Go.AM.get v314.a fun a333 =>
 (chk (idx v315 v314.len) <|
 (Go.AM.get (asI .i64 (Heap.rd h332 ⟨a333.block, (a333.off + ((Int.toNat v315) * 1)), none⟩)) fun y334 =>
 (l67_4102653 X8 v308 v309 v310 v311 v312 v313 v314 y334 v316 v317 h332)))))))))))
 (X8 v308 v309 v310 v311 v312 v316 v317 h318))
theorem k67_4102653 (X8 : Sl → Sl → Sl → Int → Sl → Int → Int → Heap → Prop) (v308 : Sl) (v309 : Sl) (v310 : Sl) (v311 : Int) (v312 : Sl) (v313 : Int) (v314 : Sl) (v315 : Int) (v316 : Int) (v317 : Int) (h318 : Heap) : (exec (C67) c67_4102653 false 8205307 (Fr.put (Fr.put (Fr.put (Fr.put (Fr.put (Fr.put (Fr.put (Fr.put (Fr.put (Fr.put (Fr0 206) (some 0) (Sl.v v308)) (some 3) (Sl.v v309)) (some 4) (Sl.v v310)) (some 5) (.int .i64 v311)) (some 6) (Sl.v v312)) (some 7) (.int .i64 v313)) (some 9) (Sl.v v314)) (some 18) (.int .i64 v315)) (some 30) (.int .i64 v316)) (some 31) (.int .i64 v317)) h318 (loopE (grabC 206 [(0, sP), (3, sP), (4, sP), (5, iP .i64), (6, sP), (7, iP .i64), (9, sP), (18, iP .i64), (30, iP .i64), (31, iP .i64)] (lC (C67).P (C67).yld c67_4102653 206 [(0, sP), (3, sP), (4, sP), (5, iP .i64), (6, sP), (7, iP .i64), (9, sP), (18, iP .i64), (30, iP .i64), (31, iP .i64)] (outE noE noE [(8, (grabC 206 [(0, sP), (3, sP), (4, sP), (5, iP .i64), (6, sP), (30, iP .i64), (31, iP .i64)] X8))]))) (outE noE noE [(8, (grabC 206 [(0, sP), (3, sP), (4, sP), (5, iP .i64), (6, sP), (30, iP .i64), (31, iP .i64)] X8))]))) = z67_4102653 X8 v308 v309 v310 v311 v312 v313 v314 v315 v316 v317 h318 := by kernel_rfl
theorem r67_4102653 (X8 : Sl → Sl → Sl → Int → Sl → Int → Int → Heap → Prop) (v308 : Sl) (v309 : Sl) (v310 : Sl) (v311 : Int) (v312 : Sl) (v313 : Int) (v314 : Sl) (v315 : Int) (v316 : Int) (v317 : Int) (h318 : Heap) (H : z67_4102653 X8 v308 v309 v310 v311 v312 v313 v314 v315 v316 v317 h318) : l67_4102653 X8 v308 v309 v310 v311 v312 v313 v314 v315 v316 v317 h318 := loop_stepE (p := 4102653) (N := 206) (keep := [(0, sP), (3, sP), (4, sP), (5, iP .i64), (6, sP), (7, iP .i64), (9, sP), (18, iP .i64), (30, iP .i64), (31, iP .i64)]) (o67) rfl s67_4102653 (k67_4102653 X8 v308 v309 v310 v311 v312 v313 v314 v315 v316 v317 h318) (by kernel_rfl) H
def z67_249 (X0 : Sl → Sl → Int → Sl → Heap → Prop) (v11 : Sl) (v12 : Sl) (v13 : Sl) (v14 : Int) (v15 : Sl) (v16 : Int) (v17 : Int) (h18 : Heap) : Prop :=
 (branch (decide (v17 < v16))
 (Go.AM.get v11.a fun a25 =>
 (chk (idx v17 v11.len) <|
 (Go.AM.get (asS (Heap.rd h18 ⟨a25.block, (a25.off + ((Int.toNat v17) * 1)), none⟩)) fun y26 =>
 (t81 y26 h18 fun r27 h28 =>
 (Go.AM.get v12.a fun a29 =>
 (chk (idx v17 v12.len) <|
 (Go.AM.get (Heap.wr h28 ⟨a29.block, (a29.off + ((Int.toNat v17) * 1)), none⟩ [(.int .i64 r27)]) fun h30 =>
 (withH (Heap.new h30 (.cells [(.int .i64 1152921504606846976)] false)) fun h34 =>
 (t82 (Sl.mk (some ⟨h30.next, 0, (some 0)⟩) 1 1) v14 h34 fun r35 h36 =>
 (withH (Heap.new h36 (.cells [(.int .i64 (-1))] false)) fun h40 =>
 (t80 (Sl.mk (some ⟨h36.next, 0, (some 0)⟩) 1 1) v14 h40 fun r41 h42 =>
 (chk (within 0 v14 v14 && (decide (v14 ≤ 1000000000000) && (small (Int.toNat v14) 1 && true))) <|
 (withH (Heap.new h42 (.cells (rep [(.bool false)] (Int.toNat v14)) false)) fun h44 =>
 (l67_2051323
 (fun z297 z298 z299 z300 z301 z302 z303 z304 z305 z306 h307 =>
 (l67_4102653
 (fun z335 z336 z337 z338 z339 z340 z341 h342 =>
 (l67_249 X0 z335 z336 z337 z338 z339 z340 (IntKind.wrap .i64 (z341 + 1)) h342))
 z297 z298 z299 z300 z301 z302 z303 z304 z305 z306 h307))
 v11 v12 v13 v14 v15 v17 r35 r41 (Sl.mk (some ⟨h42.next, 0, (some 0)⟩) (Int.toNat v14) (Int.toNat v14)) v17 (-1) v16 v17 h44))))))))))))))
 (X0 v12 v13 v14 v15 h18))
theorem k67_249 (X0 : Sl → Sl → Int → Sl → Heap → Prop) (v11 : Sl) (v12 : Sl) (v13 : Sl) (v14 : Int) (v15 : Sl) (v16 : Int) (v17 : Int) (h18 : Heap) : (exec (C67) c67_249 false 499 (Fr.put (Fr.put (Fr.put (Fr.put (Fr.put (Fr.put (Fr.put (Fr0 206) (some 0) (Sl.v v11)) (some 3) (Sl.v v12)) (some 4) (Sl.v v13)) (some 5) (.int .i64 v14)) (some 6) (Sl.v v15)) (some 30) (.int .i64 v16)) (some 31) (.int .i64 v17)) h18 (loopE (grabC 206 [(0, sP), (3, sP), (4, sP), (5, iP .i64), (6, sP), (30, iP .i64), (31, iP .i64)] (lC (C67).P (C67).yld c67_249 206 [(0, sP), (3, sP), (4, sP), (5, iP .i64), (6, sP), (30, iP .i64), (31, iP .i64)] (outE noE noE [(0, (grabC 206 [(3, sP), (4, sP), (5, iP .i64), (6, sP)] X0))]))) (outE noE noE [(0, (grabC 206 [(3, sP), (4, sP), (5, iP .i64), (6, sP)] X0))]))) = z67_249 X0 v11 v12 v13 v14 v15 v16 v17 h18 := by kernel_rfl
theorem r67_249 (X0 : Sl → Sl → Int → Sl → Heap → Prop) (v11 : Sl) (v12 : Sl) (v13 : Sl) (v14 : Int) (v15 : Sl) (v16 : Int) (v17 : Int) (h18 : Heap) (H : z67_249 X0 v11 v12 v13 v14 v15 v16 v17 h18) : l67_249 X0 v11 v12 v13 v14 v15 v16 v17 h18 := loop_stepE (p := 249) (N := 206) (keep := [(0, sP), (3, sP), (4, sP), (5, iP .i64), (6, sP), (30, iP .i64), (31, iP .i64)]) (o67) rfl s67_249 (k67_249 X0 v11 v12 v13 v14 v15 v16 v17 h18) (by kernel_rfl) H
def z67_1017 (X10 : Sl → Sl → Sl → Heap → Prop) (v355 : Sl) (v356 : Sl) (v357 : Sl) (v358 : Sl) (v359 : Int) (v360 : Int) (h361 : Heap) : Prop :=
 (branch (decide (v360 < v359))
 (Go.AM.get v358.a fun a362 =>
 (chk (idx v360 v358.len) <|
 (Go.AM.get (asI .i64 (Heap.rd h361 ⟨a362.block, (a362.off + ((Int.toNat v360) * 1)), none⟩)) fun y363 =>
 (Go.AM.get v355.a fun a364 =>
 (chk (idx y363 v355.len) <|
 (Go.AM.get (Heap.wr h361 ⟨a364.block, (a364.off + ((Int.toNat y363) * 1)), none⟩ [(.int .i64 v360)]) fun h365 =>
 (l67_1017 X10 v355 v356 v357 v358 v359 (IntKind.wrap .i64 (v360 + 1)) h365)))))))
 (X10 v355 v356 v357 h361))
theorem k67_1017 (X10 : Sl → Sl → Sl → Heap → Prop) (v355 : Sl) (v356 : Sl) (v357 : Sl) (v358 : Sl) (v359 : Int) (v360 : Int) (h361 : Heap) : (exec (C67) c67_1017 false 2035 (Fr.put (Fr.put (Fr.put (Fr.put (Fr.put (Fr.put (Fr0 206) (some 2) (Sl.v v355)) (some 3) (Sl.v v356)) (some 4) (Sl.v v357)) (some 191) (Sl.v v358)) (some 192) (.int .i64 v359)) (some 193) (.int .i64 v360)) h361 (loopE (grabC 206 [(2, sP), (3, sP), (4, sP), (191, sP), (192, iP .i64), (193, iP .i64)] (lC (C67).P (C67).yld c67_1017 206 [(2, sP), (3, sP), (4, sP), (191, sP), (192, iP .i64), (193, iP .i64)] (outE noE noE [(10, (grabC 206 [(2, sP), (3, sP), (4, sP)] X10))]))) (outE noE noE [(10, (grabC 206 [(2, sP), (3, sP), (4, sP)] X10))]))) = z67_1017 X10 v355 v356 v357 v358 v359 v360 h361 := by kernel_rfl
theorem r67_1017 (X10 : Sl → Sl → Sl → Heap → Prop) (v355 : Sl) (v356 : Sl) (v357 : Sl) (v358 : Sl) (v359 : Int) (v360 : Int) (h361 : Heap) (H : z67_1017 X10 v355 v356 v357 v358 v359 v360 h361) : l67_1017 X10 v355 v356 v357 v358 v359 v360 h361 := loop_stepE (p := 1017) (N := 206) (keep := [(2, sP), (3, sP), (4, sP), (191, sP), (192, iP .i64), (193, iP .i64)]) (o67) rfl s67_1017 (k67_1017 X10 v355 v356 v357 v358 v359 v360 h361) (by kernel_rfl) H
def z67 (p0 : Sl) (h : Heap) (K : Sl → Sl → Sl → Heap → Prop) : Prop :=
 (chk (within 0 ((p0.len : Nat) : Int) ((p0.len : Nat) : Int) && (decide (((p0.len : Nat) : Int) ≤ 1000000000000) && (small (Int.toNat ((p0.len : Nat) : Int)) 8 && true))) <|
 (withH (Heap.new h (.cells (rep [(.int .i64 0)] (Int.toNat ((p0.len : Nat) : Int))) false)) fun h3 =>
 (chk (within 0 ((p0.len : Nat) : Int) ((p0.len : Nat) : Int) && (decide (((p0.len : Nat) : Int) ≤ 1000000000000) && (small (Int.toNat ((p0.len : Nat) : Int)) 8 && true))) <|
 (withH (Heap.new h3 (.cells (rep [(.int .i64 0)] (Int.toNat ((p0.len : Nat) : Int))) false)) fun h4 =>
 (Heap.get h4 h3.next = Heap.get h4 h3.next ∧ (withH (Heap.new h4 (.cells [(.int .i64 (-1))] false)) fun h8 =>
 (t80 (Sl.mk (some ⟨h4.next, 0, (some 0)⟩) 1 1) ((p0.len : Nat) : Int) h8 fun r9 h10 =>
 (l67_249
 (fun z348 z349 z350 z351 h352 =>
 (chk (within 0 z350 z350 && (decide (z350 ≤ 1000000000000) && (small (Int.toNat z350) 8 && true))) <|
 (withH (Heap.new h352 (.cells (rep [(.int .i64 0)] (Int.toNat z350)) false)) fun h354 =>
 (l67_1017
 (fun z366 z367 z368 h369 =>
 (K z366 z367 z368 h369))
 (Sl.mk (some ⟨h352.next, 0, (some 0)⟩) (Int.toNat z350) (Int.toNat z350)) z348 z349 z351 ((z351.len : Nat) : Int) 0 h354))))
 p0 (Sl.mk (some ⟨h.next, 0, (some 0)⟩) (Int.toNat ((p0.len : Nat) : Int)) (Int.toNat ((p0.len : Nat) : Int))) (Sl.mk (some ⟨h3.next, 0, (some 0)⟩) (Int.toNat ((p0.len : Nat) : Int)) (Int.toNat ((p0.len : Nat) : Int))) ((p0.len : Nat) : Int) r9 ((p0.len : Nat) : Int) 0 h10))))))))
theorem k67 (p0 : Sl) (h : Heap) (K : Sl → Sl → Sl → Heap → Prop) : fnK C67 Try.f67.results.toList Try.f67.ntmps b67 [(Sl.v p0)] h (outC [sP, sP, sP] K) = z67 p0 h K := by kernel_rfl
theorem r67 (p0 : Sl) (h : Heap) (K : Sl → Sl → Sl → Heap → Prop) (H : z67 p0 h K) : t67 p0 h K := fn_stepE (C := C67) (fn := Try.f67) (g := 67) o67 rfl rfl (by kernel_rfl) (by kernel_rfl) (by kernel_rfl) (k67 p0 h K) (by kernel_rfl) H

/-! 68: minikin/pair.ArePrices$1 -/
noncomputable def b68 : Code := Try.f68.body.getD .skip
noncomputable def C68 : Ctx := baseC Try.prog [95, 75] none (allF Try.prog) (allI Try.prog) none1
theorem o68 : CtxOK (C68) b68 := (base_ok eqOK mixOK none b68)
def z68 (p0 : Int) (h : Heap) (K : Bool → Heap → Prop) : Prop :=
 (branch (decide (p0 < (-1000000000000000)))
 (K true h)
 (K (decide (p0 > 1000000000000000)) h))
theorem k68 (p0 : Int) (h : Heap) (K : Bool → Heap → Prop) : fnK C68 Try.f68.results.toList Try.f68.ntmps b68 [(.int .i64 p0)] h (outC [bP] K) = z68 p0 h K := by kernel_rfl
theorem r68 (p0 : Int) (h : Heap) (K : Bool → Heap → Prop) (H : z68 p0 h K) : t68 p0 h K := fn_stepE (C := C68) (fn := Try.f68) (g := 68) o68 rfl rfl (by kernel_rfl) (by kernel_rfl) (by kernel_rfl) (k68 p0 h K) (by kernel_rfl) H

/-! 69: slices.ContainsFunc[[]int64,int64] -/
noncomputable def b69 : Code := Try.f69.body.getD .skip
noncomputable def C69 : Ctx := baseC Try.prog [95, 75] none (cons1 83 w83 (allF Try.prog)) (allI Try.prog) none1
theorem o69 : CtxOK (C69) b69 := (addF (base_ok eqOK mixOK none b69) (wC_ok Try.prog 83 [sP, vP] [iP .i64]))
def z69 (p0 : Sl) (p1 : Value) (h : Heap) (K : Bool → Heap → Prop) : Prop :=
 (t83 p0 p1 h fun r1 h2 =>
 (K (decide (r1 ≥ 0)) h2))
theorem k69 (p0 : Sl) (p1 : Value) (h : Heap) (K : Bool → Heap → Prop) : fnK C69 Try.f69.results.toList Try.f69.ntmps b69 [(Sl.v p0), p1] h (outC [bP] K) = z69 p0 p1 h K := by kernel_rfl
theorem r69 (p0 : Sl) (p1 : Value) (h : Heap) (K : Bool → Heap → Prop) (H : z69 p0 p1 h K) : t69 p0 p1 h K := fn_stepE (C := C69) (fn := Try.f69) (g := 69) o69 rfl rfl (by kernel_rfl) (by kernel_rfl) (by kernel_rfl) (k69 p0 p1 h K) (by kernel_rfl) H

/-! 71: (*minikin/pair.finder).widen -/
noncomputable def b71 : Code := Try.f71.body.getD .skip
noncomputable def c71_25 : Code := (subN b71 51).getD .skip
theorem s71_25 : subN b71 51 = some c71_25 := by kernel_rfl
theorem sl71_25 : subN b71 25 = some (.loop c71_25) := by kernel_rfl
noncomputable def l71_25 (X0 : Option Addr → Int → Heap → Prop) : Option Addr → Int → Int → Heap → Prop := lC Try.prog none c71_25 178 [(0, pP), (1, iP .i64), (10, iP .i64)] (outE noE noE [(0, (grabC 178 [(0, pP), (1, iP .i64)] X0))])
noncomputable def c71_33077654 : Code := (subN b71 33077654).getD .skip
theorem s71_33077654 : subN b71 33077654 = some c71_33077654 := by kernel_rfl
noncomputable def q71_33077654 (XN : Option Addr → Int → (Option Addr × Unit) → Int → Sl → Int → Int → Heap → Prop) (XR : Bool → Heap → Prop) : Option Addr → Int → (Option Addr × Unit) → Int → Int → Sl → Int → Int → Bool → Heap → Prop := qC Try.prog none c71_33077654 178 [(0, pP), (1, iP .i64), (6, mvP 88 [pP]), (7, iP .i64), (9, iP .i64), (67, sP), (68, iP .i64), (69, iP .i64), (97, bP)] (outE (grabC 178 [(0, pP), (1, iP .i64), (6, mvP 88 [pP]), (7, iP .i64), (67, sP), (68, iP .i64), (69, iP .i64)] XN) (grabC 178 [(4, bP)] XR) [])
noncomputable def c71_8269412 : Code := (subN b71 8269412).getD .skip
theorem s71_8269412 : subN b71 8269412 = some c71_8269412 := by kernel_rfl
noncomputable def q71_8269412 (XN : Option Addr → Int → (Option Addr × Unit) → Int → Sl → Int → Int → Heap → Prop) (XR : Bool → Heap → Prop) : Option Addr → Int → (Option Addr × Unit) → Int → Int → Sl → Int → Int → Bool → Heap → Prop := qC Try.prog none c71_8269412 178 [(0, pP), (1, iP .i64), (6, mvP 88 [pP]), (7, iP .i64), (9, iP .i64), (67, sP), (68, iP .i64), (69, iP .i64), (73, bP)] (outE (grabC 178 [(0, pP), (1, iP .i64), (6, mvP 88 [pP]), (7, iP .i64), (67, sP), (68, iP .i64), (69, iP .i64)] XN) (grabC 178 [(4, bP)] XR) [])
noncomputable def c71_32301 : Code := (subN b71 64603).getD .skip
theorem s71_32301 : subN b71 64603 = some c71_32301 := by kernel_rfl
theorem sl71_32301 : subN b71 32301 = some (.loop c71_32301) := by kernel_rfl
noncomputable def l71_32301 (XR : Bool → Heap → Prop) (X4 : Option Addr → Int → (Option Addr × Unit) → Heap → Prop) : Option Addr → Int → (Option Addr × Unit) → Int → Sl → Int → Int → Heap → Prop := lC Try.prog none c71_32301 178 [(0, pP), (1, iP .i64), (6, mvP 88 [pP]), (7, iP .i64), (67, sP), (68, iP .i64), (69, iP .i64)] (outE noE (grabC 178 [(4, bP)] XR) [(4, (grabC 178 [(0, pP), (1, iP .i64), (6, mvP 88 [pP])] X4))])
noncomputable def c71_251 : Code := (subN b71 503).getD .skip
theorem s71_251 : subN b71 503 = some c71_251 := by kernel_rfl
theorem sl71_251 : subN b71 251 = some (.loop c71_251) := by kernel_rfl
noncomputable def l71_251 (XR : Bool → Heap → Prop) (X2 : Heap → Prop) : Option Addr → Int → (Option Addr × Unit) → Heap → Prop := lC Try.prog none c71_251 178 [(0, pP), (1, iP .i64), (6, mvP 88 [pP])] (outE noE (grabC 178 [(4, bP)] XR) [(2, (grabC 178 [] X2))])
noncomputable def C71 : Ctx := baseC Try.prog [95, 75] none (cons1 88 w88 (cons1 89 w89 (allF Try.prog))) (allI Try.prog) (cons1 251 (gC 178 [(0, pP), (1, iP .i64), (6, mvP 88 [pP])] none (some [(4, bP)]) [(2, [])] (lC Try.prog none c71_251 178 [(0, pP), (1, iP .i64), (6, mvP 88 [pP])])) (cons1 32301 (gC 178 [(0, pP), (1, iP .i64), (6, mvP 88 [pP]), (7, iP .i64), (67, sP), (68, iP .i64), (69, iP .i64)] none (some [(4, bP)]) [(4, [(0, pP), (1, iP .i64), (6, mvP 88 [pP])])] (lC Try.prog none c71_32301 178 [(0, pP), (1, iP .i64), (6, mvP 88 [pP]), (7, iP .i64), (67, sP), (68, iP .i64), (69, iP .i64)])) (cons1 8269412 (gC 178 [(0, pP), (1, iP .i64), (6, mvP 88 [pP]), (7, iP .i64), (9, iP .i64), (67, sP), (68, iP .i64), (69, iP .i64), (73, bP)] (some [(0, pP), (1, iP .i64), (6, mvP 88 [pP]), (7, iP .i64), (67, sP), (68, iP .i64), (69, iP .i64)]) (some [(4, bP)]) [] (qC Try.prog none c71_8269412 178 [(0, pP), (1, iP .i64), (6, mvP 88 [pP]), (7, iP .i64), (9, iP .i64), (67, sP), (68, iP .i64), (69, iP .i64), (73, bP)])) (cons1 33077654 (gC 178 [(0, pP), (1, iP .i64), (6, mvP 88 [pP]), (7, iP .i64), (9, iP .i64), (67, sP), (68, iP .i64), (69, iP .i64), (97, bP)] (some [(0, pP), (1, iP .i64), (6, mvP 88 [pP]), (7, iP .i64), (67, sP), (68, iP .i64), (69, iP .i64)]) (some [(4, bP)]) [] (qC Try.prog none c71_33077654 178 [(0, pP), (1, iP .i64), (6, mvP 88 [pP]), (7, iP .i64), (9, iP .i64), (67, sP), (68, iP .i64), (69, iP .i64), (97, bP)])) (cons1 25 (gC 178 [(0, pP), (1, iP .i64), (10, iP .i64)] none none [(0, [(0, pP), (1, iP .i64)])] (lC Try.prog none c71_25 178 [(0, pP), (1, iP .i64), (10, iP .i64)])) none1)))))
theorem o71 : CtxOK (C71) b71 := (addL (addL (addQ (addQ (addL (addF (addF (base_ok eqOK mixOK none b71) (wC_ok Try.prog 89 [pP, iP .i64, iP .i64] [])) (wC_ok Try.prog 88 [pP, iP .i64] [])) sl71_25) s71_33077654) s71_8269412) sl71_32301) sl71_251)
def z71_25 (X0 : Option Addr → Int → Heap → Prop) (v1 : Option Addr) (v2 : Int) (v3 : Int) (h4 : Heap) : Prop :=
 (branch (decide (v3 < 40))
 (Go.AM.get v1 fun a5 =>
 (chk (idx v3 40) <|
 (Go.AM.get v1 fun a6 =>
 (Go.AM.get v1 fun a7 =>
 (Go.AM.get (Heap.wr h4 ⟨a5.block, ((a5.off + 121) + ((Int.toNat v3) * 1)), none⟩ [(.int .i64 v3)]) fun h8 =>
 (chk (idx v3 40) <|
 (Go.AM.get (Heap.wr h8 ⟨a6.block, ((a6.off + 81) + ((Int.toNat v3) * 1)), none⟩ [(.int .i64 (-1))]) fun h9 =>
 (chk (idx v3 40) <|
 (Go.AM.get (Heap.wr h9 ⟨a7.block, ((a7.off + 161) + ((Int.toNat v3) * 1)), none⟩ [(.bool false)]) fun h10 =>
 (l71_25 X0 v1 v2 (IntKind.wrap .i64 (v3 + 1)) h10))))))))))
 (X0 v1 v2 h4))
theorem k71_25 (X0 : Option Addr → Int → Heap → Prop) (v1 : Option Addr) (v2 : Int) (v3 : Int) (h4 : Heap) : (exec (C71) c71_25 false 51 (Fr.put (Fr.put (Fr.put (Fr0 178) (some 0) (.pointer v1)) (some 1) (.int .i64 v2)) (some 10) (.int .i64 v3)) h4 (loopE (grabC 178 [(0, pP), (1, iP .i64), (10, iP .i64)] (lC (C71).P (C71).yld c71_25 178 [(0, pP), (1, iP .i64), (10, iP .i64)] (outE noE noE [(0, (grabC 178 [(0, pP), (1, iP .i64)] X0))]))) (outE noE noE [(0, (grabC 178 [(0, pP), (1, iP .i64)] X0))]))) = z71_25 X0 v1 v2 v3 h4 := by kernel_rfl
theorem r71_25 (X0 : Option Addr → Int → Heap → Prop) (v1 : Option Addr) (v2 : Int) (v3 : Int) (h4 : Heap) (H : z71_25 X0 v1 v2 v3 h4) : l71_25 X0 v1 v2 v3 h4 := loop_stepE (p := 25) (N := 178) (keep := [(0, pP), (1, iP .i64), (10, iP .i64)]) (o71) rfl s71_25 (k71_25 X0 v1 v2 v3 h4) (by kernel_rfl) H
def z71_33077654 (XN : Option Addr → Int → (Option Addr × Unit) → Int → Sl → Int → Int → Heap → Prop) (XR : Bool → Heap → Prop) (v89 : Option Addr) (v90 : Int) (v91 : (Option Addr × Unit)) (v92 : Int) (v93 : Int) (v94 : Sl) (v95 : Int) (v96 : Int) (v97 : Bool) (h98 : Heap) : Prop :=
 (branch v97
 (t89 v89 v92 v93 h98 fun h99 =>
 (XN v89 v90 (v91.1, ()) v92 v94 v95 v96 h99))
 (Go.AM.get v89 fun a102 =>
 (chk (idx v93 40) <|
 (Go.AM.get (asI .i64 (Heap.rd h98 ⟨a102.block, ((a102.off + 81) + ((Int.toNat v93) * 1)), none⟩)) fun y103 =>
 (branch (decide (y103 < 0))
 (Go.AM.get v89 fun a106 =>
 (chk (idx v93 40) <|
 (Go.AM.get (Heap.wr h98 ⟨a106.block, ((a106.off + 81) + ((Int.toNat v93) * 1)), none⟩ [(.int .i64 v92)]) fun h107 =>
 (Go.AM.get v89 fun a113 =>
 (chk (idx v93 40) <|
 (Go.AM.get (asI .i64 (Heap.rd h107 ⟨a113.block, ((a113.off + 41) + ((Int.toNat v93) * 1)), none⟩)) fun y114 =>
 (branch (decide (y114 < 0))
 (t88 v91.1 v93 h107 fun h115 =>
 (XR true h115))
 (Go.AM.get v89 fun a120 =>
 (chk (idx v93 40) <|
 (Go.AM.get (asI .i64 (Heap.rd h107 ⟨a120.block, ((a120.off + 41) + ((Int.toNat v93) * 1)), none⟩)) fun y121 =>
 (Go.AM.get v89 fun a122 =>
 (chk (idx y121 40) <|
 (Go.AM.get (Heap.wr h107 ⟨a122.block, ((a122.off + 161) + ((Int.toNat y121) * 1)), none⟩ [(.bool true)]) fun h123 =>
 (Go.AM.get v89 fun a124 =>
 (Go.AM.get (asS (Heap.rd h123 ⟨a124.block, (a124.off + 201), none⟩)) fun y125 =>
 (Go.AM.get v89 fun a126 =>
 (chk (idx v93 40) <|
 (Go.AM.get (asI .i64 (Heap.rd h123 ⟨a126.block, ((a126.off + 41) + ((Int.toNat v93) * 1)), none⟩)) fun y127 =>
 (withH (Heap.new h123 (.cells [(.int .i64 y127)] false)) fun h128 =>
 (Go.AM.get (Heap.rdN h128 ⟨h123.next, 0, none⟩ 1) fun y129 =>
 (Go.AM.get (Heap.app h128 1 8 y125 1 y129) fun r130 =>
 (Go.AM.get v89 fun a131 =>
 (Go.AM.get (Heap.wr r130.2 ⟨a131.block, (a131.off + 201), none⟩ [(Sl.v r130.1)]) fun h132 =>
 (XN v89 v90 (v91.1, ()) v92 v94 v95 v96 h132))))))))))))))))))))))))
 (XN v89 v90 (v91.1, ()) v92 v94 v95 v96 h98))))))
theorem k71_33077654 (XN : Option Addr → Int → (Option Addr × Unit) → Int → Sl → Int → Int → Heap → Prop) (XR : Bool → Heap → Prop) (v89 : Option Addr) (v90 : Int) (v91 : (Option Addr × Unit)) (v92 : Int) (v93 : Int) (v94 : Sl) (v95 : Int) (v96 : Int) (v97 : Bool) (h98 : Heap) : (exec (C71) c71_33077654 true 33077654 (Fr.put (Fr.put (Fr.put (Fr.put (Fr.put (Fr.put (Fr.put (Fr.put (Fr.put (Fr0 178) (some 0) (.pointer v89)) (some 1) (.int .i64 v90)) (some 6) (.func (.func 88) ⟨[(.pointer v91.1)]⟩ #[])) (some 7) (.int .i64 v92)) (some 9) (.int .i64 v93)) (some 67) (Sl.v v94)) (some 68) (.int .i64 v95)) (some 69) (.int .i64 v96)) (some 97) (.bool v97)) h98 (outE (grabC 178 [(0, pP), (1, iP .i64), (6, mvP 88 [pP]), (7, iP .i64), (67, sP), (68, iP .i64), (69, iP .i64)] XN) (grabC 178 [(4, bP)] XR) [])) = z71_33077654 XN XR v89 v90 v91 v92 v93 v94 v95 v96 v97 h98 := by kernel_rfl
theorem r71_33077654 (XN : Option Addr → Int → (Option Addr × Unit) → Int → Sl → Int → Int → Heap → Prop) (XR : Bool → Heap → Prop) (v89 : Option Addr) (v90 : Int) (v91 : (Option Addr × Unit)) (v92 : Int) (v93 : Int) (v94 : Sl) (v95 : Int) (v96 : Int) (v97 : Bool) (h98 : Heap) (H : z71_33077654 XN XR v89 v90 v91 v92 v93 v94 v95 v96 v97 h98) : q71_33077654 XN XR v89 v90 v91 v92 v93 v94 v95 v96 v97 h98 := piece_stepE (p := 33077654) (o71) rfl s71_33077654 (k71_33077654 XN XR v89 v90 v91 v92 v93 v94 v95 v96 v97 h98) (by kernel_rfl) H
def z71_8269412 (XN : Option Addr → Int → (Option Addr × Unit) → Int → Sl → Int → Int → Heap → Prop) (XR : Bool → Heap → Prop) (v73 : Option Addr) (v74 : Int) (v75 : (Option Addr × Unit)) (v76 : Int) (v77 : Int) (v78 : Sl) (v79 : Int) (v80 : Int) (v81 : Bool) (h82 : Heap) : Prop :=
 (branch v81
 (XN v73 v74 (v75.1, ()) v76 v78 v79 v80 h82)
 (branch (v77 == v74)
 (q71_33077654
 (fun z133 z134 z135 z136 z137 z138 z139 h140 =>
 (XN z133 z134 (z135.1, ()) z136 z137 z138 z139 h140))
 (fun z141 h142 =>
 (XR z141 h142))
 v73 v74 (v75.1, ()) v76 v77 v78 v79 v80 true h82)
 (Go.AM.get v73 fun a143 =>
 (chk (idx v77 40) <|
 (Go.AM.get (asI .i64 (Heap.rd h82 ⟨a143.block, ((a143.off + 41) + ((Int.toNat v77) * 1)), none⟩)) fun y144 =>
 (branch (decide (y144 ≥ 0))
 (Go.AM.get v73 fun a145 =>
 (chk (idx v77 40) <|
 (Go.AM.get (asI .i64 (Heap.rd h82 ⟨a145.block, ((a145.off + 41) + ((Int.toNat v77) * 1)), none⟩)) fun y146 =>
 (Go.AM.get v73 fun a147 =>
 (chk (idx y146 40) <|
 (Go.AM.get (asI .i64 (Heap.rd h82 ⟨a147.block, ((a147.off + 81) + ((Int.toNat y146) * 1)), none⟩)) fun y148 =>
 (q71_33077654
 (fun z149 z150 z151 z152 z153 z154 z155 h156 =>
 (XN z149 z150 (z151.1, ()) z152 z153 z154 z155 h156))
 (fun z157 h158 =>
 (XR z157 h158))
 v73 v74 (v75.1, ()) v76 v77 v78 v79 v80 (decide (y148 ≥ 0)) h82)))))))
 (q71_33077654
 (fun z159 z160 z161 z162 z163 z164 z165 h166 =>
 (XN z159 z160 (z161.1, ()) z162 z163 z164 z165 h166))
 (fun z167 h168 =>
 (XR z167 h168))
 v73 v74 (v75.1, ()) v76 v77 v78 v79 v80 false h82)))))))
theorem k71_8269412 (XN : Option Addr → Int → (Option Addr × Unit) → Int → Sl → Int → Int → Heap → Prop) (XR : Bool → Heap → Prop) (v73 : Option Addr) (v74 : Int) (v75 : (Option Addr × Unit)) (v76 : Int) (v77 : Int) (v78 : Sl) (v79 : Int) (v80 : Int) (v81 : Bool) (h82 : Heap) : (exec (C71) c71_8269412 true 8269412 (Fr.put (Fr.put (Fr.put (Fr.put (Fr.put (Fr.put (Fr.put (Fr.put (Fr.put (Fr0 178) (some 0) (.pointer v73)) (some 1) (.int .i64 v74)) (some 6) (.func (.func 88) ⟨[(.pointer v75.1)]⟩ #[])) (some 7) (.int .i64 v76)) (some 9) (.int .i64 v77)) (some 67) (Sl.v v78)) (some 68) (.int .i64 v79)) (some 69) (.int .i64 v80)) (some 73) (.bool v81)) h82 (outE (grabC 178 [(0, pP), (1, iP .i64), (6, mvP 88 [pP]), (7, iP .i64), (67, sP), (68, iP .i64), (69, iP .i64)] XN) (grabC 178 [(4, bP)] XR) [])) = z71_8269412 XN XR v73 v74 v75 v76 v77 v78 v79 v80 v81 h82 := by kernel_rfl
theorem r71_8269412 (XN : Option Addr → Int → (Option Addr × Unit) → Int → Sl → Int → Int → Heap → Prop) (XR : Bool → Heap → Prop) (v73 : Option Addr) (v74 : Int) (v75 : (Option Addr × Unit)) (v76 : Int) (v77 : Int) (v78 : Sl) (v79 : Int) (v80 : Int) (v81 : Bool) (h82 : Heap) (H : z71_8269412 XN XR v73 v74 v75 v76 v77 v78 v79 v80 v81 h82) : q71_8269412 XN XR v73 v74 v75 v76 v77 v78 v79 v80 v81 h82 := piece_stepE (p := 8269412) (o71) rfl s71_8269412 (k71_8269412 XN XR v73 v74 v75 v76 v77 v78 v79 v80 v81 h82) (by kernel_rfl) H
def z71_32301 (XR : Bool → Heap → Prop) (X4 : Option Addr → Int → (Option Addr × Unit) → Heap → Prop) (v55 : Option Addr) (v56 : Int) (v57 : (Option Addr × Unit)) (v58 : Int) (v59 : Sl) (v60 : Int) (v61 : Int) (h62 : Heap) : Prop :=
 (branch (decide (v61 < v60))
 (Go.AM.get v59.a fun a65 =>
 (chk (idx v61 v59.len) <|
 (Go.AM.get (asI .i64 (Heap.rd h62 ⟨a65.block, (a65.off + ((Int.toNat v61) * 1)), none⟩)) fun y66 =>
 (Go.AM.get v55 fun a169 =>
 (chk (idx y66 40) <|
 (Go.AM.get (asI .i64 (Heap.rd h62 ⟨a169.block, ((a169.off + 121) + ((Int.toNat y66) * 1)), none⟩)) fun y170 =>
 (Go.AM.get v55 fun a171 =>
 (chk (idx v58 40) <|
 (Go.AM.get (asI .i64 (Heap.rd h62 ⟨a171.block, ((a171.off + 121) + ((Int.toNat v58) * 1)), none⟩)) fun y172 =>
 (branch (y170 == y172)
 (q71_8269412
 (fun z173 z174 z175 z176 z177 z178 z179 h180 =>
 (l71_32301 XR X4 z173 z174 (z175.1, ()) z176 z177 z178 (IntKind.wrap .i64 (z179 + 1)) h180))
 (fun z181 h182 =>
 (XR z181 h182))
 v55 v56 (v57.1, ()) v58 y66 v59 v60 v61 true h62)
 (Go.AM.get v55 fun a183 =>
 (chk (idx v58 40) <|
 (Go.AM.get (asI .i64 (Heap.rd h62 ⟨a183.block, ((a183.off + 41) + ((Int.toNat v58) * 1)), none⟩)) fun y184 =>
 (q71_8269412
 (fun z185 z186 z187 z188 z189 z190 z191 h192 =>
 (l71_32301 XR X4 z185 z186 (z187.1, ()) z188 z189 z190 (IntKind.wrap .i64 (z191 + 1)) h192))
 (fun z193 h194 =>
 (XR z193 h194))
 v55 v56 (v57.1, ()) v58 y66 v59 v60 v61 (y184 == y66) h62))))))))))))))
 (X4 v55 v56 (v57.1, ()) h62))
theorem k71_32301 (XR : Bool → Heap → Prop) (X4 : Option Addr → Int → (Option Addr × Unit) → Heap → Prop) (v55 : Option Addr) (v56 : Int) (v57 : (Option Addr × Unit)) (v58 : Int) (v59 : Sl) (v60 : Int) (v61 : Int) (h62 : Heap) : (exec (C71) c71_32301 false 64603 (Fr.put (Fr.put (Fr.put (Fr.put (Fr.put (Fr.put (Fr.put (Fr0 178) (some 0) (.pointer v55)) (some 1) (.int .i64 v56)) (some 6) (.func (.func 88) ⟨[(.pointer v57.1)]⟩ #[])) (some 7) (.int .i64 v58)) (some 67) (Sl.v v59)) (some 68) (.int .i64 v60)) (some 69) (.int .i64 v61)) h62 (loopE (grabC 178 [(0, pP), (1, iP .i64), (6, mvP 88 [pP]), (7, iP .i64), (67, sP), (68, iP .i64), (69, iP .i64)] (lC (C71).P (C71).yld c71_32301 178 [(0, pP), (1, iP .i64), (6, mvP 88 [pP]), (7, iP .i64), (67, sP), (68, iP .i64), (69, iP .i64)] (outE noE (grabC 178 [(4, bP)] XR) [(4, (grabC 178 [(0, pP), (1, iP .i64), (6, mvP 88 [pP])] X4))]))) (outE noE (grabC 178 [(4, bP)] XR) [(4, (grabC 178 [(0, pP), (1, iP .i64), (6, mvP 88 [pP])] X4))]))) = z71_32301 XR X4 v55 v56 v57 v58 v59 v60 v61 h62 := by kernel_rfl
theorem r71_32301 (XR : Bool → Heap → Prop) (X4 : Option Addr → Int → (Option Addr × Unit) → Heap → Prop) (v55 : Option Addr) (v56 : Int) (v57 : (Option Addr × Unit)) (v58 : Int) (v59 : Sl) (v60 : Int) (v61 : Int) (h62 : Heap) (H : z71_32301 XR X4 v55 v56 v57 v58 v59 v60 v61 h62) : l71_32301 XR X4 v55 v56 v57 v58 v59 v60 v61 h62 := loop_stepE (p := 32301) (N := 178) (keep := [(0, pP), (1, iP .i64), (6, mvP 88 [pP]), (7, iP .i64), (67, sP), (68, iP .i64), (69, iP .i64)]) (o71) rfl s71_32301 (k71_32301 XR X4 v55 v56 v57 v58 v59 v60 v61 h62) (by kernel_rfl) H
def z71_251 (XR : Bool → Heap → Prop) (X2 : Heap → Prop) (v27 : Option Addr) (v28 : Int) (v29 : (Option Addr × Unit)) (h30 : Heap) : Prop :=
 (Go.AM.get v27 fun a33 =>
 (Go.AM.get (asS (Heap.rd h30 ⟨a33.block, (a33.off + 201), none⟩)) fun y34 =>
 (branch (decide (((y34.len : Nat) : Int) > 0))
 (Go.AM.get v27 fun a39 =>
 (Go.AM.get (asS (Heap.rd h30 ⟨a39.block, (a39.off + 201), none⟩)) fun y40 =>
 (Go.AM.get y40.a fun a41 =>
 (chk (idx 0 y40.len) <|
 (Go.AM.get (asI .i64 (Heap.rd h30 ⟨a41.block, a41.off, none⟩)) fun y42 =>
 (Go.AM.get v27 fun a47 =>
 (Go.AM.get (asS (Heap.rd h30 ⟨a47.block, (a47.off + 201), none⟩)) fun y48 =>
 (chk (within 1 ((y48.len : Nat) : Int) ((y48.cap : Nat) : Int)) <|
 (Go.AM.get v27 fun a49 =>
 (Go.AM.get (Heap.wr h30 ⟨a49.block, (a49.off + 201), none⟩ [(Sl.v (Sl.cut y48 1 1 (Int.toNat ((y48.len : Nat) : Int))))]) fun h50 =>
 (Go.AM.get v27 fun a53 =>
 (chk (idx y42 40) <|
 (Go.AM.get (asS (Heap.rd h50 ⟨a53.block, ((a53.off + 1) + ((Int.toNat y42) * 1)), none⟩)) fun y54 =>
 (l71_32301
 (fun z195 h196 =>
 (XR z195 h196))
 (fun z197 z198 z199 h200 =>
 (l71_251 XR X2 z197 z198 (z199.1, ()) h200))
 v27 v28 (v29.1, ()) y42 y54 ((y54.len : Nat) : Int) 0 h50))))))))))))))
 (X2 h30))))
theorem k71_251 (XR : Bool → Heap → Prop) (X2 : Heap → Prop) (v27 : Option Addr) (v28 : Int) (v29 : (Option Addr × Unit)) (h30 : Heap) : (exec (C71) c71_251 false 503 (Fr.put (Fr.put (Fr.put (Fr0 178) (some 0) (.pointer v27)) (some 1) (.int .i64 v28)) (some 6) (.func (.func 88) ⟨[(.pointer v29.1)]⟩ #[])) h30 (loopE (grabC 178 [(0, pP), (1, iP .i64), (6, mvP 88 [pP])] (lC (C71).P (C71).yld c71_251 178 [(0, pP), (1, iP .i64), (6, mvP 88 [pP])] (outE noE (grabC 178 [(4, bP)] XR) [(2, (grabC 178 [] X2))]))) (outE noE (grabC 178 [(4, bP)] XR) [(2, (grabC 178 [] X2))]))) = z71_251 XR X2 v27 v28 v29 h30 := by kernel_rfl
theorem r71_251 (XR : Bool → Heap → Prop) (X2 : Heap → Prop) (v27 : Option Addr) (v28 : Int) (v29 : (Option Addr × Unit)) (h30 : Heap) (H : z71_251 XR X2 v27 v28 v29 h30) : l71_251 XR X2 v27 v28 v29 h30 := loop_stepE (p := 251) (N := 178) (keep := [(0, pP), (1, iP .i64), (6, mvP 88 [pP])]) (o71) rfl s71_251 (k71_251 XR X2 v27 v28 v29 h30) (by kernel_rfl) H
def z71 (p0 : Option Addr) (p1 : Int) (h : Heap) (K : Bool → Heap → Prop) : Prop :=
 (l71_25
 (fun z14 z15 h16 =>
 (Go.AM.get z14 fun a19 =>
 (chk (idx z15 40) <|
 (Go.AM.get (Heap.wr h16 ⟨a19.block, ((a19.off + 161) + ((Int.toNat z15) * 1)), none⟩ [(.bool true)]) fun h20 =>
 (withH (Heap.new h20 (.cells [(.int .i64 z15)] false)) fun h24 =>
 (Go.AM.get z14 fun a25 =>
 (Go.AM.get (Heap.wr h24 ⟨a25.block, (a25.off + 201), none⟩ [(.slice (some ⟨h20.next, 0, (some 0)⟩) 1 1)]) fun h26 =>
 (l71_251
 (fun z201 h202 =>
 (K z201 h202))
 (fun h203 =>
 (K false h203))
 z14 z15 (z14, ()) h26))))))))
 p0 p1 0 h)
theorem k71 (p0 : Option Addr) (p1 : Int) (h : Heap) (K : Bool → Heap → Prop) : fnK C71 Try.f71.results.toList Try.f71.ntmps b71 [(.pointer p0), (.int .i64 p1)] h (outC [bP] K) = z71 p0 p1 h K := by kernel_rfl
theorem r71 (p0 : Option Addr) (p1 : Int) (h : Heap) (K : Bool → Heap → Prop) (H : z71 p0 p1 h K) : t71 p0 p1 h K := fn_stepE (C := C71) (fn := Try.f71) (g := 71) o71 rfl rfl (by kernel_rfl) (by kernel_rfl) (by kernel_rfl) (k71 p0 p1 h K) (by kernel_rfl) H

end Go.Proofs.Ytalmoilcehhjkaa
