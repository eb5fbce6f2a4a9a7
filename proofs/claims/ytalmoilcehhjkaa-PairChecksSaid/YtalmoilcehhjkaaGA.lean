/- PRINTED BY A PROGRAM OF OURS: what the functions do, step by step, and that the model says so. -/
import Derived.Test.YtalmoilcehhjkaaHeads
set_option linter.unusedVariables false
set_option linter.unusedSimpArgs false
namespace Go.Proofs.Ytalmoilcehhjkaa
open Go hiding Expr
open Go.AM hiding get
/-! 3: minikin/minikinlaw04.PairBerge -/
noncomputable def b3 : Code := Try.f3.body.getD .skip
noncomputable def c3_1047113 : Code := (subN b3 2094227).getD .skip
theorem s3_1047113 : subN b3 2094227 = some c3_1047113 := by kernel_rfl
theorem sl3_1047113 : subN b3 1047113 = some (.loop c3_1047113) := by kernel_rfl
noncomputable def l3_1047113 (X2 : Option Addr → Option Addr → Int → Int → Bool → Int → Sl → Heap → Prop) : Option Addr → Option Addr → Int → Int → Bool → Int → Sl → Int → Heap → Prop := lC Try.prog none c3_1047113 86 [(5, pP), (6, pP), (9, iP .i64), (11, iP .i64), (12, bP), (13, iP .i64), (14, sP), (15, iP .i64)] (outE noE noE [(2, (grabC 86 [(5, pP), (6, pP), (9, iP .i64), (11, iP .i64), (12, bP), (13, iP .i64), (14, sP)] X2))])
noncomputable def c3_4089 : Code := (subN b3 8179).getD .skip
theorem s3_4089 : subN b3 8179 = some c3_4089 := by kernel_rfl
theorem sl3_4089 : subN b3 4089 = some (.loop c3_4089) := by kernel_rfl
noncomputable def l3_4089 (X0 : Int → Int → Bool → Heap → Prop) : Option Addr → Option Addr → Int → Int → Bool → Int → Heap → Prop := lC Try.prog none c3_4089 86 [(5, pP), (6, pP), (9, iP .i64), (11, iP .i64), (12, bP), (13, iP .i64)] (outE noE noE [(0, (grabC 86 [(9, iP .i64), (11, iP .i64), (12, bP)] X0))])
noncomputable def C3 : Ctx := baseC Try.prog [95, 75] none (cons1 15 w15 (cons1 14 w14 (cons1 13 w13 (cons1 12 w12 (cons1 11 w11 (cons1 10 w10 (allF Try.prog))))))) (allI Try.prog) (cons1 4089 (gC 86 [(5, pP), (6, pP), (9, iP .i64), (11, iP .i64), (12, bP), (13, iP .i64)] none none [(0, [(9, iP .i64), (11, iP .i64), (12, bP)])] (lC Try.prog none c3_4089 86 [(5, pP), (6, pP), (9, iP .i64), (11, iP .i64), (12, bP), (13, iP .i64)])) (cons1 1047113 (gC 86 [(5, pP), (6, pP), (9, iP .i64), (11, iP .i64), (12, bP), (13, iP .i64), (14, sP), (15, iP .i64)] none none [(2, [(5, pP), (6, pP), (9, iP .i64), (11, iP .i64), (12, bP), (13, iP .i64), (14, sP)])] (lC Try.prog none c3_1047113 86 [(5, pP), (6, pP), (9, iP .i64), (11, iP .i64), (12, bP), (13, iP .i64), (14, sP), (15, iP .i64)])) none1))
theorem o3 : CtxOK (C3) b3 := (addL (addL (addF (addF (addF (addF (addF (addF (base_ok eqOK mixOK none b3) (wC_ok Try.prog 10 [aggP [iP .i64, sP], iP .i64, iP .i64] [aggP [iP .i64, sP]])) (wC_ok Try.prog 11 [aggP [iP .i64, sP]] [aggP [iP .i64, sP]])) (wC_ok Try.prog 12 [aggP [iP .i64, sP]] [sP, iP .i64])) (wC_ok Try.prog 13 [aggP [iP .i64, sP], sP] [iP .i64, bP])) (wC_ok Try.prog 14 [aggP [iP .i64, sP], sP, iP .i64] [bP])) (wC_ok Try.prog 15 [] [bP])) sl3_1047113) sl3_4089)
def z3_1047113 (X2 : Option Addr → Option Addr → Int → Int → Bool → Int → Sl → Heap → Prop) (v58 : Option Addr) (v59 : Option Addr) (v60 : Int) (v61 : Int) (v62 : Bool) (v63 : Int) (v64 : Sl) (v65 : Int) (h66 : Heap) : Prop :=
 (Go.AM.get v58 fun a69 =>
 (Go.AM.get (asI .i64 (Heap.rd h66 ⟨a69.block, a69.off, none⟩)) fun y70 =>
 (branch (decide (v65 < y70))
 (chk (decide (0 ≤ (IntKind.wrap .u64 v65))) <|
 (branch ((Int.tmod (Int.fdiv v63 (2 ^ (min (Int.toNat (IntKind.wrap .u64 v65)) 64))) 2) == 1)
 (withH (Heap.new h66 (.cells [(.int .i64 v65)] false)) fun h71 =>
 (Go.AM.get (Heap.rdN h71 ⟨h66.next, 0, none⟩ 1) fun y72 =>
 (Go.AM.get (Heap.app h71 1 8 v64 1 y72) fun r73 =>
 (l3_1047113 X2 v58 v59 v60 v61 v62 v63 r73.1 (IntKind.wrap .i64 (v65 + 1)) r73.2))))
 (l3_1047113 X2 v58 v59 v60 v61 v62 v63 v64 (IntKind.wrap .i64 (v65 + 1)) h66)))
 (X2 v58 v59 v60 v61 v62 v63 v64 h66))))
theorem k3_1047113 (X2 : Option Addr → Option Addr → Int → Int → Bool → Int → Sl → Heap → Prop) (v58 : Option Addr) (v59 : Option Addr) (v60 : Int) (v61 : Int) (v62 : Bool) (v63 : Int) (v64 : Sl) (v65 : Int) (h66 : Heap) : (exec (C3) c3_1047113 false 2094227 (Fr.put (Fr.put (Fr.put (Fr.put (Fr.put (Fr.put (Fr.put (Fr.put (Fr0 86) (some 5) (.pointer v58)) (some 6) (.pointer v59)) (some 9) (.int .i64 v60)) (some 11) (.int .i64 v61)) (some 12) (.bool v62)) (some 13) (.int .i64 v63)) (some 14) (Sl.v v64)) (some 15) (.int .i64 v65)) h66 (loopE (grabC 86 [(5, pP), (6, pP), (9, iP .i64), (11, iP .i64), (12, bP), (13, iP .i64), (14, sP), (15, iP .i64)] (lC (C3).P (C3).yld c3_1047113 86 [(5, pP), (6, pP), (9, iP .i64), (11, iP .i64), (12, bP), (13, iP .i64), (14, sP), (15, iP .i64)] (outE noE noE [(2, (grabC 86 [(5, pP), (6, pP), (9, iP .i64), (11, iP .i64), (12, bP), (13, iP .i64), (14, sP)] X2))]))) (outE noE noE [(2, (grabC 86 [(5, pP), (6, pP), (9, iP .i64), (11, iP .i64), (12, bP), (13, iP .i64), (14, sP)] X2))]))) = z3_1047113 X2 v58 v59 v60 v61 v62 v63 v64 v65 h66 := by kernel_rfl
theorem r3_1047113 (X2 : Option Addr → Option Addr → Int → Int → Bool → Int → Sl → Heap → Prop) (v58 : Option Addr) (v59 : Option Addr) (v60 : Int) (v61 : Int) (v62 : Bool) (v63 : Int) (v64 : Sl) (v65 : Int) (h66 : Heap) (H : z3_1047113 X2 v58 v59 v60 v61 v62 v63 v64 v65 h66) : l3_1047113 X2 v58 v59 v60 v61 v62 v63 v64 v65 h66 := loop_stepE (p := 1047113) (N := 86) (keep := [(5, pP), (6, pP), (9, iP .i64), (11, iP .i64), (12, bP), (13, iP .i64), (14, sP), (15, iP .i64)]) (o3) rfl s3_1047113 (k3_1047113 X2 v58 v59 v60 v61 v62 v63 v64 v65 h66) (by kernel_rfl) H
def z3_4089 (X0 : Int → Int → Bool → Heap → Prop) (v47 : Option Addr) (v48 : Option Addr) (v49 : Int) (v50 : Int) (v51 : Bool) (v52 : Int) (h53 : Heap) : Prop :=
 (Go.AM.get v47 fun a56 =>
 (Go.AM.get (asI .i64 (Heap.rd h53 ⟨a56.block, a56.off, none⟩)) fun y57 =>
 (chk (decide (0 ≤ (IntKind.wrap .u64 y57))) <|
 (branch (decide (v52 < (IntKind.wrap .i64 (1 * 2 ^ (min (Int.toNat (IntKind.wrap .u64 y57)) 64)))))
 (l3_1047113
 (fun z82 z83 z84 z85 z86 z87 z88 h89 =>
 (branch z86
 (l3_4089 X0 z82 z83 z84 z85 true (IntKind.wrap .i64 (z87 + 1)) h89)
 (branch (decide (z85 ≥ 0))
 (Go.AM.get z83 fun a90 =>
 (Go.AM.get (asI .i64 (Heap.rd h89 ⟨a90.block, a90.off, none⟩)) fun y91 =>
 (Go.AM.get (asS (Heap.rd h89 ⟨a90.block, (a90.off + 1), none⟩)) fun y92 =>
 (t14 (y91, y92, ()) z88 z85 h89 fun r93 h94 =>
 (l3_4089 X0 z82 z83 z84 z85 r93 (IntKind.wrap .i64 (z87 + 1)) h94)))))
 (l3_4089 X0 z82 z83 z84 z85 false (IntKind.wrap .i64 (z87 + 1)) h89))))
 v47 v48 v49 v50 v51 v52 (Sl.mk none 0 0) 0 h53)
 (X0 v49 v50 v51 h53)))))
theorem k3_4089 (X0 : Int → Int → Bool → Heap → Prop) (v47 : Option Addr) (v48 : Option Addr) (v49 : Int) (v50 : Int) (v51 : Bool) (v52 : Int) (h53 : Heap) : (exec (C3) c3_4089 false 8179 (Fr.put (Fr.put (Fr.put (Fr.put (Fr.put (Fr.put (Fr0 86) (some 5) (.pointer v47)) (some 6) (.pointer v48)) (some 9) (.int .i64 v49)) (some 11) (.int .i64 v50)) (some 12) (.bool v51)) (some 13) (.int .i64 v52)) h53 (loopE (grabC 86 [(5, pP), (6, pP), (9, iP .i64), (11, iP .i64), (12, bP), (13, iP .i64)] (lC (C3).P (C3).yld c3_4089 86 [(5, pP), (6, pP), (9, iP .i64), (11, iP .i64), (12, bP), (13, iP .i64)] (outE noE noE [(0, (grabC 86 [(9, iP .i64), (11, iP .i64), (12, bP)] X0))]))) (outE noE noE [(0, (grabC 86 [(9, iP .i64), (11, iP .i64), (12, bP)] X0))]))) = z3_4089 X0 v47 v48 v49 v50 v51 v52 h53 := by kernel_rfl
theorem r3_4089 (X0 : Int → Int → Bool → Heap → Prop) (v47 : Option Addr) (v48 : Option Addr) (v49 : Int) (v50 : Int) (v51 : Bool) (v52 : Int) (h53 : Heap) (H : z3_4089 X0 v47 v48 v49 v50 v51 v52 h53) : l3_4089 X0 v47 v48 v49 v50 v51 v52 h53 := loop_stepE (p := 4089) (N := 86) (keep := [(5, pP), (6, pP), (9, iP .i64), (11, iP .i64), (12, bP), (13, iP .i64)]) (o3) rfl s3_4089 (k3_4089 X0 v47 v48 v49 v50 v51 v52 h53) (by kernel_rfl) H
def z3 (p0 : (Int × Sl × Unit)) (p1 : Int) (h : Heap) (K : Bool → Heap → Prop) : Prop :=
 (withH (Heap.new h (.cells [(.int .i64 p0.1), (Sl.v p0.2.1)] false)) fun h2 =>
 (Go.AM.get (asI .i64 (Heap.rd h2 ⟨h.next, 0, none⟩)) fun y9 =>
 (Go.AM.get (asS (Heap.rd h2 ⟨h.next, 1, none⟩)) fun y10 =>
 (t10 (y9, y10, ()) 8 16 h2 fun r11 h12 =>
 (withH (Heap.new h12 (.cells [(.int .i64 0), (.slice none 0 0)] false)) fun h13 =>
 (Go.AM.get (Heap.wr h13 ⟨h12.next, 0, none⟩ [(.int .i64 r11.1), (Sl.v r11.2.1)]) fun h14 =>
 (Go.AM.get (asI .i64 (Heap.rd h14 ⟨h12.next, 0, none⟩)) fun y21 =>
 (Go.AM.get (asS (Heap.rd h14 ⟨h12.next, 1, none⟩)) fun y22 =>
 (t11 (y21, y22, ()) h14 fun r23 h24 =>
 (withH (Heap.new h24 (.cells [(.int .i64 0), (.slice none 0 0)] false)) fun h25 =>
 (Go.AM.get (Heap.wr h25 ⟨h24.next, 0, none⟩ [(.int .i64 r23.1), (Sl.v r23.2.1)]) fun h26 =>
 (Go.AM.get (asI .i64 (Heap.rd h26 ⟨h24.next, 0, none⟩)) fun y32 =>
 (Go.AM.get (asS (Heap.rd h26 ⟨h24.next, 1, none⟩)) fun y33 =>
 (t12 (y32, y33, ()) h26 fun r34 r35 h36 =>
 (Go.AM.get (asI .i64 (Heap.rd h36 ⟨h24.next, 0, none⟩)) fun y42 =>
 (Go.AM.get (asS (Heap.rd h36 ⟨h24.next, 1, none⟩)) fun y43 =>
 (t13 (y42, y43, ()) r34 h36 fun r44 r45 h46 =>
 (branch (r35 != 0)
 (K false h46)
 (branch (!r45)
 (K false h46)
 (l3_4089
 (fun z99 z100 z101 h102 =>
 (branch (z101 == (z100 == z99))
 (t15 h102 fun r103 h104 =>
 (K r103 h104))
 (K false h102)))
 (some ⟨h12.next, 0, none⟩) (some ⟨h24.next, 0, none⟩) r44 (IntKind.wrap .i64 (r44 - (IntKind.wrap .i64 (Int.tmod (IntKind.wrap .u64 p1) 3)))) false 0 h46))))))))))))))))))))
theorem k3 (p0 : (Int × Sl × Unit)) (p1 : Int) (h : Heap) (K : Bool → Heap → Prop) : fnK C3 Try.f3.results.toList Try.f3.ntmps b3 [(.agg ⟨[(.int .i64 p0.1), (Sl.v p0.2.1)]⟩), (.int .i64 p1)] h (outC [bP] K) = z3 p0 p1 h K := by kernel_rfl
theorem r3 (p0 : (Int × Sl × Unit)) (p1 : Int) (h : Heap) (K : Bool → Heap → Prop) (H : z3 p0 p1 h K) : t3 p0 p1 h K := fn_stepE (C := C3) (fn := Try.f3) (g := 3) o3 rfl rfl (by kernel_rfl) (by kernel_rfl) (by kernel_rfl) (k3 p0 p1 h K) (by kernel_rfl) H

/-! 4: minikin/minikinlaw04.PairGallai -/
noncomputable def b4 : Code := Try.f4.body.getD .skip
noncomputable def c4_2041 : Code := (subN b4 4083).getD .skip
theorem s4_2041 : subN b4 4083 = some c4_2041 := by kernel_rfl
theorem sl4_2041 : subN b4 2041 = some (.loop c4_2041) := by kernel_rfl
noncomputable def l4_2041 (XR : Bool → Heap → Prop) (X0 : Option Addr → Sl → Option Addr → Heap → Prop) : Option Addr → Sl → Option Addr → Int → Heap → Prop := lC Try.prog none c4_2041 170 [(3, pP), (5, sP), (7, pP), (11, iP .i64)] (outE noE (grabC 170 [(2, bP)] XR) [(0, (grabC 170 [(3, pP), (5, sP), (7, pP)] X0))])
noncomputable def c4_4089 : Code := (subN b4 8179).getD .skip
theorem s4_4089 : subN b4 8179 = some c4_4089 := by kernel_rfl
theorem sl4_4089 : subN b4 4089 = some (.loop c4_4089) := by kernel_rfl
noncomputable def l4_4089 (XR : Bool → Heap → Prop) (X2 : Option Addr → Option Addr → Heap → Prop) : Option Addr → Sl → Option Addr → Int → Heap → Prop := lC Try.prog none c4_4089 170 [(3, pP), (5, sP), (7, pP), (13, iP .i64)] (outE noE (grabC 170 [(2, bP)] XR) [(2, (grabC 170 [(3, pP), (7, pP)] X2))])
noncomputable def c4_16377 : Code := (subN b4 32755).getD .skip
theorem s4_16377 : subN b4 32755 = some c4_16377 := by kernel_rfl
theorem sl4_16377 : subN b4 16377 = some (.loop c4_16377) := by kernel_rfl
noncomputable def l4_16377 (X4 : Option Addr → Sl → Heap → Prop) : Option Addr → Option Addr → Sl → Int → Heap → Prop := lC Try.prog none c4_16377 170 [(3, pP), (7, pP), (15, sP), (16, iP .i64)] (outE noE noE [(4, (grabC 170 [(3, pP), (15, sP)] X4))])
noncomputable def c4_268412050 : Code := (subN b4 268412050).getD .skip
theorem s4_268412050 : subN b4 268412050 = some c4_268412050 := by kernel_rfl
noncomputable def q4_268412050 (XN : Option Addr → Sl → Int → Int → Heap → Prop) (XR : Bool → Heap → Prop) : Option Addr → Sl → Int → Int → Sl → Heap → Prop := qC Try.prog none c4_268412050 170 [(3, pP), (17, sP), (18, iP .i64), (19, iP .i64), (20, sP)] (outE (grabC 170 [(3, pP), (17, sP), (18, iP .i64), (19, iP .i64)] XN) (grabC 170 [(2, bP)] XR) [])
noncomputable def c4_4193937 : Code := (subN b4 8387875).getD .skip
theorem s4_4193937 : subN b4 8387875 = some c4_4193937 := by kernel_rfl
theorem sl4_4193937 : subN b4 4193937 = some (.loop c4_4193937) := by kernel_rfl
noncomputable def l4_4193937 (XR : Bool → Heap → Prop) (X8 : Option Addr → Sl → Int → Heap → Prop) : Option Addr → Sl → Int → Int → Heap → Prop := lC Try.prog none c4_4193937 170 [(3, pP), (17, sP), (18, iP .i64), (19, iP .i64)] (outE noE (grabC 170 [(2, bP)] XR) [(8, (grabC 170 [(3, pP), (17, sP), (18, iP .i64)] X8))])
noncomputable def c4_65529 : Code := (subN b4 131059).getD .skip
theorem s4_65529 : subN b4 131059 = some c4_65529 := by kernel_rfl
theorem sl4_65529 : subN b4 65529 = some (.loop c4_65529) := by kernel_rfl
noncomputable def l4_65529 (XR : Bool → Heap → Prop) (X6 : Heap → Prop) : Option Addr → Sl → Int → Heap → Prop := lC Try.prog none c4_65529 170 [(3, pP), (17, sP), (18, iP .i64)] (outE noE (grabC 170 [(2, bP)] XR) [(6, (grabC 170 [] X6))])
noncomputable def C4 : Ctx := baseC Try.prog [95, 75] none (cons1 15 w15 (cons1 19 w19 (cons1 18 w18 (cons1 17 w17 (cons1 14 w14 (cons1 13 w13 (cons1 16 w16 (cons1 12 w12 (cons1 11 w11 (cons1 10 w10 (allF Try.prog))))))))))) (allI Try.prog) (cons1 65529 (gC 170 [(3, pP), (17, sP), (18, iP .i64)] none (some [(2, bP)]) [(6, [])] (lC Try.prog none c4_65529 170 [(3, pP), (17, sP), (18, iP .i64)])) (cons1 4193937 (gC 170 [(3, pP), (17, sP), (18, iP .i64), (19, iP .i64)] none (some [(2, bP)]) [(8, [(3, pP), (17, sP), (18, iP .i64)])] (lC Try.prog none c4_4193937 170 [(3, pP), (17, sP), (18, iP .i64), (19, iP .i64)])) (cons1 268412050 (gC 170 [(3, pP), (17, sP), (18, iP .i64), (19, iP .i64), (20, sP)] (some [(3, pP), (17, sP), (18, iP .i64), (19, iP .i64)]) (some [(2, bP)]) [] (qC Try.prog none c4_268412050 170 [(3, pP), (17, sP), (18, iP .i64), (19, iP .i64), (20, sP)])) (cons1 16377 (gC 170 [(3, pP), (7, pP), (15, sP), (16, iP .i64)] none none [(4, [(3, pP), (15, sP)])] (lC Try.prog none c4_16377 170 [(3, pP), (7, pP), (15, sP), (16, iP .i64)])) (cons1 4089 (gC 170 [(3, pP), (5, sP), (7, pP), (13, iP .i64)] none (some [(2, bP)]) [(2, [(3, pP), (7, pP)])] (lC Try.prog none c4_4089 170 [(3, pP), (5, sP), (7, pP), (13, iP .i64)])) (cons1 2041 (gC 170 [(3, pP), (5, sP), (7, pP), (11, iP .i64)] none (some [(2, bP)]) [(0, [(3, pP), (5, sP), (7, pP)])] (lC Try.prog none c4_2041 170 [(3, pP), (5, sP), (7, pP), (11, iP .i64)])) none1))))))
theorem o4 : CtxOK (C4) b4 := (addL (addL (addQ (addL (addL (addL (addF (addF (addF (addF (addF (addF (addF (addF (addF (addF (base_ok eqOK mixOK none b4) (wC_ok Try.prog 10 [aggP [iP .i64, sP], iP .i64, iP .i64] [aggP [iP .i64, sP]])) (wC_ok Try.prog 11 [aggP [iP .i64, sP]] [aggP [iP .i64, sP]])) (wC_ok Try.prog 12 [aggP [iP .i64, sP]] [sP, iP .i64])) (wC_ok Try.prog 16 [aggP [iP .i64, sP]] [aggP [sP, sP, sP], iP .i64])) (wC_ok Try.prog 13 [aggP [iP .i64, sP], sP] [iP .i64, bP])) (wC_ok Try.prog 14 [aggP [iP .i64, sP], sP, iP .i64] [bP])) (wC_ok Try.prog 17 [sP, iP .i64] [bP])) (wC_ok Try.prog 18 [aggP [iP .i64, sP], sP] [sP])) (wC_ok Try.prog 19 [aggP [iP .i64, sP], sP] [bP])) (wC_ok Try.prog 15 [] [bP])) sl4_2041) sl4_4089) sl4_16377) s4_268412050) sl4_4193937) sl4_65529)
def z4_2041 (XR : Bool → Heap → Prop) (X0 : Option Addr → Sl → Option Addr → Heap → Prop) (v79 : Option Addr) (v80 : Sl) (v81 : Option Addr) (v82 : Int) (h83 : Heap) : Prop :=
 (Go.AM.get v81 fun a86 =>
 (Go.AM.get (asS (Heap.rd h83 ⟨a86.block, (a86.off + 1), none⟩)) fun y87 =>
 (branch (decide (v82 < ((y87.len : Nat) : Int)))
 (Go.AM.get v81 fun a94 =>
 (Go.AM.get (asS (Heap.rd h83 ⟨a94.block, (a94.off + 1), none⟩)) fun y95 =>
 (Go.AM.get y95.a fun a96 =>
 (chk (idx v82 y95.len) <|
 (Go.AM.get (asI .i64 (Heap.rd h83 ⟨a96.block, (a96.off + ((Int.toNat v82) * 1)), none⟩)) fun y97 =>
 (Go.AM.get v80.a fun a98 =>
 (chk (idx y97 v80.len) <|
 (Go.AM.get (asI .i64 (Heap.rd h83 ⟨a98.block, (a98.off + ((Int.toNat y97) * 1)), none⟩)) fun y99 =>
 (Go.AM.get v81 fun a100 =>
 (Go.AM.get (asS (Heap.rd h83 ⟨a100.block, a100.off, none⟩)) fun y101 =>
 (t17 y101 y99 h83 fun r102 h103 =>
 (branch (!r102)
 (XR false h103)
 (l4_2041 XR X0 v79 v80 v81 (IntKind.wrap .i64 (v82 + 1)) h103)))))))))))))
 (X0 v79 v80 v81 h83))))
theorem k4_2041 (XR : Bool → Heap → Prop) (X0 : Option Addr → Sl → Option Addr → Heap → Prop) (v79 : Option Addr) (v80 : Sl) (v81 : Option Addr) (v82 : Int) (h83 : Heap) : (exec (C4) c4_2041 false 4083 (Fr.put (Fr.put (Fr.put (Fr.put (Fr0 170) (some 3) (.pointer v79)) (some 5) (Sl.v v80)) (some 7) (.pointer v81)) (some 11) (.int .i64 v82)) h83 (loopE (grabC 170 [(3, pP), (5, sP), (7, pP), (11, iP .i64)] (lC (C4).P (C4).yld c4_2041 170 [(3, pP), (5, sP), (7, pP), (11, iP .i64)] (outE noE (grabC 170 [(2, bP)] XR) [(0, (grabC 170 [(3, pP), (5, sP), (7, pP)] X0))]))) (outE noE (grabC 170 [(2, bP)] XR) [(0, (grabC 170 [(3, pP), (5, sP), (7, pP)] X0))]))) = z4_2041 XR X0 v79 v80 v81 v82 h83 := by kernel_rfl
theorem r4_2041 (XR : Bool → Heap → Prop) (X0 : Option Addr → Sl → Option Addr → Heap → Prop) (v79 : Option Addr) (v80 : Sl) (v81 : Option Addr) (v82 : Int) (h83 : Heap) (H : z4_2041 XR X0 v79 v80 v81 v82 h83) : l4_2041 XR X0 v79 v80 v81 v82 h83 := loop_stepE (p := 2041) (N := 170) (keep := [(3, pP), (5, sP), (7, pP), (11, iP .i64)]) (o4) rfl s4_2041 (k4_2041 XR X0 v79 v80 v81 v82 h83) (by kernel_rfl) H
def z4_4089 (XR : Bool → Heap → Prop) (X2 : Option Addr → Option Addr → Heap → Prop) (v116 : Option Addr) (v117 : Sl) (v118 : Option Addr) (v119 : Int) (h120 : Heap) : Prop :=
 (Go.AM.get v118 fun a123 =>
 (Go.AM.get (asS (Heap.rd h120 ⟨a123.block, (a123.off + 2), none⟩)) fun y124 =>
 (branch (decide (v119 < ((y124.len : Nat) : Int)))
 (Go.AM.get v118 fun a131 =>
 (Go.AM.get (asS (Heap.rd h120 ⟨a131.block, (a131.off + 2), none⟩)) fun y132 =>
 (Go.AM.get y132.a fun a133 =>
 (chk (idx v119 y132.len) <|
 (Go.AM.get (asI .i64 (Heap.rd h120 ⟨a133.block, (a133.off + ((Int.toNat v119) * 1)), none⟩)) fun y134 =>
 (Go.AM.get v117.a fun a135 =>
 (chk (idx y134 v117.len) <|
 (Go.AM.get (asI .i64 (Heap.rd h120 ⟨a135.block, (a135.off + ((Int.toNat y134) * 1)), none⟩)) fun y136 =>
 (Go.AM.get v118 fun a137 =>
 (Go.AM.get (asS (Heap.rd h120 ⟨a137.block, (a137.off + 2), none⟩)) fun y138 =>
 (t17 y138 y136 h120 fun r139 h140 =>
 (branch (!r139)
 (XR false h140)
 (l4_4089 XR X2 v116 v117 v118 (IntKind.wrap .i64 (v119 + 1)) h140)))))))))))))
 (X2 v116 v118 h120))))
theorem k4_4089 (XR : Bool → Heap → Prop) (X2 : Option Addr → Option Addr → Heap → Prop) (v116 : Option Addr) (v117 : Sl) (v118 : Option Addr) (v119 : Int) (h120 : Heap) : (exec (C4) c4_4089 false 8179 (Fr.put (Fr.put (Fr.put (Fr.put (Fr0 170) (some 3) (.pointer v116)) (some 5) (Sl.v v117)) (some 7) (.pointer v118)) (some 13) (.int .i64 v119)) h120 (loopE (grabC 170 [(3, pP), (5, sP), (7, pP), (13, iP .i64)] (lC (C4).P (C4).yld c4_4089 170 [(3, pP), (5, sP), (7, pP), (13, iP .i64)] (outE noE (grabC 170 [(2, bP)] XR) [(2, (grabC 170 [(3, pP), (7, pP)] X2))]))) (outE noE (grabC 170 [(2, bP)] XR) [(2, (grabC 170 [(3, pP), (7, pP)] X2))]))) = z4_4089 XR X2 v116 v117 v118 v119 h120 := by kernel_rfl
theorem r4_4089 (XR : Bool → Heap → Prop) (X2 : Option Addr → Option Addr → Heap → Prop) (v116 : Option Addr) (v117 : Sl) (v118 : Option Addr) (v119 : Int) (h120 : Heap) (H : z4_4089 XR X2 v116 v117 v118 v119 h120) : l4_4089 XR X2 v116 v117 v118 v119 h120 := loop_stepE (p := 4089) (N := 170) (keep := [(3, pP), (5, sP), (7, pP), (13, iP .i64)]) (o4) rfl s4_4089 (k4_4089 XR X2 v116 v117 v118 v119 h120) (by kernel_rfl) H
def z4_16377 (X4 : Option Addr → Sl → Heap → Prop) (v151 : Option Addr) (v152 : Option Addr) (v153 : Sl) (v154 : Int) (h155 : Heap) : Prop :=
 (Go.AM.get v151 fun a158 =>
 (Go.AM.get (asI .i64 (Heap.rd h155 ⟨a158.block, a158.off, none⟩)) fun y159 =>
 (branch (decide (v154 < y159))
 (Go.AM.get v152 fun a164 =>
 (Go.AM.get (asS (Heap.rd h155 ⟨a164.block, a164.off, none⟩)) fun y165 =>
 (t17 y165 v154 h155 fun r166 h167 =>
 (branch (!r166)
 (withH (Heap.new h167 (.cells [(.int .i64 v154)] false)) fun h168 =>
 (Go.AM.get (Heap.rdN h168 ⟨h167.next, 0, none⟩ 1) fun y169 =>
 (Go.AM.get (Heap.app h168 1 8 v153 1 y169) fun r170 =>
 (l4_16377 X4 v151 v152 r170.1 (IntKind.wrap .i64 (v154 + 1)) r170.2))))
 (l4_16377 X4 v151 v152 v153 (IntKind.wrap .i64 (v154 + 1)) h167)))))
 (X4 v151 v153 h155))))
theorem k4_16377 (X4 : Option Addr → Sl → Heap → Prop) (v151 : Option Addr) (v152 : Option Addr) (v153 : Sl) (v154 : Int) (h155 : Heap) : (exec (C4) c4_16377 false 32755 (Fr.put (Fr.put (Fr.put (Fr.put (Fr0 170) (some 3) (.pointer v151)) (some 7) (.pointer v152)) (some 15) (Sl.v v153)) (some 16) (.int .i64 v154)) h155 (loopE (grabC 170 [(3, pP), (7, pP), (15, sP), (16, iP .i64)] (lC (C4).P (C4).yld c4_16377 170 [(3, pP), (7, pP), (15, sP), (16, iP .i64)] (outE noE noE [(4, (grabC 170 [(3, pP), (15, sP)] X4))]))) (outE noE noE [(4, (grabC 170 [(3, pP), (15, sP)] X4))]))) = z4_16377 X4 v151 v152 v153 v154 h155 := by kernel_rfl
theorem r4_16377 (X4 : Option Addr → Sl → Heap → Prop) (v151 : Option Addr) (v152 : Option Addr) (v153 : Sl) (v154 : Int) (h155 : Heap) (H : z4_16377 X4 v151 v152 v153 v154 h155) : l4_16377 X4 v151 v152 v153 v154 h155 := loop_stepE (p := 16377) (N := 170) (keep := [(3, pP), (7, pP), (15, sP), (16, iP .i64)]) (o4) rfl s4_16377 (k4_16377 X4 v151 v152 v153 v154 h155) (by kernel_rfl) H
def z4_268412050 (XN : Option Addr → Sl → Int → Int → Heap → Prop) (XR : Bool → Heap → Prop) (v205 : Option Addr) (v206 : Sl) (v207 : Int) (v208 : Int) (v209 : Sl) (h210 : Heap) : Prop :=
 (Go.AM.get v206.a fun a216 =>
 (chk (idx v207 v206.len) <|
 (Go.AM.get (asS (Heap.rd h210 ⟨a216.block, (a216.off + ((Int.toNat v207) * 1)), none⟩)) fun y217 =>
 (chk (within (IntKind.wrap .i64 (v208 + 1)) ((y217.len : Nat) : Int) ((y217.cap : Nat) : Int)) <|
 (optK (Sl.cut y217 1 (Int.toNat (IntKind.wrap .i64 (v208 + 1))) (Int.toNat ((y217.len : Nat) : Int))).a
 (Go.AM.get v205 fun a219 =>
 (Go.AM.get (asI .i64 (Heap.rd h210 ⟨a219.block, a219.off, none⟩)) fun y220 =>
 (Go.AM.get (asS (Heap.rd h210 ⟨a219.block, (a219.off + 1), none⟩)) fun y221 =>
 (t19 (y220, y221, ()) v209 h210 fun r222 h223 =>
 (branch (!r222)
 (XR false h223)
 (XN v205 v206 v207 v208 h223))))))
 fun a218 =>
 (Go.AM.get (Heap.rdN h210 ⟨a218.block, a218.off, none⟩ (((Sl.cut y217 1 (Int.toNat (IntKind.wrap .i64 (v208 + 1))) (Int.toNat ((y217.len : Nat) : Int))).len) * 1)) fun y224 =>
 (Go.AM.get (Heap.app h210 1 8 v209 ((Sl.cut y217 1 (Int.toNat (IntKind.wrap .i64 (v208 + 1))) (Int.toNat ((y217.len : Nat) : Int))).len) y224) fun r225 =>
 (Go.AM.get v205 fun a226 =>
 (Go.AM.get (asI .i64 (Heap.rd r225.2 ⟨a226.block, a226.off, none⟩)) fun y227 =>
 (Go.AM.get (asS (Heap.rd r225.2 ⟨a226.block, (a226.off + 1), none⟩)) fun y228 =>
 (t19 (y227, y228, ()) r225.1 r225.2 fun r229 h230 =>
 (branch (!r229)
 (XR false h230)
 (XN v205 v206 v207 v208 h230)))))))))))))
theorem k4_268412050 (XN : Option Addr → Sl → Int → Int → Heap → Prop) (XR : Bool → Heap → Prop) (v205 : Option Addr) (v206 : Sl) (v207 : Int) (v208 : Int) (v209 : Sl) (h210 : Heap) : (exec (C4) c4_268412050 true 268412050 (Fr.put (Fr.put (Fr.put (Fr.put (Fr.put (Fr0 170) (some 3) (.pointer v205)) (some 17) (Sl.v v206)) (some 18) (.int .i64 v207)) (some 19) (.int .i64 v208)) (some 20) (Sl.v v209)) h210 (outE (grabC 170 [(3, pP), (17, sP), (18, iP .i64), (19, iP .i64)] XN) (grabC 170 [(2, bP)] XR) [])) = z4_268412050 XN XR v205 v206 v207 v208 v209 h210 := by kernel_rfl
theorem r4_268412050 (XN : Option Addr → Sl → Int → Int → Heap → Prop) (XR : Bool → Heap → Prop) (v205 : Option Addr) (v206 : Sl) (v207 : Int) (v208 : Int) (v209 : Sl) (h210 : Heap) (H : z4_268412050 XN XR v205 v206 v207 v208 v209 h210) : q4_268412050 XN XR v205 v206 v207 v208 v209 h210 := piece_stepE (p := 268412050) (o4) rfl s4_268412050 (k4_268412050 XN XR v205 v206 v207 v208 v209 h210) (by kernel_rfl) H
def z4_4193937 (XR : Bool → Heap → Prop) (X8 : Option Addr → Sl → Int → Heap → Prop) (v191 : Option Addr) (v192 : Sl) (v193 : Int) (v194 : Int) (h195 : Heap) : Prop :=
 (Go.AM.get v192.a fun a198 =>
 (chk (idx v193 v192.len) <|
 (Go.AM.get (asS (Heap.rd h195 ⟨a198.block, (a198.off + ((Int.toNat v193) * 1)), none⟩)) fun y199 =>
 (branch (decide (v194 < ((y199.len : Nat) : Int)))
 (Go.AM.get v192.a fun a231 =>
 (chk (idx v193 v192.len) <|
 (Go.AM.get (asS (Heap.rd h195 ⟨a231.block, (a231.off + ((Int.toNat v193) * 1)), none⟩)) fun y232 =>
 (chk (within 0 v194 ((y232.cap : Nat) : Int)) <|
 (optK (Sl.cut y232 1 0 (Int.toNat v194)).a
 (q4_268412050
 (fun z234 z235 z236 z237 h238 =>
 (l4_4193937 XR X8 z234 z235 z236 (IntKind.wrap .i64 (z237 + 1)) h238))
 (fun z239 h240 =>
 (XR z239 h240))
 v191 v192 v193 v194 (Sl.mk none 0 0) h195)
 fun a233 =>
 (Go.AM.get (Heap.rdN h195 ⟨a233.block, a233.off, none⟩ (((Sl.cut y232 1 0 (Int.toNat v194)).len) * 1)) fun y241 =>
 (Go.AM.get (Heap.app h195 1 8 (Sl.mk none 0 0) ((Sl.cut y232 1 0 (Int.toNat v194)).len) y241) fun r242 =>
 (q4_268412050
 (fun z243 z244 z245 z246 h247 =>
 (l4_4193937 XR X8 z243 z244 z245 (IntKind.wrap .i64 (z246 + 1)) h247))
 (fun z248 h249 =>
 (XR z248 h249))
 v191 v192 v193 v194 r242.1 r242.2))))))))
 (X8 v191 v192 v193 h195)))))
theorem k4_4193937 (XR : Bool → Heap → Prop) (X8 : Option Addr → Sl → Int → Heap → Prop) (v191 : Option Addr) (v192 : Sl) (v193 : Int) (v194 : Int) (h195 : Heap) : (exec (C4) c4_4193937 false 8387875 (Fr.put (Fr.put (Fr.put (Fr.put (Fr0 170) (some 3) (.pointer v191)) (some 17) (Sl.v v192)) (some 18) (.int .i64 v193)) (some 19) (.int .i64 v194)) h195 (loopE (grabC 170 [(3, pP), (17, sP), (18, iP .i64), (19, iP .i64)] (lC (C4).P (C4).yld c4_4193937 170 [(3, pP), (17, sP), (18, iP .i64), (19, iP .i64)] (outE noE (grabC 170 [(2, bP)] XR) [(8, (grabC 170 [(3, pP), (17, sP), (18, iP .i64)] X8))]))) (outE noE (grabC 170 [(2, bP)] XR) [(8, (grabC 170 [(3, pP), (17, sP), (18, iP .i64)] X8))]))) = z4_4193937 XR X8 v191 v192 v193 v194 h195 := by kernel_rfl
theorem r4_4193937 (XR : Bool → Heap → Prop) (X8 : Option Addr → Sl → Int → Heap → Prop) (v191 : Option Addr) (v192 : Sl) (v193 : Int) (v194 : Int) (h195 : Heap) (H : z4_4193937 XR X8 v191 v192 v193 v194 h195) : l4_4193937 XR X8 v191 v192 v193 v194 h195 := loop_stepE (p := 4193937) (N := 170) (keep := [(3, pP), (17, sP), (18, iP .i64), (19, iP .i64)]) (o4) rfl s4_4193937 (k4_4193937 XR X8 v191 v192 v193 v194 h195) (by kernel_rfl) H
def z4_65529 (XR : Bool → Heap → Prop) (X6 : Heap → Prop) (v187 : Option Addr) (v188 : Sl) (v189 : Int) (h190 : Heap) : Prop :=
 (branch (decide (v189 < ((v188.len : Nat) : Int)))
 (l4_4193937
 (fun z250 h251 =>
 (XR z250 h251))
 (fun z252 z253 z254 h255 =>
 (l4_65529 XR X6 z252 z253 (IntKind.wrap .i64 (z254 + 1)) h255))
 v187 v188 v189 0 h190)
 (X6 h190))
theorem k4_65529 (XR : Bool → Heap → Prop) (X6 : Heap → Prop) (v187 : Option Addr) (v188 : Sl) (v189 : Int) (h190 : Heap) : (exec (C4) c4_65529 false 131059 (Fr.put (Fr.put (Fr.put (Fr0 170) (some 3) (.pointer v187)) (some 17) (Sl.v v188)) (some 18) (.int .i64 v189)) h190 (loopE (grabC 170 [(3, pP), (17, sP), (18, iP .i64)] (lC (C4).P (C4).yld c4_65529 170 [(3, pP), (17, sP), (18, iP .i64)] (outE noE (grabC 170 [(2, bP)] XR) [(6, (grabC 170 [] X6))]))) (outE noE (grabC 170 [(2, bP)] XR) [(6, (grabC 170 [] X6))]))) = z4_65529 XR X6 v187 v188 v189 h190 := by kernel_rfl
theorem r4_65529 (XR : Bool → Heap → Prop) (X6 : Heap → Prop) (v187 : Option Addr) (v188 : Sl) (v189 : Int) (h190 : Heap) (H : z4_65529 XR X6 v187 v188 v189 h190) : l4_65529 XR X6 v187 v188 v189 h190 := loop_stepE (p := 65529) (N := 170) (keep := [(3, pP), (17, sP), (18, iP .i64)]) (o4) rfl s4_65529 (k4_65529 XR X6 v187 v188 v189 h190) (by kernel_rfl) H
def z4 (p0 : (Int × Sl × Unit)) (h : Heap) (K : Bool → Heap → Prop) : Prop :=
 (withH (Heap.new h (.cells [(.int .i64 p0.1), (Sl.v p0.2.1)] false)) fun h2 =>
 (Go.AM.get (asI .i64 (Heap.rd h2 ⟨h.next, 0, none⟩)) fun y9 =>
 (Go.AM.get (asS (Heap.rd h2 ⟨h.next, 1, none⟩)) fun y10 =>
 (t10 (y9, y10, ()) 16 34 h2 fun r11 h12 =>
 (withH (Heap.new h12 (.cells [(.int .i64 0), (.slice none 0 0)] false)) fun h13 =>
 (Go.AM.get (Heap.wr h13 ⟨h12.next, 0, none⟩ [(.int .i64 r11.1), (Sl.v r11.2.1)]) fun h14 =>
 (Go.AM.get (asI .i64 (Heap.rd h14 ⟨h12.next, 0, none⟩)) fun y21 =>
 (Go.AM.get (asS (Heap.rd h14 ⟨h12.next, 1, none⟩)) fun y22 =>
 (t11 (y21, y22, ()) h14 fun r23 h24 =>
 (withH (Heap.new h24 (.cells [(.int .i64 0), (.slice none 0 0)] false)) fun h25 =>
 (Go.AM.get (Heap.wr h25 ⟨h24.next, 0, none⟩ [(.int .i64 r23.1), (Sl.v r23.2.1)]) fun h26 =>
 (Go.AM.get (asI .i64 (Heap.rd h26 ⟨h24.next, 0, none⟩)) fun y32 =>
 (Go.AM.get (asS (Heap.rd h26 ⟨h24.next, 1, none⟩)) fun y33 =>
 (t12 (y32, y33, ()) h26 fun r34 r35 h36 =>
 (Go.AM.get (asI .i64 (Heap.rd h36 ⟨h24.next, 0, none⟩)) fun y44 =>
 (Go.AM.get (asS (Heap.rd h36 ⟨h24.next, 1, none⟩)) fun y45 =>
 (t16 (y44, y45, ()) h36 fun r46 r47 h48 =>
 (withH (Heap.new h48 (.cells [(.slice none 0 0), (.slice none 0 0), (.slice none 0 0)] false)) fun h49 =>
 (Go.AM.get (Heap.wr h49 ⟨h48.next, 0, none⟩ [(Sl.v r46.1), (Sl.v r46.2.1), (Sl.v r46.2.2.1)]) fun h50 =>
 (Go.AM.get (asI .i64 (Heap.rd h50 ⟨h24.next, 0, none⟩)) fun y56 =>
 (Go.AM.get (asS (Heap.rd h50 ⟨h24.next, 1, none⟩)) fun y57 =>
 (t13 (y56, y57, ()) r34 h50 fun r58 r59 h60 =>
 (branch (r35 != 0)
 (K false h60)
 (branch (r47 != 0)
 (K false h60)
 (branch (!r59)
 (K false h60)
 (Go.AM.get (asI .i64 (Heap.rd h60 ⟨h24.next, 0, none⟩)) fun y70 =>
 (Go.AM.get (asS (Heap.rd h60 ⟨h24.next, 1, none⟩)) fun y71 =>
 (Go.AM.get (asS (Heap.rd h60 ⟨h48.next, 1, none⟩)) fun y72 =>
 (t14 (y70, y71, ()) y72 r58 h60 fun r73 h74 =>
 (branch (!r73)
 (K false h74)
 (Go.AM.get (asS (Heap.rd h74 ⟨h48.next, 0, none⟩)) fun y75 =>
 (Go.AM.get (asS (Heap.rd h74 ⟨h48.next, 1, none⟩)) fun y76 =>
 (Go.AM.get (asS (Heap.rd h74 ⟨h48.next, 2, none⟩)) fun y77 =>
 (Go.AM.get (asI .i64 (Heap.rd h74 ⟨h12.next, 0, none⟩)) fun y78 =>
 (branch ((IntKind.wrap .i64 ((IntKind.wrap .i64 (((y75.len : Nat) : Int) + ((y76.len : Nat) : Int))) + ((y77.len : Nat) : Int))) != y78)
 (K false h74)
 (l4_2041
 (fun z110 h111 =>
 (K z110 h111))
 (fun z112 z113 z114 h115 =>
 (l4_4089
 (fun z146 h147 =>
 (K z146 h147))
 (fun z148 z149 h150 =>
 (l4_16377
 (fun z174 z175 h176 =>
 (Go.AM.get z174 fun a182 =>
 (Go.AM.get (asI .i64 (Heap.rd h176 ⟨a182.block, a182.off, none⟩)) fun y183 =>
 (Go.AM.get (asS (Heap.rd h176 ⟨a182.block, (a182.off + 1), none⟩)) fun y184 =>
 (t18 (y183, y184, ()) z175 h176 fun r185 h186 =>
 (l4_65529
 (fun z256 h257 =>
 (K z256 h257))
 (fun h258 =>
 (t15 h258 fun r259 h260 =>
 (K r259 h260)))
 z174 r185 0 h186))))))
 z148 z149 (Sl.mk none 0 0) 0 h150))
 z112 z113 z114 0 h115))
 (some ⟨h12.next, 0, none⟩) r34 (some ⟨h48.next, 0, none⟩) 0 h74))))))))))))))))))))))))))))))))))))
theorem k4 (p0 : (Int × Sl × Unit)) (h : Heap) (K : Bool → Heap → Prop) : fnK C4 Try.f4.results.toList Try.f4.ntmps b4 [(.agg ⟨[(.int .i64 p0.1), (Sl.v p0.2.1)]⟩)] h (outC [bP] K) = z4 p0 h K := by kernel_rfl
theorem r4 (p0 : (Int × Sl × Unit)) (h : Heap) (K : Bool → Heap → Prop) (H : z4 p0 h K) : t4 p0 h K := fn_stepE (C := C4) (fn := Try.f4) (g := 4) o4 rfl rfl (by kernel_rfl) (by kernel_rfl) (by kernel_rfl) (k4 p0 h K) (by kernel_rfl) H

/-! 5: minikin/minikinlaw04.PairDilworth -/
noncomputable def b5 : Code := Try.f5.body.getD .skip
noncomputable def c5_8185 : Code := (subN b5 16371).getD .skip
theorem s5_8185 : subN b5 16371 = some c5_8185 := by kernel_rfl
theorem sl5_8185 : subN b5 8185 = some (.loop c5_8185) := by kernel_rfl
noncomputable def l5_8185 (X0 : Int → Sl → Sl → Sl → Int → Heap → Prop) : Int → Sl → Sl → Sl → Int → Int → Heap → Prop := lC Try.prog none c5_8185 171 [(5, iP .i64), (7, sP), (13, sP), (15, sP), (17, iP .i64), (18, iP .i64)] (outE noE noE [(0, (grabC 171 [(5, iP .i64), (7, sP), (13, sP), (15, sP), (17, iP .i64)] X0))])
noncomputable def c5_4192841 : Code := (subN b5 8385683).getD .skip
theorem s5_4192841 : subN b5 8385683 = some c5_4192841 := by kernel_rfl
theorem sl5_4192841 : subN b5 4192841 = some (.loop c5_4192841) := by kernel_rfl
noncomputable def l5_4192841 (X4 : Int → Sl → Sl → Sl → Int → Int → Sl → Heap → Prop) : Int → Sl → Sl → Sl → Int → Int → Sl → Int → Heap → Prop := lC Try.prog none c5_4192841 171 [(5, iP .i64), (7, sP), (13, sP), (15, sP), (17, iP .i64), (19, iP .i64), (20, sP), (21, iP .i64)] (outE noE noE [(4, (grabC 171 [(5, iP .i64), (7, sP), (13, sP), (15, sP), (17, iP .i64), (19, iP .i64), (20, sP)] X4))])
noncomputable def c5_16377 : Code := (subN b5 32755).getD .skip
theorem s5_16377 : subN b5 32755 = some c5_16377 := by kernel_rfl
theorem sl5_16377 : subN b5 16377 = some (.loop c5_16377) := by kernel_rfl
noncomputable def l5_16377 (XR : Bool → Heap → Prop) (X2 : Sl → Sl → Int → Heap → Prop) : Int → Sl → Sl → Sl → Int → Int → Heap → Prop := lC Try.prog none c5_16377 171 [(5, iP .i64), (7, sP), (13, sP), (15, sP), (17, iP .i64), (19, iP .i64)] (outE noE (grabC 171 [(4, bP)] XR) [(2, (grabC 171 [(7, sP), (15, sP), (17, iP .i64)] X2))])
noncomputable def c5_32761 : Code := (subN b5 65523).getD .skip
theorem s5_32761 : subN b5 65523 = some c5_32761 := by kernel_rfl
theorem sl5_32761 : subN b5 32761 = some (.loop c5_32761) := by kernel_rfl
noncomputable def l5_32761 (XR : Bool → Heap → Prop) (X6 : Sl → Int → Heap → Prop) : Sl → Sl → Int → Int → Heap → Prop := lC Try.prog none c5_32761 171 [(7, sP), (15, sP), (17, iP .i64), (22, iP .i64)] (outE noE (grabC 171 [(4, bP)] XR) [(6, (grabC 171 [(15, sP), (17, iP .i64)] X6))])
noncomputable def C5 : Ctx := baseC Try.prog [95, 75] none (cons1 15 w15 (cons1 27 w27 (cons1 26 w26 (cons1 25 w25 (cons1 24 w24 (cons1 23 w23 (cons1 22 w22 (cons1 21 w21 (cons1 20 w20 (allF Try.prog)))))))))) (allI Try.prog) (cons1 32761 (gC 171 [(7, sP), (15, sP), (17, iP .i64), (22, iP .i64)] none (some [(4, bP)]) [(6, [(15, sP), (17, iP .i64)])] (lC Try.prog none c5_32761 171 [(7, sP), (15, sP), (17, iP .i64), (22, iP .i64)])) (cons1 16377 (gC 171 [(5, iP .i64), (7, sP), (13, sP), (15, sP), (17, iP .i64), (19, iP .i64)] none (some [(4, bP)]) [(2, [(7, sP), (15, sP), (17, iP .i64)])] (lC Try.prog none c5_16377 171 [(5, iP .i64), (7, sP), (13, sP), (15, sP), (17, iP .i64), (19, iP .i64)])) (cons1 4192841 (gC 171 [(5, iP .i64), (7, sP), (13, sP), (15, sP), (17, iP .i64), (19, iP .i64), (20, sP), (21, iP .i64)] none none [(4, [(5, iP .i64), (7, sP), (13, sP), (15, sP), (17, iP .i64), (19, iP .i64), (20, sP)])] (lC Try.prog none c5_4192841 171 [(5, iP .i64), (7, sP), (13, sP), (15, sP), (17, iP .i64), (19, iP .i64), (20, sP), (21, iP .i64)])) (cons1 8185 (gC 171 [(5, iP .i64), (7, sP), (13, sP), (15, sP), (17, iP .i64), (18, iP .i64)] none none [(0, [(5, iP .i64), (7, sP), (13, sP), (15, sP), (17, iP .i64)])] (lC Try.prog none c5_8185 171 [(5, iP .i64), (7, sP), (13, sP), (15, sP), (17, iP .i64), (18, iP .i64)])) none1))))
theorem o5 : CtxOK (C5) b5 := (addL (addL (addL (addL (addF (addF (addF (addF (addF (addF (addF (addF (addF (base_ok eqOK mixOK none b5) (wC_ok Try.prog 20 [iP .i64, sP, iP .i64] [iP .i64, sP])) (wC_ok Try.prog 21 [iP .i64, sP] [sP, bP])) (wC_ok Try.prog 22 [iP .i64, sP] [sP, iP .i64])) (wC_ok Try.prog 23 [iP .i64, sP] [sP, iP .i64])) (wC_ok Try.prog 24 [iP .i64, sP] [sP, iP .i64])) (wC_ok Try.prog 25 [iP .i64, sP] [sP, iP .i64])) (wC_ok Try.prog 26 [sP, sP] [bP])) (wC_ok Try.prog 27 [sP, sP] [bP])) (wC_ok Try.prog 15 [] [bP])) sl5_8185) sl5_4192841) sl5_16377) sl5_32761)
def z5_8185 (X0 : Int → Sl → Sl → Sl → Int → Heap → Prop) (v45 : Int) (v46 : Sl) (v47 : Sl) (v48 : Sl) (v49 : Int) (v50 : Int) (h51 : Heap) : Prop :=
 (branch (decide (v50 < v45))
 (Go.AM.get v47.a fun a52 =>
 (chk (idx v50 v47.len) <|
 (Go.AM.get (asI .i64 (Heap.rd h51 ⟨a52.block, (a52.off + ((Int.toNat v50) * 1)), none⟩)) fun y53 =>
 (l5_8185 X0 v45 v46 v47 v48 (if (IntKind.wrap .i64 (y53 + 1)) > v49 then (IntKind.wrap .i64 (y53 + 1)) else v49) (IntKind.wrap .i64 (v50 + 1)) h51))))
 (X0 v45 v46 v47 v48 v49 h51))
theorem k5_8185 (X0 : Int → Sl → Sl → Sl → Int → Heap → Prop) (v45 : Int) (v46 : Sl) (v47 : Sl) (v48 : Sl) (v49 : Int) (v50 : Int) (h51 : Heap) : (exec (C5) c5_8185 false 16371 (Fr.put (Fr.put (Fr.put (Fr.put (Fr.put (Fr.put (Fr0 171) (some 5) (.int .i64 v45)) (some 7) (Sl.v v46)) (some 13) (Sl.v v47)) (some 15) (Sl.v v48)) (some 17) (.int .i64 v49)) (some 18) (.int .i64 v50)) h51 (loopE (grabC 171 [(5, iP .i64), (7, sP), (13, sP), (15, sP), (17, iP .i64), (18, iP .i64)] (lC (C5).P (C5).yld c5_8185 171 [(5, iP .i64), (7, sP), (13, sP), (15, sP), (17, iP .i64), (18, iP .i64)] (outE noE noE [(0, (grabC 171 [(5, iP .i64), (7, sP), (13, sP), (15, sP), (17, iP .i64)] X0))]))) (outE noE noE [(0, (grabC 171 [(5, iP .i64), (7, sP), (13, sP), (15, sP), (17, iP .i64)] X0))]))) = z5_8185 X0 v45 v46 v47 v48 v49 v50 h51 := by kernel_rfl
theorem r5_8185 (X0 : Int → Sl → Sl → Sl → Int → Heap → Prop) (v45 : Int) (v46 : Sl) (v47 : Sl) (v48 : Sl) (v49 : Int) (v50 : Int) (h51 : Heap) (H : z5_8185 X0 v45 v46 v47 v48 v49 v50 h51) : l5_8185 X0 v45 v46 v47 v48 v49 v50 h51 := loop_stepE (p := 8185) (N := 171) (keep := [(5, iP .i64), (7, sP), (13, sP), (15, sP), (17, iP .i64), (18, iP .i64)]) (o5) rfl s5_8185 (k5_8185 X0 v45 v46 v47 v48 v49 v50 h51) (by kernel_rfl) H
def z5_4192841 (X4 : Int → Sl → Sl → Sl → Int → Int → Sl → Heap → Prop) (v73 : Int) (v74 : Sl) (v75 : Sl) (v76 : Sl) (v77 : Int) (v78 : Int) (v79 : Sl) (v80 : Int) (h81 : Heap) : Prop :=
 (branch (decide (v80 < v73))
 (Go.AM.get v75.a fun a84 =>
 (chk (idx v80 v75.len) <|
 (Go.AM.get (asI .i64 (Heap.rd h81 ⟨a84.block, (a84.off + ((Int.toNat v80) * 1)), none⟩)) fun y85 =>
 (branch (y85 == v78)
 (withH (Heap.new h81 (.cells [(.int .i64 v80)] false)) fun h86 =>
 (Go.AM.get (Heap.rdN h86 ⟨h81.next, 0, none⟩ 1) fun y87 =>
 (Go.AM.get (Heap.app h86 1 8 v79 1 y87) fun r88 =>
 (l5_4192841 X4 v73 v74 v75 v76 v77 v78 r88.1 (IntKind.wrap .i64 (v80 + 1)) r88.2))))
 (l5_4192841 X4 v73 v74 v75 v76 v77 v78 v79 (IntKind.wrap .i64 (v80 + 1)) h81)))))
 (X4 v73 v74 v75 v76 v77 v78 v79 h81))
theorem k5_4192841 (X4 : Int → Sl → Sl → Sl → Int → Int → Sl → Heap → Prop) (v73 : Int) (v74 : Sl) (v75 : Sl) (v76 : Sl) (v77 : Int) (v78 : Int) (v79 : Sl) (v80 : Int) (h81 : Heap) : (exec (C5) c5_4192841 false 8385683 (Fr.put (Fr.put (Fr.put (Fr.put (Fr.put (Fr.put (Fr.put (Fr.put (Fr0 171) (some 5) (.int .i64 v73)) (some 7) (Sl.v v74)) (some 13) (Sl.v v75)) (some 15) (Sl.v v76)) (some 17) (.int .i64 v77)) (some 19) (.int .i64 v78)) (some 20) (Sl.v v79)) (some 21) (.int .i64 v80)) h81 (loopE (grabC 171 [(5, iP .i64), (7, sP), (13, sP), (15, sP), (17, iP .i64), (19, iP .i64), (20, sP), (21, iP .i64)] (lC (C5).P (C5).yld c5_4192841 171 [(5, iP .i64), (7, sP), (13, sP), (15, sP), (17, iP .i64), (19, iP .i64), (20, sP), (21, iP .i64)] (outE noE noE [(4, (grabC 171 [(5, iP .i64), (7, sP), (13, sP), (15, sP), (17, iP .i64), (19, iP .i64), (20, sP)] X4))]))) (outE noE noE [(4, (grabC 171 [(5, iP .i64), (7, sP), (13, sP), (15, sP), (17, iP .i64), (19, iP .i64), (20, sP)] X4))]))) = z5_4192841 X4 v73 v74 v75 v76 v77 v78 v79 v80 h81 := by kernel_rfl
theorem r5_4192841 (X4 : Int → Sl → Sl → Sl → Int → Int → Sl → Heap → Prop) (v73 : Int) (v74 : Sl) (v75 : Sl) (v76 : Sl) (v77 : Int) (v78 : Int) (v79 : Sl) (v80 : Int) (h81 : Heap) (H : z5_4192841 X4 v73 v74 v75 v76 v77 v78 v79 v80 h81) : l5_4192841 X4 v73 v74 v75 v76 v77 v78 v79 v80 h81 := loop_stepE (p := 4192841) (N := 171) (keep := [(5, iP .i64), (7, sP), (13, sP), (15, sP), (17, iP .i64), (19, iP .i64), (20, sP), (21, iP .i64)]) (o5) rfl s5_4192841 (k5_4192841 X4 v73 v74 v75 v76 v77 v78 v79 v80 h81) (by kernel_rfl) H
def z5_16377 (XR : Bool → Heap → Prop) (X2 : Sl → Sl → Int → Heap → Prop) (v66 : Int) (v67 : Sl) (v68 : Sl) (v69 : Sl) (v70 : Int) (v71 : Int) (h72 : Heap) : Prop :=
 (branch (decide (v71 < v70))
 (l5_4192841
 (fun z97 z98 z99 z100 z101 z102 z103 h104 =>
 (branch (((z103.len : Nat) : Int) == 0)
 (XR false h104)
 (t27 z98 z103 h104 fun r105 h106 =>
 (branch (!r105)
 (XR false h106)
 (l5_16377 XR X2 z97 z98 z99 z100 z101 (IntKind.wrap .i64 (z102 + 1)) h106)))))
 v66 v67 v68 v69 v70 v71 (Sl.mk none 0 0) 0 h72)
 (X2 v67 v69 v70 h72))
theorem k5_16377 (XR : Bool → Heap → Prop) (X2 : Sl → Sl → Int → Heap → Prop) (v66 : Int) (v67 : Sl) (v68 : Sl) (v69 : Sl) (v70 : Int) (v71 : Int) (h72 : Heap) : (exec (C5) c5_16377 false 32755 (Fr.put (Fr.put (Fr.put (Fr.put (Fr.put (Fr.put (Fr0 171) (some 5) (.int .i64 v66)) (some 7) (Sl.v v67)) (some 13) (Sl.v v68)) (some 15) (Sl.v v69)) (some 17) (.int .i64 v70)) (some 19) (.int .i64 v71)) h72 (loopE (grabC 171 [(5, iP .i64), (7, sP), (13, sP), (15, sP), (17, iP .i64), (19, iP .i64)] (lC (C5).P (C5).yld c5_16377 171 [(5, iP .i64), (7, sP), (13, sP), (15, sP), (17, iP .i64), (19, iP .i64)] (outE noE (grabC 171 [(4, bP)] XR) [(2, (grabC 171 [(7, sP), (15, sP), (17, iP .i64)] X2))]))) (outE noE (grabC 171 [(4, bP)] XR) [(2, (grabC 171 [(7, sP), (15, sP), (17, iP .i64)] X2))]))) = z5_16377 XR X2 v66 v67 v68 v69 v70 v71 h72 := by kernel_rfl
theorem r5_16377 (XR : Bool → Heap → Prop) (X2 : Sl → Sl → Int → Heap → Prop) (v66 : Int) (v67 : Sl) (v68 : Sl) (v69 : Sl) (v70 : Int) (v71 : Int) (h72 : Heap) (H : z5_16377 XR X2 v66 v67 v68 v69 v70 v71 h72) : l5_16377 XR X2 v66 v67 v68 v69 v70 v71 h72 := loop_stepE (p := 16377) (N := 171) (keep := [(5, iP .i64), (7, sP), (13, sP), (15, sP), (17, iP .i64), (19, iP .i64)]) (o5) rfl s5_16377 (k5_16377 XR X2 v66 v67 v68 v69 v70 v71 h72) (by kernel_rfl) H
def z5_32761 (XR : Bool → Heap → Prop) (X6 : Sl → Int → Heap → Prop) (v119 : Sl) (v120 : Sl) (v121 : Int) (v122 : Int) (h123 : Heap) : Prop :=
 (branch (decide (v122 < ((v120.len : Nat) : Int)))
 (Go.AM.get v120.a fun a124 =>
 (chk (idx (IntKind.wrap .i64 (v122 - 1)) v120.len) <|
 (Go.AM.get (asI .i64 (Heap.rd h123 ⟨a124.block, (a124.off + ((Int.toNat (IntKind.wrap .i64 (v122 - 1))) * 1)), none⟩)) fun y125 =>
 (Go.AM.get v119.a fun a126 =>
 (chk (idx y125 v119.len) <|
 (Go.AM.get (asS (Heap.rd h123 ⟨a126.block, (a126.off + ((Int.toNat y125) * 1)), none⟩)) fun y127 =>
 (Go.AM.get v120.a fun a128 =>
 (chk (idx v122 v120.len) <|
 (Go.AM.get (asI .i64 (Heap.rd h123 ⟨a128.block, (a128.off + ((Int.toNat v122) * 1)), none⟩)) fun y129 =>
 (Go.AM.get y127.a fun a130 =>
 (chk (idx y129 y127.len) <|
 (Go.AM.get (asB (Heap.rd h123 ⟨a130.block, (a130.off + ((Int.toNat y129) * 1)), none⟩)) fun y131 =>
 (branch (!y131)
 (XR false h123)
 (l5_32761 XR X6 v119 v120 v121 (IntKind.wrap .i64 (v122 + 1)) h123))))))))))))))
 (X6 v120 v121 h123))
theorem k5_32761 (XR : Bool → Heap → Prop) (X6 : Sl → Int → Heap → Prop) (v119 : Sl) (v120 : Sl) (v121 : Int) (v122 : Int) (h123 : Heap) : (exec (C5) c5_32761 false 65523 (Fr.put (Fr.put (Fr.put (Fr.put (Fr0 171) (some 7) (Sl.v v119)) (some 15) (Sl.v v120)) (some 17) (.int .i64 v121)) (some 22) (.int .i64 v122)) h123 (loopE (grabC 171 [(7, sP), (15, sP), (17, iP .i64), (22, iP .i64)] (lC (C5).P (C5).yld c5_32761 171 [(7, sP), (15, sP), (17, iP .i64), (22, iP .i64)] (outE noE (grabC 171 [(4, bP)] XR) [(6, (grabC 171 [(15, sP), (17, iP .i64)] X6))]))) (outE noE (grabC 171 [(4, bP)] XR) [(6, (grabC 171 [(15, sP), (17, iP .i64)] X6))]))) = z5_32761 XR X6 v119 v120 v121 v122 h123 := by kernel_rfl
theorem r5_32761 (XR : Bool → Heap → Prop) (X6 : Sl → Int → Heap → Prop) (v119 : Sl) (v120 : Sl) (v121 : Int) (v122 : Int) (h123 : Heap) (H : z5_32761 XR X6 v119 v120 v121 v122 h123) : l5_32761 XR X6 v119 v120 v121 v122 h123 := loop_stepE (p := 32761) (N := 171) (keep := [(7, sP), (15, sP), (17, iP .i64), (22, iP .i64)]) (o5) rfl s5_32761 (k5_32761 XR X6 v119 v120 v121 v122 h123) (by kernel_rfl) H
def z5 (p0 : Int) (p1 : Sl) (h : Heap) (K : Bool → Heap → Prop) : Prop :=
 (t20 p0 p1 24 h fun r4 r5 h6 =>
 (t21 r4 r5 h6 fun r10 r11 h12 =>
 (t22 r4 r5 h12 fun r16 r17 h18 =>
 (t23 r4 r5 h18 fun r22 r23 h24 =>
 (t24 r4 r5 h24 fun r28 r29 h30 =>
 (t25 r4 r5 h30 fun r34 r35 h36 =>
 (branch (!r11)
 (K false h36)
 (branch (r17 != 0)
 (K false h36)
 (branch (r23 != 0)
 (K false h36)
 (branch (r29 != 0)
 (K false h36)
 (branch (r35 != 0)
 (K false h36)
 (branch (((r16.len : Nat) : Int) != ((r22.len : Nat) : Int))
 (K false h36)
 (t26 r10 r16 h36 fun r41 h42 =>
 (branch (!r41)
 (K false h42)
 (t27 r10 r22 h42 fun r43 h44 =>
 (branch (!r43)
 (K false h44)
 (branch (((r28.len : Nat) : Int) != r4)
 (K false h44)
 (l5_8185
 (fun z60 z61 z62 z63 z64 h65 =>
 (l5_16377
 (fun z113 h114 =>
 (K z113 h114))
 (fun z115 z116 z117 h118 =>
 (l5_32761
 (fun z137 h138 =>
 (K z137 h138))
 (fun z139 z140 h141 =>
 (branch (((z139.len : Nat) : Int) == z140)
 (t15 h141 fun r142 h143 =>
 (K r142 h143))
 (K false h141)))
 z115 z116 z117 1 h118))
 z60 z61 z62 z63 z64 0 h65))
 r4 r10 r28 r34 0 0 h44))))))))))))))))))
theorem k5 (p0 : Int) (p1 : Sl) (h : Heap) (K : Bool → Heap → Prop) : fnK C5 Try.f5.results.toList Try.f5.ntmps b5 [(.int .i64 p0), (Sl.v p1)] h (outC [bP] K) = z5 p0 p1 h K := by kernel_rfl
theorem r5 (p0 : Int) (p1 : Sl) (h : Heap) (K : Bool → Heap → Prop) (H : z5 p0 p1 h K) : t5 p0 p1 h K := fn_stepE (C := C5) (fn := Try.f5) (g := 5) o5 rfl rfl (by kernel_rfl) (by kernel_rfl) (by kernel_rfl) (k5 p0 p1 h K) (by kernel_rfl) H

/-! 6: minikin/minikinlaw04.PairOrders -/
noncomputable def b6 : Code := Try.f6.body.getD .skip
noncomputable def c6_121 : Code := (subN b6 243).getD .skip
theorem s6_121 : subN b6 243 = some c6_121 := by kernel_rfl
theorem sl6_121 : subN b6 121 = some (.loop c6_121) := by kernel_rfl
noncomputable def l6_121 (XR : Bool → Heap → Prop) (X0 : Heap → Prop) : Int → Sl → Sl → Int → Heap → Prop := lC Try.prog none c6_121 154 [(0, iP .i64), (1, sP), (5, sP), (6, iP .i64)] (outE noE (grabC 154 [(4, bP)] XR) [(0, (grabC 154 [] X0))])
noncomputable def c6_14 : Code := (subN b6 14).getD .skip
theorem s6_14 : subN b6 14 = some c6_14 := by kernel_rfl
noncomputable def q6_14 (XR : Bool → Heap → Prop) : Int → Sl → Sl → Heap → Prop := qC Try.prog none c6_14 154 [(0, iP .i64), (1, sP), (5, sP)] (outE noE (grabC 154 [(4, bP)] XR) [])
noncomputable def C6 : Ctx := baseC Try.prog [95, 75] none (cons1 15 w15 (cons1 20 w20 (cons1 31 w31 (cons1 29 w29 (cons1 30 w30 (cons1 27 w27 (cons1 26 w26 (cons1 25 w25 (cons1 24 w24 (cons1 23 w23 (cons1 22 w22 (cons1 28 w28 (cons1 21 w21 (allF Try.prog)))))))))))))) (allI Try.prog) (cons1 14 (gC 154 [(0, iP .i64), (1, sP), (5, sP)] none (some [(4, bP)]) [] (qC Try.prog none c6_14 154 [(0, iP .i64), (1, sP), (5, sP)])) (cons1 121 (gC 154 [(0, iP .i64), (1, sP), (5, sP), (6, iP .i64)] none (some [(4, bP)]) [(0, [])] (lC Try.prog none c6_121 154 [(0, iP .i64), (1, sP), (5, sP), (6, iP .i64)])) none1))
theorem o6 : CtxOK (C6) b6 := (addQ (addL (addF (addF (addF (addF (addF (addF (addF (addF (addF (addF (addF (addF (addF (base_ok eqOK mixOK none b6) (wC_ok Try.prog 21 [iP .i64, sP] [sP, bP])) (wC_ok Try.prog 28 [iP .i64, sP] [iP .i64])) (wC_ok Try.prog 22 [iP .i64, sP] [sP, iP .i64])) (wC_ok Try.prog 23 [iP .i64, sP] [sP, iP .i64])) (wC_ok Try.prog 24 [iP .i64, sP] [sP, iP .i64])) (wC_ok Try.prog 25 [iP .i64, sP] [sP, iP .i64])) (wC_ok Try.prog 26 [sP, sP] [bP])) (wC_ok Try.prog 27 [sP, sP] [bP])) (wC_ok Try.prog 30 [sP] [sP])) (wC_ok Try.prog 29 [sP, sP] [bP])) (wC_ok Try.prog 31 [sP] [sP])) (wC_ok Try.prog 20 [iP .i64, sP, iP .i64] [iP .i64, sP])) (wC_ok Try.prog 15 [] [bP])) sl6_121) s6_14)
def z6_121 (XR : Bool → Heap → Prop) (X0 : Heap → Prop) (v8 : Int) (v9 : Sl) (v10 : Sl) (v11 : Int) (h12 : Heap) : Prop :=
 (branch (decide (v11 < 2))
 (t21 v8 v10 h12 fun r16 r17 h18 =>
 (t28 v8 v10 h18 fun r21 h22 =>
 (t22 v8 v10 h22 fun r26 r27 h28 =>
 (t23 v8 v10 h28 fun r32 r33 h34 =>
 (t24 v8 v10 h34 fun r38 r39 h40 =>
 (t25 v8 v10 h40 fun r44 r45 h46 =>
 (branch (!r17)
 (branch (r21 != 41)
 (XR false h46)
 (branch (r27 != 41)
 (XR false h46)
 (branch (r33 != 41)
 (XR false h46)
 (branch (r39 != 41)
 (XR false h46)
 (branch (r45 != 41)
 (XR false h46)
 (branch ((IntKind.wrap .i64 ((IntKind.wrap .i64 ((IntKind.wrap .i64 (((r26.len : Nat) : Int) + ((r32.len : Nat) : Int))) + ((r38.len : Nat) : Int))) + ((r44.len : Nat) : Int))) != 0)
 (XR false h46)
 (t20 v8 v9 12 h46 fun r59 r60 h61 =>
 (l6_121 XR X0 r59 v9 r60 (IntKind.wrap .i64 (v11 + 1)) h61))))))))
 (branch (r21 != 0)
 (XR false h46)
 (branch (r27 != 0)
 (XR false h46)
 (branch (r33 != 0)
 (XR false h46)
 (branch (r39 != 0)
 (XR false h46)
 (branch (r45 != 0)
 (XR false h46)
 (t26 r16 r26 h46 fun r62 h63 =>
 (branch (!r62)
 (XR false h63)
 (t27 r16 r32 h63 fun r64 h65 =>
 (branch (!r64)
 (XR false h65)
 (branch (((r26.len : Nat) : Int) != ((r32.len : Nat) : Int))
 (XR false h65)
 (t30 r16 h65 fun r66 h67 =>
 (t29 r38 r66 h67 fun r68 h69 =>
 (branch (!r68)
 (XR false h69)
 (t31 r16 h69 fun r70 h71 =>
 (t29 r44 r70 h71 fun r72 h73 =>
 (branch (!r72)
 (XR false h73)
 (t20 v8 v9 12 h73 fun r74 r75 h76 =>
 (l6_121 XR X0 r74 v9 r75 (IntKind.wrap .i64 (v11 + 1)) h76)))))))))))))))))))))))))
 (X0 h12))
theorem k6_121 (XR : Bool → Heap → Prop) (X0 : Heap → Prop) (v8 : Int) (v9 : Sl) (v10 : Sl) (v11 : Int) (h12 : Heap) : (exec (C6) c6_121 false 243 (Fr.put (Fr.put (Fr.put (Fr.put (Fr0 154) (some 0) (.int .i64 v8)) (some 1) (Sl.v v9)) (some 5) (Sl.v v10)) (some 6) (.int .i64 v11)) h12 (loopE (grabC 154 [(0, iP .i64), (1, sP), (5, sP), (6, iP .i64)] (lC (C6).P (C6).yld c6_121 154 [(0, iP .i64), (1, sP), (5, sP), (6, iP .i64)] (outE noE (grabC 154 [(4, bP)] XR) [(0, (grabC 154 [] X0))]))) (outE noE (grabC 154 [(4, bP)] XR) [(0, (grabC 154 [] X0))]))) = z6_121 XR X0 v8 v9 v10 v11 h12 := by kernel_rfl
theorem r6_121 (XR : Bool → Heap → Prop) (X0 : Heap → Prop) (v8 : Int) (v9 : Sl) (v10 : Sl) (v11 : Int) (h12 : Heap) (H : z6_121 XR X0 v8 v9 v10 v11 h12) : l6_121 XR X0 v8 v9 v10 v11 h12 := loop_stepE (p := 121) (N := 154) (keep := [(0, iP .i64), (1, sP), (5, sP), (6, iP .i64)]) (o6) rfl s6_121 (k6_121 XR X0 v8 v9 v10 v11 h12) (by kernel_rfl) H
def z6_14 (XR : Bool → Heap → Prop) (v4 : Int) (v5 : Sl) (v6 : Sl) (h7 : Heap) : Prop :=
 (l6_121
 (fun z77 h78 =>
 (XR z77 h78))
 (fun h79 =>
 (t15 h79 fun r80 h81 =>
 (XR r80 h81)))
 v4 v5 v6 0 h7)
theorem k6_14 (XR : Bool → Heap → Prop) (v4 : Int) (v5 : Sl) (v6 : Sl) (h7 : Heap) : (exec (C6) c6_14 true 14 (Fr.put (Fr.put (Fr.put (Fr0 154) (some 0) (.int .i64 v4)) (some 1) (Sl.v v5)) (some 5) (Sl.v v6)) h7 (outE noE (grabC 154 [(4, bP)] XR) [])) = z6_14 XR v4 v5 v6 h7 := by kernel_rfl
theorem r6_14 (XR : Bool → Heap → Prop) (v4 : Int) (v5 : Sl) (v6 : Sl) (h7 : Heap) (H : z6_14 XR v4 v5 v6 h7) : q6_14 XR v4 v5 v6 h7 := piece_stepE (p := 14) (o6) rfl s6_14 (k6_14 XR v4 v5 v6 h7) (by kernel_rfl) H
def z6 (p0 : Int) (p1 : Sl) (h : Heap) (K : Bool → Heap → Prop) : Prop :=
 (chk (within 0 (if 402 < ((p1.len : Nat) : Int) then 402 else ((p1.len : Nat) : Int)) ((p1.cap : Nat) : Int)) <|
 (optK (Sl.cut p1 2 0 (Int.toNat (if 402 < ((p1.len : Nat) : Int) then 402 else ((p1.len : Nat) : Int)))).a
 (q6_14
 (fun z83 h84 =>
 (K z83 h84))
 p0 p1 (Sl.mk none 0 0) h)
 fun a82 =>
 (Go.AM.get (Heap.rdN h ⟨a82.block, a82.off, none⟩ (((Sl.cut p1 2 0 (Int.toNat (if 402 < ((p1.len : Nat) : Int) then 402 else ((p1.len : Nat) : Int)))).len) * 2)) fun y85 =>
 (Go.AM.get (Heap.app h 2 16 (Sl.mk none 0 0) ((Sl.cut p1 2 0 (Int.toNat (if 402 < ((p1.len : Nat) : Int) then 402 else ((p1.len : Nat) : Int)))).len) y85) fun r86 =>
 (q6_14
 (fun z87 h88 =>
 (K z87 h88))
 p0 p1 r86.1 r86.2)))))
theorem k6 (p0 : Int) (p1 : Sl) (h : Heap) (K : Bool → Heap → Prop) : fnK C6 Try.f6.results.toList Try.f6.ntmps b6 [(.int .i64 p0), (Sl.v p1)] h (outC [bP] K) = z6 p0 p1 h K := by kernel_rfl
theorem r6 (p0 : Int) (p1 : Sl) (h : Heap) (K : Bool → Heap → Prop) (H : z6 p0 p1 h K) : t6 p0 p1 h K := fn_stepE (C := C6) (fn := Try.f6) (g := 6) o6 rfl rfl (by kernel_rfl) (by kernel_rfl) (by kernel_rfl) (k6 p0 p1 h K) (by kernel_rfl) H

/-! 7: minikin/minikinlaw04.PairChecks -/
noncomputable def b7 : Code := Try.f7.body.getD .skip
noncomputable def c7_14 : Code := (subN b7 14).getD .skip
theorem s7_14 : subN b7 14 = some c7_14 := by kernel_rfl
noncomputable def q7_14 (XR : Bool → Heap → Prop) : Option Addr → Heap → Prop := qC Try.prog none c7_14 135 [(4, pP)] (outE noE (grabC 135 [(2, bP)] XR) [])
noncomputable def C7 : Ctx := baseC Try.prog [95, 75] none (cons1 14 w14 (cons1 13 w13 (cons1 35 w35 (cons1 16 w16 (cons1 34 w34 (cons1 12 w12 (cons1 15 w15 (cons1 33 w33 (cons1 32 w32 (cons1 11 w11 (allF Try.prog))))))))))) (allI Try.prog) (cons1 14 (gC 135 [(4, pP)] none (some [(2, bP)]) [] (qC Try.prog none c7_14 135 [(4, pP)])) none1)
theorem o7 : CtxOK (C7) b7 := (addQ (addF (addF (addF (addF (addF (addF (addF (addF (addF (addF (base_ok eqOK mixOK none b7) (wC_ok Try.prog 11 [aggP [iP .i64, sP]] [aggP [iP .i64, sP]])) (wC_ok Try.prog 32 [aggP [iP .i64, sP]] [iP .i64])) (wC_ok Try.prog 33 [aggP [iP .i64, sP]] [iP .i64])) (wC_ok Try.prog 15 [] [bP])) (wC_ok Try.prog 12 [aggP [iP .i64, sP]] [sP, iP .i64])) (wC_ok Try.prog 34 [aggP [iP .i64, sP]] [sP, iP .i64])) (wC_ok Try.prog 16 [aggP [iP .i64, sP]] [aggP [sP, sP, sP], iP .i64])) (wC_ok Try.prog 35 [aggP [iP .i64, sP]] [sP, bP, iP .i64])) (wC_ok Try.prog 13 [aggP [iP .i64, sP], sP] [iP .i64, bP])) (wC_ok Try.prog 14 [aggP [iP .i64, sP], sP, iP .i64] [bP])) s7_14)
def z7_14 (XR : Bool → Heap → Prop) (v14 : Option Addr) (h15 : Heap) : Prop :=
 (Go.AM.get v14 fun a23 =>
 (Go.AM.get (asI .i64 (Heap.rd h15 ⟨a23.block, a23.off, none⟩)) fun y24 =>
 (Go.AM.get (asS (Heap.rd h15 ⟨a23.block, (a23.off + 1), none⟩)) fun y25 =>
 (t11 (y24, y25, ()) h15 fun r26 h27 =>
 (withH (Heap.new h27 (.cells [(.int .i64 0), (.slice none 0 0)] false)) fun h28 =>
 (Go.AM.get (Heap.wr h28 ⟨h27.next, 0, none⟩ [(.int .i64 r26.1), (Sl.v r26.2.1)]) fun h29 =>
 (Go.AM.get v14 fun a35 =>
 (Go.AM.get (asI .i64 (Heap.rd h29 ⟨a35.block, a35.off, none⟩)) fun y36 =>
 (Go.AM.get (asS (Heap.rd h29 ⟨a35.block, (a35.off + 1), none⟩)) fun y37 =>
 (t32 (y36, y37, ()) h29 fun r38 h39 =>
 (Go.AM.get (asI .i64 (Heap.rd h39 ⟨h27.next, 0, none⟩)) fun y44 =>
 (Go.AM.get (asS (Heap.rd h39 ⟨h27.next, 1, none⟩)) fun y45 =>
 (t33 (y44, y45, ()) h39 fun r46 h47 =>
 (branch (r46 != r38)
 (XR false h47)
 (branch (r38 == 0)
 (t15 h47 fun r50 h51 =>
 (XR r50 h51))
 (Go.AM.get (asI .i64 (Heap.rd h47 ⟨h27.next, 0, none⟩)) fun y57 =>
 (Go.AM.get (asS (Heap.rd h47 ⟨h27.next, 1, none⟩)) fun y58 =>
 (t12 (y57, y58, ()) h47 fun r59 r60 h61 =>
 (Go.AM.get (asI .i64 (Heap.rd h61 ⟨h27.next, 0, none⟩)) fun y67 =>
 (Go.AM.get (asS (Heap.rd h61 ⟨h27.next, 1, none⟩)) fun y68 =>
 (t34 (y67, y68, ()) h61 fun r69 r70 h71 =>
 (Go.AM.get (asI .i64 (Heap.rd h71 ⟨h27.next, 0, none⟩)) fun y79 =>
 (Go.AM.get (asS (Heap.rd h71 ⟨h27.next, 1, none⟩)) fun y80 =>
 (t16 (y79, y80, ()) h71 fun r81 r82 h83 =>
 (withH (Heap.new h83 (.cells [(.slice none 0 0), (.slice none 0 0), (.slice none 0 0)] false)) fun h84 =>
 (Go.AM.get (Heap.wr h84 ⟨h83.next, 0, none⟩ [(Sl.v r81.1), (Sl.v r81.2.1), (Sl.v r81.2.2.1)]) fun h85 =>
 (Go.AM.get (asI .i64 (Heap.rd h85 ⟨h27.next, 0, none⟩)) fun y92 =>
 (Go.AM.get (asS (Heap.rd h85 ⟨h27.next, 1, none⟩)) fun y93 =>
 (t35 (y92, y93, ()) h85 fun r94 r95 r96 h97 =>
 (Go.AM.get (asI .i64 (Heap.rd h97 ⟨h27.next, 0, none⟩)) fun y104 =>
 (Go.AM.get (asS (Heap.rd h97 ⟨h27.next, 1, none⟩)) fun y105 =>
 (withH (Heap.new h97 (.cells (rep [(.int .i64 0)] 5) false)) fun h106 =>
 (t13 (y104, y105, ()) (Sl.mk (some ⟨h97.next, 0, (some 0)⟩) 5 5) h106 fun r107 r108 h109 =>
 (branch (r60 == r38)
 (branch (r70 == r38)
 (branch (r82 == r38)
 (branch (r96 == r38)
 (branch (((r59.len : Nat) : Int) == 0)
 (branch (((r69.len : Nat) : Int) == 0)
 (Go.AM.get (asS (Heap.rd h109 ⟨h83.next, 0, none⟩)) fun y110 =>
 (Go.AM.get (asS (Heap.rd h109 ⟨h83.next, 1, none⟩)) fun y111 =>
 (Go.AM.get (asS (Heap.rd h109 ⟨h83.next, 2, none⟩)) fun y112 =>
 (branch ((IntKind.wrap .i64 ((IntKind.wrap .i64 (((y110.len : Nat) : Int) + ((y111.len : Nat) : Int))) + ((y112.len : Nat) : Int))) == 0)
 (branch (((r94.len : Nat) : Int) == 0)
 (branch (!r95)
 (branch (r107 == 0)
 (branch (!r108)
 (Go.AM.get (asI .i64 (Heap.rd h109 ⟨h27.next, 0, none⟩)) fun y113 =>
 (Go.AM.get (asS (Heap.rd h109 ⟨h27.next, 1, none⟩)) fun y114 =>
 (t14 (y113, y114, ()) (Sl.mk none 0 0) 0 h109 fun r115 h116 =>
 (branch (!r115)
 (t15 h116 fun r117 h118 =>
 (XR r117 h118))
 (XR false h116)))))
 (XR false h109))
 (XR false h109))
 (XR false h109))
 (XR false h109))
 (XR false h109)))))
 (XR false h109))
 (XR false h109))
 (XR false h109))
 (XR false h109))
 (XR false h109))
 (XR false h109)))))))))))))))))))))))))))))))))))
theorem k7_14 (XR : Bool → Heap → Prop) (v14 : Option Addr) (h15 : Heap) : (exec (C7) c7_14 true 14 (Fr.put (Fr0 135) (some 4) (.pointer v14)) h15 (outE noE (grabC 135 [(2, bP)] XR) [])) = z7_14 XR v14 h15 := by kernel_rfl
theorem r7_14 (XR : Bool → Heap → Prop) (v14 : Option Addr) (h15 : Heap) (H : z7_14 XR v14 h15) : q7_14 XR v14 h15 := piece_stepE (p := 14) (o7) rfl s7_14 (k7_14 XR v14 h15) (by kernel_rfl) H
def z7 (p0 : (Int × Sl × Unit)) (h : Heap) (K : Bool → Heap → Prop) : Prop :=
 (withH (Heap.new h (.cells [(.int .i64 p0.1), (Sl.v p0.2.1)] false)) fun h2 =>
 (Go.AM.get (asI .i64 (Heap.rd h2 ⟨h.next, 0, none⟩)) fun y119 =>
 (Go.AM.get (asS (Heap.rd h2 ⟨h.next, 1, none⟩)) fun y120 =>
 (Go.AM.get (asS (Heap.rd h2 ⟨h.next, 1, none⟩)) fun y121 =>
 (chk (within 0 (if 301 < ((y121.len : Nat) : Int) then 301 else ((y121.len : Nat) : Int)) ((y120.cap : Nat) : Int)) <|
 (withH (Heap.new h2 (.cells [(.int .i64 0), (.slice none 0 0)] false)) fun h122 =>
 (optK (Sl.cut y120 2 0 (Int.toNat (if 301 < ((y121.len : Nat) : Int) then 301 else ((y121.len : Nat) : Int)))).a
 (Heap.get h122 h2.next = Heap.get h122 h2.next ∧ ((Go.AM.get (asI .i64 (Heap.rd h122 ⟨h.next, 0, none⟩)) fun y124 =>
 (((.int .i64 y124) : Value) = (.int .i64 y119))) ∧ (Go.AM.get (Heap.wr h122 ⟨h2.next, 0, none⟩ [(.int .i64 y119), (.slice none 0 0)]) fun h125 =>
 (q7_14
 (fun z126 h127 =>
 (K z126 h127))
 (some ⟨h2.next, 0, none⟩) h125))))
 fun a123 =>
 (Go.AM.get (Heap.rdN h122 ⟨a123.block, a123.off, none⟩ (((Sl.cut y120 2 0 (Int.toNat (if 301 < ((y121.len : Nat) : Int) then 301 else ((y121.len : Nat) : Int)))).len) * 2)) fun y128 =>
 (Go.AM.get (Heap.app h122 2 16 (Sl.mk none 0 0) ((Sl.cut y120 2 0 (Int.toNat (if 301 < ((y121.len : Nat) : Int) then 301 else ((y121.len : Nat) : Int)))).len) y128) fun r129 =>
 (Heap.get r129.2 h2.next = Heap.get h122 h2.next ∧ ((Go.AM.get (asI .i64 (Heap.rd r129.2 ⟨h.next, 0, none⟩)) fun y130 =>
 (((.int .i64 y130) : Value) = (.int .i64 y119))) ∧ (Go.AM.get (Heap.wr r129.2 ⟨h2.next, 0, none⟩ [(.int .i64 y119), (Sl.v r129.1)]) fun h131 =>
 (q7_14
 (fun z132 h133 =>
 (K z132 h133))
 (some ⟨h2.next, 0, none⟩) h131)))))))))))))
theorem k7 (p0 : (Int × Sl × Unit)) (h : Heap) (K : Bool → Heap → Prop) : fnK C7 Try.f7.results.toList Try.f7.ntmps b7 [(.agg ⟨[(.int .i64 p0.1), (Sl.v p0.2.1)]⟩)] h (outC [bP] K) = z7 p0 h K := by kernel_rfl
theorem r7 (p0 : (Int × Sl × Unit)) (h : Heap) (K : Bool → Heap → Prop) (H : z7 p0 h K) : t7 p0 h K := fn_stepE (C := C7) (fn := Try.f7) (g := 7) o7 rfl rfl (by kernel_rfl) (by kernel_rfl) (by kernel_rfl) (k7 p0 h K) (by kernel_rfl) H

/-! 8: minikin/minikinlaw04.PairMatches -/
noncomputable def b8 : Code := Try.f8.body.getD .skip
noncomputable def C8 : Ctx := baseC Try.prog [95, 75] none (cons1 42 w42 (cons1 15 w15 (cons1 41 w41 (cons1 35 w35 (cons1 29 w29 (cons1 40 w40 (cons1 14 w14 (cons1 39 w39 (cons1 13 w13 (cons1 38 w38 (cons1 36 w36 (cons1 37 w37 (cons1 16 w16 (cons1 34 w34 (cons1 12 w12 (cons1 11 w11 (cons1 10 w10 (allF Try.prog)))))))))))))))))) (allI Try.prog) none1
theorem o8 : CtxOK (C8) b8 := (addF (addF (addF (addF (addF (addF (addF (addF (addF (addF (addF (addF (addF (addF (addF (addF (addF (base_ok eqOK mixOK none b8) (wC_ok Try.prog 10 [aggP [iP .i64, sP], iP .i64, iP .i64] [aggP [iP .i64, sP]])) (wC_ok Try.prog 11 [aggP [iP .i64, sP]] [aggP [iP .i64, sP]])) (wC_ok Try.prog 12 [aggP [iP .i64, sP]] [sP, iP .i64])) (wC_ok Try.prog 34 [aggP [iP .i64, sP]] [sP, iP .i64])) (wC_ok Try.prog 16 [aggP [iP .i64, sP]] [aggP [sP, sP, sP], iP .i64])) (wC_ok Try.prog 37 [aggP [iP .i64, sP]] [sP])) (wC_ok Try.prog 36 [aggP [iP .i64, sP], sP] [iP .i64])) (wC_ok Try.prog 38 [aggP [iP .i64, sP], sP] [iP .i64, bP])) (wC_ok Try.prog 13 [aggP [iP .i64, sP], sP] [iP .i64, bP])) (wC_ok Try.prog 39 [aggP [iP .i64, sP], sP, iP .i64] [bP])) (wC_ok Try.prog 14 [aggP [iP .i64, sP], sP, iP .i64] [bP])) (wC_ok Try.prog 40 [aggP [iP .i64, sP]] [aggP [sP, sP, sP]])) (wC_ok Try.prog 29 [sP, sP] [bP])) (wC_ok Try.prog 35 [aggP [iP .i64, sP]] [sP, bP, iP .i64])) (wC_ok Try.prog 41 [aggP [iP .i64, sP]] [bP])) (wC_ok Try.prog 15 [] [bP])) (wC_ok Try.prog 42 [aggP [iP .i64, sP], sP] [bP]))
def z8 (p0 : (Int × Sl × Unit)) (h : Heap) (K : Bool → Heap → Prop) : Prop :=
 (withH (Heap.new h (.cells [(.int .i64 p0.1), (Sl.v p0.2.1)] false)) fun h2 =>
 (Go.AM.get (asI .i64 (Heap.rd h2 ⟨h.next, 0, none⟩)) fun y9 =>
 (Go.AM.get (asS (Heap.rd h2 ⟨h.next, 1, none⟩)) fun y10 =>
 (t10 (y9, y10, ()) 9 18 h2 fun r11 h12 =>
 (withH (Heap.new h12 (.cells [(.int .i64 0), (.slice none 0 0)] false)) fun h13 =>
 (Go.AM.get (Heap.wr h13 ⟨h12.next, 0, none⟩ [(.int .i64 r11.1), (Sl.v r11.2.1)]) fun h14 =>
 (Go.AM.get (asI .i64 (Heap.rd h14 ⟨h12.next, 0, none⟩)) fun y21 =>
 (Go.AM.get (asS (Heap.rd h14 ⟨h12.next, 1, none⟩)) fun y22 =>
 (t11 (y21, y22, ()) h14 fun r23 h24 =>
 (withH (Heap.new h24 (.cells [(.int .i64 0), (.slice none 0 0)] false)) fun h25 =>
 (Go.AM.get (Heap.wr h25 ⟨h24.next, 0, none⟩ [(.int .i64 r23.1), (Sl.v r23.2.1)]) fun h26 =>
 (Go.AM.get (asI .i64 (Heap.rd h26 ⟨h24.next, 0, none⟩)) fun y32 =>
 (Go.AM.get (asS (Heap.rd h26 ⟨h24.next, 1, none⟩)) fun y33 =>
 (t12 (y32, y33, ()) h26 fun r34 r35 h36 =>
 (Go.AM.get (asI .i64 (Heap.rd h36 ⟨h24.next, 0, none⟩)) fun y42 =>
 (Go.AM.get (asS (Heap.rd h36 ⟨h24.next, 1, none⟩)) fun y43 =>
 (t34 (y42, y43, ()) h36 fun r44 r45 h46 =>
 (Go.AM.get (asI .i64 (Heap.rd h46 ⟨h24.next, 0, none⟩)) fun y54 =>
 (Go.AM.get (asS (Heap.rd h46 ⟨h24.next, 1, none⟩)) fun y55 =>
 (t16 (y54, y55, ()) h46 fun r56 r57 h58 =>
 (withH (Heap.new h58 (.cells [(.slice none 0 0), (.slice none 0 0), (.slice none 0 0)] false)) fun h59 =>
 (Go.AM.get (Heap.wr h59 ⟨h58.next, 0, none⟩ [(Sl.v r56.1), (Sl.v r56.2.1), (Sl.v r56.2.2.1)]) fun h60 =>
 (Go.AM.get (asI .i64 (Heap.rd h60 ⟨h12.next, 0, none⟩)) fun y71 =>
 (Go.AM.get (asS (Heap.rd h60 ⟨h12.next, 1, none⟩)) fun y72 =>
 (Go.AM.get (asI .i64 (Heap.rd h60 ⟨h12.next, 0, none⟩)) fun y73 =>
 (Go.AM.get (asS (Heap.rd h60 ⟨h12.next, 1, none⟩)) fun y74 =>
 (t37 (y73, y74, ()) h60 fun r75 h76 =>
 ((Go.AM.get (asI .i64 (Heap.rd h76 ⟨h12.next, 0, none⟩)) fun y77 =>
 (Go.AM.get (asS (Heap.rd h76 ⟨h12.next, 1, none⟩)) fun y78 =>
 (((.agg ⟨[(.int .i64 y77), (Sl.v y78)]⟩) : Value) = (.agg ⟨[(.int .i64 y71), (Sl.v y72)]⟩)))) ∧ (t36 (y71, y72, ()) r75 h76 fun r79 h80 =>
 (Go.AM.get (asI .i64 (Heap.rd h80 ⟨h12.next, 0, none⟩)) fun y86 =>
 (Go.AM.get (asS (Heap.rd h80 ⟨h12.next, 1, none⟩)) fun y87 =>
 (t38 (y86, y87, ()) r34 h80 fun r88 r89 h90 =>
 (Go.AM.get (asI .i64 (Heap.rd h90 ⟨h24.next, 0, none⟩)) fun y96 =>
 (Go.AM.get (asS (Heap.rd h90 ⟨h24.next, 1, none⟩)) fun y97 =>
 (t13 (y96, y97, ()) r34 h90 fun r98 r99 h100 =>
 (branch (r35 != 0)
 (K false h100)
 (branch (r45 != 0)
 (K false h100)
 (branch (r57 != 0)
 (K false h100)
 (branch (!r89)
 (K false h100)
 (branch (r88 != r79)
 (K false h100)
 (branch (!r99)
 (K false h100)
 (branch (r98 != r88)
 (K false h100)
 (Go.AM.get (asI .i64 (Heap.rd h100 ⟨h12.next, 0, none⟩)) fun y109 =>
 (Go.AM.get (asS (Heap.rd h100 ⟨h12.next, 1, none⟩)) fun y110 =>
 (t39 (y109, y110, ()) r44 r79 h100 fun r111 h112 =>
 (branch (!r111)
 (K false h112)
 (Go.AM.get (asI .i64 (Heap.rd h112 ⟨h24.next, 0, none⟩)) fun y113 =>
 (Go.AM.get (asS (Heap.rd h112 ⟨h24.next, 1, none⟩)) fun y114 =>
 (t14 (y113, y114, ()) r44 r79 h112 fun r115 h116 =>
 (branch (!r115)
 (K false h116)
 (Go.AM.get (asI .i64 (Heap.rd h116 ⟨h12.next, 0, none⟩)) fun y123 =>
 (Go.AM.get (asS (Heap.rd h116 ⟨h12.next, 1, none⟩)) fun y124 =>
 (t40 (y123, y124, ()) h116 fun r125 h126 =>
 (withH (Heap.new h126 (.cells [(.slice none 0 0), (.slice none 0 0), (.slice none 0 0)] false)) fun h127 =>
 (Go.AM.get (Heap.wr h127 ⟨h126.next, 0, none⟩ [(Sl.v r125.1), (Sl.v r125.2.1), (Sl.v r125.2.2.1)]) fun h128 =>
 (Go.AM.get (asS (Heap.rd h128 ⟨h58.next, 0, none⟩)) fun y141 =>
 (Go.AM.get (asS (Heap.rd h128 ⟨h126.next, 0, none⟩)) fun y142 =>
 (t29 y141 y142 h128 fun r143 h144 =>
 (branch (!r143)
 (K false h144)
 (Go.AM.get (asS (Heap.rd h144 ⟨h58.next, 1, none⟩)) fun y145 =>
 (Go.AM.get (asS (Heap.rd h144 ⟨h126.next, 1, none⟩)) fun y146 =>
 (t29 y145 y146 h144 fun r147 h148 =>
 (branch (!r147)
 (K false h148)
 (Go.AM.get (asS (Heap.rd h148 ⟨h58.next, 2, none⟩)) fun y149 =>
 (Go.AM.get (asS (Heap.rd h148 ⟨h126.next, 2, none⟩)) fun y150 =>
 (t29 y149 y150 h148 fun r151 h152 =>
 (branch (!r151)
 (K false h152)
 (Go.AM.get (asI .i64 (Heap.rd h152 ⟨h24.next, 0, none⟩)) fun y159 =>
 (Go.AM.get (asS (Heap.rd h152 ⟨h24.next, 1, none⟩)) fun y160 =>
 (t35 (y159, y160, ()) h152 fun r161 r162 r163 h164 =>
 (branch (r163 != 0)
 (K false h164)
 (Go.AM.get (asI .i64 (Heap.rd h164 ⟨h12.next, 0, none⟩)) fun y169 =>
 (Go.AM.get (asS (Heap.rd h164 ⟨h12.next, 1, none⟩)) fun y170 =>
 (t41 (y169, y170, ()) h164 fun r171 h172 =>
 (branch (!(r162 == r171))
 (K false h172)
 (branch (!r162)
 (branch (((r161.len : Nat) : Int) == 0)
 (t15 h172 fun r173 h174 =>
 (K r173 h174))
 (branch r162
 (branch (((r161.len : Nat) : Int) == r79)
 (Go.AM.get (asI .i64 (Heap.rd h172 ⟨h12.next, 0, none⟩)) fun y175 =>
 (Go.AM.get (asS (Heap.rd h172 ⟨h12.next, 1, none⟩)) fun y176 =>
 (t42 (y175, y176, ()) r161 h172 fun r177 h178 =>
 (branch r177
 (t15 h178 fun r179 h180 =>
 (K r179 h180))
 (K false h178)))))
 (K false h172))
 (K false h172)))
 (branch r162
 (branch (((r161.len : Nat) : Int) == r79)
 (Go.AM.get (asI .i64 (Heap.rd h172 ⟨h12.next, 0, none⟩)) fun y181 =>
 (Go.AM.get (asS (Heap.rd h172 ⟨h12.next, 1, none⟩)) fun y182 =>
 (t42 (y181, y182, ()) r161 h172 fun r183 h184 =>
 (branch r183
 (t15 h184 fun r185 h186 =>
 (K r185 h186))
 (K false h184)))))
 (K false h172))
 (K false h172))))))))))))))))))))))))))))))))))))))))))))))))))))))))))))))))))))))))))))))
theorem k8 (p0 : (Int × Sl × Unit)) (h : Heap) (K : Bool → Heap → Prop) : fnK C8 Try.f8.results.toList Try.f8.ntmps b8 [(.agg ⟨[(.int .i64 p0.1), (Sl.v p0.2.1)]⟩)] h (outC [bP] K) = z8 p0 h K := by kernel_rfl
theorem r8 (p0 : (Int × Sl × Unit)) (h : Heap) (K : Bool → Heap → Prop) (H : z8 p0 h K) : t8 p0 h K := fn_stepE (C := C8) (fn := Try.f8) (g := 8) o8 rfl rfl (by kernel_rfl) (by kernel_rfl) (by kernel_rfl) (k8 p0 h K) (by kernel_rfl) H

/-! 9: minikin/minikintop.TopAssigns -/
noncomputable def b9 : Code := Try.f9.body.getD .skip
noncomputable def c9_4100754 : Code := (subN b9 4100754).getD .skip
theorem s9_4100754 : subN b9 4100754 = some c9_4100754 := by kernel_rfl
noncomputable def q9_4100754 (XN : Sl → Int → Sl → Option Addr → Int → Sl → Int → Heap → Prop) : Sl → Int → Sl → Option Addr → Int → Sl → Int → Bool → Heap → Prop := qC Try.prog none c9_4100754 125 [(1, sP), (5, iP .i64), (6, sP), (7, pP), (8, iP .i64), (9, sP), (10, iP .i64), (55, bP)] (outE (grabC 125 [(1, sP), (5, iP .i64), (6, sP), (7, pP), (8, iP .i64), (9, sP), (10, iP .i64)] XN) noE [])
noncomputable def c9_64073 : Code := (subN b9 128147).getD .skip
theorem s9_64073 : subN b9 128147 = some c9_64073 := by kernel_rfl
theorem sl9_64073 : subN b9 64073 = some (.loop c9_64073) := by kernel_rfl
noncomputable def l9_64073 (X2 : Sl → Int → Sl → Option Addr → Int → Sl → Heap → Prop) : Sl → Int → Sl → Option Addr → Int → Sl → Int → Heap → Prop := lC Try.prog none c9_64073 125 [(1, sP), (5, iP .i64), (6, sP), (7, pP), (8, iP .i64), (9, sP), (10, iP .i64)] (outE noE noE [(2, (grabC 125 [(1, sP), (5, iP .i64), (6, sP), (7, pP), (8, iP .i64), (9, sP)] X2))])
noncomputable def c9_249 : Code := (subN b9 499).getD .skip
theorem s9_249 : subN b9 499 = some c9_249 := by kernel_rfl
theorem sl9_249 : subN b9 249 = some (.loop c9_249) := by kernel_rfl
noncomputable def l9_249 (X0 : Sl → Option Addr → Heap → Prop) : Sl → Int → Sl → Option Addr → Int → Heap → Prop := lC Try.prog none c9_249 125 [(1, sP), (5, iP .i64), (6, sP), (7, pP), (8, iP .i64)] (outE noE noE [(0, (grabC 125 [(6, sP), (7, pP)] X0))])
noncomputable def C9 : Ctx := baseC Try.prog [95, 75] none (cons1 47 w47 (cons1 46 w46 (cons1 13 w13 (cons1 12 w12 (cons1 45 w45 (cons1 44 w44 (cons1 43 w43 (allF Try.prog)))))))) (allI Try.prog) (cons1 249 (gC 125 [(1, sP), (5, iP .i64), (6, sP), (7, pP), (8, iP .i64)] none none [(0, [(6, sP), (7, pP)])] (lC Try.prog none c9_249 125 [(1, sP), (5, iP .i64), (6, sP), (7, pP), (8, iP .i64)])) (cons1 64073 (gC 125 [(1, sP), (5, iP .i64), (6, sP), (7, pP), (8, iP .i64), (9, sP), (10, iP .i64)] none none [(2, [(1, sP), (5, iP .i64), (6, sP), (7, pP), (8, iP .i64), (9, sP)])] (lC Try.prog none c9_64073 125 [(1, sP), (5, iP .i64), (6, sP), (7, pP), (8, iP .i64), (9, sP), (10, iP .i64)])) (cons1 4100754 (gC 125 [(1, sP), (5, iP .i64), (6, sP), (7, pP), (8, iP .i64), (9, sP), (10, iP .i64), (55, bP)] (some [(1, sP), (5, iP .i64), (6, sP), (7, pP), (8, iP .i64), (9, sP), (10, iP .i64)]) none [] (qC Try.prog none c9_4100754 125 [(1, sP), (5, iP .i64), (6, sP), (7, pP), (8, iP .i64), (9, sP), (10, iP .i64), (55, bP)])) none1)))
theorem o9 : CtxOK (C9) b9 := (addL (addL (addQ (addF (addF (addF (addF (addF (addF (addF (base_ok eqOK mixOK none b9) (wC_ok Try.prog 43 [iP .i64, iP .i64] [iP .i64])) (wC_ok Try.prog 44 [sP] [sP, iP .i64, iP .i64])) (wC_ok Try.prog 45 [sP] [sP, sP, iP .i64])) (wC_ok Try.prog 12 [aggP [iP .i64, sP]] [sP, iP .i64])) (wC_ok Try.prog 13 [aggP [iP .i64, sP], sP] [iP .i64, bP])) (wC_ok Try.prog 46 [sP, sP, sP, iP .i64] [bP])) (wC_ok Try.prog 47 [] [bP])) s9_4100754) sl9_64073) sl9_249)
def z9_4100754 (XN : Sl → Int → Sl → Option Addr → Int → Sl → Int → Heap → Prop) (v27 : Sl) (v28 : Int) (v29 : Sl) (v30 : Option Addr) (v31 : Int) (v32 : Sl) (v33 : Int) (v34 : Bool) (h35 : Heap) : Prop :=
 (branch v34
 (Go.AM.get v32.a fun a38 =>
 (chk (idx v33 v32.len) <|
 (Go.AM.get (Heap.wr h35 ⟨a38.block, (a38.off + ((Int.toNat v33) * 1)), none⟩ [(.int .i64 1)]) fun h39 =>
 (Go.AM.get v30 fun a42 =>
 (Go.AM.get (asS (Heap.rd h39 ⟨a42.block, (a42.off + 1), none⟩)) fun y43 =>
 (withH (Heap.new h39 (.cells [(.int .i64 v31), (.int .i64 (IntKind.wrap .i64 (v28 + v33)))] false)) fun h44 =>
 (Go.AM.get (Heap.rdN h44 ⟨h39.next, 0, none⟩ 2) fun y45 =>
 (Go.AM.get (Heap.app h44 2 16 y43 1 y45) fun r46 =>
 (Go.AM.get v30 fun a47 =>
 (Go.AM.get (Heap.wr r46.2 ⟨a47.block, (a47.off + 1), none⟩ [(Sl.v r46.1)]) fun h48 =>
 (XN v27 v28 v29 v30 v31 v32 v33 h48)))))))))))
 (XN v27 v28 v29 v30 v31 v32 v33 h35))
theorem k9_4100754 (XN : Sl → Int → Sl → Option Addr → Int → Sl → Int → Heap → Prop) (v27 : Sl) (v28 : Int) (v29 : Sl) (v30 : Option Addr) (v31 : Int) (v32 : Sl) (v33 : Int) (v34 : Bool) (h35 : Heap) : (exec (C9) c9_4100754 true 4100754 (Fr.put (Fr.put (Fr.put (Fr.put (Fr.put (Fr.put (Fr.put (Fr.put (Fr0 125) (some 1) (Sl.v v27)) (some 5) (.int .i64 v28)) (some 6) (Sl.v v29)) (some 7) (.pointer v30)) (some 8) (.int .i64 v31)) (some 9) (Sl.v v32)) (some 10) (.int .i64 v33)) (some 55) (.bool v34)) h35 (outE (grabC 125 [(1, sP), (5, iP .i64), (6, sP), (7, pP), (8, iP .i64), (9, sP), (10, iP .i64)] XN) noE [])) = z9_4100754 XN v27 v28 v29 v30 v31 v32 v33 v34 h35 := by kernel_rfl
theorem r9_4100754 (XN : Sl → Int → Sl → Option Addr → Int → Sl → Int → Heap → Prop) (v27 : Sl) (v28 : Int) (v29 : Sl) (v30 : Option Addr) (v31 : Int) (v32 : Sl) (v33 : Int) (v34 : Bool) (h35 : Heap) (H : z9_4100754 XN v27 v28 v29 v30 v31 v32 v33 v34 h35) : q9_4100754 XN v27 v28 v29 v30 v31 v32 v33 v34 h35 := piece_stepE (p := 4100754) (o9) rfl s9_4100754 (k9_4100754 XN v27 v28 v29 v30 v31 v32 v33 v34 h35) (by kernel_rfl) H
def z9_64073 (X2 : Sl → Int → Sl → Option Addr → Int → Sl → Heap → Prop) (v17 : Sl) (v18 : Int) (v19 : Sl) (v20 : Option Addr) (v21 : Int) (v22 : Sl) (v23 : Int) (h24 : Heap) : Prop :=
 (branch (decide (v23 < v18))
 (branch (decide ((IntKind.wrap .i64 ((IntKind.wrap .i64 (v21 * v18)) + v23)) < ((v17.len : Nat) : Int)))
 (Go.AM.get v17.a fun a49 =>
 (chk (idx (IntKind.wrap .i64 ((IntKind.wrap .i64 (v21 * v18)) + v23)) v17.len) <|
 (Go.AM.get (asB (Heap.rd h24 ⟨a49.block, (a49.off + ((Int.toNat (IntKind.wrap .i64 ((IntKind.wrap .i64 (v21 * v18)) + v23))) * 1)), none⟩)) fun y50 =>
 (q9_4100754
 (fun z51 z52 z53 z54 z55 z56 z57 h58 =>
 (l9_64073 X2 z51 z52 z53 z54 z55 z56 (IntKind.wrap .i64 (z57 + 1)) h58))
 v17 v18 v19 v20 v21 v22 v23 y50 h24))))
 (q9_4100754
 (fun z59 z60 z61 z62 z63 z64 z65 h66 =>
 (l9_64073 X2 z59 z60 z61 z62 z63 z64 (IntKind.wrap .i64 (z65 + 1)) h66))
 v17 v18 v19 v20 v21 v22 v23 false h24))
 (X2 v17 v18 v19 v20 v21 v22 h24))
theorem k9_64073 (X2 : Sl → Int → Sl → Option Addr → Int → Sl → Heap → Prop) (v17 : Sl) (v18 : Int) (v19 : Sl) (v20 : Option Addr) (v21 : Int) (v22 : Sl) (v23 : Int) (h24 : Heap) : (exec (C9) c9_64073 false 128147 (Fr.put (Fr.put (Fr.put (Fr.put (Fr.put (Fr.put (Fr.put (Fr0 125) (some 1) (Sl.v v17)) (some 5) (.int .i64 v18)) (some 6) (Sl.v v19)) (some 7) (.pointer v20)) (some 8) (.int .i64 v21)) (some 9) (Sl.v v22)) (some 10) (.int .i64 v23)) h24 (loopE (grabC 125 [(1, sP), (5, iP .i64), (6, sP), (7, pP), (8, iP .i64), (9, sP), (10, iP .i64)] (lC (C9).P (C9).yld c9_64073 125 [(1, sP), (5, iP .i64), (6, sP), (7, pP), (8, iP .i64), (9, sP), (10, iP .i64)] (outE noE noE [(2, (grabC 125 [(1, sP), (5, iP .i64), (6, sP), (7, pP), (8, iP .i64), (9, sP)] X2))]))) (outE noE noE [(2, (grabC 125 [(1, sP), (5, iP .i64), (6, sP), (7, pP), (8, iP .i64), (9, sP)] X2))]))) = z9_64073 X2 v17 v18 v19 v20 v21 v22 v23 h24 := by kernel_rfl
theorem r9_64073 (X2 : Sl → Int → Sl → Option Addr → Int → Sl → Heap → Prop) (v17 : Sl) (v18 : Int) (v19 : Sl) (v20 : Option Addr) (v21 : Int) (v22 : Sl) (v23 : Int) (h24 : Heap) (H : z9_64073 X2 v17 v18 v19 v20 v21 v22 v23 h24) : l9_64073 X2 v17 v18 v19 v20 v21 v22 v23 h24 := loop_stepE (p := 64073) (N := 125) (keep := [(1, sP), (5, iP .i64), (6, sP), (7, pP), (8, iP .i64), (9, sP), (10, iP .i64)]) (o9) rfl s9_64073 (k9_64073 X2 v17 v18 v19 v20 v21 v22 v23 h24) (by kernel_rfl) H
def z9_249 (X0 : Sl → Option Addr → Heap → Prop) (v9 : Sl) (v10 : Int) (v11 : Sl) (v12 : Option Addr) (v13 : Int) (h14 : Heap) : Prop :=
 (branch (decide (v13 < v10))
 (chk (within 0 v10 v10 && (decide (v10 ≤ 1000000000000) && (small (Int.toNat v10) 8 && true))) <|
 (withH (Heap.new h14 (.cells (rep [(.int .i64 0)] (Int.toNat v10)) false)) fun h16 =>
 (l9_64073
 (fun z67 z68 z69 z70 z71 z72 h73 =>
 (withH (Heap.new h73 (.cells [(Sl.v z72)] false)) fun h74 =>
 (Go.AM.get (Heap.rdN h74 ⟨h73.next, 0, none⟩ 1) fun y75 =>
 (Go.AM.get (Heap.app h74 1 24 z69 1 y75) fun r76 =>
 (l9_249 X0 z67 z68 r76.1 z70 (IntKind.wrap .i64 (z71 + 1)) r76.2)))))
 v9 v10 v11 v12 v13 (Sl.mk (some ⟨h14.next, 0, (some 0)⟩) (Int.toNat v10) (Int.toNat v10)) 0 h16)))
 (X0 v11 v12 h14))
theorem k9_249 (X0 : Sl → Option Addr → Heap → Prop) (v9 : Sl) (v10 : Int) (v11 : Sl) (v12 : Option Addr) (v13 : Int) (h14 : Heap) : (exec (C9) c9_249 false 499 (Fr.put (Fr.put (Fr.put (Fr.put (Fr.put (Fr0 125) (some 1) (Sl.v v9)) (some 5) (.int .i64 v10)) (some 6) (Sl.v v11)) (some 7) (.pointer v12)) (some 8) (.int .i64 v13)) h14 (loopE (grabC 125 [(1, sP), (5, iP .i64), (6, sP), (7, pP), (8, iP .i64)] (lC (C9).P (C9).yld c9_249 125 [(1, sP), (5, iP .i64), (6, sP), (7, pP), (8, iP .i64)] (outE noE noE [(0, (grabC 125 [(6, sP), (7, pP)] X0))]))) (outE noE noE [(0, (grabC 125 [(6, sP), (7, pP)] X0))]))) = z9_249 X0 v9 v10 v11 v12 v13 h14 := by kernel_rfl
theorem r9_249 (X0 : Sl → Option Addr → Heap → Prop) (v9 : Sl) (v10 : Int) (v11 : Sl) (v12 : Option Addr) (v13 : Int) (h14 : Heap) (H : z9_249 X0 v9 v10 v11 v12 v13 h14) : l9_249 X0 v9 v10 v11 v12 v13 h14 := loop_stepE (p := 249) (N := 125) (keep := [(1, sP), (5, iP .i64), (6, sP), (7, pP), (8, iP .i64)]) (o9) rfl s9_249 (k9_249 X0 v9 v10 v11 v12 v13 h14) (by kernel_rfl) H
def z9 (p0 : Int) (p1 : Sl) (h : Heap) (K : Bool → Heap → Prop) : Prop :=
 (t43 p0 6 h fun r3 h4 =>
 (withH (Heap.new h4 (.cells [(.int .i64 0), (.slice none 0 0)] false)) fun h7 =>
 (Go.AM.get (Heap.wr h7 ⟨h4.next, 0, none⟩ [(.int .i64 (IntKind.wrap .i64 (2 * (IntKind.wrap .i64 (1 + r3))))), (.slice none 0 0)]) fun h8 =>
 (l9_249
 (fun z80 z81 h82 =>
 (t44 z80 h82 fun r87 r88 r89 h90 =>
 (t45 z80 h90 fun r95 r96 r97 h98 =>
 (Go.AM.get z81 fun a105 =>
 (Go.AM.get (asI .i64 (Heap.rd h98 ⟨a105.block, a105.off, none⟩)) fun y106 =>
 (Go.AM.get (asS (Heap.rd h98 ⟨a105.block, (a105.off + 1), none⟩)) fun y107 =>
 (t12 (y106, y107, ()) h98 fun r108 r109 h110 =>
 (Go.AM.get z81 fun a117 =>
 (Go.AM.get (asI .i64 (Heap.rd h110 ⟨a117.block, a117.off, none⟩)) fun y118 =>
 (Go.AM.get (asS (Heap.rd h110 ⟨a117.block, (a117.off + 1), none⟩)) fun y119 =>
 (t13 (y118, y119, ()) r108 h110 fun r120 r121 h122 =>
 (branch (r89 == 0)
 (branch (r97 == 0)
 (branch (r109 == 0)
 (branch r121
 (branch (r88 == r120)
 (t46 z80 r95 r96 r88 h122 fun r123 h124 =>
 (branch r123
 (t47 h124 fun r125 h126 =>
 (K r125 h126))
 (K false h124)))
 (K false h122))
 (K false h122))
 (K false h122))
 (K false h122))
 (K false h122)))))))))))))
 p1 (IntKind.wrap .i64 (1 + r3)) (Sl.mk none 0 0) (some ⟨h4.next, 0, none⟩) 0 h8))))
theorem k9 (p0 : Int) (p1 : Sl) (h : Heap) (K : Bool → Heap → Prop) : fnK C9 Try.f9.results.toList Try.f9.ntmps b9 [(.int .i64 p0), (Sl.v p1)] h (outC [bP] K) = z9 p0 p1 h K := by kernel_rfl
theorem r9 (p0 : Int) (p1 : Sl) (h : Heap) (K : Bool → Heap → Prop) (H : z9 p0 p1 h K) : t9 p0 p1 h K := fn_stepE (C := C9) (fn := Try.f9) (g := 9) o9 rfl rfl (by kernel_rfl) (by kernel_rfl) (by kernel_rfl) (k9 p0 p1 h K) (by kernel_rfl) H

end Go.Proofs.Ytalmoilcehhjkaa
