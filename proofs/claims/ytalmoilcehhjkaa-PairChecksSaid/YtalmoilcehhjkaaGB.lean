/- PRINTED BY A PROGRAM OF OURS: what the functions do, step by step, and that the model says so. -/
import Derived.Test.YtalmoilcehhjkaaHeads
set_option linter.unusedVariables false
set_option linter.unusedSimpArgs false
namespace Go.Proofs.Ytalmoilcehhjkaa
open Go hiding Expr
open Go.AM hiding get
/-! 10: minikin/minikinlaw04.tame -/
noncomputable def b10 : Code := Try.f10.body.getD .skip
noncomputable def c10_3730 : Code := (subN b10 3730).getD .skip
theorem s10_3730 : subN b10 3730 = some c10_3730 := by kernel_rfl
noncomputable def q10_3730 (XN : Int → Option Addr → Option Addr → Option Addr → Int → Heap → Prop) : Int → Option Addr → Option Addr → Option Addr → Int → Int → Int → Bool → Heap → Prop := qC Try.prog none c10_3730 80 [(2, iP .i64), (3, pP), (6, pP), (7, pP), (8, iP .i64), (9, iP .i64), (10, iP .i64), (69, bP)] (outE (grabC 80 [(2, iP .i64), (3, pP), (6, pP), (7, pP), (8, iP .i64)] XN) noE [])
noncomputable def c10_57 : Code := (subN b10 115).getD .skip
theorem s10_57 : subN b10 115 = some c10_57 := by kernel_rfl
theorem sl10_57 : subN b10 57 = some (.loop c10_57) := by kernel_rfl
noncomputable def l10_57 (X0 : Option Addr → Option Addr → Heap → Prop) : Int → Option Addr → Option Addr → Option Addr → Int → Heap → Prop := lC Try.prog none c10_57 80 [(2, iP .i64), (3, pP), (6, pP), (7, pP), (8, iP .i64)] (outE noE noE [(0, (grabC 80 [(6, pP), (7, pP)] X0))])
noncomputable def C10 : Ctx := baseC Try.prog [95, 75] none (cons1 48 w48 (allF Try.prog)) (allI Try.prog) (cons1 57 (gC 80 [(2, iP .i64), (3, pP), (6, pP), (7, pP), (8, iP .i64)] none none [(0, [(6, pP), (7, pP)])] (lC Try.prog none c10_57 80 [(2, iP .i64), (3, pP), (6, pP), (7, pP), (8, iP .i64)])) (cons1 3730 (gC 80 [(2, iP .i64), (3, pP), (6, pP), (7, pP), (8, iP .i64), (9, iP .i64), (10, iP .i64), (69, bP)] (some [(2, iP .i64), (3, pP), (6, pP), (7, pP), (8, iP .i64)]) none [] (qC Try.prog none c10_3730 80 [(2, iP .i64), (3, pP), (6, pP), (7, pP), (8, iP .i64), (9, iP .i64), (10, iP .i64), (69, bP)])) none1))
theorem o10 : CtxOK (C10) b10 := (addL (addQ (addF (base_ok eqOK mixOK none b10) (wC_ok Try.prog 48 [aggP [iP .i64, sP], iP .i64, iP .i64] [bP])) s10_3730) sl10_57)
def z10_3730 (XN : Int → Option Addr → Option Addr → Option Addr → Int → Heap → Prop) (v60 : Int) (v61 : Option Addr) (v62 : Option Addr) (v63 : Option Addr) (v64 : Int) (v65 : Int) (v66 : Int) (v67 : Bool) (h68 : Heap) : Prop :=
 (branch v67
 (Go.AM.get v63 fun a71 =>
 (Go.AM.get (asS (Heap.rd h68 ⟨a71.block, (a71.off + 1), none⟩)) fun y72 =>
 (withH (Heap.new h68 (.cells [(.int .i64 v65), (.int .i64 v66)] false)) fun h73 =>
 (Go.AM.get (Heap.rdN h73 ⟨h68.next, 0, none⟩ 2) fun y74 =>
 (Go.AM.get (Heap.app h73 2 16 y72 1 y74) fun r75 =>
 (Go.AM.get v63 fun a76 =>
 (Go.AM.get (Heap.wr r75.2 ⟨a76.block, (a76.off + 1), none⟩ [(Sl.v r75.1)]) fun h77 =>
 (XN v60 v61 v62 v63 v64 h77))))))))
 (XN v60 v61 v62 v63 v64 h68))
theorem k10_3730 (XN : Int → Option Addr → Option Addr → Option Addr → Int → Heap → Prop) (v60 : Int) (v61 : Option Addr) (v62 : Option Addr) (v63 : Option Addr) (v64 : Int) (v65 : Int) (v66 : Int) (v67 : Bool) (h68 : Heap) : (exec (C10) c10_3730 true 3730 (Fr.put (Fr.put (Fr.put (Fr.put (Fr.put (Fr.put (Fr.put (Fr.put (Fr0 80) (some 2) (.int .i64 v60)) (some 3) (.pointer v61)) (some 6) (.pointer v62)) (some 7) (.pointer v63)) (some 8) (.int .i64 v64)) (some 9) (.int .i64 v65)) (some 10) (.int .i64 v66)) (some 69) (.bool v67)) h68 (outE (grabC 80 [(2, iP .i64), (3, pP), (6, pP), (7, pP), (8, iP .i64)] XN) noE [])) = z10_3730 XN v60 v61 v62 v63 v64 v65 v66 v67 h68 := by kernel_rfl
theorem r10_3730 (XN : Int → Option Addr → Option Addr → Option Addr → Int → Heap → Prop) (v60 : Int) (v61 : Option Addr) (v62 : Option Addr) (v63 : Option Addr) (v64 : Int) (v65 : Int) (v66 : Int) (v67 : Bool) (h68 : Heap) (H : z10_3730 XN v60 v61 v62 v63 v64 v65 v66 v67 h68) : q10_3730 XN v60 v61 v62 v63 v64 v65 v66 v67 h68 := piece_stepE (p := 3730) (o10) rfl s10_3730 (k10_3730 XN v60 v61 v62 v63 v64 v65 v66 v67 h68) (by kernel_rfl) H
def z10_57 (X0 : Option Addr → Option Addr → Heap → Prop) (v11 : Int) (v12 : Option Addr) (v13 : Option Addr) (v14 : Option Addr) (v15 : Int) (h16 : Heap) : Prop :=
 (Go.AM.get v12 fun a21 =>
 (Go.AM.get (asS (Heap.rd h16 ⟨a21.block, (a21.off + 1), none⟩)) fun y22 =>
 (branch (decide (v15 < ((y22.len : Nat) : Int)))
 (Go.AM.get v14 fun a23 =>
 (Go.AM.get (asS (Heap.rd h16 ⟨a23.block, (a23.off + 1), none⟩)) fun y24 =>
 (branch (decide (((y24.len : Nat) : Int) < v11))
 (Go.AM.get v12 fun a40 =>
 (Go.AM.get (asS (Heap.rd h16 ⟨a40.block, (a40.off + 1), none⟩)) fun y41 =>
 (Go.AM.get y41.a fun a42 =>
 (chk (idx v15 y41.len) <|
 (Go.AM.get (asI .i64 (Heap.rd h16 ⟨a42.block, (a42.off + ((Int.toNat v15) * 2)), none⟩)) fun y43 =>
 (Go.AM.get v14 fun a44 =>
 (Go.AM.get (asI .i64 (Heap.rd h16 ⟨a44.block, a44.off, none⟩)) fun y45 =>
 (chk ((IntKind.wrap .u64 y45) != 0) <|
 (Go.AM.get v12 fun a46 =>
 (Go.AM.get (asS (Heap.rd h16 ⟨a46.block, (a46.off + 1), none⟩)) fun y47 =>
 (Go.AM.get y47.a fun a48 =>
 (chk (idx v15 y47.len) <|
 (Go.AM.get (asI .i64 (Heap.rd h16 ⟨a48.block, ((a48.off + ((Int.toNat v15) * 2)) + 1), none⟩)) fun y49 =>
 (Go.AM.get v14 fun a50 =>
 (Go.AM.get (asI .i64 (Heap.rd h16 ⟨a50.block, a50.off, none⟩)) fun y51 =>
 (chk ((IntKind.wrap .u64 y51) != 0) <|
 ((((.int .i64 (IntKind.wrap .i64 (Int.tmod (IntKind.wrap .u64 y49) (IntKind.wrap .u64 y51)))) : Value) = (.int .i64 (IntKind.wrap .i64 (Int.tmod (IntKind.wrap .u64 y49) (IntKind.wrap .u64 y51))))) ∧ ((((.int .u64 (IntKind.wrap .u64 y51)) : Value) = (.int .u64 (IntKind.wrap .u64 y51))) ∧ ((Go.AM.get (asI .i64 (Heap.rd h16 ⟨a50.block, a50.off, none⟩)) fun y52 =>
 (((.int .i64 y52) : Value) = (.int .i64 y51))) ∧ ((((.int .u64 (IntKind.wrap .u64 y49)) : Value) = (.int .u64 (IntKind.wrap .u64 y49))) ∧ ((Go.AM.get (asI .i64 (Heap.rd h16 ⟨a48.block, ((a48.off + ((Int.toNat v15) * 2)) + 1), none⟩)) fun y53 =>
 (((.int .i64 y53) : Value) = (.int .i64 y49))) ∧ ((Go.AM.get (asS (Heap.rd h16 ⟨a46.block, (a46.off + 1), none⟩)) fun y54 =>
 (((Sl.v y54) : Value) = (Sl.v y47))) ∧ (branch ((IntKind.wrap .i64 (Int.tmod (IntKind.wrap .u64 y43) (IntKind.wrap .u64 y45))) != (IntKind.wrap .i64 (Int.tmod (IntKind.wrap .u64 y49) (IntKind.wrap .u64 y51))))
 (Go.AM.get v14 fun a78 =>
 (Go.AM.get (asI .i64 (Heap.rd h16 ⟨a78.block, a78.off, none⟩)) fun y79 =>
 (Go.AM.get (asS (Heap.rd h16 ⟨a78.block, (a78.off + 1), none⟩)) fun y80 =>
 (t48 (y79, y80, ()) (IntKind.wrap .i64 (Int.tmod (IntKind.wrap .u64 y43) (IntKind.wrap .u64 y45))) (IntKind.wrap .i64 (Int.tmod (IntKind.wrap .u64 y49) (IntKind.wrap .u64 y51))) h16 fun r81 h82 =>
 (q10_3730
 (fun z83 z84 z85 z86 z87 h88 =>
 (l10_57 X0 z83 z84 z85 z86 (IntKind.wrap .i64 (z87 + 1)) h88))
 v11 v12 v13 v14 v15 (IntKind.wrap .i64 (Int.tmod (IntKind.wrap .u64 y43) (IntKind.wrap .u64 y45))) (IntKind.wrap .i64 (Int.tmod (IntKind.wrap .u64 y49) (IntKind.wrap .u64 y51))) (!r81) h82)))))
 (q10_3730
 (fun z89 z90 z91 z92 z93 h94 =>
 (l10_57 X0 z89 z90 z91 z92 (IntKind.wrap .i64 (z93 + 1)) h94))
 v11 v12 v13 v14 v15 (IntKind.wrap .i64 (Int.tmod (IntKind.wrap .u64 y43) (IntKind.wrap .u64 y45))) (IntKind.wrap .i64 (Int.tmod (IntKind.wrap .u64 y49) (IntKind.wrap .u64 y51))) false h16))))))))))))))))))))))))
 (X0 v13 v14 h16))))
 (X0 v13 v14 h16))))
theorem k10_57 (X0 : Option Addr → Option Addr → Heap → Prop) (v11 : Int) (v12 : Option Addr) (v13 : Option Addr) (v14 : Option Addr) (v15 : Int) (h16 : Heap) : (exec (C10) c10_57 false 115 (Fr.put (Fr.put (Fr.put (Fr.put (Fr.put (Fr0 80) (some 2) (.int .i64 v11)) (some 3) (.pointer v12)) (some 6) (.pointer v13)) (some 7) (.pointer v14)) (some 8) (.int .i64 v15)) h16 (loopE (grabC 80 [(2, iP .i64), (3, pP), (6, pP), (7, pP), (8, iP .i64)] (lC (C10).P (C10).yld c10_57 80 [(2, iP .i64), (3, pP), (6, pP), (7, pP), (8, iP .i64)] (outE noE noE [(0, (grabC 80 [(6, pP), (7, pP)] X0))]))) (outE noE noE [(0, (grabC 80 [(6, pP), (7, pP)] X0))]))) = z10_57 X0 v11 v12 v13 v14 v15 h16 := by kernel_rfl
theorem r10_57 (X0 : Option Addr → Option Addr → Heap → Prop) (v11 : Int) (v12 : Option Addr) (v13 : Option Addr) (v14 : Option Addr) (v15 : Int) (h16 : Heap) (H : z10_57 X0 v11 v12 v13 v14 v15 h16) : l10_57 X0 v11 v12 v13 v14 v15 h16 := loop_stepE (p := 57) (N := 80) (keep := [(2, iP .i64), (3, pP), (6, pP), (7, pP), (8, iP .i64)]) (o10) rfl s10_57 (k10_57 X0 v11 v12 v13 v14 v15 h16) (by kernel_rfl) H
def z10 (p0 : (Int × Sl × Unit)) (p1 : Int) (p2 : Int) (h : Heap) (K : (Int × Sl × Unit) → Heap → Prop) : Prop :=
 (withH (Heap.new h (.cells [(.int .i64 p0.1), (Sl.v p0.2.1)] false)) fun h3 =>
 (withH (Heap.new h3 (.cells [(.int .i64 0), (.slice none 0 0)] false)) fun h4 =>
 (Go.AM.get (asI .i64 (Heap.rd h4 ⟨h.next, 0, none⟩)) fun y8 =>
 (chk ((IntKind.wrap .u64 p1) != 0) <|
 (withH (Heap.new h4 (.cells [(.int .i64 0), (.slice none 0 0)] false)) fun h9 =>
 (Go.AM.get (Heap.wr h9 ⟨h4.next, 0, none⟩ [(.int .i64 (IntKind.wrap .i64 (1 + (IntKind.wrap .i64 (Int.tmod (IntKind.wrap .u64 (IntKind.wrap .i64 (y8 - 1))) (IntKind.wrap .u64 p1)))))), (.slice none 0 0)]) fun h10 =>
 (l10_57
 (fun z95 z96 h97 =>
 (Go.AM.get z96 fun a98 =>
 (Go.AM.get (asI .i64 (Heap.rd h97 ⟨a98.block, a98.off, none⟩)) fun y99 =>
 (Go.AM.get (asS (Heap.rd h97 ⟨a98.block, (a98.off + 1), none⟩)) fun y100 =>
 (Go.AM.get z95 fun a101 =>
 (Go.AM.get (Heap.wr h97 a101 [(.int .i64 y99), (Sl.v y100)]) fun h102 =>
 (Go.AM.get z95 fun a103 =>
 (Go.AM.get (asI .i64 (Heap.rd h102 ⟨a103.block, a103.off, none⟩)) fun y104 =>
 (Go.AM.get (asS (Heap.rd h102 ⟨a103.block, (a103.off + 1), none⟩)) fun y105 =>
 (K (y104, y105, ()) h102))))))))))
 p2 (some ⟨h.next, 0, none⟩) (some ⟨h3.next, 0, none⟩) (some ⟨h4.next, 0, none⟩) 0 h10)))))))
theorem k10 (p0 : (Int × Sl × Unit)) (p1 : Int) (p2 : Int) (h : Heap) (K : (Int × Sl × Unit) → Heap → Prop) : fnK C10 Try.f10.results.toList Try.f10.ntmps b10 [(.agg ⟨[(.int .i64 p0.1), (Sl.v p0.2.1)]⟩), (.int .i64 p1), (.int .i64 p2)] h (outC [aggP [iP .i64, sP]] K) = z10 p0 p1 p2 h K := by kernel_rfl
theorem r10 (p0 : (Int × Sl × Unit)) (p1 : Int) (p2 : Int) (h : Heap) (K : (Int × Sl × Unit) → Heap → Prop) (H : z10 p0 p1 p2 h K) : t10 p0 p1 p2 h K := fn_stepE (C := C10) (fn := Try.f10) (g := 10) o10 rfl rfl (by kernel_rfl) (by kernel_rfl) (by kernel_rfl) (k10 p0 p1 p2 h K) (by kernel_rfl) H

/-! 11: minikin/minikinlaw04.give -/
noncomputable def b11 : Code := Try.f11.body.getD .skip
noncomputable def C11 : Ctx := baseC Try.prog [95, 75] none (allF Try.prog) (allI Try.prog) none1
theorem o11 : CtxOK (C11) b11 := (base_ok eqOK mixOK none b11)
def z11 (p0 : (Int × Sl × Unit)) (h : Heap) (K : (Int × Sl × Unit) → Heap → Prop) : Prop :=
 (withH (Heap.new h (.cells [(.int .i64 p0.1), (Sl.v p0.2.1)] false)) fun h1 =>
 (withH (Heap.new h1 (.cells [(.int .i64 0), (.slice none 0 0)] false)) fun h2 =>
 (Go.AM.get (asI .i64 (Heap.rd h2 ⟨h.next, 0, none⟩)) fun y3 =>
 (Go.AM.get (asS (Heap.rd h2 ⟨h.next, 1, none⟩)) fun y4 =>
 (Go.AM.get (Heap.wr h2 ⟨h1.next, 0, none⟩ [(.int .i64 y3), (Sl.v y4)]) fun h5 =>
 (Go.AM.get (asI .i64 (Heap.rd h5 ⟨h1.next, 0, none⟩)) fun y6 =>
 (Go.AM.get (asS (Heap.rd h5 ⟨h1.next, 1, none⟩)) fun y7 =>
 (K (y6, y7, ()) h5))))))))
theorem k11 (p0 : (Int × Sl × Unit)) (h : Heap) (K : (Int × Sl × Unit) → Heap → Prop) : fnK C11 Try.f11.results.toList Try.f11.ntmps b11 [(.agg ⟨[(.int .i64 p0.1), (Sl.v p0.2.1)]⟩)] h (outC [aggP [iP .i64, sP]] K) = z11 p0 h K := by kernel_rfl
theorem r11 (p0 : (Int × Sl × Unit)) (h : Heap) (K : (Int × Sl × Unit) → Heap → Prop) (H : z11 p0 h K) : t11 p0 h K := fn_stepE (C := C11) (fn := Try.f11) (g := 11) o11 rfl rfl (by kernel_rfl) (by kernel_rfl) (by kernel_rfl) (k11 p0 h K) (by kernel_rfl) H

/-! 12: minikin/pair.Match -/
noncomputable def b12 : Code := Try.f12.body.getD .skip
noncomputable def C12 : Ctx := baseC Try.prog [95, 75] none (cons1 51 w51 (cons1 50 w50 (cons1 49 w49 (cons1 33 w33 (allF Try.prog))))) (allI Try.prog) none1
theorem o12 : CtxOK (C12) b12 := (addF (addF (addF (addF (base_ok eqOK mixOK none b12) (wC_ok Try.prog 33 [aggP [iP .i64, sP]] [iP .i64])) (wC_ok Try.prog 49 [aggP [iP .i64, sP], iP .i64] [pP])) (wC_ok Try.prog 50 [pP] [iP .i64])) (wC_ok Try.prog 51 [sP] [sP]))
def z12 (p0 : (Int × Sl × Unit)) (h : Heap) (K : Sl → Int → Heap → Prop) : Prop :=
 (withH (Heap.new h (.cells [(.int .i64 p0.1), (Sl.v p0.2.1)] false)) fun h2 =>
 (Go.AM.get (asI .i64 (Heap.rd h2 ⟨h.next, 0, none⟩)) fun y11 =>
 (Go.AM.get (asS (Heap.rd h2 ⟨h.next, 1, none⟩)) fun y12 =>
 (t33 (y11, y12, ()) h2 fun r13 h14 =>
 (branch (r13 != 0)
 (K (Sl.mk none 0 0) r13 h14)
 (Go.AM.get (asI .i64 (Heap.rd h14 ⟨h.next, 0, none⟩)) fun y19 =>
 (Go.AM.get (asS (Heap.rd h14 ⟨h.next, 1, none⟩)) fun y20 =>
 (t49 (y19, y20, ()) (-1) h14 fun r21 h22 =>
 (t50 r21 h22 fun r25 h26 =>
 (Go.AM.get r21 fun a27 =>
 (Go.AM.get (asI .i64 (Heap.rd h26 ⟨h.next, 0, none⟩)) fun y28 =>
 (chk (within 0 y28 40) <|
 (t51 (Sl.cut (Sl.mk (some ⟨a27.block, (a27.off + 41), some 0⟩) 40 40) 1 0 (Int.toNat y28)) h26 fun r29 h30 =>
 (K r29 0 h30))))))))))))))
theorem k12 (p0 : (Int × Sl × Unit)) (h : Heap) (K : Sl → Int → Heap → Prop) : fnK C12 Try.f12.results.toList Try.f12.ntmps b12 [(.agg ⟨[(.int .i64 p0.1), (Sl.v p0.2.1)]⟩)] h (outC [sP, iP .i64] K) = z12 p0 h K := by kernel_rfl
theorem r12 (p0 : (Int × Sl × Unit)) (h : Heap) (K : Sl → Int → Heap → Prop) (H : z12 p0 h K) : t12 p0 h K := fn_stepE (C := C12) (fn := Try.f12) (g := 12) o12 rfl rfl (by kernel_rfl) (by kernel_rfl) (by kernel_rfl) (k12 p0 h K) (by kernel_rfl) H

/-! 13: minikin/pair.IsPairing -/
noncomputable def b13 : Code := Try.f13.body.getD .skip
noncomputable def c13_121 : Code := (subN b13 243).getD .skip
theorem s13_121 : subN b13 243 = some c13_121 := by kernel_rfl
theorem sl13_121 : subN b13 121 = some (.loop c13_121) := by kernel_rfl
noncomputable def l13_121 (X0 : Sl → Option Addr → Int → Option Nat → Heap → Prop) : Sl → Option Addr → Int → Option Nat → Sl → Int → Int → Heap → Prop := lC Try.prog none c13_121 84 [(1, sP), (2, pP), (4, iP .i64), (6, mP), (23, sP), (24, iP .i64), (25, iP .i64)] (outE noE noE [(0, (grabC 84 [(1, sP), (2, pP), (4, iP .i64), (6, mP)] X0))])
noncomputable def c13_249 : Code := (subN b13 499).getD .skip
theorem s13_249 : subN b13 499 = some c13_249 := by kernel_rfl
theorem sl13_249 : subN b13 249 = some (.loop c13_249) := by kernel_rfl
noncomputable def l13_249 (XR : Int → Bool → Heap → Prop) (X2 : Int → Heap → Prop) : Sl → Option Addr → Int → Option Nat → Sl → Int → Int → Heap → Prop := lC Try.prog none c13_249 84 [(1, sP), (2, pP), (4, iP .i64), (6, mP), (42, sP), (43, iP .i64), (44, iP .i64)] (outE noE (grabC 84 [(4, iP .i64), (5, bP)] XR) [(2, (grabC 84 [(4, iP .i64)] X2))])
noncomputable def C13 : Ctx := baseC Try.prog [95, 75] none (cons1 33 w33 (allF Try.prog)) (allI Try.prog) (cons1 249 (gC 84 [(1, sP), (2, pP), (4, iP .i64), (6, mP), (42, sP), (43, iP .i64), (44, iP .i64)] none (some [(4, iP .i64), (5, bP)]) [(2, [(4, iP .i64)])] (lC Try.prog none c13_249 84 [(1, sP), (2, pP), (4, iP .i64), (6, mP), (42, sP), (43, iP .i64), (44, iP .i64)])) (cons1 121 (gC 84 [(1, sP), (2, pP), (4, iP .i64), (6, mP), (23, sP), (24, iP .i64), (25, iP .i64)] none none [(0, [(1, sP), (2, pP), (4, iP .i64), (6, mP)])] (lC Try.prog none c13_121 84 [(1, sP), (2, pP), (4, iP .i64), (6, mP), (23, sP), (24, iP .i64), (25, iP .i64)])) none1))
theorem o13 : CtxOK (C13) b13 := (addL (addL (addF (base_ok eqOK mixOK none b13) (wC_ok Try.prog 33 [aggP [iP .i64, sP]] [iP .i64])) sl13_121) sl13_249)
def z13_121 (X0 : Sl → Option Addr → Int → Option Nat → Heap → Prop) (v17 : Sl) (v18 : Option Addr) (v19 : Int) (v20 : Option Nat) (v21 : Sl) (v22 : Int) (v23 : Int) (h24 : Heap) : Prop :=
 (branch (decide (v23 < v22))
 (Go.AM.get v21.a fun a30 =>
 (chk (idx v23 v21.len) <|
 (Go.AM.get (asI .i64 (Heap.rd h24 ⟨a30.block, (a30.off + ((Int.toNat v23) * 2)), none⟩)) fun y31 =>
 (Go.AM.get (asI .i64 (Heap.rd h24 ⟨a30.block, ((a30.off + ((Int.toNat v23) * 2)) + 1), none⟩)) fun y32 =>
 (withH (Heap.new h24 (.cells [(.int .i64 0), (.int .i64 0)] false)) fun h33 =>
 (Go.AM.get (Heap.wr h33 ⟨h24.next, 0, none⟩ [(.int .i64 y31), (.int .i64 y32)]) fun h34 =>
 (Go.AM.get (asI .i64 (Heap.rd h34 ⟨h24.next, 0, none⟩)) fun y35 =>
 (Go.AM.get (asI .i64 (Heap.rd h34 ⟨h24.next, 1, none⟩)) fun y36 =>
 (Go.AM.get (asI .i64 (Heap.rd h34 ⟨h24.next, 0, none⟩)) fun y37 =>
 (Go.AM.get (asI .i64 (Heap.rd h34 ⟨h24.next, 1, none⟩)) fun y38 =>
 (Go.AM.get v20 fun m39 =>
 (Go.AM.get (Heap.mp h34 m39) fun e40 =>
 Go.AM.get (findV Try.prog [95, 75] 95 (.agg ⟨[(.int .i64 (if y36 < y35 then y36 else y35)), (.int .i64 (if y38 > y37 then y38 else y37))]⟩) e40 0) fun r41 =>
 optK r41
 (withH (Heap.put h34 m39 (.map (e40 ++ [((.agg ⟨[(.int .i64 (if y36 < y35 then y36 else y35)), (.int .i64 (if y38 > y37 then y38 else y37))]⟩), (.bool true))]))) fun h43 => (l13_121 X0 v17 v18 v19 v20 v21 v22 (IntKind.wrap .i64 (v23 + 1)) h43))
 fun p42 => (withH (Heap.put h34 m39 (.map (setAt e40 p42.1 (.agg ⟨[(.int .i64 (if y36 < y35 then y36 else y35)), (.int .i64 (if y38 > y37 then y38 else y37))]⟩) (.bool true)))) fun h44 => (l13_121 X0 v17 v18 v19 v20 v21 v22 (IntKind.wrap .i64 (v23 + 1)) h44))))))))))))))
 (X0 v17 v18 v19 v20 h24))
theorem k13_121 (X0 : Sl → Option Addr → Int → Option Nat → Heap → Prop) (v17 : Sl) (v18 : Option Addr) (v19 : Int) (v20 : Option Nat) (v21 : Sl) (v22 : Int) (v23 : Int) (h24 : Heap) : (exec (C13) c13_121 false 243 (Fr.put (Fr.put (Fr.put (Fr.put (Fr.put (Fr.put (Fr.put (Fr0 84) (some 1) (Sl.v v17)) (some 2) (.pointer v18)) (some 4) (.int .i64 v19)) (some 6) (.map v20)) (some 23) (Sl.v v21)) (some 24) (.int .i64 v22)) (some 25) (.int .i64 v23)) h24 (loopE (grabC 84 [(1, sP), (2, pP), (4, iP .i64), (6, mP), (23, sP), (24, iP .i64), (25, iP .i64)] (lC (C13).P (C13).yld c13_121 84 [(1, sP), (2, pP), (4, iP .i64), (6, mP), (23, sP), (24, iP .i64), (25, iP .i64)] (outE noE noE [(0, (grabC 84 [(1, sP), (2, pP), (4, iP .i64), (6, mP)] X0))]))) (outE noE noE [(0, (grabC 84 [(1, sP), (2, pP), (4, iP .i64), (6, mP)] X0))]))) = z13_121 X0 v17 v18 v19 v20 v21 v22 v23 h24 := by kernel_rfl
theorem r13_121 (X0 : Sl → Option Addr → Int → Option Nat → Heap → Prop) (v17 : Sl) (v18 : Option Addr) (v19 : Int) (v20 : Option Nat) (v21 : Sl) (v22 : Int) (v23 : Int) (h24 : Heap) (H : z13_121 X0 v17 v18 v19 v20 v21 v22 v23 h24) : l13_121 X0 v17 v18 v19 v20 v21 v22 v23 h24 := loop_stepE (p := 121) (N := 84) (keep := [(1, sP), (2, pP), (4, iP .i64), (6, mP), (23, sP), (24, iP .i64), (25, iP .i64)]) (o13) rfl s13_121 (k13_121 X0 v17 v18 v19 v20 v21 v22 v23 h24) (by kernel_rfl) H
def z13_249 (XR : Int → Bool → Heap → Prop) (X2 : Int → Heap → Prop) (v56 : Sl) (v57 : Option Addr) (v58 : Int) (v59 : Option Nat) (v60 : Sl) (v61 : Int) (v62 : Int) (h63 : Heap) : Prop :=
 (branch (decide (v62 < v61))
 (Go.AM.get v60.a fun a66 =>
 (chk (idx v62 v60.len) <|
 (Go.AM.get (asI .i64 (Heap.rd h63 ⟨a66.block, (a66.off + ((Int.toNat v62) * 1)), none⟩)) fun y67 =>
 (branch (y67 == (-1))
 (l13_249 XR X2 v56 v57 v58 v59 v60 v61 (IntKind.wrap .i64 (v62 + 1)) h63)
 (branch (decide (y67 < 0))
 (XR 0 false h63)
 (Go.AM.get v57 fun a68 =>
 (Go.AM.get (asI .i64 (Heap.rd h63 ⟨a68.block, a68.off, none⟩)) fun y69 =>
 (branch (decide (y67 ≥ y69))
 (XR 0 false h63)
 (Go.AM.get v56.a fun a70 =>
 (chk (idx y67 v56.len) <|
 (Go.AM.get (asI .i64 (Heap.rd h63 ⟨a70.block, (a70.off + ((Int.toNat y67) * 1)), none⟩)) fun y71 =>
 (branch (y71 != v62)
 (XR 0 false h63)
 (Go.AM.get v59 fun m72 =>
 (Go.AM.get (Heap.mp h63 m72) fun e73 =>
 Go.AM.get (findV Try.prog [95, 75] 95 (.agg ⟨[(.int .i64 (if y67 < v62 then y67 else v62)), (.int .i64 (if y67 > v62 then y67 else v62))]⟩) e73 0) fun r74 =>
 (Go.AM.get (asB (some ((Option.map (·.2) r74).getD (.bool false)))) fun y75 =>
 (branch (!y75)
 (XR 0 false h63)
 (l13_249 XR X2 v56 v57 (IntKind.wrap .i64 (v58 + 1)) v59 v60 v61 (IntKind.wrap .i64 (v62 + 1)) h63)))))))))))))))))
 (X2 v58 h63))
theorem k13_249 (XR : Int → Bool → Heap → Prop) (X2 : Int → Heap → Prop) (v56 : Sl) (v57 : Option Addr) (v58 : Int) (v59 : Option Nat) (v60 : Sl) (v61 : Int) (v62 : Int) (h63 : Heap) : (exec (C13) c13_249 false 499 (Fr.put (Fr.put (Fr.put (Fr.put (Fr.put (Fr.put (Fr.put (Fr0 84) (some 1) (Sl.v v56)) (some 2) (.pointer v57)) (some 4) (.int .i64 v58)) (some 6) (.map v59)) (some 42) (Sl.v v60)) (some 43) (.int .i64 v61)) (some 44) (.int .i64 v62)) h63 (loopE (grabC 84 [(1, sP), (2, pP), (4, iP .i64), (6, mP), (42, sP), (43, iP .i64), (44, iP .i64)] (lC (C13).P (C13).yld c13_249 84 [(1, sP), (2, pP), (4, iP .i64), (6, mP), (42, sP), (43, iP .i64), (44, iP .i64)] (outE noE (grabC 84 [(4, iP .i64), (5, bP)] XR) [(2, (grabC 84 [(4, iP .i64)] X2))]))) (outE noE (grabC 84 [(4, iP .i64), (5, bP)] XR) [(2, (grabC 84 [(4, iP .i64)] X2))]))) = z13_249 XR X2 v56 v57 v58 v59 v60 v61 v62 h63 := by kernel_rfl
theorem r13_249 (XR : Int → Bool → Heap → Prop) (X2 : Int → Heap → Prop) (v56 : Sl) (v57 : Option Addr) (v58 : Int) (v59 : Option Nat) (v60 : Sl) (v61 : Int) (v62 : Int) (h63 : Heap) (H : z13_249 XR X2 v56 v57 v58 v59 v60 v61 v62 h63) : l13_249 XR X2 v56 v57 v58 v59 v60 v61 v62 h63 := loop_stepE (p := 249) (N := 84) (keep := [(1, sP), (2, pP), (4, iP .i64), (6, mP), (42, sP), (43, iP .i64), (44, iP .i64)]) (o13) rfl s13_249 (k13_249 XR X2 v56 v57 v58 v59 v60 v61 v62 h63) (by kernel_rfl) H
def z13 (p0 : (Int × Sl × Unit)) (p1 : Sl) (h : Heap) (K : Int → Bool → Heap → Prop) : Prop :=
 (withH (Heap.new h (.cells [(.int .i64 p0.1), (Sl.v p0.2.1)] false)) fun h2 =>
 (Go.AM.get (asI .i64 (Heap.rd h2 ⟨h.next, 0, none⟩)) fun y8 =>
 (Go.AM.get (asS (Heap.rd h2 ⟨h.next, 1, none⟩)) fun y9 =>
 (t33 (y8, y9, ()) h2 fun r10 h11 =>
 (branch (r10 != 0)
 (K 0 false h11)
 (Go.AM.get (asI .i64 (Heap.rd h11 ⟨h.next, 0, none⟩)) fun y12 =>
 (branch (((p1.len : Nat) : Int) != y12)
 (K 0 false h11)
 (withH (Heap.new h11 (.map [])) fun h14 =>
 (Go.AM.get (asS (Heap.rd h14 ⟨h.next, 1, none⟩)) fun y50 =>
 (l13_121
 (fun z51 z52 z53 z54 h55 =>
 (l13_249
 (fun z76 z77 h78 =>
 (K z76 z77 h78))
 (fun z79 h80 =>
 (K (IntKind.wrap .i64 (Int.tdiv z79 2)) true h80))
 z51 z52 z53 z54 z51 ((z51.len : Nat) : Int) 0 h55))
 p1 (some ⟨h.next, 0, none⟩) 0 (some h11.next) y50 ((y50.len : Nat) : Int) 0 h14))))))))))
theorem k13 (p0 : (Int × Sl × Unit)) (p1 : Sl) (h : Heap) (K : Int → Bool → Heap → Prop) : fnK C13 Try.f13.results.toList Try.f13.ntmps b13 [(.agg ⟨[(.int .i64 p0.1), (Sl.v p0.2.1)]⟩), (Sl.v p1)] h (outC [iP .i64, bP] K) = z13 p0 p1 h K := by kernel_rfl
theorem r13 (p0 : (Int × Sl × Unit)) (p1 : Sl) (h : Heap) (K : Int → Bool → Heap → Prop) (H : z13 p0 p1 h K) : t13 p0 p1 h K := fn_stepE (C := C13) (fn := Try.f13) (g := 13) o13 rfl rfl (by kernel_rfl) (by kernel_rfl) (by kernel_rfl) (k13 p0 p1 h K) (by kernel_rfl) H

/-! 14: minikin/pair.IsBarrier -/
noncomputable def b14 : Code := Try.f14.body.getD .skip
noncomputable def C14 : Ctx := baseC Try.prog [95, 75] none (cons1 53 w53 (cons1 52 w52 (cons1 33 w33 (allF Try.prog)))) (allI Try.prog) none1
theorem o14 : CtxOK (C14) b14 := (addF (addF (addF (base_ok eqOK mixOK none b14) (wC_ok Try.prog 33 [aggP [iP .i64, sP]] [iP .i64])) (wC_ok Try.prog 52 [sP, iP .i64] [bP])) (wC_ok Try.prog 53 [aggP [iP .i64, sP], sP] [iP .i64]))
def z14 (p0 : (Int × Sl × Unit)) (p1 : Sl) (p2 : Int) (h : Heap) (K : Bool → Heap → Prop) : Prop :=
 (withH (Heap.new h (.cells [(.int .i64 p0.1), (Sl.v p0.2.1)] false)) fun h2 =>
 (Go.AM.get (asI .i64 (Heap.rd h2 ⟨h.next, 0, none⟩)) fun y11 =>
 (Go.AM.get (asS (Heap.rd h2 ⟨h.next, 1, none⟩)) fun y12 =>
 (t33 (y11, y12, ()) h2 fun r13 h14 =>
 (branch (r13 != 0)
 (K false h14)
 (Go.AM.get (asI .i64 (Heap.rd h14 ⟨h.next, 0, none⟩)) fun y15 =>
 (t52 p1 y15 h14 fun r16 h17 =>
 (branch (!r16)
 (K false h17)
 (branch (decide (p2 < 0))
 (K false h17)
 (Go.AM.get (asI .i64 (Heap.rd h17 ⟨h.next, 0, none⟩)) fun y18 =>
 (branch (decide (p2 > y18))
 (K false h17)
 (Go.AM.get (asI .i64 (Heap.rd h17 ⟨h.next, 0, none⟩)) fun y19 =>
 (Go.AM.get (asI .i64 (Heap.rd h17 ⟨h.next, 0, none⟩)) fun y20 =>
 (Go.AM.get (asS (Heap.rd h17 ⟨h.next, 1, none⟩)) fun y21 =>
 (t53 (y20, y21, ()) p1 h17 fun r22 h23 =>
 ((((.int .i64 ((p1.len : Nat) : Int)) : Value) = (.int .i64 ((p1.len : Nat) : Int))) ∧ ((Go.AM.get (asI .i64 (Heap.rd h23 ⟨h.next, 0, none⟩)) fun y24 =>
 (((.int .i64 y24) : Value) = (.int .i64 y19))) ∧ (K ((IntKind.wrap .i64 (2 * p2)) == (IntKind.wrap .i64 ((IntKind.wrap .i64 (y19 + ((p1.len : Nat) : Int))) - r22))) h23))))))))))))))))))
theorem k14 (p0 : (Int × Sl × Unit)) (p1 : Sl) (p2 : Int) (h : Heap) (K : Bool → Heap → Prop) : fnK C14 Try.f14.results.toList Try.f14.ntmps b14 [(.agg ⟨[(.int .i64 p0.1), (Sl.v p0.2.1)]⟩), (Sl.v p1), (.int .i64 p2)] h (outC [bP] K) = z14 p0 p1 p2 h K := by kernel_rfl
theorem r14 (p0 : (Int × Sl × Unit)) (p1 : Sl) (p2 : Int) (h : Heap) (K : Bool → Heap → Prop) (H : z14 p0 p1 p2 h K) : t14 p0 p1 p2 h K := fn_stepE (C := C14) (fn := Try.f14) (g := 14) o14 rfl rfl (by kernel_rfl) (by kernel_rfl) (by kernel_rfl) (k14 p0 p1 p2 h K) (by kernel_rfl) H

/-! 15: minikin/minikinlaw04.awake -/
noncomputable def b15 : Code := Try.f15.body.getD .skip
noncomputable def C15 : Ctx := baseC Try.prog [95, 75] none (cons1 22 w22 (cons1 44 w44 (cons1 16 w16 (allF Try.prog)))) (allI Try.prog) none1
theorem o15 : CtxOK (C15) b15 := (addF (addF (addF (base_ok eqOK mixOK none b15) (wC_ok Try.prog 16 [aggP [iP .i64, sP]] [aggP [sP, sP, sP], iP .i64])) (wC_ok Try.prog 44 [sP] [sP, iP .i64, iP .i64])) (wC_ok Try.prog 22 [iP .i64, sP] [sP, iP .i64]))
def z15  (h : Heap) (K : Bool → Heap → Prop) : Prop :=
 (withH (Heap.new h (.cells [(.int .i64 0), (.int .i64 1), (.int .i64 0), (.int .i64 2), (.int .i64 0), (.int .i64 3)] false)) fun h7 =>
 (t16 (4, (Sl.mk (some ⟨h.next, 0, (some 0)⟩) 3 3), ()) h7 fun r8 r9 h10 =>
 (withH (Heap.new h10 (.cells [(.slice none 0 0), (.slice none 0 0), (.slice none 0 0)] false)) fun h11 =>
 (Go.AM.get (Heap.wr h11 ⟨h10.next, 0, none⟩ [(Sl.v r8.1), (Sl.v r8.2.1), (Sl.v r8.2.2.1)]) fun h12 =>
 (withH (Heap.new h12 (.cells [(.int .i64 1), (.int .i64 2)] false)) fun h20 =>
 (withH (Heap.new h20 (.cells [(.int .i64 3), (.int .i64 5)] false)) fun h21 =>
 (withH (Heap.new h21 (.cells [(.slice (some ⟨h12.next, 0, (some 0)⟩) 2 2), (.slice (some ⟨h20.next, 0, (some 0)⟩) 2 2)] false)) fun h22 =>
 (t44 (Sl.mk (some ⟨h21.next, 0, (some 0)⟩) 2 2) h22 fun r23 r24 r25 h26 =>
 (withH (Heap.new h26 (.cells [(.int .i64 0), (.int .i64 2), (.int .i64 0), (.int .i64 3), (.int .i64 1), (.int .i64 3)] false)) fun h31 =>
 (t22 4 (Sl.mk (some ⟨h26.next, 0, (some 0)⟩) 3 3) h31 fun r32 r33 h34 =>
 (branch (r9 == 0)
 (branch (r25 == 0)
 (branch (r33 == 0)
 (Go.AM.get (asS (Heap.rd h34 ⟨h10.next, 0, none⟩)) fun y35 =>
 (branch (((y35.len : Nat) : Int) == 3)
 (Go.AM.get (asS (Heap.rd h34 ⟨h10.next, 1, none⟩)) fun y36 =>
 (branch (((y36.len : Nat) : Int) == 1)
 (branch (((r23.len : Nat) : Int) == 2)
 (Go.AM.get r23.a fun a37 =>
 (chk (idx 0 r23.len) <|
 (Go.AM.get (asI .i64 (Heap.rd h34 ⟨a37.block, a37.off, none⟩)) fun y38 =>
 (branch (y38 == 0)
 (branch (r24 == 6)
 (K (((r32.len : Nat) : Int) == 2) h34)
 (K false h34))
 (K false h34)))))
 (K false h34))
 (K false h34)))
 (K false h34)))
 (K false h34))
 (K false h34))
 (K false h34))))))))))))
theorem k15  (h : Heap) (K : Bool → Heap → Prop) : fnK C15 Try.f15.results.toList Try.f15.ntmps b15 [] h (outC [bP] K) = z15  h K := by kernel_rfl
theorem r15  (h : Heap) (K : Bool → Heap → Prop) (H : z15  h K) : t15  h K := fn_stepE (C := C15) (fn := Try.f15) (g := 15) o15 rfl rfl (by kernel_rfl) (by kernel_rfl) (by kernel_rfl) (k15  h K) (by kernel_rfl) H

/-! 16: minikin/pair.Divide -/
noncomputable def b16 : Code := Try.f16.body.getD .skip
noncomputable def C16 : Ctx := baseC Try.prog [95, 75] none (cons1 54 w54 (cons1 33 w33 (allF Try.prog))) (allI Try.prog) none1
theorem o16 : CtxOK (C16) b16 := (addF (addF (base_ok eqOK mixOK none b16) (wC_ok Try.prog 33 [aggP [iP .i64, sP]] [iP .i64])) (wC_ok Try.prog 54 [aggP [iP .i64, sP]] [aggP [sP, sP, sP]]))
def z16 (p0 : (Int × Sl × Unit)) (h : Heap) (K : (Sl × Sl × Sl × Unit) → Int → Heap → Prop) : Prop :=
 (withH (Heap.new h (.cells [(.int .i64 p0.1), (Sl.v p0.2.1)] false)) fun h3 =>
 (withH (Heap.new h3 (.cells [(.slice none 0 0), (.slice none 0 0), (.slice none 0 0)] false)) fun h4 =>
 (Go.AM.get (asI .i64 (Heap.rd h4 ⟨h.next, 0, none⟩)) fun y9 =>
 (Go.AM.get (asS (Heap.rd h4 ⟨h.next, 1, none⟩)) fun y10 =>
 (t33 (y9, y10, ()) h4 fun r11 h12 =>
 (branch (r11 != 0)
 (Go.AM.get (Heap.wr h12 ⟨h3.next, 0, none⟩ [(.slice none 0 0), (.slice none 0 0), (.slice none 0 0)]) fun h13 =>
 (Go.AM.get (asS (Heap.rd h13 ⟨h3.next, 0, none⟩)) fun y14 =>
 (Go.AM.get (asS (Heap.rd h13 ⟨h3.next, 1, none⟩)) fun y15 =>
 (Go.AM.get (asS (Heap.rd h13 ⟨h3.next, 2, none⟩)) fun y16 =>
 (K (y14, y15, y16, ()) r11 h13)))))
 (Go.AM.get (asI .i64 (Heap.rd h12 ⟨h.next, 0, none⟩)) fun y17 =>
 (Go.AM.get (asS (Heap.rd h12 ⟨h.next, 1, none⟩)) fun y18 =>
 (t54 (y17, y18, ()) h12 fun r19 h20 =>
 (Go.AM.get (Heap.wr h20 ⟨h3.next, 0, none⟩ [(Sl.v r19.1), (Sl.v r19.2.1), (Sl.v r19.2.2.1)]) fun h21 =>
 (Go.AM.get (asS (Heap.rd h21 ⟨h3.next, 0, none⟩)) fun y22 =>
 (Go.AM.get (asS (Heap.rd h21 ⟨h3.next, 1, none⟩)) fun y23 =>
 (Go.AM.get (asS (Heap.rd h21 ⟨h3.next, 2, none⟩)) fun y24 =>
 (K (y22, y23, y24, ()) 0 h21))))))))))))))
theorem k16 (p0 : (Int × Sl × Unit)) (h : Heap) (K : (Sl × Sl × Sl × Unit) → Int → Heap → Prop) : fnK C16 Try.f16.results.toList Try.f16.ntmps b16 [(.agg ⟨[(.int .i64 p0.1), (Sl.v p0.2.1)]⟩)] h (outC [aggP [sP, sP, sP], iP .i64] K) = z16 p0 h K := by kernel_rfl
theorem r16 (p0 : (Int × Sl × Unit)) (h : Heap) (K : (Sl × Sl × Sl × Unit) → Int → Heap → Prop) (H : z16 p0 h K) : t16 p0 h K := fn_stepE (C := C16) (fn := Try.f16) (g := 16) o16 rfl rfl (by kernel_rfl) (by kernel_rfl) (by kernel_rfl) (k16 p0 h K) (by kernel_rfl) H

/-! 17: minikin/minikinref04.Has -/
noncomputable def b17 : Code := Try.f17.body.getD .skip
noncomputable def c17_25 : Code := (subN b17 51).getD .skip
theorem s17_25 : subN b17 51 = some c17_25 := by kernel_rfl
theorem sl17_25 : subN b17 25 = some (.loop c17_25) := by kernel_rfl
noncomputable def l17_25 (XR : Bool → Heap → Prop) (X0 : Heap → Prop) : Sl → Int → Int → Heap → Prop := lC Try.prog none c17_25 18 [(0, sP), (1, iP .i64), (5, iP .i64)] (outE noE (grabC 18 [(4, bP)] XR) [(0, (grabC 18 [] X0))])
noncomputable def C17 : Ctx := baseC Try.prog [95, 75] none (allF Try.prog) (allI Try.prog) (cons1 25 (gC 18 [(0, sP), (1, iP .i64), (5, iP .i64)] none (some [(4, bP)]) [(0, [])] (lC Try.prog none c17_25 18 [(0, sP), (1, iP .i64), (5, iP .i64)])) none1)
theorem o17 : CtxOK (C17) b17 := (addL (base_ok eqOK mixOK none b17) sl17_25)
def z17_25 (XR : Bool → Heap → Prop) (X0 : Heap → Prop) (v1 : Sl) (v2 : Int) (v3 : Int) (h4 : Heap) : Prop :=
 (branch (decide (v3 < ((v1.len : Nat) : Int)))
 (Go.AM.get v1.a fun a5 =>
 (chk (idx v3 v1.len) <|
 (Go.AM.get (asI .i64 (Heap.rd h4 ⟨a5.block, (a5.off + ((Int.toNat v3) * 1)), none⟩)) fun y6 =>
 (branch (y6 == v2)
 (XR true h4)
 (l17_25 XR X0 v1 v2 (IntKind.wrap .i64 (v3 + 1)) h4)))))
 (X0 h4))
theorem k17_25 (XR : Bool → Heap → Prop) (X0 : Heap → Prop) (v1 : Sl) (v2 : Int) (v3 : Int) (h4 : Heap) : (exec (C17) c17_25 false 51 (Fr.put (Fr.put (Fr.put (Fr0 18) (some 0) (Sl.v v1)) (some 1) (.int .i64 v2)) (some 5) (.int .i64 v3)) h4 (loopE (grabC 18 [(0, sP), (1, iP .i64), (5, iP .i64)] (lC (C17).P (C17).yld c17_25 18 [(0, sP), (1, iP .i64), (5, iP .i64)] (outE noE (grabC 18 [(4, bP)] XR) [(0, (grabC 18 [] X0))]))) (outE noE (grabC 18 [(4, bP)] XR) [(0, (grabC 18 [] X0))]))) = z17_25 XR X0 v1 v2 v3 h4 := by kernel_rfl
theorem r17_25 (XR : Bool → Heap → Prop) (X0 : Heap → Prop) (v1 : Sl) (v2 : Int) (v3 : Int) (h4 : Heap) (H : z17_25 XR X0 v1 v2 v3 h4) : l17_25 XR X0 v1 v2 v3 h4 := loop_stepE (p := 25) (N := 18) (keep := [(0, sP), (1, iP .i64), (5, iP .i64)]) (o17) rfl s17_25 (k17_25 XR X0 v1 v2 v3 h4) (by kernel_rfl) H
def z17 (p0 : Sl) (p1 : Int) (h : Heap) (K : Bool → Heap → Prop) : Prop :=
 (l17_25
 (fun z7 h8 =>
 (K z7 h8))
 (fun h9 =>
 (K false h9))
 p0 p1 0 h)
theorem k17 (p0 : Sl) (p1 : Int) (h : Heap) (K : Bool → Heap → Prop) : fnK C17 Try.f17.results.toList Try.f17.ntmps b17 [(Sl.v p0), (.int .i64 p1)] h (outC [bP] K) = z17 p0 p1 h K := by kernel_rfl
theorem r17 (p0 : Sl) (p1 : Int) (h : Heap) (K : Bool → Heap → Prop) (H : z17 p0 p1 h K) : t17 p0 p1 h K := fn_stepE (C := C17) (fn := Try.f17) (g := 17) o17 rfl rfl (by kernel_rfl) (by kernel_rfl) (by kernel_rfl) (k17 p0 p1 h K) (by kernel_rfl) H

/-! 18: minikin/minikinref04.Falls -/
noncomputable def b18 : Code := Try.f18.body.getD .skip
noncomputable def c18_128242248 : Code := (subN b18 128242248).getD .skip
theorem s18_128242248 : subN b18 128242248 = some c18_128242248 := by kernel_rfl
noncomputable def q18_128242248 (XN : Sl → Option Addr → Sl → Sl → Int → Sl → Int → Int → Heap → Prop) : Sl → Option Addr → Sl → Sl → Int → Sl → Int → Int → Bool → Heap → Prop := qC Try.prog none c18_128242248 70 [(1, sP), (2, pP), (5, sP), (6, sP), (7, iP .i64), (8, sP), (9, iP .i64), (10, iP .i64), (57, bP)] (outE (grabC 70 [(1, sP), (2, pP), (5, sP), (6, sP), (7, iP .i64), (8, sP), (9, iP .i64), (10, iP .i64)] XN) noE [])
noncomputable def c18_4007569 : Code := (subN b18 8015139).getD .skip
theorem s18_4007569 : subN b18 8015139 = some c18_4007569 := by kernel_rfl
theorem sl18_4007569 : subN b18 4007569 = some (.loop c18_4007569) := by kernel_rfl
noncomputable def l18_4007569 (X4 : Sl → Option Addr → Sl → Sl → Int → Sl → Int → Heap → Prop) : Sl → Option Addr → Sl → Sl → Int → Sl → Int → Int → Heap → Prop := lC Try.prog none c18_4007569 70 [(1, sP), (2, pP), (5, sP), (6, sP), (7, iP .i64), (8, sP), (9, iP .i64), (10, iP .i64)] (outE noE noE [(4, (grabC 70 [(1, sP), (2, pP), (5, sP), (6, sP), (7, iP .i64), (8, sP), (9, iP .i64)] X4))])
noncomputable def c18_62617 : Code := (subN b18 125235).getD .skip
theorem s18_62617 : subN b18 125235 = some c18_62617 := by kernel_rfl
theorem sl18_62617 : subN b18 62617 = some (.loop c18_62617) := by kernel_rfl
noncomputable def l18_62617 (X2 : Sl → Option Addr → Sl → Sl → Int → Sl → Heap → Prop) : Sl → Option Addr → Sl → Sl → Int → Sl → Int → Heap → Prop := lC Try.prog none c18_62617 70 [(1, sP), (2, pP), (5, sP), (6, sP), (7, iP .i64), (8, sP), (9, iP .i64)] (outE noE noE [(2, (grabC 70 [(1, sP), (2, pP), (5, sP), (6, sP), (7, iP .i64), (8, sP)] X2))])
noncomputable def c18_121 : Code := (subN b18 243).getD .skip
theorem s18_121 : subN b18 243 = some c18_121 := by kernel_rfl
theorem sl18_121 : subN b18 121 = some (.loop c18_121) := by kernel_rfl
noncomputable def l18_121 (X0 : Sl → Heap → Prop) : Sl → Option Addr → Sl → Sl → Int → Heap → Prop := lC Try.prog none c18_121 70 [(1, sP), (2, pP), (5, sP), (6, sP), (7, iP .i64)] (outE noE noE [(0, (grabC 70 [(5, sP)] X0))])
noncomputable def C18 : Ctx := baseC Try.prog [95, 75] none (cons1 48 w48 (cons1 17 w17 (allF Try.prog))) (allI Try.prog) (cons1 121 (gC 70 [(1, sP), (2, pP), (5, sP), (6, sP), (7, iP .i64)] none none [(0, [(5, sP)])] (lC Try.prog none c18_121 70 [(1, sP), (2, pP), (5, sP), (6, sP), (7, iP .i64)])) (cons1 62617 (gC 70 [(1, sP), (2, pP), (5, sP), (6, sP), (7, iP .i64), (8, sP), (9, iP .i64)] none none [(2, [(1, sP), (2, pP), (5, sP), (6, sP), (7, iP .i64), (8, sP)])] (lC Try.prog none c18_62617 70 [(1, sP), (2, pP), (5, sP), (6, sP), (7, iP .i64), (8, sP), (9, iP .i64)])) (cons1 4007569 (gC 70 [(1, sP), (2, pP), (5, sP), (6, sP), (7, iP .i64), (8, sP), (9, iP .i64), (10, iP .i64)] none none [(4, [(1, sP), (2, pP), (5, sP), (6, sP), (7, iP .i64), (8, sP), (9, iP .i64)])] (lC Try.prog none c18_4007569 70 [(1, sP), (2, pP), (5, sP), (6, sP), (7, iP .i64), (8, sP), (9, iP .i64), (10, iP .i64)])) (cons1 128242248 (gC 70 [(1, sP), (2, pP), (5, sP), (6, sP), (7, iP .i64), (8, sP), (9, iP .i64), (10, iP .i64), (57, bP)] (some [(1, sP), (2, pP), (5, sP), (6, sP), (7, iP .i64), (8, sP), (9, iP .i64), (10, iP .i64)]) none [] (qC Try.prog none c18_128242248 70 [(1, sP), (2, pP), (5, sP), (6, sP), (7, iP .i64), (8, sP), (9, iP .i64), (10, iP .i64), (57, bP)])) none1))))
theorem o18 : CtxOK (C18) b18 := (addL (addL (addL (addQ (addF (addF (base_ok eqOK mixOK none b18) (wC_ok Try.prog 17 [sP, iP .i64] [bP])) (wC_ok Try.prog 48 [aggP [iP .i64, sP], iP .i64, iP .i64] [bP])) s18_128242248) sl18_4007569) sl18_62617) sl18_121)
def z18_128242248 (XN : Sl → Option Addr → Sl → Sl → Int → Sl → Int → Int → Heap → Prop) (v55 : Sl) (v56 : Option Addr) (v57 : Sl) (v58 : Sl) (v59 : Int) (v60 : Sl) (v61 : Int) (v62 : Int) (v63 : Bool) (h64 : Heap) : Prop :=
 (branch v63
 (withH (Heap.new h64 (.cells [(.int .i64 v62)] false)) fun h65 =>
 (Go.AM.get (Heap.rdN h65 ⟨h64.next, 0, none⟩ 1) fun y66 =>
 (Go.AM.get (Heap.app h65 1 8 v60 1 y66) fun r67 =>
 (XN v55 v56 v57 v58 v59 r67.1 v61 v62 r67.2))))
 (XN v55 v56 v57 v58 v59 v60 v61 v62 h64))
theorem k18_128242248 (XN : Sl → Option Addr → Sl → Sl → Int → Sl → Int → Int → Heap → Prop) (v55 : Sl) (v56 : Option Addr) (v57 : Sl) (v58 : Sl) (v59 : Int) (v60 : Sl) (v61 : Int) (v62 : Int) (v63 : Bool) (h64 : Heap) : (exec (C18) c18_128242248 true 128242248 (Fr.put (Fr.put (Fr.put (Fr.put (Fr.put (Fr.put (Fr.put (Fr.put (Fr.put (Fr0 70) (some 1) (Sl.v v55)) (some 2) (.pointer v56)) (some 5) (Sl.v v57)) (some 6) (Sl.v v58)) (some 7) (.int .i64 v59)) (some 8) (Sl.v v60)) (some 9) (.int .i64 v61)) (some 10) (.int .i64 v62)) (some 57) (.bool v63)) h64 (outE (grabC 70 [(1, sP), (2, pP), (5, sP), (6, sP), (7, iP .i64), (8, sP), (9, iP .i64), (10, iP .i64)] XN) noE [])) = z18_128242248 XN v55 v56 v57 v58 v59 v60 v61 v62 v63 h64 := by kernel_rfl
theorem r18_128242248 (XN : Sl → Option Addr → Sl → Sl → Int → Sl → Int → Int → Heap → Prop) (v55 : Sl) (v56 : Option Addr) (v57 : Sl) (v58 : Sl) (v59 : Int) (v60 : Sl) (v61 : Int) (v62 : Int) (v63 : Bool) (h64 : Heap) (H : z18_128242248 XN v55 v56 v57 v58 v59 v60 v61 v62 v63 h64) : q18_128242248 XN v55 v56 v57 v58 v59 v60 v61 v62 v63 h64 := piece_stepE (p := 128242248) (o18) rfl s18_128242248 (k18_128242248 XN v55 v56 v57 v58 v59 v60 v61 v62 v63 h64) (by kernel_rfl) H
def z18_4007569 (X4 : Sl → Option Addr → Sl → Sl → Int → Sl → Int → Heap → Prop) (v31 : Sl) (v32 : Option Addr) (v33 : Sl) (v34 : Sl) (v35 : Int) (v36 : Sl) (v37 : Int) (v38 : Int) (h39 : Heap) : Prop :=
 (Go.AM.get v32 fun a42 =>
 (Go.AM.get (asI .i64 (Heap.rd h39 ⟨a42.block, a42.off, none⟩)) fun y43 =>
 (branch (decide (v38 < y43))
 (Go.AM.get v32 fun a68 =>
 (Go.AM.get (asI .i64 (Heap.rd h39 ⟨a68.block, a68.off, none⟩)) fun y69 =>
 (Go.AM.get (asS (Heap.rd h39 ⟨a68.block, (a68.off + 1), none⟩)) fun y70 =>
 (Go.AM.get v36.a fun a71 =>
 (chk (idx v37 v36.len) <|
 (Go.AM.get (asI .i64 (Heap.rd h39 ⟨a71.block, (a71.off + ((Int.toNat v37) * 1)), none⟩)) fun y72 =>
 (t48 (y69, y70, ()) y72 v38 h39 fun r73 h74 =>
 (branch r73
 (t17 v31 v38 h74 fun r75 h76 =>
 (branch (!r75)
 (t17 v36 v38 h76 fun r77 h78 =>
 (q18_128242248
 (fun z79 z80 z81 z82 z83 z84 z85 z86 h87 =>
 (l18_4007569 X4 z79 z80 z81 z82 z83 z84 z85 (IntKind.wrap .i64 (z86 + 1)) h87))
 v31 v32 v33 v34 v35 v36 v37 v38 (!r77) h78))
 (q18_128242248
 (fun z88 z89 z90 z91 z92 z93 z94 z95 h96 =>
 (l18_4007569 X4 z88 z89 z90 z91 z92 z93 z94 (IntKind.wrap .i64 (z95 + 1)) h96))
 v31 v32 v33 v34 v35 v36 v37 v38 false h76)))
 (q18_128242248
 (fun z97 z98 z99 z100 z101 z102 z103 z104 h105 =>
 (l18_4007569 X4 z97 z98 z99 z100 z101 z102 z103 (IntKind.wrap .i64 (z104 + 1)) h105))
 v31 v32 v33 v34 v35 v36 v37 v38 false h74)))))))))
 (X4 v31 v32 v33 v34 v35 v36 v37 h39))))
theorem k18_4007569 (X4 : Sl → Option Addr → Sl → Sl → Int → Sl → Int → Heap → Prop) (v31 : Sl) (v32 : Option Addr) (v33 : Sl) (v34 : Sl) (v35 : Int) (v36 : Sl) (v37 : Int) (v38 : Int) (h39 : Heap) : (exec (C18) c18_4007569 false 8015139 (Fr.put (Fr.put (Fr.put (Fr.put (Fr.put (Fr.put (Fr.put (Fr.put (Fr0 70) (some 1) (Sl.v v31)) (some 2) (.pointer v32)) (some 5) (Sl.v v33)) (some 6) (Sl.v v34)) (some 7) (.int .i64 v35)) (some 8) (Sl.v v36)) (some 9) (.int .i64 v37)) (some 10) (.int .i64 v38)) h39 (loopE (grabC 70 [(1, sP), (2, pP), (5, sP), (6, sP), (7, iP .i64), (8, sP), (9, iP .i64), (10, iP .i64)] (lC (C18).P (C18).yld c18_4007569 70 [(1, sP), (2, pP), (5, sP), (6, sP), (7, iP .i64), (8, sP), (9, iP .i64), (10, iP .i64)] (outE noE noE [(4, (grabC 70 [(1, sP), (2, pP), (5, sP), (6, sP), (7, iP .i64), (8, sP), (9, iP .i64)] X4))]))) (outE noE noE [(4, (grabC 70 [(1, sP), (2, pP), (5, sP), (6, sP), (7, iP .i64), (8, sP), (9, iP .i64)] X4))]))) = z18_4007569 X4 v31 v32 v33 v34 v35 v36 v37 v38 h39 := by kernel_rfl
theorem r18_4007569 (X4 : Sl → Option Addr → Sl → Sl → Int → Sl → Int → Heap → Prop) (v31 : Sl) (v32 : Option Addr) (v33 : Sl) (v34 : Sl) (v35 : Int) (v36 : Sl) (v37 : Int) (v38 : Int) (h39 : Heap) (H : z18_4007569 X4 v31 v32 v33 v34 v35 v36 v37 v38 h39) : l18_4007569 X4 v31 v32 v33 v34 v35 v36 v37 v38 h39 := loop_stepE (p := 4007569) (N := 70) (keep := [(1, sP), (2, pP), (5, sP), (6, sP), (7, iP .i64), (8, sP), (9, iP .i64), (10, iP .i64)]) (o18) rfl s18_4007569 (k18_4007569 X4 v31 v32 v33 v34 v35 v36 v37 v38 h39) (by kernel_rfl) H
def z18_62617 (X2 : Sl → Option Addr → Sl → Sl → Int → Sl → Heap → Prop) (v23 : Sl) (v24 : Option Addr) (v25 : Sl) (v26 : Sl) (v27 : Int) (v28 : Sl) (v29 : Int) (h30 : Heap) : Prop :=
 (branch (decide (v29 < ((v28.len : Nat) : Int)))
 (l18_4007569
 (fun z106 z107 z108 z109 z110 z111 z112 h113 =>
 (l18_62617 X2 z106 z107 z108 z109 z110 z111 (IntKind.wrap .i64 (z112 + 1)) h113))
 v23 v24 v25 v26 v27 v28 v29 0 h30)
 (X2 v23 v24 v25 v26 v27 v28 h30))
theorem k18_62617 (X2 : Sl → Option Addr → Sl → Sl → Int → Sl → Heap → Prop) (v23 : Sl) (v24 : Option Addr) (v25 : Sl) (v26 : Sl) (v27 : Int) (v28 : Sl) (v29 : Int) (h30 : Heap) : (exec (C18) c18_62617 false 125235 (Fr.put (Fr.put (Fr.put (Fr.put (Fr.put (Fr.put (Fr.put (Fr0 70) (some 1) (Sl.v v23)) (some 2) (.pointer v24)) (some 5) (Sl.v v25)) (some 6) (Sl.v v26)) (some 7) (.int .i64 v27)) (some 8) (Sl.v v28)) (some 9) (.int .i64 v29)) h30 (loopE (grabC 70 [(1, sP), (2, pP), (5, sP), (6, sP), (7, iP .i64), (8, sP), (9, iP .i64)] (lC (C18).P (C18).yld c18_62617 70 [(1, sP), (2, pP), (5, sP), (6, sP), (7, iP .i64), (8, sP), (9, iP .i64)] (outE noE noE [(2, (grabC 70 [(1, sP), (2, pP), (5, sP), (6, sP), (7, iP .i64), (8, sP)] X2))]))) (outE noE noE [(2, (grabC 70 [(1, sP), (2, pP), (5, sP), (6, sP), (7, iP .i64), (8, sP)] X2))]))) = z18_62617 X2 v23 v24 v25 v26 v27 v28 v29 h30 := by kernel_rfl
theorem r18_62617 (X2 : Sl → Option Addr → Sl → Sl → Int → Sl → Heap → Prop) (v23 : Sl) (v24 : Option Addr) (v25 : Sl) (v26 : Sl) (v27 : Int) (v28 : Sl) (v29 : Int) (h30 : Heap) (H : z18_62617 X2 v23 v24 v25 v26 v27 v28 v29 h30) : l18_62617 X2 v23 v24 v25 v26 v27 v28 v29 h30 := loop_stepE (p := 62617) (N := 70) (keep := [(1, sP), (2, pP), (5, sP), (6, sP), (7, iP .i64), (8, sP), (9, iP .i64)]) (o18) rfl s18_62617 (k18_62617 X2 v23 v24 v25 v26 v27 v28 v29 h30) (by kernel_rfl) H
def z18_121 (X0 : Sl → Heap → Prop) (v3 : Sl) (v4 : Option Addr) (v5 : Sl) (v6 : Sl) (v7 : Int) (h8 : Heap) : Prop :=
 (Go.AM.get v4 fun a11 =>
 (Go.AM.get (asI .i64 (Heap.rd h8 ⟨a11.block, a11.off, none⟩)) fun y12 =>
 (branch (decide (v7 < y12))
 (t17 v3 v7 h8 fun r17 h18 =>
 (branch r17
 (l18_121 X0 v3 v4 v5 v6 (IntKind.wrap .i64 (v7 + 1)) h18)
 (t17 v6 v7 h18 fun r19 h20 =>
 (branch r19
 (l18_121 X0 v3 v4 v5 v6 (IntKind.wrap .i64 (v7 + 1)) h20)
 (withH (Heap.new h20 (.cells [(.int .i64 v7)] false)) fun h22 =>
 (l18_62617
 (fun z121 z122 z123 z124 z125 z126 h127 =>
 (optK z126.a
 (withH (Heap.new h127 (.cells [(Sl.v z126)] false)) fun h129 =>
 (Go.AM.get (Heap.rdN h129 ⟨h127.next, 0, none⟩ 1) fun y130 =>
 (Go.AM.get (Heap.app h129 1 24 z123 1 y130) fun r131 =>
 (l18_121 X0 z121 z122 r131.1 z124 (IntKind.wrap .i64 (z125 + 1)) r131.2))))
 fun a128 =>
 (Go.AM.get (Heap.rdN h127 ⟨a128.block, a128.off, none⟩ (z126.len * 1)) fun y132 =>
 (Go.AM.get (Heap.app h127 1 8 z124 z126.len y132) fun r133 =>
 (withH (Heap.new r133.2 (.cells [(Sl.v z126)] false)) fun h134 =>
 (Go.AM.get (Heap.rdN h134 ⟨r133.2.next, 0, none⟩ 1) fun y135 =>
 (Go.AM.get (Heap.app h134 1 24 z123 1 y135) fun r136 =>
 (l18_121 X0 z121 z122 r136.1 r133.1 (IntKind.wrap .i64 (z125 + 1)) r136.2))))))))
 v3 v4 v5 v6 v7 (Sl.mk (some ⟨h20.next, 0, (some 0)⟩) 1 1) 0 h22))))))
 (X0 v5 h8))))
theorem k18_121 (X0 : Sl → Heap → Prop) (v3 : Sl) (v4 : Option Addr) (v5 : Sl) (v6 : Sl) (v7 : Int) (h8 : Heap) : (exec (C18) c18_121 false 243 (Fr.put (Fr.put (Fr.put (Fr.put (Fr.put (Fr0 70) (some 1) (Sl.v v3)) (some 2) (.pointer v4)) (some 5) (Sl.v v5)) (some 6) (Sl.v v6)) (some 7) (.int .i64 v7)) h8 (loopE (grabC 70 [(1, sP), (2, pP), (5, sP), (6, sP), (7, iP .i64)] (lC (C18).P (C18).yld c18_121 70 [(1, sP), (2, pP), (5, sP), (6, sP), (7, iP .i64)] (outE noE noE [(0, (grabC 70 [(5, sP)] X0))]))) (outE noE noE [(0, (grabC 70 [(5, sP)] X0))]))) = z18_121 X0 v3 v4 v5 v6 v7 h8 := by kernel_rfl
theorem r18_121 (X0 : Sl → Heap → Prop) (v3 : Sl) (v4 : Option Addr) (v5 : Sl) (v6 : Sl) (v7 : Int) (h8 : Heap) (H : z18_121 X0 v3 v4 v5 v6 v7 h8) : l18_121 X0 v3 v4 v5 v6 v7 h8 := loop_stepE (p := 121) (N := 70) (keep := [(1, sP), (2, pP), (5, sP), (6, sP), (7, iP .i64)]) (o18) rfl s18_121 (k18_121 X0 v3 v4 v5 v6 v7 h8) (by kernel_rfl) H
def z18 (p0 : (Int × Sl × Unit)) (p1 : Sl) (h : Heap) (K : Sl → Heap → Prop) : Prop :=
 (withH (Heap.new h (.cells [(.int .i64 p0.1), (Sl.v p0.2.1)] false)) fun h2 =>
 (l18_121
 (fun z137 h138 =>
 (K z137 h138))
 p1 (some ⟨h.next, 0, none⟩) (Sl.mk none 0 0) (Sl.mk none 0 0) 0 h2))
theorem k18 (p0 : (Int × Sl × Unit)) (p1 : Sl) (h : Heap) (K : Sl → Heap → Prop) : fnK C18 Try.f18.results.toList Try.f18.ntmps b18 [(.agg ⟨[(.int .i64 p0.1), (Sl.v p0.2.1)]⟩), (Sl.v p1)] h (outC [sP] K) = z18 p0 p1 h K := by kernel_rfl
theorem r18 (p0 : (Int × Sl × Unit)) (p1 : Sl) (h : Heap) (K : Sl → Heap → Prop) (H : z18 p0 p1 h K) : t18 p0 p1 h K := fn_stepE (C := C18) (fn := Try.f18) (g := 18) o18 rfl rfl (by kernel_rfl) (by kernel_rfl) (by kernel_rfl) (k18 p0 p1 h K) (by kernel_rfl) H

/-! 19: minikin/minikinlaw04.whole -/
noncomputable def b19 : Code := Try.f19.body.getD .skip
noncomputable def c19_7825 : Code := (subN b19 15651).getD .skip
theorem s19_7825 : subN b19 15651 = some c19_7825 := by kernel_rfl
theorem sl19_7825 : subN b19 7825 = some (.loop c19_7825) := by kernel_rfl
noncomputable def l19_7825 (X2 : Sl → Option Addr → Option Addr → Int → Heap → Prop) : Sl → Option Addr → Option Addr → Int → Int → Heap → Prop := lC Try.prog none c19_7825 72 [(1, sP), (2, pP), (5, pP), (6, iP .i64), (7, iP .i64)] (outE noE noE [(2, (grabC 72 [(1, sP), (2, pP), (5, pP), (6, iP .i64)] X2))])
noncomputable def c19_121 : Code := (subN b19 243).getD .skip
theorem s19_121 : subN b19 243 = some c19_121 := by kernel_rfl
theorem sl19_121 : subN b19 121 = some (.loop c19_121) := by kernel_rfl
noncomputable def l19_121 (X0 : Sl → Option Addr → Heap → Prop) : Sl → Option Addr → Option Addr → Int → Heap → Prop := lC Try.prog none c19_121 72 [(1, sP), (2, pP), (5, pP), (6, iP .i64)] (outE noE noE [(0, (grabC 72 [(1, sP), (5, pP)] X0))])
noncomputable def C19 : Ctx := baseC Try.prog [95, 75] none (cons1 13 w13 (cons1 12 w12 (cons1 48 w48 (allF Try.prog)))) (allI Try.prog) (cons1 121 (gC 72 [(1, sP), (2, pP), (5, pP), (6, iP .i64)] none none [(0, [(1, sP), (5, pP)])] (lC Try.prog none c19_121 72 [(1, sP), (2, pP), (5, pP), (6, iP .i64)])) (cons1 7825 (gC 72 [(1, sP), (2, pP), (5, pP), (6, iP .i64), (7, iP .i64)] none none [(2, [(1, sP), (2, pP), (5, pP), (6, iP .i64)])] (lC Try.prog none c19_7825 72 [(1, sP), (2, pP), (5, pP), (6, iP .i64), (7, iP .i64)])) none1))
theorem o19 : CtxOK (C19) b19 := (addL (addL (addF (addF (addF (base_ok eqOK mixOK none b19) (wC_ok Try.prog 48 [aggP [iP .i64, sP], iP .i64, iP .i64] [bP])) (wC_ok Try.prog 12 [aggP [iP .i64, sP]] [sP, iP .i64])) (wC_ok Try.prog 13 [aggP [iP .i64, sP], sP] [iP .i64, bP])) sl19_7825) sl19_121)
def z19_7825 (X2 : Sl → Option Addr → Option Addr → Int → Heap → Prop) (v12 : Sl) (v13 : Option Addr) (v14 : Option Addr) (v15 : Int) (v16 : Int) (h17 : Heap) : Prop :=
 (branch (decide (v16 < v15))
 (Go.AM.get v13 fun a27 =>
 (Go.AM.get (asI .i64 (Heap.rd h17 ⟨a27.block, a27.off, none⟩)) fun y28 =>
 (Go.AM.get (asS (Heap.rd h17 ⟨a27.block, (a27.off + 1), none⟩)) fun y29 =>
 (Go.AM.get v12.a fun a30 =>
 (chk (idx v15 v12.len) <|
 (Go.AM.get (asI .i64 (Heap.rd h17 ⟨a30.block, (a30.off + ((Int.toNat v15) * 1)), none⟩)) fun y31 =>
 (Go.AM.get v12.a fun a32 =>
 (chk (idx v16 v12.len) <|
 (Go.AM.get (asI .i64 (Heap.rd h17 ⟨a32.block, (a32.off + ((Int.toNat v16) * 1)), none⟩)) fun y33 =>
 (t48 (y28, y29, ()) y31 y33 h17 fun r34 h35 =>
 (branch r34
 (Go.AM.get v14 fun a38 =>
 (Go.AM.get (asS (Heap.rd h35 ⟨a38.block, (a38.off + 1), none⟩)) fun y39 =>
 (withH (Heap.new h35 (.cells [(.int .i64 v16), (.int .i64 v15)] false)) fun h40 =>
 (Go.AM.get (Heap.rdN h40 ⟨h35.next, 0, none⟩ 2) fun y41 =>
 (Go.AM.get (Heap.app h40 2 16 y39 1 y41) fun r42 =>
 (Go.AM.get v14 fun a43 =>
 (Go.AM.get (Heap.wr r42.2 ⟨a43.block, (a43.off + 1), none⟩ [(Sl.v r42.1)]) fun h44 =>
 (l19_7825 X2 v12 v13 v14 v15 (IntKind.wrap .i64 (v16 + 1)) h44))))))))
 (l19_7825 X2 v12 v13 v14 v15 (IntKind.wrap .i64 (v16 + 1)) h35))))))))))))
 (X2 v12 v13 v14 v15 h17))
theorem k19_7825 (X2 : Sl → Option Addr → Option Addr → Int → Heap → Prop) (v12 : Sl) (v13 : Option Addr) (v14 : Option Addr) (v15 : Int) (v16 : Int) (h17 : Heap) : (exec (C19) c19_7825 false 15651 (Fr.put (Fr.put (Fr.put (Fr.put (Fr.put (Fr0 72) (some 1) (Sl.v v12)) (some 2) (.pointer v13)) (some 5) (.pointer v14)) (some 6) (.int .i64 v15)) (some 7) (.int .i64 v16)) h17 (loopE (grabC 72 [(1, sP), (2, pP), (5, pP), (6, iP .i64), (7, iP .i64)] (lC (C19).P (C19).yld c19_7825 72 [(1, sP), (2, pP), (5, pP), (6, iP .i64), (7, iP .i64)] (outE noE noE [(2, (grabC 72 [(1, sP), (2, pP), (5, pP), (6, iP .i64)] X2))]))) (outE noE noE [(2, (grabC 72 [(1, sP), (2, pP), (5, pP), (6, iP .i64)] X2))]))) = z19_7825 X2 v12 v13 v14 v15 v16 h17 := by kernel_rfl
theorem r19_7825 (X2 : Sl → Option Addr → Option Addr → Int → Heap → Prop) (v12 : Sl) (v13 : Option Addr) (v14 : Option Addr) (v15 : Int) (v16 : Int) (h17 : Heap) (H : z19_7825 X2 v12 v13 v14 v15 v16 h17) : l19_7825 X2 v12 v13 v14 v15 v16 h17 := loop_stepE (p := 7825) (N := 72) (keep := [(1, sP), (2, pP), (5, pP), (6, iP .i64), (7, iP .i64)]) (o19) rfl s19_7825 (k19_7825 X2 v12 v13 v14 v15 v16 h17) (by kernel_rfl) H
def z19_121 (X0 : Sl → Option Addr → Heap → Prop) (v7 : Sl) (v8 : Option Addr) (v9 : Option Addr) (v10 : Int) (h11 : Heap) : Prop :=
 (branch (decide (v10 < ((v7.len : Nat) : Int)))
 (l19_7825
 (fun z45 z46 z47 z48 h49 =>
 (l19_121 X0 z45 z46 z47 (IntKind.wrap .i64 (z48 + 1)) h49))
 v7 v8 v9 v10 0 h11)
 (X0 v7 v9 h11))
theorem k19_121 (X0 : Sl → Option Addr → Heap → Prop) (v7 : Sl) (v8 : Option Addr) (v9 : Option Addr) (v10 : Int) (h11 : Heap) : (exec (C19) c19_121 false 243 (Fr.put (Fr.put (Fr.put (Fr.put (Fr0 72) (some 1) (Sl.v v7)) (some 2) (.pointer v8)) (some 5) (.pointer v9)) (some 6) (.int .i64 v10)) h11 (loopE (grabC 72 [(1, sP), (2, pP), (5, pP), (6, iP .i64)] (lC (C19).P (C19).yld c19_121 72 [(1, sP), (2, pP), (5, pP), (6, iP .i64)] (outE noE noE [(0, (grabC 72 [(1, sP), (5, pP)] X0))]))) (outE noE noE [(0, (grabC 72 [(1, sP), (5, pP)] X0))]))) = z19_121 X0 v7 v8 v9 v10 h11 := by kernel_rfl
theorem r19_121 (X0 : Sl → Option Addr → Heap → Prop) (v7 : Sl) (v8 : Option Addr) (v9 : Option Addr) (v10 : Int) (h11 : Heap) (H : z19_121 X0 v7 v8 v9 v10 h11) : l19_121 X0 v7 v8 v9 v10 h11 := loop_stepE (p := 121) (N := 72) (keep := [(1, sP), (2, pP), (5, pP), (6, iP .i64)]) (o19) rfl s19_121 (k19_121 X0 v7 v8 v9 v10 h11) (by kernel_rfl) H
def z19 (p0 : (Int × Sl × Unit)) (p1 : Sl) (h : Heap) (K : Bool → Heap → Prop) : Prop :=
 (withH (Heap.new h (.cells [(.int .i64 p0.1), (Sl.v p0.2.1)] false)) fun h2 =>
 (branch (((p1.len : Nat) : Int) == 0)
 (K true h2)
 (withH (Heap.new h2 (.cells [(.int .i64 0), (.slice none 0 0)] false)) fun h5 =>
 (Go.AM.get (Heap.wr h5 ⟨h2.next, 0, none⟩ [(.int .i64 ((p1.len : Nat) : Int)), (.slice none 0 0)]) fun h6 =>
 (l19_121
 (fun z53 z54 h55 =>
 (Go.AM.get z54 fun a62 =>
 (Go.AM.get (asI .i64 (Heap.rd h55 ⟨a62.block, a62.off, none⟩)) fun y63 =>
 (Go.AM.get (asS (Heap.rd h55 ⟨a62.block, (a62.off + 1), none⟩)) fun y64 =>
 (t12 (y63, y64, ()) h55 fun r65 r66 h67 =>
 (Go.AM.get z54 fun a74 =>
 (Go.AM.get (asI .i64 (Heap.rd h67 ⟨a74.block, a74.off, none⟩)) fun y75 =>
 (Go.AM.get (asS (Heap.rd h67 ⟨a74.block, (a74.off + 1), none⟩)) fun y76 =>
 (t13 (y75, y76, ()) r65 h67 fun r77 r78 h79 =>
 (branch (r66 == 0)
 (branch r78
 (K ((IntKind.wrap .i64 (2 * r77)) == ((z53.len : Nat) : Int)) h79)
 (K false h79))
 (K false h79)))))))))))
 p1 (some ⟨h.next, 0, none⟩) (some ⟨h2.next, 0, none⟩) 0 h6)))))
theorem k19 (p0 : (Int × Sl × Unit)) (p1 : Sl) (h : Heap) (K : Bool → Heap → Prop) : fnK C19 Try.f19.results.toList Try.f19.ntmps b19 [(.agg ⟨[(.int .i64 p0.1), (Sl.v p0.2.1)]⟩), (Sl.v p1)] h (outC [bP] K) = z19 p0 p1 h K := by kernel_rfl
theorem r19 (p0 : (Int × Sl × Unit)) (p1 : Sl) (h : Heap) (K : Bool → Heap → Prop) (H : z19 p0 p1 h K) : t19 p0 p1 h K := fn_stepE (C := C19) (fn := Try.f19) (g := 19) o19 rfl rfl (by kernel_rfl) (by kernel_rfl) (by kernel_rfl) (k19 p0 p1 h K) (by kernel_rfl) H

/-! 20: minikin/minikinlaw04.order -/
noncomputable def b20 : Code := Try.f20.body.getD .skip
noncomputable def c20_121 : Code := (subN b20 243).getD .skip
theorem s20_121 : subN b20 243 = some c20_121 := by kernel_rfl
theorem sl20_121 : subN b20 121 = some (.loop c20_121) := by kernel_rfl
noncomputable def l20_121 (X0 : Int → Sl → Heap → Prop) : Sl → Int → Sl → Int → Heap → Prop := lC Try.prog none c20_121 88 [(1, sP), (8, iP .i64), (9, sP), (10, iP .i64)] (outE noE noE [(0, (grabC 88 [(8, iP .i64), (9, sP)] X0))])
noncomputable def C20 : Ctx := baseC Try.prog [95, 75] none (cons1 21 w21 (allF Try.prog)) (allI Try.prog) (cons1 121 (gC 88 [(1, sP), (8, iP .i64), (9, sP), (10, iP .i64)] none none [(0, [(8, iP .i64), (9, sP)])] (lC Try.prog none c20_121 88 [(1, sP), (8, iP .i64), (9, sP), (10, iP .i64)])) none1)
theorem o20 : CtxOK (C20) b20 := (addL (addF (base_ok eqOK mixOK none b20) (wC_ok Try.prog 21 [iP .i64, sP] [sP, bP])) sl20_121)
def z20_121 (X0 : Int → Sl → Heap → Prop) (v1 : Sl) (v2 : Int) (v3 : Sl) (v4 : Int) (h5 : Heap) : Prop :=
 (branch (decide (v4 < ((v1.len : Nat) : Int)))
 (branch (decide (v4 < 40))
 (Go.AM.get v1.a fun a11 =>
 (chk (idx v4 v1.len) <|
 (Go.AM.get (asI .i64 (Heap.rd h5 ⟨a11.block, (a11.off + ((Int.toNat v4) * 2)), none⟩)) fun y12 =>
 (chk ((IntKind.wrap .u64 v2) != 0) <|
 (Go.AM.get v1.a fun a13 =>
 (chk (idx v4 v1.len) <|
 (Go.AM.get (asI .i64 (Heap.rd h5 ⟨a13.block, ((a13.off + ((Int.toNat v4) * 2)) + 1), none⟩)) fun y14 =>
 (chk ((IntKind.wrap .u64 v2) != 0) <|
 ((((.int .i64 (IntKind.wrap .i64 (Int.tmod (IntKind.wrap .u64 y14) (IntKind.wrap .u64 v2)))) : Value) = (.int .i64 (IntKind.wrap .i64 (Int.tmod (IntKind.wrap .u64 y14) (IntKind.wrap .u64 v2))))) ∧ ((((.int .u64 (IntKind.wrap .u64 v2)) : Value) = (.int .u64 (IntKind.wrap .u64 v2))) ∧ ((((.int .u64 (IntKind.wrap .u64 y14)) : Value) = (.int .u64 (IntKind.wrap .u64 y14))) ∧ ((Go.AM.get (asI .i64 (Heap.rd h5 ⟨a13.block, ((a13.off + ((Int.toNat v4) * 2)) + 1), none⟩)) fun y15 =>
 (((.int .i64 y15) : Value) = (.int .i64 y14))) ∧ (branch ((IntKind.wrap .i64 (Int.tmod (IntKind.wrap .u64 y12) (IntKind.wrap .u64 v2))) != (IntKind.wrap .i64 (Int.tmod (IntKind.wrap .u64 y14) (IntKind.wrap .u64 v2))))
 (chk ((IntKind.wrap .i64 (v2 + 1)) != 0) <|
 (chk ((IntKind.wrap .i64 (v2 + 1)) != 0) <|
 (branch (decide ((Int.tmod (IntKind.wrap .i64 ((IntKind.wrap .i64 ((IntKind.wrap .i64 (Int.tmod (IntKind.wrap .u64 y12) (IntKind.wrap .u64 v2))) * 7)) + 3)) (IntKind.wrap .i64 (v2 + 1))) > (Int.tmod (IntKind.wrap .i64 ((IntKind.wrap .i64 ((IntKind.wrap .i64 (Int.tmod (IntKind.wrap .u64 y14) (IntKind.wrap .u64 v2))) * 7)) + 3)) (IntKind.wrap .i64 (v2 + 1)))))
 (withH (Heap.new h5 (.cells [(.int .i64 (IntKind.wrap .i64 (Int.tmod (IntKind.wrap .u64 y14) (IntKind.wrap .u64 v2)))), (.int .i64 (IntKind.wrap .i64 (Int.tmod (IntKind.wrap .u64 y12) (IntKind.wrap .u64 v2))))] false)) fun h16 =>
 (Go.AM.get (Heap.rdN h16 ⟨h5.next, 0, none⟩ 2) fun y17 =>
 (Go.AM.get (Heap.app h16 2 16 v3 1 y17) fun r18 =>
 (l20_121 X0 v1 v2 r18.1 (IntKind.wrap .i64 (v4 + 1)) r18.2))))
 (withH (Heap.new h5 (.cells [(.int .i64 (IntKind.wrap .i64 (Int.tmod (IntKind.wrap .u64 y12) (IntKind.wrap .u64 v2)))), (.int .i64 (IntKind.wrap .i64 (Int.tmod (IntKind.wrap .u64 y14) (IntKind.wrap .u64 v2))))] false)) fun h19 =>
 (Go.AM.get (Heap.rdN h19 ⟨h5.next, 0, none⟩ 2) fun y20 =>
 (Go.AM.get (Heap.app h19 2 16 v3 1 y20) fun r21 =>
 (l20_121 X0 v1 v2 r21.1 (IntKind.wrap .i64 (v4 + 1)) r21.2)))))))
 (l20_121 X0 v1 v2 v3 (IntKind.wrap .i64 (v4 + 1)) h5))))))))))))))
 (X0 v2 v3 h5))
 (X0 v2 v3 h5))
theorem k20_121 (X0 : Int → Sl → Heap → Prop) (v1 : Sl) (v2 : Int) (v3 : Sl) (v4 : Int) (h5 : Heap) : (exec (C20) c20_121 false 243 (Fr.put (Fr.put (Fr.put (Fr.put (Fr0 88) (some 1) (Sl.v v1)) (some 8) (.int .i64 v2)) (some 9) (Sl.v v3)) (some 10) (.int .i64 v4)) h5 (loopE (grabC 88 [(1, sP), (8, iP .i64), (9, sP), (10, iP .i64)] (lC (C20).P (C20).yld c20_121 88 [(1, sP), (8, iP .i64), (9, sP), (10, iP .i64)] (outE noE noE [(0, (grabC 88 [(8, iP .i64), (9, sP)] X0))]))) (outE noE noE [(0, (grabC 88 [(8, iP .i64), (9, sP)] X0))]))) = z20_121 X0 v1 v2 v3 v4 h5 := by kernel_rfl
theorem r20_121 (X0 : Int → Sl → Heap → Prop) (v1 : Sl) (v2 : Int) (v3 : Sl) (v4 : Int) (h5 : Heap) (H : z20_121 X0 v1 v2 v3 v4 h5) : l20_121 X0 v1 v2 v3 v4 h5 := loop_stepE (p := 121) (N := 88) (keep := [(1, sP), (8, iP .i64), (9, sP), (10, iP .i64)]) (o20) rfl s20_121 (k20_121 X0 v1 v2 v3 v4 h5) (by kernel_rfl) H
def z20 (p0 : Int) (p1 : Sl) (p2 : Int) (h : Heap) (K : Int → Sl → Heap → Prop) : Prop :=
 (chk ((IntKind.wrap .u64 p2) != 0) <|
 (l20_121
 (fun z25 z26 h27 =>
 (t21 z25 z26 h27 fun r31 r32 h33 =>
 (branch (!r32)
 (K z25 (Sl.mk none 0 0) h33)
 (K z25 z26 h33))))
 p1 (IntKind.wrap .i64 (1 + (IntKind.wrap .i64 (Int.tmod (IntKind.wrap .u64 (IntKind.wrap .i64 (p0 - 1))) (IntKind.wrap .u64 p2))))) (Sl.mk none 0 0) 0 h))
theorem k20 (p0 : Int) (p1 : Sl) (p2 : Int) (h : Heap) (K : Int → Sl → Heap → Prop) : fnK C20 Try.f20.results.toList Try.f20.ntmps b20 [(.int .i64 p0), (Sl.v p1), (.int .i64 p2)] h (outC [iP .i64, sP] K) = z20 p0 p1 p2 h K := by kernel_rfl
theorem r20 (p0 : Int) (p1 : Sl) (p2 : Int) (h : Heap) (K : Int → Sl → Heap → Prop) (H : z20 p0 p1 p2 h K) : t20 p0 p1 p2 h K := fn_stepE (C := C20) (fn := Try.f20) (g := 20) o20 rfl rfl (by kernel_rfl) (by kernel_rfl) (by kernel_rfl) (k20 p0 p1 p2 h K) (by kernel_rfl) H

/-! 21: minikin/minikinref04.Order -/
noncomputable def b21 : Code := Try.f21.body.getD .skip
noncomputable def c21_121 : Code := (subN b21 243).getD .skip
theorem s21_121 : subN b21 243 = some c21_121 := by kernel_rfl
theorem sl21_121 : subN b21 121 = some (.loop c21_121) := by kernel_rfl
noncomputable def l21_121 (X0 : Int → Sl → Sl → Heap → Prop) : Int → Sl → Sl → Int → Heap → Prop := lC Try.prog none c21_121 135 [(0, iP .i64), (1, sP), (6, sP), (7, iP .i64)] (outE noE noE [(0, (grabC 135 [(0, iP .i64), (1, sP), (6, sP)] X0))])
noncomputable def c21_249 : Code := (subN b21 499).getD .skip
theorem s21_249 : subN b21 499 = some c21_249 := by kernel_rfl
theorem sl21_249 : subN b21 249 = some (.loop c21_249) := by kernel_rfl
noncomputable def l21_249 (XR : Sl → Bool → Heap → Prop) (X2 : Int → Sl → Heap → Prop) : Int → Sl → Sl → Int → Heap → Prop := lC Try.prog none c21_249 135 [(0, iP .i64), (1, sP), (6, sP), (8, iP .i64)] (outE noE (grabC 135 [(4, sP), (5, bP)] XR) [(2, (grabC 135 [(0, iP .i64), (6, sP)] X2))])
noncomputable def c21_2073745 : Code := (subN b21 4147491).getD .skip
theorem s21_2073745 : subN b21 4147491 = some c21_2073745 := by kernel_rfl
theorem sl21_2073745 : subN b21 2073745 = some (.loop c21_2073745) := by kernel_rfl
noncomputable def l21_2073745 (X8 : Int → Sl → Int → Int → Heap → Prop) : Int → Sl → Int → Int → Int → Heap → Prop := lC Try.prog none c21_2073745 135 [(0, iP .i64), (6, sP), (11, iP .i64), (12, iP .i64), (13, iP .i64)] (outE noE noE [(8, (grabC 135 [(0, iP .i64), (6, sP), (11, iP .i64), (12, iP .i64)] X8))])
noncomputable def c21_32401 : Code := (subN b21 64803).getD .skip
theorem s21_32401 : subN b21 64803 = some c21_32401 := by kernel_rfl
theorem sl21_32401 : subN b21 32401 = some (.loop c21_32401) := by kernel_rfl
noncomputable def l21_32401 (X6 : Int → Sl → Int → Heap → Prop) : Int → Sl → Int → Int → Heap → Prop := lC Try.prog none c21_32401 135 [(0, iP .i64), (6, sP), (11, iP .i64), (12, iP .i64)] (outE noE noE [(6, (grabC 135 [(0, iP .i64), (6, sP), (11, iP .i64)] X6))])
noncomputable def c21_505 : Code := (subN b21 1011).getD .skip
theorem s21_505 : subN b21 1011 = some c21_505 := by kernel_rfl
theorem sl21_505 : subN b21 505 = some (.loop c21_505) := by kernel_rfl
noncomputable def l21_505 (X4 : Int → Sl → Heap → Prop) : Int → Sl → Int → Heap → Prop := lC Try.prog none c21_505 135 [(0, iP .i64), (6, sP), (11, iP .i64)] (outE noE noE [(4, (grabC 135 [(0, iP .i64), (6, sP)] X4))])
noncomputable def c21_1017 : Code := (subN b21 2035).getD .skip
theorem s21_1017 : subN b21 2035 = some c21_1017 := by kernel_rfl
theorem sl21_1017 : subN b21 1017 = some (.loop c21_1017) := by kernel_rfl
noncomputable def l21_1017 (XR : Sl → Bool → Heap → Prop) (X10 : Sl → Heap → Prop) : Int → Sl → Int → Heap → Prop := lC Try.prog none c21_1017 135 [(0, iP .i64), (6, sP), (14, iP .i64)] (outE noE (grabC 135 [(4, sP), (5, bP)] XR) [(10, (grabC 135 [(6, sP)] X10))])
noncomputable def C21 : Ctx := baseC Try.prog [95, 75] none (allF Try.prog) (allI Try.prog) (cons1 1017 (gC 135 [(0, iP .i64), (6, sP), (14, iP .i64)] none (some [(4, sP), (5, bP)]) [(10, [(6, sP)])] (lC Try.prog none c21_1017 135 [(0, iP .i64), (6, sP), (14, iP .i64)])) (cons1 505 (gC 135 [(0, iP .i64), (6, sP), (11, iP .i64)] none none [(4, [(0, iP .i64), (6, sP)])] (lC Try.prog none c21_505 135 [(0, iP .i64), (6, sP), (11, iP .i64)])) (cons1 32401 (gC 135 [(0, iP .i64), (6, sP), (11, iP .i64), (12, iP .i64)] none none [(6, [(0, iP .i64), (6, sP), (11, iP .i64)])] (lC Try.prog none c21_32401 135 [(0, iP .i64), (6, sP), (11, iP .i64), (12, iP .i64)])) (cons1 2073745 (gC 135 [(0, iP .i64), (6, sP), (11, iP .i64), (12, iP .i64), (13, iP .i64)] none none [(8, [(0, iP .i64), (6, sP), (11, iP .i64), (12, iP .i64)])] (lC Try.prog none c21_2073745 135 [(0, iP .i64), (6, sP), (11, iP .i64), (12, iP .i64), (13, iP .i64)])) (cons1 249 (gC 135 [(0, iP .i64), (1, sP), (6, sP), (8, iP .i64)] none (some [(4, sP), (5, bP)]) [(2, [(0, iP .i64), (6, sP)])] (lC Try.prog none c21_249 135 [(0, iP .i64), (1, sP), (6, sP), (8, iP .i64)])) (cons1 121 (gC 135 [(0, iP .i64), (1, sP), (6, sP), (7, iP .i64)] none none [(0, [(0, iP .i64), (1, sP), (6, sP)])] (lC Try.prog none c21_121 135 [(0, iP .i64), (1, sP), (6, sP), (7, iP .i64)])) none1))))))
theorem o21 : CtxOK (C21) b21 := (addL (addL (addL (addL (addL (addL (base_ok eqOK mixOK none b21) sl21_121) sl21_249) sl21_2073745) sl21_32401) sl21_505) sl21_1017)
def z21_121 (X0 : Int → Sl → Sl → Heap → Prop) (v3 : Int) (v4 : Sl) (v5 : Sl) (v6 : Int) (h7 : Heap) : Prop :=
 (branch (decide (v6 < v3))
 (chk (within 0 v3 v3 && (decide (v3 ≤ 1000000000000) && (small (Int.toNat v3) 1 && true))) <|
 (withH (Heap.new h7 (.cells (rep [(.bool false)] (Int.toNat v3)) false)) fun h8 =>
 (Go.AM.get v5.a fun a9 =>
 (chk (idx v6 v5.len) <|
 (Go.AM.get (Heap.wr h8 ⟨a9.block, (a9.off + ((Int.toNat v6) * 1)), none⟩ [(.slice (some ⟨h7.next, 0, (some 0)⟩) (Int.toNat v3) (Int.toNat v3))]) fun h10 =>
 (l21_121 X0 v3 v4 v5 (IntKind.wrap .i64 (v6 + 1)) h10))))))
 (X0 v3 v4 v5 h7))
theorem k21_121 (X0 : Int → Sl → Sl → Heap → Prop) (v3 : Int) (v4 : Sl) (v5 : Sl) (v6 : Int) (h7 : Heap) : (exec (C21) c21_121 false 243 (Fr.put (Fr.put (Fr.put (Fr.put (Fr0 135) (some 0) (.int .i64 v3)) (some 1) (Sl.v v4)) (some 6) (Sl.v v5)) (some 7) (.int .i64 v6)) h7 (loopE (grabC 135 [(0, iP .i64), (1, sP), (6, sP), (7, iP .i64)] (lC (C21).P (C21).yld c21_121 135 [(0, iP .i64), (1, sP), (6, sP), (7, iP .i64)] (outE noE noE [(0, (grabC 135 [(0, iP .i64), (1, sP), (6, sP)] X0))]))) (outE noE noE [(0, (grabC 135 [(0, iP .i64), (1, sP), (6, sP)] X0))]))) = z21_121 X0 v3 v4 v5 v6 h7 := by kernel_rfl
theorem r21_121 (X0 : Int → Sl → Sl → Heap → Prop) (v3 : Int) (v4 : Sl) (v5 : Sl) (v6 : Int) (h7 : Heap) (H : z21_121 X0 v3 v4 v5 v6 h7) : l21_121 X0 v3 v4 v5 v6 h7 := loop_stepE (p := 121) (N := 135) (keep := [(0, iP .i64), (1, sP), (6, sP), (7, iP .i64)]) (o21) rfl s21_121 (k21_121 X0 v3 v4 v5 v6 h7) (by kernel_rfl) H
def z21_249 (XR : Sl → Bool → Heap → Prop) (X2 : Int → Sl → Heap → Prop) (v19 : Int) (v20 : Sl) (v21 : Sl) (v22 : Int) (h23 : Heap) : Prop :=
 (branch (decide (v22 < ((v20.len : Nat) : Int)))
 (Go.AM.get v20.a fun a29 =>
 (chk (idx v22 v20.len) <|
 (Go.AM.get (asI .i64 (Heap.rd h23 ⟨a29.block, (a29.off + ((Int.toNat v22) * 2)), none⟩)) fun y30 =>
 (Go.AM.get v20.a fun a31 =>
 (chk (idx v22 v20.len) <|
 (Go.AM.get (asI .i64 (Heap.rd h23 ⟨a31.block, ((a31.off + ((Int.toNat v22) * 2)) + 1), none⟩)) fun y32 =>
 ((Go.AM.get (asI .i64 (Heap.rd h23 ⟨a31.block, ((a31.off + ((Int.toNat v22) * 2)) + 1), none⟩)) fun y33 =>
 (((.int .i64 y33) : Value) = (.int .i64 y32))) ∧ (branch (decide (y30 < 0))
 (XR (Sl.mk none 0 0) false h23)
 (branch (decide (y30 ≥ v19))
 (XR (Sl.mk none 0 0) false h23)
 (branch (decide (y32 < 0))
 (XR (Sl.mk none 0 0) false h23)
 (branch (decide (y32 ≥ v19))
 (XR (Sl.mk none 0 0) false h23)
 (Go.AM.get v21.a fun a34 =>
 (chk (idx y30 v21.len) <|
 (Go.AM.get (asS (Heap.rd h23 ⟨a34.block, (a34.off + ((Int.toNat y30) * 1)), none⟩)) fun y35 =>
 (Go.AM.get y35.a fun a36 =>
 (chk (idx y32 y35.len) <|
 (Go.AM.get (Heap.wr h23 ⟨a36.block, (a36.off + ((Int.toNat y32) * 1)), none⟩ [(.bool true)]) fun h37 =>
 (l21_249 XR X2 v19 v20 v21 (IntKind.wrap .i64 (v22 + 1)) h37))))))))))))))))))
 (X2 v19 v21 h23))
theorem k21_249 (XR : Sl → Bool → Heap → Prop) (X2 : Int → Sl → Heap → Prop) (v19 : Int) (v20 : Sl) (v21 : Sl) (v22 : Int) (h23 : Heap) : (exec (C21) c21_249 false 499 (Fr.put (Fr.put (Fr.put (Fr.put (Fr0 135) (some 0) (.int .i64 v19)) (some 1) (Sl.v v20)) (some 6) (Sl.v v21)) (some 8) (.int .i64 v22)) h23 (loopE (grabC 135 [(0, iP .i64), (1, sP), (6, sP), (8, iP .i64)] (lC (C21).P (C21).yld c21_249 135 [(0, iP .i64), (1, sP), (6, sP), (8, iP .i64)] (outE noE (grabC 135 [(4, sP), (5, bP)] XR) [(2, (grabC 135 [(0, iP .i64), (6, sP)] X2))]))) (outE noE (grabC 135 [(4, sP), (5, bP)] XR) [(2, (grabC 135 [(0, iP .i64), (6, sP)] X2))]))) = z21_249 XR X2 v19 v20 v21 v22 h23 := by kernel_rfl
theorem r21_249 (XR : Sl → Bool → Heap → Prop) (X2 : Int → Sl → Heap → Prop) (v19 : Int) (v20 : Sl) (v21 : Sl) (v22 : Int) (h23 : Heap) (H : z21_249 XR X2 v19 v20 v21 v22 h23) : l21_249 XR X2 v19 v20 v21 v22 h23 := loop_stepE (p := 249) (N := 135) (keep := [(0, iP .i64), (1, sP), (6, sP), (8, iP .i64)]) (o21) rfl s21_249 (k21_249 XR X2 v19 v20 v21 v22 h23) (by kernel_rfl) H
def z21_2073745 (X8 : Int → Sl → Int → Int → Heap → Prop) (v59 : Int) (v60 : Sl) (v61 : Int) (v62 : Int) (v63 : Int) (h64 : Heap) : Prop :=
 (branch (decide (v63 < v59))
 (Go.AM.get v60.a fun a65 =>
 (chk (idx v62 v60.len) <|
 (Go.AM.get (asS (Heap.rd h64 ⟨a65.block, (a65.off + ((Int.toNat v62) * 1)), none⟩)) fun y66 =>
 (Go.AM.get v60.a fun a67 =>
 (chk (idx v62 v60.len) <|
 (Go.AM.get (asS (Heap.rd h64 ⟨a67.block, (a67.off + ((Int.toNat v62) * 1)), none⟩)) fun y68 =>
 (Go.AM.get y68.a fun a69 =>
 (chk (idx v63 y68.len) <|
 (Go.AM.get (asB (Heap.rd h64 ⟨a69.block, (a69.off + ((Int.toNat v63) * 1)), none⟩)) fun y70 =>
 (branch y70
 (Go.AM.get y66.a fun a71 =>
 (chk (idx v63 y66.len) <|
 (Go.AM.get (Heap.wr h64 ⟨a71.block, (a71.off + ((Int.toNat v63) * 1)), none⟩ [(.bool true)]) fun h72 =>
 (l21_2073745 X8 v59 v60 v61 v62 (IntKind.wrap .i64 (v63 + 1)) h72))))
 (Go.AM.get v60.a fun a73 =>
 (chk (idx v62 v60.len) <|
 (Go.AM.get (asS (Heap.rd h64 ⟨a73.block, (a73.off + ((Int.toNat v62) * 1)), none⟩)) fun y74 =>
 (Go.AM.get y74.a fun a75 =>
 (chk (idx v61 y74.len) <|
 (Go.AM.get (asB (Heap.rd h64 ⟨a75.block, (a75.off + ((Int.toNat v61) * 1)), none⟩)) fun y76 =>
 (branch y76
 (Go.AM.get v60.a fun a77 =>
 (chk (idx v61 v60.len) <|
 (Go.AM.get (asS (Heap.rd h64 ⟨a77.block, (a77.off + ((Int.toNat v61) * 1)), none⟩)) fun y78 =>
 (Go.AM.get y78.a fun a79 =>
 (chk (idx v63 y78.len) <|
 (Go.AM.get (asB (Heap.rd h64 ⟨a79.block, (a79.off + ((Int.toNat v63) * 1)), none⟩)) fun y80 =>
 (Go.AM.get y66.a fun a81 =>
 (chk (idx v63 y66.len) <|
 (Go.AM.get (Heap.wr h64 ⟨a81.block, (a81.off + ((Int.toNat v63) * 1)), none⟩ [(.bool y80)]) fun h82 =>
 (l21_2073745 X8 v59 v60 v61 v62 (IntKind.wrap .i64 (v63 + 1)) h82))))))))))
 (Go.AM.get y66.a fun a83 =>
 (chk (idx v63 y66.len) <|
 (Go.AM.get (Heap.wr h64 ⟨a83.block, (a83.off + ((Int.toNat v63) * 1)), none⟩ [(.bool false)]) fun h84 =>
 (l21_2073745 X8 v59 v60 v61 v62 (IntKind.wrap .i64 (v63 + 1)) h84)))))))))))))))))))))
 (X8 v59 v60 v61 v62 h64))
theorem k21_2073745 (X8 : Int → Sl → Int → Int → Heap → Prop) (v59 : Int) (v60 : Sl) (v61 : Int) (v62 : Int) (v63 : Int) (h64 : Heap) : (exec (C21) c21_2073745 false 4147491 (Fr.put (Fr.put (Fr.put (Fr.put (Fr.put (Fr0 135) (some 0) (.int .i64 v59)) (some 6) (Sl.v v60)) (some 11) (.int .i64 v61)) (some 12) (.int .i64 v62)) (some 13) (.int .i64 v63)) h64 (loopE (grabC 135 [(0, iP .i64), (6, sP), (11, iP .i64), (12, iP .i64), (13, iP .i64)] (lC (C21).P (C21).yld c21_2073745 135 [(0, iP .i64), (6, sP), (11, iP .i64), (12, iP .i64), (13, iP .i64)] (outE noE noE [(8, (grabC 135 [(0, iP .i64), (6, sP), (11, iP .i64), (12, iP .i64)] X8))]))) (outE noE noE [(8, (grabC 135 [(0, iP .i64), (6, sP), (11, iP .i64), (12, iP .i64)] X8))]))) = z21_2073745 X8 v59 v60 v61 v62 v63 h64 := by kernel_rfl
theorem r21_2073745 (X8 : Int → Sl → Int → Int → Heap → Prop) (v59 : Int) (v60 : Sl) (v61 : Int) (v62 : Int) (v63 : Int) (h64 : Heap) (H : z21_2073745 X8 v59 v60 v61 v62 v63 h64) : l21_2073745 X8 v59 v60 v61 v62 v63 h64 := loop_stepE (p := 2073745) (N := 135) (keep := [(0, iP .i64), (6, sP), (11, iP .i64), (12, iP .i64), (13, iP .i64)]) (o21) rfl s21_2073745 (k21_2073745 X8 v59 v60 v61 v62 v63 h64) (by kernel_rfl) H
def z21_32401 (X6 : Int → Sl → Int → Heap → Prop) (v54 : Int) (v55 : Sl) (v56 : Int) (v57 : Int) (h58 : Heap) : Prop :=
 (branch (decide (v57 < v54))
 (l21_2073745
 (fun z85 z86 z87 z88 h89 =>
 (l21_32401 X6 z85 z86 z87 (IntKind.wrap .i64 (z88 + 1)) h89))
 v54 v55 v56 v57 0 h58)
 (X6 v54 v55 v56 h58))
theorem k21_32401 (X6 : Int → Sl → Int → Heap → Prop) (v54 : Int) (v55 : Sl) (v56 : Int) (v57 : Int) (h58 : Heap) : (exec (C21) c21_32401 false 64803 (Fr.put (Fr.put (Fr.put (Fr.put (Fr0 135) (some 0) (.int .i64 v54)) (some 6) (Sl.v v55)) (some 11) (.int .i64 v56)) (some 12) (.int .i64 v57)) h58 (loopE (grabC 135 [(0, iP .i64), (6, sP), (11, iP .i64), (12, iP .i64)] (lC (C21).P (C21).yld c21_32401 135 [(0, iP .i64), (6, sP), (11, iP .i64), (12, iP .i64)] (outE noE noE [(6, (grabC 135 [(0, iP .i64), (6, sP), (11, iP .i64)] X6))]))) (outE noE noE [(6, (grabC 135 [(0, iP .i64), (6, sP), (11, iP .i64)] X6))]))) = z21_32401 X6 v54 v55 v56 v57 h58 := by kernel_rfl
theorem r21_32401 (X6 : Int → Sl → Int → Heap → Prop) (v54 : Int) (v55 : Sl) (v56 : Int) (v57 : Int) (h58 : Heap) (H : z21_32401 X6 v54 v55 v56 v57 h58) : l21_32401 X6 v54 v55 v56 v57 h58 := loop_stepE (p := 32401) (N := 135) (keep := [(0, iP .i64), (6, sP), (11, iP .i64), (12, iP .i64)]) (o21) rfl s21_32401 (k21_32401 X6 v54 v55 v56 v57 h58) (by kernel_rfl) H
def z21_505 (X4 : Int → Sl → Heap → Prop) (v50 : Int) (v51 : Sl) (v52 : Int) (h53 : Heap) : Prop :=
 (branch (decide (v52 < v50))
 (l21_32401
 (fun z90 z91 z92 h93 =>
 (l21_505 X4 z90 z91 (IntKind.wrap .i64 (z92 + 1)) h93))
 v50 v51 v52 0 h53)
 (X4 v50 v51 h53))
theorem k21_505 (X4 : Int → Sl → Heap → Prop) (v50 : Int) (v51 : Sl) (v52 : Int) (h53 : Heap) : (exec (C21) c21_505 false 1011 (Fr.put (Fr.put (Fr.put (Fr0 135) (some 0) (.int .i64 v50)) (some 6) (Sl.v v51)) (some 11) (.int .i64 v52)) h53 (loopE (grabC 135 [(0, iP .i64), (6, sP), (11, iP .i64)] (lC (C21).P (C21).yld c21_505 135 [(0, iP .i64), (6, sP), (11, iP .i64)] (outE noE noE [(4, (grabC 135 [(0, iP .i64), (6, sP)] X4))]))) (outE noE noE [(4, (grabC 135 [(0, iP .i64), (6, sP)] X4))]))) = z21_505 X4 v50 v51 v52 h53 := by kernel_rfl
theorem r21_505 (X4 : Int → Sl → Heap → Prop) (v50 : Int) (v51 : Sl) (v52 : Int) (h53 : Heap) (H : z21_505 X4 v50 v51 v52 h53) : l21_505 X4 v50 v51 v52 h53 := loop_stepE (p := 505) (N := 135) (keep := [(0, iP .i64), (6, sP), (11, iP .i64)]) (o21) rfl s21_505 (k21_505 X4 v50 v51 v52 h53) (by kernel_rfl) H
def z21_1017 (XR : Sl → Bool → Heap → Prop) (X10 : Sl → Heap → Prop) (v100 : Int) (v101 : Sl) (v102 : Int) (h103 : Heap) : Prop :=
 (branch (decide (v102 < v100))
 (Go.AM.get v101.a fun a104 =>
 (chk (idx v102 v101.len) <|
 (Go.AM.get (asS (Heap.rd h103 ⟨a104.block, (a104.off + ((Int.toNat v102) * 1)), none⟩)) fun y105 =>
 (Go.AM.get y105.a fun a106 =>
 (chk (idx v102 y105.len) <|
 (Go.AM.get (asB (Heap.rd h103 ⟨a106.block, (a106.off + ((Int.toNat v102) * 1)), none⟩)) fun y107 =>
 (branch y107
 (XR (Sl.mk none 0 0) false h103)
 (l21_1017 XR X10 v100 v101 (IntKind.wrap .i64 (v102 + 1)) h103))))))))
 (X10 v101 h103))
theorem k21_1017 (XR : Sl → Bool → Heap → Prop) (X10 : Sl → Heap → Prop) (v100 : Int) (v101 : Sl) (v102 : Int) (h103 : Heap) : (exec (C21) c21_1017 false 2035 (Fr.put (Fr.put (Fr.put (Fr0 135) (some 0) (.int .i64 v100)) (some 6) (Sl.v v101)) (some 14) (.int .i64 v102)) h103 (loopE (grabC 135 [(0, iP .i64), (6, sP), (14, iP .i64)] (lC (C21).P (C21).yld c21_1017 135 [(0, iP .i64), (6, sP), (14, iP .i64)] (outE noE (grabC 135 [(4, sP), (5, bP)] XR) [(10, (grabC 135 [(6, sP)] X10))]))) (outE noE (grabC 135 [(4, sP), (5, bP)] XR) [(10, (grabC 135 [(6, sP)] X10))]))) = z21_1017 XR X10 v100 v101 v102 h103 := by kernel_rfl
theorem r21_1017 (XR : Sl → Bool → Heap → Prop) (X10 : Sl → Heap → Prop) (v100 : Int) (v101 : Sl) (v102 : Int) (h103 : Heap) (H : z21_1017 XR X10 v100 v101 v102 h103) : l21_1017 XR X10 v100 v101 v102 h103 := loop_stepE (p := 1017) (N := 135) (keep := [(0, iP .i64), (6, sP), (14, iP .i64)]) (o21) rfl s21_1017 (k21_1017 XR X10 v100 v101 v102 h103) (by kernel_rfl) H
def z21 (p0 : Int) (p1 : Sl) (h : Heap) (K : Sl → Bool → Heap → Prop) : Prop :=
 (branch (decide (p0 < 1))
 (K (Sl.mk none 0 0) false h)
 (branch (decide (p0 > 40))
 (K (Sl.mk none 0 0) false h)
 (branch (decide (((p1.len : Nat) : Int) > 400))
 (K (Sl.mk none 0 0) false h)
 (chk (within 0 p0 p0 && (decide (p0 ≤ 1000000000000) && (small (Int.toNat p0) 24 && true))) <|
 (withH (Heap.new h (.cells (rep [(.slice none 0 0)] (Int.toNat p0)) false)) fun h2 =>
 (l21_121
 (fun z15 z16 z17 h18 =>
 (l21_249
 (fun z44 z45 h46 =>
 (K z44 z45 h46))
 (fun z47 z48 h49 =>
 (l21_505
 (fun z97 z98 h99 =>
 (l21_1017
 (fun z108 z109 h110 =>
 (K z108 z109 h110))
 (fun z111 h112 =>
 (K z111 true h112))
 z97 z98 0 h99))
 z47 z48 0 h49))
 z15 z16 z17 0 h18))
 p0 p1 (Sl.mk (some ⟨h.next, 0, (some 0)⟩) (Int.toNat p0) (Int.toNat p0)) 0 h2))))))
theorem k21 (p0 : Int) (p1 : Sl) (h : Heap) (K : Sl → Bool → Heap → Prop) : fnK C21 Try.f21.results.toList Try.f21.ntmps b21 [(.int .i64 p0), (Sl.v p1)] h (outC [sP, bP] K) = z21 p0 p1 h K := by kernel_rfl
theorem r21 (p0 : Int) (p1 : Sl) (h : Heap) (K : Sl → Bool → Heap → Prop) (H : z21 p0 p1 h K) : t21 p0 p1 h K := fn_stepE (C := C21) (fn := Try.f21) (g := 21) o21 rfl rfl (by kernel_rfl) (by kernel_rfl) (by kernel_rfl) (k21 p0 p1 h K) (by kernel_rfl) H

end Go.Proofs.Ytalmoilcehhjkaa
