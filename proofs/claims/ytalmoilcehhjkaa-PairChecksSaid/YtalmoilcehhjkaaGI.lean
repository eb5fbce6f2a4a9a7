/- PRINTED BY A PROGRAM OF OURS: what the functions do, step by step, and that the model says so. -/
import Derived.Test.YtalmoilcehhjkaaHeads
set_option linter.unusedVariables false
set_option linter.unusedSimpArgs false
namespace Go.Proofs.Ytalmoilcehhjkaa
open Go hiding Expr
open Go.AM hiding get
/-! 88: (*minikin/pair.finder).turn -/
noncomputable def b88 : Code := Try.f88.body.getD .skip
noncomputable def c88_1 : Code := (subN b88 3).getD .skip
theorem s88_1 : subN b88 3 = some c88_1 := by kernel_rfl
theorem sl88_1 : subN b88 1 = some (.loop c88_1) := by kernel_rfl
noncomputable def l88_1 (X0 : Heap → Prop) : Option Addr → Int → Heap → Prop := lC Try.prog none c88_1 33 [(0, pP), (1, iP .i64)] (outE noE noE [(0, (grabC 33 [] X0))])
noncomputable def C88 : Ctx := baseC Try.prog [95, 75] none (allF Try.prog) (allI Try.prog) (cons1 1 (gC 33 [(0, pP), (1, iP .i64)] none none [(0, [])] (lC Try.prog none c88_1 33 [(0, pP), (1, iP .i64)])) none1)
theorem o88 : CtxOK (C88) b88 := (addL (base_ok eqOK mixOK none b88) sl88_1)
def z88_1 (X0 : Heap → Prop) (v1 : Option Addr) (v2 : Int) (h3 : Heap) : Prop :=
 (branch (decide (v2 ≥ 0))
 (Go.AM.get v1 fun a6 =>
 (chk (idx v2 40) <|
 (Go.AM.get (asI .i64 (Heap.rd h3 ⟨a6.block, ((a6.off + 81) + ((Int.toNat v2) * 1)), none⟩)) fun y7 =>
 (Go.AM.get v1 fun a10 =>
 (chk (idx y7 40) <|
 (Go.AM.get (asI .i64 (Heap.rd h3 ⟨a10.block, ((a10.off + 41) + ((Int.toNat y7) * 1)), none⟩)) fun y11 =>
 (Go.AM.get v1 fun a12 =>
 (chk (idx v2 40) <|
 (Go.AM.get v1 fun a13 =>
 (Go.AM.get (Heap.wr h3 ⟨a12.block, ((a12.off + 41) + ((Int.toNat v2) * 1)), none⟩ [(.int .i64 y7)]) fun h14 =>
 (chk (idx y7 40) <|
 (Go.AM.get (Heap.wr h14 ⟨a13.block, ((a13.off + 41) + ((Int.toNat y7) * 1)), none⟩ [(.int .i64 v2)]) fun h15 =>
 (l88_1 X0 v1 y11 h15)))))))))))))
 (X0 h3))
theorem k88_1 (X0 : Heap → Prop) (v1 : Option Addr) (v2 : Int) (h3 : Heap) : (exec (C88) c88_1 false 3 (Fr.put (Fr.put (Fr0 33) (some 0) (.pointer v1)) (some 1) (.int .i64 v2)) h3 (loopE (grabC 33 [(0, pP), (1, iP .i64)] (lC (C88).P (C88).yld c88_1 33 [(0, pP), (1, iP .i64)] (outE noE noE [(0, (grabC 33 [] X0))]))) (outE noE noE [(0, (grabC 33 [] X0))]))) = z88_1 X0 v1 v2 h3 := by kernel_rfl
theorem r88_1 (X0 : Heap → Prop) (v1 : Option Addr) (v2 : Int) (h3 : Heap) (H : z88_1 X0 v1 v2 h3) : l88_1 X0 v1 v2 h3 := loop_stepE (p := 1) (N := 33) (keep := [(0, pP), (1, iP .i64)]) (o88) rfl s88_1 (k88_1 X0 v1 v2 h3) (by kernel_rfl) H
def z88 (p0 : Option Addr) (p1 : Int) (h : Heap) (K : Heap → Prop) : Prop :=
 (l88_1
 (fun h16 =>
 (K h16))
 p0 p1 h)
theorem k88 (p0 : Option Addr) (p1 : Int) (h : Heap) (K : Heap → Prop) : fnK C88 Try.f88.results.toList Try.f88.ntmps b88 [(.pointer p0), (.int .i64 p1)] h (outC [] K) = z88 p0 p1 h K := by kernel_rfl
theorem r88 (p0 : Option Addr) (p1 : Int) (h : Heap) (K : Heap → Prop) (H : z88 p0 p1 h K) : t88 p0 p1 h K := fn_stepE (C := C88) (fn := Try.f88) (g := 88) o88 rfl rfl (by kernel_rfl) (by kernel_rfl) (by kernel_rfl) (k88 p0 p1 h K) (by kernel_rfl) H

/-! 89: (*minikin/pair.finder).shrink -/
noncomputable def b89 : Code := Try.f89.body.getD .skip
noncomputable def c89_509 : Code := (subN b89 1019).getD .skip
theorem s89_509 : subN b89 1019 = some c89_509 := by kernel_rfl
theorem sl89_509 : subN b89 509 = some (.loop c89_509) := by kernel_rfl
noncomputable def l89_509 (X0 : Heap → Prop) : Option Addr → Option Addr → Option Addr → Int → Int → Heap → Prop := lC Try.prog none c89_509 67 [(3, pP), (6, pP), (7, pP), (26, iP .i64), (27, iP .i64)] (outE noE noE [(0, (grabC 67 [] X0))])
noncomputable def C89 : Ctx := baseC Try.prog [95, 75] none (cons1 99 w99 (cons1 98 w98 (allF Try.prog))) (allI Try.prog) (cons1 509 (gC 67 [(3, pP), (6, pP), (7, pP), (26, iP .i64), (27, iP .i64)] none none [(0, [])] (lC Try.prog none c89_509 67 [(3, pP), (6, pP), (7, pP), (26, iP .i64), (27, iP .i64)])) none1)
theorem o89 : CtxOK (C89) b89 := (addL (addF (addF (base_ok eqOK mixOK none b89) (wC_ok Try.prog 98 [pP, iP .i64, iP .i64] [iP .i64])) (wC_ok Try.prog 99 [iP .i64, iP .i64, pP, pP, pP] [])) sl89_509)
def z89_509 (X0 : Heap → Prop) (v25 : Option Addr) (v26 : Option Addr) (v27 : Option Addr) (v28 : Int) (v29 : Int) (h30 : Heap) : Prop :=
 (branch (decide (v29 < v28))
 (Go.AM.get v25 fun a37 =>
 (Go.AM.get (asP (Heap.rd h30 a37)) fun y38 =>
 (Go.AM.get y38 fun a39 =>
 (chk (idx v29 40) <|
 (Go.AM.get (asI .i64 (Heap.rd h30 ⟨a39.block, ((a39.off + 121) + ((Int.toNat v29) * 1)), none⟩)) fun y40 =>
 (Go.AM.get v27 fun a41 =>
 (chk (idx y40 40) <|
 (Go.AM.get (asB (Heap.rd h30 ⟨a41.block, (a41.off + ((Int.toNat y40) * 1)), none⟩)) fun y42 =>
 (branch y42
 (Go.AM.get v25 fun a49 =>
 (Go.AM.get (asP (Heap.rd h30 a49)) fun y50 =>
 (Go.AM.get v26 fun a51 =>
 (Go.AM.get (asI .i64 (Heap.rd h30 a51)) fun y52 =>
 (Go.AM.get y50 fun a53 =>
 (chk (idx v29 40) <|
 (Go.AM.get (Heap.wr h30 ⟨a53.block, ((a53.off + 121) + ((Int.toNat v29) * 1)), none⟩ [(.int .i64 y52)]) fun h54 =>
 (Go.AM.get v25 fun a59 =>
 (Go.AM.get (asP (Heap.rd h54 a59)) fun y60 =>
 (Go.AM.get y60 fun a61 =>
 (chk (idx v29 40) <|
 (Go.AM.get (asB (Heap.rd h54 ⟨a61.block, ((a61.off + 161) + ((Int.toNat v29) * 1)), none⟩)) fun y62 =>
 (branch (!y62)
 (Go.AM.get v25 fun a67 =>
 (Go.AM.get (asP (Heap.rd h54 a67)) fun y68 =>
 (Go.AM.get y68 fun a69 =>
 (chk (idx v29 40) <|
 (Go.AM.get (Heap.wr h54 ⟨a69.block, ((a69.off + 161) + ((Int.toNat v29) * 1)), none⟩ [(.bool true)]) fun h70 =>
 (Go.AM.get v25 fun a71 =>
 (Go.AM.get (asP (Heap.rd h70 a71)) fun y72 =>
 (Go.AM.get v25 fun a73 =>
 (Go.AM.get (asP (Heap.rd h70 a73)) fun y74 =>
 (Go.AM.get y74 fun a75 =>
 (Go.AM.get (asS (Heap.rd h70 ⟨a75.block, (a75.off + 201), none⟩)) fun y76 =>
 (withH (Heap.new h70 (.cells [(.int .i64 v29)] false)) fun h77 =>
 (Go.AM.get (Heap.rdN h77 ⟨h70.next, 0, none⟩ 1) fun y78 =>
 (Go.AM.get (Heap.app h77 1 8 y76 1 y78) fun r79 =>
 ((Go.AM.get v25 fun a80 =>
 (Go.AM.get (asP (Heap.rd r79.2 a80)) fun y81 =>
 (((.pointer y81) : Value) = (.pointer y72)))) ∧ (Go.AM.get y72 fun a82 =>
 (Go.AM.get (Heap.wr r79.2 ⟨a82.block, (a82.off + 201), none⟩ [(Sl.v r79.1)]) fun h83 =>
 (l89_509 X0 v25 v26 v27 v28 (IntKind.wrap .i64 (v29 + 1)) h83))))))))))))))))))
 (l89_509 X0 v25 v26 v27 v28 (IntKind.wrap .i64 (v29 + 1)) h54))))))))))))))
 (l89_509 X0 v25 v26 v27 v28 (IntKind.wrap .i64 (v29 + 1)) h30))))))))))
 (X0 h30))
theorem k89_509 (X0 : Heap → Prop) (v25 : Option Addr) (v26 : Option Addr) (v27 : Option Addr) (v28 : Int) (v29 : Int) (h30 : Heap) : (exec (C89) c89_509 false 1019 (Fr.put (Fr.put (Fr.put (Fr.put (Fr.put (Fr0 67) (some 3) (.pointer v25)) (some 6) (.pointer v26)) (some 7) (.pointer v27)) (some 26) (.int .i64 v28)) (some 27) (.int .i64 v29)) h30 (loopE (grabC 67 [(3, pP), (6, pP), (7, pP), (26, iP .i64), (27, iP .i64)] (lC (C89).P (C89).yld c89_509 67 [(3, pP), (6, pP), (7, pP), (26, iP .i64), (27, iP .i64)] (outE noE noE [(0, (grabC 67 [] X0))]))) (outE noE noE [(0, (grabC 67 [] X0))]))) = z89_509 X0 v25 v26 v27 v28 v29 h30 := by kernel_rfl
theorem r89_509 (X0 : Heap → Prop) (v25 : Option Addr) (v26 : Option Addr) (v27 : Option Addr) (v28 : Int) (v29 : Int) (h30 : Heap) (H : z89_509 X0 v25 v26 v27 v28 v29 h30) : l89_509 X0 v25 v26 v27 v28 v29 h30 := loop_stepE (p := 509) (N := 67) (keep := [(3, pP), (6, pP), (7, pP), (26, iP .i64), (27, iP .i64)]) (o89) rfl s89_509 (k89_509 X0 v25 v26 v27 v28 v29 h30) (by kernel_rfl) H
def z89 (p0 : Option Addr) (p1 : Int) (p2 : Int) (h : Heap) (K : Heap → Prop) : Prop :=
 (withH (Heap.new h (.cells [(.pointer p0)] false)) fun h2 =>
 (Go.AM.get (asP (Heap.rd h2 ⟨h.next, 0, none⟩)) fun y8 =>
 (t98 y8 p1 p2 h2 fun r9 h10 =>
 (withH (Heap.new h10 (.cells [(.int .i64 0)] false)) fun h11 =>
 (Go.AM.get (Heap.wr h11 ⟨h10.next, 0, none⟩ [(.int .i64 r9)]) fun h12 =>
 (withH (Heap.new h12 (.cells (List.replicate 40 (.bool false)) false)) fun h14 =>
 (t99 p1 p2 (some ⟨h.next, 0, none⟩) (some ⟨h10.next, 0, none⟩) (some ⟨h12.next, 0, none⟩) h14 fun h16 =>
 (t99 p2 p1 (some ⟨h.next, 0, none⟩) (some ⟨h10.next, 0, none⟩) (some ⟨h12.next, 0, none⟩) h16 fun h18 =>
 (Go.AM.get (asP (Heap.rd h18 ⟨h.next, 0, none⟩)) fun y22 =>
 (Go.AM.get y22 fun a23 =>
 (Go.AM.get (asI .i64 (Heap.rd h18 ⟨a23.block, a23.off, none⟩)) fun y24 =>
 (l89_509
 (fun h84 =>
 (K h84))
 (some ⟨h.next, 0, none⟩) (some ⟨h10.next, 0, none⟩) (some ⟨h12.next, 0, none⟩) y24 0 h18))))))))))))
theorem k89 (p0 : Option Addr) (p1 : Int) (p2 : Int) (h : Heap) (K : Heap → Prop) : fnK C89 Try.f89.results.toList Try.f89.ntmps b89 [(.pointer p0), (.int .i64 p1), (.int .i64 p2)] h (outC [] K) = z89 p0 p1 p2 h K := by kernel_rfl
theorem r89 (p0 : Option Addr) (p1 : Int) (p2 : Int) (h : Heap) (K : Heap → Prop) (H : z89 p0 p1 p2 h K) : t89 p0 p1 p2 h K := fn_stepE (C := C89) (fn := Try.f89) (g := 89) o89 rfl rfl (by kernel_rfl) (by kernel_rfl) (by kernel_rfl) (k89 p0 p1 p2 h K) (by kernel_rfl) H

/-! 90: (*minikin/pair.order).pairs$1 -/
noncomputable def b90 : Code := Try.f90.body.getD .skip
noncomputable def c90_1637 : Code := (subN b90 3275).getD .skip
theorem s90_1637 : subN b90 3275 = some c90_1637 := by kernel_rfl
theorem sl90_1637 : subN b90 1637 = some (.loop c90_1637) := by kernel_rfl
noncomputable def l90_1637 (β : Nat) (Y : Int → Int → Heap → (Heap → Prop) → Prop) (XR : Heap → Prop) (X2 : Nat → Option Addr → Int → Int → Heap → Prop) : Nat → Option Addr → Int → Int → Int → Int → Int → Heap → Prop := lC Try.prog (some (β, yldC [iP .i64, iP .i64] Y)) c90_1637 36 [(0, yP), (1, pP), (3, iP .i64), (8, iP .i64), (9, iP .i64), (15, iP .i64), (16, iP .i64)] (outE noE (grabC 36 [] XR) [(2, (grabC 36 [(0, yP), (1, pP), (8, iP .i64), (9, iP .i64)] X2))])
noncomputable def c90_5 : Code := (subN b90 11).getD .skip
theorem s90_5 : subN b90 11 = some c90_5 := by kernel_rfl
theorem sl90_5 : subN b90 5 = some (.loop c90_5) := by kernel_rfl
noncomputable def l90_5 (β : Nat) (Y : Int → Int → Heap → (Heap → Prop) → Prop) (XR : Heap → Prop) (X0 : Heap → Prop) : Nat → Option Addr → Int → Int → Heap → Prop := lC Try.prog (some (β, yldC [iP .i64, iP .i64] Y)) c90_5 36 [(0, yP), (1, pP), (8, iP .i64), (9, iP .i64)] (outE noE (grabC 36 [] XR) [(0, (grabC 36 [] X0))])
noncomputable def C90 (β : Nat) (Y : Int → Int → Heap → (Heap → Prop) → Prop) : Ctx := baseC Try.prog [95, 75] (some (β, yldC [iP .i64, iP .i64] Y)) (allF Try.prog) (allI Try.prog) (cons1 5 (gC 36 [(0, yP), (1, pP), (8, iP .i64), (9, iP .i64)] none (some []) [(0, [])] (lC Try.prog (some (β, yldC [iP .i64, iP .i64] Y)) c90_5 36 [(0, yP), (1, pP), (8, iP .i64), (9, iP .i64)])) (cons1 1637 (gC 36 [(0, yP), (1, pP), (3, iP .i64), (8, iP .i64), (9, iP .i64), (15, iP .i64), (16, iP .i64)] none (some []) [(2, [(0, yP), (1, pP), (8, iP .i64), (9, iP .i64)])] (lC Try.prog (some (β, yldC [iP .i64, iP .i64] Y)) c90_1637 36 [(0, yP), (1, pP), (3, iP .i64), (8, iP .i64), (9, iP .i64), (15, iP .i64), (16, iP .i64)])) none1))
theorem o90 (β : Nat) (Y : Int → Int → Heap → (Heap → Prop) → Prop) : CtxOK (C90 β Y) b90 := (addL (addL (base_ok eqOK mixOK (some (β, yldC [iP .i64, iP .i64] Y)) b90) sl90_1637) sl90_5)
def z90_1637 (β : Nat) (Y : Int → Int → Heap → (Heap → Prop) → Prop) (XR : Heap → Prop) (X2 : Nat → Option Addr → Int → Int → Heap → Prop) (v22 : Nat) (v23 : Option Addr) (v24 : Int) (v25 : Int) (v26 : Int) (v27 : Int) (v28 : Int) (h29 : Heap) : Prop :=
 (branch (decide (v28 < v27))
 (Go.AM.get v23 fun a30 =>
 (Go.AM.get (asP (Heap.rd h29 a30)) fun y31 =>
 (Go.AM.get y31 fun a32 =>
 (chk (idx v24 40) <|
 (chk (idx v28 40) <|
 (Go.AM.get (asB (Heap.rd h29 ⟨a32.block, (((a32.off + 1) + ((Int.toNat v24) * 40)) + ((Int.toNat v28) * 1)), none⟩)) fun y33 =>
 (branch y33
 (chk (Nat.beq v22 β) (Y v24 v28 h29 fun h34 =>
 (l90_1637 β Y XR X2 v22 v23 v24 v25 v26 v27 (IntKind.wrap .i64 (v28 + 1)) h34)))
 (l90_1637 β Y XR X2 v22 v23 v24 v25 v26 v27 (IntKind.wrap .i64 (v28 + 1)) h29))))))))
 (X2 v22 v23 v25 v26 h29))
theorem k90_1637 (β : Nat) (Y : Int → Int → Heap → (Heap → Prop) → Prop) (XR : Heap → Prop) (X2 : Nat → Option Addr → Int → Int → Heap → Prop) (v22 : Nat) (v23 : Option Addr) (v24 : Int) (v25 : Int) (v26 : Int) (v27 : Int) (v28 : Int) (h29 : Heap) : (exec (C90 β Y) c90_1637 false 3275 (Fr.put (Fr.put (Fr.put (Fr.put (Fr.put (Fr.put (Fr.put (Fr0 36) (some 0) (.func (.yield v22) #[] #[])) (some 1) (.pointer v23)) (some 3) (.int .i64 v24)) (some 8) (.int .i64 v25)) (some 9) (.int .i64 v26)) (some 15) (.int .i64 v27)) (some 16) (.int .i64 v28)) h29 (loopE (grabC 36 [(0, yP), (1, pP), (3, iP .i64), (8, iP .i64), (9, iP .i64), (15, iP .i64), (16, iP .i64)] (lC (C90 β Y).P (C90 β Y).yld c90_1637 36 [(0, yP), (1, pP), (3, iP .i64), (8, iP .i64), (9, iP .i64), (15, iP .i64), (16, iP .i64)] (outE noE (grabC 36 [] XR) [(2, (grabC 36 [(0, yP), (1, pP), (8, iP .i64), (9, iP .i64)] X2))]))) (outE noE (grabC 36 [] XR) [(2, (grabC 36 [(0, yP), (1, pP), (8, iP .i64), (9, iP .i64)] X2))]))) = z90_1637 β Y XR X2 v22 v23 v24 v25 v26 v27 v28 h29 := by kernel_rfl
theorem r90_1637 (β : Nat) (Y : Int → Int → Heap → (Heap → Prop) → Prop) (XR : Heap → Prop) (X2 : Nat → Option Addr → Int → Int → Heap → Prop) (v22 : Nat) (v23 : Option Addr) (v24 : Int) (v25 : Int) (v26 : Int) (v27 : Int) (v28 : Int) (h29 : Heap) (H : z90_1637 β Y XR X2 v22 v23 v24 v25 v26 v27 v28 h29) : l90_1637 β Y XR X2 v22 v23 v24 v25 v26 v27 v28 h29 := loop_stepE (p := 1637) (N := 36) (keep := [(0, yP), (1, pP), (3, iP .i64), (8, iP .i64), (9, iP .i64), (15, iP .i64), (16, iP .i64)]) (o90 β Y) rfl s90_1637 (k90_1637 β Y XR X2 v22 v23 v24 v25 v26 v27 v28 h29) (by kernel_rfl) H
def z90_5 (β : Nat) (Y : Int → Int → Heap → (Heap → Prop) → Prop) (XR : Heap → Prop) (X0 : Heap → Prop) (v9 : Nat) (v10 : Option Addr) (v11 : Int) (v12 : Int) (h13 : Heap) : Prop :=
 (branch (decide (v12 < v11))
 (Go.AM.get v10 fun a18 =>
 (Go.AM.get (asP (Heap.rd h13 a18)) fun y19 =>
 (Go.AM.get y19 fun a20 =>
 (Go.AM.get (asI .i64 (Heap.rd h13 ⟨a20.block, a20.off, none⟩)) fun y21 =>
 (l90_1637 β Y
 (fun h35 =>
 (XR h35))
 (fun z36 z37 z38 z39 h40 =>
 (l90_5 β Y XR X0 z36 z37 z38 (IntKind.wrap .i64 (z39 + 1)) h40))
 v9 v10 v12 v11 v12 y21 0 h13)))))
 (X0 h13))
theorem k90_5 (β : Nat) (Y : Int → Int → Heap → (Heap → Prop) → Prop) (XR : Heap → Prop) (X0 : Heap → Prop) (v9 : Nat) (v10 : Option Addr) (v11 : Int) (v12 : Int) (h13 : Heap) : (exec (C90 β Y) c90_5 false 11 (Fr.put (Fr.put (Fr.put (Fr.put (Fr0 36) (some 0) (.func (.yield v9) #[] #[])) (some 1) (.pointer v10)) (some 8) (.int .i64 v11)) (some 9) (.int .i64 v12)) h13 (loopE (grabC 36 [(0, yP), (1, pP), (8, iP .i64), (9, iP .i64)] (lC (C90 β Y).P (C90 β Y).yld c90_5 36 [(0, yP), (1, pP), (8, iP .i64), (9, iP .i64)] (outE noE (grabC 36 [] XR) [(0, (grabC 36 [] X0))]))) (outE noE (grabC 36 [] XR) [(0, (grabC 36 [] X0))]))) = z90_5 β Y XR X0 v9 v10 v11 v12 h13 := by kernel_rfl
theorem r90_5 (β : Nat) (Y : Int → Int → Heap → (Heap → Prop) → Prop) (XR : Heap → Prop) (X0 : Heap → Prop) (v9 : Nat) (v10 : Option Addr) (v11 : Int) (v12 : Int) (h13 : Heap) (H : z90_5 β Y XR X0 v9 v10 v11 v12 h13) : l90_5 β Y XR X0 v9 v10 v11 v12 h13 := loop_stepE (p := 5) (N := 36) (keep := [(0, yP), (1, pP), (8, iP .i64), (9, iP .i64)]) (o90 β Y) rfl s90_5 (k90_5 β Y XR X0 v9 v10 v11 v12 h13) (by kernel_rfl) H
def z90 (β : Nat) (p0 : Option Addr) (h : Heap) (Y : Int → Int → Heap → (Heap → Prop) → Prop) (K : Heap → Prop) : Prop :=
 (Go.AM.get p0 fun a5 =>
 (Go.AM.get (asP (Heap.rd h a5)) fun y6 =>
 (Go.AM.get y6 fun a7 =>
 (Go.AM.get (asI .i64 (Heap.rd h ⟨a7.block, a7.off, none⟩)) fun y8 =>
 (l90_5 β Y
 (fun h41 =>
 (K h41))
 (fun h42 =>
 (K h42))
 β p0 y8 0 h)))))
theorem k90 (β : Nat) (p0 : Option Addr) (h : Heap) (Y : Int → Int → Heap → (Heap → Prop) → Prop) (K : Heap → Prop) : itK (C90 β Y) Try.f90.results.toList Try.f90.ntmps b90 β [ (.pointer p0)] h (yldC [iP .i64, iP .i64] Y) K = z90 β p0 h Y K := by kernel_rfl
theorem r90 (β : Nat) (p0 : Option Addr) (h : Heap) (Y : Int → Int → Heap → (Heap → Prop) → Prop) (K : Heap → Prop) (H : z90 β p0 h Y K) : ti90 β p0 h Y K := it_stepE (C := C90 β Y) (fn := Try.f90) (g := 90) (o90 β Y) rfl (by kernel_rfl) (by kernel_rfl) (by kernel_rfl) (k90 β p0 h Y K) (by kernel_rfl) H

/-! 91: slices.IndexFunc[[][]int64,[]int64] -/
noncomputable def b91 : Code := Try.f91.body.getD .skip
noncomputable def c91_25 : Code := (subN b91 51).getD .skip
theorem s91_25 : subN b91 51 = some c91_25 := by kernel_rfl
theorem sl91_25 : subN b91 25 = some (.loop c91_25) := by kernel_rfl
noncomputable def l91_25 (XR : Int → Heap → Prop) (X0 : Heap → Prop) : Sl → Value → Int → Int → Heap → Prop := lC Try.prog none c91_25 19 [(0, sP), (1, vP), (7, iP .i64), (8, iP .i64)] (outE noE (grabC 19 [(4, iP .i64)] XR) [(0, (grabC 19 [] X0))])
noncomputable def C91 : Ctx := baseC Try.prog [95, 75] none (allF Try.prog) (allI Try.prog) (cons1 25 (gC 19 [(0, sP), (1, vP), (7, iP .i64), (8, iP .i64)] none (some [(4, iP .i64)]) [(0, [])] (lC Try.prog none c91_25 19 [(0, sP), (1, vP), (7, iP .i64), (8, iP .i64)])) none1)
theorem o91 : CtxOK (C91) b91 := (addL (base_ok eqOK mixOK none b91) sl91_25)
def z91_25 (XR : Int → Heap → Prop) (X0 : Heap → Prop) (v1 : Sl) (v2 : Value) (v3 : Int) (v4 : Int) (h5 : Heap) : Prop :=
 (branch (decide (v4 < v3))
 (Go.AM.get v1.a fun a6 =>
 (chk (idx v4 v1.len) <|
 (Go.AM.get (asS (Heap.rd h5 ⟨a6.block, (a6.off + ((Int.toNat v4) * 1)), none⟩)) fun y7 =>
 (callV (C91) v2 [(Sl.v y7)] h5 (retK fun r8 h9 =>
 (boolK r8 fun b11 => (branch b11
 (XR v4 h9)
 (l91_25 XR X0 v1 v2 v3 (IntKind.wrap .i64 (v4 + 1)) h9))))))))
 (X0 h5))
theorem k91_25 (XR : Int → Heap → Prop) (X0 : Heap → Prop) (v1 : Sl) (v2 : Value) (v3 : Int) (v4 : Int) (h5 : Heap) : (exec (C91) c91_25 false 51 (Fr.put (Fr.put (Fr.put (Fr.put (Fr0 19) (some 0) (Sl.v v1)) (some 1) v2) (some 7) (.int .i64 v3)) (some 8) (.int .i64 v4)) h5 (loopE (grabC 19 [(0, sP), (1, vP), (7, iP .i64), (8, iP .i64)] (lC (C91).P (C91).yld c91_25 19 [(0, sP), (1, vP), (7, iP .i64), (8, iP .i64)] (outE noE (grabC 19 [(4, iP .i64)] XR) [(0, (grabC 19 [] X0))]))) (outE noE (grabC 19 [(4, iP .i64)] XR) [(0, (grabC 19 [] X0))]))) = z91_25 XR X0 v1 v2 v3 v4 h5 := by kernel_rfl
theorem r91_25 (XR : Int → Heap → Prop) (X0 : Heap → Prop) (v1 : Sl) (v2 : Value) (v3 : Int) (v4 : Int) (h5 : Heap) (H : z91_25 XR X0 v1 v2 v3 v4 h5) : l91_25 XR X0 v1 v2 v3 v4 h5 := loop_stepE (p := 25) (N := 19) (keep := [(0, sP), (1, vP), (7, iP .i64), (8, iP .i64)]) (o91) rfl s91_25 (k91_25 XR X0 v1 v2 v3 v4 h5) (by kernel_rfl) H
def z91 (p0 : Sl) (p1 : Value) (h : Heap) (K : Int → Heap → Prop) : Prop :=
 (l91_25
 (fun z12 h13 =>
 (K z12 h13))
 (fun h14 =>
 (K (-1) h14))
 p0 p1 ((p0.len : Nat) : Int) 0 h)
theorem k91 (p0 : Sl) (p1 : Value) (h : Heap) (K : Int → Heap → Prop) : fnK C91 Try.f91.results.toList Try.f91.ntmps b91 [(Sl.v p0), p1] h (outC [iP .i64] K) = z91 p0 p1 h K := by kernel_rfl
theorem r91 (p0 : Sl) (p1 : Value) (h : Heap) (K : Int → Heap → Prop) (H : z91 p0 p1 h K) : t91 p0 p1 h K := fn_stepE (C := C91) (fn := Try.f91) (g := 91) o91 rfl rfl (by kernel_rfl) (by kernel_rfl) (by kernel_rfl) (k91 p0 p1 h K) (by kernel_rfl) H

/-! 92: math/bits.Mul -/
noncomputable def b92 : Code := Try.f92.body.getD .skip
noncomputable def C92 : Ctx := baseC Try.prog [95, 75] none (cons1 101 w101 (allF Try.prog)) (allI Try.prog) none1
theorem o92 : CtxOK (C92) b92 := (addF (base_ok eqOK mixOK none b92) (wC_ok Try.prog 101 [iP .u64, iP .u64] [iP .u64, iP .u64]))
def z92 (p0 : Int) (p1 : Int) (h : Heap) (K : Int → Int → Heap → Prop) : Prop :=
 (t101 p0 p1 h fun r1 r2 h3 =>
 (K r1 r2 h3))
theorem k92 (p0 : Int) (p1 : Int) (h : Heap) (K : Int → Int → Heap → Prop) : fnK C92 Try.f92.results.toList Try.f92.ntmps b92 [(.int .u64 p0), (.int .u64 p1)] h (outC [iP .u64, iP .u64] K) = z92 p0 p1 h K := by kernel_rfl
theorem r92 (p0 : Int) (p1 : Int) (h : Heap) (K : Int → Int → Heap → Prop) (H : z92 p0 p1 h K) : t92 p0 p1 h K := fn_stepE (C := C92) (fn := Try.f92) (g := 92) o92 rfl rfl (by kernel_rfl) (by kernel_rfl) (by kernel_rfl) (k92 p0 p1 h K) (by kernel_rfl) H

/-! 93: slices.ContainsFunc[[]minikin/flow.Arc,minikin/flow.Arc] -/
noncomputable def b93 : Code := Try.f93.body.getD .skip
noncomputable def C93 : Ctx := baseC Try.prog [95, 75] none (cons1 102 w102 (allF Try.prog)) (allI Try.prog) none1
theorem o93 : CtxOK (C93) b93 := (addF (base_ok eqOK mixOK none b93) (wC_ok Try.prog 102 [sP, vP] [iP .i64]))
def z93 (p0 : Sl) (p1 : Value) (h : Heap) (K : Bool → Heap → Prop) : Prop :=
 (t102 p0 p1 h fun r1 h2 =>
 (K (decide (r1 ≥ 0)) h2))
theorem k93 (p0 : Sl) (p1 : Value) (h : Heap) (K : Bool → Heap → Prop) : fnK C93 Try.f93.results.toList Try.f93.ntmps b93 [(Sl.v p0), p1] h (outC [bP] K) = z93 p0 p1 h K := by kernel_rfl
theorem r93 (p0 : Sl) (p1 : Value) (h : Heap) (K : Bool → Heap → Prop) (H : z93 p0 p1 h K) : t93 p0 p1 h K := fn_stepE (C := C93) (fn := Try.f93) (g := 93) o93 rfl rfl (by kernel_rfl) (by kernel_rfl) (by kernel_rfl) (k93 p0 p1 h K) (by kernel_rfl) H

/-! 94: minikin/flow.Check$1 -/
noncomputable def b94 : Code := Try.f94.body.getD .skip
noncomputable def C94 : Ctx := baseC Try.prog [95, 75] none (cons1 95 w95 (allF Try.prog)) (allI Try.prog) none1
theorem o94 : CtxOK (C94) b94 := (addF (base_ok eqOK mixOK none b94) (wC_ok Try.prog 95 [iP .i64, aggP [iP .i64, iP .i64, iP .i64]] [bP]))
def z94 (p0 : (Int × Int × Int × Unit)) (p1 : Option Addr) (h : Heap) (K : Bool → Heap → Prop) : Prop :=
 (withH (Heap.new h (.cells [(.int .i64 p0.1), (.int .i64 p0.2.1), (.int .i64 p0.2.2.1)] false)) fun h1 =>
 (Go.AM.get p1 fun a2 =>
 (Go.AM.get (asI .i64 (Heap.rd h1 ⟨a2.block, a2.off, none⟩)) fun y3 =>
 (Go.AM.get (asI .i64 (Heap.rd h1 ⟨h.next, 0, none⟩)) fun y4 =>
 (Go.AM.get (asI .i64 (Heap.rd h1 ⟨h.next, 1, none⟩)) fun y5 =>
 (Go.AM.get (asI .i64 (Heap.rd h1 ⟨h.next, 2, none⟩)) fun y6 =>
 (t95 y3 (y4, y5, y6, ()) h1 fun r7 h8 =>
 (K (!r7) h8))))))))
theorem k94 (p0 : (Int × Int × Int × Unit)) (p1 : Option Addr) (h : Heap) (K : Bool → Heap → Prop) : fnK C94 Try.f94.results.toList Try.f94.ntmps b94 [(.agg ⟨[(.int .i64 p0.1), (.int .i64 p0.2.1), (.int .i64 p0.2.2.1)]⟩), (.pointer p1)] h (outC [bP] K) = z94 p0 p1 h K := by kernel_rfl
theorem r94 (p0 : (Int × Int × Int × Unit)) (p1 : Option Addr) (h : Heap) (K : Bool → Heap → Prop) (H : z94 p0 p1 h K) : t94 p0 p1 h K := fn_stepE (C := C94) (fn := Try.f94) (g := 94) o94 rfl rfl (by kernel_rfl) (by kernel_rfl) (by kernel_rfl) (k94 p0 p1 h K) (by kernel_rfl) H

/-! 95: minikin/flow.isArc -/
noncomputable def b95 : Code := Try.f95.body.getD .skip
noncomputable def C95 : Ctx := baseC Try.prog [95, 75] none (allF Try.prog) (allI Try.prog) none1
theorem o95 : CtxOK (C95) b95 := (base_ok eqOK mixOK none b95)
def z95 (p0 : Int) (p1 : (Int × Int × Int × Unit)) (h : Heap) (K : Bool → Heap → Prop) : Prop :=
 (withH (Heap.new h (.cells [(.int .i64 p1.1), (.int .i64 p1.2.1), (.int .i64 p1.2.2.1)] false)) fun h2 =>
 (Go.AM.get (asI .i64 (Heap.rd h2 ⟨h.next, 0, none⟩)) fun y3 =>
 (Go.AM.get (asI .i64 (Heap.rd h2 ⟨h.next, 1, none⟩)) fun y4 =>
 (branch (decide ((if y4 < y3 then y4 else y3) ≥ 0))
 (Go.AM.get (asI .i64 (Heap.rd h2 ⟨h.next, 0, none⟩)) fun y5 =>
 (Go.AM.get (asI .i64 (Heap.rd h2 ⟨h.next, 1, none⟩)) fun y6 =>
 (branch (decide ((if y6 > y5 then y6 else y5) < p0))
 (Go.AM.get (asI .i64 (Heap.rd h2 ⟨h.next, 0, none⟩)) fun y7 =>
 (Go.AM.get (asI .i64 (Heap.rd h2 ⟨h.next, 1, none⟩)) fun y8 =>
 (branch (y7 != y8)
 (Go.AM.get (asI .i64 (Heap.rd h2 ⟨h.next, 2, none⟩)) fun y9 =>
 (branch (decide (y9 ≥ 0))
 (Go.AM.get (asI .i64 (Heap.rd h2 ⟨h.next, 2, none⟩)) fun y10 =>
 (K (decide (y10 ≤ 1000000000)) h2))
 (K false h2)))
 (K false h2))))
 (K false h2))))
 (K false h2)))))
theorem k95 (p0 : Int) (p1 : (Int × Int × Int × Unit)) (h : Heap) (K : Bool → Heap → Prop) : fnK C95 Try.f95.results.toList Try.f95.ntmps b95 [(.int .i64 p0), (.agg ⟨[(.int .i64 p1.1), (.int .i64 p1.2.1), (.int .i64 p1.2.2.1)]⟩)] h (outC [bP] K) = z95 p0 p1 h K := by kernel_rfl
theorem r95 (p0 : Int) (p1 : (Int × Int × Int × Unit)) (h : Heap) (K : Bool → Heap → Prop) (H : z95 p0 p1 h K) : t95 p0 p1 h K := fn_stepE (C := C95) (fn := Try.f95) (g := 95) o95 rfl rfl (by kernel_rfl) (by kernel_rfl) (by kernel_rfl) (k95 p0 p1 h K) (by kernel_rfl) H

/-! 96: (*minikin/flow.work).levels -/
noncomputable def b96 : Code := Try.f96.body.getD .skip
noncomputable def c96_57 : Code := (subN b96 115).getD .skip
theorem s96_57 : subN b96 115 = some c96_57 := by kernel_rfl
theorem sl96_57 : subN b96 57 = some (.loop c96_57) := by kernel_rfl
noncomputable def l96_57 (X0 : Option Addr → Int → Option Addr → Option Addr → Heap → Prop) : Option Addr → Int → Option Addr → Option Addr → Int → Heap → Prop := lC Try.prog none c96_57 76 [(0, pP), (1, iP .i64), (4, pP), (5, pP), (12, iP .i64)] (outE noE noE [(0, (grabC 76 [(0, pP), (1, iP .i64), (4, pP), (5, pP)] X0))])
noncomputable def c96_8295014 : Code := (subN b96 8295014).getD .skip
theorem s96_8295014 : subN b96 8295014 = some c96_8295014 := by kernel_rfl
noncomputable def q96_8295014 (XN : Option Addr → Option Addr → Option Addr → Sl → Int → Sl → Int → Int → Heap → Prop) : Option Addr → Option Addr → Option Addr → Sl → Int → Int → Sl → Int → Int → Bool → Heap → Prop := qC Try.prog none c96_8295014 76 [(0, pP), (4, pP), (5, pP), (7, sP), (8, iP .i64), (11, iP .i64), (36, sP), (37, iP .i64), (38, iP .i64), (60, bP)] (outE (grabC 76 [(0, pP), (4, pP), (5, pP), (7, sP), (8, iP .i64), (36, sP), (37, iP .i64), (38, iP .i64)] XN) noE [])
noncomputable def c96_32401 : Code := (subN b96 64803).getD .skip
theorem s96_32401 : subN b96 64803 = some c96_32401 := by kernel_rfl
theorem sl96_32401 : subN b96 32401 = some (.loop c96_32401) := by kernel_rfl
noncomputable def l96_32401 (X4 : Option Addr → Option Addr → Option Addr → Sl → Int → Heap → Prop) : Option Addr → Option Addr → Option Addr → Sl → Int → Sl → Int → Int → Heap → Prop := lC Try.prog none c96_32401 76 [(0, pP), (4, pP), (5, pP), (7, sP), (8, iP .i64), (36, sP), (37, iP .i64), (38, iP .i64)] (outE noE noE [(4, (grabC 76 [(0, pP), (4, pP), (5, pP), (7, sP), (8, iP .i64)] X4))])
noncomputable def c96_505 : Code := (subN b96 1011).getD .skip
theorem s96_505 : subN b96 1011 = some c96_505 := by kernel_rfl
theorem sl96_505 : subN b96 505 = some (.loop c96_505) := by kernel_rfl
noncomputable def l96_505 (X2 : Option Addr → Option Addr → Heap → Prop) : Option Addr → Option Addr → Option Addr → Sl → Int → Heap → Prop := lC Try.prog none c96_505 76 [(0, pP), (4, pP), (5, pP), (7, sP), (8, iP .i64)] (outE noE noE [(2, (grabC 76 [(4, pP), (5, pP)] X2))])
noncomputable def C96 : Ctx := baseC Try.prog [95, 75] none (allF Try.prog) (allI Try.prog) (cons1 505 (gC 76 [(0, pP), (4, pP), (5, pP), (7, sP), (8, iP .i64)] none none [(2, [(4, pP), (5, pP)])] (lC Try.prog none c96_505 76 [(0, pP), (4, pP), (5, pP), (7, sP), (8, iP .i64)])) (cons1 32401 (gC 76 [(0, pP), (4, pP), (5, pP), (7, sP), (8, iP .i64), (36, sP), (37, iP .i64), (38, iP .i64)] none none [(4, [(0, pP), (4, pP), (5, pP), (7, sP), (8, iP .i64)])] (lC Try.prog none c96_32401 76 [(0, pP), (4, pP), (5, pP), (7, sP), (8, iP .i64), (36, sP), (37, iP .i64), (38, iP .i64)])) (cons1 8295014 (gC 76 [(0, pP), (4, pP), (5, pP), (7, sP), (8, iP .i64), (11, iP .i64), (36, sP), (37, iP .i64), (38, iP .i64), (60, bP)] (some [(0, pP), (4, pP), (5, pP), (7, sP), (8, iP .i64), (36, sP), (37, iP .i64), (38, iP .i64)]) none [] (qC Try.prog none c96_8295014 76 [(0, pP), (4, pP), (5, pP), (7, sP), (8, iP .i64), (11, iP .i64), (36, sP), (37, iP .i64), (38, iP .i64), (60, bP)])) (cons1 57 (gC 76 [(0, pP), (1, iP .i64), (4, pP), (5, pP), (12, iP .i64)] none none [(0, [(0, pP), (1, iP .i64), (4, pP), (5, pP)])] (lC Try.prog none c96_57 76 [(0, pP), (1, iP .i64), (4, pP), (5, pP), (12, iP .i64)])) none1))))
theorem o96 : CtxOK (C96) b96 := (addL (addL (addQ (addL (base_ok eqOK mixOK none b96) sl96_57) s96_8295014) sl96_32401) sl96_505)
def z96_57 (X0 : Option Addr → Int → Option Addr → Option Addr → Heap → Prop) (v5 : Option Addr) (v6 : Int) (v7 : Option Addr) (v8 : Option Addr) (v9 : Int) (h10 : Heap) : Prop :=
 (branch (decide (v9 < 24))
 (Go.AM.get v8 fun a11 =>
 (chk (idx v9 24) <|
 (Go.AM.get (Heap.wr h10 ⟨a11.block, (a11.off + ((Int.toNat v9) * 1)), none⟩ [(.int .i64 (-1))]) fun h12 =>
 (l96_57 X0 v5 v6 v7 v8 (IntKind.wrap .i64 (v9 + 1)) h12))))
 (X0 v5 v6 v7 v8 h10))
theorem k96_57 (X0 : Option Addr → Int → Option Addr → Option Addr → Heap → Prop) (v5 : Option Addr) (v6 : Int) (v7 : Option Addr) (v8 : Option Addr) (v9 : Int) (h10 : Heap) : (exec (C96) c96_57 false 115 (Fr.put (Fr.put (Fr.put (Fr.put (Fr.put (Fr0 76) (some 0) (.pointer v5)) (some 1) (.int .i64 v6)) (some 4) (.pointer v7)) (some 5) (.pointer v8)) (some 12) (.int .i64 v9)) h10 (loopE (grabC 76 [(0, pP), (1, iP .i64), (4, pP), (5, pP), (12, iP .i64)] (lC (C96).P (C96).yld c96_57 76 [(0, pP), (1, iP .i64), (4, pP), (5, pP), (12, iP .i64)] (outE noE noE [(0, (grabC 76 [(0, pP), (1, iP .i64), (4, pP), (5, pP)] X0))]))) (outE noE noE [(0, (grabC 76 [(0, pP), (1, iP .i64), (4, pP), (5, pP)] X0))]))) = z96_57 X0 v5 v6 v7 v8 v9 h10 := by kernel_rfl
theorem r96_57 (X0 : Option Addr → Int → Option Addr → Option Addr → Heap → Prop) (v5 : Option Addr) (v6 : Int) (v7 : Option Addr) (v8 : Option Addr) (v9 : Int) (h10 : Heap) (H : z96_57 X0 v5 v6 v7 v8 v9 h10) : l96_57 X0 v5 v6 v7 v8 v9 h10 := loop_stepE (p := 57) (N := 76) (keep := [(0, pP), (1, iP .i64), (4, pP), (5, pP), (12, iP .i64)]) (o96) rfl s96_57 (k96_57 X0 v5 v6 v7 v8 v9 h10) (by kernel_rfl) H
def z96_8295014 (XN : Option Addr → Option Addr → Option Addr → Sl → Int → Sl → Int → Int → Heap → Prop) (v64 : Option Addr) (v65 : Option Addr) (v66 : Option Addr) (v67 : Sl) (v68 : Int) (v69 : Int) (v70 : Sl) (v71 : Int) (v72 : Int) (v73 : Bool) (h74 : Heap) : Prop :=
 (branch v73
 (Go.AM.get v67.a fun a75 =>
 (chk (idx v68 v67.len) <|
 (Go.AM.get (asI .i64 (Heap.rd h74 ⟨a75.block, (a75.off + ((Int.toNat v68) * 1)), none⟩)) fun y76 =>
 (Go.AM.get v66 fun a77 =>
 (chk (idx y76 24) <|
 (Go.AM.get (asI .i64 (Heap.rd h74 ⟨a77.block, (a77.off + ((Int.toNat y76) * 1)), none⟩)) fun y78 =>
 (Go.AM.get v66 fun a79 =>
 (chk (idx v69 24) <|
 (Go.AM.get (Heap.wr h74 ⟨a79.block, (a79.off + ((Int.toNat v69) * 1)), none⟩ [(.int .i64 (IntKind.wrap .i64 (y78 + 1)))]) fun h80 =>
 (withH (Heap.new h80 (.cells [(.int .i64 v69)] false)) fun h81 =>
 (Go.AM.get (Heap.rdN h81 ⟨h80.next, 0, none⟩ 1) fun y82 =>
 (Go.AM.get (Heap.app h81 1 8 v67 1 y82) fun r83 =>
 (XN v64 v65 v66 r83.1 v68 v70 v71 v72 r83.2)))))))))))))
 (XN v64 v65 v66 v67 v68 v70 v71 v72 h74))
theorem k96_8295014 (XN : Option Addr → Option Addr → Option Addr → Sl → Int → Sl → Int → Int → Heap → Prop) (v64 : Option Addr) (v65 : Option Addr) (v66 : Option Addr) (v67 : Sl) (v68 : Int) (v69 : Int) (v70 : Sl) (v71 : Int) (v72 : Int) (v73 : Bool) (h74 : Heap) : (exec (C96) c96_8295014 true 8295014 (Fr.put (Fr.put (Fr.put (Fr.put (Fr.put (Fr.put (Fr.put (Fr.put (Fr.put (Fr.put (Fr0 76) (some 0) (.pointer v64)) (some 4) (.pointer v65)) (some 5) (.pointer v66)) (some 7) (Sl.v v67)) (some 8) (.int .i64 v68)) (some 11) (.int .i64 v69)) (some 36) (Sl.v v70)) (some 37) (.int .i64 v71)) (some 38) (.int .i64 v72)) (some 60) (.bool v73)) h74 (outE (grabC 76 [(0, pP), (4, pP), (5, pP), (7, sP), (8, iP .i64), (36, sP), (37, iP .i64), (38, iP .i64)] XN) noE [])) = z96_8295014 XN v64 v65 v66 v67 v68 v69 v70 v71 v72 v73 h74 := by kernel_rfl
theorem r96_8295014 (XN : Option Addr → Option Addr → Option Addr → Sl → Int → Sl → Int → Int → Heap → Prop) (v64 : Option Addr) (v65 : Option Addr) (v66 : Option Addr) (v67 : Sl) (v68 : Int) (v69 : Int) (v70 : Sl) (v71 : Int) (v72 : Int) (v73 : Bool) (h74 : Heap) (H : z96_8295014 XN v64 v65 v66 v67 v68 v69 v70 v71 v72 v73 h74) : q96_8295014 XN v64 v65 v66 v67 v68 v69 v70 v71 v72 v73 h74 := piece_stepE (p := 8295014) (o96) rfl s96_8295014 (k96_8295014 XN v64 v65 v66 v67 v68 v69 v70 v71 v72 v73 h74) (by kernel_rfl) H
def z96_32401 (X4 : Option Addr → Option Addr → Option Addr → Sl → Int → Heap → Prop) (v43 : Option Addr) (v44 : Option Addr) (v45 : Option Addr) (v46 : Sl) (v47 : Int) (v48 : Sl) (v49 : Int) (v50 : Int) (h51 : Heap) : Prop :=
 (branch (decide (v50 < v49))
 (Go.AM.get v48.a fun a54 =>
 (chk (idx v50 v48.len) <|
 (Go.AM.get (asI .i64 (Heap.rd h51 ⟨a54.block, (a54.off + ((Int.toNat v50) * 1)), none⟩)) fun y55 =>
 (Go.AM.get v43 fun a58 =>
 (chk (idx y55 400) <|
 (Go.AM.get (asI .i64 (Heap.rd h51 ⟨a58.block, ((a58.off + 1) + ((Int.toNat y55) * 1)), none⟩)) fun y59 =>
 (Go.AM.get v43 fun a84 =>
 (chk (idx y55 400) <|
 (Go.AM.get (asI .i64 (Heap.rd h51 ⟨a84.block, ((a84.off + 401) + ((Int.toNat y55) * 1)), none⟩)) fun y85 =>
 (branch (decide (y85 > 0))
 (Go.AM.get v45 fun a86 =>
 (chk (idx y59 24) <|
 (Go.AM.get (asI .i64 (Heap.rd h51 ⟨a86.block, (a86.off + ((Int.toNat y59) * 1)), none⟩)) fun y87 =>
 (q96_8295014
 (fun z88 z89 z90 z91 z92 z93 z94 z95 h96 =>
 (l96_32401 X4 z88 z89 z90 z91 z92 z93 z94 (IntKind.wrap .i64 (z95 + 1)) h96))
 v43 v44 v45 v46 v47 y59 v48 v49 v50 (decide (y87 < 0)) h51))))
 (q96_8295014
 (fun z97 z98 z99 z100 z101 z102 z103 z104 h105 =>
 (l96_32401 X4 z97 z98 z99 z100 z101 z102 z103 (IntKind.wrap .i64 (z104 + 1)) h105))
 v43 v44 v45 v46 v47 y59 v48 v49 v50 false h51)))))))))))
 (X4 v43 v44 v45 v46 v47 h51))
theorem k96_32401 (X4 : Option Addr → Option Addr → Option Addr → Sl → Int → Heap → Prop) (v43 : Option Addr) (v44 : Option Addr) (v45 : Option Addr) (v46 : Sl) (v47 : Int) (v48 : Sl) (v49 : Int) (v50 : Int) (h51 : Heap) : (exec (C96) c96_32401 false 64803 (Fr.put (Fr.put (Fr.put (Fr.put (Fr.put (Fr.put (Fr.put (Fr.put (Fr0 76) (some 0) (.pointer v43)) (some 4) (.pointer v44)) (some 5) (.pointer v45)) (some 7) (Sl.v v46)) (some 8) (.int .i64 v47)) (some 36) (Sl.v v48)) (some 37) (.int .i64 v49)) (some 38) (.int .i64 v50)) h51 (loopE (grabC 76 [(0, pP), (4, pP), (5, pP), (7, sP), (8, iP .i64), (36, sP), (37, iP .i64), (38, iP .i64)] (lC (C96).P (C96).yld c96_32401 76 [(0, pP), (4, pP), (5, pP), (7, sP), (8, iP .i64), (36, sP), (37, iP .i64), (38, iP .i64)] (outE noE noE [(4, (grabC 76 [(0, pP), (4, pP), (5, pP), (7, sP), (8, iP .i64)] X4))]))) (outE noE noE [(4, (grabC 76 [(0, pP), (4, pP), (5, pP), (7, sP), (8, iP .i64)] X4))]))) = z96_32401 X4 v43 v44 v45 v46 v47 v48 v49 v50 h51 := by kernel_rfl
theorem r96_32401 (X4 : Option Addr → Option Addr → Option Addr → Sl → Int → Heap → Prop) (v43 : Option Addr) (v44 : Option Addr) (v45 : Option Addr) (v46 : Sl) (v47 : Int) (v48 : Sl) (v49 : Int) (v50 : Int) (h51 : Heap) (H : z96_32401 X4 v43 v44 v45 v46 v47 v48 v49 v50 h51) : l96_32401 X4 v43 v44 v45 v46 v47 v48 v49 v50 h51 := loop_stepE (p := 32401) (N := 76) (keep := [(0, pP), (4, pP), (5, pP), (7, sP), (8, iP .i64), (36, sP), (37, iP .i64), (38, iP .i64)]) (o96) rfl s96_32401 (k96_32401 X4 v43 v44 v45 v46 v47 v48 v49 v50 h51) (by kernel_rfl) H
def z96_505 (X2 : Option Addr → Option Addr → Heap → Prop) (v29 : Option Addr) (v30 : Option Addr) (v31 : Option Addr) (v32 : Sl) (v33 : Int) (h34 : Heap) : Prop :=
 (branch (decide (v33 < ((v32.len : Nat) : Int)))
 (Go.AM.get v32.a fun a39 =>
 (chk (idx v33 v32.len) <|
 (Go.AM.get (asI .i64 (Heap.rd h34 ⟨a39.block, (a39.off + ((Int.toNat v33) * 1)), none⟩)) fun y40 =>
 (Go.AM.get v29 fun a41 =>
 (chk (idx y40 24) <|
 (Go.AM.get (asS (Heap.rd h34 ⟨a41.block, ((a41.off + 801) + ((Int.toNat y40) * 1)), none⟩)) fun y42 =>
 (l96_32401
 (fun z106 z107 z108 z109 z110 h111 =>
 (l96_505 X2 z106 z107 z108 z109 (IntKind.wrap .i64 (z110 + 1)) h111))
 v29 v30 v31 v32 v33 y42 ((y42.len : Nat) : Int) 0 h34)))))))
 (X2 v30 v31 h34))
theorem k96_505 (X2 : Option Addr → Option Addr → Heap → Prop) (v29 : Option Addr) (v30 : Option Addr) (v31 : Option Addr) (v32 : Sl) (v33 : Int) (h34 : Heap) : (exec (C96) c96_505 false 1011 (Fr.put (Fr.put (Fr.put (Fr.put (Fr.put (Fr0 76) (some 0) (.pointer v29)) (some 4) (.pointer v30)) (some 5) (.pointer v31)) (some 7) (Sl.v v32)) (some 8) (.int .i64 v33)) h34 (loopE (grabC 76 [(0, pP), (4, pP), (5, pP), (7, sP), (8, iP .i64)] (lC (C96).P (C96).yld c96_505 76 [(0, pP), (4, pP), (5, pP), (7, sP), (8, iP .i64)] (outE noE noE [(2, (grabC 76 [(4, pP), (5, pP)] X2))]))) (outE noE noE [(2, (grabC 76 [(4, pP), (5, pP)] X2))]))) = z96_505 X2 v29 v30 v31 v32 v33 h34 := by kernel_rfl
theorem r96_505 (X2 : Option Addr → Option Addr → Heap → Prop) (v29 : Option Addr) (v30 : Option Addr) (v31 : Option Addr) (v32 : Sl) (v33 : Int) (h34 : Heap) (H : z96_505 X2 v29 v30 v31 v32 v33 h34) : l96_505 X2 v29 v30 v31 v32 v33 h34 := loop_stepE (p := 505) (N := 76) (keep := [(0, pP), (4, pP), (5, pP), (7, sP), (8, iP .i64)]) (o96) rfl s96_505 (k96_505 X2 v29 v30 v31 v32 v33 h34) (by kernel_rfl) H
def z96 (p0 : Option Addr) (p1 : Int) (h : Heap) (K : List Value → Heap → Prop) : Prop :=
 (withH (Heap.new h (.cells (List.replicate 24 (.int .i64 0)) false)) fun h2 =>
 (withH (Heap.new h2 (.cells (List.replicate 24 (.int .i64 0)) false)) fun h4 =>
 (l96_57
 (fun z18 z19 z20 z21 h22 =>
 (Go.AM.get z21 fun a25 =>
 (chk (idx z19 24) <|
 (Go.AM.get (Heap.wr h22 ⟨a25.block, (a25.off + ((Int.toNat z19) * 1)), none⟩ [(.int .i64 0)]) fun h26 =>
 (withH (Heap.new h26 (.cells [(.int .i64 z19)] false)) fun h28 =>
 (l96_505
 (fun z112 z113 h114 =>
 (Go.AM.get z113 fun a115 =>
 (Go.AM.get (Heap.rdN h114 a115 24) fun y116 =>
 (Go.AM.get z112 fun a117 =>
 (chk (Nat.beq (List.length y116) 24 && List.all y116 Value.oneCell') <|
 (Go.AM.get (Heap.wr h114 a117 y116) fun h118 =>
 (Go.AM.get z112 fun a119 =>
 (Go.AM.get (Heap.rdN h118 a119 24) fun y120 =>
 (K y120 h118)))))))))
 z18 z20 z21 (Sl.mk (some ⟨h26.next, 0, (some 0)⟩) 1 1) 0 h28))))))
 p0 p1 (some ⟨h.next, 0, none⟩) (some ⟨h2.next, 0, none⟩) 0 h4)))
theorem k96 (p0 : Option Addr) (p1 : Int) (h : Heap) (K : List Value → Heap → Prop) : fnK C96 Try.f96.results.toList Try.f96.ntmps b96 [(.pointer p0), (.int .i64 p1)] h (outC [lP] K) = z96 p0 p1 h K := by kernel_rfl
theorem r96 (p0 : Option Addr) (p1 : Int) (h : Heap) (K : List Value → Heap → Prop) (H : z96 p0 p1 h K) : t96 p0 p1 h K := fn_stepE (C := C96) (fn := Try.f96) (g := 96) o96 rfl rfl (by kernel_rfl) (by kernel_rfl) (by kernel_rfl) (k96 p0 p1 h K) (by kernel_rfl) H

/-! 98: (*minikin/pair.finder).meet -/
noncomputable def b98 : Code := Try.f98.body.getD .skip
noncomputable def c98_27 : Code := (subN b98 55).getD .skip
theorem s98_27 : subN b98 55 = some c98_27 := by kernel_rfl
theorem sl98_27 : subN b98 27 = some (.loop c98_27) := by kernel_rfl
noncomputable def l98_27 (X0 : Option Addr → Int → Option Addr → Heap → Prop) : Option Addr → Int → Int → Option Addr → Heap → Prop := lC Try.prog none c98_27 61 [(0, pP), (1, iP .i64), (2, iP .i64), (7, pP)] (outE noE noE [(0, (grabC 61 [(0, pP), (2, iP .i64), (7, pP)] X0))])
noncomputable def c98_121 : Code := (subN b98 243).getD .skip
theorem s98_121 : subN b98 243 = some c98_121 := by kernel_rfl
theorem sl98_121 : subN b98 121 = some (.loop c98_121) := by kernel_rfl
noncomputable def l98_121 (X2 : Int → Heap → Prop) : Option Addr → Int → Option Addr → Heap → Prop := lC Try.prog none c98_121 61 [(0, pP), (2, iP .i64), (7, pP)] (outE noE noE [(2, (grabC 61 [(2, iP .i64)] X2))])
noncomputable def C98 : Ctx := baseC Try.prog [95, 75] none (allF Try.prog) (allI Try.prog) (cons1 121 (gC 61 [(0, pP), (2, iP .i64), (7, pP)] none none [(2, [(2, iP .i64)])] (lC Try.prog none c98_121 61 [(0, pP), (2, iP .i64), (7, pP)])) (cons1 27 (gC 61 [(0, pP), (1, iP .i64), (2, iP .i64), (7, pP)] none none [(0, [(0, pP), (2, iP .i64), (7, pP)])] (lC Try.prog none c98_27 61 [(0, pP), (1, iP .i64), (2, iP .i64), (7, pP)])) none1))
theorem o98 : CtxOK (C98) b98 := (addL (addL (base_ok eqOK mixOK none b98) sl98_27) sl98_121)
def z98_27 (X0 : Option Addr → Int → Option Addr → Heap → Prop) (v3 : Option Addr) (v4 : Int) (v5 : Int) (v6 : Option Addr) (h7 : Heap) : Prop :=
 (Go.AM.get v3 fun a10 =>
 (chk (idx v4 40) <|
 (Go.AM.get (asI .i64 (Heap.rd h7 ⟨a10.block, ((a10.off + 121) + ((Int.toNat v4) * 1)), none⟩)) fun y11 =>
 (Go.AM.get v6 fun a14 =>
 (chk (idx y11 40) <|
 (Go.AM.get (Heap.wr h7 ⟨a14.block, (a14.off + ((Int.toNat y11) * 1)), none⟩ [(.bool true)]) fun h15 =>
 (Go.AM.get v3 fun a18 =>
 (chk (idx y11 40) <|
 (Go.AM.get (asI .i64 (Heap.rd h15 ⟨a18.block, ((a18.off + 41) + ((Int.toNat y11) * 1)), none⟩)) fun y19 =>
 (branch (decide (y19 < 0))
 (X0 v3 v5 v6 h15)
 (Go.AM.get v3 fun a20 =>
 (chk (idx y11 40) <|
 (Go.AM.get (asI .i64 (Heap.rd h15 ⟨a20.block, ((a20.off + 41) + ((Int.toNat y11) * 1)), none⟩)) fun y21 =>
 (Go.AM.get v3 fun a22 =>
 (chk (idx y21 40) <|
 (Go.AM.get (asI .i64 (Heap.rd h15 ⟨a22.block, ((a22.off + 81) + ((Int.toNat y21) * 1)), none⟩)) fun y23 =>
 (l98_27 X0 v3 y23 v5 v6 h15)))))))))))))))))
theorem k98_27 (X0 : Option Addr → Int → Option Addr → Heap → Prop) (v3 : Option Addr) (v4 : Int) (v5 : Int) (v6 : Option Addr) (h7 : Heap) : (exec (C98) c98_27 false 55 (Fr.put (Fr.put (Fr.put (Fr.put (Fr0 61) (some 0) (.pointer v3)) (some 1) (.int .i64 v4)) (some 2) (.int .i64 v5)) (some 7) (.pointer v6)) h7 (loopE (grabC 61 [(0, pP), (1, iP .i64), (2, iP .i64), (7, pP)] (lC (C98).P (C98).yld c98_27 61 [(0, pP), (1, iP .i64), (2, iP .i64), (7, pP)] (outE noE noE [(0, (grabC 61 [(0, pP), (2, iP .i64), (7, pP)] X0))]))) (outE noE noE [(0, (grabC 61 [(0, pP), (2, iP .i64), (7, pP)] X0))]))) = z98_27 X0 v3 v4 v5 v6 h7 := by kernel_rfl
theorem r98_27 (X0 : Option Addr → Int → Option Addr → Heap → Prop) (v3 : Option Addr) (v4 : Int) (v5 : Int) (v6 : Option Addr) (h7 : Heap) (H : z98_27 X0 v3 v4 v5 v6 h7) : l98_27 X0 v3 v4 v5 v6 h7 := loop_stepE (p := 27) (N := 61) (keep := [(0, pP), (1, iP .i64), (2, iP .i64), (7, pP)]) (o98) rfl s98_27 (k98_27 X0 v3 v4 v5 v6 h7) (by kernel_rfl) H
def z98_121 (X2 : Int → Heap → Prop) (v36 : Option Addr) (v37 : Int) (v38 : Option Addr) (h39 : Heap) : Prop :=
 (Go.AM.get v38 fun a42 =>
 (chk (idx v37 40) <|
 (Go.AM.get (asB (Heap.rd h39 ⟨a42.block, (a42.off + ((Int.toNat v37) * 1)), none⟩)) fun y43 =>
 (branch (!y43)
 (Go.AM.get v36 fun a44 =>
 (chk (idx v37 40) <|
 (Go.AM.get (asI .i64 (Heap.rd h39 ⟨a44.block, ((a44.off + 41) + ((Int.toNat v37) * 1)), none⟩)) fun y45 =>
 (Go.AM.get v36 fun a46 =>
 (chk (idx y45 40) <|
 (Go.AM.get (asI .i64 (Heap.rd h39 ⟨a46.block, ((a46.off + 81) + ((Int.toNat y45) * 1)), none⟩)) fun y47 =>
 (Go.AM.get v36 fun a48 =>
 (chk (idx y47 40) <|
 (Go.AM.get (asI .i64 (Heap.rd h39 ⟨a48.block, ((a48.off + 121) + ((Int.toNat y47) * 1)), none⟩)) fun y49 =>
 (l98_121 X2 v36 y49 v38 h39))))))))))
 (X2 v37 h39)))))
theorem k98_121 (X2 : Int → Heap → Prop) (v36 : Option Addr) (v37 : Int) (v38 : Option Addr) (h39 : Heap) : (exec (C98) c98_121 false 243 (Fr.put (Fr.put (Fr.put (Fr0 61) (some 0) (.pointer v36)) (some 2) (.int .i64 v37)) (some 7) (.pointer v38)) h39 (loopE (grabC 61 [(0, pP), (2, iP .i64), (7, pP)] (lC (C98).P (C98).yld c98_121 61 [(0, pP), (2, iP .i64), (7, pP)] (outE noE noE [(2, (grabC 61 [(2, iP .i64)] X2))]))) (outE noE noE [(2, (grabC 61 [(2, iP .i64)] X2))]))) = z98_121 X2 v36 v37 v38 h39 := by kernel_rfl
theorem r98_121 (X2 : Int → Heap → Prop) (v36 : Option Addr) (v37 : Int) (v38 : Option Addr) (h39 : Heap) (H : z98_121 X2 v36 v37 v38 h39) : l98_121 X2 v36 v37 v38 h39 := loop_stepE (p := 121) (N := 61) (keep := [(0, pP), (2, iP .i64), (7, pP)]) (o98) rfl s98_121 (k98_121 X2 v36 v37 v38 h39) (by kernel_rfl) H
def z98 (p0 : Option Addr) (p1 : Int) (p2 : Int) (h : Heap) (K : Int → Heap → Prop) : Prop :=
 (withH (Heap.new h (.cells (List.replicate 40 (.bool false)) false)) fun h2 =>
 (l98_27
 (fun z28 z29 z30 h31 =>
 (Go.AM.get z28 fun a34 =>
 (chk (idx z29 40) <|
 (Go.AM.get (asI .i64 (Heap.rd h31 ⟨a34.block, ((a34.off + 121) + ((Int.toNat z29) * 1)), none⟩)) fun y35 =>
 (l98_121
 (fun z50 h51 =>
 (K z50 h51))
 z28 y35 z30 h31)))))
 p0 p1 p2 (some ⟨h.next, 0, none⟩) h2))
theorem k98 (p0 : Option Addr) (p1 : Int) (p2 : Int) (h : Heap) (K : Int → Heap → Prop) : fnK C98 Try.f98.results.toList Try.f98.ntmps b98 [(.pointer p0), (.int .i64 p1), (.int .i64 p2)] h (outC [iP .i64] K) = z98 p0 p1 p2 h K := by kernel_rfl
theorem r98 (p0 : Option Addr) (p1 : Int) (p2 : Int) (h : Heap) (K : Int → Heap → Prop) (H : z98 p0 p1 p2 h K) : t98 p0 p1 p2 h K := fn_stepE (C := C98) (fn := Try.f98) (g := 98) o98 rfl rfl (by kernel_rfl) (by kernel_rfl) (by kernel_rfl) (k98 p0 p1 p2 h K) (by kernel_rfl) H

/-! 99: (*minikin/pair.finder).shrink$1 -/
noncomputable def b99 : Code := Try.f99.body.getD .skip
noncomputable def c99_1 : Code := (subN b99 3).getD .skip
theorem s99_1 : subN b99 3 = some c99_1 := by kernel_rfl
theorem sl99_1 : subN b99 1 = some (.loop c99_1) := by kernel_rfl
noncomputable def l99_1 (X0 : Heap → Prop) : Int → Int → Option Addr → Option Addr → Option Addr → Heap → Prop := lC Try.prog none c99_1 57 [(0, iP .i64), (1, iP .i64), (2, pP), (3, pP), (4, pP)] (outE noE noE [(0, (grabC 57 [] X0))])
noncomputable def C99 : Ctx := baseC Try.prog [95, 75] none (allF Try.prog) (allI Try.prog) (cons1 1 (gC 57 [(0, iP .i64), (1, iP .i64), (2, pP), (3, pP), (4, pP)] none none [(0, [])] (lC Try.prog none c99_1 57 [(0, iP .i64), (1, iP .i64), (2, pP), (3, pP), (4, pP)])) none1)
theorem o99 : CtxOK (C99) b99 := (addL (base_ok eqOK mixOK none b99) sl99_1)
def z99_1 (X0 : Heap → Prop) (v1 : Int) (v2 : Int) (v3 : Option Addr) (v4 : Option Addr) (v5 : Option Addr) (h6 : Heap) : Prop :=
 (Go.AM.get v3 fun a13 =>
 (Go.AM.get (asP (Heap.rd h6 a13)) fun y14 =>
 (Go.AM.get y14 fun a15 =>
 (chk (idx v1 40) <|
 (Go.AM.get (asI .i64 (Heap.rd h6 ⟨a15.block, ((a15.off + 121) + ((Int.toNat v1) * 1)), none⟩)) fun y16 =>
 (Go.AM.get v4 fun a17 =>
 (Go.AM.get (asI .i64 (Heap.rd h6 a17)) fun y18 =>
 (branch (y16 != y18)
 (Go.AM.get v3 fun a41 =>
 (Go.AM.get (asP (Heap.rd h6 a41)) fun y42 =>
 (Go.AM.get y42 fun a43 =>
 (chk (idx v1 40) <|
 (Go.AM.get (asI .i64 (Heap.rd h6 ⟨a43.block, ((a43.off + 121) + ((Int.toNat v1) * 1)), none⟩)) fun y44 =>
 (Go.AM.get v3 fun a45 =>
 (Go.AM.get (asP (Heap.rd h6 a45)) fun y46 =>
 (Go.AM.get v3 fun a47 =>
 (Go.AM.get (asP (Heap.rd h6 a47)) fun y48 =>
 (Go.AM.get y48 fun a49 =>
 (chk (idx v1 40) <|
 (Go.AM.get (asI .i64 (Heap.rd h6 ⟨a49.block, ((a49.off + 41) + ((Int.toNat v1) * 1)), none⟩)) fun y50 =>
 (Go.AM.get y46 fun a51 =>
 (chk (idx y50 40) <|
 (Go.AM.get (asI .i64 (Heap.rd h6 ⟨a51.block, ((a51.off + 121) + ((Int.toNat y50) * 1)), none⟩)) fun y52 =>
 (Go.AM.get v5 fun a53 =>
 (chk (idx y44 40) <|
 (Go.AM.get (Heap.wr h6 ⟨a53.block, (a53.off + ((Int.toNat y44) * 1)), none⟩ [(.bool true)]) fun h54 =>
 ((Go.AM.get (asI .i64 (Heap.rd h54 ⟨a51.block, ((a51.off + 121) + ((Int.toNat y50) * 1)), none⟩)) fun y55 =>
 (((.int .i64 y55) : Value) = (.int .i64 y52))) ∧ ((Go.AM.get (asI .i64 (Heap.rd h54 ⟨a49.block, ((a49.off + 41) + ((Int.toNat v1) * 1)), none⟩)) fun y56 =>
 (((.int .i64 y56) : Value) = (.int .i64 y50))) ∧ ((Go.AM.get v3 fun a57 =>
 (Go.AM.get (asP (Heap.rd h54 a57)) fun y58 =>
 (((.pointer y58) : Value) = (.pointer y48)))) ∧ ((Go.AM.get v3 fun a59 =>
 (Go.AM.get (asP (Heap.rd h54 a59)) fun y60 =>
 (((.pointer y60) : Value) = (.pointer y46)))) ∧ (Go.AM.get v5 fun a61 =>
 (chk (idx y52 40) <|
 (Go.AM.get (Heap.wr h54 ⟨a61.block, (a61.off + ((Int.toNat y52) * 1)), none⟩ [(.bool true)]) fun h62 =>
 (Go.AM.get v3 fun a67 =>
 (Go.AM.get (asP (Heap.rd h62 a67)) fun y68 =>
 (Go.AM.get y68 fun a69 =>
 (chk (idx v1 40) <|
 (Go.AM.get (Heap.wr h62 ⟨a69.block, ((a69.off + 81) + ((Int.toNat v1) * 1)), none⟩ [(.int .i64 v2)]) fun h70 =>
 (Go.AM.get v3 fun a75 =>
 (Go.AM.get (asP (Heap.rd h70 a75)) fun y76 =>
 (Go.AM.get y76 fun a77 =>
 (chk (idx v1 40) <|
 (Go.AM.get (asI .i64 (Heap.rd h70 ⟨a77.block, ((a77.off + 41) + ((Int.toNat v1) * 1)), none⟩)) fun y78 =>
 (Go.AM.get v3 fun a79 =>
 (Go.AM.get (asP (Heap.rd h70 a79)) fun y80 =>
 (Go.AM.get v3 fun a81 =>
 (Go.AM.get (asP (Heap.rd h70 a81)) fun y82 =>
 (Go.AM.get y82 fun a83 =>
 (chk (idx v1 40) <|
 (Go.AM.get (asI .i64 (Heap.rd h70 ⟨a83.block, ((a83.off + 41) + ((Int.toNat v1) * 1)), none⟩)) fun y84 =>
 (Go.AM.get y80 fun a85 =>
 (chk (idx y84 40) <|
 (Go.AM.get (asI .i64 (Heap.rd h70 ⟨a85.block, ((a85.off + 81) + ((Int.toNat y84) * 1)), none⟩)) fun y86 =>
 (l99_1 X0 y86 y78 v3 v4 v5 h70))))))))))))))))))))))))))))))))))))))))))))))
 (X0 h6)))))))))
theorem k99_1 (X0 : Heap → Prop) (v1 : Int) (v2 : Int) (v3 : Option Addr) (v4 : Option Addr) (v5 : Option Addr) (h6 : Heap) : (exec (C99) c99_1 false 3 (Fr.put (Fr.put (Fr.put (Fr.put (Fr.put (Fr0 57) (some 0) (.int .i64 v1)) (some 1) (.int .i64 v2)) (some 2) (.pointer v3)) (some 3) (.pointer v4)) (some 4) (.pointer v5)) h6 (loopE (grabC 57 [(0, iP .i64), (1, iP .i64), (2, pP), (3, pP), (4, pP)] (lC (C99).P (C99).yld c99_1 57 [(0, iP .i64), (1, iP .i64), (2, pP), (3, pP), (4, pP)] (outE noE noE [(0, (grabC 57 [] X0))]))) (outE noE noE [(0, (grabC 57 [] X0))]))) = z99_1 X0 v1 v2 v3 v4 v5 h6 := by kernel_rfl
theorem r99_1 (X0 : Heap → Prop) (v1 : Int) (v2 : Int) (v3 : Option Addr) (v4 : Option Addr) (v5 : Option Addr) (h6 : Heap) (H : z99_1 X0 v1 v2 v3 v4 v5 h6) : l99_1 X0 v1 v2 v3 v4 v5 h6 := loop_stepE (p := 1) (N := 57) (keep := [(0, iP .i64), (1, iP .i64), (2, pP), (3, pP), (4, pP)]) (o99) rfl s99_1 (k99_1 X0 v1 v2 v3 v4 v5 h6) (by kernel_rfl) H
def z99 (p0 : Int) (p1 : Int) (p2 : Option Addr) (p3 : Option Addr) (p4 : Option Addr) (h : Heap) (K : Heap → Prop) : Prop :=
 (l99_1
 (fun h87 =>
 (K h87))
 p0 p1 p2 p3 p4 h)
theorem k99 (p0 : Int) (p1 : Int) (p2 : Option Addr) (p3 : Option Addr) (p4 : Option Addr) (h : Heap) (K : Heap → Prop) : fnK C99 Try.f99.results.toList Try.f99.ntmps b99 [(.int .i64 p0), (.int .i64 p1), (.pointer p2), (.pointer p3), (.pointer p4)] h (outC [] K) = z99 p0 p1 p2 p3 p4 h K := by kernel_rfl
theorem r99 (p0 : Int) (p1 : Int) (p2 : Option Addr) (p3 : Option Addr) (p4 : Option Addr) (h : Heap) (K : Heap → Prop) (H : z99 p0 p1 p2 p3 p4 h K) : t99 p0 p1 p2 p3 p4 h K := fn_stepE (C := C99) (fn := Try.f99) (g := 99) o99 rfl rfl (by kernel_rfl) (by kernel_rfl) (by kernel_rfl) (k99 p0 p1 p2 p3 p4 h K) (by kernel_rfl) H

/-! 100: math/bits.Mul32 -/
noncomputable def b100 : Code := Try.f100.body.getD .skip
noncomputable def C100 : Ctx := baseC Try.prog [95, 75] none (allF Try.prog) (allI Try.prog) none1
theorem o100 : CtxOK (C100) b100 := (base_ok eqOK mixOK none b100)
def z100 (p0 : Int) (p1 : Int) (h : Heap) (K : Int → Int → Heap → Prop) : Prop :=
 (K (IntKind.wrap .u32 (Int.fdiv (IntKind.wrap .u64 ((IntKind.wrap .u64 p0) * (IntKind.wrap .u64 p1))) (2 ^ (min 32 64)))) (IntKind.wrap .u32 (IntKind.wrap .u64 ((IntKind.wrap .u64 p0) * (IntKind.wrap .u64 p1)))) h)
theorem k100 (p0 : Int) (p1 : Int) (h : Heap) (K : Int → Int → Heap → Prop) : fnK C100 Try.f100.results.toList Try.f100.ntmps b100 [(.int .u32 p0), (.int .u32 p1)] h (outC [iP .u32, iP .u32] K) = z100 p0 p1 h K := by kernel_rfl
theorem r100 (p0 : Int) (p1 : Int) (h : Heap) (K : Int → Int → Heap → Prop) (H : z100 p0 p1 h K) : t100 p0 p1 h K := fn_stepE (C := C100) (fn := Try.f100) (g := 100) o100 rfl rfl (by kernel_rfl) (by kernel_rfl) (by kernel_rfl) (k100 p0 p1 h K) (by kernel_rfl) H

/-! 101: math/bits.Mul64 -/
noncomputable def b101 : Code := Try.f101.body.getD .skip
noncomputable def C101 : Ctx := baseC Try.prog [95, 75] none (allF Try.prog) (allI Try.prog) none1
theorem o101 : CtxOK (C101) b101 := (base_ok eqOK mixOK none b101)
def z101 (p0 : Int) (p1 : Int) (h : Heap) (K : Int → Int → Heap → Prop) : Prop :=
 (K (IntKind.wrap .u64 ((IntKind.wrap .u64 ((IntKind.wrap .u64 ((Int.fdiv p0 (2 ^ (min 32 64))) * (Int.fdiv p1 (2 ^ (min 32 64))))) + (Int.fdiv (IntKind.wrap .u64 ((IntKind.wrap .u64 ((Int.fdiv p0 (2 ^ (min 32 64))) * (IntKind.wrap .u64 (BitVec.ofInt 64 p1 &&& BitVec.ofInt 64 4294967295).toNat))) + (Int.fdiv (IntKind.wrap .u64 ((IntKind.wrap .u64 (BitVec.ofInt 64 p0 &&& BitVec.ofInt 64 4294967295).toNat) * (IntKind.wrap .u64 (BitVec.ofInt 64 p1 &&& BitVec.ofInt 64 4294967295).toNat))) (2 ^ (min 32 64))))) (2 ^ (min 32 64))))) + (Int.fdiv (IntKind.wrap .u64 ((IntKind.wrap .u64 (BitVec.ofInt 64 (IntKind.wrap .u64 ((IntKind.wrap .u64 ((Int.fdiv p0 (2 ^ (min 32 64))) * (IntKind.wrap .u64 (BitVec.ofInt 64 p1 &&& BitVec.ofInt 64 4294967295).toNat))) + (Int.fdiv (IntKind.wrap .u64 ((IntKind.wrap .u64 (BitVec.ofInt 64 p0 &&& BitVec.ofInt 64 4294967295).toNat) * (IntKind.wrap .u64 (BitVec.ofInt 64 p1 &&& BitVec.ofInt 64 4294967295).toNat))) (2 ^ (min 32 64))))) &&& BitVec.ofInt 64 4294967295).toNat) + (IntKind.wrap .u64 ((IntKind.wrap .u64 (BitVec.ofInt 64 p0 &&& BitVec.ofInt 64 4294967295).toNat) * (Int.fdiv p1 (2 ^ (min 32 64))))))) (2 ^ (min 32 64))))) (IntKind.wrap .u64 (p0 * p1)) h)
theorem k101 (p0 : Int) (p1 : Int) (h : Heap) (K : Int → Int → Heap → Prop) : fnK C101 Try.f101.results.toList Try.f101.ntmps b101 [(.int .u64 p0), (.int .u64 p1)] h (outC [iP .u64, iP .u64] K) = z101 p0 p1 h K := by kernel_rfl
theorem r101 (p0 : Int) (p1 : Int) (h : Heap) (K : Int → Int → Heap → Prop) (H : z101 p0 p1 h K) : t101 p0 p1 h K := fn_stepE (C := C101) (fn := Try.f101) (g := 101) o101 rfl rfl (by kernel_rfl) (by kernel_rfl) (by kernel_rfl) (k101 p0 p1 h K) (by kernel_rfl) H

/-! 102: slices.IndexFunc[[]minikin/flow.Arc,minikin/flow.Arc] -/
noncomputable def b102 : Code := Try.f102.body.getD .skip
noncomputable def c102_25 : Code := (subN b102 51).getD .skip
theorem s102_25 : subN b102 51 = some c102_25 := by kernel_rfl
theorem sl102_25 : subN b102 25 = some (.loop c102_25) := by kernel_rfl
noncomputable def l102_25 (XR : Int → Heap → Prop) (X0 : Heap → Prop) : Sl → Value → Int → Int → Heap → Prop := lC Try.prog none c102_25 19 [(0, sP), (1, vP), (7, iP .i64), (8, iP .i64)] (outE noE (grabC 19 [(4, iP .i64)] XR) [(0, (grabC 19 [] X0))])
noncomputable def C102 : Ctx := baseC Try.prog [95, 75] none (allF Try.prog) (allI Try.prog) (cons1 25 (gC 19 [(0, sP), (1, vP), (7, iP .i64), (8, iP .i64)] none (some [(4, iP .i64)]) [(0, [])] (lC Try.prog none c102_25 19 [(0, sP), (1, vP), (7, iP .i64), (8, iP .i64)])) none1)
theorem o102 : CtxOK (C102) b102 := (addL (base_ok eqOK mixOK none b102) sl102_25)
def z102_25 (XR : Int → Heap → Prop) (X0 : Heap → Prop) (v1 : Sl) (v2 : Value) (v3 : Int) (v4 : Int) (h5 : Heap) : Prop :=
 (branch (decide (v4 < v3))
 (Go.AM.get v1.a fun a6 =>
 (chk (idx v4 v1.len) <|
 (Go.AM.get (asI .i64 (Heap.rd h5 ⟨a6.block, (a6.off + ((Int.toNat v4) * 3)), none⟩)) fun y7 =>
 (Go.AM.get (asI .i64 (Heap.rd h5 ⟨a6.block, ((a6.off + ((Int.toNat v4) * 3)) + 1), none⟩)) fun y8 =>
 (Go.AM.get (asI .i64 (Heap.rd h5 ⟨a6.block, ((a6.off + ((Int.toNat v4) * 3)) + 2), none⟩)) fun y9 =>
 (callV (C102) v2 [(.agg ⟨[(.int .i64 y7), (.int .i64 y8), (.int .i64 y9)]⟩)] h5 (retK fun r10 h11 =>
 (boolK r10 fun b13 => (branch b13
 (XR v4 h11)
 (l102_25 XR X0 v1 v2 v3 (IntKind.wrap .i64 (v4 + 1)) h11))))))))))
 (X0 h5))
theorem k102_25 (XR : Int → Heap → Prop) (X0 : Heap → Prop) (v1 : Sl) (v2 : Value) (v3 : Int) (v4 : Int) (h5 : Heap) : (exec (C102) c102_25 false 51 (Fr.put (Fr.put (Fr.put (Fr.put (Fr0 19) (some 0) (Sl.v v1)) (some 1) v2) (some 7) (.int .i64 v3)) (some 8) (.int .i64 v4)) h5 (loopE (grabC 19 [(0, sP), (1, vP), (7, iP .i64), (8, iP .i64)] (lC (C102).P (C102).yld c102_25 19 [(0, sP), (1, vP), (7, iP .i64), (8, iP .i64)] (outE noE (grabC 19 [(4, iP .i64)] XR) [(0, (grabC 19 [] X0))]))) (outE noE (grabC 19 [(4, iP .i64)] XR) [(0, (grabC 19 [] X0))]))) = z102_25 XR X0 v1 v2 v3 v4 h5 := by kernel_rfl
theorem r102_25 (XR : Int → Heap → Prop) (X0 : Heap → Prop) (v1 : Sl) (v2 : Value) (v3 : Int) (v4 : Int) (h5 : Heap) (H : z102_25 XR X0 v1 v2 v3 v4 h5) : l102_25 XR X0 v1 v2 v3 v4 h5 := loop_stepE (p := 25) (N := 19) (keep := [(0, sP), (1, vP), (7, iP .i64), (8, iP .i64)]) (o102) rfl s102_25 (k102_25 XR X0 v1 v2 v3 v4 h5) (by kernel_rfl) H
def z102 (p0 : Sl) (p1 : Value) (h : Heap) (K : Int → Heap → Prop) : Prop :=
 (l102_25
 (fun z14 h15 =>
 (K z14 h15))
 (fun h16 =>
 (K (-1) h16))
 p0 p1 ((p0.len : Nat) : Int) 0 h)
theorem k102 (p0 : Sl) (p1 : Value) (h : Heap) (K : Int → Heap → Prop) : fnK C102 Try.f102.results.toList Try.f102.ntmps b102 [(Sl.v p0), p1] h (outC [iP .i64] K) = z102 p0 p1 h K := by kernel_rfl
theorem r102 (p0 : Sl) (p1 : Value) (h : Heap) (K : Int → Heap → Prop) (H : z102 p0 p1 h K) : t102 p0 p1 h K := fn_stepE (C := C102) (fn := Try.f102) (g := 102) o102 rfl rfl (by kernel_rfl) (by kernel_rfl) (by kernel_rfl) (k102 p0 p1 h K) (by kernel_rfl) H

end Go.Proofs.Ytalmoilcehhjkaa
