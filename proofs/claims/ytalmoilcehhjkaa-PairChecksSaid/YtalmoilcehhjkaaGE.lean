/- PRINTED BY A PROGRAM OF OURS: what the functions do, step by step, and that the model says so. -/
import Derived.Test.YtalmoilcehhjkaaHeads
set_option linter.unusedVariables false
set_option linter.unusedSimpArgs false
namespace Go.Proofs.Ytalmoilcehhjkaa
open Go hiding Expr
open Go.AM hiding get
/-! 45: minikin/pair.Prices -/
noncomputable def b45 : Code := Try.f45.body.getD .skip
noncomputable def C45 : Ctx := baseC Try.prog [95, 75] none (cons1 67 w67 (cons1 63 w63 (allF Try.prog))) (allI Try.prog) none1
theorem o45 : CtxOK (C45) b45 := (addF (addF (base_ok eqOK mixOK none b45) (wC_ok Try.prog 63 [sP] [iP .i64])) (wC_ok Try.prog 67 [sP] [sP, sP, sP]))
def z45 (p0 : Sl) (h : Heap) (K : Sl → Sl → Int → Heap → Prop) : Prop :=
 (t63 p0 h fun r5 h6 =>
 (branch (r5 != 0)
 (K (Sl.mk none 0 0) (Sl.mk none 0 0) r5 h6)
 (t67 p0 h6 fun r7 r8 r9 h10 =>
 (K r8 r9 0 h10))))
theorem k45 (p0 : Sl) (h : Heap) (K : Sl → Sl → Int → Heap → Prop) : fnK C45 Try.f45.results.toList Try.f45.ntmps b45 [(Sl.v p0)] h (outC [sP, sP, iP .i64] K) = z45 p0 h K := by kernel_rfl
theorem r45 (p0 : Sl) (h : Heap) (K : Sl → Sl → Int → Heap → Prop) (H : z45 p0 h K) : t45 p0 h K := fn_stepE (C := C45) (fn := Try.f45) (g := 45) o45 rfl rfl (by kernel_rfl) (by kernel_rfl) (by kernel_rfl) (k45 p0 h K) (by kernel_rfl) H

/-! 46: minikin/pair.ArePrices -/
noncomputable def b46 : Code := Try.f46.body.getD .skip
noncomputable def c46_259273 : Code := (subN b46 518547).getD .skip
theorem s46_259273 : subN b46 518547 = some c46_259273 := by kernel_rfl
theorem sl46_259273 : subN b46 259273 = some (.loop c46_259273) := by kernel_rfl
noncomputable def l46_259273 (XR : Bool → Heap → Prop) (X2 : Sl → Sl → Int → Int → Int → Int → Sl → Int → Int → Heap → Prop) : Sl → Sl → Int → Int → Int → Int → Sl → Int → Int → Sl → Int → Int → Heap → Prop := lC Try.prog none c46_259273 78 [(0, sP), (2, sP), (3, iP .i64), (10, iP .i64), (11, iP .i64), (12, iP .i64), (40, sP), (41, iP .i64), (42, iP .i64), (47, sP), (48, iP .i64), (49, iP .i64)] (outE noE (grabC 78 [(8, bP)] XR) [(2, (grabC 78 [(0, sP), (2, sP), (3, iP .i64), (10, iP .i64), (11, iP .i64), (12, iP .i64), (40, sP), (41, iP .i64), (42, iP .i64)] X2))])
noncomputable def c46_505 : Code := (subN b46 1011).getD .skip
theorem s46_505 : subN b46 1011 = some c46_505 := by kernel_rfl
theorem sl46_505 : subN b46 505 = some (.loop c46_505) := by kernel_rfl
noncomputable def l46_505 (XR : Bool → Heap → Prop) (X0 : Int → Int → Heap → Prop) : Sl → Sl → Int → Int → Sl → Int → Int → Heap → Prop := lC Try.prog none c46_505 78 [(0, sP), (2, sP), (3, iP .i64), (10, iP .i64), (40, sP), (41, iP .i64), (42, iP .i64)] (outE noE (grabC 78 [(8, bP)] XR) [(0, (grabC 78 [(3, iP .i64), (10, iP .i64)] X0))])
noncomputable def C46 : Ctx := baseC Try.prog [95, 75] none (cons1 69 w69 (cons1 63 w63 (allF Try.prog))) (allI Try.prog) (cons1 505 (gC 78 [(0, sP), (2, sP), (3, iP .i64), (10, iP .i64), (40, sP), (41, iP .i64), (42, iP .i64)] none (some [(8, bP)]) [(0, [(3, iP .i64), (10, iP .i64)])] (lC Try.prog none c46_505 78 [(0, sP), (2, sP), (3, iP .i64), (10, iP .i64), (40, sP), (41, iP .i64), (42, iP .i64)])) (cons1 259273 (gC 78 [(0, sP), (2, sP), (3, iP .i64), (10, iP .i64), (11, iP .i64), (12, iP .i64), (40, sP), (41, iP .i64), (42, iP .i64), (47, sP), (48, iP .i64), (49, iP .i64)] none (some [(8, bP)]) [(2, [(0, sP), (2, sP), (3, iP .i64), (10, iP .i64), (11, iP .i64), (12, iP .i64), (40, sP), (41, iP .i64), (42, iP .i64)])] (lC Try.prog none c46_259273 78 [(0, sP), (2, sP), (3, iP .i64), (10, iP .i64), (11, iP .i64), (12, iP .i64), (40, sP), (41, iP .i64), (42, iP .i64), (47, sP), (48, iP .i64), (49, iP .i64)])) none1))
theorem o46 : CtxOK (C46) b46 := (addL (addL (addF (addF (base_ok eqOK mixOK none b46) (wC_ok Try.prog 63 [sP] [iP .i64])) (wC_ok Try.prog 69 [sP, vP] [bP])) sl46_259273) sl46_505)
def z46_259273 (XR : Bool → Heap → Prop) (X2 : Sl → Sl → Int → Int → Int → Int → Sl → Int → Int → Heap → Prop) (v25 : Sl) (v26 : Sl) (v27 : Int) (v28 : Int) (v29 : Int) (v30 : Int) (v31 : Sl) (v32 : Int) (v33 : Int) (v34 : Sl) (v35 : Int) (v36 : Int) (h37 : Heap) : Prop :=
 (branch (decide (v36 < v35))
 (Go.AM.get v34.a fun a40 =>
 (chk (idx v36 v34.len) <|
 (Go.AM.get (asI .i64 (Heap.rd h37 ⟨a40.block, (a40.off + ((Int.toNat v36) * 1)), none⟩)) fun y41 =>
 (Go.AM.get v25.a fun a42 =>
 (chk (idx v29 v25.len) <|
 (Go.AM.get (asS (Heap.rd h37 ⟨a42.block, (a42.off + ((Int.toNat v29) * 1)), none⟩)) fun y43 =>
 (Go.AM.get y43.a fun a44 =>
 (chk (idx v36 y43.len) <|
 (Go.AM.get (asI .i64 (Heap.rd h37 ⟨a44.block, (a44.off + ((Int.toNat v36) * 1)), none⟩)) fun y45 =>
 (branch (decide ((IntKind.wrap .i64 (v30 + y41)) < y45))
 (XR false h37)
 (l46_259273 XR X2 v25 v26 v27 v28 v29 v30 v31 v32 v33 v34 v35 (IntKind.wrap .i64 (v36 + 1)) h37)))))))))))
 (X2 v25 v26 v27 v28 v29 v30 v31 v32 v33 h37))
theorem k46_259273 (XR : Bool → Heap → Prop) (X2 : Sl → Sl → Int → Int → Int → Int → Sl → Int → Int → Heap → Prop) (v25 : Sl) (v26 : Sl) (v27 : Int) (v28 : Int) (v29 : Int) (v30 : Int) (v31 : Sl) (v32 : Int) (v33 : Int) (v34 : Sl) (v35 : Int) (v36 : Int) (h37 : Heap) : (exec (C46) c46_259273 false 518547 (Fr.put (Fr.put (Fr.put (Fr.put (Fr.put (Fr.put (Fr.put (Fr.put (Fr.put (Fr.put (Fr.put (Fr.put (Fr0 78) (some 0) (Sl.v v25)) (some 2) (Sl.v v26)) (some 3) (.int .i64 v27)) (some 10) (.int .i64 v28)) (some 11) (.int .i64 v29)) (some 12) (.int .i64 v30)) (some 40) (Sl.v v31)) (some 41) (.int .i64 v32)) (some 42) (.int .i64 v33)) (some 47) (Sl.v v34)) (some 48) (.int .i64 v35)) (some 49) (.int .i64 v36)) h37 (loopE (grabC 78 [(0, sP), (2, sP), (3, iP .i64), (10, iP .i64), (11, iP .i64), (12, iP .i64), (40, sP), (41, iP .i64), (42, iP .i64), (47, sP), (48, iP .i64), (49, iP .i64)] (lC (C46).P (C46).yld c46_259273 78 [(0, sP), (2, sP), (3, iP .i64), (10, iP .i64), (11, iP .i64), (12, iP .i64), (40, sP), (41, iP .i64), (42, iP .i64), (47, sP), (48, iP .i64), (49, iP .i64)] (outE noE (grabC 78 [(8, bP)] XR) [(2, (grabC 78 [(0, sP), (2, sP), (3, iP .i64), (10, iP .i64), (11, iP .i64), (12, iP .i64), (40, sP), (41, iP .i64), (42, iP .i64)] X2))]))) (outE noE (grabC 78 [(8, bP)] XR) [(2, (grabC 78 [(0, sP), (2, sP), (3, iP .i64), (10, iP .i64), (11, iP .i64), (12, iP .i64), (40, sP), (41, iP .i64), (42, iP .i64)] X2))]))) = z46_259273 XR X2 v25 v26 v27 v28 v29 v30 v31 v32 v33 v34 v35 v36 h37 := by kernel_rfl
theorem r46_259273 (XR : Bool → Heap → Prop) (X2 : Sl → Sl → Int → Int → Int → Int → Sl → Int → Int → Heap → Prop) (v25 : Sl) (v26 : Sl) (v27 : Int) (v28 : Int) (v29 : Int) (v30 : Int) (v31 : Sl) (v32 : Int) (v33 : Int) (v34 : Sl) (v35 : Int) (v36 : Int) (h37 : Heap) (H : z46_259273 XR X2 v25 v26 v27 v28 v29 v30 v31 v32 v33 v34 v35 v36 h37) : l46_259273 XR X2 v25 v26 v27 v28 v29 v30 v31 v32 v33 v34 v35 v36 h37 := loop_stepE (p := 259273) (N := 78) (keep := [(0, sP), (2, sP), (3, iP .i64), (10, iP .i64), (11, iP .i64), (12, iP .i64), (40, sP), (41, iP .i64), (42, iP .i64), (47, sP), (48, iP .i64), (49, iP .i64)]) (o46) rfl s46_259273 (k46_259273 XR X2 v25 v26 v27 v28 v29 v30 v31 v32 v33 v34 v35 v36 h37) (by kernel_rfl) H
def z46_505 (XR : Bool → Heap → Prop) (X0 : Int → Int → Heap → Prop) (v13 : Sl) (v14 : Sl) (v15 : Int) (v16 : Int) (v17 : Sl) (v18 : Int) (v19 : Int) (h20 : Heap) : Prop :=
 (branch (decide (v19 < v18))
 (Go.AM.get v17.a fun a23 =>
 (chk (idx v19 v17.len) <|
 (Go.AM.get (asI .i64 (Heap.rd h20 ⟨a23.block, (a23.off + ((Int.toNat v19) * 1)), none⟩)) fun y24 =>
 (l46_259273
 (fun z58 h59 =>
 (XR z58 h59))
 (fun z60 z61 z62 z63 z64 z65 z66 z67 z68 h69 =>
 (Go.AM.get z61.a fun a70 =>
 (chk (idx z64 z61.len) <|
 (Go.AM.get (asI .i64 (Heap.rd h69 ⟨a70.block, (a70.off + ((Int.toNat z64) * 1)), none⟩)) fun y71 =>
 (l46_505 XR X0 z60 z61 z62 (IntKind.wrap .i64 (z63 + (IntKind.wrap .i64 (z65 + y71)))) z66 z67 (IntKind.wrap .i64 (z68 + 1)) h69)))))
 v13 v14 v15 v16 v19 y24 v17 v18 v19 v14 ((v14.len : Nat) : Int) 0 h20))))
 (X0 v15 v16 h20))
theorem k46_505 (XR : Bool → Heap → Prop) (X0 : Int → Int → Heap → Prop) (v13 : Sl) (v14 : Sl) (v15 : Int) (v16 : Int) (v17 : Sl) (v18 : Int) (v19 : Int) (h20 : Heap) : (exec (C46) c46_505 false 1011 (Fr.put (Fr.put (Fr.put (Fr.put (Fr.put (Fr.put (Fr.put (Fr0 78) (some 0) (Sl.v v13)) (some 2) (Sl.v v14)) (some 3) (.int .i64 v15)) (some 10) (.int .i64 v16)) (some 40) (Sl.v v17)) (some 41) (.int .i64 v18)) (some 42) (.int .i64 v19)) h20 (loopE (grabC 78 [(0, sP), (2, sP), (3, iP .i64), (10, iP .i64), (40, sP), (41, iP .i64), (42, iP .i64)] (lC (C46).P (C46).yld c46_505 78 [(0, sP), (2, sP), (3, iP .i64), (10, iP .i64), (40, sP), (41, iP .i64), (42, iP .i64)] (outE noE (grabC 78 [(8, bP)] XR) [(0, (grabC 78 [(3, iP .i64), (10, iP .i64)] X0))]))) (outE noE (grabC 78 [(8, bP)] XR) [(0, (grabC 78 [(3, iP .i64), (10, iP .i64)] X0))]))) = z46_505 XR X0 v13 v14 v15 v16 v17 v18 v19 h20 := by kernel_rfl
theorem r46_505 (XR : Bool → Heap → Prop) (X0 : Int → Int → Heap → Prop) (v13 : Sl) (v14 : Sl) (v15 : Int) (v16 : Int) (v17 : Sl) (v18 : Int) (v19 : Int) (h20 : Heap) (H : z46_505 XR X0 v13 v14 v15 v16 v17 v18 v19 h20) : l46_505 XR X0 v13 v14 v15 v16 v17 v18 v19 h20 := loop_stepE (p := 505) (N := 78) (keep := [(0, sP), (2, sP), (3, iP .i64), (10, iP .i64), (40, sP), (41, iP .i64), (42, iP .i64)]) (o46) rfl s46_505 (k46_505 XR X0 v13 v14 v15 v16 v17 v18 v19 h20) (by kernel_rfl) H
def z46 (p0 : Sl) (p1 : Sl) (p2 : Sl) (p3 : Int) (h : Heap) (K : Bool → Heap → Prop) : Prop :=
 (t63 p0 h fun r3 h4 =>
 (branch (r3 != 0)
 (K false h4)
 (branch (((p1.len : Nat) : Int) != ((p0.len : Nat) : Int))
 (K false h4)
 (branch (((p2.len : Nat) : Int) != ((p0.len : Nat) : Int))
 (K false h4)
 (t69 p1 (.func (.func 68) #[] ⟨[]⟩) h4 fun r9 h10 =>
 (branch r9
 (K false h10)
 (t69 p2 (.func (.func 68) #[] ⟨[]⟩) h10 fun r11 h12 =>
 (branch r11
 (K false h12)
 (l46_505
 (fun z72 h73 =>
 (K z72 h73))
 (fun z74 z75 h76 =>
 (K (z75 == z74) h76))
 p0 p2 p3 0 p1 ((p1.len : Nat) : Int) 0 h12)))))))))
theorem k46 (p0 : Sl) (p1 : Sl) (p2 : Sl) (p3 : Int) (h : Heap) (K : Bool → Heap → Prop) : fnK C46 Try.f46.results.toList Try.f46.ntmps b46 [(Sl.v p0), (Sl.v p1), (Sl.v p2), (.int .i64 p3)] h (outC [bP] K) = z46 p0 p1 p2 p3 h K := by kernel_rfl
theorem r46 (p0 : Sl) (p1 : Sl) (p2 : Sl) (p3 : Int) (h : Heap) (K : Bool → Heap → Prop) (H : z46 p0 p1 p2 p3 h K) : t46 p0 p1 p2 p3 h K := fn_stepE (C := C46) (fn := Try.f46) (g := 46) o46 rfl rfl (by kernel_rfl) (by kernel_rfl) (by kernel_rfl) (k46 p0 p1 p2 p3 h K) (by kernel_rfl) H

/-! 47: minikin/minikintop.four -/
noncomputable def b47 : Code := Try.f47.body.getD .skip
noncomputable def C47 : Ctx := baseC Try.prog [95, 75] none (cons1 12 w12 (cons1 70 w70 (allF Try.prog))) (allI Try.prog) none1
theorem o47 : CtxOK (C47) b47 := (addF (addF (base_ok eqOK mixOK none b47) (wC_ok Try.prog 70 [aggP [iP .i64, sP], iP .i64, iP .i64] [iP .i64, sP, iP .i64])) (wC_ok Try.prog 12 [aggP [iP .i64, sP]] [sP, iP .i64]))
def z47  (h : Heap) (K : Bool → Heap → Prop) : Prop :=
 (withH (Heap.new h (.cells [(.int .i64 0), (.int .i64 1), (.int .i64 7)] false)) fun h6 =>
 (t70 (2, (Sl.mk (some ⟨h.next, 0, (some 0)⟩) 1 1), ()) 0 1 h6 fun r7 r8 r9 h10 =>
 (withH (Heap.new h10 (.cells [(.int .i64 0), (.int .i64 1), (.int .i64 1), (.int .i64 2)] false)) fun h15 =>
 (t12 (3, (Sl.mk (some ⟨h10.next, 0, (some 0)⟩) 2 2), ()) h15 fun r16 r17 h18 =>
 (branch (r9 == 0)
 (branch (r17 == 0)
 (branch (r7 == 7)
 (K (((r16.len : Nat) : Int) == 3) h18)
 (K false h18))
 (K false h18))
 (K false h18))))))
theorem k47  (h : Heap) (K : Bool → Heap → Prop) : fnK C47 Try.f47.results.toList Try.f47.ntmps b47 [] h (outC [bP] K) = z47  h K := by kernel_rfl
theorem r47  (h : Heap) (K : Bool → Heap → Prop) (H : z47  h K) : t47  h K := fn_stepE (C := C47) (fn := Try.f47) (g := 47) o47 rfl rfl (by kernel_rfl) (by kernel_rfl) (by kernel_rfl) (k47  h K) (by kernel_rfl) H

/-! 48: minikin/minikinref04.Joined -/
noncomputable def b48 : Code := Try.f48.body.getD .skip
noncomputable def c48_25 : Code := (subN b48 51).getD .skip
theorem s48_25 : subN b48 51 = some c48_25 := by kernel_rfl
theorem sl48_25 : subN b48 25 = some (.loop c48_25) := by kernel_rfl
noncomputable def l48_25 (XR : Bool → Heap → Prop) (X0 : Heap → Prop) : Int → Int → Option Addr → Int → Heap → Prop := lC Try.prog none c48_25 35 [(1, iP .i64), (2, iP .i64), (3, pP), (7, iP .i64)] (outE noE (grabC 35 [(6, bP)] XR) [(0, (grabC 35 [] X0))])
noncomputable def C48 : Ctx := baseC Try.prog [95, 75] none (allF Try.prog) (allI Try.prog) (cons1 25 (gC 35 [(1, iP .i64), (2, iP .i64), (3, pP), (7, iP .i64)] none (some [(6, bP)]) [(0, [])] (lC Try.prog none c48_25 35 [(1, iP .i64), (2, iP .i64), (3, pP), (7, iP .i64)])) none1)
theorem o48 : CtxOK (C48) b48 := (addL (base_ok eqOK mixOK none b48) sl48_25)
def z48_25 (XR : Bool → Heap → Prop) (X0 : Heap → Prop) (v3 : Int) (v4 : Int) (v5 : Option Addr) (v6 : Int) (h7 : Heap) : Prop :=
 (Go.AM.get v5 fun a10 =>
 (Go.AM.get (asS (Heap.rd h7 ⟨a10.block, (a10.off + 1), none⟩)) fun y11 =>
 (branch (decide (v6 < ((y11.len : Nat) : Int)))
 (Go.AM.get v5 fun a12 =>
 (Go.AM.get (asS (Heap.rd h7 ⟨a12.block, (a12.off + 1), none⟩)) fun y13 =>
 (Go.AM.get y13.a fun a14 =>
 (chk (idx v6 y13.len) <|
 (Go.AM.get (asI .i64 (Heap.rd h7 ⟨a14.block, (a14.off + ((Int.toNat v6) * 2)), none⟩)) fun y15 =>
 (Go.AM.get (asI .i64 (Heap.rd h7 ⟨a14.block, ((a14.off + ((Int.toNat v6) * 2)) + 1), none⟩)) fun y16 =>
 (branch ((y15 == v3) && ((y16 == v4) && true))
 (XR true h7)
 (Go.AM.get v5 fun a17 =>
 (Go.AM.get (asS (Heap.rd h7 ⟨a17.block, (a17.off + 1), none⟩)) fun y18 =>
 (Go.AM.get y18.a fun a19 =>
 (chk (idx v6 y18.len) <|
 (Go.AM.get (asI .i64 (Heap.rd h7 ⟨a19.block, (a19.off + ((Int.toNat v6) * 2)), none⟩)) fun y20 =>
 (Go.AM.get (asI .i64 (Heap.rd h7 ⟨a19.block, ((a19.off + ((Int.toNat v6) * 2)) + 1), none⟩)) fun y21 =>
 (branch ((y20 == v4) && ((y21 == v3) && true))
 (XR true h7)
 (l48_25 XR X0 v3 v4 v5 (IntKind.wrap .i64 (v6 + 1)) h7)))))))))))))))
 (X0 h7))))
theorem k48_25 (XR : Bool → Heap → Prop) (X0 : Heap → Prop) (v3 : Int) (v4 : Int) (v5 : Option Addr) (v6 : Int) (h7 : Heap) : (exec (C48) c48_25 false 51 (Fr.put (Fr.put (Fr.put (Fr.put (Fr0 35) (some 1) (.int .i64 v3)) (some 2) (.int .i64 v4)) (some 3) (.pointer v5)) (some 7) (.int .i64 v6)) h7 (loopE (grabC 35 [(1, iP .i64), (2, iP .i64), (3, pP), (7, iP .i64)] (lC (C48).P (C48).yld c48_25 35 [(1, iP .i64), (2, iP .i64), (3, pP), (7, iP .i64)] (outE noE (grabC 35 [(6, bP)] XR) [(0, (grabC 35 [] X0))]))) (outE noE (grabC 35 [(6, bP)] XR) [(0, (grabC 35 [] X0))]))) = z48_25 XR X0 v3 v4 v5 v6 h7 := by kernel_rfl
theorem r48_25 (XR : Bool → Heap → Prop) (X0 : Heap → Prop) (v3 : Int) (v4 : Int) (v5 : Option Addr) (v6 : Int) (h7 : Heap) (H : z48_25 XR X0 v3 v4 v5 v6 h7) : l48_25 XR X0 v3 v4 v5 v6 h7 := loop_stepE (p := 25) (N := 35) (keep := [(1, iP .i64), (2, iP .i64), (3, pP), (7, iP .i64)]) (o48) rfl s48_25 (k48_25 XR X0 v3 v4 v5 v6 h7) (by kernel_rfl) H
def z48 (p0 : (Int × Sl × Unit)) (p1 : Int) (p2 : Int) (h : Heap) (K : Bool → Heap → Prop) : Prop :=
 (withH (Heap.new h (.cells [(.int .i64 p0.1), (Sl.v p0.2.1)] false)) fun h2 =>
 (l48_25
 (fun z22 h23 =>
 (K z22 h23))
 (fun h24 =>
 (K false h24))
 p1 p2 (some ⟨h.next, 0, none⟩) 0 h2))
theorem k48 (p0 : (Int × Sl × Unit)) (p1 : Int) (p2 : Int) (h : Heap) (K : Bool → Heap → Prop) : fnK C48 Try.f48.results.toList Try.f48.ntmps b48 [(.agg ⟨[(.int .i64 p0.1), (Sl.v p0.2.1)]⟩), (.int .i64 p1), (.int .i64 p2)] h (outC [bP] K) = z48 p0 p1 p2 h K := by kernel_rfl
theorem r48 (p0 : (Int × Sl × Unit)) (p1 : Int) (p2 : Int) (h : Heap) (K : Bool → Heap → Prop) (H : z48 p0 p1 p2 h K) : t48 p0 p1 p2 h K := fn_stepE (C := C48) (fn := Try.f48) (g := 48) o48 rfl rfl (by kernel_rfl) (by kernel_rfl) (by kernel_rfl) (k48 p0 p1 p2 h K) (by kernel_rfl) H

/-! 49: minikin/pair.newFinder -/
noncomputable def b49 : Code := Try.f49.body.getD .skip
noncomputable def c49_7474 : Code := (subN b49 7474).getD .skip
theorem s49_7474 : subN b49 7474 = some c49_7474 := by kernel_rfl
noncomputable def q49_7474 (XN : Int → Option Addr → Sl → Int → Int → Heap → Prop) : Int → Option Addr → Option Addr → Sl → Int → Int → Bool → Heap → Prop := qC Try.prog none c49_7474 75 [(1, iP .i64), (5, pP), (7, pP), (14, sP), (15, iP .i64), (16, iP .i64), (29, bP)] (outE (grabC 75 [(1, iP .i64), (5, pP), (14, sP), (15, iP .i64), (16, iP .i64)] XN) noE [])
noncomputable def c49_57 : Code := (subN b49 115).getD .skip
theorem s49_57 : subN b49 115 = some c49_57 := by kernel_rfl
theorem sl49_57 : subN b49 57 = some (.loop c49_57) := by kernel_rfl
noncomputable def l49_57 (X0 : Option Addr → Heap → Prop) : Int → Option Addr → Sl → Int → Int → Heap → Prop := lC Try.prog none c49_57 75 [(1, iP .i64), (5, pP), (14, sP), (15, iP .i64), (16, iP .i64)] (outE noE noE [(0, (grabC 75 [(5, pP)] X0))])
noncomputable def c49_121 : Code := (subN b49 243).getD .skip
theorem s49_121 : subN b49 243 = some c49_121 := by kernel_rfl
theorem sl49_121 : subN b49 121 = some (.loop c49_121) := by kernel_rfl
noncomputable def l49_121 (X2 : Option Addr → Heap → Prop) : Option Addr → Int → Heap → Prop := lC Try.prog none c49_121 75 [(5, pP), (65, iP .i64)] (outE noE noE [(2, (grabC 75 [(5, pP)] X2))])
noncomputable def C49 : Ctx := baseC Try.prog [95, 75] none (allF Try.prog) (allI Try.prog) (cons1 121 (gC 75 [(5, pP), (65, iP .i64)] none none [(2, [(5, pP)])] (lC Try.prog none c49_121 75 [(5, pP), (65, iP .i64)])) (cons1 57 (gC 75 [(1, iP .i64), (5, pP), (14, sP), (15, iP .i64), (16, iP .i64)] none none [(0, [(5, pP)])] (lC Try.prog none c49_57 75 [(1, iP .i64), (5, pP), (14, sP), (15, iP .i64), (16, iP .i64)])) (cons1 7474 (gC 75 [(1, iP .i64), (5, pP), (7, pP), (14, sP), (15, iP .i64), (16, iP .i64), (29, bP)] (some [(1, iP .i64), (5, pP), (14, sP), (15, iP .i64), (16, iP .i64)]) none [] (qC Try.prog none c49_7474 75 [(1, iP .i64), (5, pP), (7, pP), (14, sP), (15, iP .i64), (16, iP .i64), (29, bP)])) none1)))
theorem o49 : CtxOK (C49) b49 := (addL (addL (addQ (base_ok eqOK mixOK none b49) s49_7474) sl49_57) sl49_121)
def z49_7474 (XN : Int → Option Addr → Sl → Int → Int → Heap → Prop) (v27 : Int) (v28 : Option Addr) (v29 : Option Addr) (v30 : Sl) (v31 : Int) (v32 : Int) (v33 : Bool) (h34 : Heap) : Prop :=
 (branch v33
 (Go.AM.get v29 fun a35 =>
 (Go.AM.get (asI .i64 (Heap.rd h34 ⟨a35.block, a35.off, none⟩)) fun y36 =>
 (Go.AM.get v29 fun a37 =>
 (Go.AM.get (asI .i64 (Heap.rd h34 ⟨a37.block, (a37.off + 1), none⟩)) fun y38 =>
 (Go.AM.get v29 fun a39 =>
 (Go.AM.get (asI .i64 (Heap.rd h34 ⟨a39.block, a39.off, none⟩)) fun y40 =>
 (Go.AM.get v28 fun a41 =>
 (chk (idx y40 40) <|
 (Go.AM.get (asS (Heap.rd h34 ⟨a41.block, ((a41.off + 1) + ((Int.toNat y40) * 1)), none⟩)) fun y42 =>
 (Go.AM.get v29 fun a43 =>
 (Go.AM.get (asI .i64 (Heap.rd h34 ⟨a43.block, (a43.off + 1), none⟩)) fun y44 =>
 (withH (Heap.new h34 (.cells [(.int .i64 y44)] false)) fun h45 =>
 (Go.AM.get v29 fun a46 =>
 (Go.AM.get (asI .i64 (Heap.rd h45 ⟨a46.block, (a46.off + 1), none⟩)) fun y47 =>
 (Go.AM.get v28 fun a48 =>
 (chk (idx y47 40) <|
 (Go.AM.get (asS (Heap.rd h45 ⟨a48.block, ((a48.off + 1) + ((Int.toNat y47) * 1)), none⟩)) fun y49 =>
 (Go.AM.get v29 fun a50 =>
 (Go.AM.get (asI .i64 (Heap.rd h45 ⟨a50.block, a50.off, none⟩)) fun y51 =>
 (withH (Heap.new h45 (.cells [(.int .i64 y51)] false)) fun h52 =>
 (Go.AM.get v28 fun a53 =>
 (Go.AM.get v28 fun a54 =>
 (Go.AM.get (Heap.rdN h52 ⟨h34.next, 0, none⟩ 1) fun y55 =>
 (Go.AM.get (Heap.app h52 1 8 y42 1 y55) fun r56 =>
 (Heap.get r56.2 h45.next = Heap.get h52 h45.next ∧ ((Go.AM.get (asI .i64 (Heap.rd r56.2 ⟨a50.block, a50.off, none⟩)) fun y57 =>
 (((.int .i64 y57) : Value) = (.int .i64 y51))) ∧ ((Go.AM.get (asS (Heap.rd r56.2 ⟨a48.block, ((a48.off + 1) + ((Int.toNat y47) * 1)), none⟩)) fun y58 =>
 (((Sl.v y58) : Value) = (Sl.v y49))) ∧ ((Go.AM.get (asI .i64 (Heap.rd r56.2 ⟨a46.block, (a46.off + 1), none⟩)) fun y59 =>
 (((.int .i64 y59) : Value) = (.int .i64 y47))) ∧ ((Go.AM.get (asI .i64 (Heap.rd r56.2 ⟨a37.block, (a37.off + 1), none⟩)) fun y60 =>
 (((.int .i64 y60) : Value) = (.int .i64 y38))) ∧ ((Go.AM.get (asI .i64 (Heap.rd r56.2 ⟨a35.block, a35.off, none⟩)) fun y61 =>
 (((.int .i64 y61) : Value) = (.int .i64 y36))) ∧ (Go.AM.get (Heap.rdN r56.2 ⟨h45.next, 0, none⟩ 1) fun y62 =>
 (Go.AM.get (Heap.app r56.2 1 8 y49 1 y62) fun r63 =>
 ((Go.AM.get (asI .i64 (Heap.rd r63.2 ⟨a37.block, (a37.off + 1), none⟩)) fun y64 =>
 (((.int .i64 y64) : Value) = (.int .i64 y38))) ∧ ((Go.AM.get (asI .i64 (Heap.rd r63.2 ⟨a35.block, a35.off, none⟩)) fun y65 =>
 (((.int .i64 y65) : Value) = (.int .i64 y36))) ∧ (chk (idx y36 40) <|
 (Go.AM.get (Heap.wr r63.2 ⟨a53.block, ((a53.off + 1) + ((Int.toNat y36) * 1)), none⟩ [(Sl.v r56.1)]) fun h66 =>
 ((Go.AM.get (asI .i64 (Heap.rd h66 ⟨a37.block, (a37.off + 1), none⟩)) fun y67 =>
 (((.int .i64 y67) : Value) = (.int .i64 y38))) ∧ (chk (idx y38 40) <|
 (Go.AM.get (Heap.wr h66 ⟨a54.block, ((a54.off + 1) + ((Int.toNat y38) * 1)), none⟩ [(Sl.v r63.1)]) fun h68 =>
 (XN v27 v28 v30 v31 v32 h68))))))))))))))))))))))))))))))))))))))))
 (XN v27 v28 v30 v31 v32 h34))
theorem k49_7474 (XN : Int → Option Addr → Sl → Int → Int → Heap → Prop) (v27 : Int) (v28 : Option Addr) (v29 : Option Addr) (v30 : Sl) (v31 : Int) (v32 : Int) (v33 : Bool) (h34 : Heap) : (exec (C49) c49_7474 true 7474 (Fr.put (Fr.put (Fr.put (Fr.put (Fr.put (Fr.put (Fr.put (Fr0 75) (some 1) (.int .i64 v27)) (some 5) (.pointer v28)) (some 7) (.pointer v29)) (some 14) (Sl.v v30)) (some 15) (.int .i64 v31)) (some 16) (.int .i64 v32)) (some 29) (.bool v33)) h34 (outE (grabC 75 [(1, iP .i64), (5, pP), (14, sP), (15, iP .i64), (16, iP .i64)] XN) noE [])) = z49_7474 XN v27 v28 v29 v30 v31 v32 v33 h34 := by kernel_rfl
theorem r49_7474 (XN : Int → Option Addr → Sl → Int → Int → Heap → Prop) (v27 : Int) (v28 : Option Addr) (v29 : Option Addr) (v30 : Sl) (v31 : Int) (v32 : Int) (v33 : Bool) (h34 : Heap) (H : z49_7474 XN v27 v28 v29 v30 v31 v32 v33 h34) : q49_7474 XN v27 v28 v29 v30 v31 v32 v33 h34 := piece_stepE (p := 7474) (o49) rfl s49_7474 (k49_7474 XN v27 v28 v29 v30 v31 v32 v33 h34) (by kernel_rfl) H
def z49_57 (X0 : Option Addr → Heap → Prop) (v9 : Int) (v10 : Option Addr) (v11 : Sl) (v12 : Int) (v13 : Int) (h14 : Heap) : Prop :=
 (branch (decide (v13 < v12))
 (Go.AM.get v11.a fun a20 =>
 (chk (idx v13 v11.len) <|
 (Go.AM.get (asI .i64 (Heap.rd h14 ⟨a20.block, (a20.off + ((Int.toNat v13) * 2)), none⟩)) fun y21 =>
 (Go.AM.get (asI .i64 (Heap.rd h14 ⟨a20.block, ((a20.off + ((Int.toNat v13) * 2)) + 1), none⟩)) fun y22 =>
 (withH (Heap.new h14 (.cells [(.int .i64 0), (.int .i64 0)] false)) fun h23 =>
 (Go.AM.get (Heap.wr h23 ⟨h14.next, 0, none⟩ [(.int .i64 y21), (.int .i64 y22)]) fun h24 =>
 (Go.AM.get (asI .i64 (Heap.rd h24 ⟨h14.next, 0, none⟩)) fun y69 =>
 (branch (y69 != v9)
 (Go.AM.get (asI .i64 (Heap.rd h24 ⟨h14.next, 1, none⟩)) fun y70 =>
 (q49_7474
 (fun z71 z72 z73 z74 z75 h76 =>
 (l49_57 X0 z71 z72 z73 z74 (IntKind.wrap .i64 (z75 + 1)) h76))
 v9 v10 (some ⟨h14.next, 0, none⟩) v11 v12 v13 (y70 != v9) h24))
 (q49_7474
 (fun z77 z78 z79 z80 z81 h82 =>
 (l49_57 X0 z77 z78 z79 z80 (IntKind.wrap .i64 (z81 + 1)) h82))
 v9 v10 (some ⟨h14.next, 0, none⟩) v11 v12 v13 false h24)))))))))
 (X0 v10 h14))
theorem k49_57 (X0 : Option Addr → Heap → Prop) (v9 : Int) (v10 : Option Addr) (v11 : Sl) (v12 : Int) (v13 : Int) (h14 : Heap) : (exec (C49) c49_57 false 115 (Fr.put (Fr.put (Fr.put (Fr.put (Fr.put (Fr0 75) (some 1) (.int .i64 v9)) (some 5) (.pointer v10)) (some 14) (Sl.v v11)) (some 15) (.int .i64 v12)) (some 16) (.int .i64 v13)) h14 (loopE (grabC 75 [(1, iP .i64), (5, pP), (14, sP), (15, iP .i64), (16, iP .i64)] (lC (C49).P (C49).yld c49_57 75 [(1, iP .i64), (5, pP), (14, sP), (15, iP .i64), (16, iP .i64)] (outE noE noE [(0, (grabC 75 [(5, pP)] X0))]))) (outE noE noE [(0, (grabC 75 [(5, pP)] X0))]))) = z49_57 X0 v9 v10 v11 v12 v13 h14 := by kernel_rfl
theorem r49_57 (X0 : Option Addr → Heap → Prop) (v9 : Int) (v10 : Option Addr) (v11 : Sl) (v12 : Int) (v13 : Int) (h14 : Heap) (H : z49_57 X0 v9 v10 v11 v12 v13 h14) : l49_57 X0 v9 v10 v11 v12 v13 h14 := loop_stepE (p := 57) (N := 75) (keep := [(1, iP .i64), (5, pP), (14, sP), (15, iP .i64), (16, iP .i64)]) (o49) rfl s49_57 (k49_57 X0 v9 v10 v11 v12 v13 h14) (by kernel_rfl) H
def z49_121 (X2 : Option Addr → Heap → Prop) (v88 : Option Addr) (v89 : Int) (h90 : Heap) : Prop :=
 (branch (decide (v89 < 40))
 (Go.AM.get v88 fun a91 =>
 (chk (idx v89 40) <|
 (Go.AM.get (Heap.wr h90 ⟨a91.block, ((a91.off + 41) + ((Int.toNat v89) * 1)), none⟩ [(.int .i64 (-1))]) fun h92 =>
 (l49_121 X2 v88 (IntKind.wrap .i64 (v89 + 1)) h92))))
 (X2 v88 h90))
theorem k49_121 (X2 : Option Addr → Heap → Prop) (v88 : Option Addr) (v89 : Int) (h90 : Heap) : (exec (C49) c49_121 false 243 (Fr.put (Fr.put (Fr0 75) (some 5) (.pointer v88)) (some 65) (.int .i64 v89)) h90 (loopE (grabC 75 [(5, pP), (65, iP .i64)] (lC (C49).P (C49).yld c49_121 75 [(5, pP), (65, iP .i64)] (outE noE noE [(2, (grabC 75 [(5, pP)] X2))]))) (outE noE noE [(2, (grabC 75 [(5, pP)] X2))]))) = z49_121 X2 v88 v89 h90 := by kernel_rfl
theorem r49_121 (X2 : Option Addr → Heap → Prop) (v88 : Option Addr) (v89 : Int) (h90 : Heap) (H : z49_121 X2 v88 v89 h90) : l49_121 X2 v88 v89 h90 := loop_stepE (p := 121) (N := 75) (keep := [(5, pP), (65, iP .i64)]) (o49) rfl s49_121 (k49_121 X2 v88 v89 h90) (by kernel_rfl) H
def z49 (p0 : (Int × Sl × Unit)) (p1 : Int) (h : Heap) (K : Option Addr → Heap → Prop) : Prop :=
 (withH (Heap.new h (.cells [(.int .i64 p0.1), (Sl.v p0.2.1)] false)) fun h2 =>
 (Go.AM.get (asI .i64 (Heap.rd h2 ⟨h.next, 0, none⟩)) fun y5 =>
 (withH (Heap.new h2 (.cells ([(.int .i64 y5)] ++ List.replicate 40 (.slice none 0 0) ++ List.replicate 120 (.int .i64 0) ++ List.replicate 40 (.bool false) ++ [(.slice none 0 0)]) false)) fun h6 =>
 (Go.AM.get (asS (Heap.rd h6 ⟨h.next, 1, none⟩)) fun y85 =>
 (l49_57
 (fun z86 h87 =>
 (l49_121
 (fun z93 h94 =>
 (K z93 h94))
 z86 0 h87))
 p1 (some ⟨h2.next, 0, none⟩) y85 ((y85.len : Nat) : Int) 0 h6)))))
theorem k49 (p0 : (Int × Sl × Unit)) (p1 : Int) (h : Heap) (K : Option Addr → Heap → Prop) : fnK C49 Try.f49.results.toList Try.f49.ntmps b49 [(.agg ⟨[(.int .i64 p0.1), (Sl.v p0.2.1)]⟩), (.int .i64 p1)] h (outC [pP] K) = z49 p0 p1 h K := by kernel_rfl
theorem r49 (p0 : (Int × Sl × Unit)) (p1 : Int) (h : Heap) (K : Option Addr → Heap → Prop) (H : z49 p0 p1 h K) : t49 p0 p1 h K := fn_stepE (C := C49) (fn := Try.f49) (g := 49) o49 rfl rfl (by kernel_rfl) (by kernel_rfl) (by kernel_rfl) (k49 p0 p1 h K) (by kernel_rfl) H

/-! 50: (*minikin/pair.finder).run -/
noncomputable def b50 : Code := Try.f50.body.getD .skip
noncomputable def c50_57 : Code := (subN b50 115).getD .skip
theorem s50_57 : subN b50 115 = some c50_57 := by kernel_rfl
theorem sl50_57 : subN b50 57 = some (.loop c50_57) := by kernel_rfl
noncomputable def l50_57 (X0 : Int → Heap → Prop) : Option Addr → Int → Int → Int → Heap → Prop := lC Try.prog none c50_57 28 [(0, pP), (3, iP .i64), (8, iP .i64), (9, iP .i64)] (outE noE noE [(0, (grabC 28 [(3, iP .i64)] X0))])
noncomputable def C50 : Ctx := baseC Try.prog [95, 75] none (cons1 71 w71 (allF Try.prog)) (allI Try.prog) (cons1 57 (gC 28 [(0, pP), (3, iP .i64), (8, iP .i64), (9, iP .i64)] none none [(0, [(3, iP .i64)])] (lC Try.prog none c50_57 28 [(0, pP), (3, iP .i64), (8, iP .i64), (9, iP .i64)])) none1)
theorem o50 : CtxOK (C50) b50 := (addL (addF (base_ok eqOK mixOK none b50) (wC_ok Try.prog 71 [pP, iP .i64] [bP])) sl50_57)
def z50_57 (X0 : Int → Heap → Prop) (v5 : Option Addr) (v6 : Int) (v7 : Int) (v8 : Int) (h9 : Heap) : Prop :=
 (branch (decide (v8 < v7))
 (Go.AM.get v5 fun a10 =>
 (chk (idx v8 40) <|
 (Go.AM.get (asI .i64 (Heap.rd h9 ⟨a10.block, ((a10.off + 41) + ((Int.toNat v8) * 1)), none⟩)) fun y11 =>
 (branch (decide (y11 < 0))
 (t71 v5 v8 h9 fun r12 h13 =>
 (branch r12
 (l50_57 X0 v5 (IntKind.wrap .i64 (v6 + 1)) v7 (IntKind.wrap .i64 (v8 + 1)) h13)
 (l50_57 X0 v5 v6 v7 (IntKind.wrap .i64 (v8 + 1)) h13)))
 (l50_57 X0 v5 v6 v7 (IntKind.wrap .i64 (v8 + 1)) h9)))))
 (X0 v6 h9))
theorem k50_57 (X0 : Int → Heap → Prop) (v5 : Option Addr) (v6 : Int) (v7 : Int) (v8 : Int) (h9 : Heap) : (exec (C50) c50_57 false 115 (Fr.put (Fr.put (Fr.put (Fr.put (Fr0 28) (some 0) (.pointer v5)) (some 3) (.int .i64 v6)) (some 8) (.int .i64 v7)) (some 9) (.int .i64 v8)) h9 (loopE (grabC 28 [(0, pP), (3, iP .i64), (8, iP .i64), (9, iP .i64)] (lC (C50).P (C50).yld c50_57 28 [(0, pP), (3, iP .i64), (8, iP .i64), (9, iP .i64)] (outE noE noE [(0, (grabC 28 [(3, iP .i64)] X0))]))) (outE noE noE [(0, (grabC 28 [(3, iP .i64)] X0))]))) = z50_57 X0 v5 v6 v7 v8 h9 := by kernel_rfl
theorem r50_57 (X0 : Int → Heap → Prop) (v5 : Option Addr) (v6 : Int) (v7 : Int) (v8 : Int) (h9 : Heap) (H : z50_57 X0 v5 v6 v7 v8 h9) : l50_57 X0 v5 v6 v7 v8 h9 := loop_stepE (p := 57) (N := 28) (keep := [(0, pP), (3, iP .i64), (8, iP .i64), (9, iP .i64)]) (o50) rfl s50_57 (k50_57 X0 v5 v6 v7 v8 h9) (by kernel_rfl) H
def z50 (p0 : Option Addr) (h : Heap) (K : Int → Heap → Prop) : Prop :=
 (Go.AM.get p0 fun a3 =>
 (Go.AM.get (asI .i64 (Heap.rd h ⟨a3.block, a3.off, none⟩)) fun y4 =>
 (l50_57
 (fun z14 h15 =>
 (K z14 h15))
 p0 0 y4 0 h)))
theorem k50 (p0 : Option Addr) (h : Heap) (K : Int → Heap → Prop) : fnK C50 Try.f50.results.toList Try.f50.ntmps b50 [(.pointer p0)] h (outC [iP .i64] K) = z50 p0 h K := by kernel_rfl
theorem r50 (p0 : Option Addr) (h : Heap) (K : Int → Heap → Prop) (H : z50 p0 h K) : t50 p0 h K := fn_stepE (C := C50) (fn := Try.f50) (g := 50) o50 rfl rfl (by kernel_rfl) (by kernel_rfl) (by kernel_rfl) (k50 p0 h K) (by kernel_rfl) H

/-! 51: slices.Clone[[]int,int] -/
noncomputable def b51 : Code := Try.f51.body.getD .skip
noncomputable def C51 : Ctx := baseC Try.prog [95, 75] none (allF Try.prog) (allI Try.prog) none1
theorem o51 : CtxOK (C51) b51 := (base_ok eqOK mixOK none b51)
def z51 (p0 : Sl) (h : Heap) (K : Sl → Heap → Prop) : Prop :=
 (branch (Option.isNone p0.a)
 (K (Sl.mk none 0 0) h)
 (withH (Heap.new h (.cells [] false)) fun h1 =>
 (optK p0.a
 (K (Sl.mk (some ⟨h.next, 0, (some 0)⟩) 0 0) h1)
 fun a2 =>
 (Go.AM.get (Heap.rdN h1 ⟨a2.block, a2.off, none⟩ (p0.len * 1)) fun y3 =>
 (Go.AM.get (Heap.app h1 1 8 (Sl.mk (some ⟨h.next, 0, (some 0)⟩) 0 0) p0.len y3) fun r4 =>
 (K r4.1 r4.2))))))
theorem k51 (p0 : Sl) (h : Heap) (K : Sl → Heap → Prop) : fnK C51 Try.f51.results.toList Try.f51.ntmps b51 [(Sl.v p0)] h (outC [sP] K) = z51 p0 h K := by kernel_rfl
theorem r51 (p0 : Sl) (h : Heap) (K : Sl → Heap → Prop) (H : z51 p0 h K) : t51 p0 h K := fn_stepE (C := C51) (fn := Try.f51) (g := 51) o51 rfl rfl (by kernel_rfl) (by kernel_rfl) (by kernel_rfl) (k51 p0 h K) (by kernel_rfl) H

/-! 52: minikin/pair.rising -/
noncomputable def b52 : Code := Try.f52.body.getD .skip
noncomputable def c52_57 : Code := (subN b52 115).getD .skip
theorem s52_57 : subN b52 115 = some c52_57 := by kernel_rfl
theorem sl52_57 : subN b52 57 = some (.loop c52_57) := by kernel_rfl
noncomputable def l52_57 (XR : Bool → Heap → Prop) (X0 : Heap → Prop) : Int → Int → Sl → Int → Int → Heap → Prop := lC Try.prog none c52_57 24 [(1, iP .i64), (5, iP .i64), (8, sP), (9, iP .i64), (10, iP .i64)] (outE noE (grabC 24 [(4, bP)] XR) [(0, (grabC 24 [] X0))])
noncomputable def C52 : Ctx := baseC Try.prog [95, 75] none (allF Try.prog) (allI Try.prog) (cons1 57 (gC 24 [(1, iP .i64), (5, iP .i64), (8, sP), (9, iP .i64), (10, iP .i64)] none (some [(4, bP)]) [(0, [])] (lC Try.prog none c52_57 24 [(1, iP .i64), (5, iP .i64), (8, sP), (9, iP .i64), (10, iP .i64)])) none1)
theorem o52 : CtxOK (C52) b52 := (addL (base_ok eqOK mixOK none b52) sl52_57)
def z52_57 (XR : Bool → Heap → Prop) (X0 : Heap → Prop) (v1 : Int) (v2 : Int) (v3 : Sl) (v4 : Int) (v5 : Int) (h6 : Heap) : Prop :=
 (branch (decide (v5 < v4))
 (Go.AM.get v3.a fun a9 =>
 (chk (idx v5 v3.len) <|
 (Go.AM.get (asI .i64 (Heap.rd h6 ⟨a9.block, (a9.off + ((Int.toNat v5) * 1)), none⟩)) fun y10 =>
 (branch (decide (y10 ≤ v2))
 (XR false h6)
 (branch (decide (y10 ≥ v1))
 (XR false h6)
 (l52_57 XR X0 v1 y10 v3 v4 (IntKind.wrap .i64 (v5 + 1)) h6))))))
 (X0 h6))
theorem k52_57 (XR : Bool → Heap → Prop) (X0 : Heap → Prop) (v1 : Int) (v2 : Int) (v3 : Sl) (v4 : Int) (v5 : Int) (h6 : Heap) : (exec (C52) c52_57 false 115 (Fr.put (Fr.put (Fr.put (Fr.put (Fr.put (Fr0 24) (some 1) (.int .i64 v1)) (some 5) (.int .i64 v2)) (some 8) (Sl.v v3)) (some 9) (.int .i64 v4)) (some 10) (.int .i64 v5)) h6 (loopE (grabC 24 [(1, iP .i64), (5, iP .i64), (8, sP), (9, iP .i64), (10, iP .i64)] (lC (C52).P (C52).yld c52_57 24 [(1, iP .i64), (5, iP .i64), (8, sP), (9, iP .i64), (10, iP .i64)] (outE noE (grabC 24 [(4, bP)] XR) [(0, (grabC 24 [] X0))]))) (outE noE (grabC 24 [(4, bP)] XR) [(0, (grabC 24 [] X0))]))) = z52_57 XR X0 v1 v2 v3 v4 v5 h6 := by kernel_rfl
theorem r52_57 (XR : Bool → Heap → Prop) (X0 : Heap → Prop) (v1 : Int) (v2 : Int) (v3 : Sl) (v4 : Int) (v5 : Int) (h6 : Heap) (H : z52_57 XR X0 v1 v2 v3 v4 v5 h6) : l52_57 XR X0 v1 v2 v3 v4 v5 h6 := loop_stepE (p := 57) (N := 24) (keep := [(1, iP .i64), (5, iP .i64), (8, sP), (9, iP .i64), (10, iP .i64)]) (o52) rfl s52_57 (k52_57 XR X0 v1 v2 v3 v4 v5 h6) (by kernel_rfl) H
def z52 (p0 : Sl) (p1 : Int) (h : Heap) (K : Bool → Heap → Prop) : Prop :=
 (l52_57
 (fun z11 h12 =>
 (K z11 h12))
 (fun h13 =>
 (K true h13))
 p1 (-1) p0 ((p0.len : Nat) : Int) 0 h)
theorem k52 (p0 : Sl) (p1 : Int) (h : Heap) (K : Bool → Heap → Prop) : fnK C52 Try.f52.results.toList Try.f52.ntmps b52 [(Sl.v p0), (.int .i64 p1)] h (outC [bP] K) = z52 p0 p1 h K := by kernel_rfl
theorem r52 (p0 : Sl) (p1 : Int) (h : Heap) (K : Bool → Heap → Prop) (H : z52 p0 p1 h K) : t52 p0 p1 h K := fn_stepE (C := C52) (fn := Try.f52) (g := 52) o52 rfl rfl (by kernel_rfl) (by kernel_rfl) (by kernel_rfl) (k52 p0 p1 h K) (by kernel_rfl) H

/-! 53: minikin/pair.odd -/
noncomputable def b53 : Code := Try.f53.body.getD .skip
noncomputable def c53_121 : Code := (subN b53 243).getD .skip
theorem s53_121 : subN b53 243 = some c53_121 := by kernel_rfl
theorem sl53_121 : subN b53 121 = some (.loop c53_121) := by kernel_rfl
noncomputable def l53_121 (X0 : Option Addr → Option Addr → Option Addr → Heap → Prop) : Option Addr → Option Addr → Option Addr → Sl → Int → Int → Heap → Prop := lC Try.prog none c53_121 76 [(2, pP), (5, pP), (6, pP), (20, sP), (21, iP .i64), (22, iP .i64)] (outE noE noE [(0, (grabC 76 [(2, pP), (5, pP), (6, pP)] X0))])
noncomputable def c53_132750993 : Code := (subN b53 265501987).getD .skip
theorem s53_132750993 : subN b53 265501987 = some c53_132750993 := by kernel_rfl
theorem sl53_132750993 : subN b53 132750993 = some (.loop c53_132750993) := by kernel_rfl
noncomputable def l53_132750993 (X6 : Option Addr → Option Addr → Int → Sl → Int → Int → Int → Heap → Prop) : Option Addr → Option Addr → Int → Sl → Int → Int → Int → Sl → Int → Int → Heap → Prop := lC Try.prog none c53_132750993 76 [(5, pP), (6, pP), (9, iP .i64), (11, sP), (12, iP .i64), (30, iP .i64), (31, iP .i64), (52, sP), (53, iP .i64), (54, iP .i64)] (outE noE noE [(6, (grabC 76 [(5, pP), (6, pP), (9, iP .i64), (11, sP), (12, iP .i64), (30, iP .i64), (31, iP .i64)] X6))])
noncomputable def c53_2074233 : Code := (subN b53 4148467).getD .skip
theorem s53_2074233 : subN b53 4148467 = some c53_2074233 := by kernel_rfl
theorem sl53_2074233 : subN b53 2074233 = some (.loop c53_2074233) := by kernel_rfl
noncomputable def l53_2074233 (X4 : Option Addr → Option Addr → Int → Sl → Int → Int → Heap → Prop) : Option Addr → Option Addr → Int → Sl → Int → Int → Int → Heap → Prop := lC Try.prog none c53_2074233 76 [(5, pP), (6, pP), (9, iP .i64), (11, sP), (12, iP .i64), (30, iP .i64), (31, iP .i64)] (outE noE noE [(4, (grabC 76 [(5, pP), (6, pP), (9, iP .i64), (11, sP), (30, iP .i64), (31, iP .i64)] X4))])
noncomputable def c53_505 : Code := (subN b53 1011).getD .skip
theorem s53_505 : subN b53 1011 = some c53_505 := by kernel_rfl
theorem sl53_505 : subN b53 505 = some (.loop c53_505) := by kernel_rfl
noncomputable def l53_505 (X2 : Int → Heap → Prop) : Option Addr → Option Addr → Int → Int → Int → Heap → Prop := lC Try.prog none c53_505 76 [(5, pP), (6, pP), (9, iP .i64), (30, iP .i64), (31, iP .i64)] (outE noE noE [(2, (grabC 76 [(9, iP .i64)] X2))])
noncomputable def C53 : Ctx := baseC Try.prog [95, 75] none (cons1 49 w49 (allF Try.prog)) (allI Try.prog) (cons1 505 (gC 76 [(5, pP), (6, pP), (9, iP .i64), (30, iP .i64), (31, iP .i64)] none none [(2, [(9, iP .i64)])] (lC Try.prog none c53_505 76 [(5, pP), (6, pP), (9, iP .i64), (30, iP .i64), (31, iP .i64)])) (cons1 2074233 (gC 76 [(5, pP), (6, pP), (9, iP .i64), (11, sP), (12, iP .i64), (30, iP .i64), (31, iP .i64)] none none [(4, [(5, pP), (6, pP), (9, iP .i64), (11, sP), (30, iP .i64), (31, iP .i64)])] (lC Try.prog none c53_2074233 76 [(5, pP), (6, pP), (9, iP .i64), (11, sP), (12, iP .i64), (30, iP .i64), (31, iP .i64)])) (cons1 132750993 (gC 76 [(5, pP), (6, pP), (9, iP .i64), (11, sP), (12, iP .i64), (30, iP .i64), (31, iP .i64), (52, sP), (53, iP .i64), (54, iP .i64)] none none [(6, [(5, pP), (6, pP), (9, iP .i64), (11, sP), (12, iP .i64), (30, iP .i64), (31, iP .i64)])] (lC Try.prog none c53_132750993 76 [(5, pP), (6, pP), (9, iP .i64), (11, sP), (12, iP .i64), (30, iP .i64), (31, iP .i64), (52, sP), (53, iP .i64), (54, iP .i64)])) (cons1 121 (gC 76 [(2, pP), (5, pP), (6, pP), (20, sP), (21, iP .i64), (22, iP .i64)] none none [(0, [(2, pP), (5, pP), (6, pP)])] (lC Try.prog none c53_121 76 [(2, pP), (5, pP), (6, pP), (20, sP), (21, iP .i64), (22, iP .i64)])) none1))))
theorem o53 : CtxOK (C53) b53 := (addL (addL (addL (addL (addF (base_ok eqOK mixOK none b53) (wC_ok Try.prog 49 [aggP [iP .i64, sP], iP .i64] [pP])) sl53_121) sl53_132750993) sl53_2074233) sl53_505)
def z53_121 (X0 : Option Addr → Option Addr → Option Addr → Heap → Prop) (v21 : Option Addr) (v22 : Option Addr) (v23 : Option Addr) (v24 : Sl) (v25 : Int) (v26 : Int) (h27 : Heap) : Prop :=
 (branch (decide (v26 < v25))
 (Go.AM.get v24.a fun a28 =>
 (chk (idx v26 v24.len) <|
 (Go.AM.get (asI .i64 (Heap.rd h27 ⟨a28.block, (a28.off + ((Int.toNat v26) * 1)), none⟩)) fun y29 =>
 (Go.AM.get v23 fun a30 =>
 (chk (idx y29 40) <|
 (Go.AM.get (Heap.wr h27 ⟨a30.block, (a30.off + ((Int.toNat y29) * 1)), none⟩ [(.bool true)]) fun h31 =>
 (l53_121 X0 v21 v22 v23 v24 v25 (IntKind.wrap .i64 (v26 + 1)) h31)))))))
 (X0 v21 v22 v23 h27))
theorem k53_121 (X0 : Option Addr → Option Addr → Option Addr → Heap → Prop) (v21 : Option Addr) (v22 : Option Addr) (v23 : Option Addr) (v24 : Sl) (v25 : Int) (v26 : Int) (h27 : Heap) : (exec (C53) c53_121 false 243 (Fr.put (Fr.put (Fr.put (Fr.put (Fr.put (Fr.put (Fr0 76) (some 2) (.pointer v21)) (some 5) (.pointer v22)) (some 6) (.pointer v23)) (some 20) (Sl.v v24)) (some 21) (.int .i64 v25)) (some 22) (.int .i64 v26)) h27 (loopE (grabC 76 [(2, pP), (5, pP), (6, pP), (20, sP), (21, iP .i64), (22, iP .i64)] (lC (C53).P (C53).yld c53_121 76 [(2, pP), (5, pP), (6, pP), (20, sP), (21, iP .i64), (22, iP .i64)] (outE noE noE [(0, (grabC 76 [(2, pP), (5, pP), (6, pP)] X0))]))) (outE noE noE [(0, (grabC 76 [(2, pP), (5, pP), (6, pP)] X0))]))) = z53_121 X0 v21 v22 v23 v24 v25 v26 h27 := by kernel_rfl
theorem r53_121 (X0 : Option Addr → Option Addr → Option Addr → Heap → Prop) (v21 : Option Addr) (v22 : Option Addr) (v23 : Option Addr) (v24 : Sl) (v25 : Int) (v26 : Int) (h27 : Heap) (H : z53_121 X0 v21 v22 v23 v24 v25 v26 h27) : l53_121 X0 v21 v22 v23 v24 v25 v26 h27 := loop_stepE (p := 121) (N := 76) (keep := [(2, pP), (5, pP), (6, pP), (20, sP), (21, iP .i64), (22, iP .i64)]) (o53) rfl s53_121 (k53_121 X0 v21 v22 v23 v24 v25 v26 h27) (by kernel_rfl) H
def z53_132750993 (X6 : Option Addr → Option Addr → Int → Sl → Int → Int → Int → Heap → Prop) (v76 : Option Addr) (v77 : Option Addr) (v78 : Int) (v79 : Sl) (v80 : Int) (v81 : Int) (v82 : Int) (v83 : Sl) (v84 : Int) (v85 : Int) (h86 : Heap) : Prop :=
 (branch (decide (v85 < v84))
 (Go.AM.get v83.a fun a89 =>
 (chk (idx v85 v83.len) <|
 (Go.AM.get (asI .i64 (Heap.rd h86 ⟨a89.block, (a89.off + ((Int.toNat v85) * 1)), none⟩)) fun y90 =>
 (Go.AM.get v77 fun a93 =>
 (chk (idx y90 40) <|
 (Go.AM.get (asB (Heap.rd h86 ⟨a93.block, (a93.off + ((Int.toNat y90) * 1)), none⟩)) fun y94 =>
 (branch (!y94)
 (Go.AM.get v77 fun a95 =>
 (chk (idx y90 40) <|
 (Go.AM.get (Heap.wr h86 ⟨a95.block, (a95.off + ((Int.toNat y90) * 1)), none⟩ [(.bool true)]) fun h96 =>
 (withH (Heap.new h96 (.cells [(.int .i64 y90)] false)) fun h97 =>
 (Go.AM.get (Heap.rdN h97 ⟨h96.next, 0, none⟩ 1) fun y98 =>
 (Go.AM.get (Heap.app h97 1 8 v79 1 y98) fun r99 =>
 (l53_132750993 X6 v76 v77 v78 r99.1 v80 v81 v82 v83 v84 (IntKind.wrap .i64 (v85 + 1)) r99.2)))))))
 (l53_132750993 X6 v76 v77 v78 v79 v80 v81 v82 v83 v84 (IntKind.wrap .i64 (v85 + 1)) h86))))))))
 (X6 v76 v77 v78 v79 v80 v81 v82 h86))
theorem k53_132750993 (X6 : Option Addr → Option Addr → Int → Sl → Int → Int → Int → Heap → Prop) (v76 : Option Addr) (v77 : Option Addr) (v78 : Int) (v79 : Sl) (v80 : Int) (v81 : Int) (v82 : Int) (v83 : Sl) (v84 : Int) (v85 : Int) (h86 : Heap) : (exec (C53) c53_132750993 false 265501987 (Fr.put (Fr.put (Fr.put (Fr.put (Fr.put (Fr.put (Fr.put (Fr.put (Fr.put (Fr.put (Fr0 76) (some 5) (.pointer v76)) (some 6) (.pointer v77)) (some 9) (.int .i64 v78)) (some 11) (Sl.v v79)) (some 12) (.int .i64 v80)) (some 30) (.int .i64 v81)) (some 31) (.int .i64 v82)) (some 52) (Sl.v v83)) (some 53) (.int .i64 v84)) (some 54) (.int .i64 v85)) h86 (loopE (grabC 76 [(5, pP), (6, pP), (9, iP .i64), (11, sP), (12, iP .i64), (30, iP .i64), (31, iP .i64), (52, sP), (53, iP .i64), (54, iP .i64)] (lC (C53).P (C53).yld c53_132750993 76 [(5, pP), (6, pP), (9, iP .i64), (11, sP), (12, iP .i64), (30, iP .i64), (31, iP .i64), (52, sP), (53, iP .i64), (54, iP .i64)] (outE noE noE [(6, (grabC 76 [(5, pP), (6, pP), (9, iP .i64), (11, sP), (12, iP .i64), (30, iP .i64), (31, iP .i64)] X6))]))) (outE noE noE [(6, (grabC 76 [(5, pP), (6, pP), (9, iP .i64), (11, sP), (12, iP .i64), (30, iP .i64), (31, iP .i64)] X6))]))) = z53_132750993 X6 v76 v77 v78 v79 v80 v81 v82 v83 v84 v85 h86 := by kernel_rfl
theorem r53_132750993 (X6 : Option Addr → Option Addr → Int → Sl → Int → Int → Int → Heap → Prop) (v76 : Option Addr) (v77 : Option Addr) (v78 : Int) (v79 : Sl) (v80 : Int) (v81 : Int) (v82 : Int) (v83 : Sl) (v84 : Int) (v85 : Int) (h86 : Heap) (H : z53_132750993 X6 v76 v77 v78 v79 v80 v81 v82 v83 v84 v85 h86) : l53_132750993 X6 v76 v77 v78 v79 v80 v81 v82 v83 v84 v85 h86 := loop_stepE (p := 132750993) (N := 76) (keep := [(5, pP), (6, pP), (9, iP .i64), (11, sP), (12, iP .i64), (30, iP .i64), (31, iP .i64), (52, sP), (53, iP .i64), (54, iP .i64)]) (o53) rfl s53_132750993 (k53_132750993 X6 v76 v77 v78 v79 v80 v81 v82 v83 v84 v85 h86) (by kernel_rfl) H
def z53_2074233 (X4 : Option Addr → Option Addr → Int → Sl → Int → Int → Heap → Prop) (v60 : Option Addr) (v61 : Option Addr) (v62 : Int) (v63 : Sl) (v64 : Int) (v65 : Int) (v66 : Int) (h67 : Heap) : Prop :=
 (branch (decide (v64 < ((v63.len : Nat) : Int)))
 (Go.AM.get v63.a fun a72 =>
 (chk (idx v64 v63.len) <|
 (Go.AM.get (asI .i64 (Heap.rd h67 ⟨a72.block, (a72.off + ((Int.toNat v64) * 1)), none⟩)) fun y73 =>
 (Go.AM.get v60 fun a74 =>
 (chk (idx y73 40) <|
 (Go.AM.get (asS (Heap.rd h67 ⟨a74.block, (a74.off + ((Int.toNat y73) * 1)), none⟩)) fun y75 =>
 (l53_132750993
 (fun z100 z101 z102 z103 z104 z105 z106 h107 =>
 (l53_2074233 X4 z100 z101 z102 z103 (IntKind.wrap .i64 (z104 + 1)) z105 z106 h107))
 v60 v61 v62 v63 v64 v65 v66 y75 ((y75.len : Nat) : Int) 0 h67)))))))
 (X4 v60 v61 v62 v63 v65 v66 h67))
theorem k53_2074233 (X4 : Option Addr → Option Addr → Int → Sl → Int → Int → Heap → Prop) (v60 : Option Addr) (v61 : Option Addr) (v62 : Int) (v63 : Sl) (v64 : Int) (v65 : Int) (v66 : Int) (h67 : Heap) : (exec (C53) c53_2074233 false 4148467 (Fr.put (Fr.put (Fr.put (Fr.put (Fr.put (Fr.put (Fr.put (Fr0 76) (some 5) (.pointer v60)) (some 6) (.pointer v61)) (some 9) (.int .i64 v62)) (some 11) (Sl.v v63)) (some 12) (.int .i64 v64)) (some 30) (.int .i64 v65)) (some 31) (.int .i64 v66)) h67 (loopE (grabC 76 [(5, pP), (6, pP), (9, iP .i64), (11, sP), (12, iP .i64), (30, iP .i64), (31, iP .i64)] (lC (C53).P (C53).yld c53_2074233 76 [(5, pP), (6, pP), (9, iP .i64), (11, sP), (12, iP .i64), (30, iP .i64), (31, iP .i64)] (outE noE noE [(4, (grabC 76 [(5, pP), (6, pP), (9, iP .i64), (11, sP), (30, iP .i64), (31, iP .i64)] X4))]))) (outE noE noE [(4, (grabC 76 [(5, pP), (6, pP), (9, iP .i64), (11, sP), (30, iP .i64), (31, iP .i64)] X4))]))) = z53_2074233 X4 v60 v61 v62 v63 v64 v65 v66 h67 := by kernel_rfl
theorem r53_2074233 (X4 : Option Addr → Option Addr → Int → Sl → Int → Int → Heap → Prop) (v60 : Option Addr) (v61 : Option Addr) (v62 : Int) (v63 : Sl) (v64 : Int) (v65 : Int) (v66 : Int) (h67 : Heap) (H : z53_2074233 X4 v60 v61 v62 v63 v64 v65 v66 h67) : l53_2074233 X4 v60 v61 v62 v63 v64 v65 v66 h67 := loop_stepE (p := 2074233) (N := 76) (keep := [(5, pP), (6, pP), (9, iP .i64), (11, sP), (12, iP .i64), (30, iP .i64), (31, iP .i64)]) (o53) rfl s53_2074233 (k53_2074233 X4 v60 v61 v62 v63 v64 v65 v66 h67) (by kernel_rfl) H
def z53_505 (X2 : Int → Heap → Prop) (v44 : Option Addr) (v45 : Option Addr) (v46 : Int) (v47 : Int) (v48 : Int) (h49 : Heap) : Prop :=
 (branch (decide (v48 < v47))
 (Go.AM.get v45 fun a52 =>
 (chk (idx v48 40) <|
 (Go.AM.get (asB (Heap.rd h49 ⟨a52.block, (a52.off + ((Int.toNat v48) * 1)), none⟩)) fun y53 =>
 (branch y53
 (l53_505 X2 v44 v45 v46 v47 (IntKind.wrap .i64 (v48 + 1)) h49)
 (Go.AM.get v45 fun a56 =>
 (chk (idx v48 40) <|
 (Go.AM.get (Heap.wr h49 ⟨a56.block, (a56.off + ((Int.toNat v48) * 1)), none⟩ [(.bool true)]) fun h57 =>
 (withH (Heap.new h57 (.cells [(.int .i64 v48)] false)) fun h59 =>
 (l53_2074233
 (fun z108 z109 z110 z111 z112 z113 h114 =>
 (l53_505 X2 z108 z109 (IntKind.wrap .i64 (z110 + (Int.tmod ((z111.len : Nat) : Int) 2))) z112 (IntKind.wrap .i64 (z113 + 1)) h114))
 v44 v45 v46 (Sl.mk (some ⟨h57.next, 0, (some 0)⟩) 1 1) 0 v47 v48 h59)))))))))
 (X2 v46 h49))
theorem k53_505 (X2 : Int → Heap → Prop) (v44 : Option Addr) (v45 : Option Addr) (v46 : Int) (v47 : Int) (v48 : Int) (h49 : Heap) : (exec (C53) c53_505 false 1011 (Fr.put (Fr.put (Fr.put (Fr.put (Fr.put (Fr0 76) (some 5) (.pointer v44)) (some 6) (.pointer v45)) (some 9) (.int .i64 v46)) (some 30) (.int .i64 v47)) (some 31) (.int .i64 v48)) h49 (loopE (grabC 76 [(5, pP), (6, pP), (9, iP .i64), (30, iP .i64), (31, iP .i64)] (lC (C53).P (C53).yld c53_505 76 [(5, pP), (6, pP), (9, iP .i64), (30, iP .i64), (31, iP .i64)] (outE noE noE [(2, (grabC 76 [(9, iP .i64)] X2))]))) (outE noE noE [(2, (grabC 76 [(9, iP .i64)] X2))]))) = z53_505 X2 v44 v45 v46 v47 v48 h49 := by kernel_rfl
theorem r53_505 (X2 : Int → Heap → Prop) (v44 : Option Addr) (v45 : Option Addr) (v46 : Int) (v47 : Int) (v48 : Int) (h49 : Heap) (H : z53_505 X2 v44 v45 v46 v47 v48 h49) : l53_505 X2 v44 v45 v46 v47 v48 h49 := loop_stepE (p := 505) (N := 76) (keep := [(5, pP), (6, pP), (9, iP .i64), (30, iP .i64), (31, iP .i64)]) (o53) rfl s53_505 (k53_505 X2 v44 v45 v46 v47 v48 h49) (by kernel_rfl) H
def z53 (p0 : (Int × Sl × Unit)) (p1 : Sl) (h : Heap) (K : Int → Heap → Prop) : Prop :=
 (withH (Heap.new h (.cells [(.int .i64 p0.1), (Sl.v p0.2.1)] false)) fun h2 =>
 (Go.AM.get (asI .i64 (Heap.rd h2 ⟨h.next, 0, none⟩)) fun y11 =>
 (Go.AM.get (asS (Heap.rd h2 ⟨h.next, 1, none⟩)) fun y12 =>
 (t49 (y11, y12, ()) (-1) h2 fun r13 h14 =>
 (Go.AM.get r13 fun a15 =>
 (Go.AM.get (Heap.rdN h14 ⟨a15.block, (a15.off + 1), none⟩ 40) fun y16 =>
 (withH (Heap.new h14 (.cells (List.replicate 40 (.slice none 0 0)) false)) fun h17 =>
 (chk (Nat.beq (List.length y16) 40 && List.all y16 Value.oneCell') <|
 (Go.AM.get (Heap.wr h17 ⟨h14.next, 0, none⟩ y16) fun h18 =>
 (withH (Heap.new h18 (.cells (List.replicate 40 (.bool false)) false)) fun h20 =>
 (l53_121
 (fun z36 z37 z38 h39 =>
 (Go.AM.get z36 fun a42 =>
 (Go.AM.get (asI .i64 (Heap.rd h39 ⟨a42.block, a42.off, none⟩)) fun y43 =>
 (l53_505
 (fun z115 h116 =>
 (K z115 h116))
 z37 z38 0 y43 0 h39))))
 (some ⟨h.next, 0, none⟩) (some ⟨h14.next, 0, none⟩) (some ⟨h18.next, 0, none⟩) p1 ((p1.len : Nat) : Int) 0 h20)))))))))))
theorem k53 (p0 : (Int × Sl × Unit)) (p1 : Sl) (h : Heap) (K : Int → Heap → Prop) : fnK C53 Try.f53.results.toList Try.f53.ntmps b53 [(.agg ⟨[(.int .i64 p0.1), (Sl.v p0.2.1)]⟩), (Sl.v p1)] h (outC [iP .i64] K) = z53 p0 p1 h K := by kernel_rfl
theorem r53 (p0 : (Int × Sl × Unit)) (p1 : Sl) (h : Heap) (K : Int → Heap → Prop) (H : z53 p0 p1 h K) : t53 p0 p1 h K := fn_stepE (C := C53) (fn := Try.f53) (g := 53) o53 rfl rfl (by kernel_rfl) (by kernel_rfl) (by kernel_rfl) (k53 p0 p1 h K) (by kernel_rfl) H

/-! 54: minikin/pair.divide -/
noncomputable def b54 : Code := Try.f54.body.getD .skip
noncomputable def c54_249 : Code := (subN b54 499).getD .skip
theorem s54_249 : subN b54 499 = some c54_249 := by kernel_rfl
theorem sl54_249 : subN b54 249 = some (.loop c54_249) := by kernel_rfl
noncomputable def l54_249 (X0 : Option Addr → Option Addr → Option Addr → Option Addr → Option Addr → Heap → Prop) : Option Addr → Option Addr → Option Addr → Int → Option Addr → Option Addr → Int → Int → Heap → Prop := lC Try.prog none c54_249 99 [(1, pP), (2, pP), (3, pP), (4, iP .i64), (5, pP), (6, pP), (16, iP .i64), (17, iP .i64)] (outE noE noE [(0, (grabC 99 [(1, pP), (2, pP), (3, pP), (5, pP), (6, pP)] X0))])
noncomputable def c54_129637 : Code := (subN b54 259275).getD .skip
theorem s54_129637 : subN b54 259275 = some c54_129637 := by kernel_rfl
theorem sl54_129637 : subN b54 129637 = some (.loop c54_129637) := by kernel_rfl
noncomputable def l54_129637 (X4 : Option Addr → Option Addr → Option Addr → Option Addr → Option Addr → Sl → Int → Int → Heap → Prop) : Option Addr → Option Addr → Option Addr → Option Addr → Option Addr → Option Addr → Sl → Int → Int → Int → Heap → Prop := lC Try.prog none c54_129637 99 [(1, pP), (2, pP), (3, pP), (5, pP), (6, pP), (9, pP), (30, sP), (31, iP .i64), (32, iP .i64), (36, iP .i64)] (outE noE noE [(4, (grabC 99 [(1, pP), (2, pP), (3, pP), (5, pP), (6, pP), (30, sP), (31, iP .i64), (32, iP .i64)] X4))])
noncomputable def c54_505 : Code := (subN b54 1011).getD .skip
theorem s54_505 : subN b54 1011 = some c54_505 := by kernel_rfl
theorem sl54_505 : subN b54 505 = some (.loop c54_505) := by kernel_rfl
noncomputable def l54_505 (X2 : Option Addr → Option Addr → Option Addr → Option Addr → Option Addr → Heap → Prop) : Option Addr → Option Addr → Option Addr → Option Addr → Option Addr → Sl → Int → Int → Heap → Prop := lC Try.prog none c54_505 99 [(1, pP), (2, pP), (3, pP), (5, pP), (6, pP), (30, sP), (31, iP .i64), (32, iP .i64)] (outE noE noE [(2, (grabC 99 [(1, pP), (2, pP), (3, pP), (5, pP), (6, pP)] X2))])
noncomputable def c54_1017 : Code := (subN b54 2035).getD .skip
theorem s54_1017 : subN b54 2035 = some c54_1017 := by kernel_rfl
theorem sl54_1017 : subN b54 1017 = some (.loop c54_1017) := by kernel_rfl
noncomputable def l54_1017 (X6 : Option Addr → Option Addr → Heap → Prop) : Option Addr → Option Addr → Option Addr → Option Addr → Int → Int → Heap → Prop := lC Try.prog none c54_1017 99 [(2, pP), (3, pP), (5, pP), (6, pP), (67, iP .i64), (68, iP .i64)] (outE noE noE [(6, (grabC 99 [(2, pP), (3, pP)] X6))])
noncomputable def C54 : Ctx := baseC Try.prog [95, 75] none (cons1 50 w50 (cons1 49 w49 (allF Try.prog))) (allI Try.prog) (cons1 1017 (gC 99 [(2, pP), (3, pP), (5, pP), (6, pP), (67, iP .i64), (68, iP .i64)] none none [(6, [(2, pP), (3, pP)])] (lC Try.prog none c54_1017 99 [(2, pP), (3, pP), (5, pP), (6, pP), (67, iP .i64), (68, iP .i64)])) (cons1 505 (gC 99 [(1, pP), (2, pP), (3, pP), (5, pP), (6, pP), (30, sP), (31, iP .i64), (32, iP .i64)] none none [(2, [(1, pP), (2, pP), (3, pP), (5, pP), (6, pP)])] (lC Try.prog none c54_505 99 [(1, pP), (2, pP), (3, pP), (5, pP), (6, pP), (30, sP), (31, iP .i64), (32, iP .i64)])) (cons1 129637 (gC 99 [(1, pP), (2, pP), (3, pP), (5, pP), (6, pP), (9, pP), (30, sP), (31, iP .i64), (32, iP .i64), (36, iP .i64)] none none [(4, [(1, pP), (2, pP), (3, pP), (5, pP), (6, pP), (30, sP), (31, iP .i64), (32, iP .i64)])] (lC Try.prog none c54_129637 99 [(1, pP), (2, pP), (3, pP), (5, pP), (6, pP), (9, pP), (30, sP), (31, iP .i64), (32, iP .i64), (36, iP .i64)])) (cons1 249 (gC 99 [(1, pP), (2, pP), (3, pP), (4, iP .i64), (5, pP), (6, pP), (16, iP .i64), (17, iP .i64)] none none [(0, [(1, pP), (2, pP), (3, pP), (5, pP), (6, pP)])] (lC Try.prog none c54_249 99 [(1, pP), (2, pP), (3, pP), (4, iP .i64), (5, pP), (6, pP), (16, iP .i64), (17, iP .i64)])) none1))))
theorem o54 : CtxOK (C54) b54 := (addL (addL (addL (addL (addF (addF (base_ok eqOK mixOK none b54) (wC_ok Try.prog 49 [aggP [iP .i64, sP], iP .i64] [pP])) (wC_ok Try.prog 50 [pP] [iP .i64])) sl54_249) sl54_129637) sl54_505) sl54_1017)
def z54_249 (X0 : Option Addr → Option Addr → Option Addr → Option Addr → Option Addr → Heap → Prop) (v25 : Option Addr) (v26 : Option Addr) (v27 : Option Addr) (v28 : Int) (v29 : Option Addr) (v30 : Option Addr) (v31 : Int) (v32 : Int) (h33 : Heap) : Prop :=
 (branch (decide (v32 < v31))
 (Go.AM.get v25 fun a34 =>
 (Go.AM.get (asI .i64 (Heap.rd h33 ⟨a34.block, a34.off, none⟩)) fun y35 =>
 (Go.AM.get (asS (Heap.rd h33 ⟨a34.block, (a34.off + 1), none⟩)) fun y36 =>
 (t49 (y35, y36, ()) v32 h33 fun r37 h38 =>
 (t50 r37 h38 fun r39 h40 =>
 (Go.AM.get v29 fun a41 =>
 (chk (idx v32 40) <|
 (Go.AM.get (Heap.wr h40 ⟨a41.block, (a41.off + ((Int.toNat v32) * 1)), none⟩ [(.bool (r39 == v28))]) fun h42 =>
 (l54_249 X0 v25 v26 v27 v28 v29 v30 v31 (IntKind.wrap .i64 (v32 + 1)) h42)))))))))
 (X0 v25 v26 v27 v29 v30 h33))
theorem k54_249 (X0 : Option Addr → Option Addr → Option Addr → Option Addr → Option Addr → Heap → Prop) (v25 : Option Addr) (v26 : Option Addr) (v27 : Option Addr) (v28 : Int) (v29 : Option Addr) (v30 : Option Addr) (v31 : Int) (v32 : Int) (h33 : Heap) : (exec (C54) c54_249 false 499 (Fr.put (Fr.put (Fr.put (Fr.put (Fr.put (Fr.put (Fr.put (Fr.put (Fr0 99) (some 1) (.pointer v25)) (some 2) (.pointer v26)) (some 3) (.pointer v27)) (some 4) (.int .i64 v28)) (some 5) (.pointer v29)) (some 6) (.pointer v30)) (some 16) (.int .i64 v31)) (some 17) (.int .i64 v32)) h33 (loopE (grabC 99 [(1, pP), (2, pP), (3, pP), (4, iP .i64), (5, pP), (6, pP), (16, iP .i64), (17, iP .i64)] (lC (C54).P (C54).yld c54_249 99 [(1, pP), (2, pP), (3, pP), (4, iP .i64), (5, pP), (6, pP), (16, iP .i64), (17, iP .i64)] (outE noE noE [(0, (grabC 99 [(1, pP), (2, pP), (3, pP), (5, pP), (6, pP)] X0))]))) (outE noE noE [(0, (grabC 99 [(1, pP), (2, pP), (3, pP), (5, pP), (6, pP)] X0))]))) = z54_249 X0 v25 v26 v27 v28 v29 v30 v31 v32 h33 := by kernel_rfl
theorem r54_249 (X0 : Option Addr → Option Addr → Option Addr → Option Addr → Option Addr → Heap → Prop) (v25 : Option Addr) (v26 : Option Addr) (v27 : Option Addr) (v28 : Int) (v29 : Option Addr) (v30 : Option Addr) (v31 : Int) (v32 : Int) (h33 : Heap) (H : z54_249 X0 v25 v26 v27 v28 v29 v30 v31 v32 h33) : l54_249 X0 v25 v26 v27 v28 v29 v30 v31 v32 h33 := loop_stepE (p := 249) (N := 99) (keep := [(1, pP), (2, pP), (3, pP), (4, iP .i64), (5, pP), (6, pP), (16, iP .i64), (17, iP .i64)]) (o54) rfl s54_249 (k54_249 X0 v25 v26 v27 v28 v29 v30 v31 v32 h33) (by kernel_rfl) H
def z54_129637 (X4 : Option Addr → Option Addr → Option Addr → Option Addr → Option Addr → Sl → Int → Int → Heap → Prop) (v79 : Option Addr) (v80 : Option Addr) (v81 : Option Addr) (v82 : Option Addr) (v83 : Option Addr) (v84 : Option Addr) (v85 : Sl) (v86 : Int) (v87 : Int) (v88 : Int) (h89 : Heap) : Prop :=
 (branch (decide (v88 < 2))
 (Go.AM.get v84 fun a90 =>
 (chk (idx v88 2) <|
 (Go.AM.get (asI .i64 (Heap.rd h89 ⟨a90.block, (a90.off + ((Int.toNat v88) * 1)), none⟩)) fun y91 =>
 (Go.AM.get v84 fun a92 =>
 (chk (idx v88 2) <|
 (Go.AM.get (asI .i64 (Heap.rd h89 ⟨a92.block, (a92.off + ((Int.toNat v88) * 1)), none⟩)) fun y93 =>
 (Go.AM.get v83 fun a94 =>
 (chk (idx y93 40) <|
 (Go.AM.get (asB (Heap.rd h89 ⟨a94.block, (a94.off + ((Int.toNat y93) * 1)), none⟩)) fun y95 =>
 (branch y95
 (Go.AM.get v83 fun a96 =>
 (chk (idx y91 40) <|
 (Go.AM.get (Heap.wr h89 ⟨a96.block, (a96.off + ((Int.toNat y91) * 1)), none⟩ [(.bool true)]) fun h97 =>
 (l54_129637 X4 v79 v80 v81 v82 v83 v84 v85 v86 v87 (IntKind.wrap .i64 (v88 + 1)) h97))))
 (Go.AM.get v84 fun a98 =>
 (chk (idx v88 2) <|
 (Go.AM.get (asI .i64 (Heap.rd h89 ⟨a98.block, (a98.off + ((Int.toNat v88) * 1)), none⟩)) fun y99 =>
 (Go.AM.get v82 fun a100 =>
 (chk (idx y99 40) <|
 (Go.AM.get (asB (Heap.rd h89 ⟨a100.block, (a100.off + ((Int.toNat y99) * 1)), none⟩)) fun y101 =>
 (branch (!y101)
 (Go.AM.get v84 fun a102 =>
 (chk (idx (IntKind.wrap .i64 (1 - v88)) 2) <|
 (Go.AM.get (asI .i64 (Heap.rd h89 ⟨a102.block, (a102.off + ((Int.toNat (IntKind.wrap .i64 (1 - v88))) * 1)), none⟩)) fun y103 =>
 (Go.AM.get v82 fun a104 =>
 (chk (idx y103 40) <|
 (Go.AM.get (asB (Heap.rd h89 ⟨a104.block, (a104.off + ((Int.toNat y103) * 1)), none⟩)) fun y105 =>
 (Go.AM.get v83 fun a106 =>
 (chk (idx y91 40) <|
 (Go.AM.get (Heap.wr h89 ⟨a106.block, (a106.off + ((Int.toNat y91) * 1)), none⟩ [(.bool y105)]) fun h107 =>
 (l54_129637 X4 v79 v80 v81 v82 v83 v84 v85 v86 v87 (IntKind.wrap .i64 (v88 + 1)) h107))))))))))
 (Go.AM.get v83 fun a108 =>
 (chk (idx y91 40) <|
 (Go.AM.get (Heap.wr h89 ⟨a108.block, (a108.off + ((Int.toNat y91) * 1)), none⟩ [(.bool false)]) fun h109 =>
 (l54_129637 X4 v79 v80 v81 v82 v83 v84 v85 v86 v87 (IntKind.wrap .i64 (v88 + 1)) h109)))))))))))))))))))))
 (X4 v79 v80 v81 v82 v83 v85 v86 v87 h89))
theorem k54_129637 (X4 : Option Addr → Option Addr → Option Addr → Option Addr → Option Addr → Sl → Int → Int → Heap → Prop) (v79 : Option Addr) (v80 : Option Addr) (v81 : Option Addr) (v82 : Option Addr) (v83 : Option Addr) (v84 : Option Addr) (v85 : Sl) (v86 : Int) (v87 : Int) (v88 : Int) (h89 : Heap) : (exec (C54) c54_129637 false 259275 (Fr.put (Fr.put (Fr.put (Fr.put (Fr.put (Fr.put (Fr.put (Fr.put (Fr.put (Fr.put (Fr0 99) (some 1) (.pointer v79)) (some 2) (.pointer v80)) (some 3) (.pointer v81)) (some 5) (.pointer v82)) (some 6) (.pointer v83)) (some 9) (.pointer v84)) (some 30) (Sl.v v85)) (some 31) (.int .i64 v86)) (some 32) (.int .i64 v87)) (some 36) (.int .i64 v88)) h89 (loopE (grabC 99 [(1, pP), (2, pP), (3, pP), (5, pP), (6, pP), (9, pP), (30, sP), (31, iP .i64), (32, iP .i64), (36, iP .i64)] (lC (C54).P (C54).yld c54_129637 99 [(1, pP), (2, pP), (3, pP), (5, pP), (6, pP), (9, pP), (30, sP), (31, iP .i64), (32, iP .i64), (36, iP .i64)] (outE noE noE [(4, (grabC 99 [(1, pP), (2, pP), (3, pP), (5, pP), (6, pP), (30, sP), (31, iP .i64), (32, iP .i64)] X4))]))) (outE noE noE [(4, (grabC 99 [(1, pP), (2, pP), (3, pP), (5, pP), (6, pP), (30, sP), (31, iP .i64), (32, iP .i64)] X4))]))) = z54_129637 X4 v79 v80 v81 v82 v83 v84 v85 v86 v87 v88 h89 := by kernel_rfl
theorem r54_129637 (X4 : Option Addr → Option Addr → Option Addr → Option Addr → Option Addr → Sl → Int → Int → Heap → Prop) (v79 : Option Addr) (v80 : Option Addr) (v81 : Option Addr) (v82 : Option Addr) (v83 : Option Addr) (v84 : Option Addr) (v85 : Sl) (v86 : Int) (v87 : Int) (v88 : Int) (h89 : Heap) (H : z54_129637 X4 v79 v80 v81 v82 v83 v84 v85 v86 v87 v88 h89) : l54_129637 X4 v79 v80 v81 v82 v83 v84 v85 v86 v87 v88 h89 := loop_stepE (p := 129637) (N := 99) (keep := [(1, pP), (2, pP), (3, pP), (5, pP), (6, pP), (9, pP), (30, sP), (31, iP .i64), (32, iP .i64), (36, iP .i64)]) (o54) rfl s54_129637 (k54_129637 X4 v79 v80 v81 v82 v83 v84 v85 v86 v87 v88 h89) (by kernel_rfl) H
def z54_505 (X2 : Option Addr → Option Addr → Option Addr → Option Addr → Option Addr → Heap → Prop) (v60 : Option Addr) (v61 : Option Addr) (v62 : Option Addr) (v63 : Option Addr) (v64 : Option Addr) (v65 : Sl) (v66 : Int) (v67 : Int) (h68 : Heap) : Prop :=
 (branch (decide (v67 < v66))
 (Go.AM.get v65.a fun a74 =>
 (chk (idx v67 v65.len) <|
 (Go.AM.get (asI .i64 (Heap.rd h68 ⟨a74.block, (a74.off + ((Int.toNat v67) * 2)), none⟩)) fun y75 =>
 (Go.AM.get (asI .i64 (Heap.rd h68 ⟨a74.block, ((a74.off + ((Int.toNat v67) * 2)) + 1), none⟩)) fun y76 =>
 (withH (Heap.new h68 (.cells [(.int .i64 0), (.int .i64 0)] false)) fun h77 =>
 (Go.AM.get (Heap.wr h77 ⟨h68.next, 0, none⟩ [(.int .i64 y75), (.int .i64 y76)]) fun h78 =>
 (l54_129637
 (fun z110 z111 z112 z113 z114 z115 z116 z117 h118 =>
 (l54_505 X2 z110 z111 z112 z113 z114 z115 z116 (IntKind.wrap .i64 (z117 + 1)) h118))
 v60 v61 v62 v63 v64 (some ⟨h68.next, 0, none⟩) v65 v66 v67 0 h78)))))))
 (X2 v60 v61 v62 v63 v64 h68))
theorem k54_505 (X2 : Option Addr → Option Addr → Option Addr → Option Addr → Option Addr → Heap → Prop) (v60 : Option Addr) (v61 : Option Addr) (v62 : Option Addr) (v63 : Option Addr) (v64 : Option Addr) (v65 : Sl) (v66 : Int) (v67 : Int) (h68 : Heap) : (exec (C54) c54_505 false 1011 (Fr.put (Fr.put (Fr.put (Fr.put (Fr.put (Fr.put (Fr.put (Fr.put (Fr0 99) (some 1) (.pointer v60)) (some 2) (.pointer v61)) (some 3) (.pointer v62)) (some 5) (.pointer v63)) (some 6) (.pointer v64)) (some 30) (Sl.v v65)) (some 31) (.int .i64 v66)) (some 32) (.int .i64 v67)) h68 (loopE (grabC 99 [(1, pP), (2, pP), (3, pP), (5, pP), (6, pP), (30, sP), (31, iP .i64), (32, iP .i64)] (lC (C54).P (C54).yld c54_505 99 [(1, pP), (2, pP), (3, pP), (5, pP), (6, pP), (30, sP), (31, iP .i64), (32, iP .i64)] (outE noE noE [(2, (grabC 99 [(1, pP), (2, pP), (3, pP), (5, pP), (6, pP)] X2))]))) (outE noE noE [(2, (grabC 99 [(1, pP), (2, pP), (3, pP), (5, pP), (6, pP)] X2))]))) = z54_505 X2 v60 v61 v62 v63 v64 v65 v66 v67 h68 := by kernel_rfl
theorem r54_505 (X2 : Option Addr → Option Addr → Option Addr → Option Addr → Option Addr → Heap → Prop) (v60 : Option Addr) (v61 : Option Addr) (v62 : Option Addr) (v63 : Option Addr) (v64 : Option Addr) (v65 : Sl) (v66 : Int) (v67 : Int) (h68 : Heap) (H : z54_505 X2 v60 v61 v62 v63 v64 v65 v66 v67 h68) : l54_505 X2 v60 v61 v62 v63 v64 v65 v66 v67 h68 := loop_stepE (p := 505) (N := 99) (keep := [(1, pP), (2, pP), (3, pP), (5, pP), (6, pP), (30, sP), (31, iP .i64), (32, iP .i64)]) (o54) rfl s54_505 (k54_505 X2 v60 v61 v62 v63 v64 v65 v66 v67 h68) (by kernel_rfl) H
def z54_1017 (X6 : Option Addr → Option Addr → Heap → Prop) (v137 : Option Addr) (v138 : Option Addr) (v139 : Option Addr) (v140 : Option Addr) (v141 : Int) (v142 : Int) (h143 : Heap) : Prop :=
 (branch (decide (v142 < v141))
 (Go.AM.get v139 fun a146 =>
 (chk (idx v142 40) <|
 (Go.AM.get (asB (Heap.rd h143 ⟨a146.block, (a146.off + ((Int.toNat v142) * 1)), none⟩)) fun y147 =>
 (branch y147
 (Go.AM.get v138 fun a148 =>
 (Go.AM.get (asS (Heap.rd h143 ⟨a148.block, a148.off, none⟩)) fun y149 =>
 (withH (Heap.new h143 (.cells [(.int .i64 v142)] false)) fun h150 =>
 (Go.AM.get (Heap.rdN h150 ⟨h143.next, 0, none⟩ 1) fun y151 =>
 (Go.AM.get (Heap.app h150 1 8 y149 1 y151) fun r152 =>
 (Go.AM.get v138 fun a153 =>
 (Go.AM.get (Heap.wr r152.2 ⟨a153.block, a153.off, none⟩ [(Sl.v r152.1)]) fun h154 =>
 (l54_1017 X6 v137 v138 v139 v140 v141 (IntKind.wrap .i64 (v142 + 1)) h154))))))))
 (Go.AM.get v140 fun a157 =>
 (chk (idx v142 40) <|
 (Go.AM.get (asB (Heap.rd h143 ⟨a157.block, (a157.off + ((Int.toNat v142) * 1)), none⟩)) fun y158 =>
 (branch y158
 (Go.AM.get v138 fun a159 =>
 (Go.AM.get (asS (Heap.rd h143 ⟨a159.block, (a159.off + 1), none⟩)) fun y160 =>
 (withH (Heap.new h143 (.cells [(.int .i64 v142)] false)) fun h161 =>
 (Go.AM.get (Heap.rdN h161 ⟨h143.next, 0, none⟩ 1) fun y162 =>
 (Go.AM.get (Heap.app h161 1 8 y160 1 y162) fun r163 =>
 (Go.AM.get v138 fun a164 =>
 (Go.AM.get (Heap.wr r163.2 ⟨a164.block, (a164.off + 1), none⟩ [(Sl.v r163.1)]) fun h165 =>
 (l54_1017 X6 v137 v138 v139 v140 v141 (IntKind.wrap .i64 (v142 + 1)) h165))))))))
 (Go.AM.get v138 fun a166 =>
 (Go.AM.get (asS (Heap.rd h143 ⟨a166.block, (a166.off + 2), none⟩)) fun y167 =>
 (withH (Heap.new h143 (.cells [(.int .i64 v142)] false)) fun h168 =>
 (Go.AM.get (Heap.rdN h168 ⟨h143.next, 0, none⟩ 1) fun y169 =>
 (Go.AM.get (Heap.app h168 1 8 y167 1 y169) fun r170 =>
 (Go.AM.get v138 fun a171 =>
 (Go.AM.get (Heap.wr r170.2 ⟨a171.block, (a171.off + 2), none⟩ [(Sl.v r170.1)]) fun h172 =>
 (l54_1017 X6 v137 v138 v139 v140 v141 (IntKind.wrap .i64 (v142 + 1)) h172))))))))))))))))
 (X6 v137 v138 h143))
theorem k54_1017 (X6 : Option Addr → Option Addr → Heap → Prop) (v137 : Option Addr) (v138 : Option Addr) (v139 : Option Addr) (v140 : Option Addr) (v141 : Int) (v142 : Int) (h143 : Heap) : (exec (C54) c54_1017 false 2035 (Fr.put (Fr.put (Fr.put (Fr.put (Fr.put (Fr.put (Fr0 99) (some 2) (.pointer v137)) (some 3) (.pointer v138)) (some 5) (.pointer v139)) (some 6) (.pointer v140)) (some 67) (.int .i64 v141)) (some 68) (.int .i64 v142)) h143 (loopE (grabC 99 [(2, pP), (3, pP), (5, pP), (6, pP), (67, iP .i64), (68, iP .i64)] (lC (C54).P (C54).yld c54_1017 99 [(2, pP), (3, pP), (5, pP), (6, pP), (67, iP .i64), (68, iP .i64)] (outE noE noE [(6, (grabC 99 [(2, pP), (3, pP)] X6))]))) (outE noE noE [(6, (grabC 99 [(2, pP), (3, pP)] X6))]))) = z54_1017 X6 v137 v138 v139 v140 v141 v142 h143 := by kernel_rfl
theorem r54_1017 (X6 : Option Addr → Option Addr → Heap → Prop) (v137 : Option Addr) (v138 : Option Addr) (v139 : Option Addr) (v140 : Option Addr) (v141 : Int) (v142 : Int) (h143 : Heap) (H : z54_1017 X6 v137 v138 v139 v140 v141 v142 h143) : l54_1017 X6 v137 v138 v139 v140 v141 v142 h143 := loop_stepE (p := 1017) (N := 99) (keep := [(2, pP), (3, pP), (5, pP), (6, pP), (67, iP .i64), (68, iP .i64)]) (o54) rfl s54_1017 (k54_1017 X6 v137 v138 v139 v140 v141 v142 h143) (by kernel_rfl) H
def z54 (p0 : (Int × Sl × Unit)) (h : Heap) (K : (Sl × Sl × Sl × Unit) → Heap → Prop) : Prop :=
 (withH (Heap.new h (.cells [(.int .i64 p0.1), (Sl.v p0.2.1)] false)) fun h3 =>
 (withH (Heap.new h3 (.cells [(.slice none 0 0), (.slice none 0 0), (.slice none 0 0)] false)) fun h4 =>
 (withH (Heap.new h4 (.cells [(.slice none 0 0), (.slice none 0 0), (.slice none 0 0)] false)) fun h6 =>
 (Go.AM.get (asI .i64 (Heap.rd h6 ⟨h.next, 0, none⟩)) fun y13 =>
 (Go.AM.get (asS (Heap.rd h6 ⟨h.next, 1, none⟩)) fun y14 =>
 (t49 (y13, y14, ()) (-1) h6 fun r15 h16 =>
 (t50 r15 h16 fun r17 h18 =>
 (withH (Heap.new h18 (.cells (List.replicate 40 (.bool false)) false)) fun h21 =>
 (withH (Heap.new h21 (.cells (List.replicate 40 (.bool false)) false)) fun h22 =>
 (Go.AM.get (asI .i64 (Heap.rd h22 ⟨h.next, 0, none⟩)) fun y49 =>
 (l54_249
 (fun z50 z51 z52 z53 z54 h55 =>
 (Go.AM.get z50 fun a125 =>
 (Go.AM.get (asS (Heap.rd h55 ⟨a125.block, (a125.off + 1), none⟩)) fun y126 =>
 (l54_505
 (fun z127 z128 z129 z130 z131 h132 =>
 (Go.AM.get z127 fun a135 =>
 (Go.AM.get (asI .i64 (Heap.rd h132 ⟨a135.block, a135.off, none⟩)) fun y136 =>
 (l54_1017
 (fun z173 z174 h175 =>
 (Go.AM.get z174 fun a176 =>
 (Go.AM.get (asS (Heap.rd h175 ⟨a176.block, a176.off, none⟩)) fun y177 =>
 (Go.AM.get (asS (Heap.rd h175 ⟨a176.block, (a176.off + 1), none⟩)) fun y178 =>
 (Go.AM.get (asS (Heap.rd h175 ⟨a176.block, (a176.off + 2), none⟩)) fun y179 =>
 (Go.AM.get z173 fun a180 =>
 (Go.AM.get (Heap.wr h175 a180 [(Sl.v y177), (Sl.v y178), (Sl.v y179)]) fun h181 =>
 (Go.AM.get z173 fun a182 =>
 (Go.AM.get (asS (Heap.rd h181 ⟨a182.block, a182.off, none⟩)) fun y183 =>
 (Go.AM.get (asS (Heap.rd h181 ⟨a182.block, (a182.off + 1), none⟩)) fun y184 =>
 (Go.AM.get (asS (Heap.rd h181 ⟨a182.block, (a182.off + 2), none⟩)) fun y185 =>
 (K (y183, y184, y185, ()) h181))))))))))))
 z128 z129 z130 z131 y136 0 h132))))
 z50 z51 z52 z53 z54 y126 ((y126.len : Nat) : Int) 0 h55))))
 (some ⟨h.next, 0, none⟩) (some ⟨h3.next, 0, none⟩) (some ⟨h4.next, 0, none⟩) r17 (some ⟨h18.next, 0, none⟩) (some ⟨h21.next, 0, none⟩) y49 0 h22)))))))))))
theorem k54 (p0 : (Int × Sl × Unit)) (h : Heap) (K : (Sl × Sl × Sl × Unit) → Heap → Prop) : fnK C54 Try.f54.results.toList Try.f54.ntmps b54 [(.agg ⟨[(.int .i64 p0.1), (Sl.v p0.2.1)]⟩)] h (outC [aggP [sP, sP, sP]] K) = z54 p0 h K := by kernel_rfl
theorem r54 (p0 : (Int × Sl × Unit)) (h : Heap) (K : (Sl × Sl × Sl × Unit) → Heap → Prop) (H : z54 p0 h K) : t54 p0 h K := fn_stepE (C := C54) (fn := Try.f54) (g := 54) o54 rfl rfl (by kernel_rfl) (by kernel_rfl) (by kernel_rfl) (k54 p0 h K) (by kernel_rfl) H

/-! 55: minikin/pair.newOrder -/
noncomputable def b55 : Code := Try.f55.body.getD .skip
noncomputable def c55_121 : Code := (subN b55 243).getD .skip
theorem s55_121 : subN b55 243 = some c55_121 := by kernel_rfl
theorem sl55_121 : subN b55 121 = some (.loop c55_121) := by kernel_rfl
noncomputable def l55_121 (XR : Option Addr → Int → Heap → Prop) (X0 : Int → Option Addr → Heap → Prop) : Int → Option Addr → Sl → Int → Int → Heap → Prop := lC Try.prog none c55_121 122 [(0, iP .i64), (6, pP), (27, sP), (28, iP .i64), (29, iP .i64)] (outE noE (grabC 122 [(4, pP), (5, iP .i64)] XR) [(0, (grabC 122 [(0, iP .i64), (6, pP)] X0))])
noncomputable def c55_16410213 : Code := (subN b55 32820427).getD .skip
theorem s55_16410213 : subN b55 32820427 = some c55_16410213 := by kernel_rfl
theorem sl55_16410213 : subN b55 16410213 = some (.loop c55_16410213) := by kernel_rfl
noncomputable def l55_16410213 (X6 : Int → Option Addr → Int → Int → Int → Int → Int → Heap → Prop) : Int → Option Addr → Int → Int → Int → Int → Int → Int → Int → Int → Heap → Prop := lC Try.prog none c55_16410213 122 [(0, iP .i64), (6, pP), (9, iP .i64), (10, iP .i64), (58, iP .i64), (59, iP .i64), (62, iP .i64), (63, iP .i64), (66, iP .i64), (67, iP .i64)] (outE noE noE [(6, (grabC 122 [(0, iP .i64), (6, pP), (9, iP .i64), (58, iP .i64), (59, iP .i64), (62, iP .i64), (63, iP .i64)] X6))])
noncomputable def c55_64101 : Code := (subN b55 128203).getD .skip
theorem s55_64101 : subN b55 128203 = some c55_64101 := by kernel_rfl
theorem sl55_64101 : subN b55 64101 = some (.loop c55_64101) := by kernel_rfl
noncomputable def l55_64101 (X4 : Int → Option Addr → Int → Int → Heap → Prop) : Int → Option Addr → Int → Int → Int → Int → Int → Heap → Prop := lC Try.prog none c55_64101 122 [(0, iP .i64), (6, pP), (9, iP .i64), (58, iP .i64), (59, iP .i64), (62, iP .i64), (63, iP .i64)] (outE noE noE [(4, (grabC 122 [(0, iP .i64), (6, pP), (58, iP .i64), (59, iP .i64)] X4))])
noncomputable def c55_249 : Code := (subN b55 499).getD .skip
theorem s55_249 : subN b55 499 = some c55_249 := by kernel_rfl
theorem sl55_249 : subN b55 249 = some (.loop c55_249) := by kernel_rfl
noncomputable def l55_249 (X2 : Int → Option Addr → Heap → Prop) : Int → Option Addr → Int → Int → Heap → Prop := lC Try.prog none c55_249 122 [(0, iP .i64), (6, pP), (58, iP .i64), (59, iP .i64)] (outE noE noE [(2, (grabC 122 [(0, iP .i64), (6, pP)] X2))])
noncomputable def c55_505 : Code := (subN b55 1011).getD .skip
theorem s55_505 : subN b55 1011 = some c55_505 := by kernel_rfl
theorem sl55_505 : subN b55 505 = some (.loop c55_505) := by kernel_rfl
noncomputable def l55_505 (XR : Option Addr → Int → Heap → Prop) (X8 : Option Addr → Heap → Prop) : Option Addr → Int → Int → Heap → Prop := lC Try.prog none c55_505 122 [(6, pP), (108, iP .i64), (109, iP .i64)] (outE noE (grabC 122 [(4, pP), (5, iP .i64)] XR) [(8, (grabC 122 [(6, pP)] X8))])
noncomputable def C55 : Ctx := baseC Try.prog [95, 75] none (allF Try.prog) (allI Try.prog) (cons1 505 (gC 122 [(6, pP), (108, iP .i64), (109, iP .i64)] none (some [(4, pP), (5, iP .i64)]) [(8, [(6, pP)])] (lC Try.prog none c55_505 122 [(6, pP), (108, iP .i64), (109, iP .i64)])) (cons1 249 (gC 122 [(0, iP .i64), (6, pP), (58, iP .i64), (59, iP .i64)] none none [(2, [(0, iP .i64), (6, pP)])] (lC Try.prog none c55_249 122 [(0, iP .i64), (6, pP), (58, iP .i64), (59, iP .i64)])) (cons1 64101 (gC 122 [(0, iP .i64), (6, pP), (9, iP .i64), (58, iP .i64), (59, iP .i64), (62, iP .i64), (63, iP .i64)] none none [(4, [(0, iP .i64), (6, pP), (58, iP .i64), (59, iP .i64)])] (lC Try.prog none c55_64101 122 [(0, iP .i64), (6, pP), (9, iP .i64), (58, iP .i64), (59, iP .i64), (62, iP .i64), (63, iP .i64)])) (cons1 16410213 (gC 122 [(0, iP .i64), (6, pP), (9, iP .i64), (10, iP .i64), (58, iP .i64), (59, iP .i64), (62, iP .i64), (63, iP .i64), (66, iP .i64), (67, iP .i64)] none none [(6, [(0, iP .i64), (6, pP), (9, iP .i64), (58, iP .i64), (59, iP .i64), (62, iP .i64), (63, iP .i64)])] (lC Try.prog none c55_16410213 122 [(0, iP .i64), (6, pP), (9, iP .i64), (10, iP .i64), (58, iP .i64), (59, iP .i64), (62, iP .i64), (63, iP .i64), (66, iP .i64), (67, iP .i64)])) (cons1 121 (gC 122 [(0, iP .i64), (6, pP), (27, sP), (28, iP .i64), (29, iP .i64)] none (some [(4, pP), (5, iP .i64)]) [(0, [(0, iP .i64), (6, pP)])] (lC Try.prog none c55_121 122 [(0, iP .i64), (6, pP), (27, sP), (28, iP .i64), (29, iP .i64)])) none1)))))
theorem o55 : CtxOK (C55) b55 := (addL (addL (addL (addL (addL (base_ok eqOK mixOK none b55) sl55_121) sl55_16410213) sl55_64101) sl55_249) sl55_505)
def z55_121 (XR : Option Addr → Int → Heap → Prop) (X0 : Int → Option Addr → Heap → Prop) (v3 : Int) (v4 : Option Addr) (v5 : Sl) (v6 : Int) (v7 : Int) (h8 : Heap) : Prop :=
 (branch (decide (v7 < v6))
 (Go.AM.get v5.a fun a14 =>
 (chk (idx v7 v5.len) <|
 (Go.AM.get (asI .i64 (Heap.rd h8 ⟨a14.block, (a14.off + ((Int.toNat v7) * 2)), none⟩)) fun y15 =>
 (Go.AM.get (asI .i64 (Heap.rd h8 ⟨a14.block, ((a14.off + ((Int.toNat v7) * 2)) + 1), none⟩)) fun y16 =>
 (withH (Heap.new h8 (.cells [(.int .i64 0), (.int .i64 0)] false)) fun h17 =>
 (Go.AM.get (Heap.wr h17 ⟨h8.next, 0, none⟩ [(.int .i64 y15), (.int .i64 y16)]) fun h18 =>
 (Go.AM.get (asI .i64 (Heap.rd h18 ⟨h8.next, 0, none⟩)) fun y23 =>
 (Go.AM.get (asI .i64 (Heap.rd h18 ⟨h8.next, 1, none⟩)) fun y24 =>
 (branch (decide ((if y24 < y23 then y24 else y23) < 0))
 (XR none 41 h18)
 (Go.AM.get (asI .i64 (Heap.rd h18 ⟨h8.next, 0, none⟩)) fun y25 =>
 (Go.AM.get (asI .i64 (Heap.rd h18 ⟨h8.next, 1, none⟩)) fun y26 =>
 (branch (decide ((if y26 > y25 then y26 else y25) ≥ v3))
 (XR none 41 h18)
 (Go.AM.get (asI .i64 (Heap.rd h18 ⟨h8.next, 0, none⟩)) fun y27 =>
 (Go.AM.get (asI .i64 (Heap.rd h18 ⟨h8.next, 1, none⟩)) fun y28 =>
 (Go.AM.get v4 fun a29 =>
 (chk (idx y27 40) <|
 (chk (idx y28 40) <|
 (Go.AM.get (Heap.wr h18 ⟨a29.block, (((a29.off + 1) + ((Int.toNat y27) * 40)) + ((Int.toNat y28) * 1)), none⟩ [(.bool true)]) fun h30 =>
 (l55_121 XR X0 v3 v4 v5 v6 (IntKind.wrap .i64 (v7 + 1)) h30)))))))))))))))))))
 (X0 v3 v4 h8))
theorem k55_121 (XR : Option Addr → Int → Heap → Prop) (X0 : Int → Option Addr → Heap → Prop) (v3 : Int) (v4 : Option Addr) (v5 : Sl) (v6 : Int) (v7 : Int) (h8 : Heap) : (exec (C55) c55_121 false 243 (Fr.put (Fr.put (Fr.put (Fr.put (Fr.put (Fr0 122) (some 0) (.int .i64 v3)) (some 6) (.pointer v4)) (some 27) (Sl.v v5)) (some 28) (.int .i64 v6)) (some 29) (.int .i64 v7)) h8 (loopE (grabC 122 [(0, iP .i64), (6, pP), (27, sP), (28, iP .i64), (29, iP .i64)] (lC (C55).P (C55).yld c55_121 122 [(0, iP .i64), (6, pP), (27, sP), (28, iP .i64), (29, iP .i64)] (outE noE (grabC 122 [(4, pP), (5, iP .i64)] XR) [(0, (grabC 122 [(0, iP .i64), (6, pP)] X0))]))) (outE noE (grabC 122 [(4, pP), (5, iP .i64)] XR) [(0, (grabC 122 [(0, iP .i64), (6, pP)] X0))]))) = z55_121 XR X0 v3 v4 v5 v6 v7 h8 := by kernel_rfl
theorem r55_121 (XR : Option Addr → Int → Heap → Prop) (X0 : Int → Option Addr → Heap → Prop) (v3 : Int) (v4 : Option Addr) (v5 : Sl) (v6 : Int) (v7 : Int) (h8 : Heap) (H : z55_121 XR X0 v3 v4 v5 v6 v7 h8) : l55_121 XR X0 v3 v4 v5 v6 v7 h8 := loop_stepE (p := 121) (N := 122) (keep := [(0, iP .i64), (6, pP), (27, sP), (28, iP .i64), (29, iP .i64)]) (o55) rfl s55_121 (k55_121 XR X0 v3 v4 v5 v6 v7 h8) (by kernel_rfl) H
def z55_16410213 (X6 : Int → Option Addr → Int → Int → Int → Int → Int → Heap → Prop) (v56 : Int) (v57 : Option Addr) (v58 : Int) (v59 : Int) (v60 : Int) (v61 : Int) (v62 : Int) (v63 : Int) (v64 : Int) (v65 : Int) (h66 : Heap) : Prop :=
 (branch (decide (v65 < v64))
 (Go.AM.get v57 fun a67 =>
 (chk (idx v59 40) <|
 (chk (idx v65 40) <|
 (Go.AM.get (asB (Heap.rd h66 ⟨a67.block, (((a67.off + 1) + ((Int.toNat v59) * 40)) + ((Int.toNat v65) * 1)), none⟩)) fun y68 =>
 (branch y68
 (Go.AM.get v57 fun a69 =>
 (chk (idx v59 40) <|
 (chk (idx v65 40) <|
 (Go.AM.get (Heap.wr h66 ⟨a69.block, (((a69.off + 1) + ((Int.toNat v59) * 40)) + ((Int.toNat v65) * 1)), none⟩ [(.bool true)]) fun h70 =>
 (l55_16410213 X6 v56 v57 v58 v59 v60 v61 v62 v63 v64 (IntKind.wrap .i64 (v65 + 1)) h70)))))
 (Go.AM.get v57 fun a71 =>
 (chk (idx v59 40) <|
 (chk (idx v58 40) <|
 (Go.AM.get (asB (Heap.rd h66 ⟨a71.block, (((a71.off + 1) + ((Int.toNat v59) * 40)) + ((Int.toNat v58) * 1)), none⟩)) fun y72 =>
 (branch y72
 (Go.AM.get v57 fun a73 =>
 (chk (idx v58 40) <|
 (chk (idx v65 40) <|
 (Go.AM.get (asB (Heap.rd h66 ⟨a73.block, (((a73.off + 1) + ((Int.toNat v58) * 40)) + ((Int.toNat v65) * 1)), none⟩)) fun y74 =>
 (Go.AM.get v57 fun a75 =>
 (chk (idx v59 40) <|
 (chk (idx v65 40) <|
 (Go.AM.get (Heap.wr h66 ⟨a75.block, (((a75.off + 1) + ((Int.toNat v59) * 40)) + ((Int.toNat v65) * 1)), none⟩ [(.bool y74)]) fun h76 =>
 (l55_16410213 X6 v56 v57 v58 v59 v60 v61 v62 v63 v64 (IntKind.wrap .i64 (v65 + 1)) h76)))))))))
 (Go.AM.get v57 fun a77 =>
 (chk (idx v59 40) <|
 (chk (idx v65 40) <|
 (Go.AM.get (Heap.wr h66 ⟨a77.block, (((a77.off + 1) + ((Int.toNat v59) * 40)) + ((Int.toNat v65) * 1)), none⟩ [(.bool false)]) fun h78 =>
 (l55_16410213 X6 v56 v57 v58 v59 v60 v61 v62 v63 v64 (IntKind.wrap .i64 (v65 + 1)) h78)))))))))))))))
 (X6 v56 v57 v58 v60 v61 v62 v63 h66))
theorem k55_16410213 (X6 : Int → Option Addr → Int → Int → Int → Int → Int → Heap → Prop) (v56 : Int) (v57 : Option Addr) (v58 : Int) (v59 : Int) (v60 : Int) (v61 : Int) (v62 : Int) (v63 : Int) (v64 : Int) (v65 : Int) (h66 : Heap) : (exec (C55) c55_16410213 false 32820427 (Fr.put (Fr.put (Fr.put (Fr.put (Fr.put (Fr.put (Fr.put (Fr.put (Fr.put (Fr.put (Fr0 122) (some 0) (.int .i64 v56)) (some 6) (.pointer v57)) (some 9) (.int .i64 v58)) (some 10) (.int .i64 v59)) (some 58) (.int .i64 v60)) (some 59) (.int .i64 v61)) (some 62) (.int .i64 v62)) (some 63) (.int .i64 v63)) (some 66) (.int .i64 v64)) (some 67) (.int .i64 v65)) h66 (loopE (grabC 122 [(0, iP .i64), (6, pP), (9, iP .i64), (10, iP .i64), (58, iP .i64), (59, iP .i64), (62, iP .i64), (63, iP .i64), (66, iP .i64), (67, iP .i64)] (lC (C55).P (C55).yld c55_16410213 122 [(0, iP .i64), (6, pP), (9, iP .i64), (10, iP .i64), (58, iP .i64), (59, iP .i64), (62, iP .i64), (63, iP .i64), (66, iP .i64), (67, iP .i64)] (outE noE noE [(6, (grabC 122 [(0, iP .i64), (6, pP), (9, iP .i64), (58, iP .i64), (59, iP .i64), (62, iP .i64), (63, iP .i64)] X6))]))) (outE noE noE [(6, (grabC 122 [(0, iP .i64), (6, pP), (9, iP .i64), (58, iP .i64), (59, iP .i64), (62, iP .i64), (63, iP .i64)] X6))]))) = z55_16410213 X6 v56 v57 v58 v59 v60 v61 v62 v63 v64 v65 h66 := by kernel_rfl
theorem r55_16410213 (X6 : Int → Option Addr → Int → Int → Int → Int → Int → Heap → Prop) (v56 : Int) (v57 : Option Addr) (v58 : Int) (v59 : Int) (v60 : Int) (v61 : Int) (v62 : Int) (v63 : Int) (v64 : Int) (v65 : Int) (h66 : Heap) (H : z55_16410213 X6 v56 v57 v58 v59 v60 v61 v62 v63 v64 v65 h66) : l55_16410213 X6 v56 v57 v58 v59 v60 v61 v62 v63 v64 v65 h66 := loop_stepE (p := 16410213) (N := 122) (keep := [(0, iP .i64), (6, pP), (9, iP .i64), (10, iP .i64), (58, iP .i64), (59, iP .i64), (62, iP .i64), (63, iP .i64), (66, iP .i64), (67, iP .i64)]) (o55) rfl s55_16410213 (k55_16410213 X6 v56 v57 v58 v59 v60 v61 v62 v63 v64 v65 h66) (by kernel_rfl) H
def z55_64101 (X4 : Int → Option Addr → Int → Int → Heap → Prop) (v48 : Int) (v49 : Option Addr) (v50 : Int) (v51 : Int) (v52 : Int) (v53 : Int) (v54 : Int) (h55 : Heap) : Prop :=
 (branch (decide (v54 < v53))
 (l55_16410213
 (fun z79 z80 z81 z82 z83 z84 z85 h86 =>
 (l55_64101 X4 z79 z80 z81 z82 z83 z84 (IntKind.wrap .i64 (z85 + 1)) h86))
 v48 v49 v50 v54 v51 v52 v53 v54 v48 0 h55)
 (X4 v48 v49 v51 v52 h55))
theorem k55_64101 (X4 : Int → Option Addr → Int → Int → Heap → Prop) (v48 : Int) (v49 : Option Addr) (v50 : Int) (v51 : Int) (v52 : Int) (v53 : Int) (v54 : Int) (h55 : Heap) : (exec (C55) c55_64101 false 128203 (Fr.put (Fr.put (Fr.put (Fr.put (Fr.put (Fr.put (Fr.put (Fr0 122) (some 0) (.int .i64 v48)) (some 6) (.pointer v49)) (some 9) (.int .i64 v50)) (some 58) (.int .i64 v51)) (some 59) (.int .i64 v52)) (some 62) (.int .i64 v53)) (some 63) (.int .i64 v54)) h55 (loopE (grabC 122 [(0, iP .i64), (6, pP), (9, iP .i64), (58, iP .i64), (59, iP .i64), (62, iP .i64), (63, iP .i64)] (lC (C55).P (C55).yld c55_64101 122 [(0, iP .i64), (6, pP), (9, iP .i64), (58, iP .i64), (59, iP .i64), (62, iP .i64), (63, iP .i64)] (outE noE noE [(4, (grabC 122 [(0, iP .i64), (6, pP), (58, iP .i64), (59, iP .i64)] X4))]))) (outE noE noE [(4, (grabC 122 [(0, iP .i64), (6, pP), (58, iP .i64), (59, iP .i64)] X4))]))) = z55_64101 X4 v48 v49 v50 v51 v52 v53 v54 h55 := by kernel_rfl
theorem r55_64101 (X4 : Int → Option Addr → Int → Int → Heap → Prop) (v48 : Int) (v49 : Option Addr) (v50 : Int) (v51 : Int) (v52 : Int) (v53 : Int) (v54 : Int) (h55 : Heap) (H : z55_64101 X4 v48 v49 v50 v51 v52 v53 v54 h55) : l55_64101 X4 v48 v49 v50 v51 v52 v53 v54 h55 := loop_stepE (p := 64101) (N := 122) (keep := [(0, iP .i64), (6, pP), (9, iP .i64), (58, iP .i64), (59, iP .i64), (62, iP .i64), (63, iP .i64)]) (o55) rfl s55_64101 (k55_64101 X4 v48 v49 v50 v51 v52 v53 v54 h55) (by kernel_rfl) H
def z55_249 (X2 : Int → Option Addr → Heap → Prop) (v43 : Int) (v44 : Option Addr) (v45 : Int) (v46 : Int) (h47 : Heap) : Prop :=
 (branch (decide (v46 < v45))
 (l55_64101
 (fun z87 z88 z89 z90 h91 =>
 (l55_249 X2 z87 z88 z89 (IntKind.wrap .i64 (z90 + 1)) h91))
 v43 v44 v46 v45 v46 v43 0 h47)
 (X2 v43 v44 h47))
theorem k55_249 (X2 : Int → Option Addr → Heap → Prop) (v43 : Int) (v44 : Option Addr) (v45 : Int) (v46 : Int) (h47 : Heap) : (exec (C55) c55_249 false 499 (Fr.put (Fr.put (Fr.put (Fr.put (Fr0 122) (some 0) (.int .i64 v43)) (some 6) (.pointer v44)) (some 58) (.int .i64 v45)) (some 59) (.int .i64 v46)) h47 (loopE (grabC 122 [(0, iP .i64), (6, pP), (58, iP .i64), (59, iP .i64)] (lC (C55).P (C55).yld c55_249 122 [(0, iP .i64), (6, pP), (58, iP .i64), (59, iP .i64)] (outE noE noE [(2, (grabC 122 [(0, iP .i64), (6, pP)] X2))]))) (outE noE noE [(2, (grabC 122 [(0, iP .i64), (6, pP)] X2))]))) = z55_249 X2 v43 v44 v45 v46 h47 := by kernel_rfl
theorem r55_249 (X2 : Int → Option Addr → Heap → Prop) (v43 : Int) (v44 : Option Addr) (v45 : Int) (v46 : Int) (h47 : Heap) (H : z55_249 X2 v43 v44 v45 v46 h47) : l55_249 X2 v43 v44 v45 v46 h47 := loop_stepE (p := 249) (N := 122) (keep := [(0, iP .i64), (6, pP), (58, iP .i64), (59, iP .i64)]) (o55) rfl s55_249 (k55_249 X2 v43 v44 v45 v46 h47) (by kernel_rfl) H
def z55_505 (XR : Option Addr → Int → Heap → Prop) (X8 : Option Addr → Heap → Prop) (v98 : Option Addr) (v99 : Int) (v100 : Int) (h101 : Heap) : Prop :=
 (branch (decide (v100 < v99))
 (Go.AM.get v98 fun a102 =>
 (chk (idx v100 40) <|
 (chk (idx v100 40) <|
 (Go.AM.get (asB (Heap.rd h101 ⟨a102.block, (((a102.off + 1) + ((Int.toNat v100) * 40)) + ((Int.toNat v100) * 1)), none⟩)) fun y103 =>
 (branch y103
 (XR none 41 h101)
 (l55_505 XR X8 v98 v99 (IntKind.wrap .i64 (v100 + 1)) h101))))))
 (X8 v98 h101))
theorem k55_505 (XR : Option Addr → Int → Heap → Prop) (X8 : Option Addr → Heap → Prop) (v98 : Option Addr) (v99 : Int) (v100 : Int) (h101 : Heap) : (exec (C55) c55_505 false 1011 (Fr.put (Fr.put (Fr.put (Fr0 122) (some 6) (.pointer v98)) (some 108) (.int .i64 v99)) (some 109) (.int .i64 v100)) h101 (loopE (grabC 122 [(6, pP), (108, iP .i64), (109, iP .i64)] (lC (C55).P (C55).yld c55_505 122 [(6, pP), (108, iP .i64), (109, iP .i64)] (outE noE (grabC 122 [(4, pP), (5, iP .i64)] XR) [(8, (grabC 122 [(6, pP)] X8))]))) (outE noE (grabC 122 [(4, pP), (5, iP .i64)] XR) [(8, (grabC 122 [(6, pP)] X8))]))) = z55_505 XR X8 v98 v99 v100 h101 := by kernel_rfl
theorem r55_505 (XR : Option Addr → Int → Heap → Prop) (X8 : Option Addr → Heap → Prop) (v98 : Option Addr) (v99 : Int) (v100 : Int) (h101 : Heap) (H : z55_505 XR X8 v98 v99 v100 h101) : l55_505 XR X8 v98 v99 v100 h101 := loop_stepE (p := 505) (N := 122) (keep := [(6, pP), (108, iP .i64), (109, iP .i64)]) (o55) rfl s55_505 (k55_505 XR X8 v98 v99 v100 h101) (by kernel_rfl) H
def z55 (p0 : Int) (p1 : Sl) (h : Heap) (K : Option Addr → Int → Heap → Prop) : Prop :=
 (branch (decide (p0 < 1))
 (K none 41 h)
 (branch (decide (p0 > 40))
 (K none 41 h)
 (branch (decide (((p1.len : Nat) : Int) > 400))
 (K none 41 h)
 (withH (Heap.new h (.cells ([(.int .i64 p0)] ++ List.replicate 1600 (.bool false)) false)) fun h2 =>
 (l55_121
 (fun z37 z38 h39 =>
 (K z37 z38 h39))
 (fun z40 z41 h42 =>
 (l55_249
 (fun z95 z96 h97 =>
 (l55_505
 (fun z104 z105 h106 =>
 (K z104 z105 h106))
 (fun z107 h108 =>
 (K z107 0 h108))
 z96 z95 0 h97))
 z40 z41 z40 0 h42))
 p0 (some ⟨h.next, 0, none⟩) p1 ((p1.len : Nat) : Int) 0 h2)))))
theorem k55 (p0 : Int) (p1 : Sl) (h : Heap) (K : Option Addr → Int → Heap → Prop) : fnK C55 Try.f55.results.toList Try.f55.ntmps b55 [(.int .i64 p0), (Sl.v p1)] h (outC [pP, iP .i64] K) = z55 p0 p1 h K := by kernel_rfl
theorem r55 (p0 : Int) (p1 : Sl) (h : Heap) (K : Option Addr → Int → Heap → Prop) (H : z55 p0 p1 h K) : t55 p0 p1 h K := fn_stepE (C := C55) (fn := Try.f55) (g := 55) o55 rfl rfl (by kernel_rfl) (by kernel_rfl) (by kernel_rfl) (k55 p0 p1 h K) (by kernel_rfl) H

/-! 56: (*minikin/pair.order).chained -/
noncomputable def b56 : Code := Try.f56.body.getD .skip
noncomputable def c56_121 : Code := (subN b56 243).getD .skip
theorem s56_121 : subN b56 243 = some c56_121 := by kernel_rfl
theorem sl56_121 : subN b56 121 = some (.loop c56_121) := by kernel_rfl
noncomputable def l56_121 (X2 : Option Addr → Option Addr → Option Addr → Option Addr → Heap → Prop) : Option Addr → Option Addr → Option Addr → Option Addr → Int → Heap → Prop := lC Try.prog none c56_121 45 [(0, pP), (2, pP), (3, pP), (4, pP), (23, iP .i64)] (outE noE noE [(2, (grabC 45 [(0, pP), (2, pP), (3, pP), (4, pP)] X2))])
noncomputable def c56_249 : Code := (subN b56 499).getD .skip
theorem s56_249 : subN b56 499 = some c56_249 := by kernel_rfl
theorem sl56_249 : subN b56 249 = some (.loop c56_249) := by kernel_rfl
noncomputable def l56_249 (X4 : Option Addr → Option Addr → Heap → Prop) : Option Addr → Option Addr → Option Addr → Int → Int → Heap → Prop := lC Try.prog none c56_249 45 [(2, pP), (3, pP), (4, pP), (34, iP .i64), (35, iP .i64)] (outE noE noE [(4, (grabC 45 [(2, pP), (3, pP)] X4))])
noncomputable def C56 : Ctx := baseC Try.prog [95, 75] none (cons1 72 w72 (allF Try.prog)) (cons1 90 wi90 (allI Try.prog)) (cons1 249 (gC 45 [(2, pP), (3, pP), (4, pP), (34, iP .i64), (35, iP .i64)] none none [(4, [(2, pP), (3, pP)])] (lC Try.prog none c56_249 45 [(2, pP), (3, pP), (4, pP), (34, iP .i64), (35, iP .i64)])) (cons1 121 (gC 45 [(0, pP), (2, pP), (3, pP), (4, pP), (23, iP .i64)] none none [(2, [(0, pP), (2, pP), (3, pP), (4, pP)])] (lC Try.prog none c56_121 45 [(0, pP), (2, pP), (3, pP), (4, pP), (23, iP .i64)])) none1))
theorem o56 : CtxOK (C56) b56 := (addL (addL (addI (addF (base_ok eqOK mixOK none b56) (wC_ok Try.prog 72 [pP] [cP 90 [pP]])) (wI_ok Try.prog 90 [pP] [iP .i64, iP .i64])) sl56_121) sl56_249)
def z56_121 (X2 : Option Addr → Option Addr → Option Addr → Option Addr → Heap → Prop) (v33 : Option Addr) (v34 : Option Addr) (v35 : Option Addr) (v36 : Option Addr) (v37 : Int) (h38 : Heap) : Prop :=
 (branch (decide (v37 < 40))
 (Go.AM.get v34 fun a39 =>
 (chk (idx v37 40) <|
 (Go.AM.get (Heap.wr h38 ⟨a39.block, (a39.off + ((Int.toNat v37) * 1)), none⟩ [(.int .i64 (-1))]) fun h40 =>
 (Go.AM.get v35 fun a41 =>
 (chk (idx v37 40) <|
 (Go.AM.get (Heap.wr h40 ⟨a41.block, (a41.off + ((Int.toNat v37) * 1)), none⟩ [(.int .i64 (-1))]) fun h42 =>
 (l56_121 X2 v33 v34 v35 v36 (IntKind.wrap .i64 (v37 + 1)) h42)))))))
 (X2 v33 v34 v35 v36 h38))
theorem k56_121 (X2 : Option Addr → Option Addr → Option Addr → Option Addr → Heap → Prop) (v33 : Option Addr) (v34 : Option Addr) (v35 : Option Addr) (v36 : Option Addr) (v37 : Int) (h38 : Heap) : (exec (C56) c56_121 false 243 (Fr.put (Fr.put (Fr.put (Fr.put (Fr.put (Fr0 45) (some 0) (.pointer v33)) (some 2) (.pointer v34)) (some 3) (.pointer v35)) (some 4) (.pointer v36)) (some 23) (.int .i64 v37)) h38 (loopE (grabC 45 [(0, pP), (2, pP), (3, pP), (4, pP), (23, iP .i64)] (lC (C56).P (C56).yld c56_121 45 [(0, pP), (2, pP), (3, pP), (4, pP), (23, iP .i64)] (outE noE noE [(2, (grabC 45 [(0, pP), (2, pP), (3, pP), (4, pP)] X2))]))) (outE noE noE [(2, (grabC 45 [(0, pP), (2, pP), (3, pP), (4, pP)] X2))]))) = z56_121 X2 v33 v34 v35 v36 v37 h38 := by kernel_rfl
theorem r56_121 (X2 : Option Addr → Option Addr → Option Addr → Option Addr → Heap → Prop) (v33 : Option Addr) (v34 : Option Addr) (v35 : Option Addr) (v36 : Option Addr) (v37 : Int) (h38 : Heap) (H : z56_121 X2 v33 v34 v35 v36 v37 h38) : l56_121 X2 v33 v34 v35 v36 v37 h38 := loop_stepE (p := 121) (N := 45) (keep := [(0, pP), (2, pP), (3, pP), (4, pP), (23, iP .i64)]) (o56) rfl s56_121 (k56_121 X2 v33 v34 v35 v36 v37 h38) (by kernel_rfl) H
def z56_249 (X4 : Option Addr → Option Addr → Heap → Prop) (v57 : Option Addr) (v58 : Option Addr) (v59 : Option Addr) (v60 : Int) (v61 : Int) (h62 : Heap) : Prop :=
 (branch (decide (v61 < v60))
 (withH (Heap.new h62 (.cells (List.replicate 40 (.bool false)) false)) fun h63 =>
 (withH (Heap.new h63 (.cells [.nilFunc] false)) fun h64 =>
 (Go.AM.get (Heap.wr h64 ⟨h63.next, 0, none⟩ [(.func (.func 73) #[] ⟨[(.pointer v59), (.pointer (some ⟨h62.next, 0, none⟩)), (.pointer v58), (.pointer (some ⟨h63.next, 0, none⟩)), (.pointer v57)]⟩)]) fun h65 =>
 (Go.AM.get (Heap.rd h65 ⟨h63.next, 0, none⟩) fun y66 =>
 (callV (C56) y66 [(.int .i64 v61)] h65 (retK fun r67 h68 =>
 (l56_249 X4 v57 v58 v59 v60 (IntKind.wrap .i64 (v61 + 1)) h68)))))))
 (X4 v57 v58 h62))
theorem k56_249 (X4 : Option Addr → Option Addr → Heap → Prop) (v57 : Option Addr) (v58 : Option Addr) (v59 : Option Addr) (v60 : Int) (v61 : Int) (h62 : Heap) : (exec (C56) c56_249 false 499 (Fr.put (Fr.put (Fr.put (Fr.put (Fr.put (Fr0 45) (some 2) (.pointer v57)) (some 3) (.pointer v58)) (some 4) (.pointer v59)) (some 34) (.int .i64 v60)) (some 35) (.int .i64 v61)) h62 (loopE (grabC 45 [(2, pP), (3, pP), (4, pP), (34, iP .i64), (35, iP .i64)] (lC (C56).P (C56).yld c56_249 45 [(2, pP), (3, pP), (4, pP), (34, iP .i64), (35, iP .i64)] (outE noE noE [(4, (grabC 45 [(2, pP), (3, pP)] X4))]))) (outE noE noE [(4, (grabC 45 [(2, pP), (3, pP)] X4))]))) = z56_249 X4 v57 v58 v59 v60 v61 h62 := by kernel_rfl
theorem r56_249 (X4 : Option Addr → Option Addr → Heap → Prop) (v57 : Option Addr) (v58 : Option Addr) (v59 : Option Addr) (v60 : Int) (v61 : Int) (h62 : Heap) (H : z56_249 X4 v57 v58 v59 v60 v61 h62) : l56_249 X4 v57 v58 v59 v60 v61 h62 := loop_stepE (p := 249) (N := 45) (keep := [(2, pP), (3, pP), (4, pP), (34, iP .i64), (35, iP .i64)]) (o56) rfl s56_249 (k56_249 X4 v57 v58 v59 v60 v61 h62) (by kernel_rfl) H
def z56 (p0 : Option Addr) (h : Heap) (K : List Value → List Value → Heap → Prop) : Prop :=
 (withH (Heap.new h (.cells (List.replicate 40 (.int .i64 0)) false)) fun h3 =>
 (withH (Heap.new h3 (.cells (List.replicate 40 (.int .i64 0)) false)) fun h4 =>
 (withH (Heap.new h4 (.cells (List.replicate 40 (.slice none 0 0)) false)) fun h6 =>
 (t72 p0 h6 fun r21 h22 =>
 (ti90 h22.next r21.1 (Heap.new h22 .dead) (fun u23 u24 h25 k26 =>
 (chk (idx u23 40) <|
 (Go.AM.get (asS (Heap.rd h25 ⟨h4.next, (0 + ((Int.toNat u23) * 1)), none⟩)) fun y28 =>
 (withH (Heap.new h25 (.cells [(.int .i64 u24)] false)) fun h29 =>
 (Go.AM.get (Heap.rdN h29 ⟨h25.next, 0, none⟩ 1) fun y30 =>
 (Go.AM.get (Heap.app h29 1 8 y28 1 y30) fun r31 =>
 (chk (idx u23 40) <|
 (Go.AM.get (Heap.wr r31.2 ⟨h4.next, (0 + ((Int.toNat u23) * 1)), none⟩ [(Sl.v r31.1)]) fun h32 =>
 (k26 h32))))))))) fun h27 =>
 (l56_121
 (fun z48 z49 z50 z51 h52 =>
 (Go.AM.get z48 fun a55 =>
 (Go.AM.get (asI .i64 (Heap.rd h52 ⟨a55.block, a55.off, none⟩)) fun y56 =>
 (l56_249
 (fun z70 z71 h72 =>
 (Go.AM.get z70 fun a73 =>
 (Go.AM.get (Heap.rdN h72 a73 40) fun y74 =>
 (Go.AM.get z71 fun a75 =>
 (Go.AM.get (Heap.rdN h72 a75 40) fun y76 =>
 (Go.AM.get z70 fun a77 =>
 (chk (Nat.beq (List.length y74) 40 && List.all y74 Value.oneCell') <|
 (Go.AM.get (Heap.wr h72 a77 y74) fun h78 =>
 ((Go.AM.get z71 fun a79 =>
 (Go.AM.get (Heap.rdN h78 a79 40) fun y80 =>
 (((.agg ⟨y80⟩) : Value) = (.agg ⟨y76⟩)))) ∧ (Go.AM.get z71 fun a81 =>
 (chk (Nat.beq (List.length y76) 40 && List.all y76 Value.oneCell') <|
 (Go.AM.get (Heap.wr h78 a81 y76) fun h82 =>
 (Go.AM.get z70 fun a83 =>
 (Go.AM.get (Heap.rdN h82 a83 40) fun y84 =>
 (Go.AM.get z71 fun a85 =>
 (Go.AM.get (Heap.rdN h82 a85 40) fun y86 =>
 (K y84 y86 h82)))))))))))))))))
 z49 z50 z51 y56 0 h52))))
 p0 (some ⟨h.next, 0, none⟩) (some ⟨h3.next, 0, none⟩) (some ⟨h4.next, 0, none⟩) 0 h27))))))
theorem k56 (p0 : Option Addr) (h : Heap) (K : List Value → List Value → Heap → Prop) : fnK C56 Try.f56.results.toList Try.f56.ntmps b56 [(.pointer p0)] h (outC [lP, lP] K) = z56 p0 h K := by kernel_rfl
theorem r56 (p0 : Option Addr) (h : Heap) (K : List Value → List Value → Heap → Prop) (H : z56 p0 h K) : t56 p0 h K := fn_stepE (C := C56) (fn := Try.f56) (g := 56) o56 rfl rfl (by kernel_rfl) (by kernel_rfl) (by kernel_rfl) (k56 p0 h K) (by kernel_rfl) H

/-! 57: minikin/pair.Antichain$1 -/
noncomputable def b57 : Code := Try.f57.body.getD .skip
noncomputable def c57_1842 : Code := (subN b57 1842).getD .skip
theorem s57_1842 : subN b57 1842 = some c57_1842 := by kernel_rfl
noncomputable def q57_1842 (XN : Int → Option Addr → Option Addr → Option Addr → Option Addr → Option Addr → Int → Int → Heap → Prop) : Int → Option Addr → Option Addr → Option Addr → Option Addr → Option Addr → Int → Int → Int → Bool → Heap → Prop := qC Try.prog none c57_1842 47 [(0, iP .i64), (1, pP), (3, pP), (4, pP), (5, pP), (6, pP), (8, iP .i64), (12, iP .i64), (13, iP .i64), (29, bP)] (outE (grabC 47 [(0, iP .i64), (1, pP), (3, pP), (4, pP), (5, pP), (6, pP), (12, iP .i64), (13, iP .i64)] XN) noE [])
noncomputable def c57_13 : Code := (subN b57 27).getD .skip
theorem s57_13 : subN b57 27 = some c57_13 := by kernel_rfl
theorem sl57_13 : subN b57 13 = some (.loop c57_13) := by kernel_rfl
noncomputable def l57_13 (X0 : Heap → Prop) : Int → Option Addr → Option Addr → Option Addr → Option Addr → Option Addr → Int → Int → Heap → Prop := lC Try.prog none c57_13 47 [(0, iP .i64), (1, pP), (3, pP), (4, pP), (5, pP), (6, pP), (12, iP .i64), (13, iP .i64)] (outE noE noE [(0, (grabC 47 [] X0))])
noncomputable def C57 : Ctx := baseC Try.prog [95, 75] none (allF Try.prog) (allI Try.prog) (cons1 13 (gC 47 [(0, iP .i64), (1, pP), (3, pP), (4, pP), (5, pP), (6, pP), (12, iP .i64), (13, iP .i64)] none none [(0, [])] (lC Try.prog none c57_13 47 [(0, iP .i64), (1, pP), (3, pP), (4, pP), (5, pP), (6, pP), (12, iP .i64), (13, iP .i64)])) (cons1 1842 (gC 47 [(0, iP .i64), (1, pP), (3, pP), (4, pP), (5, pP), (6, pP), (8, iP .i64), (12, iP .i64), (13, iP .i64), (29, bP)] (some [(0, iP .i64), (1, pP), (3, pP), (4, pP), (5, pP), (6, pP), (12, iP .i64), (13, iP .i64)]) none [] (qC Try.prog none c57_1842 47 [(0, iP .i64), (1, pP), (3, pP), (4, pP), (5, pP), (6, pP), (8, iP .i64), (12, iP .i64), (13, iP .i64), (29, bP)])) none1))
theorem o57 : CtxOK (C57) b57 := (addL (addQ (base_ok eqOK mixOK none b57) s57_1842) sl57_13)
def z57_1842 (XN : Int → Option Addr → Option Addr → Option Addr → Option Addr → Option Addr → Int → Int → Heap → Prop) (v24 : Int) (v25 : Option Addr) (v26 : Option Addr) (v27 : Option Addr) (v28 : Option Addr) (v29 : Option Addr) (v30 : Int) (v31 : Int) (v32 : Int) (v33 : Bool) (h34 : Heap) : Prop :=
 (branch v33
 (Go.AM.get v27 fun a37 =>
 (chk (idx v30 40) <|
 (Go.AM.get (Heap.wr h34 ⟨a37.block, (a37.off + ((Int.toNat v30) * 1)), none⟩ [(.bool true)]) fun h38 =>
 (Go.AM.get v28 fun a41 =>
 (chk (idx v30 40) <|
 (Go.AM.get (asI .i64 (Heap.rd h38 ⟨a41.block, (a41.off + ((Int.toNat v30) * 1)), none⟩)) fun y42 =>
 (branch (decide (y42 ≥ 0))
 (Go.AM.get v25 fun a43 =>
 (chk (idx y42 40) <|
 (Go.AM.get (asB (Heap.rd h38 ⟨a43.block, (a43.off + ((Int.toNat y42) * 1)), none⟩)) fun y44 =>
 (branch (!y44)
 (Go.AM.get v29 fun a45 =>
 (Go.AM.get (Heap.rd h38 a45) fun y46 =>
 (callV (C57) y46 [(.int .i64 y42)] h38 (retK fun r47 h48 =>
 (XN v24 v25 v26 v27 v28 v29 v31 v32 h48)))))
 (XN v24 v25 v26 v27 v28 v29 v31 v32 h38)))))
 (XN v24 v25 v26 v27 v28 v29 v31 v32 h38))))))))
 (XN v24 v25 v26 v27 v28 v29 v31 v32 h34))
theorem k57_1842 (XN : Int → Option Addr → Option Addr → Option Addr → Option Addr → Option Addr → Int → Int → Heap → Prop) (v24 : Int) (v25 : Option Addr) (v26 : Option Addr) (v27 : Option Addr) (v28 : Option Addr) (v29 : Option Addr) (v30 : Int) (v31 : Int) (v32 : Int) (v33 : Bool) (h34 : Heap) : (exec (C57) c57_1842 true 1842 (Fr.put (Fr.put (Fr.put (Fr.put (Fr.put (Fr.put (Fr.put (Fr.put (Fr.put (Fr.put (Fr0 47) (some 0) (.int .i64 v24)) (some 1) (.pointer v25)) (some 3) (.pointer v26)) (some 4) (.pointer v27)) (some 5) (.pointer v28)) (some 6) (.pointer v29)) (some 8) (.int .i64 v30)) (some 12) (.int .i64 v31)) (some 13) (.int .i64 v32)) (some 29) (.bool v33)) h34 (outE (grabC 47 [(0, iP .i64), (1, pP), (3, pP), (4, pP), (5, pP), (6, pP), (12, iP .i64), (13, iP .i64)] XN) noE [])) = z57_1842 XN v24 v25 v26 v27 v28 v29 v30 v31 v32 v33 h34 := by kernel_rfl
theorem r57_1842 (XN : Int → Option Addr → Option Addr → Option Addr → Option Addr → Option Addr → Int → Int → Heap → Prop) (v24 : Int) (v25 : Option Addr) (v26 : Option Addr) (v27 : Option Addr) (v28 : Option Addr) (v29 : Option Addr) (v30 : Int) (v31 : Int) (v32 : Int) (v33 : Bool) (h34 : Heap) (H : z57_1842 XN v24 v25 v26 v27 v28 v29 v30 v31 v32 v33 h34) : q57_1842 XN v24 v25 v26 v27 v28 v29 v30 v31 v32 v33 h34 := piece_stepE (p := 1842) (o57) rfl s57_1842 (k57_1842 XN v24 v25 v26 v27 v28 v29 v30 v31 v32 v33 h34) (by kernel_rfl) H
def z57_13 (X0 : Heap → Prop) (v9 : Int) (v10 : Option Addr) (v11 : Option Addr) (v12 : Option Addr) (v13 : Option Addr) (v14 : Option Addr) (v15 : Int) (v16 : Int) (h17 : Heap) : Prop :=
 (branch (decide (v16 < v15))
 (Go.AM.get v11 fun a50 =>
 (Go.AM.get (asP (Heap.rd h17 a50)) fun y51 =>
 (Go.AM.get y51 fun a52 =>
 (chk (idx v9 40) <|
 (chk (idx v16 40) <|
 (Go.AM.get (asB (Heap.rd h17 ⟨a52.block, (((a52.off + 1) + ((Int.toNat v9) * 40)) + ((Int.toNat v16) * 1)), none⟩)) fun y53 =>
 (branch y53
 (Go.AM.get v12 fun a54 =>
 (chk (idx v16 40) <|
 (Go.AM.get (asB (Heap.rd h17 ⟨a54.block, (a54.off + ((Int.toNat v16) * 1)), none⟩)) fun y55 =>
 (q57_1842
 (fun z56 z57 z58 z59 z60 z61 z62 z63 h64 =>
 (l57_13 X0 z56 z57 z58 z59 z60 z61 z62 (IntKind.wrap .i64 (z63 + 1)) h64))
 v9 v10 v11 v12 v13 v14 v16 v15 v16 (!y55) h17))))
 (q57_1842
 (fun z65 z66 z67 z68 z69 z70 z71 z72 h73 =>
 (l57_13 X0 z65 z66 z67 z68 z69 z70 z71 (IntKind.wrap .i64 (z72 + 1)) h73))
 v9 v10 v11 v12 v13 v14 v16 v15 v16 false h17))))))))
 (X0 h17))
theorem k57_13 (X0 : Heap → Prop) (v9 : Int) (v10 : Option Addr) (v11 : Option Addr) (v12 : Option Addr) (v13 : Option Addr) (v14 : Option Addr) (v15 : Int) (v16 : Int) (h17 : Heap) : (exec (C57) c57_13 false 27 (Fr.put (Fr.put (Fr.put (Fr.put (Fr.put (Fr.put (Fr.put (Fr.put (Fr0 47) (some 0) (.int .i64 v9)) (some 1) (.pointer v10)) (some 3) (.pointer v11)) (some 4) (.pointer v12)) (some 5) (.pointer v13)) (some 6) (.pointer v14)) (some 12) (.int .i64 v15)) (some 13) (.int .i64 v16)) h17 (loopE (grabC 47 [(0, iP .i64), (1, pP), (3, pP), (4, pP), (5, pP), (6, pP), (12, iP .i64), (13, iP .i64)] (lC (C57).P (C57).yld c57_13 47 [(0, iP .i64), (1, pP), (3, pP), (4, pP), (5, pP), (6, pP), (12, iP .i64), (13, iP .i64)] (outE noE noE [(0, (grabC 47 [] X0))]))) (outE noE noE [(0, (grabC 47 [] X0))]))) = z57_13 X0 v9 v10 v11 v12 v13 v14 v15 v16 h17 := by kernel_rfl
theorem r57_13 (X0 : Heap → Prop) (v9 : Int) (v10 : Option Addr) (v11 : Option Addr) (v12 : Option Addr) (v13 : Option Addr) (v14 : Option Addr) (v15 : Int) (v16 : Int) (h17 : Heap) (H : z57_13 X0 v9 v10 v11 v12 v13 v14 v15 v16 h17) : l57_13 X0 v9 v10 v11 v12 v13 v14 v15 v16 h17 := loop_stepE (p := 13) (N := 47) (keep := [(0, iP .i64), (1, pP), (3, pP), (4, pP), (5, pP), (6, pP), (12, iP .i64), (13, iP .i64)]) (o57) rfl s57_13 (k57_13 X0 v9 v10 v11 v12 v13 v14 v15 v16 h17) (by kernel_rfl) H
def z57 (p0 : Int) (p1 : Option Addr) (p2 : Option Addr) (p3 : Option Addr) (p4 : Option Addr) (p5 : Option Addr) (p6 : Option Addr) (h : Heap) (K : Heap → Prop) : Prop :=
 (Go.AM.get p1 fun a3 =>
 (chk (idx p0 40) <|
 (Go.AM.get (Heap.wr h ⟨a3.block, (a3.off + ((Int.toNat p0) * 1)), none⟩ [(.bool true)]) fun h4 =>
 (Go.AM.get p2 fun a7 =>
 (Go.AM.get (asI .i64 (Heap.rd h4 a7)) fun y8 =>
 (l57_13
 (fun h74 =>
 (K h74))
 p0 p1 p3 p4 p5 p6 y8 0 h4))))))
theorem k57 (p0 : Int) (p1 : Option Addr) (p2 : Option Addr) (p3 : Option Addr) (p4 : Option Addr) (p5 : Option Addr) (p6 : Option Addr) (h : Heap) (K : Heap → Prop) : fnK C57 Try.f57.results.toList Try.f57.ntmps b57 [(.int .i64 p0), (.pointer p1), (.pointer p2), (.pointer p3), (.pointer p4), (.pointer p5), (.pointer p6)] h (outC [] K) = z57 p0 p1 p2 p3 p4 p5 p6 h K := by kernel_rfl
theorem r57 (p0 : Int) (p1 : Option Addr) (p2 : Option Addr) (p3 : Option Addr) (p4 : Option Addr) (p5 : Option Addr) (p6 : Option Addr) (h : Heap) (K : Heap → Prop) (H : z57 p0 p1 p2 p3 p4 p5 p6 h K) : t57 p0 p1 p2 p3 p4 p5 p6 h K := fn_stepE (C := C57) (fn := Try.f57) (g := 57) o57 rfl rfl (by kernel_rfl) (by kernel_rfl) (by kernel_rfl) (k57 p0 p1 p2 p3 p4 p5 p6 h K) (by kernel_rfl) H

/-! 58: (*minikin/pair.order).heights -/
noncomputable def b58 : Code := Try.f58.body.getD .skip
noncomputable def c58_57 : Code := (subN b58 115).getD .skip
theorem s58_57 : subN b58 115 = some c58_57 := by kernel_rfl
theorem sl58_57 : subN b58 57 = some (.loop c58_57) := by kernel_rfl
noncomputable def l58_57 (X0 : Option Addr → Option Addr → Heap → Prop) : Option Addr → Option Addr → Option Addr → Option Addr → Int → Int → Heap → Prop := lC Try.prog none c58_57 41 [(0, pP), (3, pP), (4, pP), (5, pP), (11, iP .i64), (12, iP .i64)] (outE noE noE [(0, (grabC 41 [(4, pP), (5, pP)] X0))])
noncomputable def C58 : Ctx := baseC Try.prog [95, 75] none (cons1 72 w72 (allF Try.prog)) (cons1 90 wi90 (allI Try.prog)) (cons1 57 (gC 41 [(0, pP), (3, pP), (4, pP), (5, pP), (11, iP .i64), (12, iP .i64)] none none [(0, [(4, pP), (5, pP)])] (lC Try.prog none c58_57 41 [(0, pP), (3, pP), (4, pP), (5, pP), (11, iP .i64), (12, iP .i64)])) none1)
theorem o58 : CtxOK (C58) b58 := (addL (addI (addF (base_ok eqOK mixOK none b58) (wC_ok Try.prog 72 [pP] [cP 90 [pP]])) (wI_ok Try.prog 90 [pP] [iP .i64, iP .i64])) sl58_57)
def z58_57 (X0 : Option Addr → Option Addr → Heap → Prop) (v11 : Option Addr) (v12 : Option Addr) (v13 : Option Addr) (v14 : Option Addr) (v15 : Int) (v16 : Int) (h17 : Heap) : Prop :=
 (branch (decide (v16 < v15))
 (t72 v11 h17 fun r20 h21 =>
 (ti90 h21.next r20.1 (Heap.new h21 .dead) (fun u22 u23 h24 k25 =>
 (Go.AM.get v12 fun a29 =>
 (Go.AM.get (asB (Heap.rd h24 a29)) fun y30 =>
 (branch y30
 (Go.AM.get v14 fun a31 =>
 (chk (idx u23 40) <|
 (Go.AM.get (asI .i64 (Heap.rd h24 ⟨a31.block, (a31.off + ((Int.toNat u23) * 1)), none⟩)) fun y32 =>
 (Go.AM.get v14 fun a33 =>
 (chk (idx u22 40) <|
 (Go.AM.get (asI .i64 (Heap.rd h24 ⟨a33.block, (a33.off + ((Int.toNat u22) * 1)), none⟩)) fun y34 =>
 (Go.AM.get v14 fun a35 =>
 (chk (idx u23 40) <|
 (Go.AM.get (Heap.wr h24 ⟨a35.block, (a35.off + ((Int.toNat u23) * 1)), none⟩ [(.int .i64 (if (IntKind.wrap .i64 (y34 + 1)) > y32 then (IntKind.wrap .i64 (y34 + 1)) else y32))]) fun h36 =>
 (k25 h36))))))))))
 (Go.AM.get v14 fun a37 =>
 (chk (idx u22 40) <|
 (Go.AM.get (asI .i64 (Heap.rd h24 ⟨a37.block, (a37.off + ((Int.toNat u22) * 1)), none⟩)) fun y38 =>
 (Go.AM.get v14 fun a39 =>
 (chk (idx u23 40) <|
 (Go.AM.get (asI .i64 (Heap.rd h24 ⟨a39.block, (a39.off + ((Int.toNat u23) * 1)), none⟩)) fun y40 =>
 (Go.AM.get v14 fun a41 =>
 (chk (idx u22 40) <|
 (Go.AM.get (Heap.wr h24 ⟨a41.block, (a41.off + ((Int.toNat u22) * 1)), none⟩ [(.int .i64 (if (IntKind.wrap .i64 (y40 + 1)) > y38 then (IntKind.wrap .i64 (y40 + 1)) else y38))]) fun h42 =>
 (k25 h42)))))))))))))) fun h26 =>
 (l58_57 X0 v11 v12 v13 v14 v15 (IntKind.wrap .i64 (v16 + 1)) h26)))
 (X0 v13 v14 h17))
theorem k58_57 (X0 : Option Addr → Option Addr → Heap → Prop) (v11 : Option Addr) (v12 : Option Addr) (v13 : Option Addr) (v14 : Option Addr) (v15 : Int) (v16 : Int) (h17 : Heap) : (exec (C58) c58_57 false 115 (Fr.put (Fr.put (Fr.put (Fr.put (Fr.put (Fr.put (Fr0 41) (some 0) (.pointer v11)) (some 3) (.pointer v12)) (some 4) (.pointer v13)) (some 5) (.pointer v14)) (some 11) (.int .i64 v15)) (some 12) (.int .i64 v16)) h17 (loopE (grabC 41 [(0, pP), (3, pP), (4, pP), (5, pP), (11, iP .i64), (12, iP .i64)] (lC (C58).P (C58).yld c58_57 41 [(0, pP), (3, pP), (4, pP), (5, pP), (11, iP .i64), (12, iP .i64)] (outE noE noE [(0, (grabC 41 [(4, pP), (5, pP)] X0))]))) (outE noE noE [(0, (grabC 41 [(4, pP), (5, pP)] X0))]))) = z58_57 X0 v11 v12 v13 v14 v15 v16 h17 := by kernel_rfl
theorem r58_57 (X0 : Option Addr → Option Addr → Heap → Prop) (v11 : Option Addr) (v12 : Option Addr) (v13 : Option Addr) (v14 : Option Addr) (v15 : Int) (v16 : Int) (h17 : Heap) (H : z58_57 X0 v11 v12 v13 v14 v15 v16 h17) : l58_57 X0 v11 v12 v13 v14 v15 v16 h17 := loop_stepE (p := 57) (N := 41) (keep := [(0, pP), (3, pP), (4, pP), (5, pP), (11, iP .i64), (12, iP .i64)]) (o58) rfl s58_57 (k58_57 X0 v11 v12 v13 v14 v15 v16 h17) (by kernel_rfl) H
def z58 (p0 : Option Addr) (p1 : Bool) (h : Heap) (K : List Value → Heap → Prop) : Prop :=
 (withH (Heap.new h (.cells [(.bool p1)] false)) fun h3 =>
 (withH (Heap.new h3 (.cells (List.replicate 40 (.int .i64 0)) false)) fun h4 =>
 (withH (Heap.new h4 (.cells (List.replicate 40 (.int .i64 0)) false)) fun h6 =>
 (Go.AM.get p0 fun a9 =>
 (Go.AM.get (asI .i64 (Heap.rd h6 ⟨a9.block, a9.off, none⟩)) fun y10 =>
 (l58_57
 (fun z43 z44 h45 =>
 (Go.AM.get z44 fun a46 =>
 (Go.AM.get (Heap.rdN h45 a46 40) fun y47 =>
 (Go.AM.get z43 fun a48 =>
 (chk (Nat.beq (List.length y47) 40 && List.all y47 Value.oneCell') <|
 (Go.AM.get (Heap.wr h45 a48 y47) fun h49 =>
 (Go.AM.get z43 fun a50 =>
 (Go.AM.get (Heap.rdN h49 a50 40) fun y51 =>
 (K y51 h49)))))))))
 p0 (some ⟨h.next, 0, none⟩) (some ⟨h3.next, 0, none⟩) (some ⟨h4.next, 0, none⟩) y10 0 h6))))))
theorem k58 (p0 : Option Addr) (p1 : Bool) (h : Heap) (K : List Value → Heap → Prop) : fnK C58 Try.f58.results.toList Try.f58.ntmps b58 [(.pointer p0), (.bool p1)] h (outC [lP] K) = z58 p0 p1 h K := by kernel_rfl
theorem r58 (p0 : Option Addr) (p1 : Bool) (h : Heap) (K : List Value → Heap → Prop) (H : z58 p0 p1 h K) : t58 p0 p1 h K := fn_stepE (C := C58) (fn := Try.f58) (g := 58) o58 rfl rfl (by kernel_rfl) (by kernel_rfl) (by kernel_rfl) (k58 p0 p1 h K) (by kernel_rfl) H

end Go.Proofs.Ytalmoilcehhjkaa
