/- PRINTED BY A PROGRAM OF OURS: what the functions do, step by step, and that the model says so. -/
import Derived.Test.YtalmoilcehhjkaaHeads
set_option linter.unusedVariables false
set_option linter.unusedSimpArgs false
namespace Go.Proofs.Ytalmoilcehhjkaa
open Go hiding Expr
open Go.AM hiding get
/-! 32: minikin/minikinref04.Check -/
noncomputable def b32 : Code := Try.f32.body.getD .skip
noncomputable def c32_14925 : Code := (subN b32 29851).getD .skip
theorem s32_14925 : subN b32 29851 = some c32_14925 := by kernel_rfl
theorem sl32_14925 : subN b32 14925 = some (.loop c32_14925) := by kernel_rfl
noncomputable def l32_14925 (XR : Int → Heap → Prop) (X2 : Option Addr → Int → Heap → Prop) : Option Addr → Int → Int → Int → Int → Heap → Prop := lC Try.prog none c32_14925 88 [(1, pP), (3, iP .i64), (4, iP .i64), (5, iP .i64), (6, iP .i64)] (outE noE (grabC 88 [(2, iP .i64)] XR) [(2, (grabC 88 [(1, pP), (3, iP .i64)] X2))])
noncomputable def c32_57 : Code := (subN b32 115).getD .skip
theorem s32_57 : subN b32 115 = some c32_57 := by kernel_rfl
theorem sl32_57 : subN b32 57 = some (.loop c32_57) := by kernel_rfl
noncomputable def l32_57 (XR : Int → Heap → Prop) (X0 : Heap → Prop) : Option Addr → Int → Heap → Prop := lC Try.prog none c32_57 88 [(1, pP), (3, iP .i64)] (outE noE (grabC 88 [(2, iP .i64)] XR) [(0, (grabC 88 [] X0))])
noncomputable def C32 : Ctx := baseC Try.prog [95, 75] none (allF Try.prog) (allI Try.prog) (cons1 57 (gC 88 [(1, pP), (3, iP .i64)] none (some [(2, iP .i64)]) [(0, [])] (lC Try.prog none c32_57 88 [(1, pP), (3, iP .i64)])) (cons1 14925 (gC 88 [(1, pP), (3, iP .i64), (4, iP .i64), (5, iP .i64), (6, iP .i64)] none (some [(2, iP .i64)]) [(2, [(1, pP), (3, iP .i64)])] (lC Try.prog none c32_14925 88 [(1, pP), (3, iP .i64), (4, iP .i64), (5, iP .i64), (6, iP .i64)])) none1))
theorem o32 : CtxOK (C32) b32 := (addL (addL (base_ok eqOK mixOK none b32) sl32_14925) sl32_57)
def z32_14925 (XR : Int → Heap → Prop) (X2 : Option Addr → Int → Heap → Prop) (v44 : Option Addr) (v45 : Int) (v46 : Int) (v47 : Int) (v48 : Int) (h49 : Heap) : Prop :=
 (branch (decide (v48 < v45))
 (Go.AM.get v44 fun a50 =>
 (Go.AM.get (asS (Heap.rd h49 ⟨a50.block, (a50.off + 1), none⟩)) fun y51 =>
 (Go.AM.get y51.a fun a52 =>
 (chk (idx v48 y51.len) <|
 (Go.AM.get (asI .i64 (Heap.rd h49 ⟨a52.block, (a52.off + ((Int.toNat v48) * 2)), none⟩)) fun y53 =>
 (Go.AM.get (asI .i64 (Heap.rd h49 ⟨a52.block, ((a52.off + ((Int.toNat v48) * 2)) + 1), none⟩)) fun y54 =>
 (branch ((y53 == v46) && ((y54 == v47) && true))
 (XR 40 h49)
 (Go.AM.get v44 fun a55 =>
 (Go.AM.get (asS (Heap.rd h49 ⟨a55.block, (a55.off + 1), none⟩)) fun y56 =>
 (Go.AM.get y56.a fun a57 =>
 (chk (idx v48 y56.len) <|
 (Go.AM.get (asI .i64 (Heap.rd h49 ⟨a57.block, (a57.off + ((Int.toNat v48) * 2)), none⟩)) fun y58 =>
 (Go.AM.get (asI .i64 (Heap.rd h49 ⟨a57.block, ((a57.off + ((Int.toNat v48) * 2)) + 1), none⟩)) fun y59 =>
 (branch ((y58 == v47) && ((y59 == v46) && true))
 (XR 40 h49)
 (l32_14925 XR X2 v44 v45 v46 v47 (IntKind.wrap .i64 (v48 + 1)) h49)))))))))))))))
 (X2 v44 v45 h49))
theorem k32_14925 (XR : Int → Heap → Prop) (X2 : Option Addr → Int → Heap → Prop) (v44 : Option Addr) (v45 : Int) (v46 : Int) (v47 : Int) (v48 : Int) (h49 : Heap) : (exec (C32) c32_14925 false 29851 (Fr.put (Fr.put (Fr.put (Fr.put (Fr.put (Fr0 88) (some 1) (.pointer v44)) (some 3) (.int .i64 v45)) (some 4) (.int .i64 v46)) (some 5) (.int .i64 v47)) (some 6) (.int .i64 v48)) h49 (loopE (grabC 88 [(1, pP), (3, iP .i64), (4, iP .i64), (5, iP .i64), (6, iP .i64)] (lC (C32).P (C32).yld c32_14925 88 [(1, pP), (3, iP .i64), (4, iP .i64), (5, iP .i64), (6, iP .i64)] (outE noE (grabC 88 [(2, iP .i64)] XR) [(2, (grabC 88 [(1, pP), (3, iP .i64)] X2))]))) (outE noE (grabC 88 [(2, iP .i64)] XR) [(2, (grabC 88 [(1, pP), (3, iP .i64)] X2))]))) = z32_14925 XR X2 v44 v45 v46 v47 v48 h49 := by kernel_rfl
theorem r32_14925 (XR : Int → Heap → Prop) (X2 : Option Addr → Int → Heap → Prop) (v44 : Option Addr) (v45 : Int) (v46 : Int) (v47 : Int) (v48 : Int) (h49 : Heap) (H : z32_14925 XR X2 v44 v45 v46 v47 v48 h49) : l32_14925 XR X2 v44 v45 v46 v47 v48 h49 := loop_stepE (p := 14925) (N := 88) (keep := [(1, pP), (3, iP .i64), (4, iP .i64), (5, iP .i64), (6, iP .i64)]) (o32) rfl s32_14925 (k32_14925 XR X2 v44 v45 v46 v47 v48 h49) (by kernel_rfl) H
def z32_57 (XR : Int → Heap → Prop) (X0 : Heap → Prop) (v9 : Option Addr) (v10 : Int) (h11 : Heap) : Prop :=
 (Go.AM.get v9 fun a14 =>
 (Go.AM.get (asS (Heap.rd h11 ⟨a14.block, (a14.off + 1), none⟩)) fun y15 =>
 (branch (decide (v10 < ((y15.len : Nat) : Int)))
 (Go.AM.get v9 fun a26 =>
 (Go.AM.get (asS (Heap.rd h11 ⟨a26.block, (a26.off + 1), none⟩)) fun y27 =>
 (Go.AM.get y27.a fun a28 =>
 (chk (idx v10 y27.len) <|
 (Go.AM.get (asI .i64 (Heap.rd h11 ⟨a28.block, (a28.off + ((Int.toNat v10) * 2)), none⟩)) fun y29 =>
 (Go.AM.get v9 fun a30 =>
 (Go.AM.get (asS (Heap.rd h11 ⟨a30.block, (a30.off + 1), none⟩)) fun y31 =>
 (Go.AM.get y31.a fun a32 =>
 (chk (idx v10 y31.len) <|
 (Go.AM.get (asI .i64 (Heap.rd h11 ⟨a32.block, ((a32.off + ((Int.toNat v10) * 2)) + 1), none⟩)) fun y33 =>
 ((Go.AM.get (asI .i64 (Heap.rd h11 ⟨a32.block, ((a32.off + ((Int.toNat v10) * 2)) + 1), none⟩)) fun y34 =>
 (((.int .i64 y34) : Value) = (.int .i64 y33))) ∧ ((Go.AM.get (asS (Heap.rd h11 ⟨a30.block, (a30.off + 1), none⟩)) fun y35 =>
 (((Sl.v y35) : Value) = (Sl.v y31))) ∧ (branch (decide (y29 < 0))
 (XR 40 h11)
 (Go.AM.get v9 fun a40 =>
 (Go.AM.get (asI .i64 (Heap.rd h11 ⟨a40.block, a40.off, none⟩)) fun y41 =>
 (branch (decide (y29 ≥ y41))
 (XR 40 h11)
 (branch (decide (y33 < 0))
 (XR 40 h11)
 (Go.AM.get v9 fun a42 =>
 (Go.AM.get (asI .i64 (Heap.rd h11 ⟨a42.block, a42.off, none⟩)) fun y43 =>
 (branch (decide (y33 ≥ y43))
 (XR 40 h11)
 (branch (y29 == y33)
 (XR 40 h11)
 (l32_14925
 (fun z60 h61 =>
 (XR z60 h61))
 (fun z62 z63 h64 =>
 (l32_57 XR X0 z62 (IntKind.wrap .i64 (z63 + 1)) h64))
 v9 v10 y29 y33 0 h11))))))))))))))))))))))
 (X0 h11))))
theorem k32_57 (XR : Int → Heap → Prop) (X0 : Heap → Prop) (v9 : Option Addr) (v10 : Int) (h11 : Heap) : (exec (C32) c32_57 false 115 (Fr.put (Fr.put (Fr0 88) (some 1) (.pointer v9)) (some 3) (.int .i64 v10)) h11 (loopE (grabC 88 [(1, pP), (3, iP .i64)] (lC (C32).P (C32).yld c32_57 88 [(1, pP), (3, iP .i64)] (outE noE (grabC 88 [(2, iP .i64)] XR) [(0, (grabC 88 [] X0))]))) (outE noE (grabC 88 [(2, iP .i64)] XR) [(0, (grabC 88 [] X0))]))) = z32_57 XR X0 v9 v10 h11 := by kernel_rfl
theorem r32_57 (XR : Int → Heap → Prop) (X0 : Heap → Prop) (v9 : Option Addr) (v10 : Int) (h11 : Heap) (H : z32_57 XR X0 v9 v10 h11) : l32_57 XR X0 v9 v10 h11 := loop_stepE (p := 57) (N := 88) (keep := [(1, pP), (3, iP .i64)]) (o32) rfl s32_57 (k32_57 XR X0 v9 v10 h11) (by kernel_rfl) H
def z32 (p0 : (Int × Sl × Unit)) (h : Heap) (K : Int → Heap → Prop) : Prop :=
 (withH (Heap.new h (.cells [(.int .i64 p0.1), (Sl.v p0.2.1)] false)) fun h2 =>
 (Go.AM.get (asI .i64 (Heap.rd h2 ⟨h.next, 0, none⟩)) fun y6 =>
 (branch (decide (y6 < 1))
 (K 40 h2)
 (Go.AM.get (asI .i64 (Heap.rd h2 ⟨h.next, 0, none⟩)) fun y7 =>
 (branch (decide (y7 > 40))
 (K 40 h2)
 (Go.AM.get (asS (Heap.rd h2 ⟨h.next, 1, none⟩)) fun y8 =>
 (branch (decide (((y8.len : Nat) : Int) > 300))
 (K 40 h2)
 (l32_57
 (fun z65 h66 =>
 (K z65 h66))
 (fun h67 =>
 (K 0 h67))
 (some ⟨h.next, 0, none⟩) 0 h2))))))))
theorem k32 (p0 : (Int × Sl × Unit)) (h : Heap) (K : Int → Heap → Prop) : fnK C32 Try.f32.results.toList Try.f32.ntmps b32 [(.agg ⟨[(.int .i64 p0.1), (Sl.v p0.2.1)]⟩)] h (outC [iP .i64] K) = z32 p0 h K := by kernel_rfl
theorem r32 (p0 : (Int × Sl × Unit)) (h : Heap) (K : Int → Heap → Prop) (H : z32 p0 h K) : t32 p0 h K := fn_stepE (C := C32) (fn := Try.f32) (g := 32) o32 rfl rfl (by kernel_rfl) (by kernel_rfl) (by kernel_rfl) (k32 p0 h K) (by kernel_rfl) H

/-! 33: minikin/pair.Check -/
noncomputable def b33 : Code := Try.f33.body.getD .skip
noncomputable def c33_121 : Code := (subN b33 243).getD .skip
theorem s33_121 : subN b33 243 = some c33_121 := by kernel_rfl
theorem sl33_121 : subN b33 121 = some (.loop c33_121) := by kernel_rfl
noncomputable def l33_121 (XR : Int → Heap → Prop) (X0 : Heap → Prop) : Option Addr → Option Nat → Sl → Int → Int → Heap → Prop := lC Try.prog none c33_121 65 [(1, pP), (3, mP), (23, sP), (24, iP .i64), (25, iP .i64)] (outE noE (grabC 65 [(2, iP .i64)] XR) [(0, (grabC 65 [] X0))])
noncomputable def C33 : Ctx := baseC Try.prog [95, 75] none (allF Try.prog) (allI Try.prog) (cons1 121 (gC 65 [(1, pP), (3, mP), (23, sP), (24, iP .i64), (25, iP .i64)] none (some [(2, iP .i64)]) [(0, [])] (lC Try.prog none c33_121 65 [(1, pP), (3, mP), (23, sP), (24, iP .i64), (25, iP .i64)])) none1)
theorem o33 : CtxOK (C33) b33 := (addL (base_ok eqOK mixOK none b33) sl33_121)
def z33_121 (XR : Int → Heap → Prop) (X0 : Heap → Prop) (v13 : Option Addr) (v14 : Option Nat) (v15 : Sl) (v16 : Int) (v17 : Int) (h18 : Heap) : Prop :=
 (branch (decide (v17 < v16))
 (Go.AM.get v15.a fun a24 =>
 (chk (idx v17 v15.len) <|
 (Go.AM.get (asI .i64 (Heap.rd h18 ⟨a24.block, (a24.off + ((Int.toNat v17) * 2)), none⟩)) fun y25 =>
 (Go.AM.get (asI .i64 (Heap.rd h18 ⟨a24.block, ((a24.off + ((Int.toNat v17) * 2)) + 1), none⟩)) fun y26 =>
 (withH (Heap.new h18 (.cells [(.int .i64 0), (.int .i64 0)] false)) fun h27 =>
 (Go.AM.get (Heap.wr h27 ⟨h18.next, 0, none⟩ [(.int .i64 y25), (.int .i64 y26)]) fun h28 =>
 (Go.AM.get (asI .i64 (Heap.rd h28 ⟨h18.next, 0, none⟩)) fun y35 =>
 (Go.AM.get (asI .i64 (Heap.rd h28 ⟨h18.next, 1, none⟩)) fun y36 =>
 (Go.AM.get (asI .i64 (Heap.rd h28 ⟨h18.next, 0, none⟩)) fun y37 =>
 (Go.AM.get (asI .i64 (Heap.rd h28 ⟨h18.next, 1, none⟩)) fun y38 =>
 (withH (Heap.new h28 (.cells [(.int .i64 0), (.int .i64 0)] false)) fun h39 =>
 (Go.AM.get (Heap.wr h39 ⟨h28.next, 0, none⟩ [(.int .i64 (if y36 < y35 then y36 else y35)), (.int .i64 (if y38 > y37 then y38 else y37))]) fun h40 =>
 (Go.AM.get (asI .i64 (Heap.rd h40 ⟨h28.next, 0, none⟩)) fun y41 =>
 (branch (decide (y41 < 0))
 (XR 40 h40)
 (Go.AM.get (asI .i64 (Heap.rd h40 ⟨h28.next, 1, none⟩)) fun y42 =>
 (Go.AM.get v13 fun a43 =>
 (Go.AM.get (asI .i64 (Heap.rd h40 ⟨a43.block, a43.off, none⟩)) fun y44 =>
 (branch (decide (y42 ≥ y44))
 (XR 40 h40)
 (Go.AM.get (asI .i64 (Heap.rd h40 ⟨h28.next, 0, none⟩)) fun y45 =>
 (Go.AM.get (asI .i64 (Heap.rd h40 ⟨h28.next, 1, none⟩)) fun y46 =>
 (branch (y45 == y46)
 (XR 40 h40)
 (Go.AM.get (asI .i64 (Heap.rd h40 ⟨h28.next, 0, none⟩)) fun y47 =>
 (Go.AM.get (asI .i64 (Heap.rd h40 ⟨h28.next, 1, none⟩)) fun y48 =>
 (Go.AM.get v14 fun m49 =>
 (Go.AM.get (Heap.mp h40 m49) fun e50 =>
 Go.AM.get (findV Try.prog [95, 75] 95 (.agg ⟨[(.int .i64 y47), (.int .i64 y48)]⟩) e50 0) fun r51 =>
 (Go.AM.get (asB (some ((Option.map (·.2) r51).getD (.bool false)))) fun y52 =>
 (branch y52
 (XR 40 h40)
 (Go.AM.get (asI .i64 (Heap.rd h40 ⟨h28.next, 0, none⟩)) fun y53 =>
 (Go.AM.get (asI .i64 (Heap.rd h40 ⟨h28.next, 1, none⟩)) fun y54 =>
 (Go.AM.get v14 fun m55 =>
 (Go.AM.get (Heap.mp h40 m55) fun e56 =>
 Go.AM.get (findV Try.prog [95, 75] 95 (.agg ⟨[(.int .i64 y53), (.int .i64 y54)]⟩) e56 0) fun r57 =>
 optK r57
 (withH (Heap.put h40 m55 (.map (e56 ++ [((.agg ⟨[(.int .i64 y53), (.int .i64 y54)]⟩), (.bool true))]))) fun h59 => (l33_121 XR X0 v13 v14 v15 v16 (IntKind.wrap .i64 (v17 + 1)) h59))
 fun p58 => (withH (Heap.put h40 m55 (.map (setAt e56 p58.1 (.agg ⟨[(.int .i64 y53), (.int .i64 y54)]⟩) (.bool true)))) fun h60 => (l33_121 XR X0 v13 v14 v15 v16 (IntKind.wrap .i64 (v17 + 1)) h60)))))))))))))))))))))))))))))))))
 (X0 h18))
theorem k33_121 (XR : Int → Heap → Prop) (X0 : Heap → Prop) (v13 : Option Addr) (v14 : Option Nat) (v15 : Sl) (v16 : Int) (v17 : Int) (h18 : Heap) : (exec (C33) c33_121 false 243 (Fr.put (Fr.put (Fr.put (Fr.put (Fr.put (Fr0 65) (some 1) (.pointer v13)) (some 3) (.map v14)) (some 23) (Sl.v v15)) (some 24) (.int .i64 v16)) (some 25) (.int .i64 v17)) h18 (loopE (grabC 65 [(1, pP), (3, mP), (23, sP), (24, iP .i64), (25, iP .i64)] (lC (C33).P (C33).yld c33_121 65 [(1, pP), (3, mP), (23, sP), (24, iP .i64), (25, iP .i64)] (outE noE (grabC 65 [(2, iP .i64)] XR) [(0, (grabC 65 [] X0))]))) (outE noE (grabC 65 [(2, iP .i64)] XR) [(0, (grabC 65 [] X0))]))) = z33_121 XR X0 v13 v14 v15 v16 v17 h18 := by kernel_rfl
theorem r33_121 (XR : Int → Heap → Prop) (X0 : Heap → Prop) (v13 : Option Addr) (v14 : Option Nat) (v15 : Sl) (v16 : Int) (v17 : Int) (h18 : Heap) (H : z33_121 XR X0 v13 v14 v15 v16 v17 h18) : l33_121 XR X0 v13 v14 v15 v16 v17 h18 := loop_stepE (p := 121) (N := 65) (keep := [(1, pP), (3, mP), (23, sP), (24, iP .i64), (25, iP .i64)]) (o33) rfl s33_121 (k33_121 XR X0 v13 v14 v15 v16 v17 h18) (by kernel_rfl) H
def z33 (p0 : (Int × Sl × Unit)) (h : Heap) (K : Int → Heap → Prop) : Prop :=
 (withH (Heap.new h (.cells [(.int .i64 p0.1), (Sl.v p0.2.1)] false)) fun h2 =>
 (Go.AM.get (asI .i64 (Heap.rd h2 ⟨h.next, 0, none⟩)) fun y6 =>
 (branch (decide (y6 < 1))
 (K 40 h2)
 (Go.AM.get (asI .i64 (Heap.rd h2 ⟨h.next, 0, none⟩)) fun y7 =>
 (branch (decide (y7 > 40))
 (K 40 h2)
 (Go.AM.get (asS (Heap.rd h2 ⟨h.next, 1, none⟩)) fun y8 =>
 (branch (decide (((y8.len : Nat) : Int) > 300))
 (K 40 h2)
 (withH (Heap.new h2 (.map [])) fun h10 =>
 (Go.AM.get (asS (Heap.rd h10 ⟨h.next, 1, none⟩)) fun y12 =>
 (l33_121
 (fun z61 h62 =>
 (K z61 h62))
 (fun h63 =>
 (K 0 h63))
 (some ⟨h.next, 0, none⟩) (some h2.next) y12 ((y12.len : Nat) : Int) 0 h10))))))))))
theorem k33 (p0 : (Int × Sl × Unit)) (h : Heap) (K : Int → Heap → Prop) : fnK C33 Try.f33.results.toList Try.f33.ntmps b33 [(.agg ⟨[(.int .i64 p0.1), (Sl.v p0.2.1)]⟩)] h (outC [iP .i64] K) = z33 p0 h K := by kernel_rfl
theorem r33 (p0 : (Int × Sl × Unit)) (h : Heap) (K : Int → Heap → Prop) (H : z33 p0 h K) : t33 p0 h K := fn_stepE (C := C33) (fn := Try.f33) (g := 33) o33 rfl rfl (by kernel_rfl) (by kernel_rfl) (by kernel_rfl) (k33 p0 h K) (by kernel_rfl) H

/-! 34: minikin/pair.Barrier -/
noncomputable def b34 : Code := Try.f34.body.getD .skip
noncomputable def C34 : Ctx := baseC Try.prog [95, 75] none (cons1 16 w16 (allF Try.prog)) (allI Try.prog) none1
theorem o34 : CtxOK (C34) b34 := (addF (base_ok eqOK mixOK none b34) (wC_ok Try.prog 16 [aggP [iP .i64, sP]] [aggP [sP, sP, sP], iP .i64]))
def z34 (p0 : (Int × Sl × Unit)) (h : Heap) (K : Sl → Int → Heap → Prop) : Prop :=
 (withH (Heap.new h (.cells [(.int .i64 p0.1), (Sl.v p0.2.1)] false)) fun h2 =>
 (Go.AM.get (asI .i64 (Heap.rd h2 ⟨h.next, 0, none⟩)) fun y3 =>
 (Go.AM.get (asS (Heap.rd h2 ⟨h.next, 1, none⟩)) fun y4 =>
 (t16 (y3, y4, ()) h2 fun r5 r6 h7 =>
 (withH (Heap.new h7 (.cells [(.slice none 0 0), (.slice none 0 0), (.slice none 0 0)] false)) fun h8 =>
 (Go.AM.get (Heap.wr h8 ⟨h7.next, 0, none⟩ [(Sl.v r5.1), (Sl.v r5.2.1), (Sl.v r5.2.2.1)]) fun h9 =>
 (Go.AM.get (asS (Heap.rd h9 ⟨h7.next, 1, none⟩)) fun y10 =>
 (K y10 r6 h9))))))))
theorem k34 (p0 : (Int × Sl × Unit)) (h : Heap) (K : Sl → Int → Heap → Prop) : fnK C34 Try.f34.results.toList Try.f34.ntmps b34 [(.agg ⟨[(.int .i64 p0.1), (Sl.v p0.2.1)]⟩)] h (outC [sP, iP .i64] K) = z34 p0 h K := by kernel_rfl
theorem r34 (p0 : (Int × Sl × Unit)) (h : Heap) (K : Sl → Int → Heap → Prop) (H : z34 p0 h K) : t34 p0 h K := fn_stepE (C := C34) (fn := Try.f34) (g := 34) o34 rfl rfl (by kernel_rfl) (by kernel_rfl) (by kernel_rfl) (k34 p0 h K) (by kernel_rfl) H

/-! 35: minikin/pair.Cover -/
noncomputable def b35 : Code := Try.f35.body.getD .skip
noncomputable def c35_8185 : Code := (subN b35 16371).getD .skip
theorem s35_8185 : subN b35 16371 = some c35_8185 := by kernel_rfl
theorem sl35_8185 : subN b35 8185 = some (.loop c35_8185) := by kernel_rfl
noncomputable def l35_8185 (X0 : Option Addr → Sl → Option Addr → Option Addr → Heap → Prop) : Option Addr → Sl → Option Addr → Option Addr → Option Addr → Option Addr → Int → Int → Heap → Prop := lC Try.prog none c35_8185 76 [(1, pP), (2, sP), (6, pP), (7, pP), (8, pP), (9, pP), (30, iP .i64), (31, iP .i64)] (outE noE noE [(0, (grabC 76 [(1, pP), (2, sP), (6, pP), (8, pP)] X0))])
noncomputable def c35_16377 : Code := (subN b35 32755).getD .skip
theorem s35_16377 : subN b35 32755 = some c35_16377 := by kernel_rfl
theorem sl35_16377 : subN b35 16377 = some (.loop c35_16377) := by kernel_rfl
noncomputable def l35_16377 (X2 : Sl → Heap → Prop) : Sl → Option Addr → Option Addr → Int → Int → Heap → Prop := lC Try.prog none c35_16377 76 [(2, sP), (6, pP), (8, pP), (58, iP .i64), (59, iP .i64)] (outE noE noE [(2, (grabC 76 [(2, sP)] X2))])
noncomputable def C35 : Ctx := baseC Try.prog [95, 75] none (cons1 50 w50 (cons1 49 w49 (cons1 60 w60 (cons1 33 w33 (allF Try.prog))))) (allI Try.prog) (cons1 16377 (gC 76 [(2, sP), (6, pP), (8, pP), (58, iP .i64), (59, iP .i64)] none none [(2, [(2, sP)])] (lC Try.prog none c35_16377 76 [(2, sP), (6, pP), (8, pP), (58, iP .i64), (59, iP .i64)])) (cons1 8185 (gC 76 [(1, pP), (2, sP), (6, pP), (7, pP), (8, pP), (9, pP), (30, iP .i64), (31, iP .i64)] none none [(0, [(1, pP), (2, sP), (6, pP), (8, pP)])] (lC Try.prog none c35_8185 76 [(1, pP), (2, sP), (6, pP), (7, pP), (8, pP), (9, pP), (30, iP .i64), (31, iP .i64)])) none1))
theorem o35 : CtxOK (C35) b35 := (addL (addL (addF (addF (addF (addF (base_ok eqOK mixOK none b35) (wC_ok Try.prog 33 [aggP [iP .i64, sP]] [iP .i64])) (wC_ok Try.prog 60 [aggP [iP .i64, sP]] [lP, bP])) (wC_ok Try.prog 49 [aggP [iP .i64, sP], iP .i64] [pP])) (wC_ok Try.prog 50 [pP] [iP .i64])) sl35_8185) sl35_16377)
def z35_8185 (X0 : Option Addr → Sl → Option Addr → Option Addr → Heap → Prop) (v55 : Option Addr) (v56 : Sl) (v57 : Option Addr) (v58 : Option Addr) (v59 : Option Addr) (v60 : Option Addr) (v61 : Int) (v62 : Int) (h63 : Heap) : Prop :=
 (branch (decide (v62 < v61))
 (Go.AM.get v57 fun a64 =>
 (chk (idx v62 40) <|
 (Go.AM.get (asI .i64 (Heap.rd h63 ⟨a64.block, (a64.off + ((Int.toNat v62) * 1)), none⟩)) fun y65 =>
 (branch (y65 == 0)
 (Go.AM.get v58 fun a66 =>
 (Go.AM.get (asP (Heap.rd h63 a66)) fun y67 =>
 (Go.AM.get y67 fun a68 =>
 (chk (idx v62 40) <|
 (Go.AM.get (asI .i64 (Heap.rd h63 ⟨a68.block, ((a68.off + 41) + ((Int.toNat v62) * 1)), none⟩)) fun y69 =>
 (branch (decide (y69 < 0))
 (Go.AM.get v59 fun a70 =>
 (chk (idx v62 40) <|
 (Go.AM.get (asB (Heap.rd h63 ⟨a70.block, (a70.off + ((Int.toNat v62) * 1)), none⟩)) fun y71 =>
 (branch (!y71)
 (Go.AM.get v60 fun a72 =>
 (Go.AM.get (Heap.rd h63 a72) fun y73 =>
 (callV (C35) y73 [(.int .i64 v62)] h63 (retK fun r74 h75 =>
 (l35_8185 X0 v55 v56 v57 v58 v59 v60 v61 (IntKind.wrap .i64 (v62 + 1)) h75)))))
 (l35_8185 X0 v55 v56 v57 v58 v59 v60 v61 (IntKind.wrap .i64 (v62 + 1)) h63)))))
 (l35_8185 X0 v55 v56 v57 v58 v59 v60 v61 (IntKind.wrap .i64 (v62 + 1)) h63)))))))
 (l35_8185 X0 v55 v56 v57 v58 v59 v60 v61 (IntKind.wrap .i64 (v62 + 1)) h63)))))
 (X0 v55 v56 v57 v59 h63))
theorem k35_8185 (X0 : Option Addr → Sl → Option Addr → Option Addr → Heap → Prop) (v55 : Option Addr) (v56 : Sl) (v57 : Option Addr) (v58 : Option Addr) (v59 : Option Addr) (v60 : Option Addr) (v61 : Int) (v62 : Int) (h63 : Heap) : (exec (C35) c35_8185 false 16371 (Fr.put (Fr.put (Fr.put (Fr.put (Fr.put (Fr.put (Fr.put (Fr.put (Fr0 76) (some 1) (.pointer v55)) (some 2) (Sl.v v56)) (some 6) (.pointer v57)) (some 7) (.pointer v58)) (some 8) (.pointer v59)) (some 9) (.pointer v60)) (some 30) (.int .i64 v61)) (some 31) (.int .i64 v62)) h63 (loopE (grabC 76 [(1, pP), (2, sP), (6, pP), (7, pP), (8, pP), (9, pP), (30, iP .i64), (31, iP .i64)] (lC (C35).P (C35).yld c35_8185 76 [(1, pP), (2, sP), (6, pP), (7, pP), (8, pP), (9, pP), (30, iP .i64), (31, iP .i64)] (outE noE noE [(0, (grabC 76 [(1, pP), (2, sP), (6, pP), (8, pP)] X0))]))) (outE noE noE [(0, (grabC 76 [(1, pP), (2, sP), (6, pP), (8, pP)] X0))]))) = z35_8185 X0 v55 v56 v57 v58 v59 v60 v61 v62 h63 := by kernel_rfl
theorem r35_8185 (X0 : Option Addr → Sl → Option Addr → Option Addr → Heap → Prop) (v55 : Option Addr) (v56 : Sl) (v57 : Option Addr) (v58 : Option Addr) (v59 : Option Addr) (v60 : Option Addr) (v61 : Int) (v62 : Int) (h63 : Heap) (H : z35_8185 X0 v55 v56 v57 v58 v59 v60 v61 v62 h63) : l35_8185 X0 v55 v56 v57 v58 v59 v60 v61 v62 h63 := loop_stepE (p := 8185) (N := 76) (keep := [(1, pP), (2, sP), (6, pP), (7, pP), (8, pP), (9, pP), (30, iP .i64), (31, iP .i64)]) (o35) rfl s35_8185 (k35_8185 X0 v55 v56 v57 v58 v59 v60 v61 v62 h63) (by kernel_rfl) H
def z35_16377 (X2 : Sl → Heap → Prop) (v92 : Sl) (v93 : Option Addr) (v94 : Option Addr) (v95 : Int) (v96 : Int) (h97 : Heap) : Prop :=
 (branch (decide (v96 < v95))
 (Go.AM.get v94 fun a102 =>
 (chk (idx v96 40) <|
 (Go.AM.get (asB (Heap.rd h97 ⟨a102.block, (a102.off + ((Int.toNat v96) * 1)), none⟩)) fun y103 =>
 (Go.AM.get v93 fun a104 =>
 (chk (idx v96 40) <|
 (Go.AM.get (asI .i64 (Heap.rd h97 ⟨a104.block, (a104.off + ((Int.toNat v96) * 1)), none⟩)) fun y105 =>
 (branch (y103 == (y105 == 1))
 (withH (Heap.new h97 (.cells [(.int .i64 v96)] false)) fun h106 =>
 (Go.AM.get (Heap.rdN h106 ⟨h97.next, 0, none⟩ 1) fun y107 =>
 (Go.AM.get (Heap.app h106 1 8 v92 1 y107) fun r108 =>
 (l35_16377 X2 r108.1 v93 v94 v95 (IntKind.wrap .i64 (v96 + 1)) r108.2))))
 (l35_16377 X2 v92 v93 v94 v95 (IntKind.wrap .i64 (v96 + 1)) h97))))))))
 (X2 v92 h97))
theorem k35_16377 (X2 : Sl → Heap → Prop) (v92 : Sl) (v93 : Option Addr) (v94 : Option Addr) (v95 : Int) (v96 : Int) (h97 : Heap) : (exec (C35) c35_16377 false 32755 (Fr.put (Fr.put (Fr.put (Fr.put (Fr.put (Fr0 76) (some 2) (Sl.v v92)) (some 6) (.pointer v93)) (some 8) (.pointer v94)) (some 58) (.int .i64 v95)) (some 59) (.int .i64 v96)) h97 (loopE (grabC 76 [(2, sP), (6, pP), (8, pP), (58, iP .i64), (59, iP .i64)] (lC (C35).P (C35).yld c35_16377 76 [(2, sP), (6, pP), (8, pP), (58, iP .i64), (59, iP .i64)] (outE noE noE [(2, (grabC 76 [(2, sP)] X2))]))) (outE noE noE [(2, (grabC 76 [(2, sP)] X2))]))) = z35_16377 X2 v92 v93 v94 v95 v96 h97 := by kernel_rfl
theorem r35_16377 (X2 : Sl → Heap → Prop) (v92 : Sl) (v93 : Option Addr) (v94 : Option Addr) (v95 : Int) (v96 : Int) (h97 : Heap) (H : z35_16377 X2 v92 v93 v94 v95 v96 h97) : l35_16377 X2 v92 v93 v94 v95 v96 h97 := loop_stepE (p := 16377) (N := 76) (keep := [(2, sP), (6, pP), (8, pP), (58, iP .i64), (59, iP .i64)]) (o35) rfl s35_16377 (k35_16377 X2 v92 v93 v94 v95 v96 h97) (by kernel_rfl) H
def z35 (p0 : (Int × Sl × Unit)) (h : Heap) (K : Sl → Bool → Int → Heap → Prop) : Prop :=
 (withH (Heap.new h (.cells [(.int .i64 p0.1), (Sl.v p0.2.1)] false)) fun h2 =>
 (Go.AM.get (asI .i64 (Heap.rd h2 ⟨h.next, 0, none⟩)) fun y11 =>
 (Go.AM.get (asS (Heap.rd h2 ⟨h.next, 1, none⟩)) fun y12 =>
 (t33 (y11, y12, ()) h2 fun r13 h14 =>
 (branch (r13 != 0)
 (K (Sl.mk none 0 0) false r13 h14)
 (Go.AM.get (asI .i64 (Heap.rd h14 ⟨h.next, 0, none⟩)) fun y22 =>
 (Go.AM.get (asS (Heap.rd h14 ⟨h.next, 1, none⟩)) fun y23 =>
 (t60 (y22, y23, ()) h14 fun r24 r25 h26 =>
 (withH (Heap.new h26 (.cells (List.replicate 40 (.int .i64 0)) false)) fun h27 =>
 (chk (Nat.beq (List.length r24) 40 && List.all r24 Value.oneCell') <|
 (Go.AM.get (Heap.wr h27 ⟨h26.next, 0, none⟩ r24) fun h28 =>
 (branch (!r25)
 (K (Sl.mk none 0 0) false 0 h28)
 (Go.AM.get (asI .i64 (Heap.rd h28 ⟨h.next, 0, none⟩)) fun y35 =>
 (Go.AM.get (asS (Heap.rd h28 ⟨h.next, 1, none⟩)) fun y36 =>
 (t49 (y35, y36, ()) (-1) h28 fun r37 h38 =>
 (withH (Heap.new h38 (.cells [(.pointer none)] false)) fun h39 =>
 (Go.AM.get (Heap.wr h39 ⟨h38.next, 0, none⟩ [(.pointer r37)]) fun h40 =>
 (Go.AM.get (asP (Heap.rd h40 ⟨h38.next, 0, none⟩)) fun y44 =>
 (t50 y44 h40 fun r45 h46 =>
 (withH (Heap.new h46 (.cells (List.replicate 40 (.bool false)) false)) fun h48 =>
 (withH (Heap.new h48 (.cells [.nilFunc] false)) fun h50 =>
 (Go.AM.get (Heap.wr h50 ⟨h48.next, 0, none⟩ [(.func (.func 61) #[] ⟨[(.pointer (some ⟨h46.next, 0, none⟩)), (.pointer (some ⟨h38.next, 0, none⟩)), (.pointer (some ⟨h48.next, 0, none⟩))]⟩)]) fun h52 =>
 (Go.AM.get (asI .i64 (Heap.rd h52 ⟨h.next, 0, none⟩)) fun y82 =>
 (l35_8185
 (fun z83 z84 z85 z86 h87 =>
 (Go.AM.get z83 fun a90 =>
 (Go.AM.get (asI .i64 (Heap.rd h87 ⟨a90.block, a90.off, none⟩)) fun y91 =>
 (l35_16377
 (fun z109 h110 =>
 (K z109 true 0 h110))
 z84 z85 z86 y91 0 h87))))
 (some ⟨h.next, 0, none⟩) (Sl.mk none 0 0) (some ⟨h26.next, 0, none⟩) (some ⟨h38.next, 0, none⟩) (some ⟨h46.next, 0, none⟩) (some ⟨h48.next, 0, none⟩) y82 0 h52))))))))))))))))))))))))
theorem k35 (p0 : (Int × Sl × Unit)) (h : Heap) (K : Sl → Bool → Int → Heap → Prop) : fnK C35 Try.f35.results.toList Try.f35.ntmps b35 [(.agg ⟨[(.int .i64 p0.1), (Sl.v p0.2.1)]⟩)] h (outC [sP, bP, iP .i64] K) = z35 p0 h K := by kernel_rfl
theorem r35 (p0 : (Int × Sl × Unit)) (h : Heap) (K : Sl → Bool → Int → Heap → Prop) (H : z35 p0 h K) : t35 p0 h K := fn_stepE (C := C35) (fn := Try.f35) (g := 35) o35 rfl rfl (by kernel_rfl) (by kernel_rfl) (by kernel_rfl) (k35 p0 h K) (by kernel_rfl) H

/-! 36: minikin/minikinref04.Pairs -/
noncomputable def b36 : Code := Try.f36.body.getD .skip
noncomputable def c36_27 : Code := (subN b36 55).getD .skip
theorem s36_27 : subN b36 55 = some c36_27 := by kernel_rfl
theorem sl36_27 : subN b36 27 = some (.loop c36_27) := by kernel_rfl
noncomputable def l36_27 (X0 : Sl → Option Addr → Int → Heap → Prop) : Sl → Option Addr → Int → Heap → Prop := lC Try.prog none c36_27 66 [(1, sP), (2, pP), (5, iP .i64)] (outE noE noE [(0, (grabC 66 [(1, sP), (2, pP), (5, iP .i64)] X0))])
noncomputable def c36_130888 : Code := (subN b36 130888).getD .skip
theorem s36_130888 : subN b36 130888 = some c36_130888 := by kernel_rfl
noncomputable def q36_130888 (XN : Sl → Option Addr → Int → Sl → Int → Int → Heap → Prop) : Sl → Option Addr → Int → Sl → Int → Int → Bool → Heap → Prop := qC Try.prog none c36_130888 66 [(1, sP), (2, pP), (5, iP .i64), (6, sP), (7, iP .i64), (8, iP .i64), (52, bP)] (outE (grabC 66 [(1, sP), (2, pP), (5, iP .i64), (6, sP), (7, iP .i64), (8, iP .i64)] XN) noE [])
noncomputable def c36_4089 : Code := (subN b36 8179).getD .skip
theorem s36_4089 : subN b36 8179 = some c36_4089 := by kernel_rfl
theorem sl36_4089 : subN b36 4089 = some (.loop c36_4089) := by kernel_rfl
noncomputable def l36_4089 (X2 : Int → Heap → Prop) : Sl → Option Addr → Int → Sl → Int → Int → Heap → Prop := lC Try.prog none c36_4089 66 [(1, sP), (2, pP), (5, iP .i64), (6, sP), (7, iP .i64), (8, iP .i64)] (outE noE noE [(2, (grabC 66 [(7, iP .i64)] X2))])
noncomputable def c36_126 : Code := (subN b36 126).getD .skip
theorem s36_126 : subN b36 126 = some c36_126 := by kernel_rfl
noncomputable def q36_126 (XR : Int → Heap → Prop) : Sl → Option Addr → Int → Sl → Heap → Prop := qC Try.prog none c36_126 66 [(1, sP), (2, pP), (5, iP .i64), (6, sP)] (outE noE (grabC 66 [(4, iP .i64)] XR) [])
noncomputable def C36 : Ctx := baseC Try.prog [95, 75] none (cons1 48 w48 (cons1 36 w36 (allF Try.prog))) (allI Try.prog) (cons1 126 (gC 66 [(1, sP), (2, pP), (5, iP .i64), (6, sP)] none (some [(4, iP .i64)]) [] (qC Try.prog none c36_126 66 [(1, sP), (2, pP), (5, iP .i64), (6, sP)])) (cons1 4089 (gC 66 [(1, sP), (2, pP), (5, iP .i64), (6, sP), (7, iP .i64), (8, iP .i64)] none none [(2, [(7, iP .i64)])] (lC Try.prog none c36_4089 66 [(1, sP), (2, pP), (5, iP .i64), (6, sP), (7, iP .i64), (8, iP .i64)])) (cons1 130888 (gC 66 [(1, sP), (2, pP), (5, iP .i64), (6, sP), (7, iP .i64), (8, iP .i64), (52, bP)] (some [(1, sP), (2, pP), (5, iP .i64), (6, sP), (7, iP .i64), (8, iP .i64)]) none [] (qC Try.prog none c36_130888 66 [(1, sP), (2, pP), (5, iP .i64), (6, sP), (7, iP .i64), (8, iP .i64), (52, bP)])) (cons1 27 (gC 66 [(1, sP), (2, pP), (5, iP .i64)] none none [(0, [(1, sP), (2, pP), (5, iP .i64)])] (lC Try.prog none c36_27 66 [(1, sP), (2, pP), (5, iP .i64)])) none1))))
theorem o36 : CtxOK (C36) b36 := (addQ (addL (addQ (addL (addF (addF (base_ok eqOK mixOK none b36) (wC_ok Try.prog 36 [aggP [iP .i64, sP], sP] [iP .i64])) (wC_ok Try.prog 48 [aggP [iP .i64, sP], iP .i64, iP .i64] [bP])) sl36_27) s36_130888) sl36_4089) s36_126)
def z36_27 (X0 : Sl → Option Addr → Int → Heap → Prop) (v3 : Sl) (v4 : Option Addr) (v5 : Int) (h6 : Heap) : Prop :=
 (branch (decide (v5 < ((v3.len : Nat) : Int)))
 (Go.AM.get v3.a fun a7 =>
 (chk (idx v5 v3.len) <|
 (Go.AM.get (asB (Heap.rd h6 ⟨a7.block, (a7.off + ((Int.toNat v5) * 1)), none⟩)) fun y8 =>
 (branch (!y8)
 (l36_27 X0 v3 v4 (IntKind.wrap .i64 (v5 + 1)) h6)
 (X0 v3 v4 v5 h6)))))
 (X0 v3 v4 v5 h6))
theorem k36_27 (X0 : Sl → Option Addr → Int → Heap → Prop) (v3 : Sl) (v4 : Option Addr) (v5 : Int) (h6 : Heap) : (exec (C36) c36_27 false 55 (Fr.put (Fr.put (Fr.put (Fr0 66) (some 1) (Sl.v v3)) (some 2) (.pointer v4)) (some 5) (.int .i64 v5)) h6 (loopE (grabC 66 [(1, sP), (2, pP), (5, iP .i64)] (lC (C36).P (C36).yld c36_27 66 [(1, sP), (2, pP), (5, iP .i64)] (outE noE noE [(0, (grabC 66 [(1, sP), (2, pP), (5, iP .i64)] X0))]))) (outE noE noE [(0, (grabC 66 [(1, sP), (2, pP), (5, iP .i64)] X0))]))) = z36_27 X0 v3 v4 v5 h6 := by kernel_rfl
theorem r36_27 (X0 : Sl → Option Addr → Int → Heap → Prop) (v3 : Sl) (v4 : Option Addr) (v5 : Int) (h6 : Heap) (H : z36_27 X0 v3 v4 v5 h6) : l36_27 X0 v3 v4 v5 h6 := loop_stepE (p := 27) (N := 66) (keep := [(1, sP), (2, pP), (5, iP .i64)]) (o36) rfl s36_27 (k36_27 X0 v3 v4 v5 h6) (by kernel_rfl) H
def z36_130888 (XN : Sl → Option Addr → Int → Sl → Int → Int → Heap → Prop) (v57 : Sl) (v58 : Option Addr) (v59 : Int) (v60 : Sl) (v61 : Int) (v62 : Int) (v63 : Bool) (h64 : Heap) : Prop :=
 (branch v63
 (Go.AM.get v60.a fun a67 =>
 (chk (idx v62 v60.len) <|
 (Go.AM.get (Heap.wr h64 ⟨a67.block, (a67.off + ((Int.toNat v62) * 1)), none⟩ [(.bool false)]) fun h68 =>
 (Go.AM.get v58 fun a69 =>
 (Go.AM.get (asI .i64 (Heap.rd h68 ⟨a69.block, a69.off, none⟩)) fun y70 =>
 (Go.AM.get (asS (Heap.rd h68 ⟨a69.block, (a69.off + 1), none⟩)) fun y71 =>
 (t36 (y70, y71, ()) v60 h68 fun r72 h73 =>
 (Go.AM.get v60.a fun a74 =>
 (chk (idx v62 v60.len) <|
 (Go.AM.get (Heap.wr h73 ⟨a74.block, (a74.off + ((Int.toNat v62) * 1)), none⟩ [(.bool true)]) fun h75 =>
 (XN v57 v58 v59 v60 (if (IntKind.wrap .i64 (1 + r72)) > v61 then (IntKind.wrap .i64 (1 + r72)) else v61) v62 h75)))))))))))
 (XN v57 v58 v59 v60 v61 v62 h64))
theorem k36_130888 (XN : Sl → Option Addr → Int → Sl → Int → Int → Heap → Prop) (v57 : Sl) (v58 : Option Addr) (v59 : Int) (v60 : Sl) (v61 : Int) (v62 : Int) (v63 : Bool) (h64 : Heap) : (exec (C36) c36_130888 true 130888 (Fr.put (Fr.put (Fr.put (Fr.put (Fr.put (Fr.put (Fr.put (Fr0 66) (some 1) (Sl.v v57)) (some 2) (.pointer v58)) (some 5) (.int .i64 v59)) (some 6) (Sl.v v60)) (some 7) (.int .i64 v61)) (some 8) (.int .i64 v62)) (some 52) (.bool v63)) h64 (outE (grabC 66 [(1, sP), (2, pP), (5, iP .i64), (6, sP), (7, iP .i64), (8, iP .i64)] XN) noE [])) = z36_130888 XN v57 v58 v59 v60 v61 v62 v63 h64 := by kernel_rfl
theorem r36_130888 (XN : Sl → Option Addr → Int → Sl → Int → Int → Heap → Prop) (v57 : Sl) (v58 : Option Addr) (v59 : Int) (v60 : Sl) (v61 : Int) (v62 : Int) (v63 : Bool) (h64 : Heap) (H : z36_130888 XN v57 v58 v59 v60 v61 v62 v63 h64) : q36_130888 XN v57 v58 v59 v60 v61 v62 v63 h64 := piece_stepE (p := 130888) (o36) rfl s36_130888 (k36_130888 XN v57 v58 v59 v60 v61 v62 v63 h64) (by kernel_rfl) H
def z36_4089 (X2 : Int → Heap → Prop) (v39 : Sl) (v40 : Option Addr) (v41 : Int) (v42 : Sl) (v43 : Int) (v44 : Int) (h45 : Heap) : Prop :=
 (Go.AM.get v40 fun a48 =>
 (Go.AM.get (asI .i64 (Heap.rd h45 ⟨a48.block, a48.off, none⟩)) fun y49 =>
 (branch (decide (v44 < y49))
 (Go.AM.get v39.a fun a76 =>
 (chk (idx v44 v39.len) <|
 (Go.AM.get (asB (Heap.rd h45 ⟨a76.block, (a76.off + ((Int.toNat v44) * 1)), none⟩)) fun y77 =>
 (branch y77
 (Go.AM.get v40 fun a78 =>
 (Go.AM.get (asI .i64 (Heap.rd h45 ⟨a78.block, a78.off, none⟩)) fun y79 =>
 (Go.AM.get (asS (Heap.rd h45 ⟨a78.block, (a78.off + 1), none⟩)) fun y80 =>
 (t48 (y79, y80, ()) v41 v44 h45 fun r81 h82 =>
 (q36_130888
 (fun z83 z84 z85 z86 z87 z88 h89 =>
 (l36_4089 X2 z83 z84 z85 z86 z87 (IntKind.wrap .i64 (z88 + 1)) h89))
 v39 v40 v41 v42 v43 v44 r81 h82)))))
 (q36_130888
 (fun z90 z91 z92 z93 z94 z95 h96 =>
 (l36_4089 X2 z90 z91 z92 z93 z94 (IntKind.wrap .i64 (z95 + 1)) h96))
 v39 v40 v41 v42 v43 v44 false h45)))))
 (X2 v43 h45))))
theorem k36_4089 (X2 : Int → Heap → Prop) (v39 : Sl) (v40 : Option Addr) (v41 : Int) (v42 : Sl) (v43 : Int) (v44 : Int) (h45 : Heap) : (exec (C36) c36_4089 false 8179 (Fr.put (Fr.put (Fr.put (Fr.put (Fr.put (Fr.put (Fr0 66) (some 1) (Sl.v v39)) (some 2) (.pointer v40)) (some 5) (.int .i64 v41)) (some 6) (Sl.v v42)) (some 7) (.int .i64 v43)) (some 8) (.int .i64 v44)) h45 (loopE (grabC 66 [(1, sP), (2, pP), (5, iP .i64), (6, sP), (7, iP .i64), (8, iP .i64)] (lC (C36).P (C36).yld c36_4089 66 [(1, sP), (2, pP), (5, iP .i64), (6, sP), (7, iP .i64), (8, iP .i64)] (outE noE noE [(2, (grabC 66 [(7, iP .i64)] X2))]))) (outE noE noE [(2, (grabC 66 [(7, iP .i64)] X2))]))) = z36_4089 X2 v39 v40 v41 v42 v43 v44 h45 := by kernel_rfl
theorem r36_4089 (X2 : Int → Heap → Prop) (v39 : Sl) (v40 : Option Addr) (v41 : Int) (v42 : Sl) (v43 : Int) (v44 : Int) (h45 : Heap) (H : z36_4089 X2 v39 v40 v41 v42 v43 v44 h45) : l36_4089 X2 v39 v40 v41 v42 v43 v44 h45 := loop_stepE (p := 4089) (N := 66) (keep := [(1, sP), (2, pP), (5, iP .i64), (6, sP), (7, iP .i64), (8, iP .i64)]) (o36) rfl s36_4089 (k36_4089 X2 v39 v40 v41 v42 v43 v44 h45) (by kernel_rfl) H
def z36_126 (XR : Int → Heap → Prop) (v20 : Sl) (v21 : Option Addr) (v22 : Int) (v23 : Sl) (h24 : Heap) : Prop :=
 (Go.AM.get v23.a fun a27 =>
 (chk (idx v22 v23.len) <|
 (Go.AM.get (Heap.wr h24 ⟨a27.block, (a27.off + ((Int.toNat v22) * 1)), none⟩ [(.bool false)]) fun h28 =>
 (Go.AM.get v21 fun a34 =>
 (Go.AM.get (asI .i64 (Heap.rd h28 ⟨a34.block, a34.off, none⟩)) fun y35 =>
 (Go.AM.get (asS (Heap.rd h28 ⟨a34.block, (a34.off + 1), none⟩)) fun y36 =>
 (t36 (y35, y36, ()) v23 h28 fun r37 h38 =>
 (l36_4089
 (fun z97 h98 =>
 (XR z97 h98))
 v20 v21 v22 v23 r37 (IntKind.wrap .i64 (v22 + 1)) h38))))))))
theorem k36_126 (XR : Int → Heap → Prop) (v20 : Sl) (v21 : Option Addr) (v22 : Int) (v23 : Sl) (h24 : Heap) : (exec (C36) c36_126 true 126 (Fr.put (Fr.put (Fr.put (Fr.put (Fr0 66) (some 1) (Sl.v v20)) (some 2) (.pointer v21)) (some 5) (.int .i64 v22)) (some 6) (Sl.v v23)) h24 (outE noE (grabC 66 [(4, iP .i64)] XR) [])) = z36_126 XR v20 v21 v22 v23 h24 := by kernel_rfl
theorem r36_126 (XR : Int → Heap → Prop) (v20 : Sl) (v21 : Option Addr) (v22 : Int) (v23 : Sl) (h24 : Heap) (H : z36_126 XR v20 v21 v22 v23 h24) : q36_126 XR v20 v21 v22 v23 h24 := piece_stepE (p := 126) (o36) rfl s36_126 (k36_126 XR v20 v21 v22 v23 h24) (by kernel_rfl) H
def z36 (p0 : (Int × Sl × Unit)) (p1 : Sl) (h : Heap) (K : Int → Heap → Prop) : Prop :=
 (withH (Heap.new h (.cells [(.int .i64 p0.1), (Sl.v p0.2.1)] false)) fun h2 =>
 (l36_27
 (fun z13 z14 z15 h16 =>
 (branch (z15 == ((z13.len : Nat) : Int))
 (K 0 h16)
 (optK z13.a
 (q36_126
 (fun z100 h101 =>
 (K z100 h101))
 z13 z14 z15 (Sl.mk none 0 0) h16)
 fun a99 =>
 (Go.AM.get (Heap.rdN h16 ⟨a99.block, a99.off, none⟩ (z13.len * 1)) fun y102 =>
 (Go.AM.get (Heap.app h16 1 1 (Sl.mk none 0 0) z13.len y102) fun r103 =>
 (q36_126
 (fun z104 h105 =>
 (K z104 h105))
 z13 z14 z15 r103.1 r103.2))))))
 p1 (some ⟨h.next, 0, none⟩) 0 h2))
theorem k36 (p0 : (Int × Sl × Unit)) (p1 : Sl) (h : Heap) (K : Int → Heap → Prop) : fnK C36 Try.f36.results.toList Try.f36.ntmps b36 [(.agg ⟨[(.int .i64 p0.1), (Sl.v p0.2.1)]⟩), (Sl.v p1)] h (outC [iP .i64] K) = z36 p0 p1 h K := by kernel_rfl
theorem r36 (p0 : (Int × Sl × Unit)) (p1 : Sl) (h : Heap) (K : Int → Heap → Prop) (H : z36 p0 p1 h K) : t36 p0 p1 h K := fn_stepE (C := C36) (fn := Try.f36) (g := 36) o36 rfl rfl (by kernel_rfl) (by kernel_rfl) (by kernel_rfl) (k36 p0 p1 h K) (by kernel_rfl) H

/-! 37: minikin/minikinref04.All -/
noncomputable def b37 : Code := Try.f37.body.getD .skip
noncomputable def c37_57 : Code := (subN b37 115).getD .skip
theorem s37_57 : subN b37 115 = some c37_57 := by kernel_rfl
theorem sl37_57 : subN b37 57 = some (.loop c37_57) := by kernel_rfl
noncomputable def l37_57 (X0 : Sl → Heap → Prop) : Option Addr → Sl → Int → Heap → Prop := lC Try.prog none c37_57 18 [(1, pP), (3, sP), (4, iP .i64)] (outE noE noE [(0, (grabC 18 [(3, sP)] X0))])
noncomputable def C37 : Ctx := baseC Try.prog [95, 75] none (allF Try.prog) (allI Try.prog) (cons1 57 (gC 18 [(1, pP), (3, sP), (4, iP .i64)] none none [(0, [(3, sP)])] (lC Try.prog none c37_57 18 [(1, pP), (3, sP), (4, iP .i64)])) none1)
theorem o37 : CtxOK (C37) b37 := (addL (base_ok eqOK mixOK none b37) sl37_57)
def z37_57 (X0 : Sl → Heap → Prop) (v7 : Option Addr) (v8 : Sl) (v9 : Int) (h10 : Heap) : Prop :=
 (Go.AM.get v7 fun a13 =>
 (Go.AM.get (asI .i64 (Heap.rd h10 ⟨a13.block, a13.off, none⟩)) fun y14 =>
 (branch (decide (v9 < y14))
 (Go.AM.get v8.a fun a15 =>
 (chk (idx v9 v8.len) <|
 (Go.AM.get (Heap.wr h10 ⟨a15.block, (a15.off + ((Int.toNat v9) * 1)), none⟩ [(.bool true)]) fun h16 =>
 (l37_57 X0 v7 v8 (IntKind.wrap .i64 (v9 + 1)) h16))))
 (X0 v8 h10))))
theorem k37_57 (X0 : Sl → Heap → Prop) (v7 : Option Addr) (v8 : Sl) (v9 : Int) (h10 : Heap) : (exec (C37) c37_57 false 115 (Fr.put (Fr.put (Fr.put (Fr0 18) (some 1) (.pointer v7)) (some 3) (Sl.v v8)) (some 4) (.int .i64 v9)) h10 (loopE (grabC 18 [(1, pP), (3, sP), (4, iP .i64)] (lC (C37).P (C37).yld c37_57 18 [(1, pP), (3, sP), (4, iP .i64)] (outE noE noE [(0, (grabC 18 [(3, sP)] X0))]))) (outE noE noE [(0, (grabC 18 [(3, sP)] X0))]))) = z37_57 X0 v7 v8 v9 h10 := by kernel_rfl
theorem r37_57 (X0 : Sl → Heap → Prop) (v7 : Option Addr) (v8 : Sl) (v9 : Int) (h10 : Heap) (H : z37_57 X0 v7 v8 v9 h10) : l37_57 X0 v7 v8 v9 h10 := loop_stepE (p := 57) (N := 18) (keep := [(1, pP), (3, sP), (4, iP .i64)]) (o37) rfl s37_57 (k37_57 X0 v7 v8 v9 h10) (by kernel_rfl) H
def z37 (p0 : (Int × Sl × Unit)) (h : Heap) (K : Sl → Heap → Prop) : Prop :=
 (withH (Heap.new h (.cells [(.int .i64 p0.1), (Sl.v p0.2.1)] false)) fun h2 =>
 (Go.AM.get (asI .i64 (Heap.rd h2 ⟨h.next, 0, none⟩)) fun y5 =>
 (chk (within 0 y5 y5 && (decide (y5 ≤ 1000000000000) && (small (Int.toNat y5) 1 && true))) <|
 (withH (Heap.new h2 (.cells (rep [(.bool false)] (Int.toNat y5)) false)) fun h6 =>
 (l37_57
 (fun z17 h18 =>
 (K z17 h18))
 (some ⟨h.next, 0, none⟩) (Sl.mk (some ⟨h2.next, 0, (some 0)⟩) (Int.toNat y5) (Int.toNat y5)) 0 h6)))))
theorem k37 (p0 : (Int × Sl × Unit)) (h : Heap) (K : Sl → Heap → Prop) : fnK C37 Try.f37.results.toList Try.f37.ntmps b37 [(.agg ⟨[(.int .i64 p0.1), (Sl.v p0.2.1)]⟩)] h (outC [sP] K) = z37 p0 h K := by kernel_rfl
theorem r37 (p0 : (Int × Sl × Unit)) (h : Heap) (K : Sl → Heap → Prop) (H : z37 p0 h K) : t37 p0 h K := fn_stepE (C := C37) (fn := Try.f37) (g := 37) o37 rfl rfl (by kernel_rfl) (by kernel_rfl) (by kernel_rfl) (k37 p0 h K) (by kernel_rfl) H

/-! 38: minikin/minikinref04.IsPairing -/
noncomputable def b38 : Code := Try.f38.body.getD .skip
noncomputable def c38_121 : Code := (subN b38 243).getD .skip
theorem s38_121 : subN b38 243 = some c38_121 := by kernel_rfl
theorem sl38_121 : subN b38 121 = some (.loop c38_121) := by kernel_rfl
noncomputable def l38_121 (XR : Int → Bool → Heap → Prop) (X0 : Int → Heap → Prop) : Sl → Option Addr → Int → Int → Heap → Prop := lC Try.prog none c38_121 60 [(1, sP), (2, pP), (6, iP .i64), (7, iP .i64)] (outE noE (grabC 60 [(4, iP .i64), (5, bP)] XR) [(0, (grabC 60 [(6, iP .i64)] X0))])
noncomputable def C38 : Ctx := baseC Try.prog [95, 75] none (cons1 48 w48 (cons1 32 w32 (allF Try.prog))) (allI Try.prog) (cons1 121 (gC 60 [(1, sP), (2, pP), (6, iP .i64), (7, iP .i64)] none (some [(4, iP .i64), (5, bP)]) [(0, [(6, iP .i64)])] (lC Try.prog none c38_121 60 [(1, sP), (2, pP), (6, iP .i64), (7, iP .i64)])) none1)
theorem o38 : CtxOK (C38) b38 := (addL (addF (addF (base_ok eqOK mixOK none b38) (wC_ok Try.prog 32 [aggP [iP .i64, sP]] [iP .i64])) (wC_ok Try.prog 48 [aggP [iP .i64, sP], iP .i64, iP .i64] [bP])) sl38_121)
def z38_121 (XR : Int → Bool → Heap → Prop) (X0 : Int → Heap → Prop) (v13 : Sl) (v14 : Option Addr) (v15 : Int) (v16 : Int) (h17 : Heap) : Prop :=
 (branch (decide (v16 < ((v13.len : Nat) : Int)))
 (Go.AM.get v13.a fun a20 =>
 (chk (idx v16 v13.len) <|
 (Go.AM.get (asI .i64 (Heap.rd h17 ⟨a20.block, (a20.off + ((Int.toNat v16) * 1)), none⟩)) fun y21 =>
 (branch (y21 == (-1))
 (l38_121 XR X0 v13 v14 v15 (IntKind.wrap .i64 (v16 + 1)) h17)
 (branch (decide (y21 < 0))
 (XR 0 false h17)
 (Go.AM.get v14 fun a31 =>
 (Go.AM.get (asI .i64 (Heap.rd h17 ⟨a31.block, a31.off, none⟩)) fun y32 =>
 (branch (decide (y21 ≥ y32))
 (XR 0 false h17)
 (Go.AM.get v13.a fun a33 =>
 (chk (idx y21 v13.len) <|
 (Go.AM.get (asI .i64 (Heap.rd h17 ⟨a33.block, (a33.off + ((Int.toNat y21) * 1)), none⟩)) fun y34 =>
 (branch (y34 != v16)
 (XR 0 false h17)
 (Go.AM.get v14 fun a35 =>
 (Go.AM.get (asI .i64 (Heap.rd h17 ⟨a35.block, a35.off, none⟩)) fun y36 =>
 (Go.AM.get (asS (Heap.rd h17 ⟨a35.block, (a35.off + 1), none⟩)) fun y37 =>
 (t48 (y36, y37, ()) v16 y21 h17 fun r38 h39 =>
 (branch (!r38)
 (XR 0 false h39)
 (branch (decide (v16 < y21))
 (l38_121 XR X0 v13 v14 (IntKind.wrap .i64 (v15 + 1)) (IntKind.wrap .i64 (v16 + 1)) h39)
 (l38_121 XR X0 v13 v14 v15 (IntKind.wrap .i64 (v16 + 1)) h39)))))))))))))))))))
 (X0 v15 h17))
theorem k38_121 (XR : Int → Bool → Heap → Prop) (X0 : Int → Heap → Prop) (v13 : Sl) (v14 : Option Addr) (v15 : Int) (v16 : Int) (h17 : Heap) : (exec (C38) c38_121 false 243 (Fr.put (Fr.put (Fr.put (Fr.put (Fr0 60) (some 1) (Sl.v v13)) (some 2) (.pointer v14)) (some 6) (.int .i64 v15)) (some 7) (.int .i64 v16)) h17 (loopE (grabC 60 [(1, sP), (2, pP), (6, iP .i64), (7, iP .i64)] (lC (C38).P (C38).yld c38_121 60 [(1, sP), (2, pP), (6, iP .i64), (7, iP .i64)] (outE noE (grabC 60 [(4, iP .i64), (5, bP)] XR) [(0, (grabC 60 [(6, iP .i64)] X0))]))) (outE noE (grabC 60 [(4, iP .i64), (5, bP)] XR) [(0, (grabC 60 [(6, iP .i64)] X0))]))) = z38_121 XR X0 v13 v14 v15 v16 h17 := by kernel_rfl
theorem r38_121 (XR : Int → Bool → Heap → Prop) (X0 : Int → Heap → Prop) (v13 : Sl) (v14 : Option Addr) (v15 : Int) (v16 : Int) (h17 : Heap) (H : z38_121 XR X0 v13 v14 v15 v16 h17) : l38_121 XR X0 v13 v14 v15 v16 h17 := loop_stepE (p := 121) (N := 60) (keep := [(1, sP), (2, pP), (6, iP .i64), (7, iP .i64)]) (o38) rfl s38_121 (k38_121 XR X0 v13 v14 v15 v16 h17) (by kernel_rfl) H
def z38 (p0 : (Int × Sl × Unit)) (p1 : Sl) (h : Heap) (K : Int → Bool → Heap → Prop) : Prop :=
 (withH (Heap.new h (.cells [(.int .i64 p0.1), (Sl.v p0.2.1)] false)) fun h2 =>
 (Go.AM.get (asI .i64 (Heap.rd h2 ⟨h.next, 0, none⟩)) fun y8 =>
 (Go.AM.get (asS (Heap.rd h2 ⟨h.next, 1, none⟩)) fun y9 =>
 (t32 (y8, y9, ()) h2 fun r10 h11 =>
 (branch (r10 != 0)
 (K 0 false h11)
 (Go.AM.get (asI .i64 (Heap.rd h11 ⟨h.next, 0, none⟩)) fun y12 =>
 (branch (((p1.len : Nat) : Int) != y12)
 (K 0 false h11)
 (l38_121
 (fun z40 z41 h42 =>
 (K z40 z41 h42))
 (fun z43 h44 =>
 (K z43 true h44))
 p1 (some ⟨h.next, 0, none⟩) 0 0 h11))))))))
theorem k38 (p0 : (Int × Sl × Unit)) (p1 : Sl) (h : Heap) (K : Int → Bool → Heap → Prop) : fnK C38 Try.f38.results.toList Try.f38.ntmps b38 [(.agg ⟨[(.int .i64 p0.1), (Sl.v p0.2.1)]⟩), (Sl.v p1)] h (outC [iP .i64, bP] K) = z38 p0 p1 h K := by kernel_rfl
theorem r38 (p0 : (Int × Sl × Unit)) (p1 : Sl) (h : Heap) (K : Int → Bool → Heap → Prop) (H : z38 p0 p1 h K) : t38 p0 p1 h K := fn_stepE (C := C38) (fn := Try.f38) (g := 38) o38 rfl rfl (by kernel_rfl) (by kernel_rfl) (by kernel_rfl) (k38 p0 p1 h K) (by kernel_rfl) H

/-! 39: minikin/minikinref04.IsBarrier -/
noncomputable def b39 : Code := Try.f39.body.getD .skip
noncomputable def c39_249 : Code := (subN b39 499).getD .skip
theorem s39_249 : subN b39 499 = some c39_249 := by kernel_rfl
theorem sl39_249 : subN b39 249 = some (.loop c39_249) := by kernel_rfl
noncomputable def l39_249 (X0 : Sl → Int → Option Addr → Int → Heap → Prop) : Sl → Int → Option Addr → Int → Sl → Int → Heap → Prop := lC Try.prog none c39_249 56 [(1, sP), (2, iP .i64), (3, pP), (7, iP .i64), (8, sP), (9, iP .i64)] (outE noE noE [(0, (grabC 56 [(1, sP), (2, iP .i64), (3, pP), (7, iP .i64)] X0))])
noncomputable def C39 : Ctx := baseC Try.prog [95, 75] none (cons1 18 w18 (cons1 62 w62 (cons1 32 w32 (allF Try.prog)))) (allI Try.prog) (cons1 249 (gC 56 [(1, sP), (2, iP .i64), (3, pP), (7, iP .i64), (8, sP), (9, iP .i64)] none none [(0, [(1, sP), (2, iP .i64), (3, pP), (7, iP .i64)])] (lC Try.prog none c39_249 56 [(1, sP), (2, iP .i64), (3, pP), (7, iP .i64), (8, sP), (9, iP .i64)])) none1)
theorem o39 : CtxOK (C39) b39 := (addL (addF (addF (addF (base_ok eqOK mixOK none b39) (wC_ok Try.prog 32 [aggP [iP .i64, sP]] [iP .i64])) (wC_ok Try.prog 62 [aggP [iP .i64, sP], sP] [bP])) (wC_ok Try.prog 18 [aggP [iP .i64, sP], sP] [sP])) sl39_249)
def z39_249 (X0 : Sl → Int → Option Addr → Int → Heap → Prop) (v29 : Sl) (v30 : Int) (v31 : Option Addr) (v32 : Int) (v33 : Sl) (v34 : Int) (h35 : Heap) : Prop :=
 (branch (decide (v34 < ((v33.len : Nat) : Int)))
 (Go.AM.get v33.a fun a36 =>
 (chk (idx v34 v33.len) <|
 (Go.AM.get (asS (Heap.rd h35 ⟨a36.block, (a36.off + ((Int.toNat v34) * 1)), none⟩)) fun y37 =>
 (l39_249 X0 v29 v30 v31 (IntKind.wrap .i64 (v32 + (Int.tmod ((y37.len : Nat) : Int) 2))) v33 (IntKind.wrap .i64 (v34 + 1)) h35))))
 (X0 v29 v30 v31 v32 h35))
theorem k39_249 (X0 : Sl → Int → Option Addr → Int → Heap → Prop) (v29 : Sl) (v30 : Int) (v31 : Option Addr) (v32 : Int) (v33 : Sl) (v34 : Int) (h35 : Heap) : (exec (C39) c39_249 false 499 (Fr.put (Fr.put (Fr.put (Fr.put (Fr.put (Fr.put (Fr0 56) (some 1) (Sl.v v29)) (some 2) (.int .i64 v30)) (some 3) (.pointer v31)) (some 7) (.int .i64 v32)) (some 8) (Sl.v v33)) (some 9) (.int .i64 v34)) h35 (loopE (grabC 56 [(1, sP), (2, iP .i64), (3, pP), (7, iP .i64), (8, sP), (9, iP .i64)] (lC (C39).P (C39).yld c39_249 56 [(1, sP), (2, iP .i64), (3, pP), (7, iP .i64), (8, sP), (9, iP .i64)] (outE noE noE [(0, (grabC 56 [(1, sP), (2, iP .i64), (3, pP), (7, iP .i64)] X0))]))) (outE noE noE [(0, (grabC 56 [(1, sP), (2, iP .i64), (3, pP), (7, iP .i64)] X0))]))) = z39_249 X0 v29 v30 v31 v32 v33 v34 h35 := by kernel_rfl
theorem r39_249 (X0 : Sl → Int → Option Addr → Int → Heap → Prop) (v29 : Sl) (v30 : Int) (v31 : Option Addr) (v32 : Int) (v33 : Sl) (v34 : Int) (h35 : Heap) (H : z39_249 X0 v29 v30 v31 v32 v33 v34 h35) : l39_249 X0 v29 v30 v31 v32 v33 v34 h35 := loop_stepE (p := 249) (N := 56) (keep := [(1, sP), (2, iP .i64), (3, pP), (7, iP .i64), (8, sP), (9, iP .i64)]) (o39) rfl s39_249 (k39_249 X0 v29 v30 v31 v32 v33 v34 h35) (by kernel_rfl) H
def z39 (p0 : (Int × Sl × Unit)) (p1 : Sl) (p2 : Int) (h : Heap) (K : Bool → Heap → Prop) : Prop :=
 (withH (Heap.new h (.cells [(.int .i64 p0.1), (Sl.v p0.2.1)] false)) fun h2 =>
 (Go.AM.get (asI .i64 (Heap.rd h2 ⟨h.next, 0, none⟩)) fun y12 =>
 (Go.AM.get (asS (Heap.rd h2 ⟨h.next, 1, none⟩)) fun y13 =>
 (t32 (y12, y13, ()) h2 fun r14 h15 =>
 (branch (r14 != 0)
 (K false h15)
 (Go.AM.get (asI .i64 (Heap.rd h15 ⟨h.next, 0, none⟩)) fun y16 =>
 (Go.AM.get (asS (Heap.rd h15 ⟨h.next, 1, none⟩)) fun y17 =>
 (t62 (y16, y17, ()) p1 h15 fun r18 h19 =>
 (branch (!r18)
 (K false h19)
 (branch (decide (p2 < 0))
 (K false h19)
 (Go.AM.get (asI .i64 (Heap.rd h19 ⟨h.next, 0, none⟩)) fun y20 =>
 (branch (decide (p2 > y20))
 (K false h19)
 (Go.AM.get (asI .i64 (Heap.rd h19 ⟨h.next, 0, none⟩)) fun y25 =>
 (Go.AM.get (asS (Heap.rd h19 ⟨h.next, 1, none⟩)) fun y26 =>
 (t18 (y25, y26, ()) p1 h19 fun r27 h28 =>
 (l39_249
 (fun z43 z44 z45 z46 h47 =>
 (Go.AM.get z45 fun a48 =>
 (Go.AM.get (asI .i64 (Heap.rd h47 ⟨a48.block, a48.off, none⟩)) fun y49 =>
 (K ((IntKind.wrap .i64 (2 * z44)) == (IntKind.wrap .i64 ((IntKind.wrap .i64 (y49 + ((z43.len : Nat) : Int))) - z46))) h47))))
 p1 p2 (some ⟨h.next, 0, none⟩) 0 r27 0 h28))))))))))))))))
theorem k39 (p0 : (Int × Sl × Unit)) (p1 : Sl) (p2 : Int) (h : Heap) (K : Bool → Heap → Prop) : fnK C39 Try.f39.results.toList Try.f39.ntmps b39 [(.agg ⟨[(.int .i64 p0.1), (Sl.v p0.2.1)]⟩), (Sl.v p1), (.int .i64 p2)] h (outC [bP] K) = z39 p0 p1 p2 h K := by kernel_rfl
theorem r39 (p0 : (Int × Sl × Unit)) (p1 : Sl) (p2 : Int) (h : Heap) (K : Bool → Heap → Prop) (H : z39 p0 p1 p2 h K) : t39 p0 p1 p2 h K := fn_stepE (C := C39) (fn := Try.f39) (g := 39) o39 rfl rfl (by kernel_rfl) (by kernel_rfl) (by kernel_rfl) (k39 p0 p1 p2 h K) (by kernel_rfl) H

/-! 40: minikin/minikinref04.Divide -/
noncomputable def b40 : Code := Try.f40.body.getD .skip
noncomputable def c40_249 : Code := (subN b40 499).getD .skip
theorem s40_249 : subN b40 499 = some c40_249 := by kernel_rfl
theorem sl40_249 : subN b40 249 = some (.loop c40_249) := by kernel_rfl
noncomputable def l40_249 (X0 : Option Addr → Option Addr → Option Addr → Heap → Prop) : Option Addr → Option Addr → Option Addr → Sl → Int → Int → Heap → Prop := lC Try.prog none c40_249 86 [(1, pP), (2, pP), (3, pP), (4, sP), (5, iP .i64), (6, iP .i64)] (outE noE noE [(0, (grabC 86 [(1, pP), (2, pP), (3, pP)] X0))])
noncomputable def c40_259225 : Code := (subN b40 518451).getD .skip
theorem s40_259225 : subN b40 518451 = some c40_259225 := by kernel_rfl
theorem sl40_259225 : subN b40 259225 = some (.loop c40_259225) := by kernel_rfl
noncomputable def l40_259225 (X4 : Option Addr → Option Addr → Option Addr → Int → Bool → Heap → Prop) : Option Addr → Option Addr → Option Addr → Int → Bool → Int → Heap → Prop := lC Try.prog none c40_259225 86 [(1, pP), (2, pP), (3, pP), (8, iP .i64), (9, bP), (10, iP .i64)] (outE noE noE [(4, (grabC 86 [(1, pP), (2, pP), (3, pP), (8, iP .i64), (9, bP)] X4))])
noncomputable def c40_505 : Code := (subN b40 1011).getD .skip
theorem s40_505 : subN b40 1011 = some c40_505 := by kernel_rfl
theorem sl40_505 : subN b40 505 = some (.loop c40_505) := by kernel_rfl
noncomputable def l40_505 (X2 : Option Addr → Option Addr → Heap → Prop) : Option Addr → Option Addr → Option Addr → Int → Heap → Prop := lC Try.prog none c40_505 86 [(1, pP), (2, pP), (3, pP), (8, iP .i64)] (outE noE noE [(2, (grabC 86 [(2, pP), (3, pP)] X2))])
noncomputable def C40 : Ctx := baseC Try.prog [95, 75] none (cons1 48 w48 (cons1 17 w17 (cons1 36 w36 (cons1 37 w37 (allF Try.prog))))) (allI Try.prog) (cons1 505 (gC 86 [(1, pP), (2, pP), (3, pP), (8, iP .i64)] none none [(2, [(2, pP), (3, pP)])] (lC Try.prog none c40_505 86 [(1, pP), (2, pP), (3, pP), (8, iP .i64)])) (cons1 259225 (gC 86 [(1, pP), (2, pP), (3, pP), (8, iP .i64), (9, bP), (10, iP .i64)] none none [(4, [(1, pP), (2, pP), (3, pP), (8, iP .i64), (9, bP)])] (lC Try.prog none c40_259225 86 [(1, pP), (2, pP), (3, pP), (8, iP .i64), (9, bP), (10, iP .i64)])) (cons1 249 (gC 86 [(1, pP), (2, pP), (3, pP), (4, sP), (5, iP .i64), (6, iP .i64)] none none [(0, [(1, pP), (2, pP), (3, pP)])] (lC Try.prog none c40_249 86 [(1, pP), (2, pP), (3, pP), (4, sP), (5, iP .i64), (6, iP .i64)])) none1)))
theorem o40 : CtxOK (C40) b40 := (addL (addL (addL (addF (addF (addF (addF (base_ok eqOK mixOK none b40) (wC_ok Try.prog 37 [aggP [iP .i64, sP]] [sP])) (wC_ok Try.prog 36 [aggP [iP .i64, sP], sP] [iP .i64])) (wC_ok Try.prog 17 [sP, iP .i64] [bP])) (wC_ok Try.prog 48 [aggP [iP .i64, sP], iP .i64, iP .i64] [bP])) sl40_249) sl40_259225) sl40_505)
def z40_249 (X0 : Option Addr → Option Addr → Option Addr → Heap → Prop) (v23 : Option Addr) (v24 : Option Addr) (v25 : Option Addr) (v26 : Sl) (v27 : Int) (v28 : Int) (h29 : Heap) : Prop :=
 (Go.AM.get v23 fun a32 =>
 (Go.AM.get (asI .i64 (Heap.rd h29 ⟨a32.block, a32.off, none⟩)) fun y33 =>
 (branch (decide (v28 < y33))
 (Go.AM.get v26.a fun a36 =>
 (chk (idx v28 v26.len) <|
 (Go.AM.get (Heap.wr h29 ⟨a36.block, (a36.off + ((Int.toNat v28) * 1)), none⟩ [(.bool false)]) fun h37 =>
 (Go.AM.get v23 fun a43 =>
 (Go.AM.get (asI .i64 (Heap.rd h37 ⟨a43.block, a43.off, none⟩)) fun y44 =>
 (Go.AM.get (asS (Heap.rd h37 ⟨a43.block, (a43.off + 1), none⟩)) fun y45 =>
 (t36 (y44, y45, ()) v26 h37 fun r46 h47 =>
 (branch (r46 == v27)
 (Go.AM.get v25 fun a48 =>
 (Go.AM.get (asS (Heap.rd h47 ⟨a48.block, a48.off, none⟩)) fun y49 =>
 (withH (Heap.new h47 (.cells [(.int .i64 v28)] false)) fun h50 =>
 (Go.AM.get (Heap.rdN h50 ⟨h47.next, 0, none⟩ 1) fun y51 =>
 (Go.AM.get (Heap.app h50 1 8 y49 1 y51) fun r52 =>
 (Go.AM.get v25 fun a53 =>
 (Go.AM.get (Heap.wr r52.2 ⟨a53.block, a53.off, none⟩ [(Sl.v r52.1)]) fun h54 =>
 (Go.AM.get v26.a fun a55 =>
 (chk (idx v28 v26.len) <|
 (Go.AM.get (Heap.wr h54 ⟨a55.block, (a55.off + ((Int.toNat v28) * 1)), none⟩ [(.bool true)]) fun h56 =>
 (l40_249 X0 v23 v24 v25 v26 v27 (IntKind.wrap .i64 (v28 + 1)) h56)))))))))))
 (Go.AM.get v26.a fun a57 =>
 (chk (idx v28 v26.len) <|
 (Go.AM.get (Heap.wr h47 ⟨a57.block, (a57.off + ((Int.toNat v28) * 1)), none⟩ [(.bool true)]) fun h58 =>
 (l40_249 X0 v23 v24 v25 v26 v27 (IntKind.wrap .i64 (v28 + 1)) h58))))))))))))
 (X0 v23 v24 v25 h29))))
theorem k40_249 (X0 : Option Addr → Option Addr → Option Addr → Heap → Prop) (v23 : Option Addr) (v24 : Option Addr) (v25 : Option Addr) (v26 : Sl) (v27 : Int) (v28 : Int) (h29 : Heap) : (exec (C40) c40_249 false 499 (Fr.put (Fr.put (Fr.put (Fr.put (Fr.put (Fr.put (Fr0 86) (some 1) (.pointer v23)) (some 2) (.pointer v24)) (some 3) (.pointer v25)) (some 4) (Sl.v v26)) (some 5) (.int .i64 v27)) (some 6) (.int .i64 v28)) h29 (loopE (grabC 86 [(1, pP), (2, pP), (3, pP), (4, sP), (5, iP .i64), (6, iP .i64)] (lC (C40).P (C40).yld c40_249 86 [(1, pP), (2, pP), (3, pP), (4, sP), (5, iP .i64), (6, iP .i64)] (outE noE noE [(0, (grabC 86 [(1, pP), (2, pP), (3, pP)] X0))]))) (outE noE noE [(0, (grabC 86 [(1, pP), (2, pP), (3, pP)] X0))]))) = z40_249 X0 v23 v24 v25 v26 v27 v28 h29 := by kernel_rfl
theorem r40_249 (X0 : Option Addr → Option Addr → Option Addr → Heap → Prop) (v23 : Option Addr) (v24 : Option Addr) (v25 : Option Addr) (v26 : Sl) (v27 : Int) (v28 : Int) (h29 : Heap) (H : z40_249 X0 v23 v24 v25 v26 v27 v28 h29) : l40_249 X0 v23 v24 v25 v26 v27 v28 h29 := loop_stepE (p := 249) (N := 86) (keep := [(1, pP), (2, pP), (3, pP), (4, sP), (5, iP .i64), (6, iP .i64)]) (o40) rfl s40_249 (k40_249 X0 v23 v24 v25 v26 v27 v28 h29) (by kernel_rfl) H
def z40_259225 (X4 : Option Addr → Option Addr → Option Addr → Int → Bool → Heap → Prop) (v84 : Option Addr) (v85 : Option Addr) (v86 : Option Addr) (v87 : Int) (v88 : Bool) (v89 : Int) (h90 : Heap) : Prop :=
 (Go.AM.get v86 fun a93 =>
 (Go.AM.get (asS (Heap.rd h90 ⟨a93.block, a93.off, none⟩)) fun y94 =>
 (branch (decide (v89 < ((y94.len : Nat) : Int)))
 (branch v88
 (l40_259225 X4 v84 v85 v86 v87 true (IntKind.wrap .i64 (v89 + 1)) h90)
 (Go.AM.get v84 fun a95 =>
 (Go.AM.get (asI .i64 (Heap.rd h90 ⟨a95.block, a95.off, none⟩)) fun y96 =>
 (Go.AM.get (asS (Heap.rd h90 ⟨a95.block, (a95.off + 1), none⟩)) fun y97 =>
 (Go.AM.get v86 fun a98 =>
 (Go.AM.get (asS (Heap.rd h90 ⟨a98.block, a98.off, none⟩)) fun y99 =>
 (Go.AM.get y99.a fun a100 =>
 (chk (idx v89 y99.len) <|
 (Go.AM.get (asI .i64 (Heap.rd h90 ⟨a100.block, (a100.off + ((Int.toNat v89) * 1)), none⟩)) fun y101 =>
 (t48 (y96, y97, ()) v87 y101 h90 fun r102 h103 =>
 (l40_259225 X4 v84 v85 v86 v87 r102 (IntKind.wrap .i64 (v89 + 1)) h103)))))))))))
 (X4 v84 v85 v86 v87 v88 h90))))
theorem k40_259225 (X4 : Option Addr → Option Addr → Option Addr → Int → Bool → Heap → Prop) (v84 : Option Addr) (v85 : Option Addr) (v86 : Option Addr) (v87 : Int) (v88 : Bool) (v89 : Int) (h90 : Heap) : (exec (C40) c40_259225 false 518451 (Fr.put (Fr.put (Fr.put (Fr.put (Fr.put (Fr.put (Fr0 86) (some 1) (.pointer v84)) (some 2) (.pointer v85)) (some 3) (.pointer v86)) (some 8) (.int .i64 v87)) (some 9) (.bool v88)) (some 10) (.int .i64 v89)) h90 (loopE (grabC 86 [(1, pP), (2, pP), (3, pP), (8, iP .i64), (9, bP), (10, iP .i64)] (lC (C40).P (C40).yld c40_259225 86 [(1, pP), (2, pP), (3, pP), (8, iP .i64), (9, bP), (10, iP .i64)] (outE noE noE [(4, (grabC 86 [(1, pP), (2, pP), (3, pP), (8, iP .i64), (9, bP)] X4))]))) (outE noE noE [(4, (grabC 86 [(1, pP), (2, pP), (3, pP), (8, iP .i64), (9, bP)] X4))]))) = z40_259225 X4 v84 v85 v86 v87 v88 v89 h90 := by kernel_rfl
theorem r40_259225 (X4 : Option Addr → Option Addr → Option Addr → Int → Bool → Heap → Prop) (v84 : Option Addr) (v85 : Option Addr) (v86 : Option Addr) (v87 : Int) (v88 : Bool) (v89 : Int) (h90 : Heap) (H : z40_259225 X4 v84 v85 v86 v87 v88 v89 h90) : l40_259225 X4 v84 v85 v86 v87 v88 v89 h90 := loop_stepE (p := 259225) (N := 86) (keep := [(1, pP), (2, pP), (3, pP), (8, iP .i64), (9, bP), (10, iP .i64)]) (o40) rfl s40_259225 (k40_259225 X4 v84 v85 v86 v87 v88 v89 h90) (by kernel_rfl) H
def z40_505 (X2 : Option Addr → Option Addr → Heap → Prop) (v67 : Option Addr) (v68 : Option Addr) (v69 : Option Addr) (v70 : Int) (h71 : Heap) : Prop :=
 (Go.AM.get v67 fun a74 =>
 (Go.AM.get (asI .i64 (Heap.rd h71 ⟨a74.block, a74.off, none⟩)) fun y75 =>
 (branch (decide (v70 < y75))
 (Go.AM.get v69 fun a80 =>
 (Go.AM.get (asS (Heap.rd h71 ⟨a80.block, a80.off, none⟩)) fun y81 =>
 (t17 y81 v70 h71 fun r82 h83 =>
 (branch r82
 (l40_505 X2 v67 v68 v69 (IntKind.wrap .i64 (v70 + 1)) h83)
 (l40_259225
 (fun z110 z111 z112 z113 z114 h115 =>
 (branch z114
 (Go.AM.get z112 fun a116 =>
 (Go.AM.get (asS (Heap.rd h115 ⟨a116.block, (a116.off + 1), none⟩)) fun y117 =>
 (withH (Heap.new h115 (.cells [(.int .i64 z113)] false)) fun h118 =>
 (Go.AM.get (Heap.rdN h118 ⟨h115.next, 0, none⟩ 1) fun y119 =>
 (Go.AM.get (Heap.app h118 1 8 y117 1 y119) fun r120 =>
 (Go.AM.get z112 fun a121 =>
 (Go.AM.get (Heap.wr r120.2 ⟨a121.block, (a121.off + 1), none⟩ [(Sl.v r120.1)]) fun h122 =>
 (l40_505 X2 z110 z111 z112 (IntKind.wrap .i64 (z113 + 1)) h122))))))))
 (Go.AM.get z112 fun a123 =>
 (Go.AM.get (asS (Heap.rd h115 ⟨a123.block, (a123.off + 2), none⟩)) fun y124 =>
 (withH (Heap.new h115 (.cells [(.int .i64 z113)] false)) fun h125 =>
 (Go.AM.get (Heap.rdN h125 ⟨h115.next, 0, none⟩ 1) fun y126 =>
 (Go.AM.get (Heap.app h125 1 8 y124 1 y126) fun r127 =>
 (Go.AM.get z112 fun a128 =>
 (Go.AM.get (Heap.wr r127.2 ⟨a128.block, (a128.off + 2), none⟩ [(Sl.v r127.1)]) fun h129 =>
 (l40_505 X2 z110 z111 z112 (IntKind.wrap .i64 (z113 + 1)) h129))))))))))
 v67 v68 v69 v70 false 0 h83)))))
 (X2 v68 v69 h71))))
theorem k40_505 (X2 : Option Addr → Option Addr → Heap → Prop) (v67 : Option Addr) (v68 : Option Addr) (v69 : Option Addr) (v70 : Int) (h71 : Heap) : (exec (C40) c40_505 false 1011 (Fr.put (Fr.put (Fr.put (Fr.put (Fr0 86) (some 1) (.pointer v67)) (some 2) (.pointer v68)) (some 3) (.pointer v69)) (some 8) (.int .i64 v70)) h71 (loopE (grabC 86 [(1, pP), (2, pP), (3, pP), (8, iP .i64)] (lC (C40).P (C40).yld c40_505 86 [(1, pP), (2, pP), (3, pP), (8, iP .i64)] (outE noE noE [(2, (grabC 86 [(2, pP), (3, pP)] X2))]))) (outE noE noE [(2, (grabC 86 [(2, pP), (3, pP)] X2))]))) = z40_505 X2 v67 v68 v69 v70 h71 := by kernel_rfl
theorem r40_505 (X2 : Option Addr → Option Addr → Heap → Prop) (v67 : Option Addr) (v68 : Option Addr) (v69 : Option Addr) (v70 : Int) (h71 : Heap) (H : z40_505 X2 v67 v68 v69 v70 h71) : l40_505 X2 v67 v68 v69 v70 h71 := loop_stepE (p := 505) (N := 86) (keep := [(1, pP), (2, pP), (3, pP), (8, iP .i64)]) (o40) rfl s40_505 (k40_505 X2 v67 v68 v69 v70 h71) (by kernel_rfl) H
def z40 (p0 : (Int × Sl × Unit)) (h : Heap) (K : (Sl × Sl × Sl × Unit) → Heap → Prop) : Prop :=
 (withH (Heap.new h (.cells [(.int .i64 p0.1), (Sl.v p0.2.1)] false)) fun h3 =>
 (withH (Heap.new h3 (.cells [(.slice none 0 0), (.slice none 0 0), (.slice none 0 0)] false)) fun h4 =>
 (withH (Heap.new h4 (.cells [(.slice none 0 0), (.slice none 0 0), (.slice none 0 0)] false)) fun h6 =>
 (Go.AM.get (asI .i64 (Heap.rd h6 ⟨h.next, 0, none⟩)) fun y11 =>
 (Go.AM.get (asS (Heap.rd h6 ⟨h.next, 1, none⟩)) fun y12 =>
 (t37 (y11, y12, ()) h6 fun r13 h14 =>
 (Go.AM.get (asI .i64 (Heap.rd h14 ⟨h.next, 0, none⟩)) fun y19 =>
 (Go.AM.get (asS (Heap.rd h14 ⟨h.next, 1, none⟩)) fun y20 =>
 (t36 (y19, y20, ()) r13 h14 fun r21 h22 =>
 (l40_249
 (fun z63 z64 z65 h66 =>
 (l40_505
 (fun z130 z131 h132 =>
 (Go.AM.get z131 fun a133 =>
 (Go.AM.get (asS (Heap.rd h132 ⟨a133.block, a133.off, none⟩)) fun y134 =>
 (Go.AM.get (asS (Heap.rd h132 ⟨a133.block, (a133.off + 1), none⟩)) fun y135 =>
 (Go.AM.get (asS (Heap.rd h132 ⟨a133.block, (a133.off + 2), none⟩)) fun y136 =>
 (Go.AM.get z130 fun a137 =>
 (Go.AM.get (Heap.wr h132 a137 [(Sl.v y134), (Sl.v y135), (Sl.v y136)]) fun h138 =>
 (Go.AM.get z130 fun a139 =>
 (Go.AM.get (asS (Heap.rd h138 ⟨a139.block, a139.off, none⟩)) fun y140 =>
 (Go.AM.get (asS (Heap.rd h138 ⟨a139.block, (a139.off + 1), none⟩)) fun y141 =>
 (Go.AM.get (asS (Heap.rd h138 ⟨a139.block, (a139.off + 2), none⟩)) fun y142 =>
 (K (y140, y141, y142, ()) h138))))))))))))
 z63 z64 z65 0 h66))
 (some ⟨h.next, 0, none⟩) (some ⟨h3.next, 0, none⟩) (some ⟨h4.next, 0, none⟩) r13 r21 0 h22))))))))))
theorem k40 (p0 : (Int × Sl × Unit)) (h : Heap) (K : (Sl × Sl × Sl × Unit) → Heap → Prop) : fnK C40 Try.f40.results.toList Try.f40.ntmps b40 [(.agg ⟨[(.int .i64 p0.1), (Sl.v p0.2.1)]⟩)] h (outC [aggP [sP, sP, sP]] K) = z40 p0 h K := by kernel_rfl
theorem r40 (p0 : (Int × Sl × Unit)) (h : Heap) (K : (Sl × Sl × Sl × Unit) → Heap → Prop) (H : z40 p0 h K) : t40 p0 h K := fn_stepE (C := C40) (fn := Try.f40) (g := 40) o40 rfl rfl (by kernel_rfl) (by kernel_rfl) (by kernel_rfl) (k40 p0 h K) (by kernel_rfl) H

/-! 41: minikin/minikinref04.Even -/
noncomputable def b41 : Code := Try.f41.body.getD .skip
noncomputable def c41_1910673 : Code := (subN b41 3821347).getD .skip
theorem s41_1910673 : subN b41 3821347 = some c41_1910673 := by kernel_rfl
theorem sl41_1910673 : subN b41 1910673 = some (.loop c41_1910673) := by kernel_rfl
noncomputable def l41_1910673 (XR : Bool → Heap → Prop) (X4 : Option Addr → Sl → Int → Sl → Int → Heap → Prop) : Option Addr → Sl → Int → Sl → Int → Int → Heap → Prop := lC Try.prog none c41_1910673 79 [(1, pP), (3, sP), (4, iP .i64), (5, sP), (6, iP .i64), (7, iP .i64)] (outE noE (grabC 79 [(2, bP)] XR) [(4, (grabC 79 [(1, pP), (3, sP), (4, iP .i64), (5, sP), (6, iP .i64)] X4))])
noncomputable def c41_29853 : Code := (subN b41 59707).getD .skip
theorem s41_29853 : subN b41 59707 = some c41_29853 := by kernel_rfl
theorem sl41_29853 : subN b41 29853 = some (.loop c41_29853) := by kernel_rfl
noncomputable def l41_29853 (XR : Bool → Heap → Prop) (X2 : Option Addr → Sl → Int → Heap → Prop) : Option Addr → Sl → Int → Sl → Int → Heap → Prop := lC Try.prog none c41_29853 79 [(1, pP), (3, sP), (4, iP .i64), (5, sP), (6, iP .i64)] (outE noE (grabC 79 [(2, bP)] XR) [(2, (grabC 79 [(1, pP), (3, sP), (4, iP .i64)] X2))])
noncomputable def c41_57 : Code := (subN b41 115).getD .skip
theorem s41_57 : subN b41 115 = some c41_57 := by kernel_rfl
theorem sl41_57 : subN b41 57 = some (.loop c41_57) := by kernel_rfl
noncomputable def l41_57 (XR : Bool → Heap → Prop) (X0 : Heap → Prop) : Option Addr → Sl → Int → Heap → Prop := lC Try.prog none c41_57 79 [(1, pP), (3, sP), (4, iP .i64)] (outE noE (grabC 79 [(2, bP)] XR) [(0, (grabC 79 [] X0))])
noncomputable def C41 : Ctx := baseC Try.prog [95, 75] none (cons1 48 w48 (allF Try.prog)) (allI Try.prog) (cons1 57 (gC 79 [(1, pP), (3, sP), (4, iP .i64)] none (some [(2, bP)]) [(0, [])] (lC Try.prog none c41_57 79 [(1, pP), (3, sP), (4, iP .i64)])) (cons1 29853 (gC 79 [(1, pP), (3, sP), (4, iP .i64), (5, sP), (6, iP .i64)] none (some [(2, bP)]) [(2, [(1, pP), (3, sP), (4, iP .i64)])] (lC Try.prog none c41_29853 79 [(1, pP), (3, sP), (4, iP .i64), (5, sP), (6, iP .i64)])) (cons1 1910673 (gC 79 [(1, pP), (3, sP), (4, iP .i64), (5, sP), (6, iP .i64), (7, iP .i64)] none (some [(2, bP)]) [(4, [(1, pP), (3, sP), (4, iP .i64), (5, sP), (6, iP .i64)])] (lC Try.prog none c41_1910673 79 [(1, pP), (3, sP), (4, iP .i64), (5, sP), (6, iP .i64), (7, iP .i64)])) none1)))
theorem o41 : CtxOK (C41) b41 := (addL (addL (addL (addF (base_ok eqOK mixOK none b41) (wC_ok Try.prog 48 [aggP [iP .i64, sP], iP .i64, iP .i64] [bP])) sl41_1910673) sl41_29853) sl41_57)
def z41_1910673 (XR : Bool → Heap → Prop) (X4 : Option Addr → Sl → Int → Sl → Int → Heap → Prop) (v31 : Option Addr) (v32 : Sl) (v33 : Int) (v34 : Sl) (v35 : Int) (v36 : Int) (h37 : Heap) : Prop :=
 (Go.AM.get v31 fun a40 =>
 (Go.AM.get (asI .i64 (Heap.rd h37 ⟨a40.block, a40.off, none⟩)) fun y41 =>
 (branch (decide (v36 < y41))
 (Go.AM.get v31 fun a49 =>
 (Go.AM.get (asI .i64 (Heap.rd h37 ⟨a49.block, a49.off, none⟩)) fun y50 =>
 (Go.AM.get (asS (Heap.rd h37 ⟨a49.block, (a49.off + 1), none⟩)) fun y51 =>
 (Go.AM.get v34.a fun a52 =>
 (chk (idx v35 v34.len) <|
 (Go.AM.get (asI .i64 (Heap.rd h37 ⟨a52.block, (a52.off + ((Int.toNat v35) * 1)), none⟩)) fun y53 =>
 (t48 (y50, y51, ()) y53 v36 h37 fun r54 h55 =>
 (branch (!r54)
 (l41_1910673 XR X4 v31 v32 v33 v34 v35 (IntKind.wrap .i64 (v36 + 1)) h55)
 (Go.AM.get v32.a fun a58 =>
 (chk (idx v36 v32.len) <|
 (Go.AM.get (asI .i64 (Heap.rd h55 ⟨a58.block, (a58.off + ((Int.toNat v36) * 1)), none⟩)) fun y59 =>
 (branch (y59 == 0)
 (Go.AM.get v34.a fun a60 =>
 (chk (idx v35 v34.len) <|
 (Go.AM.get (asI .i64 (Heap.rd h55 ⟨a60.block, (a60.off + ((Int.toNat v35) * 1)), none⟩)) fun y61 =>
 (Go.AM.get v32.a fun a62 =>
 (chk (idx y61 v32.len) <|
 (Go.AM.get (asI .i64 (Heap.rd h55 ⟨a62.block, (a62.off + ((Int.toNat y61) * 1)), none⟩)) fun y63 =>
 (Go.AM.get v32.a fun a64 =>
 (chk (idx v36 v32.len) <|
 (Go.AM.get (Heap.wr h55 ⟨a64.block, (a64.off + ((Int.toNat v36) * 1)), none⟩ [(.int .i64 (IntKind.wrap .i64 (0 - y63)))]) fun h65 =>
 (withH (Heap.new h65 (.cells [(.int .i64 v36)] false)) fun h66 =>
 (Go.AM.get (Heap.rdN h66 ⟨h65.next, 0, none⟩ 1) fun y67 =>
 (Go.AM.get (Heap.app h66 1 8 v34 1 y67) fun r68 =>
 (l41_1910673 XR X4 v31 v32 v33 r68.1 v35 (IntKind.wrap .i64 (v36 + 1)) r68.2)))))))))))))
 (Go.AM.get v32.a fun a69 =>
 (chk (idx v36 v32.len) <|
 (Go.AM.get (asI .i64 (Heap.rd h55 ⟨a69.block, (a69.off + ((Int.toNat v36) * 1)), none⟩)) fun y70 =>
 (Go.AM.get v34.a fun a71 =>
 (chk (idx v35 v34.len) <|
 (Go.AM.get (asI .i64 (Heap.rd h55 ⟨a71.block, (a71.off + ((Int.toNat v35) * 1)), none⟩)) fun y72 =>
 (Go.AM.get v32.a fun a73 =>
 (chk (idx y72 v32.len) <|
 (Go.AM.get (asI .i64 (Heap.rd h55 ⟨a73.block, (a73.off + ((Int.toNat y72) * 1)), none⟩)) fun y74 =>
 (branch (y70 == y74)
 (XR false h55)
 (l41_1910673 XR X4 v31 v32 v33 v34 v35 (IntKind.wrap .i64 (v36 + 1)) h55)))))))))))))))))))))))
 (X4 v31 v32 v33 v34 v35 h37))))
theorem k41_1910673 (XR : Bool → Heap → Prop) (X4 : Option Addr → Sl → Int → Sl → Int → Heap → Prop) (v31 : Option Addr) (v32 : Sl) (v33 : Int) (v34 : Sl) (v35 : Int) (v36 : Int) (h37 : Heap) : (exec (C41) c41_1910673 false 3821347 (Fr.put (Fr.put (Fr.put (Fr.put (Fr.put (Fr.put (Fr0 79) (some 1) (.pointer v31)) (some 3) (Sl.v v32)) (some 4) (.int .i64 v33)) (some 5) (Sl.v v34)) (some 6) (.int .i64 v35)) (some 7) (.int .i64 v36)) h37 (loopE (grabC 79 [(1, pP), (3, sP), (4, iP .i64), (5, sP), (6, iP .i64), (7, iP .i64)] (lC (C41).P (C41).yld c41_1910673 79 [(1, pP), (3, sP), (4, iP .i64), (5, sP), (6, iP .i64), (7, iP .i64)] (outE noE (grabC 79 [(2, bP)] XR) [(4, (grabC 79 [(1, pP), (3, sP), (4, iP .i64), (5, sP), (6, iP .i64)] X4))]))) (outE noE (grabC 79 [(2, bP)] XR) [(4, (grabC 79 [(1, pP), (3, sP), (4, iP .i64), (5, sP), (6, iP .i64)] X4))]))) = z41_1910673 XR X4 v31 v32 v33 v34 v35 v36 h37 := by kernel_rfl
theorem r41_1910673 (XR : Bool → Heap → Prop) (X4 : Option Addr → Sl → Int → Sl → Int → Heap → Prop) (v31 : Option Addr) (v32 : Sl) (v33 : Int) (v34 : Sl) (v35 : Int) (v36 : Int) (h37 : Heap) (H : z41_1910673 XR X4 v31 v32 v33 v34 v35 v36 h37) : l41_1910673 XR X4 v31 v32 v33 v34 v35 v36 h37 := loop_stepE (p := 1910673) (N := 79) (keep := [(1, pP), (3, sP), (4, iP .i64), (5, sP), (6, iP .i64), (7, iP .i64)]) (o41) rfl s41_1910673 (k41_1910673 XR X4 v31 v32 v33 v34 v35 v36 h37) (by kernel_rfl) H
def z41_29853 (XR : Bool → Heap → Prop) (X2 : Option Addr → Sl → Int → Heap → Prop) (v25 : Option Addr) (v26 : Sl) (v27 : Int) (v28 : Sl) (v29 : Int) (h30 : Heap) : Prop :=
 (branch (decide (v29 < ((v28.len : Nat) : Int)))
 (l41_1910673
 (fun z75 h76 =>
 (XR z75 h76))
 (fun z77 z78 z79 z80 z81 h82 =>
 (l41_29853 XR X2 z77 z78 z79 z80 (IntKind.wrap .i64 (z81 + 1)) h82))
 v25 v26 v27 v28 v29 0 h30)
 (X2 v25 v26 v27 h30))
theorem k41_29853 (XR : Bool → Heap → Prop) (X2 : Option Addr → Sl → Int → Heap → Prop) (v25 : Option Addr) (v26 : Sl) (v27 : Int) (v28 : Sl) (v29 : Int) (h30 : Heap) : (exec (C41) c41_29853 false 59707 (Fr.put (Fr.put (Fr.put (Fr.put (Fr.put (Fr0 79) (some 1) (.pointer v25)) (some 3) (Sl.v v26)) (some 4) (.int .i64 v27)) (some 5) (Sl.v v28)) (some 6) (.int .i64 v29)) h30 (loopE (grabC 79 [(1, pP), (3, sP), (4, iP .i64), (5, sP), (6, iP .i64)] (lC (C41).P (C41).yld c41_29853 79 [(1, pP), (3, sP), (4, iP .i64), (5, sP), (6, iP .i64)] (outE noE (grabC 79 [(2, bP)] XR) [(2, (grabC 79 [(1, pP), (3, sP), (4, iP .i64)] X2))]))) (outE noE (grabC 79 [(2, bP)] XR) [(2, (grabC 79 [(1, pP), (3, sP), (4, iP .i64)] X2))]))) = z41_29853 XR X2 v25 v26 v27 v28 v29 h30 := by kernel_rfl
theorem r41_29853 (XR : Bool → Heap → Prop) (X2 : Option Addr → Sl → Int → Heap → Prop) (v25 : Option Addr) (v26 : Sl) (v27 : Int) (v28 : Sl) (v29 : Int) (h30 : Heap) (H : z41_29853 XR X2 v25 v26 v27 v28 v29 h30) : l41_29853 XR X2 v25 v26 v27 v28 v29 h30 := loop_stepE (p := 29853) (N := 79) (keep := [(1, pP), (3, sP), (4, iP .i64), (5, sP), (6, iP .i64)]) (o41) rfl s41_29853 (k41_29853 XR X2 v25 v26 v27 v28 v29 h30) (by kernel_rfl) H
def z41_57 (XR : Bool → Heap → Prop) (X0 : Heap → Prop) (v7 : Option Addr) (v8 : Sl) (v9 : Int) (h10 : Heap) : Prop :=
 (Go.AM.get v7 fun a13 =>
 (Go.AM.get (asI .i64 (Heap.rd h10 ⟨a13.block, a13.off, none⟩)) fun y14 =>
 (branch (decide (v9 < y14))
 (Go.AM.get v8.a fun a17 =>
 (chk (idx v9 v8.len) <|
 (Go.AM.get (asI .i64 (Heap.rd h10 ⟨a17.block, (a17.off + ((Int.toNat v9) * 1)), none⟩)) fun y18 =>
 (branch (y18 != 0)
 (l41_57 XR X0 v7 v8 (IntKind.wrap .i64 (v9 + 1)) h10)
 (Go.AM.get v8.a fun a21 =>
 (chk (idx v9 v8.len) <|
 (Go.AM.get (Heap.wr h10 ⟨a21.block, (a21.off + ((Int.toNat v9) * 1)), none⟩ [(.int .i64 1)]) fun h22 =>
 (withH (Heap.new h22 (.cells [(.int .i64 v9)] false)) fun h24 =>
 (l41_29853
 (fun z83 h84 =>
 (XR z83 h84))
 (fun z85 z86 z87 h88 =>
 (l41_57 XR X0 z85 z86 (IntKind.wrap .i64 (z87 + 1)) h88))
 v7 v8 v9 (Sl.mk (some ⟨h22.next, 0, (some 0)⟩) 1 1) 0 h24)))))))))
 (X0 h10))))
theorem k41_57 (XR : Bool → Heap → Prop) (X0 : Heap → Prop) (v7 : Option Addr) (v8 : Sl) (v9 : Int) (h10 : Heap) : (exec (C41) c41_57 false 115 (Fr.put (Fr.put (Fr.put (Fr0 79) (some 1) (.pointer v7)) (some 3) (Sl.v v8)) (some 4) (.int .i64 v9)) h10 (loopE (grabC 79 [(1, pP), (3, sP), (4, iP .i64)] (lC (C41).P (C41).yld c41_57 79 [(1, pP), (3, sP), (4, iP .i64)] (outE noE (grabC 79 [(2, bP)] XR) [(0, (grabC 79 [] X0))]))) (outE noE (grabC 79 [(2, bP)] XR) [(0, (grabC 79 [] X0))]))) = z41_57 XR X0 v7 v8 v9 h10 := by kernel_rfl
theorem r41_57 (XR : Bool → Heap → Prop) (X0 : Heap → Prop) (v7 : Option Addr) (v8 : Sl) (v9 : Int) (h10 : Heap) (H : z41_57 XR X0 v7 v8 v9 h10) : l41_57 XR X0 v7 v8 v9 h10 := loop_stepE (p := 57) (N := 79) (keep := [(1, pP), (3, sP), (4, iP .i64)]) (o41) rfl s41_57 (k41_57 XR X0 v7 v8 v9 h10) (by kernel_rfl) H
def z41 (p0 : (Int × Sl × Unit)) (h : Heap) (K : Bool → Heap → Prop) : Prop :=
 (withH (Heap.new h (.cells [(.int .i64 p0.1), (Sl.v p0.2.1)] false)) fun h2 =>
 (Go.AM.get (asI .i64 (Heap.rd h2 ⟨h.next, 0, none⟩)) fun y5 =>
 (chk (within 0 y5 y5 && (decide (y5 ≤ 1000000000000) && (small (Int.toNat y5) 8 && true))) <|
 (withH (Heap.new h2 (.cells (rep [(.int .i64 0)] (Int.toNat y5)) false)) fun h6 =>
 (l41_57
 (fun z89 h90 =>
 (K z89 h90))
 (fun h91 =>
 (K true h91))
 (some ⟨h.next, 0, none⟩) (Sl.mk (some ⟨h2.next, 0, (some 0)⟩) (Int.toNat y5) (Int.toNat y5)) 0 h6)))))
theorem k41 (p0 : (Int × Sl × Unit)) (h : Heap) (K : Bool → Heap → Prop) : fnK C41 Try.f41.results.toList Try.f41.ntmps b41 [(.agg ⟨[(.int .i64 p0.1), (Sl.v p0.2.1)]⟩)] h (outC [bP] K) = z41 p0 h K := by kernel_rfl
theorem r41 (p0 : (Int × Sl × Unit)) (h : Heap) (K : Bool → Heap → Prop) (H : z41 p0 h K) : t41 p0 h K := fn_stepE (C := C41) (fn := Try.f41) (g := 41) o41 rfl rfl (by kernel_rfl) (by kernel_rfl) (by kernel_rfl) (k41 p0 h K) (by kernel_rfl) H

/-! 42: minikin/minikinref04.Covers -/
noncomputable def b42 : Code := Try.f42.body.getD .skip
noncomputable def c42_25 : Code := (subN b42 51).getD .skip
theorem s42_25 : subN b42 51 = some c42_25 := by kernel_rfl
theorem sl42_25 : subN b42 25 = some (.loop c42_25) := by kernel_rfl
noncomputable def l42_25 (XR : Bool → Heap → Prop) (X0 : Sl → Option Addr → Heap → Prop) : Sl → Option Addr → Int → Heap → Prop := lC Try.prog none c42_25 36 [(1, sP), (2, pP), (5, iP .i64)] (outE noE (grabC 36 [(4, bP)] XR) [(0, (grabC 36 [(1, sP), (2, pP)] X0))])
noncomputable def C42 : Ctx := baseC Try.prog [95, 75] none (cons1 62 w62 (cons1 17 w17 (allF Try.prog))) (allI Try.prog) (cons1 25 (gC 36 [(1, sP), (2, pP), (5, iP .i64)] none (some [(4, bP)]) [(0, [(1, sP), (2, pP)])] (lC Try.prog none c42_25 36 [(1, sP), (2, pP), (5, iP .i64)])) none1)
theorem o42 : CtxOK (C42) b42 := (addL (addF (addF (base_ok eqOK mixOK none b42) (wC_ok Try.prog 17 [sP, iP .i64] [bP])) (wC_ok Try.prog 62 [aggP [iP .i64, sP], sP] [bP])) sl42_25)
def z42_25 (XR : Bool → Heap → Prop) (X0 : Sl → Option Addr → Heap → Prop) (v3 : Sl) (v4 : Option Addr) (v5 : Int) (h6 : Heap) : Prop :=
 (Go.AM.get v4 fun a9 =>
 (Go.AM.get (asS (Heap.rd h6 ⟨a9.block, (a9.off + 1), none⟩)) fun y10 =>
 (branch (decide (v5 < ((y10.len : Nat) : Int)))
 (Go.AM.get v4 fun a11 =>
 (Go.AM.get (asS (Heap.rd h6 ⟨a11.block, (a11.off + 1), none⟩)) fun y12 =>
 (Go.AM.get y12.a fun a13 =>
 (chk (idx v5 y12.len) <|
 (Go.AM.get (asI .i64 (Heap.rd h6 ⟨a13.block, (a13.off + ((Int.toNat v5) * 2)), none⟩)) fun y14 =>
 (t17 v3 y14 h6 fun r15 h16 =>
 (branch (!r15)
 (Go.AM.get v4 fun a17 =>
 (Go.AM.get (asS (Heap.rd h16 ⟨a17.block, (a17.off + 1), none⟩)) fun y18 =>
 (Go.AM.get y18.a fun a19 =>
 (chk (idx v5 y18.len) <|
 (Go.AM.get (asI .i64 (Heap.rd h16 ⟨a19.block, ((a19.off + ((Int.toNat v5) * 2)) + 1), none⟩)) fun y20 =>
 (t17 v3 y20 h16 fun r21 h22 =>
 (branch (!r21)
 (XR false h22)
 (l42_25 XR X0 v3 v4 (IntKind.wrap .i64 (v5 + 1)) h22))))))))
 (l42_25 XR X0 v3 v4 (IntKind.wrap .i64 (v5 + 1)) h16))))))))
 (X0 v3 v4 h6))))
theorem k42_25 (XR : Bool → Heap → Prop) (X0 : Sl → Option Addr → Heap → Prop) (v3 : Sl) (v4 : Option Addr) (v5 : Int) (h6 : Heap) : (exec (C42) c42_25 false 51 (Fr.put (Fr.put (Fr.put (Fr0 36) (some 1) (Sl.v v3)) (some 2) (.pointer v4)) (some 5) (.int .i64 v5)) h6 (loopE (grabC 36 [(1, sP), (2, pP), (5, iP .i64)] (lC (C42).P (C42).yld c42_25 36 [(1, sP), (2, pP), (5, iP .i64)] (outE noE (grabC 36 [(4, bP)] XR) [(0, (grabC 36 [(1, sP), (2, pP)] X0))]))) (outE noE (grabC 36 [(4, bP)] XR) [(0, (grabC 36 [(1, sP), (2, pP)] X0))]))) = z42_25 XR X0 v3 v4 v5 h6 := by kernel_rfl
theorem r42_25 (XR : Bool → Heap → Prop) (X0 : Sl → Option Addr → Heap → Prop) (v3 : Sl) (v4 : Option Addr) (v5 : Int) (h6 : Heap) (H : z42_25 XR X0 v3 v4 v5 h6) : l42_25 XR X0 v3 v4 v5 h6 := loop_stepE (p := 25) (N := 36) (keep := [(1, sP), (2, pP), (5, iP .i64)]) (o42) rfl s42_25 (k42_25 XR X0 v3 v4 v5 h6) (by kernel_rfl) H
def z42 (p0 : (Int × Sl × Unit)) (p1 : Sl) (h : Heap) (K : Bool → Heap → Prop) : Prop :=
 (withH (Heap.new h (.cells [(.int .i64 p0.1), (Sl.v p0.2.1)] false)) fun h2 =>
 (l42_25
 (fun z23 h24 =>
 (K z23 h24))
 (fun z25 z26 h27 =>
 (Go.AM.get z26 fun a28 =>
 (Go.AM.get (asI .i64 (Heap.rd h27 ⟨a28.block, a28.off, none⟩)) fun y29 =>
 (Go.AM.get (asS (Heap.rd h27 ⟨a28.block, (a28.off + 1), none⟩)) fun y30 =>
 (t62 (y29, y30, ()) z25 h27 fun r31 h32 =>
 (K r31 h32))))))
 p1 (some ⟨h.next, 0, none⟩) 0 h2))
theorem k42 (p0 : (Int × Sl × Unit)) (p1 : Sl) (h : Heap) (K : Bool → Heap → Prop) : fnK C42 Try.f42.results.toList Try.f42.ntmps b42 [(.agg ⟨[(.int .i64 p0.1), (Sl.v p0.2.1)]⟩), (Sl.v p1)] h (outC [bP] K) = z42 p0 p1 h K := by kernel_rfl
theorem r42 (p0 : (Int × Sl × Unit)) (p1 : Sl) (h : Heap) (K : Bool → Heap → Prop) (H : z42 p0 p1 h K) : t42 p0 p1 h K := fn_stepE (C := C42) (fn := Try.f42) (g := 42) o42 rfl rfl (by kernel_rfl) (by kernel_rfl) (by kernel_rfl) (k42 p0 p1 h K) (by kernel_rfl) H

/-! 43: minikin/minikintop.small -/
noncomputable def b43 : Code := Try.f43.body.getD .skip
noncomputable def C43 : Ctx := baseC Try.prog [95, 75] none (allF Try.prog) (allI Try.prog) none1
theorem o43 : CtxOK (C43) b43 := (base_ok eqOK mixOK none b43)
def z43 (p0 : Int) (p1 : Int) (h : Heap) (K : Int → Heap → Prop) : Prop :=
 (chk ((IntKind.wrap .u64 (IntKind.wrap .i64 (p1 + 1))) != 0) <|
 (K (IntKind.wrap .i64 (Int.tmod (IntKind.wrap .u64 p0) (IntKind.wrap .u64 (IntKind.wrap .i64 (p1 + 1))))) h))
theorem k43 (p0 : Int) (p1 : Int) (h : Heap) (K : Int → Heap → Prop) : fnK C43 Try.f43.results.toList Try.f43.ntmps b43 [(.int .i64 p0), (.int .i64 p1)] h (outC [iP .i64] K) = z43 p0 p1 h K := by kernel_rfl
theorem r43 (p0 : Int) (p1 : Int) (h : Heap) (K : Int → Heap → Prop) (H : z43 p0 p1 h K) : t43 p0 p1 h K := fn_stepE (C := C43) (fn := Try.f43) (g := 43) o43 rfl rfl (by kernel_rfl) (by kernel_rfl) (by kernel_rfl) (k43 p0 p1 h K) (by kernel_rfl) H

/-! 44: minikin/pair.Assign -/
noncomputable def b44 : Code := Try.f44.body.getD .skip
noncomputable def c44_505 : Code := (subN b44 1011).getD .skip
theorem s44_505 : subN b44 1011 = some c44_505 := by kernel_rfl
theorem sl44_505 : subN b44 505 = some (.loop c44_505) := by kernel_rfl
noncomputable def l44_505 (X0 : Sl → Int → Sl → Int → Sl → Heap → Prop) : Sl → Int → Sl → Int → Sl → Int → Int → Heap → Prop := lC Try.prog none c44_505 77 [(2, sP), (3, iP .i64), (6, sP), (7, iP .i64), (8, sP), (22, iP .i64), (23, iP .i64)] (outE noE noE [(0, (grabC 77 [(2, sP), (3, iP .i64), (6, sP), (7, iP .i64), (8, sP)] X0))])
noncomputable def c44_16265 : Code := (subN b44 32531).getD .skip
theorem s44_16265 : subN b44 32531 = some c44_16265 := by kernel_rfl
theorem sl44_16265 : subN b44 16265 = some (.loop c44_16265) := by kernel_rfl
noncomputable def l44_16265 (X4 : Sl → Int → Sl → Int → Sl → Heap → Prop) : Sl → Int → Sl → Int → Sl → Int → Int → Heap → Prop := lC Try.prog none c44_16265 77 [(2, sP), (3, iP .i64), (6, sP), (7, iP .i64), (8, sP), (35, iP .i64), (36, iP .i64)] (outE noE noE [(4, (grabC 77 [(2, sP), (3, iP .i64), (6, sP), (7, iP .i64), (8, sP)] X4))])
noncomputable def c44_507 : Code := (subN b44 1015).getD .skip
theorem s44_507 : subN b44 1015 = some c44_507 := by kernel_rfl
theorem sl44_507 : subN b44 507 = some (.loop c44_507) := by kernel_rfl
noncomputable def l44_507 (X2 : Sl → Int → Heap → Prop) : Sl → Int → Sl → Int → Sl → Heap → Prop := lC Try.prog none c44_507 77 [(2, sP), (3, iP .i64), (6, sP), (7, iP .i64), (8, sP)] (outE noE noE [(2, (grabC 77 [(2, sP), (3, iP .i64)] X2))])
noncomputable def C44 : Ctx := baseC Try.prog [95, 75] none (cons1 66 w66 (cons1 65 w65 (cons1 64 w64 (cons1 63 w63 (allF Try.prog))))) (allI Try.prog) (cons1 507 (gC 77 [(2, sP), (3, iP .i64), (6, sP), (7, iP .i64), (8, sP)] none none [(2, [(2, sP), (3, iP .i64)])] (lC Try.prog none c44_507 77 [(2, sP), (3, iP .i64), (6, sP), (7, iP .i64), (8, sP)])) (cons1 16265 (gC 77 [(2, sP), (3, iP .i64), (6, sP), (7, iP .i64), (8, sP), (35, iP .i64), (36, iP .i64)] none none [(4, [(2, sP), (3, iP .i64), (6, sP), (7, iP .i64), (8, sP)])] (lC Try.prog none c44_16265 77 [(2, sP), (3, iP .i64), (6, sP), (7, iP .i64), (8, sP), (35, iP .i64), (36, iP .i64)])) (cons1 505 (gC 77 [(2, sP), (3, iP .i64), (6, sP), (7, iP .i64), (8, sP), (22, iP .i64), (23, iP .i64)] none none [(0, [(2, sP), (3, iP .i64), (6, sP), (7, iP .i64), (8, sP)])] (lC Try.prog none c44_505 77 [(2, sP), (3, iP .i64), (6, sP), (7, iP .i64), (8, sP), (22, iP .i64), (23, iP .i64)])) none1)))
theorem o44 : CtxOK (C44) b44 := (addL (addL (addL (addF (addF (addF (addF (base_ok eqOK mixOK none b44) (wC_ok Try.prog 63 [sP] [iP .i64])) (wC_ok Try.prog 64 [sP] [iP .i64])) (wC_ok Try.prog 65 [sP, iP .i64] [sP])) (wC_ok Try.prog 66 [sP, iP .i64, iP .i64] [sP])) sl44_505) sl44_16265) sl44_507)
def z44_505 (X0 : Sl → Int → Sl → Int → Sl → Heap → Prop) (v11 : Sl) (v12 : Int) (v13 : Sl) (v14 : Int) (v15 : Sl) (v16 : Int) (v17 : Int) (h18 : Heap) : Prop :=
 (branch (decide (v17 < v16))
 (withH (Heap.new h18 (.cells [(.int .i64 v17)] false)) fun h19 =>
 (Go.AM.get (Heap.rdN h19 ⟨h18.next, 0, none⟩ 1) fun y20 =>
 (Go.AM.get (Heap.app h19 1 8 v15 1 y20) fun r21 =>
 (l44_505 X0 v11 v12 v13 v14 r21.1 v16 (IntKind.wrap .i64 (v17 + 1)) r21.2))))
 (X0 v11 v12 v13 v14 v15 h18))
theorem k44_505 (X0 : Sl → Int → Sl → Int → Sl → Heap → Prop) (v11 : Sl) (v12 : Int) (v13 : Sl) (v14 : Int) (v15 : Sl) (v16 : Int) (v17 : Int) (h18 : Heap) : (exec (C44) c44_505 false 1011 (Fr.put (Fr.put (Fr.put (Fr.put (Fr.put (Fr.put (Fr.put (Fr0 77) (some 2) (Sl.v v11)) (some 3) (.int .i64 v12)) (some 6) (Sl.v v13)) (some 7) (.int .i64 v14)) (some 8) (Sl.v v15)) (some 22) (.int .i64 v16)) (some 23) (.int .i64 v17)) h18 (loopE (grabC 77 [(2, sP), (3, iP .i64), (6, sP), (7, iP .i64), (8, sP), (22, iP .i64), (23, iP .i64)] (lC (C44).P (C44).yld c44_505 77 [(2, sP), (3, iP .i64), (6, sP), (7, iP .i64), (8, sP), (22, iP .i64), (23, iP .i64)] (outE noE noE [(0, (grabC 77 [(2, sP), (3, iP .i64), (6, sP), (7, iP .i64), (8, sP)] X0))]))) (outE noE noE [(0, (grabC 77 [(2, sP), (3, iP .i64), (6, sP), (7, iP .i64), (8, sP)] X0))]))) = z44_505 X0 v11 v12 v13 v14 v15 v16 v17 h18 := by kernel_rfl
theorem r44_505 (X0 : Sl → Int → Sl → Int → Sl → Heap → Prop) (v11 : Sl) (v12 : Int) (v13 : Sl) (v14 : Int) (v15 : Sl) (v16 : Int) (v17 : Int) (h18 : Heap) (H : z44_505 X0 v11 v12 v13 v14 v15 v16 v17 h18) : l44_505 X0 v11 v12 v13 v14 v15 v16 v17 h18 := loop_stepE (p := 505) (N := 77) (keep := [(2, sP), (3, iP .i64), (6, sP), (7, iP .i64), (8, sP), (22, iP .i64), (23, iP .i64)]) (o44) rfl s44_505 (k44_505 X0 v11 v12 v13 v14 v15 v16 v17 h18) (by kernel_rfl) H
def z44_16265 (X4 : Sl → Int → Sl → Int → Sl → Heap → Prop) (v40 : Sl) (v41 : Int) (v42 : Sl) (v43 : Int) (v44 : Sl) (v45 : Int) (v46 : Int) (h47 : Heap) : Prop :=
 (branch (decide (v46 < v45))
 (t65 v42 v46 h47 fun r50 h51 =>
 (Go.AM.get v42.a fun a60 =>
 (chk (idx 0 v42.len) <|
 (Go.AM.get (asS (Heap.rd h51 ⟨a60.block, a60.off, none⟩)) fun y61 =>
 (Go.AM.get y61.a fun a62 =>
 (chk (idx v46 y61.len) <|
 (Go.AM.get (asI .i64 (Heap.rd h51 ⟨a62.block, (a62.off + ((Int.toNat v46) * 1)), none⟩)) fun y63 =>
 (t64 r50 h51 fun r64 h65 =>
 ((Go.AM.get (asI .i64 (Heap.rd h65 ⟨a62.block, (a62.off + ((Int.toNat v46) * 1)), none⟩)) fun y66 =>
 (((.int .i64 y66) : Value) = (.int .i64 y63))) ∧ ((Go.AM.get (asS (Heap.rd h65 ⟨a60.block, a60.off, none⟩)) fun y67 =>
 (((Sl.v y67) : Value) = (Sl.v y61))) ∧ (branch ((IntKind.wrap .i64 (y63 + r64)) == v43)
 (Go.AM.get v44.a fun a73 =>
 (chk (idx v46 v44.len) <|
 (Go.AM.get (asI .i64 (Heap.rd h65 ⟨a73.block, (a73.off + ((Int.toNat v46) * 1)), none⟩)) fun y74 =>
 (withH (Heap.new h65 (.cells [(.int .i64 y74)] false)) fun h75 =>
 (Go.AM.get (Heap.rdN h75 ⟨h65.next, 0, none⟩ 1) fun y76 =>
 (Go.AM.get (Heap.app h75 1 8 v40 1 y76) fun r77 =>
 (Go.AM.get v42.a fun a82 =>
 (chk (idx 0 v42.len) <|
 (Go.AM.get (asS (Heap.rd r77.2 ⟨a82.block, a82.off, none⟩)) fun y83 =>
 (Go.AM.get y83.a fun a84 =>
 (chk (idx v46 y83.len) <|
 (Go.AM.get (asI .i64 (Heap.rd r77.2 ⟨a84.block, (a84.off + ((Int.toNat v46) * 1)), none⟩)) fun y85 =>
 (t66 v44 v46 (IntKind.wrap .i64 (v46 + 1)) r77.2 fun r86 h87 =>
 (X4 r77.1 v41 r50 (IntKind.wrap .i64 (v43 - y85)) r86 h87))))))))))))))
 (l44_16265 X4 v40 v41 v42 v43 v44 v45 (IntKind.wrap .i64 (v46 + 1)) h65))))))))))))
 (X4 v40 v41 v42 v43 v44 h47))
theorem k44_16265 (X4 : Sl → Int → Sl → Int → Sl → Heap → Prop) (v40 : Sl) (v41 : Int) (v42 : Sl) (v43 : Int) (v44 : Sl) (v45 : Int) (v46 : Int) (h47 : Heap) : (exec (C44) c44_16265 false 32531 (Fr.put (Fr.put (Fr.put (Fr.put (Fr.put (Fr.put (Fr.put (Fr0 77) (some 2) (Sl.v v40)) (some 3) (.int .i64 v41)) (some 6) (Sl.v v42)) (some 7) (.int .i64 v43)) (some 8) (Sl.v v44)) (some 35) (.int .i64 v45)) (some 36) (.int .i64 v46)) h47 (loopE (grabC 77 [(2, sP), (3, iP .i64), (6, sP), (7, iP .i64), (8, sP), (35, iP .i64), (36, iP .i64)] (lC (C44).P (C44).yld c44_16265 77 [(2, sP), (3, iP .i64), (6, sP), (7, iP .i64), (8, sP), (35, iP .i64), (36, iP .i64)] (outE noE noE [(4, (grabC 77 [(2, sP), (3, iP .i64), (6, sP), (7, iP .i64), (8, sP)] X4))]))) (outE noE noE [(4, (grabC 77 [(2, sP), (3, iP .i64), (6, sP), (7, iP .i64), (8, sP)] X4))]))) = z44_16265 X4 v40 v41 v42 v43 v44 v45 v46 h47 := by kernel_rfl
theorem r44_16265 (X4 : Sl → Int → Sl → Int → Sl → Heap → Prop) (v40 : Sl) (v41 : Int) (v42 : Sl) (v43 : Int) (v44 : Sl) (v45 : Int) (v46 : Int) (h47 : Heap) (H : z44_16265 X4 v40 v41 v42 v43 v44 v45 v46 h47) : l44_16265 X4 v40 v41 v42 v43 v44 v45 v46 h47 := loop_stepE (p := 16265) (N := 77) (keep := [(2, sP), (3, iP .i64), (6, sP), (7, iP .i64), (8, sP), (35, iP .i64), (36, iP .i64)]) (o44) rfl s44_16265 (k44_16265 X4 v40 v41 v42 v43 v44 v45 v46 h47) (by kernel_rfl) H
def z44_507 (X2 : Sl → Int → Heap → Prop) (v34 : Sl) (v35 : Int) (v36 : Sl) (v37 : Int) (v38 : Sl) (h39 : Heap) : Prop :=
 (branch (decide (((v36.len : Nat) : Int) > 0))
 (l44_16265
 (fun z88 z89 z90 z91 z92 h93 =>
 (l44_507 X2 z88 z89 z90 z91 z92 h93))
 v34 v35 v36 v37 v38 ((v36.len : Nat) : Int) 0 h39)
 (X2 v34 v35 h39))
theorem k44_507 (X2 : Sl → Int → Heap → Prop) (v34 : Sl) (v35 : Int) (v36 : Sl) (v37 : Int) (v38 : Sl) (h39 : Heap) : (exec (C44) c44_507 false 1015 (Fr.put (Fr.put (Fr.put (Fr.put (Fr.put (Fr0 77) (some 2) (Sl.v v34)) (some 3) (.int .i64 v35)) (some 6) (Sl.v v36)) (some 7) (.int .i64 v37)) (some 8) (Sl.v v38)) h39 (loopE (grabC 77 [(2, sP), (3, iP .i64), (6, sP), (7, iP .i64), (8, sP)] (lC (C44).P (C44).yld c44_507 77 [(2, sP), (3, iP .i64), (6, sP), (7, iP .i64), (8, sP)] (outE noE noE [(2, (grabC 77 [(2, sP), (3, iP .i64)] X2))]))) (outE noE noE [(2, (grabC 77 [(2, sP), (3, iP .i64)] X2))]))) = z44_507 X2 v34 v35 v36 v37 v38 h39 := by kernel_rfl
theorem r44_507 (X2 : Sl → Int → Heap → Prop) (v34 : Sl) (v35 : Int) (v36 : Sl) (v37 : Int) (v38 : Sl) (h39 : Heap) (H : z44_507 X2 v34 v35 v36 v37 v38 h39) : l44_507 X2 v34 v35 v36 v37 v38 h39 := loop_stepE (p := 507) (N := 77) (keep := [(2, sP), (3, iP .i64), (6, sP), (7, iP .i64), (8, sP)]) (o44) rfl s44_507 (k44_507 X2 v34 v35 v36 v37 v38 h39) (by kernel_rfl) H
def z44 (p0 : Sl) (h : Heap) (K : Sl → Int → Int → Heap → Prop) : Prop :=
 (t63 p0 h fun r5 h6 =>
 (branch (r5 != 0)
 (K (Sl.mk none 0 0) 0 r5 h6)
 (t64 p0 h6 fun r9 h10 =>
 (l44_505
 (fun z28 z29 z30 z31 z32 h33 =>
 (l44_507
 (fun z94 z95 h96 =>
 (K z94 z95 0 h96))
 z28 z29 z30 z31 z32 h33))
 (Sl.mk none 0 0) r9 p0 r9 (Sl.mk none 0 0) ((p0.len : Nat) : Int) 0 h10))))
theorem k44 (p0 : Sl) (h : Heap) (K : Sl → Int → Int → Heap → Prop) : fnK C44 Try.f44.results.toList Try.f44.ntmps b44 [(Sl.v p0)] h (outC [sP, iP .i64, iP .i64] K) = z44 p0 h K := by kernel_rfl
theorem r44 (p0 : Sl) (h : Heap) (K : Sl → Int → Int → Heap → Prop) (H : z44 p0 h K) : t44 p0 h K := fn_stepE (C := C44) (fn := Try.f44) (g := 44) o44 rfl rfl (by kernel_rfl) (by kernel_rfl) (by kernel_rfl) (k44 p0 h K) (by kernel_rfl) H

end Go.Proofs.Ytalmoilcehhjkaa
