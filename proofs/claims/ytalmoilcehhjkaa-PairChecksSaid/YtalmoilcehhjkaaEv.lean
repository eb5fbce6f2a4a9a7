/- PRINTED BY A PROGRAM OF OURS: the functions of a closed run, to be worked out, and that what is worked out is so. -/
import Derived.Test.YtalmoilcehhjkaaGA
import Derived.Test.YtalmoilcehhjkaaGB
import Derived.Test.YtalmoilcehhjkaaGC
import Derived.Test.YtalmoilcehhjkaaGD
import Derived.Test.YtalmoilcehhjkaaGE
import Derived.Test.YtalmoilcehhjkaaGF
import Derived.Test.YtalmoilcehhjkaaGH
import Derived.Test.YtalmoilcehhjkaaGI
set_option linter.unusedVariables false
set_option linter.unusedSimpArgs false
set_option maxHeartbeats 4000000
namespace Go.Proofs.Ytalmoilcehhjkaa
open Go hiding Expr
open Go.AM hiding get
def eb33_121 (fu : Nat) (V : EV) (XR : Int → Heap → Prop) (X0 : Heap → Prop) (R : Option Addr → Option Nat → Sl → Int → Int → Heap → Prop) (v13 : Option Addr) (v14 : Option Nat) (v15 : Sl) (v16 : Int) (v17 : Int) (h18 : Heap) : Prop :=
 (branch (decide (v17 < v16))
 (Go.AM.get v15.a fun a24 =>
 (chk (idx v17 v15.len) <|
 (Go.AM.get (asI .i64 (Heap.rd h18 ⟨a24.block, (a24.off + ((Int.toNat v17) * 2)), none⟩)) fun y25 =>
 (Go.AM.get (asI .i64 (Heap.rd h18 ⟨a24.block, ((a24.off + ((Int.toNat v17) * 2)) + 1), none⟩)) fun y26 =>
 (withH (Heap.new h18 (.cells [(.int .i64 0), (.int .i64 0)] false)) fun h27 =>
 (Go.AM.get (Heap.wr h27 ⟨h18.next, 0, none⟩ [(.int .i64 y25), (.int .i64 y26)]) fun h28 =>
 (Go.AM.get (asI .i64 (Heap.rd h28 ⟨h18.next, 0, none⟩)) fun y35 =>
 (Go.AM.get (asI .i64 (Heap.rd h28 ⟨h18.next, 1, none⟩)) fun y36 =>
 (Go.AM.get (asI .i64 (Heap.rd h28 ⟨h18.next, 0, none⟩)) fun y37 =>
 (Go.AM.get (asI .i64 (Heap.rd h28 ⟨h18.next, 1, none⟩)) fun y38 =>
 (withH (Heap.new h28 (.cells [(.int .i64 0), (.int .i64 0)] false)) fun h39 =>
 (Go.AM.get (Heap.wr h39 ⟨h28.next, 0, none⟩ [(.int .i64 (if y36 < y35 then y36 else y35)), (.int .i64 (if y38 > y37 then y38 else y37))]) fun h40 =>
 (Go.AM.get (asI .i64 (Heap.rd h40 ⟨h28.next, 0, none⟩)) fun y41 =>
 (branch (decide (y41 < 0))
 (XR 40 h40)
 (Go.AM.get (asI .i64 (Heap.rd h40 ⟨h28.next, 1, none⟩)) fun y42 =>
 (Go.AM.get v13 fun a43 =>
 (Go.AM.get (asI .i64 (Heap.rd h40 ⟨a43.block, a43.off, none⟩)) fun y44 =>
 (branch (decide (y42 ≥ y44))
 (XR 40 h40)
 (Go.AM.get (asI .i64 (Heap.rd h40 ⟨h28.next, 0, none⟩)) fun y45 =>
 (Go.AM.get (asI .i64 (Heap.rd h40 ⟨h28.next, 1, none⟩)) fun y46 =>
 (branch (y45 == y46)
 (XR 40 h40)
 (Go.AM.get (asI .i64 (Heap.rd h40 ⟨h28.next, 0, none⟩)) fun y47 =>
 (Go.AM.get (asI .i64 (Heap.rd h40 ⟨h28.next, 1, none⟩)) fun y48 =>
 (Go.AM.get v14 fun m49 =>
 (Go.AM.get (Heap.mp h40 m49) fun e50 =>
 Go.AM.get (findV Try.prog [95, 75] 95 (.agg ⟨[(.int .i64 y47), (.int .i64 y48)]⟩) e50 0) fun r51 =>
 (Go.AM.get (asB (some ((Option.map (·.2) r51).getD (.bool false)))) fun y52 =>
 (branch y52
 (XR 40 h40)
 (Go.AM.get (asI .i64 (Heap.rd h40 ⟨h28.next, 0, none⟩)) fun y53 =>
 (Go.AM.get (asI .i64 (Heap.rd h40 ⟨h28.next, 1, none⟩)) fun y54 =>
 (Go.AM.get v14 fun m55 =>
 (Go.AM.get (Heap.mp h40 m55) fun e56 =>
 Go.AM.get (findV Try.prog [95, 75] 95 (.agg ⟨[(.int .i64 y53), (.int .i64 y54)]⟩) e56 0) fun r57 =>
 optK r57
 (withH (Heap.put h40 m55 (.map (e56 ++ [((.agg ⟨[(.int .i64 y53), (.int .i64 y54)]⟩), (.bool true))]))) fun h59 => (R v13 v14 v15 v16 (IntKind.wrap .i64 (v17 + 1)) h59))
 fun p58 => (withH (Heap.put h40 m55 (.map (setAt e56 p58.1 (.agg ⟨[(.int .i64 y53), (.int .i64 y54)]⟩) (.bool true)))) fun h60 => (R v13 v14 v15 v16 (IntKind.wrap .i64 (v17 + 1)) h60)))))))))))))))))))))))))))))))))
 (X0 h18))
def el33_121 (fu : Nat) (V : EV) (XR : Int → Heap → Prop) (X0 : Heap → Prop) : Nat → Option Addr → Option Nat → Sl → Int → Int → Heap → Prop
 | 0, _, _, _, _, _, _ => False
 | n + 1, v13, v14, v15, v16, v17, h18 => eb33_121 fu V XR X0 (el33_121 fu V XR X0 n) v13 v14 v15 v16 v17 h18
def e33 (fu : Nat) (V : EV) (p0 : (Int × Sl × Unit)) (h : Heap) (K : Int → Heap → Prop) : Prop :=
 (withH (Heap.new h (.cells [(.int .i64 p0.1), (Sl.v p0.2.1)] false)) fun h2 =>
 (Go.AM.get (asI .i64 (Heap.rd h2 ⟨h.next, 0, none⟩)) fun y6 =>
 (branch (decide (y6 < 1))
 (K 40 h2)
 (Go.AM.get (asI .i64 (Heap.rd h2 ⟨h.next, 0, none⟩)) fun y7 =>
 (branch (decide (y7 > 40))
 (K 40 h2)
 (Go.AM.get (asS (Heap.rd h2 ⟨h.next, 1, none⟩)) fun y8 =>
 (branch (decide (((y8.len : Nat) : Int) > 300))
 (K 40 h2)
 (withH (Heap.new h2 (.map [])) fun h10 =>
 (Go.AM.get (asS (Heap.rd h10 ⟨h.next, 1, none⟩)) fun y12 =>
 (el33_121 fu V
 (fun z61 h62 =>
 (K z61 h62))
 (fun h63 =>
 (K 0 h63))
 fu (some ⟨h.next, 0, none⟩) (some h2.next) y12 ((y12.len : Nat) : Int) 0 h10))))))))))

def eq49_7474 (fu : Nat) (V : EV) (XN : Int → Option Addr → Sl → Int → Int → Heap → Prop) (v27 : Int) (v28 : Option Addr) (v29 : Option Addr) (v30 : Sl) (v31 : Int) (v32 : Int) (v33 : Bool) (h34 : Heap) : Prop :=
 (branch v33
 (Go.AM.get v29 fun a35 =>
 (Go.AM.get (asI .i64 (Heap.rd h34 ⟨a35.block, a35.off, none⟩)) fun y36 =>
 (Go.AM.get v29 fun a37 =>
 (Go.AM.get (asI .i64 (Heap.rd h34 ⟨a37.block, (a37.off + 1), none⟩)) fun y38 =>
 (Go.AM.get v29 fun a39 =>
 (Go.AM.get (asI .i64 (Heap.rd h34 ⟨a39.block, a39.off, none⟩)) fun y40 =>
 (Go.AM.get v28 fun a41 =>
 (chk (idx y40 40) <|
 (Go.AM.get (asS (Heap.rd h34 ⟨a41.block, ((a41.off + 1) + ((Int.toNat y40) * 1)), none⟩)) fun y42 =>
 (Go.AM.get v29 fun a43 =>
 (Go.AM.get (asI .i64 (Heap.rd h34 ⟨a43.block, (a43.off + 1), none⟩)) fun y44 =>
 (withH (Heap.new h34 (.cells [(.int .i64 y44)] false)) fun h45 =>
 (Go.AM.get v29 fun a46 =>
 (Go.AM.get (asI .i64 (Heap.rd h45 ⟨a46.block, (a46.off + 1), none⟩)) fun y47 =>
 (Go.AM.get v28 fun a48 =>
 (chk (idx y47 40) <|
 (Go.AM.get (asS (Heap.rd h45 ⟨a48.block, ((a48.off + 1) + ((Int.toNat y47) * 1)), none⟩)) fun y49 =>
 (Go.AM.get v29 fun a50 =>
 (Go.AM.get (asI .i64 (Heap.rd h45 ⟨a50.block, a50.off, none⟩)) fun y51 =>
 (withH (Heap.new h45 (.cells [(.int .i64 y51)] false)) fun h52 =>
 (Go.AM.get v28 fun a53 =>
 (Go.AM.get v28 fun a54 =>
 (Go.AM.get (Heap.rdN h52 ⟨h34.next, 0, none⟩ 1) fun y55 =>
 (Go.AM.get (Heap.app h52 1 8 y42 1 y55) fun r56 =>
 (chk (objE (Heap.get r56.2 h45.next) (Heap.get h52 h45.next)) <|
 (Go.AM.get (asI .i64 (Heap.rd r56.2 ⟨a50.block, a50.off, none⟩)) fun y57 =>
 (chk (valE (.int .i64 y57) (.int .i64 y51)) <|
 (Go.AM.get (asS (Heap.rd r56.2 ⟨a48.block, ((a48.off + 1) + ((Int.toNat y47) * 1)), none⟩)) fun y58 =>
 (chk (valE (Sl.v y58) (Sl.v y49)) <|
 (Go.AM.get (asI .i64 (Heap.rd r56.2 ⟨a46.block, (a46.off + 1), none⟩)) fun y59 =>
 (chk (valE (.int .i64 y59) (.int .i64 y47)) <|
 (Go.AM.get (asI .i64 (Heap.rd r56.2 ⟨a37.block, (a37.off + 1), none⟩)) fun y60 =>
 (chk (valE (.int .i64 y60) (.int .i64 y38)) <|
 (Go.AM.get (asI .i64 (Heap.rd r56.2 ⟨a35.block, a35.off, none⟩)) fun y61 =>
 (chk (valE (.int .i64 y61) (.int .i64 y36)) <|
 (Go.AM.get (Heap.rdN r56.2 ⟨h45.next, 0, none⟩ 1) fun y62 =>
 (Go.AM.get (Heap.app r56.2 1 8 y49 1 y62) fun r63 =>
 (Go.AM.get (asI .i64 (Heap.rd r63.2 ⟨a37.block, (a37.off + 1), none⟩)) fun y64 =>
 (chk (valE (.int .i64 y64) (.int .i64 y38)) <|
 (Go.AM.get (asI .i64 (Heap.rd r63.2 ⟨a35.block, a35.off, none⟩)) fun y65 =>
 (chk (valE (.int .i64 y65) (.int .i64 y36)) <|
 (chk (idx y36 40) <|
 (Go.AM.get (Heap.wr r63.2 ⟨a53.block, ((a53.off + 1) + ((Int.toNat y36) * 1)), none⟩ [(Sl.v r56.1)]) fun h66 =>
 (Go.AM.get (asI .i64 (Heap.rd h66 ⟨a37.block, (a37.off + 1), none⟩)) fun y67 =>
 (chk (valE (.int .i64 y67) (.int .i64 y38)) <|
 (chk (idx y38 40) <|
 (Go.AM.get (Heap.wr h66 ⟨a54.block, ((a54.off + 1) + ((Int.toNat y38) * 1)), none⟩ [(Sl.v r63.1)]) fun h68 =>
 (XN v27 v28 v30 v31 v32 h68))))))))))))))))))))))))))))))))))))))))))))))))
 (XN v27 v28 v30 v31 v32 h34))
def eb49_57 (fu : Nat) (V : EV) (X0 : Option Addr → Heap → Prop) (R : Int → Option Addr → Sl → Int → Int → Heap → Prop) (v9 : Int) (v10 : Option Addr) (v11 : Sl) (v12 : Int) (v13 : Int) (h14 : Heap) : Prop :=
 (branch (decide (v13 < v12))
 (Go.AM.get v11.a fun a20 =>
 (chk (idx v13 v11.len) <|
 (Go.AM.get (asI .i64 (Heap.rd h14 ⟨a20.block, (a20.off + ((Int.toNat v13) * 2)), none⟩)) fun y21 =>
 (Go.AM.get (asI .i64 (Heap.rd h14 ⟨a20.block, ((a20.off + ((Int.toNat v13) * 2)) + 1), none⟩)) fun y22 =>
 (withH (Heap.new h14 (.cells [(.int .i64 0), (.int .i64 0)] false)) fun h23 =>
 (Go.AM.get (Heap.wr h23 ⟨h14.next, 0, none⟩ [(.int .i64 y21), (.int .i64 y22)]) fun h24 =>
 (Go.AM.get (asI .i64 (Heap.rd h24 ⟨h14.next, 0, none⟩)) fun y69 =>
 (branch (y69 != v9)
 (Go.AM.get (asI .i64 (Heap.rd h24 ⟨h14.next, 1, none⟩)) fun y70 =>
 (eq49_7474 fu V
 (fun z71 z72 z73 z74 z75 h76 =>
 (R z71 z72 z73 z74 (IntKind.wrap .i64 (z75 + 1)) h76))
 v9 v10 (some ⟨h14.next, 0, none⟩) v11 v12 v13 (y70 != v9) h24))
 (eq49_7474 fu V
 (fun z77 z78 z79 z80 z81 h82 =>
 (R z77 z78 z79 z80 (IntKind.wrap .i64 (z81 + 1)) h82))
 v9 v10 (some ⟨h14.next, 0, none⟩) v11 v12 v13 false h24)))))))))
 (X0 v10 h14))
def el49_57 (fu : Nat) (V : EV) (X0 : Option Addr → Heap → Prop) : Nat → Int → Option Addr → Sl → Int → Int → Heap → Prop
 | 0, _, _, _, _, _, _ => False
 | n + 1, v9, v10, v11, v12, v13, h14 => eb49_57 fu V X0 (el49_57 fu V X0 n) v9 v10 v11 v12 v13 h14
def eb49_121 (fu : Nat) (V : EV) (X2 : Option Addr → Heap → Prop) (R : Option Addr → Int → Heap → Prop) (v88 : Option Addr) (v89 : Int) (h90 : Heap) : Prop :=
 (branch (decide (v89 < 40))
 (Go.AM.get v88 fun a91 =>
 (chk (idx v89 40) <|
 (Go.AM.get (Heap.wr h90 ⟨a91.block, ((a91.off + 41) + ((Int.toNat v89) * 1)), none⟩ [(.int .i64 (-1))]) fun h92 =>
 (R v88 (IntKind.wrap .i64 (v89 + 1)) h92))))
 (X2 v88 h90))
def el49_121 (fu : Nat) (V : EV) (X2 : Option Addr → Heap → Prop) : Nat → Option Addr → Int → Heap → Prop
 | 0, _, _, _ => False
 | n + 1, v88, v89, h90 => eb49_121 fu V X2 (el49_121 fu V X2 n) v88 v89 h90
def e49 (fu : Nat) (V : EV) (p0 : (Int × Sl × Unit)) (p1 : Int) (h : Heap) (K : Option Addr → Heap → Prop) : Prop :=
 (withH (Heap.new h (.cells [(.int .i64 p0.1), (Sl.v p0.2.1)] false)) fun h2 =>
 (Go.AM.get (asI .i64 (Heap.rd h2 ⟨h.next, 0, none⟩)) fun y5 =>
 (withH (Heap.new h2 (.cells ([(.int .i64 y5)] ++ List.replicate 40 (.slice none 0 0) ++ List.replicate 120 (.int .i64 0) ++ List.replicate 40 (.bool false) ++ [(.slice none 0 0)]) false)) fun h6 =>
 (Go.AM.get (asS (Heap.rd h6 ⟨h.next, 1, none⟩)) fun y85 =>
 (el49_57 fu V
 (fun z86 h87 =>
 (el49_121 fu V
 (fun z93 h94 =>
 (K z93 h94))
 fu z86 0 h87))
 fu p1 (some ⟨h2.next, 0, none⟩) y85 ((y85.len : Nat) : Int) 0 h6)))))

def eb98_27 (fu : Nat) (V : EV) (X0 : Option Addr → Int → Option Addr → Heap → Prop) (R : Option Addr → Int → Int → Option Addr → Heap → Prop) (v3 : Option Addr) (v4 : Int) (v5 : Int) (v6 : Option Addr) (h7 : Heap) : Prop :=
 (Go.AM.get v3 fun a10 =>
 (chk (idx v4 40) <|
 (Go.AM.get (asI .i64 (Heap.rd h7 ⟨a10.block, ((a10.off + 121) + ((Int.toNat v4) * 1)), none⟩)) fun y11 =>
 (Go.AM.get v6 fun a14 =>
 (chk (idx y11 40) <|
 (Go.AM.get (Heap.wr h7 ⟨a14.block, (a14.off + ((Int.toNat y11) * 1)), none⟩ [(.bool true)]) fun h15 =>
 (Go.AM.get v3 fun a18 =>
 (chk (idx y11 40) <|
 (Go.AM.get (asI .i64 (Heap.rd h15 ⟨a18.block, ((a18.off + 41) + ((Int.toNat y11) * 1)), none⟩)) fun y19 =>
 (branch (decide (y19 < 0))
 (X0 v3 v5 v6 h15)
 (Go.AM.get v3 fun a20 =>
 (chk (idx y11 40) <|
 (Go.AM.get (asI .i64 (Heap.rd h15 ⟨a20.block, ((a20.off + 41) + ((Int.toNat y11) * 1)), none⟩)) fun y21 =>
 (Go.AM.get v3 fun a22 =>
 (chk (idx y21 40) <|
 (Go.AM.get (asI .i64 (Heap.rd h15 ⟨a22.block, ((a22.off + 81) + ((Int.toNat y21) * 1)), none⟩)) fun y23 =>
 (R v3 y23 v5 v6 h15)))))))))))))))))
def el98_27 (fu : Nat) (V : EV) (X0 : Option Addr → Int → Option Addr → Heap → Prop) : Nat → Option Addr → Int → Int → Option Addr → Heap → Prop
 | 0, _, _, _, _, _ => False
 | n + 1, v3, v4, v5, v6, h7 => eb98_27 fu V X0 (el98_27 fu V X0 n) v3 v4 v5 v6 h7
def eb98_121 (fu : Nat) (V : EV) (X2 : Int → Heap → Prop) (R : Option Addr → Int → Option Addr → Heap → Prop) (v36 : Option Addr) (v37 : Int) (v38 : Option Addr) (h39 : Heap) : Prop :=
 (Go.AM.get v38 fun a42 =>
 (chk (idx v37 40) <|
 (Go.AM.get (asB (Heap.rd h39 ⟨a42.block, (a42.off + ((Int.toNat v37) * 1)), none⟩)) fun y43 =>
 (branch (!y43)
 (Go.AM.get v36 fun a44 =>
 (chk (idx v37 40) <|
 (Go.AM.get (asI .i64 (Heap.rd h39 ⟨a44.block, ((a44.off + 41) + ((Int.toNat v37) * 1)), none⟩)) fun y45 =>
 (Go.AM.get v36 fun a46 =>
 (chk (idx y45 40) <|
 (Go.AM.get (asI .i64 (Heap.rd h39 ⟨a46.block, ((a46.off + 81) + ((Int.toNat y45) * 1)), none⟩)) fun y47 =>
 (Go.AM.get v36 fun a48 =>
 (chk (idx y47 40) <|
 (Go.AM.get (asI .i64 (Heap.rd h39 ⟨a48.block, ((a48.off + 121) + ((Int.toNat y47) * 1)), none⟩)) fun y49 =>
 (R v36 y49 v38 h39))))))))))
 (X2 v37 h39)))))
def el98_121 (fu : Nat) (V : EV) (X2 : Int → Heap → Prop) : Nat → Option Addr → Int → Option Addr → Heap → Prop
 | 0, _, _, _, _ => False
 | n + 1, v36, v37, v38, h39 => eb98_121 fu V X2 (el98_121 fu V X2 n) v36 v37 v38 h39
def e98 (fu : Nat) (V : EV) (p0 : Option Addr) (p1 : Int) (p2 : Int) (h : Heap) (K : Int → Heap → Prop) : Prop :=
 (withH (Heap.new h (.cells (List.replicate 40 (.bool false)) false)) fun h2 =>
 (el98_27 fu V
 (fun z28 z29 z30 h31 =>
 (Go.AM.get z28 fun a34 =>
 (chk (idx z29 40) <|
 (Go.AM.get (asI .i64 (Heap.rd h31 ⟨a34.block, ((a34.off + 121) + ((Int.toNat z29) * 1)), none⟩)) fun y35 =>
 (el98_121 fu V
 (fun z50 h51 =>
 (K z50 h51))
 fu z28 y35 z30 h31)))))
 fu p0 p1 p2 (some ⟨h.next, 0, none⟩) h2))

def eb99_1 (fu : Nat) (V : EV) (X0 : Heap → Prop) (R : Int → Int → Option Addr → Option Addr → Option Addr → Heap → Prop) (v1 : Int) (v2 : Int) (v3 : Option Addr) (v4 : Option Addr) (v5 : Option Addr) (h6 : Heap) : Prop :=
 (Go.AM.get v3 fun a13 =>
 (Go.AM.get (asP (Heap.rd h6 a13)) fun y14 =>
 (Go.AM.get y14 fun a15 =>
 (chk (idx v1 40) <|
 (Go.AM.get (asI .i64 (Heap.rd h6 ⟨a15.block, ((a15.off + 121) + ((Int.toNat v1) * 1)), none⟩)) fun y16 =>
 (Go.AM.get v4 fun a17 =>
 (Go.AM.get (asI .i64 (Heap.rd h6 a17)) fun y18 =>
 (branch (y16 != y18)
 (Go.AM.get v3 fun a41 =>
 (Go.AM.get (asP (Heap.rd h6 a41)) fun y42 =>
 (Go.AM.get y42 fun a43 =>
 (chk (idx v1 40) <|
 (Go.AM.get (asI .i64 (Heap.rd h6 ⟨a43.block, ((a43.off + 121) + ((Int.toNat v1) * 1)), none⟩)) fun y44 =>
 (Go.AM.get v3 fun a45 =>
 (Go.AM.get (asP (Heap.rd h6 a45)) fun y46 =>
 (Go.AM.get v3 fun a47 =>
 (Go.AM.get (asP (Heap.rd h6 a47)) fun y48 =>
 (Go.AM.get y48 fun a49 =>
 (chk (idx v1 40) <|
 (Go.AM.get (asI .i64 (Heap.rd h6 ⟨a49.block, ((a49.off + 41) + ((Int.toNat v1) * 1)), none⟩)) fun y50 =>
 (Go.AM.get y46 fun a51 =>
 (chk (idx y50 40) <|
 (Go.AM.get (asI .i64 (Heap.rd h6 ⟨a51.block, ((a51.off + 121) + ((Int.toNat y50) * 1)), none⟩)) fun y52 =>
 (Go.AM.get v5 fun a53 =>
 (chk (idx y44 40) <|
 (Go.AM.get (Heap.wr h6 ⟨a53.block, (a53.off + ((Int.toNat y44) * 1)), none⟩ [(.bool true)]) fun h54 =>
 (Go.AM.get (asI .i64 (Heap.rd h54 ⟨a51.block, ((a51.off + 121) + ((Int.toNat y50) * 1)), none⟩)) fun y55 =>
 (chk (valE (.int .i64 y55) (.int .i64 y52)) <|
 (Go.AM.get (asI .i64 (Heap.rd h54 ⟨a49.block, ((a49.off + 41) + ((Int.toNat v1) * 1)), none⟩)) fun y56 =>
 (chk (valE (.int .i64 y56) (.int .i64 y50)) <|
 (Go.AM.get v3 fun a57 =>
 (Go.AM.get (asP (Heap.rd h54 a57)) fun y58 =>
 (chk (valE (.pointer y58) (.pointer y48)) <|
 (Go.AM.get v3 fun a59 =>
 (Go.AM.get (asP (Heap.rd h54 a59)) fun y60 =>
 (chk (valE (.pointer y60) (.pointer y46)) <|
 (Go.AM.get v5 fun a61 =>
 (chk (idx y52 40) <|
 (Go.AM.get (Heap.wr h54 ⟨a61.block, (a61.off + ((Int.toNat y52) * 1)), none⟩ [(.bool true)]) fun h62 =>
 (Go.AM.get v3 fun a67 =>
 (Go.AM.get (asP (Heap.rd h62 a67)) fun y68 =>
 (Go.AM.get y68 fun a69 =>
 (chk (idx v1 40) <|
 (Go.AM.get (Heap.wr h62 ⟨a69.block, ((a69.off + 81) + ((Int.toNat v1) * 1)), none⟩ [(.int .i64 v2)]) fun h70 =>
 (Go.AM.get v3 fun a75 =>
 (Go.AM.get (asP (Heap.rd h70 a75)) fun y76 =>
 (Go.AM.get y76 fun a77 =>
 (chk (idx v1 40) <|
 (Go.AM.get (asI .i64 (Heap.rd h70 ⟨a77.block, ((a77.off + 41) + ((Int.toNat v1) * 1)), none⟩)) fun y78 =>
 (Go.AM.get v3 fun a79 =>
 (Go.AM.get (asP (Heap.rd h70 a79)) fun y80 =>
 (Go.AM.get v3 fun a81 =>
 (Go.AM.get (asP (Heap.rd h70 a81)) fun y82 =>
 (Go.AM.get y82 fun a83 =>
 (chk (idx v1 40) <|
 (Go.AM.get (asI .i64 (Heap.rd h70 ⟨a83.block, ((a83.off + 41) + ((Int.toNat v1) * 1)), none⟩)) fun y84 =>
 (Go.AM.get y80 fun a85 =>
 (chk (idx y84 40) <|
 (Go.AM.get (asI .i64 (Heap.rd h70 ⟨a85.block, ((a85.off + 81) + ((Int.toNat y84) * 1)), none⟩)) fun y86 =>
 (R y86 y78 v3 v4 v5 h70))))))))))))))))))))))))))))))))))))))))))))))))))))
 (X0 h6)))))))))
def el99_1 (fu : Nat) (V : EV) (X0 : Heap → Prop) : Nat → Int → Int → Option Addr → Option Addr → Option Addr → Heap → Prop
 | 0, _, _, _, _, _, _ => False
 | n + 1, v1, v2, v3, v4, v5, h6 => eb99_1 fu V X0 (el99_1 fu V X0 n) v1 v2 v3 v4 v5 h6
def e99 (fu : Nat) (V : EV) (p0 : Int) (p1 : Int) (p2 : Option Addr) (p3 : Option Addr) (p4 : Option Addr) (h : Heap) (K : Heap → Prop) : Prop :=
 (el99_1 fu V
 (fun h87 =>
 (K h87))
 fu p0 p1 p2 p3 p4 h)

def eb89_509 (fu : Nat) (V : EV) (X0 : Heap → Prop) (R : Option Addr → Option Addr → Option Addr → Int → Int → Heap → Prop) (v25 : Option Addr) (v26 : Option Addr) (v27 : Option Addr) (v28 : Int) (v29 : Int) (h30 : Heap) : Prop :=
 (branch (decide (v29 < v28))
 (Go.AM.get v25 fun a37 =>
 (Go.AM.get (asP (Heap.rd h30 a37)) fun y38 =>
 (Go.AM.get y38 fun a39 =>
 (chk (idx v29 40) <|
 (Go.AM.get (asI .i64 (Heap.rd h30 ⟨a39.block, ((a39.off + 121) + ((Int.toNat v29) * 1)), none⟩)) fun y40 =>
 (Go.AM.get v27 fun a41 =>
 (chk (idx y40 40) <|
 (Go.AM.get (asB (Heap.rd h30 ⟨a41.block, (a41.off + ((Int.toNat y40) * 1)), none⟩)) fun y42 =>
 (branch y42
 (Go.AM.get v25 fun a49 =>
 (Go.AM.get (asP (Heap.rd h30 a49)) fun y50 =>
 (Go.AM.get v26 fun a51 =>
 (Go.AM.get (asI .i64 (Heap.rd h30 a51)) fun y52 =>
 (Go.AM.get y50 fun a53 =>
 (chk (idx v29 40) <|
 (Go.AM.get (Heap.wr h30 ⟨a53.block, ((a53.off + 121) + ((Int.toNat v29) * 1)), none⟩ [(.int .i64 y52)]) fun h54 =>
 (Go.AM.get v25 fun a59 =>
 (Go.AM.get (asP (Heap.rd h54 a59)) fun y60 =>
 (Go.AM.get y60 fun a61 =>
 (chk (idx v29 40) <|
 (Go.AM.get (asB (Heap.rd h54 ⟨a61.block, ((a61.off + 161) + ((Int.toNat v29) * 1)), none⟩)) fun y62 =>
 (branch (!y62)
 (Go.AM.get v25 fun a67 =>
 (Go.AM.get (asP (Heap.rd h54 a67)) fun y68 =>
 (Go.AM.get y68 fun a69 =>
 (chk (idx v29 40) <|
 (Go.AM.get (Heap.wr h54 ⟨a69.block, ((a69.off + 161) + ((Int.toNat v29) * 1)), none⟩ [(.bool true)]) fun h70 =>
 (Go.AM.get v25 fun a71 =>
 (Go.AM.get (asP (Heap.rd h70 a71)) fun y72 =>
 (Go.AM.get v25 fun a73 =>
 (Go.AM.get (asP (Heap.rd h70 a73)) fun y74 =>
 (Go.AM.get y74 fun a75 =>
 (Go.AM.get (asS (Heap.rd h70 ⟨a75.block, (a75.off + 201), none⟩)) fun y76 =>
 (withH (Heap.new h70 (.cells [(.int .i64 v29)] false)) fun h77 =>
 (Go.AM.get (Heap.rdN h77 ⟨h70.next, 0, none⟩ 1) fun y78 =>
 (Go.AM.get (Heap.app h77 1 8 y76 1 y78) fun r79 =>
 (Go.AM.get v25 fun a80 =>
 (Go.AM.get (asP (Heap.rd r79.2 a80)) fun y81 =>
 (chk (valE (.pointer y81) (.pointer y72)) <|
 (Go.AM.get y72 fun a82 =>
 (Go.AM.get (Heap.wr r79.2 ⟨a82.block, (a82.off + 201), none⟩ [(Sl.v r79.1)]) fun h83 =>
 (R v25 v26 v27 v28 (IntKind.wrap .i64 (v29 + 1)) h83))))))))))))))))))))
 (R v25 v26 v27 v28 (IntKind.wrap .i64 (v29 + 1)) h54))))))))))))))
 (R v25 v26 v27 v28 (IntKind.wrap .i64 (v29 + 1)) h30))))))))))
 (X0 h30))
def el89_509 (fu : Nat) (V : EV) (X0 : Heap → Prop) : Nat → Option Addr → Option Addr → Option Addr → Int → Int → Heap → Prop
 | 0, _, _, _, _, _, _ => False
 | n + 1, v25, v26, v27, v28, v29, h30 => eb89_509 fu V X0 (el89_509 fu V X0 n) v25 v26 v27 v28 v29 h30
def e89 (fu : Nat) (V : EV) (p0 : Option Addr) (p1 : Int) (p2 : Int) (h : Heap) (K : Heap → Prop) : Prop :=
 (withH (Heap.new h (.cells [(.pointer p0)] false)) fun h2 =>
 (Go.AM.get (asP (Heap.rd h2 ⟨h.next, 0, none⟩)) fun y8 =>
 (e98 fu V y8 p1 p2 h2 fun r9 h10 =>
 (withH (Heap.new h10 (.cells [(.int .i64 0)] false)) fun h11 =>
 (Go.AM.get (Heap.wr h11 ⟨h10.next, 0, none⟩ [(.int .i64 r9)]) fun h12 =>
 (withH (Heap.new h12 (.cells (List.replicate 40 (.bool false)) false)) fun h14 =>
 (e99 fu V p1 p2 (some ⟨h.next, 0, none⟩) (some ⟨h10.next, 0, none⟩) (some ⟨h12.next, 0, none⟩) h14 fun h16 =>
 (e99 fu V p2 p1 (some ⟨h.next, 0, none⟩) (some ⟨h10.next, 0, none⟩) (some ⟨h12.next, 0, none⟩) h16 fun h18 =>
 (Go.AM.get (asP (Heap.rd h18 ⟨h.next, 0, none⟩)) fun y22 =>
 (Go.AM.get y22 fun a23 =>
 (Go.AM.get (asI .i64 (Heap.rd h18 ⟨a23.block, a23.off, none⟩)) fun y24 =>
 (el89_509 fu V
 (fun h84 =>
 (K h84))
 fu (some ⟨h.next, 0, none⟩) (some ⟨h10.next, 0, none⟩) (some ⟨h12.next, 0, none⟩) y24 0 h18))))))))))))

def eb88_1 (fu : Nat) (V : EV) (X0 : Heap → Prop) (R : Option Addr → Int → Heap → Prop) (v1 : Option Addr) (v2 : Int) (h3 : Heap) : Prop :=
 (branch (decide (v2 ≥ 0))
 (Go.AM.get v1 fun a6 =>
 (chk (idx v2 40) <|
 (Go.AM.get (asI .i64 (Heap.rd h3 ⟨a6.block, ((a6.off + 81) + ((Int.toNat v2) * 1)), none⟩)) fun y7 =>
 (Go.AM.get v1 fun a10 =>
 (chk (idx y7 40) <|
 (Go.AM.get (asI .i64 (Heap.rd h3 ⟨a10.block, ((a10.off + 41) + ((Int.toNat y7) * 1)), none⟩)) fun y11 =>
 (Go.AM.get v1 fun a12 =>
 (chk (idx v2 40) <|
 (Go.AM.get v1 fun a13 =>
 (Go.AM.get (Heap.wr h3 ⟨a12.block, ((a12.off + 41) + ((Int.toNat v2) * 1)), none⟩ [(.int .i64 y7)]) fun h14 =>
 (chk (idx y7 40) <|
 (Go.AM.get (Heap.wr h14 ⟨a13.block, ((a13.off + 41) + ((Int.toNat y7) * 1)), none⟩ [(.int .i64 v2)]) fun h15 =>
 (R v1 y11 h15)))))))))))))
 (X0 h3))
def el88_1 (fu : Nat) (V : EV) (X0 : Heap → Prop) : Nat → Option Addr → Int → Heap → Prop
 | 0, _, _, _ => False
 | n + 1, v1, v2, h3 => eb88_1 fu V X0 (el88_1 fu V X0 n) v1 v2 h3
def e88 (fu : Nat) (V : EV) (p0 : Option Addr) (p1 : Int) (h : Heap) (K : Heap → Prop) : Prop :=
 (el88_1 fu V
 (fun h16 =>
 (K h16))
 fu p0 p1 h)

def eb71_25 (fu : Nat) (V : EV) (X0 : Option Addr → Int → Heap → Prop) (R : Option Addr → Int → Int → Heap → Prop) (v1 : Option Addr) (v2 : Int) (v3 : Int) (h4 : Heap) : Prop :=
 (branch (decide (v3 < 40))
 (Go.AM.get v1 fun a5 =>
 (chk (idx v3 40) <|
 (Go.AM.get v1 fun a6 =>
 (Go.AM.get v1 fun a7 =>
 (Go.AM.get (Heap.wr h4 ⟨a5.block, ((a5.off + 121) + ((Int.toNat v3) * 1)), none⟩ [(.int .i64 v3)]) fun h8 =>
 (chk (idx v3 40) <|
 (Go.AM.get (Heap.wr h8 ⟨a6.block, ((a6.off + 81) + ((Int.toNat v3) * 1)), none⟩ [(.int .i64 (-1))]) fun h9 =>
 (chk (idx v3 40) <|
 (Go.AM.get (Heap.wr h9 ⟨a7.block, ((a7.off + 161) + ((Int.toNat v3) * 1)), none⟩ [(.bool false)]) fun h10 =>
 (R v1 v2 (IntKind.wrap .i64 (v3 + 1)) h10))))))))))
 (X0 v1 v2 h4))
def el71_25 (fu : Nat) (V : EV) (X0 : Option Addr → Int → Heap → Prop) : Nat → Option Addr → Int → Int → Heap → Prop
 | 0, _, _, _, _ => False
 | n + 1, v1, v2, v3, h4 => eb71_25 fu V X0 (el71_25 fu V X0 n) v1 v2 v3 h4
def eq71_33077654 (fu : Nat) (V : EV) (XN : Option Addr → Int → (Option Addr × Unit) → Int → Sl → Int → Int → Heap → Prop) (XR : Bool → Heap → Prop) (v89 : Option Addr) (v90 : Int) (v91 : (Option Addr × Unit)) (v92 : Int) (v93 : Int) (v94 : Sl) (v95 : Int) (v96 : Int) (v97 : Bool) (h98 : Heap) : Prop :=
 (branch v97
 (e89 fu V v89 v92 v93 h98 fun h99 =>
 (XN v89 v90 (v91.1, ()) v92 v94 v95 v96 h99))
 (Go.AM.get v89 fun a102 =>
 (chk (idx v93 40) <|
 (Go.AM.get (asI .i64 (Heap.rd h98 ⟨a102.block, ((a102.off + 81) + ((Int.toNat v93) * 1)), none⟩)) fun y103 =>
 (branch (decide (y103 < 0))
 (Go.AM.get v89 fun a106 =>
 (chk (idx v93 40) <|
 (Go.AM.get (Heap.wr h98 ⟨a106.block, ((a106.off + 81) + ((Int.toNat v93) * 1)), none⟩ [(.int .i64 v92)]) fun h107 =>
 (Go.AM.get v89 fun a113 =>
 (chk (idx v93 40) <|
 (Go.AM.get (asI .i64 (Heap.rd h107 ⟨a113.block, ((a113.off + 41) + ((Int.toNat v93) * 1)), none⟩)) fun y114 =>
 (branch (decide (y114 < 0))
 (e88 fu V v91.1 v93 h107 fun h115 =>
 (XR true h115))
 (Go.AM.get v89 fun a120 =>
 (chk (idx v93 40) <|
 (Go.AM.get (asI .i64 (Heap.rd h107 ⟨a120.block, ((a120.off + 41) + ((Int.toNat v93) * 1)), none⟩)) fun y121 =>
 (Go.AM.get v89 fun a122 =>
 (chk (idx y121 40) <|
 (Go.AM.get (Heap.wr h107 ⟨a122.block, ((a122.off + 161) + ((Int.toNat y121) * 1)), none⟩ [(.bool true)]) fun h123 =>
 (Go.AM.get v89 fun a124 =>
 (Go.AM.get (asS (Heap.rd h123 ⟨a124.block, (a124.off + 201), none⟩)) fun y125 =>
 (Go.AM.get v89 fun a126 =>
 (chk (idx v93 40) <|
 (Go.AM.get (asI .i64 (Heap.rd h123 ⟨a126.block, ((a126.off + 41) + ((Int.toNat v93) * 1)), none⟩)) fun y127 =>
 (withH (Heap.new h123 (.cells [(.int .i64 y127)] false)) fun h128 =>
 (Go.AM.get (Heap.rdN h128 ⟨h123.next, 0, none⟩ 1) fun y129 =>
 (Go.AM.get (Heap.app h128 1 8 y125 1 y129) fun r130 =>
 (Go.AM.get v89 fun a131 =>
 (Go.AM.get (Heap.wr r130.2 ⟨a131.block, (a131.off + 201), none⟩ [(Sl.v r130.1)]) fun h132 =>
 (XN v89 v90 (v91.1, ()) v92 v94 v95 v96 h132))))))))))))))))))))))))
 (XN v89 v90 (v91.1, ()) v92 v94 v95 v96 h98))))))
def eq71_8269412 (fu : Nat) (V : EV) (XN : Option Addr → Int → (Option Addr × Unit) → Int → Sl → Int → Int → Heap → Prop) (XR : Bool → Heap → Prop) (v73 : Option Addr) (v74 : Int) (v75 : (Option Addr × Unit)) (v76 : Int) (v77 : Int) (v78 : Sl) (v79 : Int) (v80 : Int) (v81 : Bool) (h82 : Heap) : Prop :=
 (branch v81
 (XN v73 v74 (v75.1, ()) v76 v78 v79 v80 h82)
 (branch (v77 == v74)
 (eq71_33077654 fu V
 (fun z133 z134 z135 z136 z137 z138 z139 h140 =>
 (XN z133 z134 (z135.1, ()) z136 z137 z138 z139 h140))
 (fun z141 h142 =>
 (XR z141 h142))
 v73 v74 (v75.1, ()) v76 v77 v78 v79 v80 true h82)
 (Go.AM.get v73 fun a143 =>
 (chk (idx v77 40) <|
 (Go.AM.get (asI .i64 (Heap.rd h82 ⟨a143.block, ((a143.off + 41) + ((Int.toNat v77) * 1)), none⟩)) fun y144 =>
 (branch (decide (y144 ≥ 0))
 (Go.AM.get v73 fun a145 =>
 (chk (idx v77 40) <|
 (Go.AM.get (asI .i64 (Heap.rd h82 ⟨a145.block, ((a145.off + 41) + ((Int.toNat v77) * 1)), none⟩)) fun y146 =>
 (Go.AM.get v73 fun a147 =>
 (chk (idx y146 40) <|
 (Go.AM.get (asI .i64 (Heap.rd h82 ⟨a147.block, ((a147.off + 81) + ((Int.toNat y146) * 1)), none⟩)) fun y148 =>
 (eq71_33077654 fu V
 (fun z149 z150 z151 z152 z153 z154 z155 h156 =>
 (XN z149 z150 (z151.1, ()) z152 z153 z154 z155 h156))
 (fun z157 h158 =>
 (XR z157 h158))
 v73 v74 (v75.1, ()) v76 v77 v78 v79 v80 (decide (y148 ≥ 0)) h82)))))))
 (eq71_33077654 fu V
 (fun z159 z160 z161 z162 z163 z164 z165 h166 =>
 (XN z159 z160 (z161.1, ()) z162 z163 z164 z165 h166))
 (fun z167 h168 =>
 (XR z167 h168))
 v73 v74 (v75.1, ()) v76 v77 v78 v79 v80 false h82)))))))
def eb71_32301 (fu : Nat) (V : EV) (XR : Bool → Heap → Prop) (X4 : Option Addr → Int → (Option Addr × Unit) → Heap → Prop) (R : Option Addr → Int → (Option Addr × Unit) → Int → Sl → Int → Int → Heap → Prop) (v55 : Option Addr) (v56 : Int) (v57 : (Option Addr × Unit)) (v58 : Int) (v59 : Sl) (v60 : Int) (v61 : Int) (h62 : Heap) : Prop :=
 (branch (decide (v61 < v60))
 (Go.AM.get v59.a fun a65 =>
 (chk (idx v61 v59.len) <|
 (Go.AM.get (asI .i64 (Heap.rd h62 ⟨a65.block, (a65.off + ((Int.toNat v61) * 1)), none⟩)) fun y66 =>
 (Go.AM.get v55 fun a169 =>
 (chk (idx y66 40) <|
 (Go.AM.get (asI .i64 (Heap.rd h62 ⟨a169.block, ((a169.off + 121) + ((Int.toNat y66) * 1)), none⟩)) fun y170 =>
 (Go.AM.get v55 fun a171 =>
 (chk (idx v58 40) <|
 (Go.AM.get (asI .i64 (Heap.rd h62 ⟨a171.block, ((a171.off + 121) + ((Int.toNat v58) * 1)), none⟩)) fun y172 =>
 (branch (y170 == y172)
 (eq71_8269412 fu V
 (fun z173 z174 z175 z176 z177 z178 z179 h180 =>
 (R z173 z174 (z175.1, ()) z176 z177 z178 (IntKind.wrap .i64 (z179 + 1)) h180))
 (fun z181 h182 =>
 (XR z181 h182))
 v55 v56 (v57.1, ()) v58 y66 v59 v60 v61 true h62)
 (Go.AM.get v55 fun a183 =>
 (chk (idx v58 40) <|
 (Go.AM.get (asI .i64 (Heap.rd h62 ⟨a183.block, ((a183.off + 41) + ((Int.toNat v58) * 1)), none⟩)) fun y184 =>
 (eq71_8269412 fu V
 (fun z185 z186 z187 z188 z189 z190 z191 h192 =>
 (R z185 z186 (z187.1, ()) z188 z189 z190 (IntKind.wrap .i64 (z191 + 1)) h192))
 (fun z193 h194 =>
 (XR z193 h194))
 v55 v56 (v57.1, ()) v58 y66 v59 v60 v61 (y184 == y66) h62))))))))))))))
 (X4 v55 v56 (v57.1, ()) h62))
def el71_32301 (fu : Nat) (V : EV) (XR : Bool → Heap → Prop) (X4 : Option Addr → Int → (Option Addr × Unit) → Heap → Prop) : Nat → Option Addr → Int → (Option Addr × Unit) → Int → Sl → Int → Int → Heap → Prop
 | 0, _, _, _, _, _, _, _, _ => False
 | n + 1, v55, v56, v57, v58, v59, v60, v61, h62 => eb71_32301 fu V XR X4 (el71_32301 fu V XR X4 n) v55 v56 v57 v58 v59 v60 v61 h62
def eb71_251 (fu : Nat) (V : EV) (XR : Bool → Heap → Prop) (X2 : Heap → Prop) (R : Option Addr → Int → (Option Addr × Unit) → Heap → Prop) (v27 : Option Addr) (v28 : Int) (v29 : (Option Addr × Unit)) (h30 : Heap) : Prop :=
 (Go.AM.get v27 fun a33 =>
 (Go.AM.get (asS (Heap.rd h30 ⟨a33.block, (a33.off + 201), none⟩)) fun y34 =>
 (branch (decide (((y34.len : Nat) : Int) > 0))
 (Go.AM.get v27 fun a39 =>
 (Go.AM.get (asS (Heap.rd h30 ⟨a39.block, (a39.off + 201), none⟩)) fun y40 =>
 (Go.AM.get y40.a fun a41 =>
 (chk (idx 0 y40.len) <|
 (Go.AM.get (asI .i64 (Heap.rd h30 ⟨a41.block, a41.off, none⟩)) fun y42 =>
 (Go.AM.get v27 fun a47 =>
 (Go.AM.get (asS (Heap.rd h30 ⟨a47.block, (a47.off + 201), none⟩)) fun y48 =>
 (chk (within 1 ((y48.len : Nat) : Int) ((y48.cap : Nat) : Int)) <|
 (Go.AM.get v27 fun a49 =>
 (Go.AM.get (Heap.wr h30 ⟨a49.block, (a49.off + 201), none⟩ [(Sl.v (Sl.cut y48 1 1 (Int.toNat ((y48.len : Nat) : Int))))]) fun h50 =>
 (Go.AM.get v27 fun a53 =>
 (chk (idx y42 40) <|
 (Go.AM.get (asS (Heap.rd h50 ⟨a53.block, ((a53.off + 1) + ((Int.toNat y42) * 1)), none⟩)) fun y54 =>
 (el71_32301 fu V
 (fun z195 h196 =>
 (XR z195 h196))
 (fun z197 z198 z199 h200 =>
 (R z197 z198 (z199.1, ()) h200))
 fu v27 v28 (v29.1, ()) y42 y54 ((y54.len : Nat) : Int) 0 h50))))))))))))))
 (X2 h30))))
def el71_251 (fu : Nat) (V : EV) (XR : Bool → Heap → Prop) (X2 : Heap → Prop) : Nat → Option Addr → Int → (Option Addr × Unit) → Heap → Prop
 | 0, _, _, _, _ => False
 | n + 1, v27, v28, v29, h30 => eb71_251 fu V XR X2 (el71_251 fu V XR X2 n) v27 v28 v29 h30
def e71 (fu : Nat) (V : EV) (p0 : Option Addr) (p1 : Int) (h : Heap) (K : Bool → Heap → Prop) : Prop :=
 (el71_25 fu V
 (fun z14 z15 h16 =>
 (Go.AM.get z14 fun a19 =>
 (chk (idx z15 40) <|
 (Go.AM.get (Heap.wr h16 ⟨a19.block, ((a19.off + 161) + ((Int.toNat z15) * 1)), none⟩ [(.bool true)]) fun h20 =>
 (withH (Heap.new h20 (.cells [(.int .i64 z15)] false)) fun h24 =>
 (Go.AM.get z14 fun a25 =>
 (Go.AM.get (Heap.wr h24 ⟨a25.block, (a25.off + 201), none⟩ [(.slice (some ⟨h20.next, 0, (some 0)⟩) 1 1)]) fun h26 =>
 (el71_251 fu V
 (fun z201 h202 =>
 (K z201 h202))
 (fun h203 =>
 (K false h203))
 fu z14 z15 (z14, ()) h26))))))))
 fu p0 p1 0 h)

def eb50_57 (fu : Nat) (V : EV) (X0 : Int → Heap → Prop) (R : Option Addr → Int → Int → Int → Heap → Prop) (v5 : Option Addr) (v6 : Int) (v7 : Int) (v8 : Int) (h9 : Heap) : Prop :=
 (branch (decide (v8 < v7))
 (Go.AM.get v5 fun a10 =>
 (chk (idx v8 40) <|
 (Go.AM.get (asI .i64 (Heap.rd h9 ⟨a10.block, ((a10.off + 41) + ((Int.toNat v8) * 1)), none⟩)) fun y11 =>
 (branch (decide (y11 < 0))
 (e71 fu V v5 v8 h9 fun r12 h13 =>
 (branch r12
 (R v5 (IntKind.wrap .i64 (v6 + 1)) v7 (IntKind.wrap .i64 (v8 + 1)) h13)
 (R v5 v6 v7 (IntKind.wrap .i64 (v8 + 1)) h13)))
 (R v5 v6 v7 (IntKind.wrap .i64 (v8 + 1)) h9)))))
 (X0 v6 h9))
def el50_57 (fu : Nat) (V : EV) (X0 : Int → Heap → Prop) : Nat → Option Addr → Int → Int → Int → Heap → Prop
 | 0, _, _, _, _, _ => False
 | n + 1, v5, v6, v7, v8, h9 => eb50_57 fu V X0 (el50_57 fu V X0 n) v5 v6 v7 v8 h9
def e50 (fu : Nat) (V : EV) (p0 : Option Addr) (h : Heap) (K : Int → Heap → Prop) : Prop :=
 (Go.AM.get p0 fun a3 =>
 (Go.AM.get (asI .i64 (Heap.rd h ⟨a3.block, a3.off, none⟩)) fun y4 =>
 (el50_57 fu V
 (fun z14 h15 =>
 (K z14 h15))
 fu p0 0 y4 0 h)))

def eb54_249 (fu : Nat) (V : EV) (X0 : Option Addr → Option Addr → Option Addr → Option Addr → Option Addr → Heap → Prop) (R : Option Addr → Option Addr → Option Addr → Int → Option Addr → Option Addr → Int → Int → Heap → Prop) (v25 : Option Addr) (v26 : Option Addr) (v27 : Option Addr) (v28 : Int) (v29 : Option Addr) (v30 : Option Addr) (v31 : Int) (v32 : Int) (h33 : Heap) : Prop :=
 (branch (decide (v32 < v31))
 (Go.AM.get v25 fun a34 =>
 (Go.AM.get (asI .i64 (Heap.rd h33 ⟨a34.block, a34.off, none⟩)) fun y35 =>
 (Go.AM.get (asS (Heap.rd h33 ⟨a34.block, (a34.off + 1), none⟩)) fun y36 =>
 (e49 fu V (y35, y36, ()) v32 h33 fun r37 h38 =>
 (e50 fu V r37 h38 fun r39 h40 =>
 (Go.AM.get v29 fun a41 =>
 (chk (idx v32 40) <|
 (Go.AM.get (Heap.wr h40 ⟨a41.block, (a41.off + ((Int.toNat v32) * 1)), none⟩ [(.bool (r39 == v28))]) fun h42 =>
 (R v25 v26 v27 v28 v29 v30 v31 (IntKind.wrap .i64 (v32 + 1)) h42)))))))))
 (X0 v25 v26 v27 v29 v30 h33))
def el54_249 (fu : Nat) (V : EV) (X0 : Option Addr → Option Addr → Option Addr → Option Addr → Option Addr → Heap → Prop) : Nat → Option Addr → Option Addr → Option Addr → Int → Option Addr → Option Addr → Int → Int → Heap → Prop
 | 0, _, _, _, _, _, _, _, _, _ => False
 | n + 1, v25, v26, v27, v28, v29, v30, v31, v32, h33 => eb54_249 fu V X0 (el54_249 fu V X0 n) v25 v26 v27 v28 v29 v30 v31 v32 h33
def eb54_129637 (fu : Nat) (V : EV) (X4 : Option Addr → Option Addr → Option Addr → Option Addr → Option Addr → Sl → Int → Int → Heap → Prop) (R : Option Addr → Option Addr → Option Addr → Option Addr → Option Addr → Option Addr → Sl → Int → Int → Int → Heap → Prop) (v79 : Option Addr) (v80 : Option Addr) (v81 : Option Addr) (v82 : Option Addr) (v83 : Option Addr) (v84 : Option Addr) (v85 : Sl) (v86 : Int) (v87 : Int) (v88 : Int) (h89 : Heap) : Prop :=
 (branch (decide (v88 < 2))
 (Go.AM.get v84 fun a90 =>
 (chk (idx v88 2) <|
 (Go.AM.get (asI .i64 (Heap.rd h89 ⟨a90.block, (a90.off + ((Int.toNat v88) * 1)), none⟩)) fun y91 =>
 (Go.AM.get v84 fun a92 =>
 (chk (idx v88 2) <|
 (Go.AM.get (asI .i64 (Heap.rd h89 ⟨a92.block, (a92.off + ((Int.toNat v88) * 1)), none⟩)) fun y93 =>
 (Go.AM.get v83 fun a94 =>
 (chk (idx y93 40) <|
 (Go.AM.get (asB (Heap.rd h89 ⟨a94.block, (a94.off + ((Int.toNat y93) * 1)), none⟩)) fun y95 =>
 (branch y95
 (Go.AM.get v83 fun a96 =>
 (chk (idx y91 40) <|
 (Go.AM.get (Heap.wr h89 ⟨a96.block, (a96.off + ((Int.toNat y91) * 1)), none⟩ [(.bool true)]) fun h97 =>
 (R v79 v80 v81 v82 v83 v84 v85 v86 v87 (IntKind.wrap .i64 (v88 + 1)) h97))))
 (Go.AM.get v84 fun a98 =>
 (chk (idx v88 2) <|
 (Go.AM.get (asI .i64 (Heap.rd h89 ⟨a98.block, (a98.off + ((Int.toNat v88) * 1)), none⟩)) fun y99 =>
 (Go.AM.get v82 fun a100 =>
 (chk (idx y99 40) <|
 (Go.AM.get (asB (Heap.rd h89 ⟨a100.block, (a100.off + ((Int.toNat y99) * 1)), none⟩)) fun y101 =>
 (branch (!y101)
 (Go.AM.get v84 fun a102 =>
 (chk (idx (IntKind.wrap .i64 (1 - v88)) 2) <|
 (Go.AM.get (asI .i64 (Heap.rd h89 ⟨a102.block, (a102.off + ((Int.toNat (IntKind.wrap .i64 (1 - v88))) * 1)), none⟩)) fun y103 =>
 (Go.AM.get v82 fun a104 =>
 (chk (idx y103 40) <|
 (Go.AM.get (asB (Heap.rd h89 ⟨a104.block, (a104.off + ((Int.toNat y103) * 1)), none⟩)) fun y105 =>
 (Go.AM.get v83 fun a106 =>
 (chk (idx y91 40) <|
 (Go.AM.get (Heap.wr h89 ⟨a106.block, (a106.off + ((Int.toNat y91) * 1)), none⟩ [(.bool y105)]) fun h107 =>
 (R v79 v80 v81 v82 v83 v84 v85 v86 v87 (IntKind.wrap .i64 (v88 + 1)) h107))))))))))
 (Go.AM.get v83 fun a108 =>
 (chk (idx y91 40) <|
 (Go.AM.get (Heap.wr h89 ⟨a108.block, (a108.off + ((Int.toNat y91) * 1)), none⟩ [(.bool false)]) fun h109 =>
 (R v79 v80 v81 v82 v83 v84 v85 v86 v87 (IntKind.wrap .i64 (v88 + 1)) h109)))))))))))))))))))))
 (X4 v79 v80 v81 v82 v83 v85 v86 v87 h89))
def el54_129637 (fu : Nat) (V : EV) (X4 : Option Addr → Option Addr → Option Addr → Option Addr → Option Addr → Sl → Int → Int → Heap → Prop) : Nat → Option Addr → Option Addr → Option Addr → Option Addr → Option Addr → Option Addr → Sl → Int → Int → Int → Heap → Prop
 | 0, _, _, _, _, _, _, _, _, _, _, _ => False
 | n + 1, v79, v80, v81, v82, v83, v84, v85, v86, v87, v88, h89 => eb54_129637 fu V X4 (el54_129637 fu V X4 n) v79 v80 v81 v82 v83 v84 v85 v86 v87 v88 h89
def eb54_505 (fu : Nat) (V : EV) (X2 : Option Addr → Option Addr → Option Addr → Option Addr → Option Addr → Heap → Prop) (R : Option Addr → Option Addr → Option Addr → Option Addr → Option Addr → Sl → Int → Int → Heap → Prop) (v60 : Option Addr) (v61 : Option Addr) (v62 : Option Addr) (v63 : Option Addr) (v64 : Option Addr) (v65 : Sl) (v66 : Int) (v67 : Int) (h68 : Heap) : Prop :=
 (branch (decide (v67 < v66))
 (Go.AM.get v65.a fun a74 =>
 (chk (idx v67 v65.len) <|
 (Go.AM.get (asI .i64 (Heap.rd h68 ⟨a74.block, (a74.off + ((Int.toNat v67) * 2)), none⟩)) fun y75 =>
 (Go.AM.get (asI .i64 (Heap.rd h68 ⟨a74.block, ((a74.off + ((Int.toNat v67) * 2)) + 1), none⟩)) fun y76 =>
 (withH (Heap.new h68 (.cells [(.int .i64 0), (.int .i64 0)] false)) fun h77 =>
 (Go.AM.get (Heap.wr h77 ⟨h68.next, 0, none⟩ [(.int .i64 y75), (.int .i64 y76)]) fun h78 =>
 (el54_129637 fu V
 (fun z110 z111 z112 z113 z114 z115 z116 z117 h118 =>
 (R z110 z111 z112 z113 z114 z115 z116 (IntKind.wrap .i64 (z117 + 1)) h118))
 fu v60 v61 v62 v63 v64 (some ⟨h68.next, 0, none⟩) v65 v66 v67 0 h78)))))))
 (X2 v60 v61 v62 v63 v64 h68))
def el54_505 (fu : Nat) (V : EV) (X2 : Option Addr → Option Addr → Option Addr → Option Addr → Option Addr → Heap → Prop) : Nat → Option Addr → Option Addr → Option Addr → Option Addr → Option Addr → Sl → Int → Int → Heap → Prop
 | 0, _, _, _, _, _, _, _, _, _ => False
 | n + 1, v60, v61, v62, v63, v64, v65, v66, v67, h68 => eb54_505 fu V X2 (el54_505 fu V X2 n) v60 v61 v62 v63 v64 v65 v66 v67 h68
def eb54_1017 (fu : Nat) (V : EV) (X6 : Option Addr → Option Addr → Heap → Prop) (R : Option Addr → Option Addr → Option Addr → Option Addr → Int → Int → Heap → Prop) (v137 : Option Addr) (v138 : Option Addr) (v139 : Option Addr) (v140 : Option Addr) (v141 : Int) (v142 : Int) (h143 : Heap) : Prop :=
 (branch (decide (v142 < v141))
 (Go.AM.get v139 fun a146 =>
 (chk (idx v142 40) <|
 (Go.AM.get (asB (Heap.rd h143 ⟨a146.block, (a146.off + ((Int.toNat v142) * 1)), none⟩)) fun y147 =>
 (branch y147
 (Go.AM.get v138 fun a148 =>
 (Go.AM.get (asS (Heap.rd h143 ⟨a148.block, a148.off, none⟩)) fun y149 =>
 (withH (Heap.new h143 (.cells [(.int .i64 v142)] false)) fun h150 =>
 (Go.AM.get (Heap.rdN h150 ⟨h143.next, 0, none⟩ 1) fun y151 =>
 (Go.AM.get (Heap.app h150 1 8 y149 1 y151) fun r152 =>
 (Go.AM.get v138 fun a153 =>
 (Go.AM.get (Heap.wr r152.2 ⟨a153.block, a153.off, none⟩ [(Sl.v r152.1)]) fun h154 =>
 (R v137 v138 v139 v140 v141 (IntKind.wrap .i64 (v142 + 1)) h154))))))))
 (Go.AM.get v140 fun a157 =>
 (chk (idx v142 40) <|
 (Go.AM.get (asB (Heap.rd h143 ⟨a157.block, (a157.off + ((Int.toNat v142) * 1)), none⟩)) fun y158 =>
 (branch y158
 (Go.AM.get v138 fun a159 =>
 (Go.AM.get (asS (Heap.rd h143 ⟨a159.block, (a159.off + 1), none⟩)) fun y160 =>
 (withH (Heap.new h143 (.cells [(.int .i64 v142)] false)) fun h161 =>
 (Go.AM.get (Heap.rdN h161 ⟨h143.next, 0, none⟩ 1) fun y162 =>
 (Go.AM.get (Heap.app h161 1 8 y160 1 y162) fun r163 =>
 (Go.AM.get v138 fun a164 =>
 (Go.AM.get (Heap.wr r163.2 ⟨a164.block, (a164.off + 1), none⟩ [(Sl.v r163.1)]) fun h165 =>
 (R v137 v138 v139 v140 v141 (IntKind.wrap .i64 (v142 + 1)) h165))))))))
 (Go.AM.get v138 fun a166 =>
 (Go.AM.get (asS (Heap.rd h143 ⟨a166.block, (a166.off + 2), none⟩)) fun y167 =>
 (withH (Heap.new h143 (.cells [(.int .i64 v142)] false)) fun h168 =>
 (Go.AM.get (Heap.rdN h168 ⟨h143.next, 0, none⟩ 1) fun y169 =>
 (Go.AM.get (Heap.app h168 1 8 y167 1 y169) fun r170 =>
 (Go.AM.get v138 fun a171 =>
 (Go.AM.get (Heap.wr r170.2 ⟨a171.block, (a171.off + 2), none⟩ [(Sl.v r170.1)]) fun h172 =>
 (R v137 v138 v139 v140 v141 (IntKind.wrap .i64 (v142 + 1)) h172))))))))))))))))
 (X6 v137 v138 h143))
def el54_1017 (fu : Nat) (V : EV) (X6 : Option Addr → Option Addr → Heap → Prop) : Nat → Option Addr → Option Addr → Option Addr → Option Addr → Int → Int → Heap → Prop
 | 0, _, _, _, _, _, _, _ => False
 | n + 1, v137, v138, v139, v140, v141, v142, h143 => eb54_1017 fu V X6 (el54_1017 fu V X6 n) v137 v138 v139 v140 v141 v142 h143
def e54 (fu : Nat) (V : EV) (p0 : (Int × Sl × Unit)) (h : Heap) (K : (Sl × Sl × Sl × Unit) → Heap → Prop) : Prop :=
 (withH (Heap.new h (.cells [(.int .i64 p0.1), (Sl.v p0.2.1)] false)) fun h3 =>
 (withH (Heap.new h3 (.cells [(.slice none 0 0), (.slice none 0 0), (.slice none 0 0)] false)) fun h4 =>
 (withH (Heap.new h4 (.cells [(.slice none 0 0), (.slice none 0 0), (.slice none 0 0)] false)) fun h6 =>
 (Go.AM.get (asI .i64 (Heap.rd h6 ⟨h.next, 0, none⟩)) fun y13 =>
 (Go.AM.get (asS (Heap.rd h6 ⟨h.next, 1, none⟩)) fun y14 =>
 (e49 fu V (y13, y14, ()) (-1) h6 fun r15 h16 =>
 (e50 fu V r15 h16 fun r17 h18 =>
 (withH (Heap.new h18 (.cells (List.replicate 40 (.bool false)) false)) fun h21 =>
 (withH (Heap.new h21 (.cells (List.replicate 40 (.bool false)) false)) fun h22 =>
 (Go.AM.get (asI .i64 (Heap.rd h22 ⟨h.next, 0, none⟩)) fun y49 =>
 (el54_249 fu V
 (fun z50 z51 z52 z53 z54 h55 =>
 (Go.AM.get z50 fun a125 =>
 (Go.AM.get (asS (Heap.rd h55 ⟨a125.block, (a125.off + 1), none⟩)) fun y126 =>
 (el54_505 fu V
 (fun z127 z128 z129 z130 z131 h132 =>
 (Go.AM.get z127 fun a135 =>
 (Go.AM.get (asI .i64 (Heap.rd h132 ⟨a135.block, a135.off, none⟩)) fun y136 =>
 (el54_1017 fu V
 (fun z173 z174 h175 =>
 (Go.AM.get z174 fun a176 =>
 (Go.AM.get (asS (Heap.rd h175 ⟨a176.block, a176.off, none⟩)) fun y177 =>
 (Go.AM.get (asS (Heap.rd h175 ⟨a176.block, (a176.off + 1), none⟩)) fun y178 =>
 (Go.AM.get (asS (Heap.rd h175 ⟨a176.block, (a176.off + 2), none⟩)) fun y179 =>
 (Go.AM.get z173 fun a180 =>
 (Go.AM.get (Heap.wr h175 a180 [(Sl.v y177), (Sl.v y178), (Sl.v y179)]) fun h181 =>
 (Go.AM.get z173 fun a182 =>
 (Go.AM.get (asS (Heap.rd h181 ⟨a182.block, a182.off, none⟩)) fun y183 =>
 (Go.AM.get (asS (Heap.rd h181 ⟨a182.block, (a182.off + 1), none⟩)) fun y184 =>
 (Go.AM.get (asS (Heap.rd h181 ⟨a182.block, (a182.off + 2), none⟩)) fun y185 =>
 (K (y183, y184, y185, ()) h181))))))))))))
 fu z128 z129 z130 z131 y136 0 h132))))
 fu z50 z51 z52 z53 z54 y126 ((y126.len : Nat) : Int) 0 h55))))
 fu (some ⟨h.next, 0, none⟩) (some ⟨h3.next, 0, none⟩) (some ⟨h4.next, 0, none⟩) r17 (some ⟨h18.next, 0, none⟩) (some ⟨h21.next, 0, none⟩) y49 0 h22)))))))))))

def e16 (fu : Nat) (V : EV) (p0 : (Int × Sl × Unit)) (h : Heap) (K : (Sl × Sl × Sl × Unit) → Int → Heap → Prop) : Prop :=
 (withH (Heap.new h (.cells [(.int .i64 p0.1), (Sl.v p0.2.1)] false)) fun h3 =>
 (withH (Heap.new h3 (.cells [(.slice none 0 0), (.slice none 0 0), (.slice none 0 0)] false)) fun h4 =>
 (Go.AM.get (asI .i64 (Heap.rd h4 ⟨h.next, 0, none⟩)) fun y9 =>
 (Go.AM.get (asS (Heap.rd h4 ⟨h.next, 1, none⟩)) fun y10 =>
 (e33 fu V (y9, y10, ()) h4 fun r11 h12 =>
 (branch (r11 != 0)
 (Go.AM.get (Heap.wr h12 ⟨h3.next, 0, none⟩ [(.slice none 0 0), (.slice none 0 0), (.slice none 0 0)]) fun h13 =>
 (Go.AM.get (asS (Heap.rd h13 ⟨h3.next, 0, none⟩)) fun y14 =>
 (Go.AM.get (asS (Heap.rd h13 ⟨h3.next, 1, none⟩)) fun y15 =>
 (Go.AM.get (asS (Heap.rd h13 ⟨h3.next, 2, none⟩)) fun y16 =>
 (K (y14, y15, y16, ()) r11 h13)))))
 (Go.AM.get (asI .i64 (Heap.rd h12 ⟨h.next, 0, none⟩)) fun y17 =>
 (Go.AM.get (asS (Heap.rd h12 ⟨h.next, 1, none⟩)) fun y18 =>
 (e54 fu V (y17, y18, ()) h12 fun r19 h20 =>
 (Go.AM.get (Heap.wr h20 ⟨h3.next, 0, none⟩ [(Sl.v r19.1), (Sl.v r19.2.1), (Sl.v r19.2.2.1)]) fun h21 =>
 (Go.AM.get (asS (Heap.rd h21 ⟨h3.next, 0, none⟩)) fun y22 =>
 (Go.AM.get (asS (Heap.rd h21 ⟨h3.next, 1, none⟩)) fun y23 =>
 (Go.AM.get (asS (Heap.rd h21 ⟨h3.next, 2, none⟩)) fun y24 =>
 (K (y22, y23, y24, ()) 0 h21))))))))))))))

def eb91_25 (fu : Nat) (V : EV) (XR : Int → Heap → Prop) (X0 : Heap → Prop) (R : Sl → Value → Int → Int → Heap → Prop) (v1 : Sl) (v2 : Value) (v3 : Int) (v4 : Int) (h5 : Heap) : Prop :=
 (branch (decide (v4 < v3))
 (Go.AM.get v1.a fun a6 =>
 (chk (idx v4 v1.len) <|
 (Go.AM.get (asS (Heap.rd h5 ⟨a6.block, (a6.off + ((Int.toNat v4) * 1)), none⟩)) fun y7 =>
 (V v2 [(Sl.v y7)] h5 (retK fun r8 h9 =>
 (boolK r8 fun b11 => (branch b11
 (XR v4 h9)
 (R v1 v2 v3 (IntKind.wrap .i64 (v4 + 1)) h9))))))))
 (X0 h5))
def el91_25 (fu : Nat) (V : EV) (XR : Int → Heap → Prop) (X0 : Heap → Prop) : Nat → Sl → Value → Int → Int → Heap → Prop
 | 0, _, _, _, _, _ => False
 | n + 1, v1, v2, v3, v4, h5 => eb91_25 fu V XR X0 (el91_25 fu V XR X0 n) v1 v2 v3 v4 h5
def e91 (fu : Nat) (V : EV) (p0 : Sl) (p1 : Value) (h : Heap) (K : Int → Heap → Prop) : Prop :=
 (el91_25 fu V
 (fun z12 h13 =>
 (K z12 h13))
 (fun h14 =>
 (K (-1) h14))
 fu p0 p1 ((p0.len : Nat) : Int) 0 h)

def e74 (fu : Nat) (V : EV) (p0 : Sl) (p1 : Value) (h : Heap) (K : Bool → Heap → Prop) : Prop :=
 (e91 fu V p0 p1 h fun r1 h2 =>
 (K (decide (r1 ≥ 0)) h2))

def eb83_25 (fu : Nat) (V : EV) (XR : Int → Heap → Prop) (X0 : Heap → Prop) (R : Sl → Value → Int → Int → Heap → Prop) (v1 : Sl) (v2 : Value) (v3 : Int) (v4 : Int) (h5 : Heap) : Prop :=
 (branch (decide (v4 < v3))
 (Go.AM.get v1.a fun a6 =>
 (chk (idx v4 v1.len) <|
 (Go.AM.get (asI .i64 (Heap.rd h5 ⟨a6.block, (a6.off + ((Int.toNat v4) * 1)), none⟩)) fun y7 =>
 (V v2 [(.int .i64 y7)] h5 (retK fun r8 h9 =>
 (boolK r8 fun b11 => (branch b11
 (XR v4 h9)
 (R v1 v2 v3 (IntKind.wrap .i64 (v4 + 1)) h9))))))))
 (X0 h5))
def el83_25 (fu : Nat) (V : EV) (XR : Int → Heap → Prop) (X0 : Heap → Prop) : Nat → Sl → Value → Int → Int → Heap → Prop
 | 0, _, _, _, _, _ => False
 | n + 1, v1, v2, v3, v4, h5 => eb83_25 fu V XR X0 (el83_25 fu V XR X0 n) v1 v2 v3 v4 h5
def e83 (fu : Nat) (V : EV) (p0 : Sl) (p1 : Value) (h : Heap) (K : Int → Heap → Prop) : Prop :=
 (el83_25 fu V
 (fun z12 h13 =>
 (K z12 h13))
 (fun h14 =>
 (K (-1) h14))
 fu p0 p1 ((p0.len : Nat) : Int) 0 h)

def e69 (fu : Nat) (V : EV) (p0 : Sl) (p1 : Value) (h : Heap) (K : Bool → Heap → Prop) : Prop :=
 (e83 fu V p0 p1 h fun r1 h2 =>
 (K (decide (r1 ≥ 0)) h2))

def e75 (fu : Nat) (V : EV) (p0 : Sl) (p1 : Option Addr) (h : Heap) (K : Bool → Heap → Prop) : Prop :=
 (Go.AM.get p1 fun a1 =>
 (Go.AM.get (asI .i64 (Heap.rd h a1)) fun y2 =>
 (K (((p0.len : Nat) : Int) != y2) h)))

def e76 (fu : Nat) (V : EV) (p0 : Int) (h : Heap) (K : Bool → Heap → Prop) : Prop :=
 (branch (decide (p0 < (-1000000)))
 (K true h)
 (K (decide (p0 > 1000000)) h))

def eb63_121 (fu : Nat) (V : EV) (XR : Int → Heap → Prop) (X0 : Heap → Prop) (R : Sl → Int → Int → Heap → Prop) (v13 : Sl) (v14 : Int) (v15 : Int) (h16 : Heap) : Prop :=
 (branch (decide (v15 < v14))
 (Go.AM.get v13.a fun a17 =>
 (chk (idx v15 v13.len) <|
 (Go.AM.get (asS (Heap.rd h16 ⟨a17.block, (a17.off + ((Int.toNat v15) * 1)), none⟩)) fun y18 =>
 (e69 fu V y18 (.func (.func 76) #[] ⟨[]⟩) h16 fun r19 h20 =>
 (branch r19
 (XR 1 h20)
 (R v13 v14 (IntKind.wrap .i64 (v15 + 1)) h20))))))
 (X0 h16))
def el63_121 (fu : Nat) (V : EV) (XR : Int → Heap → Prop) (X0 : Heap → Prop) : Nat → Sl → Int → Int → Heap → Prop
 | 0, _, _, _, _ => False
 | n + 1, v13, v14, v15, h16 => eb63_121 fu V XR X0 (el63_121 fu V XR X0 n) v13 v14 v15 h16
def e63 (fu : Nat) (V : EV) (p0 : Sl) (h : Heap) (K : Int → Heap → Prop) : Prop :=
 (withH (Heap.new h (.cells [(.int .i64 0)] false)) fun h3 =>
 (Go.AM.get (Heap.wr h3 ⟨h.next, 0, none⟩ [(.int .i64 ((p0.len : Nat) : Int))]) fun h4 =>
 (Go.AM.get (asI .i64 (Heap.rd h4 ⟨h.next, 0, none⟩)) fun y9 =>
 (branch (decide (y9 < 1))
 (K 7 h4)
 (Go.AM.get (asI .i64 (Heap.rd h4 ⟨h.next, 0, none⟩)) fun y10 =>
 (branch (decide (y10 > 12))
 (K 7 h4)
 (e74 fu V p0 (.func (.func 75) #[] ⟨[(.pointer (some ⟨h.next, 0, none⟩))]⟩) h4 fun r11 h12 =>
 (branch r11
 (K 7 h12)
 (el63_121 fu V
 (fun z21 h22 =>
 (K z21 h22))
 (fun h23 =>
 (K 0 h23))
 fu p0 ((p0.len : Nat) : Int) 0 h12)))))))))

def e101 (fu : Nat) (V : EV) (p0 : Int) (p1 : Int) (h : Heap) (K : Int → Int → Heap → Prop) : Prop :=
 (K (IntKind.wrap .u64 ((IntKind.wrap .u64 ((IntKind.wrap .u64 ((Int.fdiv p0 (2 ^ (min 32 64))) * (Int.fdiv p1 (2 ^ (min 32 64))))) + (Int.fdiv (IntKind.wrap .u64 ((IntKind.wrap .u64 ((Int.fdiv p0 (2 ^ (min 32 64))) * (IntKind.wrap .u64 (BitVec.ofInt 64 p1 &&& BitVec.ofInt 64 4294967295).toNat))) + (Int.fdiv (IntKind.wrap .u64 ((IntKind.wrap .u64 (BitVec.ofInt 64 p0 &&& BitVec.ofInt 64 4294967295).toNat) * (IntKind.wrap .u64 (BitVec.ofInt 64 p1 &&& BitVec.ofInt 64 4294967295).toNat))) (2 ^ (min 32 64))))) (2 ^ (min 32 64))))) + (Int.fdiv (IntKind.wrap .u64 ((IntKind.wrap .u64 (BitVec.ofInt 64 (IntKind.wrap .u64 ((IntKind.wrap .u64 ((Int.fdiv p0 (2 ^ (min 32 64))) * (IntKind.wrap .u64 (BitVec.ofInt 64 p1 &&& BitVec.ofInt 64 4294967295).toNat))) + (Int.fdiv (IntKind.wrap .u64 ((IntKind.wrap .u64 (BitVec.ofInt 64 p0 &&& BitVec.ofInt 64 4294967295).toNat) * (IntKind.wrap .u64 (BitVec.ofInt 64 p1 &&& BitVec.ofInt 64 4294967295).toNat))) (2 ^ (min 32 64))))) &&& BitVec.ofInt 64 4294967295).toNat) + (IntKind.wrap .u64 ((IntKind.wrap .u64 (BitVec.ofInt 64 p0 &&& BitVec.ofInt 64 4294967295).toNat) * (Int.fdiv p1 (2 ^ (min 32 64))))))) (2 ^ (min 32 64))))) (IntKind.wrap .u64 (p0 * p1)) h)

def e92 (fu : Nat) (V : EV) (p0 : Int) (p1 : Int) (h : Heap) (K : Int → Int → Heap → Prop) : Prop :=
 (e101 fu V p0 p1 h fun r1 r2 h3 =>
 (K r1 r2 h3))

def eb80_507 (fu : Nat) (V : EV) (X0 : Sl → Heap → Prop) (R : Sl → Int → Heap → Prop) (v15 : Sl) (v16 : Int) (h17 : Heap) : Prop :=
 (branch (decide (v16 < ((v15.len : Nat) : Int)))
 (chk (within v16 ((v15.len : Nat) : Int) ((v15.cap : Nat) : Int)) <|
 (chk (within 0 v16 ((v15.cap : Nat) : Int)) <|
 (optK (Sl.cut v15 1 (Int.toNat v16) (Int.toNat ((v15.len : Nat) : Int))).a
 (R v15 (IntKind.wrap .i64 (v16 + 0)) h17)
 fun a18 =>
 (optK (Sl.cut v15 1 0 (Int.toNat v16)).a
 (R v15 (IntKind.wrap .i64 (v16 + 0)) h17)
 fun a19 =>
 (Go.AM.get (Heap.rdN h17 ⟨a19.block, a19.off, none⟩ ((Nat.min ((Sl.cut v15 1 0 (Int.toNat v16)).len) ((Sl.cut v15 1 (Int.toNat v16) (Int.toNat ((v15.len : Nat) : Int))).len)) * 1)) fun y20 =>
 Go.AM.get (Heap.wr h17 ⟨a18.block, a18.off, none⟩ y20) fun h21 =>
 (R v15 (IntKind.wrap .i64 (v16 + (((Nat.min ((Sl.cut v15 1 0 (Int.toNat v16)).len) ((Sl.cut v15 1 (Int.toNat v16) (Int.toNat ((v15.len : Nat) : Int))).len)) : Nat) : Int))) h21))))))
 (X0 v15 h17))
def el80_507 (fu : Nat) (V : EV) (X0 : Sl → Heap → Prop) : Nat → Sl → Int → Heap → Prop
 | 0, _, _, _ => False
 | n + 1, v15, v16, h17 => eb80_507 fu V X0 (el80_507 fu V X0 n) v15 v16 h17
def eq80_126 (fu : Nat) (V : EV) (XR : Sl → Heap → Prop) (v12 : Sl) (v13 : Int) (h14 : Heap) : Prop :=
 (el80_507 fu V
 (fun z22 h23 =>
 (XR z22 h23))
 fu v12 v13 h14)
def e80 (fu : Nat) (V : EV) (p0 : Sl) (p1 : Int) (h : Heap) (K : Sl → Heap → Prop) : Prop :=
 (branch (decide (p1 < 0))
 False
 (e92 fu V (IntKind.wrap .u64 ((p0.len : Nat) : Int)) (IntKind.wrap .u64 p1) h fun r4 r5 h6 =>
 (branch (decide (r4 > 0))
 False
 (branch (decide (r5 > 9223372036854775807))
 False
 (chk (within 0 (IntKind.wrap .i64 r5) (IntKind.wrap .i64 r5) && (decide ((IntKind.wrap .i64 r5) ≤ 1000000000000) && (small (Int.toNat (IntKind.wrap .i64 r5)) 8 && true))) <|
 (withH (Heap.new h6 (.cells (rep [(.int .i64 0)] (Int.toNat (IntKind.wrap .i64 r5))) false)) fun h8 =>
 (optK p0.a
 (eq80_126 fu V
 (fun z25 h26 =>
 (K z25 h26))
 (Sl.mk (some ⟨h6.next, 0, (some 0)⟩) (Int.toNat (IntKind.wrap .i64 r5)) (Int.toNat (IntKind.wrap .i64 r5))) 0 h8)
 fun a24 =>
 (Go.AM.get (Heap.rdN h8 ⟨a24.block, a24.off, none⟩ ((Nat.min p0.len (Int.toNat (IntKind.wrap .i64 r5))) * 1)) fun y27 =>
 Go.AM.get (Heap.wr h8 ⟨h6.next, 0, none⟩ y27) fun h28 =>
 (eq80_126 fu V
 (fun z29 h30 =>
 (K z29 h30))
 (Sl.mk (some ⟨h6.next, 0, (some 0)⟩) (Int.toNat (IntKind.wrap .i64 r5)) (Int.toNat (IntKind.wrap .i64 r5))) (((Nat.min p0.len (Int.toNat (IntKind.wrap .i64 r5))) : Nat) : Int) h28)))))))))

def eb81_121 (fu : Nat) (V : EV) (X0 : Int → Heap → Prop) (R : Sl → Int → Int → Heap → Prop) (v5 : Sl) (v6 : Int) (v7 : Int) (h8 : Heap) : Prop :=
 (branch (decide (v7 < ((v5.len : Nat) : Int)))
 (Go.AM.get v5.a fun a9 =>
 (chk (idx v7 v5.len) <|
 (Go.AM.get (asI .i64 (Heap.rd h8 ⟨a9.block, (a9.off + ((Int.toNat v7) * 1)), none⟩)) fun y10 =>
 (R v5 (if y10 > v6 then y10 else v6) (IntKind.wrap .i64 (v7 + 1)) h8))))
 (X0 v6 h8))
def el81_121 (fu : Nat) (V : EV) (X0 : Int → Heap → Prop) : Nat → Sl → Int → Int → Heap → Prop
 | 0, _, _, _, _ => False
 | n + 1, v5, v6, v7, h8 => eb81_121 fu V X0 (el81_121 fu V X0 n) v5 v6 v7 h8
def e81 (fu : Nat) (V : EV) (p0 : Sl) (h : Heap) (K : Int → Heap → Prop) : Prop :=
 (branch (decide (((p0.len : Nat) : Int) < 1))
 False
 (Go.AM.get p0.a fun a3 =>
 (chk (idx 0 p0.len) <|
 (Go.AM.get (asI .i64 (Heap.rd h ⟨a3.block, a3.off, none⟩)) fun y4 =>
 (el81_121 fu V
 (fun z11 h12 =>
 (K z11 h12))
 fu p0 y4 1 h)))))

def eb82_507 (fu : Nat) (V : EV) (X0 : Sl → Heap → Prop) (R : Sl → Int → Heap → Prop) (v15 : Sl) (v16 : Int) (h17 : Heap) : Prop :=
 (branch (decide (v16 < ((v15.len : Nat) : Int)))
 (chk (within v16 ((v15.len : Nat) : Int) ((v15.cap : Nat) : Int)) <|
 (chk (within 0 v16 ((v15.cap : Nat) : Int)) <|
 (optK (Sl.cut v15 1 (Int.toNat v16) (Int.toNat ((v15.len : Nat) : Int))).a
 (R v15 (IntKind.wrap .i64 (v16 + 0)) h17)
 fun a18 =>
 (optK (Sl.cut v15 1 0 (Int.toNat v16)).a
 (R v15 (IntKind.wrap .i64 (v16 + 0)) h17)
 fun a19 =>
 (Go.AM.get (Heap.rdN h17 ⟨a19.block, a19.off, none⟩ ((Nat.min ((Sl.cut v15 1 0 (Int.toNat v16)).len) ((Sl.cut v15 1 (Int.toNat v16) (Int.toNat ((v15.len : Nat) : Int))).len)) * 1)) fun y20 =>
 Go.AM.get (Heap.wr h17 ⟨a18.block, a18.off, none⟩ y20) fun h21 =>
 (R v15 (IntKind.wrap .i64 (v16 + (((Nat.min ((Sl.cut v15 1 0 (Int.toNat v16)).len) ((Sl.cut v15 1 (Int.toNat v16) (Int.toNat ((v15.len : Nat) : Int))).len)) : Nat) : Int))) h21))))))
 (X0 v15 h17))
def el82_507 (fu : Nat) (V : EV) (X0 : Sl → Heap → Prop) : Nat → Sl → Int → Heap → Prop
 | 0, _, _, _ => False
 | n + 1, v15, v16, h17 => eb82_507 fu V X0 (el82_507 fu V X0 n) v15 v16 h17
def eq82_126 (fu : Nat) (V : EV) (XR : Sl → Heap → Prop) (v12 : Sl) (v13 : Int) (h14 : Heap) : Prop :=
 (el82_507 fu V
 (fun z22 h23 =>
 (XR z22 h23))
 fu v12 v13 h14)
def e82 (fu : Nat) (V : EV) (p0 : Sl) (p1 : Int) (h : Heap) (K : Sl → Heap → Prop) : Prop :=
 (branch (decide (p1 < 0))
 False
 (e92 fu V (IntKind.wrap .u64 ((p0.len : Nat) : Int)) (IntKind.wrap .u64 p1) h fun r4 r5 h6 =>
 (branch (decide (r4 > 0))
 False
 (branch (decide (r5 > 9223372036854775807))
 False
 (chk (within 0 (IntKind.wrap .i64 r5) (IntKind.wrap .i64 r5) && (decide ((IntKind.wrap .i64 r5) ≤ 1000000000000) && (small (Int.toNat (IntKind.wrap .i64 r5)) 8 && true))) <|
 (withH (Heap.new h6 (.cells (rep [(.int .i64 0)] (Int.toNat (IntKind.wrap .i64 r5))) false)) fun h8 =>
 (optK p0.a
 (eq82_126 fu V
 (fun z25 h26 =>
 (K z25 h26))
 (Sl.mk (some ⟨h6.next, 0, (some 0)⟩) (Int.toNat (IntKind.wrap .i64 r5)) (Int.toNat (IntKind.wrap .i64 r5))) 0 h8)
 fun a24 =>
 (Go.AM.get (Heap.rdN h8 ⟨a24.block, a24.off, none⟩ ((Nat.min p0.len (Int.toNat (IntKind.wrap .i64 r5))) * 1)) fun y27 =>
 Go.AM.get (Heap.wr h8 ⟨h6.next, 0, none⟩ y27) fun h28 =>
 (eq82_126 fu V
 (fun z29 h30 =>
 (K z29 h30))
 (Sl.mk (some ⟨h6.next, 0, (some 0)⟩) (Int.toNat (IntKind.wrap .i64 r5)) (Int.toNat (IntKind.wrap .i64 r5))) (((Nat.min p0.len (Int.toNat (IntKind.wrap .i64 r5))) : Nat) : Int) h28)))))))))

def eq67_33608895078 (fu : Nat) (V : EV) (XN : Sl → Sl → Sl → Int → Sl → Int → Sl → Sl → Sl → Int → Int → Int → Int → Int → Int → Int → Heap → Prop) (v104 : Sl) (v105 : Sl) (v106 : Sl) (v107 : Int) (v108 : Sl) (v109 : Int) (v110 : Sl) (v111 : Sl) (v112 : Sl) (v113 : Int) (v114 : Int) (v115 : Int) (v116 : Int) (v117 : Int) (v118 : Int) (v119 : Int) (v120 : Int) (h121 : Heap) : Prop :=
 (branch (decide (v115 < 0))
 (XN v104 v105 v106 v107 v108 v109 v110 v111 v112 v113 v114 v116 v117 v118 v119 v120 h121)
 (Go.AM.get v110.a fun a122 =>
 (chk (idx v116 v110.len) <|
 (Go.AM.get (asI .i64 (Heap.rd h121 ⟨a122.block, (a122.off + ((Int.toNat v116) * 1)), none⟩)) fun y123 =>
 (Go.AM.get v110.a fun a124 =>
 (chk (idx v115 v110.len) <|
 (Go.AM.get (asI .i64 (Heap.rd h121 ⟨a124.block, (a124.off + ((Int.toNat v115) * 1)), none⟩)) fun y125 =>
 (branch (decide (y123 < y125))
 (XN v104 v105 v106 v107 v108 v109 v110 v111 v112 v113 v114 v116 v117 v118 v119 v120 h121)
 (XN v104 v105 v106 v107 v108 v109 v110 v111 v112 v113 v114 v115 v117 v118 v119 v120 h121)))))))))
def eb67_131284745 (fu : Nat) (V : EV) (X4 : Sl → Sl → Sl → Int → Sl → Int → Sl → Sl → Sl → Int → Int → Int → Heap → Prop) (R : Sl → Sl → Sl → Int → Sl → Int → Sl → Sl → Sl → Int → Int → Int → Int → Int → Int → Int → Heap → Prop) (v59 : Sl) (v60 : Sl) (v61 : Sl) (v62 : Int) (v63 : Sl) (v64 : Int) (v65 : Sl) (v66 : Sl) (v67 : Sl) (v68 : Int) (v69 : Int) (v70 : Int) (v71 : Int) (v72 : Int) (v73 : Int) (v74 : Int) (h75 : Heap) : Prop :=
 (branch (decide (v74 < v73))
 (Go.AM.get v67.a fun a78 =>
 (chk (idx v74 v67.len) <|
 (Go.AM.get (asB (Heap.rd h75 ⟨a78.block, (a78.off + ((Int.toNat v74) * 1)), none⟩)) fun y79 =>
 (branch y79
 (R v59 v60 v61 v62 v63 v64 v65 v66 v67 v68 v69 v70 v71 v72 v73 (IntKind.wrap .i64 (v74 + 1)) h75)
 (Go.AM.get v60.a fun a126 =>
 (chk (idx v68 v60.len) <|
 (Go.AM.get (asI .i64 (Heap.rd h75 ⟨a126.block, (a126.off + ((Int.toNat v68) * 1)), none⟩)) fun y127 =>
 (Go.AM.get v61.a fun a128 =>
 (chk (idx v74 v61.len) <|
 (Go.AM.get (asI .i64 (Heap.rd h75 ⟨a128.block, (a128.off + ((Int.toNat v74) * 1)), none⟩)) fun y129 =>
 (Go.AM.get v59.a fun a130 =>
 (chk (idx v68 v59.len) <|
 (Go.AM.get (asS (Heap.rd h75 ⟨a130.block, (a130.off + ((Int.toNat v68) * 1)), none⟩)) fun y131 =>
 (Go.AM.get y131.a fun a132 =>
 (chk (idx v74 y131.len) <|
 (Go.AM.get (asI .i64 (Heap.rd h75 ⟨a132.block, (a132.off + ((Int.toNat v74) * 1)), none⟩)) fun y133 =>
 (Go.AM.get v65.a fun a134 =>
 (chk (idx v74 v65.len) <|
 (Go.AM.get (asI .i64 (Heap.rd h75 ⟨a134.block, (a134.off + ((Int.toNat v74) * 1)), none⟩)) fun y135 =>
 (branch (decide ((IntKind.wrap .i64 ((IntKind.wrap .i64 (y127 + y129)) - y133)) < y135))
 (Go.AM.get v65.a fun a136 =>
 (chk (idx v74 v65.len) <|
 (Go.AM.get (Heap.wr h75 ⟨a136.block, (a136.off + ((Int.toNat v74) * 1)), none⟩ [(.int .i64 (IntKind.wrap .i64 ((IntKind.wrap .i64 (y127 + y129)) - y133)))]) fun h137 =>
 (Go.AM.get v66.a fun a138 =>
 (chk (idx v74 v66.len) <|
 (Go.AM.get (Heap.wr h137 ⟨a138.block, (a138.off + ((Int.toNat v74) * 1)), none⟩ [(.int .i64 v69)]) fun h139 =>
 (eq67_33608895078 fu V
 (fun z140 z141 z142 z143 z144 z145 z146 z147 z148 z149 z150 z151 z152 z153 z154 z155 h156 =>
 (R z140 z141 z142 z143 z144 z145 z146 z147 z148 z149 z150 z151 z152 z153 z154 (IntKind.wrap .i64 (z155 + 1)) h156))
 v59 v60 v61 v62 v63 v64 v65 v66 v67 v68 v69 v70 v74 v71 v72 v73 v74 h139)))))))
 (eq67_33608895078 fu V
 (fun z157 z158 z159 z160 z161 z162 z163 z164 z165 z166 z167 z168 z169 z170 z171 z172 h173 =>
 (R z157 z158 z159 z160 z161 z162 z163 z164 z165 z166 z167 z168 z169 z170 z171 (IntKind.wrap .i64 (z172 + 1)) h173))
 v59 v60 v61 v62 v63 v64 v65 v66 v67 v68 v69 v70 v74 v71 v72 v73 v74 h75)))))))))))))))))))))
 (X4 v59 v60 v61 v62 v63 v64 v65 v66 v67 v70 v71 v72 h75))
def el67_131284745 (fu : Nat) (V : EV) (X4 : Sl → Sl → Sl → Int → Sl → Int → Sl → Sl → Sl → Int → Int → Int → Heap → Prop) : Nat → Sl → Sl → Sl → Int → Sl → Int → Sl → Sl → Sl → Int → Int → Int → Int → Int → Int → Int → Heap → Prop
 | 0, _, _, _, _, _, _, _, _, _, _, _, _, _, _, _, _, _ => False
 | n + 1, v59, v60, v61, v62, v63, v64, v65, v66, v67, v68, v69, v70, v71, v72, v73, v74, h75 => eb67_131284745 fu V X4 (el67_131284745 fu V X4 n) v59 v60 v61 v62 v63 v64 v65 v66 v67 v68 v69 v70 v71 v72 v73 v74 h75
def eb67_1050278009 (fu : Nat) (V : EV) (X6 : Sl → Sl → Sl → Int → Sl → Int → Sl → Sl → Sl → Int → Int → Int → Heap → Prop) (R : Sl → Sl → Sl → Int → Sl → Int → Sl → Sl → Sl → Int → Int → Int → Int → Int → Int → Heap → Prop) (v212 : Sl) (v213 : Sl) (v214 : Sl) (v215 : Int) (v216 : Sl) (v217 : Int) (v218 : Sl) (v219 : Sl) (v220 : Sl) (v221 : Int) (v222 : Int) (v223 : Int) (v224 : Int) (v225 : Int) (v226 : Int) (h227 : Heap) : Prop :=
 (branch (decide (v226 < v225))
 (Go.AM.get v220.a fun a230 =>
 (chk (idx v226 v220.len) <|
 (Go.AM.get (asB (Heap.rd h227 ⟨a230.block, (a230.off + ((Int.toNat v226) * 1)), none⟩)) fun y231 =>
 (branch y231
 (Go.AM.get v216.a fun a238 =>
 (chk (idx v226 v216.len) <|
 (Go.AM.get (asI .i64 (Heap.rd h227 ⟨a238.block, (a238.off + ((Int.toNat v226) * 1)), none⟩)) fun y239 =>
 (Go.AM.get v213.a fun a240 =>
 (chk (idx y239 v213.len) <|
 (Go.AM.get (asI .i64 (Heap.rd h227 ⟨a240.block, (a240.off + ((Int.toNat y239) * 1)), none⟩)) fun y241 =>
 (Go.AM.get v213.a fun a242 =>
 (chk (idx y239 v213.len) <|
 (Go.AM.get (Heap.wr h227 ⟨a242.block, (a242.off + ((Int.toNat y239) * 1)), none⟩ [(.int .i64 (IntKind.wrap .i64 (y241 - v222)))]) fun h243 =>
 (Go.AM.get v214.a fun a244 =>
 (chk (idx v226 v214.len) <|
 (Go.AM.get (asI .i64 (Heap.rd h243 ⟨a244.block, (a244.off + ((Int.toNat v226) * 1)), none⟩)) fun y245 =>
 (Go.AM.get v214.a fun a246 =>
 (chk (idx v226 v214.len) <|
 (Go.AM.get (Heap.wr h243 ⟨a246.block, (a246.off + ((Int.toNat v226) * 1)), none⟩ [(.int .i64 (IntKind.wrap .i64 (y245 + v222)))]) fun h247 =>
 (R v212 v213 v214 v215 v216 v217 v218 v219 v220 v221 v222 v223 v224 v225 (IntKind.wrap .i64 (v226 + 1)) h247))))))))))))))))
 (Go.AM.get v218.a fun a248 =>
 (chk (idx v226 v218.len) <|
 (Go.AM.get (asI .i64 (Heap.rd h227 ⟨a248.block, (a248.off + ((Int.toNat v226) * 1)), none⟩)) fun y249 =>
 (Go.AM.get v218.a fun a250 =>
 (chk (idx v226 v218.len) <|
 (Go.AM.get (Heap.wr h227 ⟨a250.block, (a250.off + ((Int.toNat v226) * 1)), none⟩ [(.int .i64 (IntKind.wrap .i64 (y249 - v222)))]) fun h251 =>
 (R v212 v213 v214 v215 v216 v217 v218 v219 v220 v221 v222 v223 v224 v225 (IntKind.wrap .i64 (v226 + 1)) h251)))))))))))
 (X6 v212 v213 v214 v215 v216 v217 v218 v219 v220 v221 v223 v224 h227))
def el67_1050278009 (fu : Nat) (V : EV) (X6 : Sl → Sl → Sl → Int → Sl → Int → Sl → Sl → Sl → Int → Int → Int → Heap → Prop) : Nat → Sl → Sl → Sl → Int → Sl → Int → Sl → Sl → Sl → Int → Int → Int → Int → Int → Int → Heap → Prop
 | 0, _, _, _, _, _, _, _, _, _, _, _, _, _, _, _, _ => False
 | n + 1, v212, v213, v214, v215, v216, v217, v218, v219, v220, v221, v222, v223, v224, v225, v226, h227 => eb67_1050278009 fu V X6 (el67_1050278009 fu V X6 n) v212 v213 v214 v215 v216 v217 v218 v219 v220 v221 v222 v223 v224 v225 v226 h227
def eb67_2051323 (fu : Nat) (V : EV) (X2 : Sl → Sl → Sl → Int → Sl → Int → Sl → Int → Int → Int → Heap → Prop) (R : Sl → Sl → Sl → Int → Sl → Int → Sl → Sl → Sl → Int → Int → Int → Int → Heap → Prop) (v45 : Sl) (v46 : Sl) (v47 : Sl) (v48 : Int) (v49 : Sl) (v50 : Int) (v51 : Sl) (v52 : Sl) (v53 : Sl) (v54 : Int) (v55 : Int) (v56 : Int) (v57 : Int) (h58 : Heap) : Prop :=
 (el67_131284745 fu V
 (fun z187 z188 z189 z190 z191 z192 z193 z194 z195 z196 z197 z198 h199 =>
 (Go.AM.get z193.a fun a202 =>
 (chk (idx z196 z193.len) <|
 (Go.AM.get (asI .i64 (Heap.rd h199 ⟨a202.block, (a202.off + ((Int.toNat z196) * 1)), none⟩)) fun y203 =>
 (Go.AM.get z188.a fun a208 =>
 (chk (idx z192 z188.len) <|
 (Go.AM.get (asI .i64 (Heap.rd h199 ⟨a208.block, (a208.off + ((Int.toNat z192) * 1)), none⟩)) fun y209 =>
 (Go.AM.get z188.a fun a210 =>
 (chk (idx z192 z188.len) <|
 (Go.AM.get (Heap.wr h199 ⟨a210.block, (a210.off + ((Int.toNat z192) * 1)), none⟩ [(.int .i64 (IntKind.wrap .i64 (y209 - y203)))]) fun h211 =>
 (el67_1050278009 fu V
 (fun z265 z266 z267 z268 z269 z270 z271 z272 z273 z274 z275 z276 h277 =>
 (Go.AM.get z273.a fun a280 =>
 (chk (idx z274 z273.len) <|
 (Go.AM.get (Heap.wr h277 ⟨a280.block, (a280.off + ((Int.toNat z274) * 1)), none⟩ [(.bool true)]) fun h281 =>
 (Go.AM.get z269.a fun a282 =>
 (chk (idx z274 z269.len) <|
 (Go.AM.get (asI .i64 (Heap.rd h281 ⟨a282.block, (a282.off + ((Int.toNat z274) * 1)), none⟩)) fun y283 =>
 (branch (decide (y283 < 0))
 (X2 z265 z266 z267 z268 z269 z270 z272 z274 z275 z276 h281)
 (Go.AM.get z269.a fun a284 =>
 (chk (idx z274 z269.len) <|
 (Go.AM.get (asI .i64 (Heap.rd h281 ⟨a284.block, (a284.off + ((Int.toNat z274) * 1)), none⟩)) fun y285 =>
 (R z265 z266 z267 z268 z269 z270 z271 z272 z273 y285 z274 z275 z276 h281))))))))))))
 fu z187 z188 z189 z190 z191 z192 z193 z194 z195 z196 y203 z197 z198 z190 0 h211)))))))))))
 fu v45 v46 v47 v48 v49 v50 v51 v52 v53 v54 v55 (-1) v56 v57 v48 0 h58)
def el67_2051323 (fu : Nat) (V : EV) (X2 : Sl → Sl → Sl → Int → Sl → Int → Sl → Int → Int → Int → Heap → Prop) : Nat → Sl → Sl → Sl → Int → Sl → Int → Sl → Sl → Sl → Int → Int → Int → Int → Heap → Prop
 | 0, _, _, _, _, _, _, _, _, _, _, _, _, _, _ => False
 | n + 1, v45, v46, v47, v48, v49, v50, v51, v52, v53, v54, v55, v56, v57, h58 => eb67_2051323 fu V X2 (el67_2051323 fu V X2 n) v45 v46 v47 v48 v49 v50 v51 v52 v53 v54 v55 v56 v57 h58
def eb67_4102653 (fu : Nat) (V : EV) (X8 : Sl → Sl → Sl → Int → Sl → Int → Int → Heap → Prop) (R : Sl → Sl → Sl → Int → Sl → Int → Sl → Int → Int → Int → Heap → Prop) (v308 : Sl) (v309 : Sl) (v310 : Sl) (v311 : Int) (v312 : Sl) (v313 : Int) (v314 : Sl) (v315 : Int) (v316 : Int) (v317 : Int) (h318 : Heap) : Prop :=
 (branch (decide (v315 ≥ 0))
 (Go.AM.get v314.a fun a321 =>
 (chk (idx v315 v314.len) <|
 (Go.AM.get (asI .i64 (Heap.rd h318 ⟨a321.block, (a321.off + ((Int.toNat v315) * 1)), none⟩)) fun y322 =>
 (branch (decide (y322 ≥ 0))
 (Go.AM.get v314.a fun a323 =>
 (chk (idx v315 v314.len) <|
 (Go.AM.get (asI .i64 (Heap.rd h318 ⟨a323.block, (a323.off + ((Int.toNat v315) * 1)), none⟩)) fun y324 =>
 (Go.AM.get v312.a fun a325 =>
 (chk (idx y324 v312.len) <|
 (Go.AM.get (asI .i64 (Heap.rd h318 ⟨a325.block, (a325.off + ((Int.toNat y324) * 1)), none⟩)) fun y326 =>
 (Go.AM.get v312.a fun a327 =>
 (chk (idx v315 v312.len) <|
 (Go.AM.get (Heap.wr h318 ⟨a327.block, (a327.off + ((Int.toNat v315) * 1)), none⟩ [(.int .i64 y326)]) fun h328 =>
 (Go.AM.get v314.a fun a329 =>
 (chk (idx v315 v314.len) <|
 (Go.AM.get (asI .i64 (Heap.rd h328 ⟨a329.block, (a329.off + ((Int.toNat v315) * 1)), none⟩)) fun y330 =>
 (R v308 v309 v310 v311 v312 v313 v314 y330 v316 v317 h328)))))))))))))
 (Go.AM.get v312.a fun a331 =>
 (chk (idx v315 v312.len) <|
 (Go.AM.get (Heap.wr h318 ⟨a331.block, (a331.off + ((Int.toNat v315) * 1)), none⟩ [(.int .i64 v313)]) fun h332 =>
 (Go.AM.get v314.a fun a333 =>
 (chk (idx v315 v314.len) <|
 (Go.AM.get (asI .i64 (Heap.rd h332 ⟨a333.block, (a333.off + ((Int.toNat v315) * 1)), none⟩)) fun y334 =>
 (R v308 v309 v310 v311 v312 v313 v314 y334 v316 v317 h332)))))))))))
 (X8 v308 v309 v310 v311 v312 v316 v317 h318))
def el67_4102653 (fu : Nat) (V : EV) (X8 : Sl → Sl → Sl → Int → Sl → Int → Int → Heap → Prop) : Nat → Sl → Sl → Sl → Int → Sl → Int → Sl → Int → Int → Int → Heap → Prop
 | 0, _, _, _, _, _, _, _, _, _, _, _ => False
 | n + 1, v308, v309, v310, v311, v312, v313, v314, v315, v316, v317, h318 => eb67_4102653 fu V X8 (el67_4102653 fu V X8 n) v308 v309 v310 v311 v312 v313 v314 v315 v316 v317 h318
def eb67_249 (fu : Nat) (V : EV) (X0 : Sl → Sl → Int → Sl → Heap → Prop) (R : Sl → Sl → Sl → Int → Sl → Int → Int → Heap → Prop) (v11 : Sl) (v12 : Sl) (v13 : Sl) (v14 : Int) (v15 : Sl) (v16 : Int) (v17 : Int) (h18 : Heap) : Prop :=
 (branch (decide (v17 < v16))
 (Go.AM.get v11.a fun a25 =>
 (chk (idx v17 v11.len) <|
 (Go.AM.get (asS (Heap.rd h18 ⟨a25.block, (a25.off + ((Int.toNat v17) * 1)), none⟩)) fun y26 =>
 (e81 fu V y26 h18 fun r27 h28 =>
 (Go.AM.get v12.a fun a29 =>
 (chk (idx v17 v12.len) <|
 (Go.AM.get (Heap.wr h28 ⟨a29.block, (a29.off + ((Int.toNat v17) * 1)), none⟩ [(.int .i64 r27)]) fun h30 =>
 (withH (Heap.new h30 (.cells [(.int .i64 1152921504606846976)] false)) fun h34 =>
 (e82 fu V (Sl.mk (some ⟨h30.next, 0, (some 0)⟩) 1 1) v14 h34 fun r35 h36 =>
 (withH (Heap.new h36 (.cells [(.int .i64 (-1))] false)) fun h40 =>
 (e80 fu V (Sl.mk (some ⟨h36.next, 0, (some 0)⟩) 1 1) v14 h40 fun r41 h42 =>
 (chk (within 0 v14 v14 && (decide (v14 ≤ 1000000000000) && (small (Int.toNat v14) 1 && true))) <|
 (withH (Heap.new h42 (.cells (rep [(.bool false)] (Int.toNat v14)) false)) fun h44 =>
 (el67_2051323 fu V
 (fun z297 z298 z299 z300 z301 z302 z303 z304 z305 z306 h307 =>
 (el67_4102653 fu V
 (fun z335 z336 z337 z338 z339 z340 z341 h342 =>
 (R z335 z336 z337 z338 z339 z340 (IntKind.wrap .i64 (z341 + 1)) h342))
 fu z297 z298 z299 z300 z301 z302 z303 z304 z305 z306 h307))
 fu v11 v12 v13 v14 v15 v17 r35 r41 (Sl.mk (some ⟨h42.next, 0, (some 0)⟩) (Int.toNat v14) (Int.toNat v14)) v17 (-1) v16 v17 h44))))))))))))))
 (X0 v12 v13 v14 v15 h18))
def el67_249 (fu : Nat) (V : EV) (X0 : Sl → Sl → Int → Sl → Heap → Prop) : Nat → Sl → Sl → Sl → Int → Sl → Int → Int → Heap → Prop
 | 0, _, _, _, _, _, _, _, _ => False
 | n + 1, v11, v12, v13, v14, v15, v16, v17, h18 => eb67_249 fu V X0 (el67_249 fu V X0 n) v11 v12 v13 v14 v15 v16 v17 h18
def eb67_1017 (fu : Nat) (V : EV) (X10 : Sl → Sl → Sl → Heap → Prop) (R : Sl → Sl → Sl → Sl → Int → Int → Heap → Prop) (v355 : Sl) (v356 : Sl) (v357 : Sl) (v358 : Sl) (v359 : Int) (v360 : Int) (h361 : Heap) : Prop :=
 (branch (decide (v360 < v359))
 (Go.AM.get v358.a fun a362 =>
 (chk (idx v360 v358.len) <|
 (Go.AM.get (asI .i64 (Heap.rd h361 ⟨a362.block, (a362.off + ((Int.toNat v360) * 1)), none⟩)) fun y363 =>
 (Go.AM.get v355.a fun a364 =>
 (chk (idx y363 v355.len) <|
 (Go.AM.get (Heap.wr h361 ⟨a364.block, (a364.off + ((Int.toNat y363) * 1)), none⟩ [(.int .i64 v360)]) fun h365 =>
 (R v355 v356 v357 v358 v359 (IntKind.wrap .i64 (v360 + 1)) h365)))))))
 (X10 v355 v356 v357 h361))
def el67_1017 (fu : Nat) (V : EV) (X10 : Sl → Sl → Sl → Heap → Prop) : Nat → Sl → Sl → Sl → Sl → Int → Int → Heap → Prop
 | 0, _, _, _, _, _, _, _ => False
 | n + 1, v355, v356, v357, v358, v359, v360, h361 => eb67_1017 fu V X10 (el67_1017 fu V X10 n) v355 v356 v357 v358 v359 v360 h361
def e67 (fu : Nat) (V : EV) (p0 : Sl) (h : Heap) (K : Sl → Sl → Sl → Heap → Prop) : Prop :=
 (chk (within 0 ((p0.len : Nat) : Int) ((p0.len : Nat) : Int) && (decide (((p0.len : Nat) : Int) ≤ 1000000000000) && (small (Int.toNat ((p0.len : Nat) : Int)) 8 && true))) <|
 (withH (Heap.new h (.cells (rep [(.int .i64 0)] (Int.toNat ((p0.len : Nat) : Int))) false)) fun h3 =>
 (chk (within 0 ((p0.len : Nat) : Int) ((p0.len : Nat) : Int) && (decide (((p0.len : Nat) : Int) ≤ 1000000000000) && (small (Int.toNat ((p0.len : Nat) : Int)) 8 && true))) <|
 (withH (Heap.new h3 (.cells (rep [(.int .i64 0)] (Int.toNat ((p0.len : Nat) : Int))) false)) fun h4 =>
 (chk (objE (Heap.get h4 h3.next) (Heap.get h4 h3.next)) <|
 (withH (Heap.new h4 (.cells [(.int .i64 (-1))] false)) fun h8 =>
 (e80 fu V (Sl.mk (some ⟨h4.next, 0, (some 0)⟩) 1 1) ((p0.len : Nat) : Int) h8 fun r9 h10 =>
 (el67_249 fu V
 (fun z348 z349 z350 z351 h352 =>
 (chk (within 0 z350 z350 && (decide (z350 ≤ 1000000000000) && (small (Int.toNat z350) 8 && true))) <|
 (withH (Heap.new h352 (.cells (rep [(.int .i64 0)] (Int.toNat z350)) false)) fun h354 =>
 (el67_1017 fu V
 (fun z366 z367 z368 h369 =>
 (K z366 z367 z368 h369))
 fu (Sl.mk (some ⟨h352.next, 0, (some 0)⟩) (Int.toNat z350) (Int.toNat z350)) z348 z349 z351 ((z351.len : Nat) : Int) 0 h354))))
 fu p0 (Sl.mk (some ⟨h.next, 0, (some 0)⟩) (Int.toNat ((p0.len : Nat) : Int)) (Int.toNat ((p0.len : Nat) : Int))) (Sl.mk (some ⟨h3.next, 0, (some 0)⟩) (Int.toNat ((p0.len : Nat) : Int)) (Int.toNat ((p0.len : Nat) : Int))) ((p0.len : Nat) : Int) r9 ((p0.len : Nat) : Int) 0 h10))))))))

def eb77_57 (fu : Nat) (V : EV) (X0 : Int → Heap → Prop) (R : Sl → Int → Sl → Int → Int → Heap → Prop) (v1 : Sl) (v2 : Int) (v3 : Sl) (v4 : Int) (v5 : Int) (h6 : Heap) : Prop :=
 (branch (decide (v5 < v4))
 (Go.AM.get v3.a fun a9 =>
 (chk (idx v5 v3.len) <|
 (Go.AM.get (asI .i64 (Heap.rd h6 ⟨a9.block, (a9.off + ((Int.toNat v5) * 1)), none⟩)) fun y10 =>
 (Go.AM.get v1.a fun a11 =>
 (chk (idx v5 v1.len) <|
 (Go.AM.get (asS (Heap.rd h6 ⟨a11.block, (a11.off + ((Int.toNat v5) * 1)), none⟩)) fun y12 =>
 (Go.AM.get y12.a fun a13 =>
 (chk (idx y10 y12.len) <|
 (Go.AM.get (asI .i64 (Heap.rd h6 ⟨a13.block, (a13.off + ((Int.toNat y10) * 1)), none⟩)) fun y14 =>
 (R v1 (IntKind.wrap .i64 (v2 + y14)) v3 v4 (IntKind.wrap .i64 (v5 + 1)) h6))))))))))
 (X0 v2 h6))
def el77_57 (fu : Nat) (V : EV) (X0 : Int → Heap → Prop) : Nat → Sl → Int → Sl → Int → Int → Heap → Prop
 | 0, _, _, _, _, _, _ => False
 | n + 1, v1, v2, v3, v4, v5, h6 => eb77_57 fu V X0 (el77_57 fu V X0 n) v1 v2 v3 v4 v5 h6
def e77 (fu : Nat) (V : EV) (p0 : Sl) (p1 : Sl) (h : Heap) (K : Int → Heap → Prop) : Prop :=
 (el77_57 fu V
 (fun z15 h16 =>
 (K z15 h16))
 fu p0 0 p1 ((p1.len : Nat) : Int) 0 h)

def e64 (fu : Nat) (V : EV) (p0 : Sl) (h : Heap) (K : Int → Heap → Prop) : Prop :=
 (branch (((p0.len : Nat) : Int) == 0)
 (K 0 h)
 (e67 fu V p0 h fun r1 r2 r3 h4 =>
 (e77 fu V p0 r1 h4 fun r5 h6 =>
 (K r5 h6))))

def e79 (fu : Nat) (V : EV) (p0 : Sl) (h : Heap) (K : Sl → Heap → Prop) : Prop :=
 (branch (Option.isNone p0.a)
 (K (Sl.mk none 0 0) h)
 (withH (Heap.new h (.cells [] false)) fun h1 =>
 (optK p0.a
 (K (Sl.mk (some ⟨h.next, 0, (some 0)⟩) 0 0) h1)
 fun a2 =>
 (Go.AM.get (Heap.rdN h1 ⟨a2.block, a2.off, none⟩ (p0.len * 1)) fun y3 =>
 (Go.AM.get (Heap.app h1 1 8 (Sl.mk (some ⟨h.next, 0, (some 0)⟩) 0 0) p0.len y3) fun r4 =>
 (K r4.1 r4.2))))))

def e78 (fu : Nat) (V : EV) (p0 : Sl) (p1 : Int) (p2 : Int) (h : Heap) (K : Sl → Heap → Prop) : Prop :=
 (chk ((within p1 p2 ((p0.len : Nat) : Int)) && decide (((p0.len : Nat) : Int) ≤ ((p0.cap : Nat) : Int))) <|
 (branch (p1 == p2)
 (K p0 h)
 (chk (within 0 p1 ((p0.cap : Nat) : Int)) <|
 (chk (within p2 ((p0.len : Nat) : Int) ((p0.cap : Nat) : Int)) <|
 (optK (Sl.cut p0 1 (Int.toNat p2) (Int.toNat ((p0.len : Nat) : Int))).a
 (chk (within (((Sl.cut p0 1 0 (Int.toNat p1)).len : Nat) : Int) ((p0.len : Nat) : Int) (((Sl.cut p0 1 0 (Int.toNat p1)).cap : Nat) : Int)) <|
 (optK (Sl.cut (Sl.cut p0 1 0 (Int.toNat p1)) 1 (Int.toNat (((Sl.cut p0 1 0 (Int.toNat p1)).len : Nat) : Int)) (Int.toNat ((p0.len : Nat) : Int))).a
 (K (Sl.cut p0 1 0 (Int.toNat p1)) h)
 fun a5 =>
 (Go.AM.get (Heap.wr h ⟨a5.block, a5.off, none⟩ (rep [(.int .i64 0)] ((Sl.cut (Sl.cut p0 1 0 (Int.toNat p1)) 1 (Int.toNat (((Sl.cut p0 1 0 (Int.toNat p1)).len : Nat) : Int)) (Int.toNat ((p0.len : Nat) : Int))).len))) fun h6 =>
 (K (Sl.cut p0 1 0 (Int.toNat p1)) h6))))
 fun a4 =>
 (Go.AM.get (Heap.rdN h ⟨a4.block, a4.off, none⟩ (((Sl.cut p0 1 (Int.toNat p2) (Int.toNat ((p0.len : Nat) : Int))).len) * 1)) fun y7 =>
 (Go.AM.get (Heap.app h 1 8 (Sl.cut p0 1 0 (Int.toNat p1)) ((Sl.cut p0 1 (Int.toNat p2) (Int.toNat ((p0.len : Nat) : Int))).len) y7) fun r8 =>
 (chk (within ((r8.1.len : Nat) : Int) ((p0.len : Nat) : Int) ((r8.1.cap : Nat) : Int)) <|
 (optK (Sl.cut r8.1 1 (Int.toNat ((r8.1.len : Nat) : Int)) (Int.toNat ((p0.len : Nat) : Int))).a
 (K r8.1 r8.2)
 fun a9 =>
 (Go.AM.get (Heap.wr r8.2 ⟨a9.block, a9.off, none⟩ (rep [(.int .i64 0)] ((Sl.cut r8.1 1 (Int.toNat ((r8.1.len : Nat) : Int)) (Int.toNat ((p0.len : Nat) : Int))).len))) fun h10 =>
 (K r8.1 h10)))))))))))

def eb65_57 (fu : Nat) (V : EV) (X0 : Sl → Heap → Prop) (R : Int → Sl → Sl → Int → Int → Heap → Prop) (v1 : Int) (v2 : Sl) (v3 : Sl) (v4 : Int) (v5 : Int) (h6 : Heap) : Prop :=
 (branch (decide (v5 < v4))
 (Go.AM.get v3.a fun a9 =>
 (chk (idx v5 v3.len) <|
 (Go.AM.get (asS (Heap.rd h6 ⟨a9.block, (a9.off + ((Int.toNat v5) * 1)), none⟩)) fun y10 =>
 (e79 fu V y10 h6 fun r11 h12 =>
 (e78 fu V r11 v1 (IntKind.wrap .i64 (v1 + 1)) h12 fun r13 h14 =>
 (withH (Heap.new h14 (.cells [(Sl.v r13)] false)) fun h15 =>
 (Go.AM.get (Heap.rdN h15 ⟨h14.next, 0, none⟩ 1) fun y16 =>
 (Go.AM.get (Heap.app h15 1 24 v2 1 y16) fun r17 =>
 (R v1 r17.1 v3 v4 (IntKind.wrap .i64 (v5 + 1)) r17.2)))))))))
 (X0 v2 h6))
def el65_57 (fu : Nat) (V : EV) (X0 : Sl → Heap → Prop) : Nat → Int → Sl → Sl → Int → Int → Heap → Prop
 | 0, _, _, _, _, _, _ => False
 | n + 1, v1, v2, v3, v4, v5, h6 => eb65_57 fu V X0 (el65_57 fu V X0 n) v1 v2 v3 v4 v5 h6
def e65 (fu : Nat) (V : EV) (p0 : Sl) (p1 : Int) (h : Heap) (K : Sl → Heap → Prop) : Prop :=
 (chk (within 1 ((p0.len : Nat) : Int) ((p0.cap : Nat) : Int)) <|
 (el65_57 fu V
 (fun z18 h19 =>
 (K z18 h19))
 fu p1 (Sl.mk none 0 0) (Sl.cut p0 1 1 (Int.toNat ((p0.len : Nat) : Int))) (((Sl.cut p0 1 1 (Int.toNat ((p0.len : Nat) : Int))).len : Nat) : Int) 0 h))

def e66 (fu : Nat) (V : EV) (p0 : Sl) (p1 : Int) (p2 : Int) (h : Heap) (K : Sl → Heap → Prop) : Prop :=
 (chk ((within p1 p2 ((p0.len : Nat) : Int)) && decide (((p0.len : Nat) : Int) ≤ ((p0.cap : Nat) : Int))) <|
 (branch (p1 == p2)
 (K p0 h)
 (chk (within 0 p1 ((p0.cap : Nat) : Int)) <|
 (chk (within p2 ((p0.len : Nat) : Int) ((p0.cap : Nat) : Int)) <|
 (optK (Sl.cut p0 1 (Int.toNat p2) (Int.toNat ((p0.len : Nat) : Int))).a
 (chk (within (((Sl.cut p0 1 0 (Int.toNat p1)).len : Nat) : Int) ((p0.len : Nat) : Int) (((Sl.cut p0 1 0 (Int.toNat p1)).cap : Nat) : Int)) <|
 (optK (Sl.cut (Sl.cut p0 1 0 (Int.toNat p1)) 1 (Int.toNat (((Sl.cut p0 1 0 (Int.toNat p1)).len : Nat) : Int)) (Int.toNat ((p0.len : Nat) : Int))).a
 (K (Sl.cut p0 1 0 (Int.toNat p1)) h)
 fun a5 =>
 (Go.AM.get (Heap.wr h ⟨a5.block, a5.off, none⟩ (rep [(.int .i64 0)] ((Sl.cut (Sl.cut p0 1 0 (Int.toNat p1)) 1 (Int.toNat (((Sl.cut p0 1 0 (Int.toNat p1)).len : Nat) : Int)) (Int.toNat ((p0.len : Nat) : Int))).len))) fun h6 =>
 (K (Sl.cut p0 1 0 (Int.toNat p1)) h6))))
 fun a4 =>
 (Go.AM.get (Heap.rdN h ⟨a4.block, a4.off, none⟩ (((Sl.cut p0 1 (Int.toNat p2) (Int.toNat ((p0.len : Nat) : Int))).len) * 1)) fun y7 =>
 (Go.AM.get (Heap.app h 1 8 (Sl.cut p0 1 0 (Int.toNat p1)) ((Sl.cut p0 1 (Int.toNat p2) (Int.toNat ((p0.len : Nat) : Int))).len) y7) fun r8 =>
 (chk (within ((r8.1.len : Nat) : Int) ((p0.len : Nat) : Int) ((r8.1.cap : Nat) : Int)) <|
 (optK (Sl.cut r8.1 1 (Int.toNat ((r8.1.len : Nat) : Int)) (Int.toNat ((p0.len : Nat) : Int))).a
 (K r8.1 r8.2)
 fun a9 =>
 (Go.AM.get (Heap.wr r8.2 ⟨a9.block, a9.off, none⟩ (rep [(.int .i64 0)] ((Sl.cut r8.1 1 (Int.toNat ((r8.1.len : Nat) : Int)) (Int.toNat ((p0.len : Nat) : Int))).len))) fun h10 =>
 (K r8.1 h10)))))))))))

def eb44_505 (fu : Nat) (V : EV) (X0 : Sl → Int → Sl → Int → Sl → Heap → Prop) (R : Sl → Int → Sl → Int → Sl → Int → Int → Heap → Prop) (v11 : Sl) (v12 : Int) (v13 : Sl) (v14 : Int) (v15 : Sl) (v16 : Int) (v17 : Int) (h18 : Heap) : Prop :=
 (branch (decide (v17 < v16))
 (withH (Heap.new h18 (.cells [(.int .i64 v17)] false)) fun h19 =>
 (Go.AM.get (Heap.rdN h19 ⟨h18.next, 0, none⟩ 1) fun y20 =>
 (Go.AM.get (Heap.app h19 1 8 v15 1 y20) fun r21 =>
 (R v11 v12 v13 v14 r21.1 v16 (IntKind.wrap .i64 (v17 + 1)) r21.2))))
 (X0 v11 v12 v13 v14 v15 h18))
def el44_505 (fu : Nat) (V : EV) (X0 : Sl → Int → Sl → Int → Sl → Heap → Prop) : Nat → Sl → Int → Sl → Int → Sl → Int → Int → Heap → Prop
 | 0, _, _, _, _, _, _, _, _ => False
 | n + 1, v11, v12, v13, v14, v15, v16, v17, h18 => eb44_505 fu V X0 (el44_505 fu V X0 n) v11 v12 v13 v14 v15 v16 v17 h18
def eb44_16265 (fu : Nat) (V : EV) (X4 : Sl → Int → Sl → Int → Sl → Heap → Prop) (R : Sl → Int → Sl → Int → Sl → Int → Int → Heap → Prop) (v40 : Sl) (v41 : Int) (v42 : Sl) (v43 : Int) (v44 : Sl) (v45 : Int) (v46 : Int) (h47 : Heap) : Prop :=
 (branch (decide (v46 < v45))
 (e65 fu V v42 v46 h47 fun r50 h51 =>
 (Go.AM.get v42.a fun a60 =>
 (chk (idx 0 v42.len) <|
 (Go.AM.get (asS (Heap.rd h51 ⟨a60.block, a60.off, none⟩)) fun y61 =>
 (Go.AM.get y61.a fun a62 =>
 (chk (idx v46 y61.len) <|
 (Go.AM.get (asI .i64 (Heap.rd h51 ⟨a62.block, (a62.off + ((Int.toNat v46) * 1)), none⟩)) fun y63 =>
 (e64 fu V r50 h51 fun r64 h65 =>
 (Go.AM.get (asI .i64 (Heap.rd h65 ⟨a62.block, (a62.off + ((Int.toNat v46) * 1)), none⟩)) fun y66 =>
 (chk (valE (.int .i64 y66) (.int .i64 y63)) <|
 (Go.AM.get (asS (Heap.rd h65 ⟨a60.block, a60.off, none⟩)) fun y67 =>
 (chk (valE (Sl.v y67) (Sl.v y61)) <|
 (branch ((IntKind.wrap .i64 (y63 + r64)) == v43)
 (Go.AM.get v44.a fun a73 =>
 (chk (idx v46 v44.len) <|
 (Go.AM.get (asI .i64 (Heap.rd h65 ⟨a73.block, (a73.off + ((Int.toNat v46) * 1)), none⟩)) fun y74 =>
 (withH (Heap.new h65 (.cells [(.int .i64 y74)] false)) fun h75 =>
 (Go.AM.get (Heap.rdN h75 ⟨h65.next, 0, none⟩ 1) fun y76 =>
 (Go.AM.get (Heap.app h75 1 8 v40 1 y76) fun r77 =>
 (Go.AM.get v42.a fun a82 =>
 (chk (idx 0 v42.len) <|
 (Go.AM.get (asS (Heap.rd r77.2 ⟨a82.block, a82.off, none⟩)) fun y83 =>
 (Go.AM.get y83.a fun a84 =>
 (chk (idx v46 y83.len) <|
 (Go.AM.get (asI .i64 (Heap.rd r77.2 ⟨a84.block, (a84.off + ((Int.toNat v46) * 1)), none⟩)) fun y85 =>
 (e66 fu V v44 v46 (IntKind.wrap .i64 (v46 + 1)) r77.2 fun r86 h87 =>
 (X4 r77.1 v41 r50 (IntKind.wrap .i64 (v43 - y85)) r86 h87))))))))))))))
 (R v40 v41 v42 v43 v44 v45 (IntKind.wrap .i64 (v46 + 1)) h65))))))))))))))
 (X4 v40 v41 v42 v43 v44 h47))
def el44_16265 (fu : Nat) (V : EV) (X4 : Sl → Int → Sl → Int → Sl → Heap → Prop) : Nat → Sl → Int → Sl → Int → Sl → Int → Int → Heap → Prop
 | 0, _, _, _, _, _, _, _, _ => False
 | n + 1, v40, v41, v42, v43, v44, v45, v46, h47 => eb44_16265 fu V X4 (el44_16265 fu V X4 n) v40 v41 v42 v43 v44 v45 v46 h47
def eb44_507 (fu : Nat) (V : EV) (X2 : Sl → Int → Heap → Prop) (R : Sl → Int → Sl → Int → Sl → Heap → Prop) (v34 : Sl) (v35 : Int) (v36 : Sl) (v37 : Int) (v38 : Sl) (h39 : Heap) : Prop :=
 (branch (decide (((v36.len : Nat) : Int) > 0))
 (el44_16265 fu V
 (fun z88 z89 z90 z91 z92 h93 =>
 (R z88 z89 z90 z91 z92 h93))
 fu v34 v35 v36 v37 v38 ((v36.len : Nat) : Int) 0 h39)
 (X2 v34 v35 h39))
def el44_507 (fu : Nat) (V : EV) (X2 : Sl → Int → Heap → Prop) : Nat → Sl → Int → Sl → Int → Sl → Heap → Prop
 | 0, _, _, _, _, _, _ => False
 | n + 1, v34, v35, v36, v37, v38, h39 => eb44_507 fu V X2 (el44_507 fu V X2 n) v34 v35 v36 v37 v38 h39
def e44 (fu : Nat) (V : EV) (p0 : Sl) (h : Heap) (K : Sl → Int → Int → Heap → Prop) : Prop :=
 (e63 fu V p0 h fun r5 h6 =>
 (branch (r5 != 0)
 (K (Sl.mk none 0 0) 0 r5 h6)
 (e64 fu V p0 h6 fun r9 h10 =>
 (el44_505 fu V
 (fun z28 z29 z30 z31 z32 h33 =>
 (el44_507 fu V
 (fun z94 z95 h96 =>
 (K z94 z95 0 h96))
 fu z28 z29 z30 z31 z32 h33))
 fu (Sl.mk none 0 0) r9 p0 r9 (Sl.mk none 0 0) ((p0.len : Nat) : Int) 0 h10))))

def eb55_121 (fu : Nat) (V : EV) (XR : Option Addr → Int → Heap → Prop) (X0 : Int → Option Addr → Heap → Prop) (R : Int → Option Addr → Sl → Int → Int → Heap → Prop) (v3 : Int) (v4 : Option Addr) (v5 : Sl) (v6 : Int) (v7 : Int) (h8 : Heap) : Prop :=
 (branch (decide (v7 < v6))
 (Go.AM.get v5.a fun a14 =>
 (chk (idx v7 v5.len) <|
 (Go.AM.get (asI .i64 (Heap.rd h8 ⟨a14.block, (a14.off + ((Int.toNat v7) * 2)), none⟩)) fun y15 =>
 (Go.AM.get (asI .i64 (Heap.rd h8 ⟨a14.block, ((a14.off + ((Int.toNat v7) * 2)) + 1), none⟩)) fun y16 =>
 (withH (Heap.new h8 (.cells [(.int .i64 0), (.int .i64 0)] false)) fun h17 =>
 (Go.AM.get (Heap.wr h17 ⟨h8.next, 0, none⟩ [(.int .i64 y15), (.int .i64 y16)]) fun h18 =>
 (Go.AM.get (asI .i64 (Heap.rd h18 ⟨h8.next, 0, none⟩)) fun y23 =>
 (Go.AM.get (asI .i64 (Heap.rd h18 ⟨h8.next, 1, none⟩)) fun y24 =>
 (branch (decide ((if y24 < y23 then y24 else y23) < 0))
 (XR none 41 h18)
 (Go.AM.get (asI .i64 (Heap.rd h18 ⟨h8.next, 0, none⟩)) fun y25 =>
 (Go.AM.get (asI .i64 (Heap.rd h18 ⟨h8.next, 1, none⟩)) fun y26 =>
 (branch (decide ((if y26 > y25 then y26 else y25) ≥ v3))
 (XR none 41 h18)
 (Go.AM.get (asI .i64 (Heap.rd h18 ⟨h8.next, 0, none⟩)) fun y27 =>
 (Go.AM.get (asI .i64 (Heap.rd h18 ⟨h8.next, 1, none⟩)) fun y28 =>
 (Go.AM.get v4 fun a29 =>
 (chk (idx y27 40) <|
 (chk (idx y28 40) <|
 (Go.AM.get (Heap.wr h18 ⟨a29.block, (((a29.off + 1) + ((Int.toNat y27) * 40)) + ((Int.toNat y28) * 1)), none⟩ [(.bool true)]) fun h30 =>
 (R v3 v4 v5 v6 (IntKind.wrap .i64 (v7 + 1)) h30)))))))))))))))))))
 (X0 v3 v4 h8))
def el55_121 (fu : Nat) (V : EV) (XR : Option Addr → Int → Heap → Prop) (X0 : Int → Option Addr → Heap → Prop) : Nat → Int → Option Addr → Sl → Int → Int → Heap → Prop
 | 0, _, _, _, _, _, _ => False
 | n + 1, v3, v4, v5, v6, v7, h8 => eb55_121 fu V XR X0 (el55_121 fu V XR X0 n) v3 v4 v5 v6 v7 h8
def eb55_16410213 (fu : Nat) (V : EV) (X6 : Int → Option Addr → Int → Int → Int → Int → Int → Heap → Prop) (R : Int → Option Addr → Int → Int → Int → Int → Int → Int → Int → Int → Heap → Prop) (v56 : Int) (v57 : Option Addr) (v58 : Int) (v59 : Int) (v60 : Int) (v61 : Int) (v62 : Int) (v63 : Int) (v64 : Int) (v65 : Int) (h66 : Heap) : Prop :=
 (branch (decide (v65 < v64))
 (Go.AM.get v57 fun a67 =>
 (chk (idx v59 40) <|
 (chk (idx v65 40) <|
 (Go.AM.get (asB (Heap.rd h66 ⟨a67.block, (((a67.off + 1) + ((Int.toNat v59) * 40)) + ((Int.toNat v65) * 1)), none⟩)) fun y68 =>
 (branch y68
 (Go.AM.get v57 fun a69 =>
 (chk (idx v59 40) <|
 (chk (idx v65 40) <|
 (Go.AM.get (Heap.wr h66 ⟨a69.block, (((a69.off + 1) + ((Int.toNat v59) * 40)) + ((Int.toNat v65) * 1)), none⟩ [(.bool true)]) fun h70 =>
 (R v56 v57 v58 v59 v60 v61 v62 v63 v64 (IntKind.wrap .i64 (v65 + 1)) h70)))))
 (Go.AM.get v57 fun a71 =>
 (chk (idx v59 40) <|
 (chk (idx v58 40) <|
 (Go.AM.get (asB (Heap.rd h66 ⟨a71.block, (((a71.off + 1) + ((Int.toNat v59) * 40)) + ((Int.toNat v58) * 1)), none⟩)) fun y72 =>
 (branch y72
 (Go.AM.get v57 fun a73 =>
 (chk (idx v58 40) <|
 (chk (idx v65 40) <|
 (Go.AM.get (asB (Heap.rd h66 ⟨a73.block, (((a73.off + 1) + ((Int.toNat v58) * 40)) + ((Int.toNat v65) * 1)), none⟩)) fun y74 =>
 (Go.AM.get v57 fun a75 =>
 (chk (idx v59 40) <|
 (chk (idx v65 40) <|
 (Go.AM.get (Heap.wr h66 ⟨a75.block, (((a75.off + 1) + ((Int.toNat v59) * 40)) + ((Int.toNat v65) * 1)), none⟩ [(.bool y74)]) fun h76 =>
 (R v56 v57 v58 v59 v60 v61 v62 v63 v64 (IntKind.wrap .i64 (v65 + 1)) h76)))))))))
 (Go.AM.get v57 fun a77 =>
 (chk (idx v59 40) <|
 (chk (idx v65 40) <|
 (Go.AM.get (Heap.wr h66 ⟨a77.block, (((a77.off + 1) + ((Int.toNat v59) * 40)) + ((Int.toNat v65) * 1)), none⟩ [(.bool false)]) fun h78 =>
 (R v56 v57 v58 v59 v60 v61 v62 v63 v64 (IntKind.wrap .i64 (v65 + 1)) h78)))))))))))))))
 (X6 v56 v57 v58 v60 v61 v62 v63 h66))
def el55_16410213 (fu : Nat) (V : EV) (X6 : Int → Option Addr → Int → Int → Int → Int → Int → Heap → Prop) : Nat → Int → Option Addr → Int → Int → Int → Int → Int → Int → Int → Int → Heap → Prop
 | 0, _, _, _, _, _, _, _, _, _, _, _ => False
 | n + 1, v56, v57, v58, v59, v60, v61, v62, v63, v64, v65, h66 => eb55_16410213 fu V X6 (el55_16410213 fu V X6 n) v56 v57 v58 v59 v60 v61 v62 v63 v64 v65 h66
def eb55_64101 (fu : Nat) (V : EV) (X4 : Int → Option Addr → Int → Int → Heap → Prop) (R : Int → Option Addr → Int → Int → Int → Int → Int → Heap → Prop) (v48 : Int) (v49 : Option Addr) (v50 : Int) (v51 : Int) (v52 : Int) (v53 : Int) (v54 : Int) (h55 : Heap) : Prop :=
 (branch (decide (v54 < v53))
 (el55_16410213 fu V
 (fun z79 z80 z81 z82 z83 z84 z85 h86 =>
 (R z79 z80 z81 z82 z83 z84 (IntKind.wrap .i64 (z85 + 1)) h86))
 fu v48 v49 v50 v54 v51 v52 v53 v54 v48 0 h55)
 (X4 v48 v49 v51 v52 h55))
def el55_64101 (fu : Nat) (V : EV) (X4 : Int → Option Addr → Int → Int → Heap → Prop) : Nat → Int → Option Addr → Int → Int → Int → Int → Int → Heap → Prop
 | 0, _, _, _, _, _, _, _, _ => False
 | n + 1, v48, v49, v50, v51, v52, v53, v54, h55 => eb55_64101 fu V X4 (el55_64101 fu V X4 n) v48 v49 v50 v51 v52 v53 v54 h55
def eb55_249 (fu : Nat) (V : EV) (X2 : Int → Option Addr → Heap → Prop) (R : Int → Option Addr → Int → Int → Heap → Prop) (v43 : Int) (v44 : Option Addr) (v45 : Int) (v46 : Int) (h47 : Heap) : Prop :=
 (branch (decide (v46 < v45))
 (el55_64101 fu V
 (fun z87 z88 z89 z90 h91 =>
 (R z87 z88 z89 (IntKind.wrap .i64 (z90 + 1)) h91))
 fu v43 v44 v46 v45 v46 v43 0 h47)
 (X2 v43 v44 h47))
def el55_249 (fu : Nat) (V : EV) (X2 : Int → Option Addr → Heap → Prop) : Nat → Int → Option Addr → Int → Int → Heap → Prop
 | 0, _, _, _, _, _ => False
 | n + 1, v43, v44, v45, v46, h47 => eb55_249 fu V X2 (el55_249 fu V X2 n) v43 v44 v45 v46 h47
def eb55_505 (fu : Nat) (V : EV) (XR : Option Addr → Int → Heap → Prop) (X8 : Option Addr → Heap → Prop) (R : Option Addr → Int → Int → Heap → Prop) (v98 : Option Addr) (v99 : Int) (v100 : Int) (h101 : Heap) : Prop :=
 (branch (decide (v100 < v99))
 (Go.AM.get v98 fun a102 =>
 (chk (idx v100 40) <|
 (chk (idx v100 40) <|
 (Go.AM.get (asB (Heap.rd h101 ⟨a102.block, (((a102.off + 1) + ((Int.toNat v100) * 40)) + ((Int.toNat v100) * 1)), none⟩)) fun y103 =>
 (branch y103
 (XR none 41 h101)
 (R v98 v99 (IntKind.wrap .i64 (v100 + 1)) h101))))))
 (X8 v98 h101))
def el55_505 (fu : Nat) (V : EV) (XR : Option Addr → Int → Heap → Prop) (X8 : Option Addr → Heap → Prop) : Nat → Option Addr → Int → Int → Heap → Prop
 | 0, _, _, _, _ => False
 | n + 1, v98, v99, v100, h101 => eb55_505 fu V XR X8 (el55_505 fu V XR X8 n) v98 v99 v100 h101
def e55 (fu : Nat) (V : EV) (p0 : Int) (p1 : Sl) (h : Heap) (K : Option Addr → Int → Heap → Prop) : Prop :=
 (branch (decide (p0 < 1))
 (K none 41 h)
 (branch (decide (p0 > 40))
 (K none 41 h)
 (branch (decide (((p1.len : Nat) : Int) > 400))
 (K none 41 h)
 (withH (Heap.new h (.cells ([(.int .i64 p0)] ++ List.replicate 1600 (.bool false)) false)) fun h2 =>
 (el55_121 fu V
 (fun z37 z38 h39 =>
 (K z37 z38 h39))
 (fun z40 z41 h42 =>
 (el55_249 fu V
 (fun z95 z96 h97 =>
 (el55_505 fu V
 (fun z104 z105 h106 =>
 (K z104 z105 h106))
 (fun z107 h108 =>
 (K z107 0 h108))
 fu z96 z95 0 h97))
 fu z40 z41 z40 0 h42))
 fu p0 (some ⟨h.next, 0, none⟩) p1 ((p1.len : Nat) : Int) 0 h2)))))

def eb90_1637 (fu : Nat) (V : EV) (β : Nat) (Y : Int → Int → Heap → (Heap → Prop) → Prop) (XR : Heap → Prop) (X2 : Nat → Option Addr → Int → Int → Heap → Prop) (R : Nat → Option Addr → Int → Int → Int → Int → Int → Heap → Prop) (v22 : Nat) (v23 : Option Addr) (v24 : Int) (v25 : Int) (v26 : Int) (v27 : Int) (v28 : Int) (h29 : Heap) : Prop :=
 (branch (decide (v28 < v27))
 (Go.AM.get v23 fun a30 =>
 (Go.AM.get (asP (Heap.rd h29 a30)) fun y31 =>
 (Go.AM.get y31 fun a32 =>
 (chk (idx v24 40) <|
 (chk (idx v28 40) <|
 (Go.AM.get (asB (Heap.rd h29 ⟨a32.block, (((a32.off + 1) + ((Int.toNat v24) * 40)) + ((Int.toNat v28) * 1)), none⟩)) fun y33 =>
 (branch y33
 (chk (Nat.beq v22 β) (Y v24 v28 h29 fun h34 =>
 (R v22 v23 v24 v25 v26 v27 (IntKind.wrap .i64 (v28 + 1)) h34)))
 (R v22 v23 v24 v25 v26 v27 (IntKind.wrap .i64 (v28 + 1)) h29))))))))
 (X2 v22 v23 v25 v26 h29))
def el90_1637 (fu : Nat) (V : EV) (β : Nat) (Y : Int → Int → Heap → (Heap → Prop) → Prop) (XR : Heap → Prop) (X2 : Nat → Option Addr → Int → Int → Heap → Prop) : Nat → Nat → Option Addr → Int → Int → Int → Int → Int → Heap → Prop
 | 0, _, _, _, _, _, _, _, _ => False
 | n + 1, v22, v23, v24, v25, v26, v27, v28, h29 => eb90_1637 fu V β Y XR X2 (el90_1637 fu V β Y XR X2 n) v22 v23 v24 v25 v26 v27 v28 h29
def eb90_5 (fu : Nat) (V : EV) (β : Nat) (Y : Int → Int → Heap → (Heap → Prop) → Prop) (XR : Heap → Prop) (X0 : Heap → Prop) (R : Nat → Option Addr → Int → Int → Heap → Prop) (v9 : Nat) (v10 : Option Addr) (v11 : Int) (v12 : Int) (h13 : Heap) : Prop :=
 (branch (decide (v12 < v11))
 (Go.AM.get v10 fun a18 =>
 (Go.AM.get (asP (Heap.rd h13 a18)) fun y19 =>
 (Go.AM.get y19 fun a20 =>
 (Go.AM.get (asI .i64 (Heap.rd h13 ⟨a20.block, a20.off, none⟩)) fun y21 =>
 (el90_1637 fu V β Y
 (fun h35 =>
 (XR h35))
 (fun z36 z37 z38 z39 h40 =>
 (R z36 z37 z38 (IntKind.wrap .i64 (z39 + 1)) h40))
 fu v9 v10 v12 v11 v12 y21 0 h13)))))
 (X0 h13))
def el90_5 (fu : Nat) (V : EV) (β : Nat) (Y : Int → Int → Heap → (Heap → Prop) → Prop) (XR : Heap → Prop) (X0 : Heap → Prop) : Nat → Nat → Option Addr → Int → Int → Heap → Prop
 | 0, _, _, _, _, _ => False
 | n + 1, v9, v10, v11, v12, h13 => eb90_5 fu V β Y XR X0 (el90_5 fu V β Y XR X0 n) v9 v10 v11 v12 h13
def ei90 (fu : Nat) (V : EV) (β : Nat) (p0 : Option Addr) (h : Heap) (Y : Int → Int → Heap → (Heap → Prop) → Prop) (K : Heap → Prop) : Prop :=
 (Go.AM.get p0 fun a5 =>
 (Go.AM.get (asP (Heap.rd h a5)) fun y6 =>
 (Go.AM.get y6 fun a7 =>
 (Go.AM.get (asI .i64 (Heap.rd h ⟨a7.block, a7.off, none⟩)) fun y8 =>
 (el90_5 fu V β Y
 (fun h41 =>
 (K h41))
 (fun h42 =>
 (K h42))
 fu β p0 y8 0 h)))))

def e72 (fu : Nat) (V : EV) (p0 : Option Addr) (h : Heap) (K : (Option Addr × Unit) → Heap → Prop) : Prop :=
 (withH (Heap.new h (.cells [(.pointer p0)] false)) fun h1 =>
 (K ((some ⟨h.next, 0, none⟩), ()) h1))

def eb73_25 (fu : Nat) (V : EV) (XR : Bool → Heap → Prop) (X0 : Heap → Prop) (R : Int → Option Addr → Option Addr → Option Addr → Option Addr → Sl → Int → Int → Heap → Prop) (v5 : Int) (v6 : Option Addr) (v7 : Option Addr) (v8 : Option Addr) (v9 : Option Addr) (v10 : Sl) (v11 : Int) (v12 : Int) (h13 : Heap) : Prop :=
 (branch (decide (v12 < v11))
 (Go.AM.get v10.a fun a16 =>
 (chk (idx v12 v10.len) <|
 (Go.AM.get (asI .i64 (Heap.rd h13 ⟨a16.block, (a16.off + ((Int.toNat v12) * 1)), none⟩)) fun y17 =>
 (Go.AM.get v6 fun a20 =>
 (chk (idx y17 40) <|
 (Go.AM.get (asB (Heap.rd h13 ⟨a20.block, (a20.off + ((Int.toNat y17) * 1)), none⟩)) fun y21 =>
 (branch y21
 (R v5 v6 v7 v8 v9 v10 v11 (IntKind.wrap .i64 (v12 + 1)) h13)
 (Go.AM.get v6 fun a24 =>
 (chk (idx y17 40) <|
 (Go.AM.get (Heap.wr h13 ⟨a24.block, (a24.off + ((Int.toNat y17) * 1)), none⟩ [(.bool true)]) fun h25 =>
 (Go.AM.get v7 fun a35 =>
 (chk (idx y17 40) <|
 (Go.AM.get (asI .i64 (Heap.rd h25 ⟨a35.block, (a35.off + ((Int.toNat y17) * 1)), none⟩)) fun y36 =>
 (branch (decide (y36 < 0))
 (Go.AM.get v9 fun a37 =>
 (chk (idx v5 40) <|
 (Go.AM.get (Heap.wr h25 ⟨a37.block, (a37.off + ((Int.toNat v5) * 1)), none⟩ [(.int .i64 y17)]) fun h38 =>
 (Go.AM.get v7 fun a39 =>
 (chk (idx y17 40) <|
 (Go.AM.get (Heap.wr h38 ⟨a39.block, (a39.off + ((Int.toNat y17) * 1)), none⟩ [(.int .i64 v5)]) fun h40 =>
 (XR true h40)))))))
 (Go.AM.get v8 fun a41 =>
 (Go.AM.get (Heap.rd h25 a41) fun y42 =>
 (Go.AM.get v7 fun a43 =>
 (chk (idx y17 40) <|
 (Go.AM.get (asI .i64 (Heap.rd h25 ⟨a43.block, (a43.off + ((Int.toNat y17) * 1)), none⟩)) fun y44 =>
 (V y42 [(.int .i64 y44)] h25 (retK fun r45 h46 =>
 (boolK r45 fun b48 => (branch b48
 (Go.AM.get v9 fun a49 =>
 (chk (idx v5 40) <|
 (Go.AM.get (Heap.wr h46 ⟨a49.block, (a49.off + ((Int.toNat v5) * 1)), none⟩ [(.int .i64 y17)]) fun h50 =>
 (Go.AM.get v7 fun a51 =>
 (chk (idx y17 40) <|
 (Go.AM.get (Heap.wr h50 ⟨a51.block, (a51.off + ((Int.toNat y17) * 1)), none⟩ [(.int .i64 v5)]) fun h52 =>
 (XR true h52)))))))
 (R v5 v6 v7 v8 v9 v10 v11 (IntKind.wrap .i64 (v12 + 1)) h46))))))))))))))))))))))))
 (X0 h13))
def el73_25 (fu : Nat) (V : EV) (XR : Bool → Heap → Prop) (X0 : Heap → Prop) : Nat → Int → Option Addr → Option Addr → Option Addr → Option Addr → Sl → Int → Int → Heap → Prop
 | 0, _, _, _, _, _, _, _, _, _ => False
 | n + 1, v5, v6, v7, v8, v9, v10, v11, v12, h13 => eb73_25 fu V XR X0 (el73_25 fu V XR X0 n) v5 v6 v7 v8 v9 v10 v11 v12 h13
def e73 (fu : Nat) (V : EV) (p0 : Int) (p1 : Option Addr) (p2 : Option Addr) (p3 : Option Addr) (p4 : Option Addr) (p5 : Option Addr) (h : Heap) (K : Bool → Heap → Prop) : Prop :=
 (Go.AM.get p1 fun a3 =>
 (chk (idx p0 40) <|
 (Go.AM.get (asS (Heap.rd h ⟨a3.block, (a3.off + ((Int.toNat p0) * 1)), none⟩)) fun y4 =>
 (el73_25 fu V
 (fun z53 h54 =>
 (K z53 h54))
 (fun h55 =>
 (K false h55))
 fu p0 p2 p3 p4 p5 y4 ((y4.len : Nat) : Int) 0 h))))

def eb56_121 (fu : Nat) (V : EV) (X2 : Option Addr → Option Addr → Option Addr → Option Addr → Heap → Prop) (R : Option Addr → Option Addr → Option Addr → Option Addr → Int → Heap → Prop) (v33 : Option Addr) (v34 : Option Addr) (v35 : Option Addr) (v36 : Option Addr) (v37 : Int) (h38 : Heap) : Prop :=
 (branch (decide (v37 < 40))
 (Go.AM.get v34 fun a39 =>
 (chk (idx v37 40) <|
 (Go.AM.get (Heap.wr h38 ⟨a39.block, (a39.off + ((Int.toNat v37) * 1)), none⟩ [(.int .i64 (-1))]) fun h40 =>
 (Go.AM.get v35 fun a41 =>
 (chk (idx v37 40) <|
 (Go.AM.get (Heap.wr h40 ⟨a41.block, (a41.off + ((Int.toNat v37) * 1)), none⟩ [(.int .i64 (-1))]) fun h42 =>
 (R v33 v34 v35 v36 (IntKind.wrap .i64 (v37 + 1)) h42)))))))
 (X2 v33 v34 v35 v36 h38))
def el56_121 (fu : Nat) (V : EV) (X2 : Option Addr → Option Addr → Option Addr → Option Addr → Heap → Prop) : Nat → Option Addr → Option Addr → Option Addr → Option Addr → Int → Heap → Prop
 | 0, _, _, _, _, _, _ => False
 | n + 1, v33, v34, v35, v36, v37, h38 => eb56_121 fu V X2 (el56_121 fu V X2 n) v33 v34 v35 v36 v37 h38
def eb56_249 (fu : Nat) (V : EV) (X4 : Option Addr → Option Addr → Heap → Prop) (R : Option Addr → Option Addr → Option Addr → Int → Int → Heap → Prop) (v57 : Option Addr) (v58 : Option Addr) (v59 : Option Addr) (v60 : Int) (v61 : Int) (h62 : Heap) : Prop :=
 (branch (decide (v61 < v60))
 (withH (Heap.new h62 (.cells (List.replicate 40 (.bool false)) false)) fun h63 =>
 (withH (Heap.new h63 (.cells [.nilFunc] false)) fun h64 =>
 (Go.AM.get (Heap.wr h64 ⟨h63.next, 0, none⟩ [(.func (.func 73) #[] ⟨[(.pointer v59), (.pointer (some ⟨h62.next, 0, none⟩)), (.pointer v58), (.pointer (some ⟨h63.next, 0, none⟩)), (.pointer v57)]⟩)]) fun h65 =>
 (Go.AM.get (Heap.rd h65 ⟨h63.next, 0, none⟩) fun y66 =>
 (V y66 [(.int .i64 v61)] h65 (retK fun r67 h68 =>
 (R v57 v58 v59 v60 (IntKind.wrap .i64 (v61 + 1)) h68)))))))
 (X4 v57 v58 h62))
def el56_249 (fu : Nat) (V : EV) (X4 : Option Addr → Option Addr → Heap → Prop) : Nat → Option Addr → Option Addr → Option Addr → Int → Int → Heap → Prop
 | 0, _, _, _, _, _, _ => False
 | n + 1, v57, v58, v59, v60, v61, h62 => eb56_249 fu V X4 (el56_249 fu V X4 n) v57 v58 v59 v60 v61 h62
def e56 (fu : Nat) (V : EV) (p0 : Option Addr) (h : Heap) (K : List Value → List Value → Heap → Prop) : Prop :=
 (withH (Heap.new h (.cells (List.replicate 40 (.int .i64 0)) false)) fun h3 =>
 (withH (Heap.new h3 (.cells (List.replicate 40 (.int .i64 0)) false)) fun h4 =>
 (withH (Heap.new h4 (.cells (List.replicate 40 (.slice none 0 0)) false)) fun h6 =>
 (e72 fu V p0 h6 fun r21 h22 =>
 (ei90 fu V h22.next r21.1 (Heap.new h22 .dead) (fun u23 u24 h25 k26 =>
 (chk (idx u23 40) <|
 (Go.AM.get (asS (Heap.rd h25 ⟨h4.next, (0 + ((Int.toNat u23) * 1)), none⟩)) fun y28 =>
 (withH (Heap.new h25 (.cells [(.int .i64 u24)] false)) fun h29 =>
 (Go.AM.get (Heap.rdN h29 ⟨h25.next, 0, none⟩ 1) fun y30 =>
 (Go.AM.get (Heap.app h29 1 8 y28 1 y30) fun r31 =>
 (chk (idx u23 40) <|
 (Go.AM.get (Heap.wr r31.2 ⟨h4.next, (0 + ((Int.toNat u23) * 1)), none⟩ [(Sl.v r31.1)]) fun h32 =>
 (k26 h32))))))))) fun h27 =>
 (el56_121 fu V
 (fun z48 z49 z50 z51 h52 =>
 (Go.AM.get z48 fun a55 =>
 (Go.AM.get (asI .i64 (Heap.rd h52 ⟨a55.block, a55.off, none⟩)) fun y56 =>
 (el56_249 fu V
 (fun z70 z71 h72 =>
 (Go.AM.get z70 fun a73 =>
 (Go.AM.get (Heap.rdN h72 a73 40) fun y74 =>
 (Go.AM.get z71 fun a75 =>
 (Go.AM.get (Heap.rdN h72 a75 40) fun y76 =>
 (Go.AM.get z70 fun a77 =>
 (chk (Nat.beq (List.length y74) 40 && List.all y74 Value.oneCell') <|
 (Go.AM.get (Heap.wr h72 a77 y74) fun h78 =>
 (Go.AM.get z71 fun a79 =>
 (Go.AM.get (Heap.rdN h78 a79 40) fun y80 =>
 (chk (valE (.agg ⟨y80⟩) (.agg ⟨y76⟩)) <|
 (Go.AM.get z71 fun a81 =>
 (chk (Nat.beq (List.length y76) 40 && List.all y76 Value.oneCell') <|
 (Go.AM.get (Heap.wr h78 a81 y76) fun h82 =>
 (Go.AM.get z70 fun a83 =>
 (Go.AM.get (Heap.rdN h82 a83 40) fun y84 =>
 (Go.AM.get z71 fun a85 =>
 (Go.AM.get (Heap.rdN h82 a85 40) fun y86 =>
 (K y84 y86 h82)))))))))))))))))))
 fu z49 z50 z51 y56 0 h52))))
 fu p0 (some ⟨h.next, 0, none⟩) (some ⟨h3.next, 0, none⟩) (some ⟨h4.next, 0, none⟩) 0 h27))))))

def eb22_1037113 (fu : Nat) (V : EV) (X2 : Option Addr → Option Addr → Sl → Sl → Int → Int → Heap → Prop) (R : Option Addr → Option Addr → Sl → Sl → Int → Int → Int → Heap → Prop) (v31 : Option Addr) (v32 : Option Addr) (v33 : Sl) (v34 : Sl) (v35 : Int) (v36 : Int) (v37 : Int) (h38 : Heap) : Prop :=
 (branch (decide (v35 ≥ 0))
 (withH (Heap.new h38 (.cells [(.int .i64 v35)] false)) fun h39 =>
 (Go.AM.get (Heap.rdN h39 ⟨h38.next, 0, none⟩ 1) fun y40 =>
 (Go.AM.get (Heap.app h39 1 8 v34 1 y40) fun r41 =>
 (Go.AM.get v31 fun a42 =>
 (chk (idx v35 40) <|
 (Go.AM.get (asI .i64 (Heap.rd r41.2 ⟨a42.block, (a42.off + ((Int.toNat v35) * 1)), none⟩)) fun y43 =>
 (R v31 v32 v33 r41.1 y43 v36 v37 r41.2)))))))
 (X2 v31 v32 v33 v34 v36 v37 h38))
def el22_1037113 (fu : Nat) (V : EV) (X2 : Option Addr → Option Addr → Sl → Sl → Int → Int → Heap → Prop) : Nat → Option Addr → Option Addr → Sl → Sl → Int → Int → Int → Heap → Prop
 | 0, _, _, _, _, _, _, _, _ => False
 | n + 1, v31, v32, v33, v34, v35, v36, v37, h38 => eb22_1037113 fu V X2 (el22_1037113 fu V X2 n) v31 v32 v33 v34 v35 v36 v37 h38
def eb22_505 (fu : Nat) (V : EV) (X0 : Sl → Heap → Prop) (R : Option Addr → Option Addr → Sl → Int → Int → Heap → Prop) (v21 : Option Addr) (v22 : Option Addr) (v23 : Sl) (v24 : Int) (v25 : Int) (h26 : Heap) : Prop :=
 (branch (decide (v25 < v24))
 (Go.AM.get v22 fun a29 =>
 (chk (idx v25 40) <|
 (Go.AM.get (asI .i64 (Heap.rd h26 ⟨a29.block, (a29.off + ((Int.toNat v25) * 1)), none⟩)) fun y30 =>
 (branch (decide (y30 ≥ 0))
 (R v21 v22 v23 v24 (IntKind.wrap .i64 (v25 + 1)) h26)
 (el22_1037113 fu V
 (fun z44 z45 z46 z47 z48 z49 h50 =>
 (withH (Heap.new h50 (.cells [(Sl.v z47)] false)) fun h51 =>
 (Go.AM.get (Heap.rdN h51 ⟨h50.next, 0, none⟩ 1) fun y52 =>
 (Go.AM.get (Heap.app h51 1 24 z46 1 y52) fun r53 =>
 (R z44 z45 r53.1 z48 (IntKind.wrap .i64 (z49 + 1)) r53.2)))))
 fu v21 v22 v23 (Sl.mk none 0 0) v25 v24 v25 h26)))))
 (X0 v23 h26))
def el22_505 (fu : Nat) (V : EV) (X0 : Sl → Heap → Prop) : Nat → Option Addr → Option Addr → Sl → Int → Int → Heap → Prop
 | 0, _, _, _, _, _, _ => False
 | n + 1, v21, v22, v23, v24, v25, h26 => eb22_505 fu V X0 (el22_505 fu V X0 n) v21 v22 v23 v24 v25 h26
def e22 (fu : Nat) (V : EV) (p0 : Int) (p1 : Sl) (h : Heap) (K : Sl → Int → Heap → Prop) : Prop :=
 (e55 fu V p0 p1 h fun r4 r5 h6 =>
 (branch (r5 != 0)
 (K (Sl.mk none 0 0) r5 h6)
 (e56 fu V r4 h6 fun r14 r15 h16 =>
 (withH (Heap.new h16 (.cells (List.replicate 40 (.int .i64 0)) false)) fun h17 =>
 (withH (Heap.new h17 (.cells (List.replicate 40 (.int .i64 0)) false)) fun h18 =>
 (chk (Nat.beq (List.length r14) 40 && List.all r14 Value.oneCell') <|
 (Go.AM.get (Heap.wr h18 ⟨h16.next, 0, none⟩ r14) fun h19 =>
 (chk (Nat.beq (List.length r15) 40 && List.all r15 Value.oneCell') <|
 (Go.AM.get (Heap.wr h19 ⟨h17.next, 0, none⟩ r15) fun h20 =>
 (el22_505 fu V
 (fun z54 h55 =>
 (K z54 0 h55))
 fu (some ⟨h16.next, 0, none⟩) (some ⟨h17.next, 0, none⟩) (Sl.mk none 0 0) p0 0 h20))))))))))

def e15 (fu : Nat) (V : EV)  (h : Heap) (K : Bool → Heap → Prop) : Prop :=
 (withH (Heap.new h (.cells [(.int .i64 0), (.int .i64 1), (.int .i64 0), (.int .i64 2), (.int .i64 0), (.int .i64 3)] false)) fun h7 =>
 (e16 fu V (4, (Sl.mk (some ⟨h.next, 0, (some 0)⟩) 3 3), ()) h7 fun r8 r9 h10 =>
 (withH (Heap.new h10 (.cells [(.slice none 0 0), (.slice none 0 0), (.slice none 0 0)] false)) fun h11 =>
 (Go.AM.get (Heap.wr h11 ⟨h10.next, 0, none⟩ [(Sl.v r8.1), (Sl.v r8.2.1), (Sl.v r8.2.2.1)]) fun h12 =>
 (withH (Heap.new h12 (.cells [(.int .i64 1), (.int .i64 2)] false)) fun h20 =>
 (withH (Heap.new h20 (.cells [(.int .i64 3), (.int .i64 5)] false)) fun h21 =>
 (withH (Heap.new h21 (.cells [(.slice (some ⟨h12.next, 0, (some 0)⟩) 2 2), (.slice (some ⟨h20.next, 0, (some 0)⟩) 2 2)] false)) fun h22 =>
 (e44 fu V (Sl.mk (some ⟨h21.next, 0, (some 0)⟩) 2 2) h22 fun r23 r24 r25 h26 =>
 (withH (Heap.new h26 (.cells [(.int .i64 0), (.int .i64 2), (.int .i64 0), (.int .i64 3), (.int .i64 1), (.int .i64 3)] false)) fun h31 =>
 (e22 fu V 4 (Sl.mk (some ⟨h26.next, 0, (some 0)⟩) 3 3) h31 fun r32 r33 h34 =>
 (branch (r9 == 0)
 (branch (r25 == 0)
 (branch (r33 == 0)
 (Go.AM.get (asS (Heap.rd h34 ⟨h10.next, 0, none⟩)) fun y35 =>
 (branch (((y35.len : Nat) : Int) == 3)
 (Go.AM.get (asS (Heap.rd h34 ⟨h10.next, 1, none⟩)) fun y36 =>
 (branch (((y36.len : Nat) : Int) == 1)
 (branch (((r23.len : Nat) : Int) == 2)
 (Go.AM.get r23.a fun a37 =>
 (chk (idx 0 r23.len) <|
 (Go.AM.get (asI .i64 (Heap.rd h34 ⟨a37.block, a37.off, none⟩)) fun y38 =>
 (branch (y38 == 0)
 (branch (r24 == 6)
 (K (((r32.len : Nat) : Int) == 2) h34)
 (K false h34))
 (K false h34)))))
 (K false h34))
 (K false h34)))
 (K false h34)))
 (K false h34))
 (K false h34))
 (K false h34))))))))))))

def eV (fu : Nat) : Nat → EV
 | 0 => fun _ _ _ _ => False
 | n + 1 => evK (cons1 99 (wC [iP .i64, iP .i64, pP, pP, pP] [] (e99 fu (eV fu n))) (cons1 88 (wC [pP, iP .i64] [] (e88 fu (eV fu n))) (cons1 76 (wC [iP .i64] [bP] (e76 fu (eV fu n))) (cons1 75 (wC [sP, pP] [bP] (e75 fu (eV fu n))) (cons1 73 (wC [iP .i64, pP, pP, pP, pP, pP] [bP] (e73 fu (eV fu n))) (none1))))))
noncomputable def wAll : Nat → Option AFn := (cons1 99 w99 (cons1 88 w88 (cons1 76 w76 (cons1 75 w75 (cons1 73 w73 none1)))))
theorem wAll_ok : ∀ g G, wAll g = some G → FnOK Try.prog g G := (fnOK_cons (fnOK_cons (fnOK_cons (fnOK_cons (fnOK_cons fnOK_none (wC_ok Try.prog 73 [iP .i64, pP, pP, pP, pP, pP] [bP])) (wC_ok Try.prog 75 [sP, pP] [bP])) (wC_ok Try.prog 76 [iP .i64] [bP])) (wC_ok Try.prog 88 [pP, iP .i64] [])) (wC_ok Try.prog 99 [iP .i64, iP .i64, pP, pP, pP] []))
theorem vc33 : FnsOK wAll (C33).fns := FnsOK.base wAll_ok
theorem mel33_121 {fu : Nat} {V : EV} (hV : VOK wAll V) {XR XR' : Int → Heap → Prop} {X0 X0' : Heap → Prop} : ∀ n v13 v14 v15 v16 v17 h18 (_ : el33_121 fu V XR X0 n v13 v14 v15 v16 v17 h18) (hXR : ∀ a0 h, XR a0 h → XR' a0 h) (hX0 : ∀ h, X0 h → X0' h), l33_121 XR' X0' v13 v14 v15 v16 v17 h18 := by
  intro n
  induction n with
  | zero => intro _ _ _ _ _ _ H; exact H.elim
  | succ n ih =>
    intro v13 v14 v15 v16 v17 h18 H hXR hX0
    have F : eb33_121 fu V XR X0 (el33_121 fu V XR X0 n) v13 v14 v15 v16 v17 h18 → z33_121 XR' X0' v13 v14 v15 v16 v17 h18 := (branch_mono (get_mono fun a24 =>
 (chk_mono (get_mono fun y25 =>
 (get_mono fun y26 =>
 (withH_mono fun h27 =>
 (get_mono fun h28 =>
 (get_mono fun y35 =>
 (get_mono fun y36 =>
 (get_mono fun y37 =>
 (get_mono fun y38 =>
 (withH_mono fun h39 =>
 (get_mono fun h40 =>
 (get_mono fun y41 =>
 (branch_mono (hXR _ _)
 (get_mono fun y42 =>
 (get_mono fun a43 =>
 (get_mono fun y44 =>
 (branch_mono (hXR _ _)
 (get_mono fun y45 =>
 (get_mono fun y46 =>
 (branch_mono (hXR _ _)
 (get_mono fun y47 =>
 (get_mono fun y48 =>
 (get_mono fun m49 =>
 (get_mono fun e50 => get_mono fun r51 => (get_mono fun y52 =>
 (branch_mono (hXR _ _)
 (get_mono fun y53 =>
 (get_mono fun y54 =>
 (get_mono fun m55 =>
 (get_mono fun e56 => get_mono fun r57 => optK_mono (withH_mono fun h59 => (fun H => ih _ _ _ _ _ _ H hXR hX0)) fun p58 => withH_mono fun h60 => (fun H => ih _ _ _ _ _ _ H hXR hX0))))))))))))))))))))))))))))))))
 (hX0 _))
    exact r33_121 XR' X0' v13 v14 v15 v16 v17 h18 (F H)
theorem me33 {fu : Nat} {V : EV} (hV : VOK wAll V) {p0 : (Int × Sl × Unit)} {h : Heap} {K K' : Int → Heap → Prop} (H : e33 fu V p0 h K) (hK : ∀ a0 h, K a0 h → K' a0 h) : t33 p0 h K' := by
  have F : e33 fu V p0 h K → z33 p0 h K' := (withH_mono fun h2 =>
 (get_mono fun y6 =>
 (branch_mono (hK _ _)
 (get_mono fun y7 =>
 (branch_mono (hK _ _)
 (get_mono fun y8 =>
 (branch_mono (hK _ _)
 (withH_mono fun h10 =>
 (get_mono fun y12 =>
 (fun H => mel33_121 hV _ _ _ _ _ _ _ H
 (fun z61 h62 =>
 (hK _ _))
 (fun h63 =>
 (hK _ _))))))))))))
  exact r33 p0 h K' (F H)

theorem vc49 : FnsOK wAll (C49).fns := FnsOK.base wAll_ok
theorem meq49_7474 {fu : Nat} {V : EV} (hV : VOK wAll V) {XN XN' : Int → Option Addr → Sl → Int → Int → Heap → Prop} v27 v28 v29 v30 v31 v32 v33 h34 (H : eq49_7474 fu V XN v27 v28 v29 v30 v31 v32 v33 h34) (hXN : ∀ a0 a1 a2 a3 a4 h, XN a0 a1 a2 a3 a4 h → XN' a0 a1 a2 a3 a4 h) : q49_7474 XN' v27 v28 v29 v30 v31 v32 v33 h34 := by
  have F : eq49_7474 fu V XN v27 v28 v29 v30 v31 v32 v33 h34 → z49_7474 XN' v27 v28 v29 v30 v31 v32 v33 h34 := (branch_mono (get_mono fun a35 =>
 (get_mono fun y36 =>
 (get_mono fun a37 =>
 (get_mono fun y38 =>
 (get_mono fun a39 =>
 (get_mono fun y40 =>
 (get_mono fun a41 =>
 (chk_mono (get_mono fun y42 =>
 (get_mono fun a43 =>
 (get_mono fun y44 =>
 (withH_mono fun h45 =>
 (get_mono fun a46 =>
 (get_mono fun y47 =>
 (get_mono fun a48 =>
 (chk_mono (get_mono fun y49 =>
 (get_mono fun a50 =>
 (get_mono fun y51 =>
 (withH_mono fun h52 =>
 (get_mono fun a53 =>
 (get_mono fun a54 =>
 (get_mono fun y55 =>
 (get_mono fun r56 =>
 (and_mono obj_pd (and_mono (get_pd fun y57 =>
 val_pd) (and_mono (get_pd fun y58 =>
 val_pd) (and_mono (get_pd fun y59 =>
 val_pd) (and_mono (get_pd fun y60 =>
 val_pd) (and_mono (get_pd fun y61 =>
 val_pd) (get_mono fun y62 =>
 (get_mono fun r63 =>
 (and_mono (get_pd fun y64 =>
 val_pd) (and_mono (get_pd fun y65 =>
 val_pd) (chk_mono (get_mono fun h66 =>
 (and_mono (get_pd fun y67 =>
 val_pd) (chk_mono (get_mono fun h68 =>
 (hXN _ _ _ _ _ _))))))))))))))))))))))))))))))))))))))))
 (hXN _ _ _ _ _ _))
  exact r49_7474 XN' v27 v28 v29 v30 v31 v32 v33 h34 (F H)
theorem mel49_57 {fu : Nat} {V : EV} (hV : VOK wAll V) {X0 X0' : Option Addr → Heap → Prop} : ∀ n v9 v10 v11 v12 v13 h14 (_ : el49_57 fu V X0 n v9 v10 v11 v12 v13 h14) (hX0 : ∀ a0 h, X0 a0 h → X0' a0 h), l49_57 X0' v9 v10 v11 v12 v13 h14 := by
  intro n
  induction n with
  | zero => intro _ _ _ _ _ _ H; exact H.elim
  | succ n ih =>
    intro v9 v10 v11 v12 v13 h14 H hX0
    have F : eb49_57 fu V X0 (el49_57 fu V X0 n) v9 v10 v11 v12 v13 h14 → z49_57 X0' v9 v10 v11 v12 v13 h14 := (branch_mono (get_mono fun a20 =>
 (chk_mono (get_mono fun y21 =>
 (get_mono fun y22 =>
 (withH_mono fun h23 =>
 (get_mono fun h24 =>
 (get_mono fun y69 =>
 (branch_mono (get_mono fun y70 =>
 (fun H => meq49_7474 hV _ _ _ _ _ _ _ _ H
 (fun z71 z72 z73 z74 z75 h76 =>
 (fun H => ih _ _ _ _ _ _ H hX0))))
 (fun H => meq49_7474 hV _ _ _ _ _ _ _ _ H
 (fun z77 z78 z79 z80 z81 h82 =>
 (fun H => ih _ _ _ _ _ _ H hX0)))))))))))
 (hX0 _ _))
    exact r49_57 X0' v9 v10 v11 v12 v13 h14 (F H)
theorem mel49_121 {fu : Nat} {V : EV} (hV : VOK wAll V) {X2 X2' : Option Addr → Heap → Prop} : ∀ n v88 v89 h90 (_ : el49_121 fu V X2 n v88 v89 h90) (hX2 : ∀ a0 h, X2 a0 h → X2' a0 h), l49_121 X2' v88 v89 h90 := by
  intro n
  induction n with
  | zero => intro _ _ _ H; exact H.elim
  | succ n ih =>
    intro v88 v89 h90 H hX2
    have F : eb49_121 fu V X2 (el49_121 fu V X2 n) v88 v89 h90 → z49_121 X2' v88 v89 h90 := (branch_mono (get_mono fun a91 =>
 (chk_mono (get_mono fun h92 =>
 (fun H => ih _ _ _ H hX2))))
 (hX2 _ _))
    exact r49_121 X2' v88 v89 h90 (F H)
theorem me49 {fu : Nat} {V : EV} (hV : VOK wAll V) {p0 : (Int × Sl × Unit)} {p1 : Int} {h : Heap} {K K' : Option Addr → Heap → Prop} (H : e49 fu V p0 p1 h K) (hK : ∀ a0 h, K a0 h → K' a0 h) : t49 p0 p1 h K' := by
  have F : e49 fu V p0 p1 h K → z49 p0 p1 h K' := (withH_mono fun h2 =>
 (get_mono fun y5 =>
 (withH_mono fun h6 =>
 (get_mono fun y85 =>
 (fun H => mel49_57 hV _ _ _ _ _ _ _ H
 (fun z86 h87 =>
 (fun H => mel49_121 hV _ _ _ _ H
 (fun z93 h94 =>
 (hK _ _)))))))))
  exact r49 p0 p1 h K' (F H)

theorem vc98 : FnsOK wAll (C98).fns := FnsOK.base wAll_ok
theorem mel98_27 {fu : Nat} {V : EV} (hV : VOK wAll V) {X0 X0' : Option Addr → Int → Option Addr → Heap → Prop} : ∀ n v3 v4 v5 v6 h7 (_ : el98_27 fu V X0 n v3 v4 v5 v6 h7) (hX0 : ∀ a0 a1 a2 h, X0 a0 a1 a2 h → X0' a0 a1 a2 h), l98_27 X0' v3 v4 v5 v6 h7 := by
  intro n
  induction n with
  | zero => intro _ _ _ _ _ H; exact H.elim
  | succ n ih =>
    intro v3 v4 v5 v6 h7 H hX0
    have F : eb98_27 fu V X0 (el98_27 fu V X0 n) v3 v4 v5 v6 h7 → z98_27 X0' v3 v4 v5 v6 h7 := (get_mono fun a10 =>
 (chk_mono (get_mono fun y11 =>
 (get_mono fun a14 =>
 (chk_mono (get_mono fun h15 =>
 (get_mono fun a18 =>
 (chk_mono (get_mono fun y19 =>
 (branch_mono (hX0 _ _ _ _)
 (get_mono fun a20 =>
 (chk_mono (get_mono fun y21 =>
 (get_mono fun a22 =>
 (chk_mono (get_mono fun y23 =>
 (fun H => ih _ _ _ _ _ H hX0)))))))))))))))))
    exact r98_27 X0' v3 v4 v5 v6 h7 (F H)
theorem mel98_121 {fu : Nat} {V : EV} (hV : VOK wAll V) {X2 X2' : Int → Heap → Prop} : ∀ n v36 v37 v38 h39 (_ : el98_121 fu V X2 n v36 v37 v38 h39) (hX2 : ∀ a0 h, X2 a0 h → X2' a0 h), l98_121 X2' v36 v37 v38 h39 := by
  intro n
  induction n with
  | zero => intro _ _ _ _ H; exact H.elim
  | succ n ih =>
    intro v36 v37 v38 h39 H hX2
    have F : eb98_121 fu V X2 (el98_121 fu V X2 n) v36 v37 v38 h39 → z98_121 X2' v36 v37 v38 h39 := (get_mono fun a42 =>
 (chk_mono (get_mono fun y43 =>
 (branch_mono (get_mono fun a44 =>
 (chk_mono (get_mono fun y45 =>
 (get_mono fun a46 =>
 (chk_mono (get_mono fun y47 =>
 (get_mono fun a48 =>
 (chk_mono (get_mono fun y49 =>
 (fun H => ih _ _ _ _ H hX2))))))))))
 (hX2 _ _)))))
    exact r98_121 X2' v36 v37 v38 h39 (F H)
theorem me98 {fu : Nat} {V : EV} (hV : VOK wAll V) {p0 : Option Addr} {p1 : Int} {p2 : Int} {h : Heap} {K K' : Int → Heap → Prop} (H : e98 fu V p0 p1 p2 h K) (hK : ∀ a0 h, K a0 h → K' a0 h) : t98 p0 p1 p2 h K' := by
  have F : e98 fu V p0 p1 p2 h K → z98 p0 p1 p2 h K' := (withH_mono fun h2 =>
 (fun H => mel98_27 hV _ _ _ _ _ _ H
 (fun z28 z29 z30 h31 =>
 (get_mono fun a34 =>
 (chk_mono (get_mono fun y35 =>
 (fun H => mel98_121 hV _ _ _ _ _ H
 (fun z50 h51 =>
 (hK _ _)))))))))
  exact r98 p0 p1 p2 h K' (F H)

theorem vc99 : FnsOK wAll (C99).fns := FnsOK.base wAll_ok
theorem mel99_1 {fu : Nat} {V : EV} (hV : VOK wAll V) {X0 X0' : Heap → Prop} : ∀ n v1 v2 v3 v4 v5 h6 (_ : el99_1 fu V X0 n v1 v2 v3 v4 v5 h6) (hX0 : ∀ h, X0 h → X0' h), l99_1 X0' v1 v2 v3 v4 v5 h6 := by
  intro n
  induction n with
  | zero => intro _ _ _ _ _ _ H; exact H.elim
  | succ n ih =>
    intro v1 v2 v3 v4 v5 h6 H hX0
    have F : eb99_1 fu V X0 (el99_1 fu V X0 n) v1 v2 v3 v4 v5 h6 → z99_1 X0' v1 v2 v3 v4 v5 h6 := (get_mono fun a13 =>
 (get_mono fun y14 =>
 (get_mono fun a15 =>
 (chk_mono (get_mono fun y16 =>
 (get_mono fun a17 =>
 (get_mono fun y18 =>
 (branch_mono (get_mono fun a41 =>
 (get_mono fun y42 =>
 (get_mono fun a43 =>
 (chk_mono (get_mono fun y44 =>
 (get_mono fun a45 =>
 (get_mono fun y46 =>
 (get_mono fun a47 =>
 (get_mono fun y48 =>
 (get_mono fun a49 =>
 (chk_mono (get_mono fun y50 =>
 (get_mono fun a51 =>
 (chk_mono (get_mono fun y52 =>
 (get_mono fun a53 =>
 (chk_mono (get_mono fun h54 =>
 (and_mono (get_pd fun y55 =>
 val_pd) (and_mono (get_pd fun y56 =>
 val_pd) (and_mono (get_pd fun a57 =>
 (get_pd fun y58 =>
 val_pd)) (and_mono (get_pd fun a59 =>
 (get_pd fun y60 =>
 val_pd)) (get_mono fun a61 =>
 (chk_mono (get_mono fun h62 =>
 (get_mono fun a67 =>
 (get_mono fun y68 =>
 (get_mono fun a69 =>
 (chk_mono (get_mono fun h70 =>
 (get_mono fun a75 =>
 (get_mono fun y76 =>
 (get_mono fun a77 =>
 (chk_mono (get_mono fun y78 =>
 (get_mono fun a79 =>
 (get_mono fun y80 =>
 (get_mono fun a81 =>
 (get_mono fun y82 =>
 (get_mono fun a83 =>
 (chk_mono (get_mono fun y84 =>
 (get_mono fun a85 =>
 (chk_mono (get_mono fun y86 =>
 (fun H => ih _ _ _ _ _ _ H hX0))))))))))))))))))))))))))))))))))))))))))))))
 (hX0 _)))))))))
    exact r99_1 X0' v1 v2 v3 v4 v5 h6 (F H)
theorem me99 {fu : Nat} {V : EV} (hV : VOK wAll V) {p0 : Int} {p1 : Int} {p2 : Option Addr} {p3 : Option Addr} {p4 : Option Addr} {h : Heap} {K K' : Heap → Prop} (H : e99 fu V p0 p1 p2 p3 p4 h K) (hK : ∀ h, K h → K' h) : t99 p0 p1 p2 p3 p4 h K' := by
  have F : e99 fu V p0 p1 p2 p3 p4 h K → z99 p0 p1 p2 p3 p4 h K' := (fun H => mel99_1 hV _ _ _ _ _ _ _ H
 (fun h87 =>
 (hK _)))
  exact r99 p0 p1 p2 p3 p4 h K' (F H)

theorem vc89 : FnsOK wAll (C89).fns := (FnsOK.cons ((FnsOK.cons (FnsOK.base wAll_ok) (fun G e => nomatch (show (none : Option AFn) = some G from e)))) (fun G e => (Option.some.inj (show some w99 = some G from e)) ▸ fun _ _ _ h => h))
theorem mel89_509 {fu : Nat} {V : EV} (hV : VOK wAll V) {X0 X0' : Heap → Prop} : ∀ n v25 v26 v27 v28 v29 h30 (_ : el89_509 fu V X0 n v25 v26 v27 v28 v29 h30) (hX0 : ∀ h, X0 h → X0' h), l89_509 X0' v25 v26 v27 v28 v29 h30 := by
  intro n
  induction n with
  | zero => intro _ _ _ _ _ _ H; exact H.elim
  | succ n ih =>
    intro v25 v26 v27 v28 v29 h30 H hX0
    have F : eb89_509 fu V X0 (el89_509 fu V X0 n) v25 v26 v27 v28 v29 h30 → z89_509 X0' v25 v26 v27 v28 v29 h30 := (branch_mono (get_mono fun a37 =>
 (get_mono fun y38 =>
 (get_mono fun a39 =>
 (chk_mono (get_mono fun y40 =>
 (get_mono fun a41 =>
 (chk_mono (get_mono fun y42 =>
 (branch_mono (get_mono fun a49 =>
 (get_mono fun y50 =>
 (get_mono fun a51 =>
 (get_mono fun y52 =>
 (get_mono fun a53 =>
 (chk_mono (get_mono fun h54 =>
 (get_mono fun a59 =>
 (get_mono fun y60 =>
 (get_mono fun a61 =>
 (chk_mono (get_mono fun y62 =>
 (branch_mono (get_mono fun a67 =>
 (get_mono fun y68 =>
 (get_mono fun a69 =>
 (chk_mono (get_mono fun h70 =>
 (get_mono fun a71 =>
 (get_mono fun y72 =>
 (get_mono fun a73 =>
 (get_mono fun y74 =>
 (get_mono fun a75 =>
 (get_mono fun y76 =>
 (withH_mono fun h77 =>
 (get_mono fun y78 =>
 (get_mono fun r79 =>
 (and_mono (get_pd fun a80 =>
 (get_pd fun y81 =>
 val_pd)) (get_mono fun a82 =>
 (get_mono fun h83 =>
 (fun H => ih _ _ _ _ _ _ H hX0))))))))))))))))))
 (fun H => ih _ _ _ _ _ _ H hX0))))))))))))))
 (fun H => ih _ _ _ _ _ _ H hX0))))))))))
 (hX0 _))
    exact r89_509 X0' v25 v26 v27 v28 v29 h30 (F H)
theorem me89 {fu : Nat} {V : EV} (hV : VOK wAll V) {p0 : Option Addr} {p1 : Int} {p2 : Int} {h : Heap} {K K' : Heap → Prop} (H : e89 fu V p0 p1 p2 h K) (hK : ∀ h, K h → K' h) : t89 p0 p1 p2 h K' := by
  have F : e89 fu V p0 p1 p2 h K → z89 p0 p1 p2 h K' := (withH_mono fun h2 =>
 (get_mono fun y8 =>
 (fun H => me98 hV H fun r9 h10 =>
 (withH_mono fun h11 =>
 (get_mono fun h12 =>
 (withH_mono fun h14 =>
 (fun H => me99 hV H fun h16 =>
 (fun H => me99 hV H fun h18 =>
 (get_mono fun y22 =>
 (get_mono fun a23 =>
 (get_mono fun y24 =>
 (fun H => mel89_509 hV _ _ _ _ _ _ _ H
 (fun h84 =>
 (hK _))))))))))))))
  exact r89 p0 p1 p2 h K' (F H)

theorem vc88 : FnsOK wAll (C88).fns := FnsOK.base wAll_ok
theorem mel88_1 {fu : Nat} {V : EV} (hV : VOK wAll V) {X0 X0' : Heap → Prop} : ∀ n v1 v2 h3 (_ : el88_1 fu V X0 n v1 v2 h3) (hX0 : ∀ h, X0 h → X0' h), l88_1 X0' v1 v2 h3 := by
  intro n
  induction n with
  | zero => intro _ _ _ H; exact H.elim
  | succ n ih =>
    intro v1 v2 h3 H hX0
    have F : eb88_1 fu V X0 (el88_1 fu V X0 n) v1 v2 h3 → z88_1 X0' v1 v2 h3 := (branch_mono (get_mono fun a6 =>
 (chk_mono (get_mono fun y7 =>
 (get_mono fun a10 =>
 (chk_mono (get_mono fun y11 =>
 (get_mono fun a12 =>
 (chk_mono (get_mono fun a13 =>
 (get_mono fun h14 =>
 (chk_mono (get_mono fun h15 =>
 (fun H => ih _ _ _ H hX0)))))))))))))
 (hX0 _))
    exact r88_1 X0' v1 v2 h3 (F H)
theorem me88 {fu : Nat} {V : EV} (hV : VOK wAll V) {p0 : Option Addr} {p1 : Int} {h : Heap} {K K' : Heap → Prop} (H : e88 fu V p0 p1 h K) (hK : ∀ h, K h → K' h) : t88 p0 p1 h K' := by
  have F : e88 fu V p0 p1 h K → z88 p0 p1 h K' := (fun H => mel88_1 hV _ _ _ _ H
 (fun h16 =>
 (hK _)))
  exact r88 p0 p1 h K' (F H)

theorem vc71 : FnsOK wAll (C71).fns := (FnsOK.cons ((FnsOK.cons (FnsOK.base wAll_ok) (fun G e => nomatch (show (none : Option AFn) = some G from e)))) (fun G e => (Option.some.inj (show some w88 = some G from e)) ▸ fun _ _ _ h => h))
theorem mel71_25 {fu : Nat} {V : EV} (hV : VOK wAll V) {X0 X0' : Option Addr → Int → Heap → Prop} : ∀ n v1 v2 v3 h4 (_ : el71_25 fu V X0 n v1 v2 v3 h4) (hX0 : ∀ a0 a1 h, X0 a0 a1 h → X0' a0 a1 h), l71_25 X0' v1 v2 v3 h4 := by
  intro n
  induction n with
  | zero => intro _ _ _ _ H; exact H.elim
  | succ n ih =>
    intro v1 v2 v3 h4 H hX0
    have F : eb71_25 fu V X0 (el71_25 fu V X0 n) v1 v2 v3 h4 → z71_25 X0' v1 v2 v3 h4 := (branch_mono (get_mono fun a5 =>
 (chk_mono (get_mono fun a6 =>
 (get_mono fun a7 =>
 (get_mono fun h8 =>
 (chk_mono (get_mono fun h9 =>
 (chk_mono (get_mono fun h10 =>
 (fun H => ih _ _ _ _ H hX0))))))))))
 (hX0 _ _ _))
    exact r71_25 X0' v1 v2 v3 h4 (F H)
theorem meq71_33077654 {fu : Nat} {V : EV} (hV : VOK wAll V) {XN XN' : Option Addr → Int → (Option Addr × Unit) → Int → Sl → Int → Int → Heap → Prop} {XR XR' : Bool → Heap → Prop} v89 v90 v91 v92 v93 v94 v95 v96 v97 h98 (H : eq71_33077654 fu V XN XR v89 v90 v91 v92 v93 v94 v95 v96 v97 h98) (hXN : ∀ a0 a1 a2 a3 a4 a5 a6 h, XN a0 a1 a2 a3 a4 a5 a6 h → XN' a0 a1 a2 a3 a4 a5 a6 h) (hXR : ∀ a0 h, XR a0 h → XR' a0 h) : q71_33077654 XN' XR' v89 v90 v91 v92 v93 v94 v95 v96 v97 h98 := by
  have F : eq71_33077654 fu V XN XR v89 v90 v91 v92 v93 v94 v95 v96 v97 h98 → z71_33077654 XN' XR' v89 v90 v91 v92 v93 v94 v95 v96 v97 h98 := (branch_mono (fun H => me89 hV H fun h99 =>
 (hXN _ _ _ _ _ _ _ _))
 (get_mono fun a102 =>
 (chk_mono (get_mono fun y103 =>
 (branch_mono (get_mono fun a106 =>
 (chk_mono (get_mono fun h107 =>
 (get_mono fun a113 =>
 (chk_mono (get_mono fun y114 =>
 (branch_mono (fun H => me88 hV H fun h115 =>
 (hXR _ _))
 (get_mono fun a120 =>
 (chk_mono (get_mono fun y121 =>
 (get_mono fun a122 =>
 (chk_mono (get_mono fun h123 =>
 (get_mono fun a124 =>
 (get_mono fun y125 =>
 (get_mono fun a126 =>
 (chk_mono (get_mono fun y127 =>
 (withH_mono fun h128 =>
 (get_mono fun y129 =>
 (get_mono fun r130 =>
 (get_mono fun a131 =>
 (get_mono fun h132 =>
 (hXN _ _ _ _ _ _ _ _))))))))))))))))))))))))
 (hXN _ _ _ _ _ _ _ _))))))
  exact r71_33077654 XN' XR' v89 v90 v91 v92 v93 v94 v95 v96 v97 h98 (F H)
theorem meq71_8269412 {fu : Nat} {V : EV} (hV : VOK wAll V) {XN XN' : Option Addr → Int → (Option Addr × Unit) → Int → Sl → Int → Int → Heap → Prop} {XR XR' : Bool → Heap → Prop} v73 v74 v75 v76 v77 v78 v79 v80 v81 h82 (H : eq71_8269412 fu V XN XR v73 v74 v75 v76 v77 v78 v79 v80 v81 h82) (hXN : ∀ a0 a1 a2 a3 a4 a5 a6 h, XN a0 a1 a2 a3 a4 a5 a6 h → XN' a0 a1 a2 a3 a4 a5 a6 h) (hXR : ∀ a0 h, XR a0 h → XR' a0 h) : q71_8269412 XN' XR' v73 v74 v75 v76 v77 v78 v79 v80 v81 h82 := by
  have F : eq71_8269412 fu V XN XR v73 v74 v75 v76 v77 v78 v79 v80 v81 h82 → z71_8269412 XN' XR' v73 v74 v75 v76 v77 v78 v79 v80 v81 h82 := (branch_mono (hXN _ _ _ _ _ _ _ _)
 (branch_mono (fun H => meq71_33077654 hV _ _ _ _ _ _ _ _ _ _ H
 (fun z133 z134 z135 z136 z137 z138 z139 h140 =>
 (hXN _ _ _ _ _ _ _ _))
 (fun z141 h142 =>
 (hXR _ _)))
 (get_mono fun a143 =>
 (chk_mono (get_mono fun y144 =>
 (branch_mono (get_mono fun a145 =>
 (chk_mono (get_mono fun y146 =>
 (get_mono fun a147 =>
 (chk_mono (get_mono fun y148 =>
 (fun H => meq71_33077654 hV _ _ _ _ _ _ _ _ _ _ H
 (fun z149 z150 z151 z152 z153 z154 z155 h156 =>
 (hXN _ _ _ _ _ _ _ _))
 (fun z157 h158 =>
 (hXR _ _)))))))))
 (fun H => meq71_33077654 hV _ _ _ _ _ _ _ _ _ _ H
 (fun z159 z160 z161 z162 z163 z164 z165 h166 =>
 (hXN _ _ _ _ _ _ _ _))
 (fun z167 h168 =>
 (hXR _ _)))))))))
  exact r71_8269412 XN' XR' v73 v74 v75 v76 v77 v78 v79 v80 v81 h82 (F H)
theorem mel71_32301 {fu : Nat} {V : EV} (hV : VOK wAll V) {XR XR' : Bool → Heap → Prop} {X4 X4' : Option Addr → Int → (Option Addr × Unit) → Heap → Prop} : ∀ n v55 v56 v57 v58 v59 v60 v61 h62 (_ : el71_32301 fu V XR X4 n v55 v56 v57 v58 v59 v60 v61 h62) (hXR : ∀ a0 h, XR a0 h → XR' a0 h) (hX4 : ∀ a0 a1 a2 h, X4 a0 a1 a2 h → X4' a0 a1 a2 h), l71_32301 XR' X4' v55 v56 v57 v58 v59 v60 v61 h62 := by
  intro n
  induction n with
  | zero => intro _ _ _ _ _ _ _ _ H; exact H.elim
  | succ n ih =>
    intro v55 v56 v57 v58 v59 v60 v61 h62 H hXR hX4
    have F : eb71_32301 fu V XR X4 (el71_32301 fu V XR X4 n) v55 v56 v57 v58 v59 v60 v61 h62 → z71_32301 XR' X4' v55 v56 v57 v58 v59 v60 v61 h62 := (branch_mono (get_mono fun a65 =>
 (chk_mono (get_mono fun y66 =>
 (get_mono fun a169 =>
 (chk_mono (get_mono fun y170 =>
 (get_mono fun a171 =>
 (chk_mono (get_mono fun y172 =>
 (branch_mono (fun H => meq71_8269412 hV _ _ _ _ _ _ _ _ _ _ H
 (fun z173 z174 z175 z176 z177 z178 z179 h180 =>
 (fun H => ih _ _ _ _ _ _ _ _ H hXR hX4))
 (fun z181 h182 =>
 (hXR _ _)))
 (get_mono fun a183 =>
 (chk_mono (get_mono fun y184 =>
 (fun H => meq71_8269412 hV _ _ _ _ _ _ _ _ _ _ H
 (fun z185 z186 z187 z188 z189 z190 z191 h192 =>
 (fun H => ih _ _ _ _ _ _ _ _ H hXR hX4))
 (fun z193 h194 =>
 (hXR _ _))))))))))))))))
 (hX4 _ _ _ _))
    exact r71_32301 XR' X4' v55 v56 v57 v58 v59 v60 v61 h62 (F H)
theorem mel71_251 {fu : Nat} {V : EV} (hV : VOK wAll V) {XR XR' : Bool → Heap → Prop} {X2 X2' : Heap → Prop} : ∀ n v27 v28 v29 h30 (_ : el71_251 fu V XR X2 n v27 v28 v29 h30) (hXR : ∀ a0 h, XR a0 h → XR' a0 h) (hX2 : ∀ h, X2 h → X2' h), l71_251 XR' X2' v27 v28 v29 h30 := by
  intro n
  induction n with
  | zero => intro _ _ _ _ H; exact H.elim
  | succ n ih =>
    intro v27 v28 v29 h30 H hXR hX2
    have F : eb71_251 fu V XR X2 (el71_251 fu V XR X2 n) v27 v28 v29 h30 → z71_251 XR' X2' v27 v28 v29 h30 := (get_mono fun a33 =>
 (get_mono fun y34 =>
 (branch_mono (get_mono fun a39 =>
 (get_mono fun y40 =>
 (get_mono fun a41 =>
 (chk_mono (get_mono fun y42 =>
 (get_mono fun a47 =>
 (get_mono fun y48 =>
 (chk_mono (get_mono fun a49 =>
 (get_mono fun h50 =>
 (get_mono fun a53 =>
 (chk_mono (get_mono fun y54 =>
 (fun H => mel71_32301 hV _ _ _ _ _ _ _ _ _ H
 (fun z195 h196 =>
 (hXR _ _))
 (fun z197 z198 z199 h200 =>
 (fun H => ih _ _ _ _ H hXR hX2))))))))))))))))
 (hX2 _))))
    exact r71_251 XR' X2' v27 v28 v29 h30 (F H)
theorem me71 {fu : Nat} {V : EV} (hV : VOK wAll V) {p0 : Option Addr} {p1 : Int} {h : Heap} {K K' : Bool → Heap → Prop} (H : e71 fu V p0 p1 h K) (hK : ∀ a0 h, K a0 h → K' a0 h) : t71 p0 p1 h K' := by
  have F : e71 fu V p0 p1 h K → z71 p0 p1 h K' := (fun H => mel71_25 hV _ _ _ _ _ H
 (fun z14 z15 h16 =>
 (get_mono fun a19 =>
 (chk_mono (get_mono fun h20 =>
 (withH_mono fun h24 =>
 (get_mono fun a25 =>
 (get_mono fun h26 =>
 (fun H => mel71_251 hV _ _ _ _ _ H
 (fun z201 h202 =>
 (hK _ _))
 (fun h203 =>
 (hK _ _)))))))))))
  exact r71 p0 p1 h K' (F H)

theorem vc50 : FnsOK wAll (C50).fns := (FnsOK.cons (FnsOK.base wAll_ok) (fun G e => nomatch (show (none : Option AFn) = some G from e)))
theorem mel50_57 {fu : Nat} {V : EV} (hV : VOK wAll V) {X0 X0' : Int → Heap → Prop} : ∀ n v5 v6 v7 v8 h9 (_ : el50_57 fu V X0 n v5 v6 v7 v8 h9) (hX0 : ∀ a0 h, X0 a0 h → X0' a0 h), l50_57 X0' v5 v6 v7 v8 h9 := by
  intro n
  induction n with
  | zero => intro _ _ _ _ _ H; exact H.elim
  | succ n ih =>
    intro v5 v6 v7 v8 h9 H hX0
    have F : eb50_57 fu V X0 (el50_57 fu V X0 n) v5 v6 v7 v8 h9 → z50_57 X0' v5 v6 v7 v8 h9 := (branch_mono (get_mono fun a10 =>
 (chk_mono (get_mono fun y11 =>
 (branch_mono (fun H => me71 hV H fun r12 h13 =>
 (branch_mono (fun H => ih _ _ _ _ _ H hX0)
 (fun H => ih _ _ _ _ _ H hX0)))
 (fun H => ih _ _ _ _ _ H hX0)))))
 (hX0 _ _))
    exact r50_57 X0' v5 v6 v7 v8 h9 (F H)
theorem me50 {fu : Nat} {V : EV} (hV : VOK wAll V) {p0 : Option Addr} {h : Heap} {K K' : Int → Heap → Prop} (H : e50 fu V p0 h K) (hK : ∀ a0 h, K a0 h → K' a0 h) : t50 p0 h K' := by
  have F : e50 fu V p0 h K → z50 p0 h K' := (get_mono fun a3 =>
 (get_mono fun y4 =>
 (fun H => mel50_57 hV _ _ _ _ _ _ H
 (fun z14 h15 =>
 (hK _ _)))))
  exact r50 p0 h K' (F H)

theorem vc54 : FnsOK wAll (C54).fns := (FnsOK.cons ((FnsOK.cons (FnsOK.base wAll_ok) (fun G e => nomatch (show (none : Option AFn) = some G from e)))) (fun G e => nomatch (show (none : Option AFn) = some G from e)))
theorem mel54_249 {fu : Nat} {V : EV} (hV : VOK wAll V) {X0 X0' : Option Addr → Option Addr → Option Addr → Option Addr → Option Addr → Heap → Prop} : ∀ n v25 v26 v27 v28 v29 v30 v31 v32 h33 (_ : el54_249 fu V X0 n v25 v26 v27 v28 v29 v30 v31 v32 h33) (hX0 : ∀ a0 a1 a2 a3 a4 h, X0 a0 a1 a2 a3 a4 h → X0' a0 a1 a2 a3 a4 h), l54_249 X0' v25 v26 v27 v28 v29 v30 v31 v32 h33 := by
  intro n
  induction n with
  | zero => intro _ _ _ _ _ _ _ _ _ H; exact H.elim
  | succ n ih =>
    intro v25 v26 v27 v28 v29 v30 v31 v32 h33 H hX0
    have F : eb54_249 fu V X0 (el54_249 fu V X0 n) v25 v26 v27 v28 v29 v30 v31 v32 h33 → z54_249 X0' v25 v26 v27 v28 v29 v30 v31 v32 h33 := (branch_mono (get_mono fun a34 =>
 (get_mono fun y35 =>
 (get_mono fun y36 =>
 (fun H => me49 hV H fun r37 h38 =>
 (fun H => me50 hV H fun r39 h40 =>
 (get_mono fun a41 =>
 (chk_mono (get_mono fun h42 =>
 (fun H => ih _ _ _ _ _ _ _ _ _ H hX0)))))))))
 (hX0 _ _ _ _ _ _))
    exact r54_249 X0' v25 v26 v27 v28 v29 v30 v31 v32 h33 (F H)
theorem mel54_129637 {fu : Nat} {V : EV} (hV : VOK wAll V) {X4 X4' : Option Addr → Option Addr → Option Addr → Option Addr → Option Addr → Sl → Int → Int → Heap → Prop} : ∀ n v79 v80 v81 v82 v83 v84 v85 v86 v87 v88 h89 (_ : el54_129637 fu V X4 n v79 v80 v81 v82 v83 v84 v85 v86 v87 v88 h89) (hX4 : ∀ a0 a1 a2 a3 a4 a5 a6 a7 h, X4 a0 a1 a2 a3 a4 a5 a6 a7 h → X4' a0 a1 a2 a3 a4 a5 a6 a7 h), l54_129637 X4' v79 v80 v81 v82 v83 v84 v85 v86 v87 v88 h89 := by
  intro n
  induction n with
  | zero => intro _ _ _ _ _ _ _ _ _ _ _ H; exact H.elim
  | succ n ih =>
    intro v79 v80 v81 v82 v83 v84 v85 v86 v87 v88 h89 H hX4
    have F : eb54_129637 fu V X4 (el54_129637 fu V X4 n) v79 v80 v81 v82 v83 v84 v85 v86 v87 v88 h89 → z54_129637 X4' v79 v80 v81 v82 v83 v84 v85 v86 v87 v88 h89 := (branch_mono (get_mono fun a90 =>
 (chk_mono (get_mono fun y91 =>
 (get_mono fun a92 =>
 (chk_mono (get_mono fun y93 =>
 (get_mono fun a94 =>
 (chk_mono (get_mono fun y95 =>
 (branch_mono (get_mono fun a96 =>
 (chk_mono (get_mono fun h97 =>
 (fun H => ih _ _ _ _ _ _ _ _ _ _ _ H hX4))))
 (get_mono fun a98 =>
 (chk_mono (get_mono fun y99 =>
 (get_mono fun a100 =>
 (chk_mono (get_mono fun y101 =>
 (branch_mono (get_mono fun a102 =>
 (chk_mono (get_mono fun y103 =>
 (get_mono fun a104 =>
 (chk_mono (get_mono fun y105 =>
 (get_mono fun a106 =>
 (chk_mono (get_mono fun h107 =>
 (fun H => ih _ _ _ _ _ _ _ _ _ _ _ H hX4))))))))))
 (get_mono fun a108 =>
 (chk_mono (get_mono fun h109 =>
 (fun H => ih _ _ _ _ _ _ _ _ _ _ _ H hX4)))))))))))))))))))))
 (hX4 _ _ _ _ _ _ _ _ _))
    exact r54_129637 X4' v79 v80 v81 v82 v83 v84 v85 v86 v87 v88 h89 (F H)
theorem mel54_505 {fu : Nat} {V : EV} (hV : VOK wAll V) {X2 X2' : Option Addr → Option Addr → Option Addr → Option Addr → Option Addr → Heap → Prop} : ∀ n v60 v61 v62 v63 v64 v65 v66 v67 h68 (_ : el54_505 fu V X2 n v60 v61 v62 v63 v64 v65 v66 v67 h68) (hX2 : ∀ a0 a1 a2 a3 a4 h, X2 a0 a1 a2 a3 a4 h → X2' a0 a1 a2 a3 a4 h), l54_505 X2' v60 v61 v62 v63 v64 v65 v66 v67 h68 := by
  intro n
  induction n with
  | zero => intro _ _ _ _ _ _ _ _ _ H; exact H.elim
  | succ n ih =>
    intro v60 v61 v62 v63 v64 v65 v66 v67 h68 H hX2
    have F : eb54_505 fu V X2 (el54_505 fu V X2 n) v60 v61 v62 v63 v64 v65 v66 v67 h68 → z54_505 X2' v60 v61 v62 v63 v64 v65 v66 v67 h68 := (branch_mono (get_mono fun a74 =>
 (chk_mono (get_mono fun y75 =>
 (get_mono fun y76 =>
 (withH_mono fun h77 =>
 (get_mono fun h78 =>
 (fun H => mel54_129637 hV _ _ _ _ _ _ _ _ _ _ _ _ H
 (fun z110 z111 z112 z113 z114 z115 z116 z117 h118 =>
 (fun H => ih _ _ _ _ _ _ _ _ _ H hX2)))))))))
 (hX2 _ _ _ _ _ _))
    exact r54_505 X2' v60 v61 v62 v63 v64 v65 v66 v67 h68 (F H)
theorem mel54_1017 {fu : Nat} {V : EV} (hV : VOK wAll V) {X6 X6' : Option Addr → Option Addr → Heap → Prop} : ∀ n v137 v138 v139 v140 v141 v142 h143 (_ : el54_1017 fu V X6 n v137 v138 v139 v140 v141 v142 h143) (hX6 : ∀ a0 a1 h, X6 a0 a1 h → X6' a0 a1 h), l54_1017 X6' v137 v138 v139 v140 v141 v142 h143 := by
  intro n
  induction n with
  | zero => intro _ _ _ _ _ _ _ H; exact H.elim
  | succ n ih =>
    intro v137 v138 v139 v140 v141 v142 h143 H hX6
    have F : eb54_1017 fu V X6 (el54_1017 fu V X6 n) v137 v138 v139 v140 v141 v142 h143 → z54_1017 X6' v137 v138 v139 v140 v141 v142 h143 := (branch_mono (get_mono fun a146 =>
 (chk_mono (get_mono fun y147 =>
 (branch_mono (get_mono fun a148 =>
 (get_mono fun y149 =>
 (withH_mono fun h150 =>
 (get_mono fun y151 =>
 (get_mono fun r152 =>
 (get_mono fun a153 =>
 (get_mono fun h154 =>
 (fun H => ih _ _ _ _ _ _ _ H hX6))))))))
 (get_mono fun a157 =>
 (chk_mono (get_mono fun y158 =>
 (branch_mono (get_mono fun a159 =>
 (get_mono fun y160 =>
 (withH_mono fun h161 =>
 (get_mono fun y162 =>
 (get_mono fun r163 =>
 (get_mono fun a164 =>
 (get_mono fun h165 =>
 (fun H => ih _ _ _ _ _ _ _ H hX6))))))))
 (get_mono fun a166 =>
 (get_mono fun y167 =>
 (withH_mono fun h168 =>
 (get_mono fun y169 =>
 (get_mono fun r170 =>
 (get_mono fun a171 =>
 (get_mono fun h172 =>
 (fun H => ih _ _ _ _ _ _ _ H hX6))))))))))))))))
 (hX6 _ _ _))
    exact r54_1017 X6' v137 v138 v139 v140 v141 v142 h143 (F H)
theorem me54 {fu : Nat} {V : EV} (hV : VOK wAll V) {p0 : (Int × Sl × Unit)} {h : Heap} {K K' : (Sl × Sl × Sl × Unit) → Heap → Prop} (H : e54 fu V p0 h K) (hK : ∀ a0 h, K a0 h → K' a0 h) : t54 p0 h K' := by
  have F : e54 fu V p0 h K → z54 p0 h K' := (withH_mono fun h3 =>
 (withH_mono fun h4 =>
 (withH_mono fun h6 =>
 (get_mono fun y13 =>
 (get_mono fun y14 =>
 (fun H => me49 hV H fun r15 h16 =>
 (fun H => me50 hV H fun r17 h18 =>
 (withH_mono fun h21 =>
 (withH_mono fun h22 =>
 (get_mono fun y49 =>
 (fun H => mel54_249 hV _ _ _ _ _ _ _ _ _ _ H
 (fun z50 z51 z52 z53 z54 h55 =>
 (get_mono fun a125 =>
 (get_mono fun y126 =>
 (fun H => mel54_505 hV _ _ _ _ _ _ _ _ _ _ H
 (fun z127 z128 z129 z130 z131 h132 =>
 (get_mono fun a135 =>
 (get_mono fun y136 =>
 (fun H => mel54_1017 hV _ _ _ _ _ _ _ _ H
 (fun z173 z174 h175 =>
 (get_mono fun a176 =>
 (get_mono fun y177 =>
 (get_mono fun y178 =>
 (get_mono fun y179 =>
 (get_mono fun a180 =>
 (get_mono fun h181 =>
 (get_mono fun a182 =>
 (get_mono fun y183 =>
 (get_mono fun y184 =>
 (get_mono fun y185 =>
 (hK _ _)))))))))))))))))))))))))))))))
  exact r54 p0 h K' (F H)

theorem vc16 : FnsOK wAll (C16).fns := (FnsOK.cons ((FnsOK.cons (FnsOK.base wAll_ok) (fun G e => nomatch (show (none : Option AFn) = some G from e)))) (fun G e => nomatch (show (none : Option AFn) = some G from e)))
theorem me16 {fu : Nat} {V : EV} (hV : VOK wAll V) {p0 : (Int × Sl × Unit)} {h : Heap} {K K' : (Sl × Sl × Sl × Unit) → Int → Heap → Prop} (H : e16 fu V p0 h K) (hK : ∀ a0 a1 h, K a0 a1 h → K' a0 a1 h) : t16 p0 h K' := by
  have F : e16 fu V p0 h K → z16 p0 h K' := (withH_mono fun h3 =>
 (withH_mono fun h4 =>
 (get_mono fun y9 =>
 (get_mono fun y10 =>
 (fun H => me33 hV H fun r11 h12 =>
 (branch_mono (get_mono fun h13 =>
 (get_mono fun y14 =>
 (get_mono fun y15 =>
 (get_mono fun y16 =>
 (hK _ _ _)))))
 (get_mono fun y17 =>
 (get_mono fun y18 =>
 (fun H => me54 hV H fun r19 h20 =>
 (get_mono fun h21 =>
 (get_mono fun y22 =>
 (get_mono fun y23 =>
 (get_mono fun y24 =>
 (hK _ _ _))))))))))))))
  exact r16 p0 h K' (F H)

theorem vc91 : FnsOK wAll (C91).fns := FnsOK.base wAll_ok
theorem mel91_25 {fu : Nat} {V : EV} (hV : VOK wAll V) {XR XR' : Int → Heap → Prop} {X0 X0' : Heap → Prop} : ∀ n v1 v2 v3 v4 h5 (_ : el91_25 fu V XR X0 n v1 v2 v3 v4 h5) (hXR : ∀ a0 h, XR a0 h → XR' a0 h) (hX0 : ∀ h, X0 h → X0' h), l91_25 XR' X0' v1 v2 v3 v4 h5 := by
  intro n
  induction n with
  | zero => intro _ _ _ _ _ H; exact H.elim
  | succ n ih =>
    intro v1 v2 v3 v4 h5 H hXR hX0
    have F : eb91_25 fu V XR X0 (el91_25 fu V XR X0 n) v1 v2 v3 v4 h5 → z91_25 XR' X0' v1 v2 v3 v4 h5 := (branch_mono (get_mono fun a6 =>
 (chk_mono (get_mono fun y7 =>
 (hV.call vc91 (retK_mono fun r8 h9 =>
 (boolK_mono fun b11 => (branch_mono (hXR _ _)
 (fun H => ih _ _ _ _ _ H hXR hX0))))))))
 (hX0 _))
    exact r91_25 XR' X0' v1 v2 v3 v4 h5 (F H)
theorem me91 {fu : Nat} {V : EV} (hV : VOK wAll V) {p0 : Sl} {p1 : Value} {h : Heap} {K K' : Int → Heap → Prop} (H : e91 fu V p0 p1 h K) (hK : ∀ a0 h, K a0 h → K' a0 h) : t91 p0 p1 h K' := by
  have F : e91 fu V p0 p1 h K → z91 p0 p1 h K' := (fun H => mel91_25 hV _ _ _ _ _ _ H
 (fun z12 h13 =>
 (hK _ _))
 (fun h14 =>
 (hK _ _)))
  exact r91 p0 p1 h K' (F H)

theorem vc74 : FnsOK wAll (C74).fns := (FnsOK.cons (FnsOK.base wAll_ok) (fun G e => nomatch (show (none : Option AFn) = some G from e)))
theorem me74 {fu : Nat} {V : EV} (hV : VOK wAll V) {p0 : Sl} {p1 : Value} {h : Heap} {K K' : Bool → Heap → Prop} (H : e74 fu V p0 p1 h K) (hK : ∀ a0 h, K a0 h → K' a0 h) : t74 p0 p1 h K' := by
  have F : e74 fu V p0 p1 h K → z74 p0 p1 h K' := (fun H => me91 hV H fun r1 h2 =>
 (hK _ _))
  exact r74 p0 p1 h K' (F H)

theorem vc83 : FnsOK wAll (C83).fns := FnsOK.base wAll_ok
theorem mel83_25 {fu : Nat} {V : EV} (hV : VOK wAll V) {XR XR' : Int → Heap → Prop} {X0 X0' : Heap → Prop} : ∀ n v1 v2 v3 v4 h5 (_ : el83_25 fu V XR X0 n v1 v2 v3 v4 h5) (hXR : ∀ a0 h, XR a0 h → XR' a0 h) (hX0 : ∀ h, X0 h → X0' h), l83_25 XR' X0' v1 v2 v3 v4 h5 := by
  intro n
  induction n with
  | zero => intro _ _ _ _ _ H; exact H.elim
  | succ n ih =>
    intro v1 v2 v3 v4 h5 H hXR hX0
    have F : eb83_25 fu V XR X0 (el83_25 fu V XR X0 n) v1 v2 v3 v4 h5 → z83_25 XR' X0' v1 v2 v3 v4 h5 := (branch_mono (get_mono fun a6 =>
 (chk_mono (get_mono fun y7 =>
 (hV.call vc83 (retK_mono fun r8 h9 =>
 (boolK_mono fun b11 => (branch_mono (hXR _ _)
 (fun H => ih _ _ _ _ _ H hXR hX0))))))))
 (hX0 _))
    exact r83_25 XR' X0' v1 v2 v3 v4 h5 (F H)
theorem me83 {fu : Nat} {V : EV} (hV : VOK wAll V) {p0 : Sl} {p1 : Value} {h : Heap} {K K' : Int → Heap → Prop} (H : e83 fu V p0 p1 h K) (hK : ∀ a0 h, K a0 h → K' a0 h) : t83 p0 p1 h K' := by
  have F : e83 fu V p0 p1 h K → z83 p0 p1 h K' := (fun H => mel83_25 hV _ _ _ _ _ _ H
 (fun z12 h13 =>
 (hK _ _))
 (fun h14 =>
 (hK _ _)))
  exact r83 p0 p1 h K' (F H)

theorem vc69 : FnsOK wAll (C69).fns := (FnsOK.cons (FnsOK.base wAll_ok) (fun G e => nomatch (show (none : Option AFn) = some G from e)))
theorem me69 {fu : Nat} {V : EV} (hV : VOK wAll V) {p0 : Sl} {p1 : Value} {h : Heap} {K K' : Bool → Heap → Prop} (H : e69 fu V p0 p1 h K) (hK : ∀ a0 h, K a0 h → K' a0 h) : t69 p0 p1 h K' := by
  have F : e69 fu V p0 p1 h K → z69 p0 p1 h K' := (fun H => me83 hV H fun r1 h2 =>
 (hK _ _))
  exact r69 p0 p1 h K' (F H)

theorem vc75 : FnsOK wAll (C75).fns := FnsOK.base wAll_ok
theorem me75 {fu : Nat} {V : EV} (hV : VOK wAll V) {p0 : Sl} {p1 : Option Addr} {h : Heap} {K K' : Bool → Heap → Prop} (H : e75 fu V p0 p1 h K) (hK : ∀ a0 h, K a0 h → K' a0 h) : t75 p0 p1 h K' := by
  have F : e75 fu V p0 p1 h K → z75 p0 p1 h K' := (get_mono fun a1 =>
 (get_mono fun y2 =>
 (hK _ _)))
  exact r75 p0 p1 h K' (F H)

theorem vc76 : FnsOK wAll (C76).fns := FnsOK.base wAll_ok
theorem me76 {fu : Nat} {V : EV} (hV : VOK wAll V) {p0 : Int} {h : Heap} {K K' : Bool → Heap → Prop} (H : e76 fu V p0 h K) (hK : ∀ a0 h, K a0 h → K' a0 h) : t76 p0 h K' := by
  have F : e76 fu V p0 h K → z76 p0 h K' := (branch_mono (hK _ _)
 (hK _ _))
  exact r76 p0 h K' (F H)

theorem vc63 : FnsOK wAll (C63).fns := (FnsOK.cons ((FnsOK.cons (FnsOK.base wAll_ok) (fun G e => nomatch (show (none : Option AFn) = some G from e)))) (fun G e => nomatch (show (none : Option AFn) = some G from e)))
theorem mel63_121 {fu : Nat} {V : EV} (hV : VOK wAll V) {XR XR' : Int → Heap → Prop} {X0 X0' : Heap → Prop} : ∀ n v13 v14 v15 h16 (_ : el63_121 fu V XR X0 n v13 v14 v15 h16) (hXR : ∀ a0 h, XR a0 h → XR' a0 h) (hX0 : ∀ h, X0 h → X0' h), l63_121 XR' X0' v13 v14 v15 h16 := by
  intro n
  induction n with
  | zero => intro _ _ _ _ H; exact H.elim
  | succ n ih =>
    intro v13 v14 v15 h16 H hXR hX0
    have F : eb63_121 fu V XR X0 (el63_121 fu V XR X0 n) v13 v14 v15 h16 → z63_121 XR' X0' v13 v14 v15 h16 := (branch_mono (get_mono fun a17 =>
 (chk_mono (get_mono fun y18 =>
 (fun H => me69 hV H fun r19 h20 =>
 (branch_mono (hXR _ _)
 (fun H => ih _ _ _ _ H hXR hX0))))))
 (hX0 _))
    exact r63_121 XR' X0' v13 v14 v15 h16 (F H)
theorem me63 {fu : Nat} {V : EV} (hV : VOK wAll V) {p0 : Sl} {h : Heap} {K K' : Int → Heap → Prop} (H : e63 fu V p0 h K) (hK : ∀ a0 h, K a0 h → K' a0 h) : t63 p0 h K' := by
  have F : e63 fu V p0 h K → z63 p0 h K' := (withH_mono fun h3 =>
 (get_mono fun h4 =>
 (get_mono fun y9 =>
 (branch_mono (hK _ _)
 (get_mono fun y10 =>
 (branch_mono (hK _ _)
 (fun H => me74 hV H fun r11 h12 =>
 (branch_mono (hK _ _)
 (fun H => mel63_121 hV _ _ _ _ _ H
 (fun z21 h22 =>
 (hK _ _))
 (fun h23 =>
 (hK _ _)))))))))))
  exact r63 p0 h K' (F H)

theorem vc101 : FnsOK wAll (C101).fns := FnsOK.base wAll_ok
theorem me101 {fu : Nat} {V : EV} (hV : VOK wAll V) {p0 : Int} {p1 : Int} {h : Heap} {K K' : Int → Int → Heap → Prop} (H : e101 fu V p0 p1 h K) (hK : ∀ a0 a1 h, K a0 a1 h → K' a0 a1 h) : t101 p0 p1 h K' := by
  have F : e101 fu V p0 p1 h K → z101 p0 p1 h K' := (hK _ _ _)
  exact r101 p0 p1 h K' (F H)

theorem vc92 : FnsOK wAll (C92).fns := (FnsOK.cons (FnsOK.base wAll_ok) (fun G e => nomatch (show (none : Option AFn) = some G from e)))
theorem me92 {fu : Nat} {V : EV} (hV : VOK wAll V) {p0 : Int} {p1 : Int} {h : Heap} {K K' : Int → Int → Heap → Prop} (H : e92 fu V p0 p1 h K) (hK : ∀ a0 a1 h, K a0 a1 h → K' a0 a1 h) : t92 p0 p1 h K' := by
  have F : e92 fu V p0 p1 h K → z92 p0 p1 h K' := (fun H => me101 hV H fun r1 r2 h3 =>
 (hK _ _ _))
  exact r92 p0 p1 h K' (F H)

theorem vc80 : FnsOK wAll (C80).fns := (FnsOK.cons (FnsOK.base wAll_ok) (fun G e => nomatch (show (none : Option AFn) = some G from e)))
theorem mel80_507 {fu : Nat} {V : EV} (hV : VOK wAll V) {X0 X0' : Sl → Heap → Prop} : ∀ n v15 v16 h17 (_ : el80_507 fu V X0 n v15 v16 h17) (hX0 : ∀ a0 h, X0 a0 h → X0' a0 h), l80_507 X0' v15 v16 h17 := by
  intro n
  induction n with
  | zero => intro _ _ _ H; exact H.elim
  | succ n ih =>
    intro v15 v16 h17 H hX0
    have F : eb80_507 fu V X0 (el80_507 fu V X0 n) v15 v16 h17 → z80_507 X0' v15 v16 h17 := (branch_mono (chk_mono (chk_mono (optK_mono (fun H => ih _ _ _ H hX0)
 fun a18 =>
 (optK_mono (fun H => ih _ _ _ H hX0)
 fun a19 =>
 (get_mono fun y20 => get_mono fun h21 =>
 (fun H => ih _ _ _ H hX0))))))
 (hX0 _ _))
    exact r80_507 X0' v15 v16 h17 (F H)
theorem meq80_126 {fu : Nat} {V : EV} (hV : VOK wAll V) {XR XR' : Sl → Heap → Prop} v12 v13 h14 (H : eq80_126 fu V XR v12 v13 h14) (hXR : ∀ a0 h, XR a0 h → XR' a0 h) : q80_126 XR' v12 v13 h14 := by
  have F : eq80_126 fu V XR v12 v13 h14 → z80_126 XR' v12 v13 h14 := (fun H => mel80_507 hV _ _ _ _ H
 (fun z22 h23 =>
 (hXR _ _)))
  exact r80_126 XR' v12 v13 h14 (F H)
theorem me80 {fu : Nat} {V : EV} (hV : VOK wAll V) {p0 : Sl} {p1 : Int} {h : Heap} {K K' : Sl → Heap → Prop} (H : e80 fu V p0 p1 h K) (hK : ∀ a0 h, K a0 h → K' a0 h) : t80 p0 p1 h K' := by
  have F : e80 fu V p0 p1 h K → z80 p0 p1 h K' := (branch_mono id
 (fun H => me92 hV H fun r4 r5 h6 =>
 (branch_mono id
 (branch_mono id
 (chk_mono (withH_mono fun h8 =>
 (optK_mono (fun H => meq80_126 hV _ _ _ H
 (fun z25 h26 =>
 (hK _ _)))
 fun a24 =>
 (get_mono fun y27 => get_mono fun h28 =>
 (fun H => meq80_126 hV _ _ _ H
 (fun z29 h30 =>
 (hK _ _)))))))))))
  exact r80 p0 p1 h K' (F H)

theorem vc81 : FnsOK wAll (C81).fns := FnsOK.base wAll_ok
theorem mel81_121 {fu : Nat} {V : EV} (hV : VOK wAll V) {X0 X0' : Int → Heap → Prop} : ∀ n v5 v6 v7 h8 (_ : el81_121 fu V X0 n v5 v6 v7 h8) (hX0 : ∀ a0 h, X0 a0 h → X0' a0 h), l81_121 X0' v5 v6 v7 h8 := by
  intro n
  induction n with
  | zero => intro _ _ _ _ H; exact H.elim
  | succ n ih =>
    intro v5 v6 v7 h8 H hX0
    have F : eb81_121 fu V X0 (el81_121 fu V X0 n) v5 v6 v7 h8 → z81_121 X0' v5 v6 v7 h8 := (branch_mono (get_mono fun a9 =>
 (chk_mono (get_mono fun y10 =>
 (fun H => ih _ _ _ _ H hX0))))
 (hX0 _ _))
    exact r81_121 X0' v5 v6 v7 h8 (F H)
theorem me81 {fu : Nat} {V : EV} (hV : VOK wAll V) {p0 : Sl} {h : Heap} {K K' : Int → Heap → Prop} (H : e81 fu V p0 h K) (hK : ∀ a0 h, K a0 h → K' a0 h) : t81 p0 h K' := by
  have F : e81 fu V p0 h K → z81 p0 h K' := (branch_mono id
 (get_mono fun a3 =>
 (chk_mono (get_mono fun y4 =>
 (fun H => mel81_121 hV _ _ _ _ _ H
 (fun z11 h12 =>
 (hK _ _)))))))
  exact r81 p0 h K' (F H)

theorem vc82 : FnsOK wAll (C82).fns := (FnsOK.cons (FnsOK.base wAll_ok) (fun G e => nomatch (show (none : Option AFn) = some G from e)))
theorem mel82_507 {fu : Nat} {V : EV} (hV : VOK wAll V) {X0 X0' : Sl → Heap → Prop} : ∀ n v15 v16 h17 (_ : el82_507 fu V X0 n v15 v16 h17) (hX0 : ∀ a0 h, X0 a0 h → X0' a0 h), l82_507 X0' v15 v16 h17 := by
  intro n
  induction n with
  | zero => intro _ _ _ H; exact H.elim
  | succ n ih =>
    intro v15 v16 h17 H hX0
    have F : eb82_507 fu V X0 (el82_507 fu V X0 n) v15 v16 h17 → z82_507 X0' v15 v16 h17 := (branch_mono (chk_mono (chk_mono (optK_mono (fun H => ih _ _ _ H hX0)
 fun a18 =>
 (optK_mono (fun H => ih _ _ _ H hX0)
 fun a19 =>
 (get_mono fun y20 => get_mono fun h21 =>
 (fun H => ih _ _ _ H hX0))))))
 (hX0 _ _))
    exact r82_507 X0' v15 v16 h17 (F H)
theorem meq82_126 {fu : Nat} {V : EV} (hV : VOK wAll V) {XR XR' : Sl → Heap → Prop} v12 v13 h14 (H : eq82_126 fu V XR v12 v13 h14) (hXR : ∀ a0 h, XR a0 h → XR' a0 h) : q82_126 XR' v12 v13 h14 := by
  have F : eq82_126 fu V XR v12 v13 h14 → z82_126 XR' v12 v13 h14 := (fun H => mel82_507 hV _ _ _ _ H
 (fun z22 h23 =>
 (hXR _ _)))
  exact r82_126 XR' v12 v13 h14 (F H)
theorem me82 {fu : Nat} {V : EV} (hV : VOK wAll V) {p0 : Sl} {p1 : Int} {h : Heap} {K K' : Sl → Heap → Prop} (H : e82 fu V p0 p1 h K) (hK : ∀ a0 h, K a0 h → K' a0 h) : t82 p0 p1 h K' := by
  have F : e82 fu V p0 p1 h K → z82 p0 p1 h K' := (branch_mono id
 (fun H => me92 hV H fun r4 r5 h6 =>
 (branch_mono id
 (branch_mono id
 (chk_mono (withH_mono fun h8 =>
 (optK_mono (fun H => meq82_126 hV _ _ _ H
 (fun z25 h26 =>
 (hK _ _)))
 fun a24 =>
 (get_mono fun y27 => get_mono fun h28 =>
 (fun H => meq82_126 hV _ _ _ H
 (fun z29 h30 =>
 (hK _ _)))))))))))
  exact r82 p0 p1 h K' (F H)

theorem vc67 : FnsOK wAll (C67).fns := (FnsOK.cons ((FnsOK.cons ((FnsOK.cons (FnsOK.base wAll_ok) (fun G e => nomatch (show (none : Option AFn) = some G from e)))) (fun G e => nomatch (show (none : Option AFn) = some G from e)))) (fun G e => nomatch (show (none : Option AFn) = some G from e)))
theorem meq67_33608895078 {fu : Nat} {V : EV} (hV : VOK wAll V) {XN XN' : Sl → Sl → Sl → Int → Sl → Int → Sl → Sl → Sl → Int → Int → Int → Int → Int → Int → Int → Heap → Prop} v104 v105 v106 v107 v108 v109 v110 v111 v112 v113 v114 v115 v116 v117 v118 v119 v120 h121 (H : eq67_33608895078 fu V XN v104 v105 v106 v107 v108 v109 v110 v111 v112 v113 v114 v115 v116 v117 v118 v119 v120 h121) (hXN : ∀ a0 a1 a2 a3 a4 a5 a6 a7 a8 a9 a10 a11 a12 a13 a14 a15 h, XN a0 a1 a2 a3 a4 a5 a6 a7 a8 a9 a10 a11 a12 a13 a14 a15 h → XN' a0 a1 a2 a3 a4 a5 a6 a7 a8 a9 a10 a11 a12 a13 a14 a15 h) : q67_33608895078 XN' v104 v105 v106 v107 v108 v109 v110 v111 v112 v113 v114 v115 v116 v117 v118 v119 v120 h121 := by
  have F : eq67_33608895078 fu V XN v104 v105 v106 v107 v108 v109 v110 v111 v112 v113 v114 v115 v116 v117 v118 v119 v120 h121 → z67_33608895078 XN' v104 v105 v106 v107 v108 v109 v110 v111 v112 v113 v114 v115 v116 v117 v118 v119 v120 h121 := (branch_mono (hXN _ _ _ _ _ _ _ _ _ _ _ _ _ _ _ _ _)
 (get_mono fun a122 =>
 (chk_mono (get_mono fun y123 =>
 (get_mono fun a124 =>
 (chk_mono (get_mono fun y125 =>
 (branch_mono (hXN _ _ _ _ _ _ _ _ _ _ _ _ _ _ _ _ _)
 (hXN _ _ _ _ _ _ _ _ _ _ _ _ _ _ _ _ _)))))))))
  exact r67_33608895078 XN' v104 v105 v106 v107 v108 v109 v110 v111 v112 v113 v114 v115 v116 v117 v118 v119 v120 h121 (F H)
theorem mel67_131284745 {fu : Nat} {V : EV} (hV : VOK wAll V) {X4 X4' : Sl → Sl → Sl → Int → Sl → Int → Sl → Sl → Sl → Int → Int → Int → Heap → Prop} : ∀ n v59 v60 v61 v62 v63 v64 v65 v66 v67 v68 v69 v70 v71 v72 v73 v74 h75 (_ : el67_131284745 fu V X4 n v59 v60 v61 v62 v63 v64 v65 v66 v67 v68 v69 v70 v71 v72 v73 v74 h75) (hX4 : ∀ a0 a1 a2 a3 a4 a5 a6 a7 a8 a9 a10 a11 h, X4 a0 a1 a2 a3 a4 a5 a6 a7 a8 a9 a10 a11 h → X4' a0 a1 a2 a3 a4 a5 a6 a7 a8 a9 a10 a11 h), l67_131284745 X4' v59 v60 v61 v62 v63 v64 v65 v66 v67 v68 v69 v70 v71 v72 v73 v74 h75 := by
  intro n
  induction n with
  | zero => intro _ _ _ _ _ _ _ _ _ _ _ _ _ _ _ _ _ H; exact H.elim
  | succ n ih =>
    intro v59 v60 v61 v62 v63 v64 v65 v66 v67 v68 v69 v70 v71 v72 v73 v74 h75 H hX4
    have F : eb67_131284745 fu V X4 (el67_131284745 fu V X4 n) v59 v60 v61 v62 v63 v64 v65 v66 v67 v68 v69 v70 v71 v72 v73 v74 h75 → z67_131284745 X4' v59 v60 v61 v62 v63 v64 v65 v66 v67 v68 v69 v70 v71 v72 v73 v74 h75 := (branch_mono (get_mono fun a78 =>
 (chk_mono (get_mono fun y79 =>
 (branch_mono (fun H => ih _ _ _ _ _ _ _ _ _ _ _ _ _ _ _ _ _ H hX4)
 (get_mono fun a126 =>
 (chk_mono (get_mono fun y127 =>
 (get_mono fun a128 =>
 (chk_mono (get_mono fun y129 =>
 (get_mono fun a130 =>
 (chk_mono (get_mono fun y131 =>
 (get_mono fun a132 =>
 (chk_mono (get_mono fun y133 =>
 (get_mono fun a134 =>
 (chk_mono (get_mono fun y135 =>
 (branch_mono (get_mono fun a136 =>
 (chk_mono (get_mono fun h137 =>
 (get_mono fun a138 =>
 (chk_mono (get_mono fun h139 =>
 (fun H => meq67_33608895078 hV _ _ _ _ _ _ _ _ _ _ _ _ _ _ _ _ _ _ H
 (fun z140 z141 z142 z143 z144 z145 z146 z147 z148 z149 z150 z151 z152 z153 z154 z155 h156 =>
 (fun H => ih _ _ _ _ _ _ _ _ _ _ _ _ _ _ _ _ _ H hX4)))))))))
 (fun H => meq67_33608895078 hV _ _ _ _ _ _ _ _ _ _ _ _ _ _ _ _ _ _ H
 (fun z157 z158 z159 z160 z161 z162 z163 z164 z165 z166 z167 z168 z169 z170 z171 z172 h173 =>
 (fun H => ih _ _ _ _ _ _ _ _ _ _ _ _ _ _ _ _ _ H hX4)))))))))))))))))))))))
 (hX4 _ _ _ _ _ _ _ _ _ _ _ _ _))
    exact r67_131284745 X4' v59 v60 v61 v62 v63 v64 v65 v66 v67 v68 v69 v70 v71 v72 v73 v74 h75 (F H)
theorem mel67_1050278009 {fu : Nat} {V : EV} (hV : VOK wAll V) {X6 X6' : Sl → Sl → Sl → Int → Sl → Int → Sl → Sl → Sl → Int → Int → Int → Heap → Prop} : ∀ n v212 v213 v214 v215 v216 v217 v218 v219 v220 v221 v222 v223 v224 v225 v226 h227 (_ : el67_1050278009 fu V X6 n v212 v213 v214 v215 v216 v217 v218 v219 v220 v221 v222 v223 v224 v225 v226 h227) (hX6 : ∀ a0 a1 a2 a3 a4 a5 a6 a7 a8 a9 a10 a11 h, X6 a0 a1 a2 a3 a4 a5 a6 a7 a8 a9 a10 a11 h → X6' a0 a1 a2 a3 a4 a5 a6 a7 a8 a9 a10 a11 h), l67_1050278009 X6' v212 v213 v214 v215 v216 v217 v218 v219 v220 v221 v222 v223 v224 v225 v226 h227 := by
  intro n
  induction n with
  | zero => intro _ _ _ _ _ _ _ _ _ _ _ _ _ _ _ _ H; exact H.elim
  | succ n ih =>
    intro v212 v213 v214 v215 v216 v217 v218 v219 v220 v221 v222 v223 v224 v225 v226 h227 H hX6
    have F : eb67_1050278009 fu V X6 (el67_1050278009 fu V X6 n) v212 v213 v214 v215 v216 v217 v218 v219 v220 v221 v222 v223 v224 v225 v226 h227 → z67_1050278009 X6' v212 v213 v214 v215 v216 v217 v218 v219 v220 v221 v222 v223 v224 v225 v226 h227 := (branch_mono (get_mono fun a230 =>
 (chk_mono (get_mono fun y231 =>
 (branch_mono (get_mono fun a238 =>
 (chk_mono (get_mono fun y239 =>
 (get_mono fun a240 =>
 (chk_mono (get_mono fun y241 =>
 (get_mono fun a242 =>
 (chk_mono (get_mono fun h243 =>
 (get_mono fun a244 =>
 (chk_mono (get_mono fun y245 =>
 (get_mono fun a246 =>
 (chk_mono (get_mono fun h247 =>
 (fun H => ih _ _ _ _ _ _ _ _ _ _ _ _ _ _ _ _ H hX6))))))))))))))))
 (get_mono fun a248 =>
 (chk_mono (get_mono fun y249 =>
 (get_mono fun a250 =>
 (chk_mono (get_mono fun h251 =>
 (fun H => ih _ _ _ _ _ _ _ _ _ _ _ _ _ _ _ _ H hX6)))))))))))
 (hX6 _ _ _ _ _ _ _ _ _ _ _ _ _))
    exact r67_1050278009 X6' v212 v213 v214 v215 v216 v217 v218 v219 v220 v221 v222 v223 v224 v225 v226 h227 (F H)
theorem mel67_2051323 {fu : Nat} {V : EV} (hV : VOK wAll V) {X2 X2' : Sl → Sl → Sl → Int → Sl → Int → Sl → Int → Int → Int → Heap → Prop} : ∀ n v45 v46 v47 v48 v49 v50 v51 v52 v53 v54 v55 v56 v57 h58 (_ : el67_2051323 fu V X2 n v45 v46 v47 v48 v49 v50 v51 v52 v53 v54 v55 v56 v57 h58) (hX2 : ∀ a0 a1 a2 a3 a4 a5 a6 a7 a8 a9 h, X2 a0 a1 a2 a3 a4 a5 a6 a7 a8 a9 h → X2' a0 a1 a2 a3 a4 a5 a6 a7 a8 a9 h), l67_2051323 X2' v45 v46 v47 v48 v49 v50 v51 v52 v53 v54 v55 v56 v57 h58 := by
  intro n
  induction n with
  | zero => intro _ _ _ _ _ _ _ _ _ _ _ _ _ _ H; exact H.elim
  | succ n ih =>
    intro v45 v46 v47 v48 v49 v50 v51 v52 v53 v54 v55 v56 v57 h58 H hX2
    have F : eb67_2051323 fu V X2 (el67_2051323 fu V X2 n) v45 v46 v47 v48 v49 v50 v51 v52 v53 v54 v55 v56 v57 h58 → z67_2051323 X2' v45 v46 v47 v48 v49 v50 v51 v52 v53 v54 v55 v56 v57 h58 := (fun H => mel67_131284745 hV _ _ _ _ _ _ _ _ _ _ _ _ _ _ _ _ _ _ H
 (fun z187 z188 z189 z190 z191 z192 z193 z194 z195 z196 z197 z198 h199 =>
 (get_mono fun a202 =>
 (chk_mono (get_mono fun y203 =>
 (get_mono fun a208 =>
 (chk_mono (get_mono fun y209 =>
 (get_mono fun a210 =>
 (chk_mono (get_mono fun h211 =>
 (fun H => mel67_1050278009 hV _ _ _ _ _ _ _ _ _ _ _ _ _ _ _ _ _ H
 (fun z265 z266 z267 z268 z269 z270 z271 z272 z273 z274 z275 z276 h277 =>
 (get_mono fun a280 =>
 (chk_mono (get_mono fun h281 =>
 (get_mono fun a282 =>
 (chk_mono (get_mono fun y283 =>
 (branch_mono (hX2 _ _ _ _ _ _ _ _ _ _ _)
 (get_mono fun a284 =>
 (chk_mono (get_mono fun y285 =>
 (fun H => ih _ _ _ _ _ _ _ _ _ _ _ _ _ _ H hX2))))))))))))))))))))))))
    exact r67_2051323 X2' v45 v46 v47 v48 v49 v50 v51 v52 v53 v54 v55 v56 v57 h58 (F H)
theorem mel67_4102653 {fu : Nat} {V : EV} (hV : VOK wAll V) {X8 X8' : Sl → Sl → Sl → Int → Sl → Int → Int → Heap → Prop} : ∀ n v308 v309 v310 v311 v312 v313 v314 v315 v316 v317 h318 (_ : el67_4102653 fu V X8 n v308 v309 v310 v311 v312 v313 v314 v315 v316 v317 h318) (hX8 : ∀ a0 a1 a2 a3 a4 a5 a6 h, X8 a0 a1 a2 a3 a4 a5 a6 h → X8' a0 a1 a2 a3 a4 a5 a6 h), l67_4102653 X8' v308 v309 v310 v311 v312 v313 v314 v315 v316 v317 h318 := by
  intro n
  induction n with
  | zero => intro _ _ _ _ _ _ _ _ _ _ _ H; exact H.elim
  | succ n ih =>
    intro v308 v309 v310 v311 v312 v313 v314 v315 v316 v317 h318 H hX8
    have F : eb67_4102653 fu V X8 (el67_4102653 fu V X8 n) v308 v309 v310 v311 v312 v313 v314 v315 v316 v317 h318 → z67_4102653 X8' v308 v309 v310 v311 v312 v313 v314 v315 v316 v317 h318 := (branch_mono (get_mono fun a321 =>
 (chk_mono (get_mono fun y322 =>
 (branch_mono (get_mono fun a323 =>
 (chk_mono (get_mono fun y324 =>
 (get_mono fun a325 =>
 (chk_mono (get_mono fun y326 =>
 (get_mono fun a327 =>
 (chk_mono (get_mono fun h328 =>
 (get_mono fun a329 =>
 (chk_mono (get_mono fun y330 =>
 (fun H => ih _ _ _ _ _ _ _ _ _ _ _ H hX8)))))))))))))
 (get_mono fun a331 =>
 (chk_mono (get_mono fun h332 =>
 (get_mono fun a333 =>
 (chk_mono (get_mono fun y334 =>
 (fun H => ih _ _ _ _ _ _ _ _ _ _ _ H hX8)))))))))))
 (hX8 _ _ _ _ _ _ _ _))
    exact r67_4102653 X8' v308 v309 v310 v311 v312 v313 v314 v315 v316 v317 h318 (F H)
theorem mel67_249 {fu : Nat} {V : EV} (hV : VOK wAll V) {X0 X0' : Sl → Sl → Int → Sl → Heap → Prop} : ∀ n v11 v12 v13 v14 v15 v16 v17 h18 (_ : el67_249 fu V X0 n v11 v12 v13 v14 v15 v16 v17 h18) (hX0 : ∀ a0 a1 a2 a3 h, X0 a0 a1 a2 a3 h → X0' a0 a1 a2 a3 h), l67_249 X0' v11 v12 v13 v14 v15 v16 v17 h18 := by
  intro n
  induction n with
  | zero => intro _ _ _ _ _ _ _ _ H; exact H.elim
  | succ n ih =>
    intro v11 v12 v13 v14 v15 v16 v17 h18 H hX0
    have F : eb67_249 fu V X0 (el67_249 fu V X0 n) v11 v12 v13 v14 v15 v16 v17 h18 → z67_249 X0' v11 v12 v13 v14 v15 v16 v17 h18 := (branch_mono (get_mono fun a25 =>
 (chk_mono (get_mono fun y26 =>
 (fun H => me81 hV H fun r27 h28 =>
 (get_mono fun a29 =>
 (chk_mono (get_mono fun h30 =>
 (withH_mono fun h34 =>
 (fun H => me82 hV H fun r35 h36 =>
 (withH_mono fun h40 =>
 (fun H => me80 hV H fun r41 h42 =>
 (chk_mono (withH_mono fun h44 =>
 (fun H => mel67_2051323 hV _ _ _ _ _ _ _ _ _ _ _ _ _ _ _ H
 (fun z297 z298 z299 z300 z301 z302 z303 z304 z305 z306 h307 =>
 (fun H => mel67_4102653 hV _ _ _ _ _ _ _ _ _ _ _ _ H
 (fun z335 z336 z337 z338 z339 z340 z341 h342 =>
 (fun H => ih _ _ _ _ _ _ _ _ H hX0))))))))))))))))))
 (hX0 _ _ _ _ _))
    exact r67_249 X0' v11 v12 v13 v14 v15 v16 v17 h18 (F H)
theorem mel67_1017 {fu : Nat} {V : EV} (hV : VOK wAll V) {X10 X10' : Sl → Sl → Sl → Heap → Prop} : ∀ n v355 v356 v357 v358 v359 v360 h361 (_ : el67_1017 fu V X10 n v355 v356 v357 v358 v359 v360 h361) (hX10 : ∀ a0 a1 a2 h, X10 a0 a1 a2 h → X10' a0 a1 a2 h), l67_1017 X10' v355 v356 v357 v358 v359 v360 h361 := by
  intro n
  induction n with
  | zero => intro _ _ _ _ _ _ _ H; exact H.elim
  | succ n ih =>
    intro v355 v356 v357 v358 v359 v360 h361 H hX10
    have F : eb67_1017 fu V X10 (el67_1017 fu V X10 n) v355 v356 v357 v358 v359 v360 h361 → z67_1017 X10' v355 v356 v357 v358 v359 v360 h361 := (branch_mono (get_mono fun a362 =>
 (chk_mono (get_mono fun y363 =>
 (get_mono fun a364 =>
 (chk_mono (get_mono fun h365 =>
 (fun H => ih _ _ _ _ _ _ _ H hX10)))))))
 (hX10 _ _ _ _))
    exact r67_1017 X10' v355 v356 v357 v358 v359 v360 h361 (F H)
theorem me67 {fu : Nat} {V : EV} (hV : VOK wAll V) {p0 : Sl} {h : Heap} {K K' : Sl → Sl → Sl → Heap → Prop} (H : e67 fu V p0 h K) (hK : ∀ a0 a1 a2 h, K a0 a1 a2 h → K' a0 a1 a2 h) : t67 p0 h K' := by
  have F : e67 fu V p0 h K → z67 p0 h K' := (chk_mono (withH_mono fun h3 =>
 (chk_mono (withH_mono fun h4 =>
 (and_mono obj_pd (withH_mono fun h8 =>
 (fun H => me80 hV H fun r9 h10 =>
 (fun H => mel67_249 hV _ _ _ _ _ _ _ _ _ H
 (fun z348 z349 z350 z351 h352 =>
 (chk_mono (withH_mono fun h354 =>
 (fun H => mel67_1017 hV _ _ _ _ _ _ _ _ H
 (fun z366 z367 z368 h369 =>
 (hK _ _ _ _))))))))))))))
  exact r67 p0 h K' (F H)

theorem vc77 : FnsOK wAll (C77).fns := FnsOK.base wAll_ok
theorem mel77_57 {fu : Nat} {V : EV} (hV : VOK wAll V) {X0 X0' : Int → Heap → Prop} : ∀ n v1 v2 v3 v4 v5 h6 (_ : el77_57 fu V X0 n v1 v2 v3 v4 v5 h6) (hX0 : ∀ a0 h, X0 a0 h → X0' a0 h), l77_57 X0' v1 v2 v3 v4 v5 h6 := by
  intro n
  induction n with
  | zero => intro _ _ _ _ _ _ H; exact H.elim
  | succ n ih =>
    intro v1 v2 v3 v4 v5 h6 H hX0
    have F : eb77_57 fu V X0 (el77_57 fu V X0 n) v1 v2 v3 v4 v5 h6 → z77_57 X0' v1 v2 v3 v4 v5 h6 := (branch_mono (get_mono fun a9 =>
 (chk_mono (get_mono fun y10 =>
 (get_mono fun a11 =>
 (chk_mono (get_mono fun y12 =>
 (get_mono fun a13 =>
 (chk_mono (get_mono fun y14 =>
 (fun H => ih _ _ _ _ _ _ H hX0))))))))))
 (hX0 _ _))
    exact r77_57 X0' v1 v2 v3 v4 v5 h6 (F H)
theorem me77 {fu : Nat} {V : EV} (hV : VOK wAll V) {p0 : Sl} {p1 : Sl} {h : Heap} {K K' : Int → Heap → Prop} (H : e77 fu V p0 p1 h K) (hK : ∀ a0 h, K a0 h → K' a0 h) : t77 p0 p1 h K' := by
  have F : e77 fu V p0 p1 h K → z77 p0 p1 h K' := (fun H => mel77_57 hV _ _ _ _ _ _ _ H
 (fun z15 h16 =>
 (hK _ _)))
  exact r77 p0 p1 h K' (F H)

theorem vc64 : FnsOK wAll (C64).fns := (FnsOK.cons ((FnsOK.cons (FnsOK.base wAll_ok) (fun G e => nomatch (show (none : Option AFn) = some G from e)))) (fun G e => nomatch (show (none : Option AFn) = some G from e)))
theorem me64 {fu : Nat} {V : EV} (hV : VOK wAll V) {p0 : Sl} {h : Heap} {K K' : Int → Heap → Prop} (H : e64 fu V p0 h K) (hK : ∀ a0 h, K a0 h → K' a0 h) : t64 p0 h K' := by
  have F : e64 fu V p0 h K → z64 p0 h K' := (branch_mono (hK _ _)
 (fun H => me67 hV H fun r1 r2 r3 h4 =>
 (fun H => me77 hV H fun r5 h6 =>
 (hK _ _))))
  exact r64 p0 h K' (F H)

theorem vc79 : FnsOK wAll (C79).fns := FnsOK.base wAll_ok
theorem me79 {fu : Nat} {V : EV} (hV : VOK wAll V) {p0 : Sl} {h : Heap} {K K' : Sl → Heap → Prop} (H : e79 fu V p0 h K) (hK : ∀ a0 h, K a0 h → K' a0 h) : t79 p0 h K' := by
  have F : e79 fu V p0 h K → z79 p0 h K' := (branch_mono (hK _ _)
 (withH_mono fun h1 =>
 (optK_mono (hK _ _)
 fun a2 =>
 (get_mono fun y3 =>
 (get_mono fun r4 =>
 (hK _ _))))))
  exact r79 p0 h K' (F H)

theorem vc78 : FnsOK wAll (C78).fns := FnsOK.base wAll_ok
theorem me78 {fu : Nat} {V : EV} (hV : VOK wAll V) {p0 : Sl} {p1 : Int} {p2 : Int} {h : Heap} {K K' : Sl → Heap → Prop} (H : e78 fu V p0 p1 p2 h K) (hK : ∀ a0 h, K a0 h → K' a0 h) : t78 p0 p1 p2 h K' := by
  have F : e78 fu V p0 p1 p2 h K → z78 p0 p1 p2 h K' := (chk_mono (branch_mono (hK _ _)
 (chk_mono (chk_mono (optK_mono (chk_mono (optK_mono (hK _ _)
 fun a5 =>
 (get_mono fun h6 =>
 (hK _ _))))
 fun a4 =>
 (get_mono fun y7 =>
 (get_mono fun r8 =>
 (chk_mono (optK_mono (hK _ _)
 fun a9 =>
 (get_mono fun h10 =>
 (hK _ _)))))))))))
  exact r78 p0 p1 p2 h K' (F H)

theorem vc65 : FnsOK wAll (C65).fns := (FnsOK.cons ((FnsOK.cons (FnsOK.base wAll_ok) (fun G e => nomatch (show (none : Option AFn) = some G from e)))) (fun G e => nomatch (show (none : Option AFn) = some G from e)))
theorem mel65_57 {fu : Nat} {V : EV} (hV : VOK wAll V) {X0 X0' : Sl → Heap → Prop} : ∀ n v1 v2 v3 v4 v5 h6 (_ : el65_57 fu V X0 n v1 v2 v3 v4 v5 h6) (hX0 : ∀ a0 h, X0 a0 h → X0' a0 h), l65_57 X0' v1 v2 v3 v4 v5 h6 := by
  intro n
  induction n with
  | zero => intro _ _ _ _ _ _ H; exact H.elim
  | succ n ih =>
    intro v1 v2 v3 v4 v5 h6 H hX0
    have F : eb65_57 fu V X0 (el65_57 fu V X0 n) v1 v2 v3 v4 v5 h6 → z65_57 X0' v1 v2 v3 v4 v5 h6 := (branch_mono (get_mono fun a9 =>
 (chk_mono (get_mono fun y10 =>
 (fun H => me79 hV H fun r11 h12 =>
 (fun H => me78 hV H fun r13 h14 =>
 (withH_mono fun h15 =>
 (get_mono fun y16 =>
 (get_mono fun r17 =>
 (fun H => ih _ _ _ _ _ _ H hX0)))))))))
 (hX0 _ _))
    exact r65_57 X0' v1 v2 v3 v4 v5 h6 (F H)
theorem me65 {fu : Nat} {V : EV} (hV : VOK wAll V) {p0 : Sl} {p1 : Int} {h : Heap} {K K' : Sl → Heap → Prop} (H : e65 fu V p0 p1 h K) (hK : ∀ a0 h, K a0 h → K' a0 h) : t65 p0 p1 h K' := by
  have F : e65 fu V p0 p1 h K → z65 p0 p1 h K' := (chk_mono (fun H => mel65_57 hV _ _ _ _ _ _ _ H
 (fun z18 h19 =>
 (hK _ _))))
  exact r65 p0 p1 h K' (F H)

theorem vc66 : FnsOK wAll (C66).fns := FnsOK.base wAll_ok
theorem me66 {fu : Nat} {V : EV} (hV : VOK wAll V) {p0 : Sl} {p1 : Int} {p2 : Int} {h : Heap} {K K' : Sl → Heap → Prop} (H : e66 fu V p0 p1 p2 h K) (hK : ∀ a0 h, K a0 h → K' a0 h) : t66 p0 p1 p2 h K' := by
  have F : e66 fu V p0 p1 p2 h K → z66 p0 p1 p2 h K' := (chk_mono (branch_mono (hK _ _)
 (chk_mono (chk_mono (optK_mono (chk_mono (optK_mono (hK _ _)
 fun a5 =>
 (get_mono fun h6 =>
 (hK _ _))))
 fun a4 =>
 (get_mono fun y7 =>
 (get_mono fun r8 =>
 (chk_mono (optK_mono (hK _ _)
 fun a9 =>
 (get_mono fun h10 =>
 (hK _ _)))))))))))
  exact r66 p0 p1 p2 h K' (F H)

theorem vc44 : FnsOK wAll (C44).fns := (FnsOK.cons ((FnsOK.cons ((FnsOK.cons ((FnsOK.cons (FnsOK.base wAll_ok) (fun G e => nomatch (show (none : Option AFn) = some G from e)))) (fun G e => nomatch (show (none : Option AFn) = some G from e)))) (fun G e => nomatch (show (none : Option AFn) = some G from e)))) (fun G e => nomatch (show (none : Option AFn) = some G from e)))
theorem mel44_505 {fu : Nat} {V : EV} (hV : VOK wAll V) {X0 X0' : Sl → Int → Sl → Int → Sl → Heap → Prop} : ∀ n v11 v12 v13 v14 v15 v16 v17 h18 (_ : el44_505 fu V X0 n v11 v12 v13 v14 v15 v16 v17 h18) (hX0 : ∀ a0 a1 a2 a3 a4 h, X0 a0 a1 a2 a3 a4 h → X0' a0 a1 a2 a3 a4 h), l44_505 X0' v11 v12 v13 v14 v15 v16 v17 h18 := by
  intro n
  induction n with
  | zero => intro _ _ _ _ _ _ _ _ H; exact H.elim
  | succ n ih =>
    intro v11 v12 v13 v14 v15 v16 v17 h18 H hX0
    have F : eb44_505 fu V X0 (el44_505 fu V X0 n) v11 v12 v13 v14 v15 v16 v17 h18 → z44_505 X0' v11 v12 v13 v14 v15 v16 v17 h18 := (branch_mono (withH_mono fun h19 =>
 (get_mono fun y20 =>
 (get_mono fun r21 =>
 (fun H => ih _ _ _ _ _ _ _ _ H hX0))))
 (hX0 _ _ _ _ _ _))
    exact r44_505 X0' v11 v12 v13 v14 v15 v16 v17 h18 (F H)
theorem mel44_16265 {fu : Nat} {V : EV} (hV : VOK wAll V) {X4 X4' : Sl → Int → Sl → Int → Sl → Heap → Prop} : ∀ n v40 v41 v42 v43 v44 v45 v46 h47 (_ : el44_16265 fu V X4 n v40 v41 v42 v43 v44 v45 v46 h47) (hX4 : ∀ a0 a1 a2 a3 a4 h, X4 a0 a1 a2 a3 a4 h → X4' a0 a1 a2 a3 a4 h), l44_16265 X4' v40 v41 v42 v43 v44 v45 v46 h47 := by
  intro n
  induction n with
  | zero => intro _ _ _ _ _ _ _ _ H; exact H.elim
  | succ n ih =>
    intro v40 v41 v42 v43 v44 v45 v46 h47 H hX4
    have F : eb44_16265 fu V X4 (el44_16265 fu V X4 n) v40 v41 v42 v43 v44 v45 v46 h47 → z44_16265 X4' v40 v41 v42 v43 v44 v45 v46 h47 := (branch_mono (fun H => me65 hV H fun r50 h51 =>
 (get_mono fun a60 =>
 (chk_mono (get_mono fun y61 =>
 (get_mono fun a62 =>
 (chk_mono (get_mono fun y63 =>
 (fun H => me64 hV H fun r64 h65 =>
 (and_mono (get_pd fun y66 =>
 val_pd) (and_mono (get_pd fun y67 =>
 val_pd) (branch_mono (get_mono fun a73 =>
 (chk_mono (get_mono fun y74 =>
 (withH_mono fun h75 =>
 (get_mono fun y76 =>
 (get_mono fun r77 =>
 (get_mono fun a82 =>
 (chk_mono (get_mono fun y83 =>
 (get_mono fun a84 =>
 (chk_mono (get_mono fun y85 =>
 (fun H => me66 hV H fun r86 h87 =>
 (hX4 _ _ _ _ _ _))))))))))))))
 (fun H => ih _ _ _ _ _ _ _ _ H hX4))))))))))))
 (hX4 _ _ _ _ _ _))
    exact r44_16265 X4' v40 v41 v42 v43 v44 v45 v46 h47 (F H)
theorem mel44_507 {fu : Nat} {V : EV} (hV : VOK wAll V) {X2 X2' : Sl → Int → Heap → Prop} : ∀ n v34 v35 v36 v37 v38 h39 (_ : el44_507 fu V X2 n v34 v35 v36 v37 v38 h39) (hX2 : ∀ a0 a1 h, X2 a0 a1 h → X2' a0 a1 h), l44_507 X2' v34 v35 v36 v37 v38 h39 := by
  intro n
  induction n with
  | zero => intro _ _ _ _ _ _ H; exact H.elim
  | succ n ih =>
    intro v34 v35 v36 v37 v38 h39 H hX2
    have F : eb44_507 fu V X2 (el44_507 fu V X2 n) v34 v35 v36 v37 v38 h39 → z44_507 X2' v34 v35 v36 v37 v38 h39 := (branch_mono (fun H => mel44_16265 hV _ _ _ _ _ _ _ _ _ H
 (fun z88 z89 z90 z91 z92 h93 =>
 (fun H => ih _ _ _ _ _ _ H hX2)))
 (hX2 _ _ _))
    exact r44_507 X2' v34 v35 v36 v37 v38 h39 (F H)
theorem me44 {fu : Nat} {V : EV} (hV : VOK wAll V) {p0 : Sl} {h : Heap} {K K' : Sl → Int → Int → Heap → Prop} (H : e44 fu V p0 h K) (hK : ∀ a0 a1 a2 h, K a0 a1 a2 h → K' a0 a1 a2 h) : t44 p0 h K' := by
  have F : e44 fu V p0 h K → z44 p0 h K' := (fun H => me63 hV H fun r5 h6 =>
 (branch_mono (hK _ _ _ _)
 (fun H => me64 hV H fun r9 h10 =>
 (fun H => mel44_505 hV _ _ _ _ _ _ _ _ _ H
 (fun z28 z29 z30 z31 z32 h33 =>
 (fun H => mel44_507 hV _ _ _ _ _ _ _ H
 (fun z94 z95 h96 =>
 (hK _ _ _ _))))))))
  exact r44 p0 h K' (F H)

theorem vc55 : FnsOK wAll (C55).fns := FnsOK.base wAll_ok
theorem mel55_121 {fu : Nat} {V : EV} (hV : VOK wAll V) {XR XR' : Option Addr → Int → Heap → Prop} {X0 X0' : Int → Option Addr → Heap → Prop} : ∀ n v3 v4 v5 v6 v7 h8 (_ : el55_121 fu V XR X0 n v3 v4 v5 v6 v7 h8) (hXR : ∀ a0 a1 h, XR a0 a1 h → XR' a0 a1 h) (hX0 : ∀ a0 a1 h, X0 a0 a1 h → X0' a0 a1 h), l55_121 XR' X0' v3 v4 v5 v6 v7 h8 := by
  intro n
  induction n with
  | zero => intro _ _ _ _ _ _ H; exact H.elim
  | succ n ih =>
    intro v3 v4 v5 v6 v7 h8 H hXR hX0
    have F : eb55_121 fu V XR X0 (el55_121 fu V XR X0 n) v3 v4 v5 v6 v7 h8 → z55_121 XR' X0' v3 v4 v5 v6 v7 h8 := (branch_mono (get_mono fun a14 =>
 (chk_mono (get_mono fun y15 =>
 (get_mono fun y16 =>
 (withH_mono fun h17 =>
 (get_mono fun h18 =>
 (get_mono fun y23 =>
 (get_mono fun y24 =>
 (branch_mono (hXR _ _ _)
 (get_mono fun y25 =>
 (get_mono fun y26 =>
 (branch_mono (hXR _ _ _)
 (get_mono fun y27 =>
 (get_mono fun y28 =>
 (get_mono fun a29 =>
 (chk_mono (chk_mono (get_mono fun h30 =>
 (fun H => ih _ _ _ _ _ _ H hXR hX0)))))))))))))))))))
 (hX0 _ _ _))
    exact r55_121 XR' X0' v3 v4 v5 v6 v7 h8 (F H)
theorem mel55_16410213 {fu : Nat} {V : EV} (hV : VOK wAll V) {X6 X6' : Int → Option Addr → Int → Int → Int → Int → Int → Heap → Prop} : ∀ n v56 v57 v58 v59 v60 v61 v62 v63 v64 v65 h66 (_ : el55_16410213 fu V X6 n v56 v57 v58 v59 v60 v61 v62 v63 v64 v65 h66) (hX6 : ∀ a0 a1 a2 a3 a4 a5 a6 h, X6 a0 a1 a2 a3 a4 a5 a6 h → X6' a0 a1 a2 a3 a4 a5 a6 h), l55_16410213 X6' v56 v57 v58 v59 v60 v61 v62 v63 v64 v65 h66 := by
  intro n
  induction n with
  | zero => intro _ _ _ _ _ _ _ _ _ _ _ H; exact H.elim
  | succ n ih =>
    intro v56 v57 v58 v59 v60 v61 v62 v63 v64 v65 h66 H hX6
    have F : eb55_16410213 fu V X6 (el55_16410213 fu V X6 n) v56 v57 v58 v59 v60 v61 v62 v63 v64 v65 h66 → z55_16410213 X6' v56 v57 v58 v59 v60 v61 v62 v63 v64 v65 h66 := (branch_mono (get_mono fun a67 =>
 (chk_mono (chk_mono (get_mono fun y68 =>
 (branch_mono (get_mono fun a69 =>
 (chk_mono (chk_mono (get_mono fun h70 =>
 (fun H => ih _ _ _ _ _ _ _ _ _ _ _ H hX6)))))
 (get_mono fun a71 =>
 (chk_mono (chk_mono (get_mono fun y72 =>
 (branch_mono (get_mono fun a73 =>
 (chk_mono (chk_mono (get_mono fun y74 =>
 (get_mono fun a75 =>
 (chk_mono (chk_mono (get_mono fun h76 =>
 (fun H => ih _ _ _ _ _ _ _ _ _ _ _ H hX6)))))))))
 (get_mono fun a77 =>
 (chk_mono (chk_mono (get_mono fun h78 =>
 (fun H => ih _ _ _ _ _ _ _ _ _ _ _ H hX6)))))))))))))))
 (hX6 _ _ _ _ _ _ _ _))
    exact r55_16410213 X6' v56 v57 v58 v59 v60 v61 v62 v63 v64 v65 h66 (F H)
theorem mel55_64101 {fu : Nat} {V : EV} (hV : VOK wAll V) {X4 X4' : Int → Option Addr → Int → Int → Heap → Prop} : ∀ n v48 v49 v50 v51 v52 v53 v54 h55 (_ : el55_64101 fu V X4 n v48 v49 v50 v51 v52 v53 v54 h55) (hX4 : ∀ a0 a1 a2 a3 h, X4 a0 a1 a2 a3 h → X4' a0 a1 a2 a3 h), l55_64101 X4' v48 v49 v50 v51 v52 v53 v54 h55 := by
  intro n
  induction n with
  | zero => intro _ _ _ _ _ _ _ _ H; exact H.elim
  | succ n ih =>
    intro v48 v49 v50 v51 v52 v53 v54 h55 H hX4
    have F : eb55_64101 fu V X4 (el55_64101 fu V X4 n) v48 v49 v50 v51 v52 v53 v54 h55 → z55_64101 X4' v48 v49 v50 v51 v52 v53 v54 h55 := (branch_mono (fun H => mel55_16410213 hV _ _ _ _ _ _ _ _ _ _ _ _ H
 (fun z79 z80 z81 z82 z83 z84 z85 h86 =>
 (fun H => ih _ _ _ _ _ _ _ _ H hX4)))
 (hX4 _ _ _ _ _))
    exact r55_64101 X4' v48 v49 v50 v51 v52 v53 v54 h55 (F H)
theorem mel55_249 {fu : Nat} {V : EV} (hV : VOK wAll V) {X2 X2' : Int → Option Addr → Heap → Prop} : ∀ n v43 v44 v45 v46 h47 (_ : el55_249 fu V X2 n v43 v44 v45 v46 h47) (hX2 : ∀ a0 a1 h, X2 a0 a1 h → X2' a0 a1 h), l55_249 X2' v43 v44 v45 v46 h47 := by
  intro n
  induction n with
  | zero => intro _ _ _ _ _ H; exact H.elim
  | succ n ih =>
    intro v43 v44 v45 v46 h47 H hX2
    have F : eb55_249 fu V X2 (el55_249 fu V X2 n) v43 v44 v45 v46 h47 → z55_249 X2' v43 v44 v45 v46 h47 := (branch_mono (fun H => mel55_64101 hV _ _ _ _ _ _ _ _ _ H
 (fun z87 z88 z89 z90 h91 =>
 (fun H => ih _ _ _ _ _ H hX2)))
 (hX2 _ _ _))
    exact r55_249 X2' v43 v44 v45 v46 h47 (F H)
theorem mel55_505 {fu : Nat} {V : EV} (hV : VOK wAll V) {XR XR' : Option Addr → Int → Heap → Prop} {X8 X8' : Option Addr → Heap → Prop} : ∀ n v98 v99 v100 h101 (_ : el55_505 fu V XR X8 n v98 v99 v100 h101) (hXR : ∀ a0 a1 h, XR a0 a1 h → XR' a0 a1 h) (hX8 : ∀ a0 h, X8 a0 h → X8' a0 h), l55_505 XR' X8' v98 v99 v100 h101 := by
  intro n
  induction n with
  | zero => intro _ _ _ _ H; exact H.elim
  | succ n ih =>
    intro v98 v99 v100 h101 H hXR hX8
    have F : eb55_505 fu V XR X8 (el55_505 fu V XR X8 n) v98 v99 v100 h101 → z55_505 XR' X8' v98 v99 v100 h101 := (branch_mono (get_mono fun a102 =>
 (chk_mono (chk_mono (get_mono fun y103 =>
 (branch_mono (hXR _ _ _)
 (fun H => ih _ _ _ _ H hXR hX8))))))
 (hX8 _ _))
    exact r55_505 XR' X8' v98 v99 v100 h101 (F H)
theorem me55 {fu : Nat} {V : EV} (hV : VOK wAll V) {p0 : Int} {p1 : Sl} {h : Heap} {K K' : Option Addr → Int → Heap → Prop} (H : e55 fu V p0 p1 h K) (hK : ∀ a0 a1 h, K a0 a1 h → K' a0 a1 h) : t55 p0 p1 h K' := by
  have F : e55 fu V p0 p1 h K → z55 p0 p1 h K' := (branch_mono (hK _ _ _)
 (branch_mono (hK _ _ _)
 (branch_mono (hK _ _ _)
 (withH_mono fun h2 =>
 (fun H => mel55_121 hV _ _ _ _ _ _ _ H
 (fun z37 z38 h39 =>
 (hK _ _ _))
 (fun z40 z41 h42 =>
 (fun H => mel55_249 hV _ _ _ _ _ _ H
 (fun z95 z96 h97 =>
 (fun H => mel55_505 hV _ _ _ _ _ H
 (fun z104 z105 h106 =>
 (hK _ _ _))
 (fun z107 h108 =>
 (hK _ _ _)))))))))))
  exact r55 p0 p1 h K' (F H)

theorem vc90 (β : Nat) (Y : Int → Int → Heap → (Heap → Prop) → Prop) : FnsOK wAll (C90 β Y).fns := FnsOK.base wAll_ok
theorem mel90_1637 {fu : Nat} {V : EV} (hV : VOK wAll V) {β : Nat} {Y Y' : Int → Int → Heap → (Heap → Prop) → Prop} {XR XR' : Heap → Prop} {X2 X2' : Nat → Option Addr → Int → Int → Heap → Prop} : ∀ n v22 v23 v24 v25 v26 v27 v28 h29 (_ : el90_1637 fu V β Y XR X2 n v22 v23 v24 v25 v26 v27 v28 h29) (hY : ∀ a0 a1 h (k k' : Heap → Prop), (∀ h, k h → k' h) → Y a0 a1 h k → Y' a0 a1 h k') (hXR : ∀ h, XR h → XR' h) (hX2 : ∀ a0 a1 a2 a3 h, X2 a0 a1 a2 a3 h → X2' a0 a1 a2 a3 h), l90_1637 β Y' XR' X2' v22 v23 v24 v25 v26 v27 v28 h29 := by
  intro n
  induction n with
  | zero => intro _ _ _ _ _ _ _ _ H; exact H.elim
  | succ n ih =>
    intro v22 v23 v24 v25 v26 v27 v28 h29 H hY hXR hX2
    have F : eb90_1637 fu V β Y XR X2 (el90_1637 fu V β Y XR X2 n) v22 v23 v24 v25 v26 v27 v28 h29 → z90_1637 β Y' XR' X2' v22 v23 v24 v25 v26 v27 v28 h29 := (branch_mono (get_mono fun a30 =>
 (get_mono fun y31 =>
 (get_mono fun a32 =>
 (chk_mono (chk_mono (get_mono fun y33 =>
 (branch_mono (chk_mono (hY _ _ _ _ _ fun h34 =>
 (fun H => ih _ _ _ _ _ _ _ _ H hY hXR hX2)))
 (fun H => ih _ _ _ _ _ _ _ _ H hY hXR hX2))))))))
 (hX2 _ _ _ _ _))
    exact r90_1637 β Y' XR' X2' v22 v23 v24 v25 v26 v27 v28 h29 (F H)
theorem mel90_5 {fu : Nat} {V : EV} (hV : VOK wAll V) {β : Nat} {Y Y' : Int → Int → Heap → (Heap → Prop) → Prop} {XR XR' : Heap → Prop} {X0 X0' : Heap → Prop} : ∀ n v9 v10 v11 v12 h13 (_ : el90_5 fu V β Y XR X0 n v9 v10 v11 v12 h13) (hY : ∀ a0 a1 h (k k' : Heap → Prop), (∀ h, k h → k' h) → Y a0 a1 h k → Y' a0 a1 h k') (hXR : ∀ h, XR h → XR' h) (hX0 : ∀ h, X0 h → X0' h), l90_5 β Y' XR' X0' v9 v10 v11 v12 h13 := by
  intro n
  induction n with
  | zero => intro _ _ _ _ _ H; exact H.elim
  | succ n ih =>
    intro v9 v10 v11 v12 h13 H hY hXR hX0
    have F : eb90_5 fu V β Y XR X0 (el90_5 fu V β Y XR X0 n) v9 v10 v11 v12 h13 → z90_5 β Y' XR' X0' v9 v10 v11 v12 h13 := (branch_mono (get_mono fun a18 =>
 (get_mono fun y19 =>
 (get_mono fun a20 =>
 (get_mono fun y21 =>
 (fun H => mel90_1637 hV _ _ _ _ _ _ _ _ _ H hY
 (fun h35 =>
 (hXR _))
 (fun z36 z37 z38 z39 h40 =>
 (fun H => ih _ _ _ _ _ H hY hXR hX0)))))))
 (hX0 _))
    exact r90_5 β Y' XR' X0' v9 v10 v11 v12 h13 (F H)
theorem mei90 {fu : Nat} {V : EV} (hV : VOK wAll V) {β : Nat} {Y Y' : Int → Int → Heap → (Heap → Prop) → Prop} {p0 : Option Addr} {h : Heap} {K K' : Heap → Prop} (H : ei90 fu V β p0 h Y K) (hY : ∀ a0 a1 h (k k' : Heap → Prop), (∀ h, k h → k' h) → Y a0 a1 h k → Y' a0 a1 h k') (hK : ∀ h, K h → K' h) : ti90 β p0 h Y' K' := by
  have F : ei90 fu V β p0 h Y K → z90 β p0 h Y' K' := (get_mono fun a5 =>
 (get_mono fun y6 =>
 (get_mono fun a7 =>
 (get_mono fun y8 =>
 (fun H => mel90_5 hV _ _ _ _ _ _ H hY
 (fun h41 =>
 (hK _))
 (fun h42 =>
 (hK _)))))))
  exact r90 β p0 h Y' K' (F H)

theorem vc72 : FnsOK wAll (C72).fns := FnsOK.base wAll_ok
theorem me72 {fu : Nat} {V : EV} (hV : VOK wAll V) {p0 : Option Addr} {h : Heap} {K K' : (Option Addr × Unit) → Heap → Prop} (H : e72 fu V p0 h K) (hK : ∀ a0 h, K a0 h → K' a0 h) : t72 p0 h K' := by
  have F : e72 fu V p0 h K → z72 p0 h K' := (withH_mono fun h1 =>
 (hK _ _))
  exact r72 p0 h K' (F H)

theorem vc73 : FnsOK wAll (C73).fns := FnsOK.base wAll_ok
theorem mel73_25 {fu : Nat} {V : EV} (hV : VOK wAll V) {XR XR' : Bool → Heap → Prop} {X0 X0' : Heap → Prop} : ∀ n v5 v6 v7 v8 v9 v10 v11 v12 h13 (_ : el73_25 fu V XR X0 n v5 v6 v7 v8 v9 v10 v11 v12 h13) (hXR : ∀ a0 h, XR a0 h → XR' a0 h) (hX0 : ∀ h, X0 h → X0' h), l73_25 XR' X0' v5 v6 v7 v8 v9 v10 v11 v12 h13 := by
  intro n
  induction n with
  | zero => intro _ _ _ _ _ _ _ _ _ H; exact H.elim
  | succ n ih =>
    intro v5 v6 v7 v8 v9 v10 v11 v12 h13 H hXR hX0
    have F : eb73_25 fu V XR X0 (el73_25 fu V XR X0 n) v5 v6 v7 v8 v9 v10 v11 v12 h13 → z73_25 XR' X0' v5 v6 v7 v8 v9 v10 v11 v12 h13 := (branch_mono (get_mono fun a16 =>
 (chk_mono (get_mono fun y17 =>
 (get_mono fun a20 =>
 (chk_mono (get_mono fun y21 =>
 (branch_mono (fun H => ih _ _ _ _ _ _ _ _ _ H hXR hX0)
 (get_mono fun a24 =>
 (chk_mono (get_mono fun h25 =>
 (get_mono fun a35 =>
 (chk_mono (get_mono fun y36 =>
 (branch_mono (get_mono fun a37 =>
 (chk_mono (get_mono fun h38 =>
 (get_mono fun a39 =>
 (chk_mono (get_mono fun h40 =>
 (hXR _ _)))))))
 (get_mono fun a41 =>
 (get_mono fun y42 =>
 (get_mono fun a43 =>
 (chk_mono (get_mono fun y44 =>
 (hV.call vc73 (retK_mono fun r45 h46 =>
 (boolK_mono fun b48 => (branch_mono (get_mono fun a49 =>
 (chk_mono (get_mono fun h50 =>
 (get_mono fun a51 =>
 (chk_mono (get_mono fun h52 =>
 (hXR _ _)))))))
 (fun H => ih _ _ _ _ _ _ _ _ _ H hXR hX0))))))))))))))))))))))))
 (hX0 _))
    exact r73_25 XR' X0' v5 v6 v7 v8 v9 v10 v11 v12 h13 (F H)
theorem me73 {fu : Nat} {V : EV} (hV : VOK wAll V) {p0 : Int} {p1 : Option Addr} {p2 : Option Addr} {p3 : Option Addr} {p4 : Option Addr} {p5 : Option Addr} {h : Heap} {K K' : Bool → Heap → Prop} (H : e73 fu V p0 p1 p2 p3 p4 p5 h K) (hK : ∀ a0 h, K a0 h → K' a0 h) : t73 p0 p1 p2 p3 p4 p5 h K' := by
  have F : e73 fu V p0 p1 p2 p3 p4 p5 h K → z73 p0 p1 p2 p3 p4 p5 h K' := (get_mono fun a3 =>
 (chk_mono (get_mono fun y4 =>
 (fun H => mel73_25 hV _ _ _ _ _ _ _ _ _ _ H
 (fun z53 h54 =>
 (hK _ _))
 (fun h55 =>
 (hK _ _))))))
  exact r73 p0 p1 p2 p3 p4 p5 h K' (F H)

theorem vc56 : FnsOK wAll (C56).fns := (FnsOK.cons (FnsOK.base wAll_ok) (fun G e => nomatch (show (none : Option AFn) = some G from e)))
theorem mel56_121 {fu : Nat} {V : EV} (hV : VOK wAll V) {X2 X2' : Option Addr → Option Addr → Option Addr → Option Addr → Heap → Prop} : ∀ n v33 v34 v35 v36 v37 h38 (_ : el56_121 fu V X2 n v33 v34 v35 v36 v37 h38) (hX2 : ∀ a0 a1 a2 a3 h, X2 a0 a1 a2 a3 h → X2' a0 a1 a2 a3 h), l56_121 X2' v33 v34 v35 v36 v37 h38 := by
  intro n
  induction n with
  | zero => intro _ _ _ _ _ _ H; exact H.elim
  | succ n ih =>
    intro v33 v34 v35 v36 v37 h38 H hX2
    have F : eb56_121 fu V X2 (el56_121 fu V X2 n) v33 v34 v35 v36 v37 h38 → z56_121 X2' v33 v34 v35 v36 v37 h38 := (branch_mono (get_mono fun a39 =>
 (chk_mono (get_mono fun h40 =>
 (get_mono fun a41 =>
 (chk_mono (get_mono fun h42 =>
 (fun H => ih _ _ _ _ _ _ H hX2)))))))
 (hX2 _ _ _ _ _))
    exact r56_121 X2' v33 v34 v35 v36 v37 h38 (F H)
theorem mel56_249 {fu : Nat} {V : EV} (hV : VOK wAll V) {X4 X4' : Option Addr → Option Addr → Heap → Prop} : ∀ n v57 v58 v59 v60 v61 h62 (_ : el56_249 fu V X4 n v57 v58 v59 v60 v61 h62) (hX4 : ∀ a0 a1 h, X4 a0 a1 h → X4' a0 a1 h), l56_249 X4' v57 v58 v59 v60 v61 h62 := by
  intro n
  induction n with
  | zero => intro _ _ _ _ _ _ H; exact H.elim
  | succ n ih =>
    intro v57 v58 v59 v60 v61 h62 H hX4
    have F : eb56_249 fu V X4 (el56_249 fu V X4 n) v57 v58 v59 v60 v61 h62 → z56_249 X4' v57 v58 v59 v60 v61 h62 := (branch_mono (withH_mono fun h63 =>
 (withH_mono fun h64 =>
 (get_mono fun h65 =>
 (get_mono fun y66 =>
 (hV.call vc56 (retK_mono fun r67 h68 =>
 (fun H => ih _ _ _ _ _ _ H hX4)))))))
 (hX4 _ _ _))
    exact r56_249 X4' v57 v58 v59 v60 v61 h62 (F H)
theorem me56 {fu : Nat} {V : EV} (hV : VOK wAll V) {p0 : Option Addr} {h : Heap} {K K' : List Value → List Value → Heap → Prop} (H : e56 fu V p0 h K) (hK : ∀ a0 a1 h, K a0 a1 h → K' a0 a1 h) : t56 p0 h K' := by
  have F : e56 fu V p0 h K → z56 p0 h K' := (withH_mono fun h3 =>
 (withH_mono fun h4 =>
 (withH_mono fun h6 =>
 (fun H => me72 hV H fun r21 h22 =>
 (fun H => mei90 hV H (fun u23 u24 h25 k26 k26x hk26 =>
 (chk_mono (get_mono fun y28 =>
 (withH_mono fun h29 =>
 (get_mono fun y30 =>
 (get_mono fun r31 =>
 (chk_mono (get_mono fun h32 =>
 (hk26 _))))))))) fun h27 =>
 (fun H => mel56_121 hV _ _ _ _ _ _ _ H
 (fun z48 z49 z50 z51 h52 =>
 (get_mono fun a55 =>
 (get_mono fun y56 =>
 (fun H => mel56_249 hV _ _ _ _ _ _ _ H
 (fun z70 z71 h72 =>
 (get_mono fun a73 =>
 (get_mono fun y74 =>
 (get_mono fun a75 =>
 (get_mono fun y76 =>
 (get_mono fun a77 =>
 (chk_mono (get_mono fun h78 =>
 (and_mono (get_pd fun a79 =>
 (get_pd fun y80 =>
 val_pd)) (get_mono fun a81 =>
 (chk_mono (get_mono fun h82 =>
 (get_mono fun a83 =>
 (get_mono fun y84 =>
 (get_mono fun a85 =>
 (get_mono fun y86 =>
 (hK _ _ _)))))))))))))))))))))))))))
  exact r56 p0 h K' (F H)

theorem vc22 : FnsOK wAll (C22).fns := (FnsOK.cons ((FnsOK.cons (FnsOK.base wAll_ok) (fun G e => nomatch (show (none : Option AFn) = some G from e)))) (fun G e => nomatch (show (none : Option AFn) = some G from e)))
theorem mel22_1037113 {fu : Nat} {V : EV} (hV : VOK wAll V) {X2 X2' : Option Addr → Option Addr → Sl → Sl → Int → Int → Heap → Prop} : ∀ n v31 v32 v33 v34 v35 v36 v37 h38 (_ : el22_1037113 fu V X2 n v31 v32 v33 v34 v35 v36 v37 h38) (hX2 : ∀ a0 a1 a2 a3 a4 a5 h, X2 a0 a1 a2 a3 a4 a5 h → X2' a0 a1 a2 a3 a4 a5 h), l22_1037113 X2' v31 v32 v33 v34 v35 v36 v37 h38 := by
  intro n
  induction n with
  | zero => intro _ _ _ _ _ _ _ _ H; exact H.elim
  | succ n ih =>
    intro v31 v32 v33 v34 v35 v36 v37 h38 H hX2
    have F : eb22_1037113 fu V X2 (el22_1037113 fu V X2 n) v31 v32 v33 v34 v35 v36 v37 h38 → z22_1037113 X2' v31 v32 v33 v34 v35 v36 v37 h38 := (branch_mono (withH_mono fun h39 =>
 (get_mono fun y40 =>
 (get_mono fun r41 =>
 (get_mono fun a42 =>
 (chk_mono (get_mono fun y43 =>
 (fun H => ih _ _ _ _ _ _ _ _ H hX2)))))))
 (hX2 _ _ _ _ _ _ _))
    exact r22_1037113 X2' v31 v32 v33 v34 v35 v36 v37 h38 (F H)
theorem mel22_505 {fu : Nat} {V : EV} (hV : VOK wAll V) {X0 X0' : Sl → Heap → Prop} : ∀ n v21 v22 v23 v24 v25 h26 (_ : el22_505 fu V X0 n v21 v22 v23 v24 v25 h26) (hX0 : ∀ a0 h, X0 a0 h → X0' a0 h), l22_505 X0' v21 v22 v23 v24 v25 h26 := by
  intro n
  induction n with
  | zero => intro _ _ _ _ _ _ H; exact H.elim
  | succ n ih =>
    intro v21 v22 v23 v24 v25 h26 H hX0
    have F : eb22_505 fu V X0 (el22_505 fu V X0 n) v21 v22 v23 v24 v25 h26 → z22_505 X0' v21 v22 v23 v24 v25 h26 := (branch_mono (get_mono fun a29 =>
 (chk_mono (get_mono fun y30 =>
 (branch_mono (fun H => ih _ _ _ _ _ _ H hX0)
 (fun H => mel22_1037113 hV _ _ _ _ _ _ _ _ _ H
 (fun z44 z45 z46 z47 z48 z49 h50 =>
 (withH_mono fun h51 =>
 (get_mono fun y52 =>
 (get_mono fun r53 =>
 (fun H => ih _ _ _ _ _ _ H hX0))))))))))
 (hX0 _ _))
    exact r22_505 X0' v21 v22 v23 v24 v25 h26 (F H)
theorem me22 {fu : Nat} {V : EV} (hV : VOK wAll V) {p0 : Int} {p1 : Sl} {h : Heap} {K K' : Sl → Int → Heap → Prop} (H : e22 fu V p0 p1 h K) (hK : ∀ a0 a1 h, K a0 a1 h → K' a0 a1 h) : t22 p0 p1 h K' := by
  have F : e22 fu V p0 p1 h K → z22 p0 p1 h K' := (fun H => me55 hV H fun r4 r5 h6 =>
 (branch_mono (hK _ _ _)
 (fun H => me56 hV H fun r14 r15 h16 =>
 (withH_mono fun h17 =>
 (withH_mono fun h18 =>
 (chk_mono (get_mono fun h19 =>
 (chk_mono (get_mono fun h20 =>
 (fun H => mel22_505 hV _ _ _ _ _ _ _ H
 (fun z54 h55 =>
 (hK _ _ _))))))))))))
  exact r22 p0 p1 h K' (F H)

theorem vc15 : FnsOK wAll (C15).fns := (FnsOK.cons ((FnsOK.cons ((FnsOK.cons (FnsOK.base wAll_ok) (fun G e => nomatch (show (none : Option AFn) = some G from e)))) (fun G e => nomatch (show (none : Option AFn) = some G from e)))) (fun G e => nomatch (show (none : Option AFn) = some G from e)))
theorem me15 {fu : Nat} {V : EV} (hV : VOK wAll V) {h : Heap} {K K' : Bool → Heap → Prop} (H : e15 fu V  h K) (hK : ∀ a0 h, K a0 h → K' a0 h) : t15  h K' := by
  have F : e15 fu V  h K → z15  h K' := (withH_mono fun h7 =>
 (fun H => me16 hV H fun r8 r9 h10 =>
 (withH_mono fun h11 =>
 (get_mono fun h12 =>
 (withH_mono fun h20 =>
 (withH_mono fun h21 =>
 (withH_mono fun h22 =>
 (fun H => me44 hV H fun r23 r24 r25 h26 =>
 (withH_mono fun h31 =>
 (fun H => me22 hV H fun r32 r33 h34 =>
 (branch_mono (branch_mono (branch_mono (get_mono fun y35 =>
 (branch_mono (get_mono fun y36 =>
 (branch_mono (branch_mono (get_mono fun a37 =>
 (chk_mono (get_mono fun y38 =>
 (branch_mono (branch_mono (hK _ _)
 (hK _ _))
 (hK _ _)))))
 (hK _ _))
 (hK _ _)))
 (hK _ _)))
 (hK _ _))
 (hK _ _))
 (hK _ _))))))))))))
  exact r15  h K' (F H)

theorem eV_ok (fu : Nat) : ∀ n, VOK wAll (eV fu n)
 | 0 => VOK.zero wAll
 | n + 1 => have ih := eV_ok fu n; EvOK.vok (EvOK.cons (EvOK.cons (EvOK.cons (EvOK.cons (EvOK.cons (EvOK.none wAll) (show wAll 73 = some w73 from rfl) fun _ _ _ _ hK => argsC_rel (sp := [iP .i64, pP, pP, pP, pP, pP]) (fun x0 x1 x2 x3 x4 x5 H => me73 ih H fun r0 h => hK _ _)) (show wAll 75 = some w75 from rfl) fun _ _ _ _ hK => argsC_rel (sp := [sP, pP]) (fun x0 x1 H => me75 ih H fun r0 h => hK _ _)) (show wAll 76 = some w76 from rfl) fun _ _ _ _ hK => argsC_rel (sp := [iP .i64]) (fun x0 H => me76 ih H fun r0 h => hK _ _)) (show wAll 88 = some w88 from rfl) fun _ _ _ _ hK => argsC_rel (sp := [pP, iP .i64]) (fun x0 x1 H => me88 ih H fun h => hK _ _)) (show wAll 99 = some w99 from rfl) fun _ _ _ _ hK => argsC_rel (sp := [iP .i64, iP .i64, pP, pP, pP]) (fun x0 x1 x2 x3 x4 H => me99 ih H fun h => hK _ _))
end Go.Proofs.Ytalmoilcehhjkaa
