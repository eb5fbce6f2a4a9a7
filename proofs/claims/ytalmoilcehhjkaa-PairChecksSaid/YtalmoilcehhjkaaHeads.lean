/- PRINTED BY A PROGRAM OF OURS: the seat's functions as typed transformers, by what the model says of them. -/
import Derived.Test.YtalmoilcehhjkaaProg
import Derived.Test.YtalmoilcehhjkaaAmEq
set_option linter.unusedVariables false
set_option linter.unusedSimpArgs false
namespace Go.Proofs.Ytalmoilcehhjkaa
open Go hiding Expr
open Go.AM hiding get
theorem mixOK : Try.prog.follows .mixedOrders = true := by kernel_rfl
theorem eqT75 : EqT Try.prog 75 (.array 2 3) 3 [.i64, .i64] := ⟨by kernel_rfl, by kernel_rfl, rfl, by kernel_rfl, by kernel_rfl, ⟨[(3, 0), (3, 1)], by kernel_rfl, by decide, fun p h => ⟨.i64, by
  rcases List.mem_cons.1 h with rfl | h
  · kernel_rfl
  · rcases List.mem_cons.1 h with rfl | h
    · kernel_rfl
    · cases h⟩⟩⟩
theorem eqT95 : EqT Try.prog 95 (.struct (Try.prog.fieldsOf 95)) 3 [.i64, .i64] := ⟨by kernel_rfl, by kernel_rfl, ⟨by kernel_rfl, by kernel_rfl⟩, by kernel_rfl, by kernel_rfl, ⟨[(3, 0), (3, 1)], by kernel_rfl, by decide, fun p h => ⟨.i64, by
  rcases List.mem_cons.1 h with rfl | h
  · kernel_rfl
  · rcases List.mem_cons.1 h with rfl | h
    · kernel_rfl
    · cases h⟩⟩⟩
theorem eqOK : EqOK Try.prog [95, 75] := eqOK_of fun t h => by
  rcases List.mem_cons.1 (List.elem_iff.1 h) with rfl | h
  · exact ⟨_, _, _, eqT95⟩
  · rcases List.mem_cons.1 h with rfl | h
    · exact ⟨_, _, _, eqT75⟩
    · cases h
/-- minikin/minikinlaw04.PairBerge -/
noncomputable def t3 : (Int × Sl × Unit) → Int → Heap → (Bool → Heap → Prop) → Prop := tC Try.prog 3 [aggP [iP .i64, sP], iP .i64] [bP]
noncomputable def w3 : AFn := wC [aggP [iP .i64, sP], iP .i64] [bP] t3

/-- minikin/minikinlaw04.PairGallai -/
noncomputable def t4 : (Int × Sl × Unit) → Heap → (Bool → Heap → Prop) → Prop := tC Try.prog 4 [aggP [iP .i64, sP]] [bP]
noncomputable def w4 : AFn := wC [aggP [iP .i64, sP]] [bP] t4

/-- minikin/minikinlaw04.PairDilworth -/
noncomputable def t5 : Int → Sl → Heap → (Bool → Heap → Prop) → Prop := tC Try.prog 5 [iP .i64, sP] [bP]
noncomputable def w5 : AFn := wC [iP .i64, sP] [bP] t5

/-- minikin/minikinlaw04.PairOrders -/
noncomputable def t6 : Int → Sl → Heap → (Bool → Heap → Prop) → Prop := tC Try.prog 6 [iP .i64, sP] [bP]
noncomputable def w6 : AFn := wC [iP .i64, sP] [bP] t6

/-- minikin/minikinlaw04.PairChecks -/
noncomputable def t7 : (Int × Sl × Unit) → Heap → (Bool → Heap → Prop) → Prop := tC Try.prog 7 [aggP [iP .i64, sP]] [bP]
noncomputable def w7 : AFn := wC [aggP [iP .i64, sP]] [bP] t7

/-- minikin/minikinlaw04.PairMatches -/
noncomputable def t8 : (Int × Sl × Unit) → Heap → (Bool → Heap → Prop) → Prop := tC Try.prog 8 [aggP [iP .i64, sP]] [bP]
noncomputable def w8 : AFn := wC [aggP [iP .i64, sP]] [bP] t8

/-- minikin/minikintop.TopAssigns -/
noncomputable def t9 : Int → Sl → Heap → (Bool → Heap → Prop) → Prop := tC Try.prog 9 [iP .i64, sP] [bP]
noncomputable def w9 : AFn := wC [iP .i64, sP] [bP] t9

/-- minikin/minikinlaw04.tame -/
noncomputable def t10 : (Int × Sl × Unit) → Int → Int → Heap → ((Int × Sl × Unit) → Heap → Prop) → Prop := tC Try.prog 10 [aggP [iP .i64, sP], iP .i64, iP .i64] [aggP [iP .i64, sP]]
noncomputable def w10 : AFn := wC [aggP [iP .i64, sP], iP .i64, iP .i64] [aggP [iP .i64, sP]] t10

/-- minikin/minikinlaw04.give -/
noncomputable def t11 : (Int × Sl × Unit) → Heap → ((Int × Sl × Unit) → Heap → Prop) → Prop := tC Try.prog 11 [aggP [iP .i64, sP]] [aggP [iP .i64, sP]]
noncomputable def w11 : AFn := wC [aggP [iP .i64, sP]] [aggP [iP .i64, sP]] t11

/-- minikin/pair.Match -/
noncomputable def t12 : (Int × Sl × Unit) → Heap → (Sl → Int → Heap → Prop) → Prop := tC Try.prog 12 [aggP [iP .i64, sP]] [sP, iP .i64]
noncomputable def w12 : AFn := wC [aggP [iP .i64, sP]] [sP, iP .i64] t12

/-- minikin/pair.IsPairing -/
noncomputable def t13 : (Int × Sl × Unit) → Sl → Heap → (Int → Bool → Heap → Prop) → Prop := tC Try.prog 13 [aggP [iP .i64, sP], sP] [iP .i64, bP]
noncomputable def w13 : AFn := wC [aggP [iP .i64, sP], sP] [iP .i64, bP] t13

/-- minikin/pair.IsBarrier -/
noncomputable def t14 : (Int × Sl × Unit) → Sl → Int → Heap → (Bool → Heap → Prop) → Prop := tC Try.prog 14 [aggP [iP .i64, sP], sP, iP .i64] [bP]
noncomputable def w14 : AFn := wC [aggP [iP .i64, sP], sP, iP .i64] [bP] t14

/-- minikin/minikinlaw04.awake -/
noncomputable def t15 : Heap → (Bool → Heap → Prop) → Prop := tC Try.prog 15 [] [bP]
noncomputable def w15 : AFn := wC [] [bP] t15

/-- minikin/pair.Divide -/
noncomputable def t16 : (Int × Sl × Unit) → Heap → ((Sl × Sl × Sl × Unit) → Int → Heap → Prop) → Prop := tC Try.prog 16 [aggP [iP .i64, sP]] [aggP [sP, sP, sP], iP .i64]
noncomputable def w16 : AFn := wC [aggP [iP .i64, sP]] [aggP [sP, sP, sP], iP .i64] t16

/-- minikin/minikinref04.Has -/
noncomputable def t17 : Sl → Int → Heap → (Bool → Heap → Prop) → Prop := tC Try.prog 17 [sP, iP .i64] [bP]
noncomputable def w17 : AFn := wC [sP, iP .i64] [bP] t17

/-- minikin/minikinref04.Falls -/
noncomputable def t18 : (Int × Sl × Unit) → Sl → Heap → (Sl → Heap → Prop) → Prop := tC Try.prog 18 [aggP [iP .i64, sP], sP] [sP]
noncomputable def w18 : AFn := wC [aggP [iP .i64, sP], sP] [sP] t18

/-- minikin/minikinlaw04.whole -/
noncomputable def t19 : (Int × Sl × Unit) → Sl → Heap → (Bool → Heap → Prop) → Prop := tC Try.prog 19 [aggP [iP .i64, sP], sP] [bP]
noncomputable def w19 : AFn := wC [aggP [iP .i64, sP], sP] [bP] t19

/-- minikin/minikinlaw04.order -/
noncomputable def t20 : Int → Sl → Int → Heap → (Int → Sl → Heap → Prop) → Prop := tC Try.prog 20 [iP .i64, sP, iP .i64] [iP .i64, sP]
noncomputable def w20 : AFn := wC [iP .i64, sP, iP .i64] [iP .i64, sP] t20

/-- minikin/minikinref04.Order -/
noncomputable def t21 : Int → Sl → Heap → (Sl → Bool → Heap → Prop) → Prop := tC Try.prog 21 [iP .i64, sP] [sP, bP]
noncomputable def w21 : AFn := wC [iP .i64, sP] [sP, bP] t21

/-- minikin/pair.Chains -/
noncomputable def t22 : Int → Sl → Heap → (Sl → Int → Heap → Prop) → Prop := tC Try.prog 22 [iP .i64, sP] [sP, iP .i64]
noncomputable def w22 : AFn := wC [iP .i64, sP] [sP, iP .i64] t22

/-- minikin/pair.Antichain -/
noncomputable def t23 : Int → Sl → Heap → (Sl → Int → Heap → Prop) → Prop := tC Try.prog 23 [iP .i64, sP] [sP, iP .i64]
noncomputable def w23 : AFn := wC [iP .i64, sP] [sP, iP .i64] t23

/-- minikin/pair.Levels -/
noncomputable def t24 : Int → Sl → Heap → (Sl → Int → Heap → Prop) → Prop := tC Try.prog 24 [iP .i64, sP] [sP, iP .i64]
noncomputable def w24 : AFn := wC [iP .i64, sP] [sP, iP .i64] t24

/-- minikin/pair.Longest -/
noncomputable def t25 : Int → Sl → Heap → (Sl → Int → Heap → Prop) → Prop := tC Try.prog 25 [iP .i64, sP] [sP, iP .i64]
noncomputable def w25 : AFn := wC [iP .i64, sP] [sP, iP .i64] t25

/-- minikin/minikinref04.AreChains -/
noncomputable def t26 : Sl → Sl → Heap → (Bool → Heap → Prop) → Prop := tC Try.prog 26 [sP, sP] [bP]
noncomputable def w26 : AFn := wC [sP, sP] [bP] t26

/-- minikin/minikinref04.IsAntichain -/
noncomputable def t27 : Sl → Sl → Heap → (Bool → Heap → Prop) → Prop := tC Try.prog 27 [sP, sP] [bP]
noncomputable def w27 : AFn := wC [sP, sP] [bP] t27

/-- minikin/pair.CheckOrder -/
noncomputable def t28 : Int → Sl → Heap → (Int → Heap → Prop) → Prop := tC Try.prog 28 [iP .i64, sP] [iP .i64]
noncomputable def w28 : AFn := wC [iP .i64, sP] [iP .i64] t28

/-- minikin/minikinlaw04.same -/
noncomputable def t29 : Sl → Sl → Heap → (Bool → Heap → Prop) → Prop := tC Try.prog 29 [sP, sP] [bP]
noncomputable def w29 : AFn := wC [sP, sP] [bP] t29

/-- minikin/minikinref04.Levels -/
noncomputable def t30 : Sl → Heap → (Sl → Heap → Prop) → Prop := tC Try.prog 30 [sP] [sP]
noncomputable def w30 : AFn := wC [sP] [sP] t30

/-- minikin/minikinref04.Longest -/
noncomputable def t31 : Sl → Heap → (Sl → Heap → Prop) → Prop := tC Try.prog 31 [sP] [sP]
noncomputable def w31 : AFn := wC [sP] [sP] t31

/-- minikin/minikinref04.Check -/
noncomputable def t32 : (Int × Sl × Unit) → Heap → (Int → Heap → Prop) → Prop := tC Try.prog 32 [aggP [iP .i64, sP]] [iP .i64]
noncomputable def w32 : AFn := wC [aggP [iP .i64, sP]] [iP .i64] t32

/-- minikin/pair.Check -/
noncomputable def t33 : (Int × Sl × Unit) → Heap → (Int → Heap → Prop) → Prop := tC Try.prog 33 [aggP [iP .i64, sP]] [iP .i64]
noncomputable def w33 : AFn := wC [aggP [iP .i64, sP]] [iP .i64] t33

/-- minikin/pair.Barrier -/
noncomputable def t34 : (Int × Sl × Unit) → Heap → (Sl → Int → Heap → Prop) → Prop := tC Try.prog 34 [aggP [iP .i64, sP]] [sP, iP .i64]
noncomputable def w34 : AFn := wC [aggP [iP .i64, sP]] [sP, iP .i64] t34

/-- minikin/pair.Cover -/
noncomputable def t35 : (Int × Sl × Unit) → Heap → (Sl → Bool → Int → Heap → Prop) → Prop := tC Try.prog 35 [aggP [iP .i64, sP]] [sP, bP, iP .i64]
noncomputable def w35 : AFn := wC [aggP [iP .i64, sP]] [sP, bP, iP .i64] t35

/-- minikin/minikinref04.Pairs -/
noncomputable def t36 : (Int × Sl × Unit) → Sl → Heap → (Int → Heap → Prop) → Prop := tC Try.prog 36 [aggP [iP .i64, sP], sP] [iP .i64]
noncomputable def w36 : AFn := wC [aggP [iP .i64, sP], sP] [iP .i64] t36

/-- minikin/minikinref04.All -/
noncomputable def t37 : (Int × Sl × Unit) → Heap → (Sl → Heap → Prop) → Prop := tC Try.prog 37 [aggP [iP .i64, sP]] [sP]
noncomputable def w37 : AFn := wC [aggP [iP .i64, sP]] [sP] t37

/-- minikin/minikinref04.IsPairing -/
noncomputable def t38 : (Int × Sl × Unit) → Sl → Heap → (Int → Bool → Heap → Prop) → Prop := tC Try.prog 38 [aggP [iP .i64, sP], sP] [iP .i64, bP]
noncomputable def w38 : AFn := wC [aggP [iP .i64, sP], sP] [iP .i64, bP] t38

/-- minikin/minikinref04.IsBarrier -/
noncomputable def t39 : (Int × Sl × Unit) → Sl → Int → Heap → (Bool → Heap → Prop) → Prop := tC Try.prog 39 [aggP [iP .i64, sP], sP, iP .i64] [bP]
noncomputable def w39 : AFn := wC [aggP [iP .i64, sP], sP, iP .i64] [bP] t39

/-- minikin/minikinref04.Divide -/
noncomputable def t40 : (Int × Sl × Unit) → Heap → ((Sl × Sl × Sl × Unit) → Heap → Prop) → Prop := tC Try.prog 40 [aggP [iP .i64, sP]] [aggP [sP, sP, sP]]
noncomputable def w40 : AFn := wC [aggP [iP .i64, sP]] [aggP [sP, sP, sP]] t40

/-- minikin/minikinref04.Even -/
noncomputable def t41 : (Int × Sl × Unit) → Heap → (Bool → Heap → Prop) → Prop := tC Try.prog 41 [aggP [iP .i64, sP]] [bP]
noncomputable def w41 : AFn := wC [aggP [iP .i64, sP]] [bP] t41

/-- minikin/minikinref04.Covers -/
noncomputable def t42 : (Int × Sl × Unit) → Sl → Heap → (Bool → Heap → Prop) → Prop := tC Try.prog 42 [aggP [iP .i64, sP], sP] [bP]
noncomputable def w42 : AFn := wC [aggP [iP .i64, sP], sP] [bP] t42

/-- minikin/minikintop.small -/
noncomputable def t43 : Int → Int → Heap → (Int → Heap → Prop) → Prop := tC Try.prog 43 [iP .i64, iP .i64] [iP .i64]
noncomputable def w43 : AFn := wC [iP .i64, iP .i64] [iP .i64] t43

/-- minikin/pair.Assign -/
noncomputable def t44 : Sl → Heap → (Sl → Int → Int → Heap → Prop) → Prop := tC Try.prog 44 [sP] [sP, iP .i64, iP .i64]
noncomputable def w44 : AFn := wC [sP] [sP, iP .i64, iP .i64] t44

/-- minikin/pair.Prices -/
noncomputable def t45 : Sl → Heap → (Sl → Sl → Int → Heap → Prop) → Prop := tC Try.prog 45 [sP] [sP, sP, iP .i64]
noncomputable def w45 : AFn := wC [sP] [sP, sP, iP .i64] t45

/-- minikin/pair.ArePrices -/
noncomputable def t46 : Sl → Sl → Sl → Int → Heap → (Bool → Heap → Prop) → Prop := tC Try.prog 46 [sP, sP, sP, iP .i64] [bP]
noncomputable def w46 : AFn := wC [sP, sP, sP, iP .i64] [bP] t46

/-- minikin/minikintop.four -/
noncomputable def t47 : Heap → (Bool → Heap → Prop) → Prop := tC Try.prog 47 [] [bP]
noncomputable def w47 : AFn := wC [] [bP] t47

/-- minikin/minikinref04.Joined -/
noncomputable def t48 : (Int × Sl × Unit) → Int → Int → Heap → (Bool → Heap → Prop) → Prop := tC Try.prog 48 [aggP [iP .i64, sP], iP .i64, iP .i64] [bP]
noncomputable def w48 : AFn := wC [aggP [iP .i64, sP], iP .i64, iP .i64] [bP] t48

/-- minikin/pair.newFinder -/
noncomputable def t49 : (Int × Sl × Unit) → Int → Heap → (Option Addr → Heap → Prop) → Prop := tC Try.prog 49 [aggP [iP .i64, sP], iP .i64] [pP]
noncomputable def w49 : AFn := wC [aggP [iP .i64, sP], iP .i64] [pP] t49

/-- (*minikin/pair.finder).run -/
noncomputable def t50 : Option Addr → Heap → (Int → Heap → Prop) → Prop := tC Try.prog 50 [pP] [iP .i64]
noncomputable def w50 : AFn := wC [pP] [iP .i64] t50

/-- slices.Clone[[]int,int] -/
noncomputable def t51 : Sl → Heap → (Sl → Heap → Prop) → Prop := tC Try.prog 51 [sP] [sP]
noncomputable def w51 : AFn := wC [sP] [sP] t51

/-- minikin/pair.rising -/
noncomputable def t52 : Sl → Int → Heap → (Bool → Heap → Prop) → Prop := tC Try.prog 52 [sP, iP .i64] [bP]
noncomputable def w52 : AFn := wC [sP, iP .i64] [bP] t52

/-- minikin/pair.odd -/
noncomputable def t53 : (Int × Sl × Unit) → Sl → Heap → (Int → Heap → Prop) → Prop := tC Try.prog 53 [aggP [iP .i64, sP], sP] [iP .i64]
noncomputable def w53 : AFn := wC [aggP [iP .i64, sP], sP] [iP .i64] t53

/-- minikin/pair.divide -/
noncomputable def t54 : (Int × Sl × Unit) → Heap → ((Sl × Sl × Sl × Unit) → Heap → Prop) → Prop := tC Try.prog 54 [aggP [iP .i64, sP]] [aggP [sP, sP, sP]]
noncomputable def w54 : AFn := wC [aggP [iP .i64, sP]] [aggP [sP, sP, sP]] t54

/-- minikin/pair.newOrder -/
noncomputable def t55 : Int → Sl → Heap → (Option Addr → Int → Heap → Prop) → Prop := tC Try.prog 55 [iP .i64, sP] [pP, iP .i64]
noncomputable def w55 : AFn := wC [iP .i64, sP] [pP, iP .i64] t55

/-- (*minikin/pair.order).chained -/
noncomputable def t56 : Option Addr → Heap → (List Value → List Value → Heap → Prop) → Prop := tC Try.prog 56 [pP] [lP, lP]
noncomputable def w56 : AFn := wC [pP] [lP, lP] t56

/-- minikin/pair.Antichain$1 -/
noncomputable def t57 : Int → Option Addr → Option Addr → Option Addr → Option Addr → Option Addr → Option Addr → Heap → (Heap → Prop) → Prop := tC Try.prog 57 [iP .i64, pP, pP, pP, pP, pP, pP] []
noncomputable def w57 : AFn := wC [iP .i64, pP, pP, pP, pP, pP, pP] [] t57

/-- (*minikin/pair.order).heights -/
noncomputable def t58 : Option Addr → Bool → Heap → (List Value → Heap → Prop) → Prop := tC Try.prog 58 [pP, bP] [lP]
noncomputable def w58 : AFn := wC [pP, bP] [lP] t58

/-- slices.Max[[]int,int] -/
noncomputable def t59 : Sl → Heap → (Int → Heap → Prop) → Prop := tC Try.prog 59 [sP] [iP .i64]
noncomputable def w59 : AFn := wC [sP] [iP .i64] t59

/-- minikin/pair.coloured -/
noncomputable def t60 : (Int × Sl × Unit) → Heap → (List Value → Bool → Heap → Prop) → Prop := tC Try.prog 60 [aggP [iP .i64, sP]] [lP, bP]
noncomputable def w60 : AFn := wC [aggP [iP .i64, sP]] [lP, bP] t60

/-- minikin/pair.Cover$1 -/
noncomputable def t61 : Int → Option Addr → Option Addr → Option Addr → Heap → (Heap → Prop) → Prop := tC Try.prog 61 [iP .i64, pP, pP, pP] []
noncomputable def w61 : AFn := wC [iP .i64, pP, pP, pP] [] t61

/-- minikin/minikinref04.Rising -/
noncomputable def t62 : (Int × Sl × Unit) → Sl → Heap → (Bool → Heap → Prop) → Prop := tC Try.prog 62 [aggP [iP .i64, sP], sP] [bP]
noncomputable def w62 : AFn := wC [aggP [iP .i64, sP], sP] [bP] t62

/-- minikin/pair.checkOffer -/
noncomputable def t63 : Sl → Heap → (Int → Heap → Prop) → Prop := tC Try.prog 63 [sP] [iP .i64]
noncomputable def w63 : AFn := wC [sP] [iP .i64] t63

/-- minikin/pair.most -/
noncomputable def t64 : Sl → Heap → (Int → Heap → Prop) → Prop := tC Try.prog 64 [sP] [iP .i64]
noncomputable def w64 : AFn := wC [sP] [iP .i64] t64

/-- minikin/pair.without -/
noncomputable def t65 : Sl → Int → Heap → (Sl → Heap → Prop) → Prop := tC Try.prog 65 [sP, iP .i64] [sP]
noncomputable def w65 : AFn := wC [sP, iP .i64] [sP] t65

/-- slices.Delete[[]int,int] -/
noncomputable def t66 : Sl → Int → Int → Heap → (Sl → Heap → Prop) → Prop := tC Try.prog 66 [sP, iP .i64, iP .i64] [sP]
noncomputable def w66 : AFn := wC [sP, iP .i64, iP .i64] [sP] t66

/-- minikin/pair.best -/
noncomputable def t67 : Sl → Heap → (Sl → Sl → Sl → Heap → Prop) → Prop := tC Try.prog 67 [sP] [sP, sP, sP]
noncomputable def w67 : AFn := wC [sP] [sP, sP, sP] t67

/-- minikin/pair.ArePrices$1 -/
noncomputable def t68 : Int → Heap → (Bool → Heap → Prop) → Prop := tC Try.prog 68 [iP .i64] [bP]
noncomputable def w68 : AFn := wC [iP .i64] [bP] t68

/-- slices.ContainsFunc[[]int64,int64] -/
noncomputable def t69 : Sl → Value → Heap → (Bool → Heap → Prop) → Prop := tC Try.prog 69 [sP, vP] [bP]
noncomputable def w69 : AFn := wC [sP, vP] [bP] t69

/-- minikin/flow.Most -/
noncomputable def t70 : (Int × Sl × Unit) → Int → Int → Heap → (Int → Sl → Int → Heap → Prop) → Prop := tC Try.prog 70 [aggP [iP .i64, sP], iP .i64, iP .i64] [iP .i64, sP, iP .i64]
noncomputable def w70 : AFn := wC [aggP [iP .i64, sP], iP .i64, iP .i64] [iP .i64, sP, iP .i64] t70

/-- (*minikin/pair.finder).widen -/
noncomputable def t71 : Option Addr → Int → Heap → (Bool → Heap → Prop) → Prop := tC Try.prog 71 [pP, iP .i64] [bP]
noncomputable def w71 : AFn := wC [pP, iP .i64] [bP] t71

/-- (*minikin/pair.order).pairs -/
noncomputable def t72 : Option Addr → Heap → ((Option Addr × Unit) → Heap → Prop) → Prop := tC Try.prog 72 [pP] [cP 90 [pP]]
noncomputable def w72 : AFn := wC [pP] [cP 90 [pP]] t72

/-- (*minikin/pair.order).chained$1 -/
noncomputable def t73 : Int → Option Addr → Option Addr → Option Addr → Option Addr → Option Addr → Heap → (Bool → Heap → Prop) → Prop := tC Try.prog 73 [iP .i64, pP, pP, pP, pP, pP] [bP]
noncomputable def w73 : AFn := wC [iP .i64, pP, pP, pP, pP, pP] [bP] t73

/-- slices.ContainsFunc[[][]int64,[]int64] -/
noncomputable def t74 : Sl → Value → Heap → (Bool → Heap → Prop) → Prop := tC Try.prog 74 [sP, vP] [bP]
noncomputable def w74 : AFn := wC [sP, vP] [bP] t74

/-- minikin/pair.checkOffer$1 -/
noncomputable def t75 : Sl → Option Addr → Heap → (Bool → Heap → Prop) → Prop := tC Try.prog 75 [sP, pP] [bP]
noncomputable def w75 : AFn := wC [sP, pP] [bP] t75

/-- minikin/pair.checkOffer$2 -/
noncomputable def t76 : Int → Heap → (Bool → Heap → Prop) → Prop := tC Try.prog 76 [iP .i64] [bP]
noncomputable def w76 : AFn := wC [iP .i64] [bP] t76

/-- minikin/pair.worth -/
noncomputable def t77 : Sl → Sl → Heap → (Int → Heap → Prop) → Prop := tC Try.prog 77 [sP, sP] [iP .i64]
noncomputable def w77 : AFn := wC [sP, sP] [iP .i64] t77

/-- slices.Delete[[]int64,int64] -/
noncomputable def t78 : Sl → Int → Int → Heap → (Sl → Heap → Prop) → Prop := tC Try.prog 78 [sP, iP .i64, iP .i64] [sP]
noncomputable def w78 : AFn := wC [sP, iP .i64, iP .i64] [sP] t78

/-- slices.Clone[[]int64,int64] -/
noncomputable def t79 : Sl → Heap → (Sl → Heap → Prop) → Prop := tC Try.prog 79 [sP] [sP]
noncomputable def w79 : AFn := wC [sP] [sP] t79

/-- slices.Repeat[[]int,int] -/
noncomputable def t80 : Sl → Int → Heap → (Sl → Heap → Prop) → Prop := tC Try.prog 80 [sP, iP .i64] [sP]
noncomputable def w80 : AFn := wC [sP, iP .i64] [sP] t80

/-- slices.Max[[]int64,int64] -/
noncomputable def t81 : Sl → Heap → (Int → Heap → Prop) → Prop := tC Try.prog 81 [sP] [iP .i64]
noncomputable def w81 : AFn := wC [sP] [iP .i64] t81

/-- slices.Repeat[[]int64,int64] -/
noncomputable def t82 : Sl → Int → Heap → (Sl → Heap → Prop) → Prop := tC Try.prog 82 [sP, iP .i64] [sP]
noncomputable def w82 : AFn := wC [sP, iP .i64] [sP] t82

/-- slices.IndexFunc[[]int64,int64] -/
noncomputable def t83 : Sl → Value → Heap → (Int → Heap → Prop) → Prop := tC Try.prog 83 [sP, vP] [iP .i64]
noncomputable def w83 : AFn := wC [sP, vP] [iP .i64] t83

/-- minikin/flow.Check -/
noncomputable def t84 : (Int × Sl × Unit) → Heap → (Int → Heap → Prop) → Prop := tC Try.prog 84 [aggP [iP .i64, sP]] [iP .i64]
noncomputable def w84 : AFn := wC [aggP [iP .i64, sP]] [iP .i64] t84

/-- minikin/flow.areEnds -/
noncomputable def t85 : Int → Int → Int → Heap → (Bool → Heap → Prop) → Prop := tC Try.prog 85 [iP .i64, iP .i64, iP .i64] [bP]
noncomputable def w85 : AFn := wC [iP .i64, iP .i64, iP .i64] [bP] t85

/-- minikin/flow.newWork -/
noncomputable def t86 : Value → Heap → (Option Addr → Heap → Prop) → Prop := tC Try.prog 86 [vP] [pP]
noncomputable def w86 : AFn := wC [vP] [pP] t86

/-- (*minikin/flow.work).push -/
noncomputable def t87 : Option Addr → Int → Int → Heap → (Int → Heap → Prop) → Prop := tC Try.prog 87 [pP, iP .i64, iP .i64] [iP .i64]
noncomputable def w87 : AFn := wC [pP, iP .i64, iP .i64] [iP .i64] t87

/-- (*minikin/pair.finder).turn -/
noncomputable def t88 : Option Addr → Int → Heap → (Heap → Prop) → Prop := tC Try.prog 88 [pP, iP .i64] []
noncomputable def w88 : AFn := wC [pP, iP .i64] [] t88

/-- (*minikin/pair.finder).shrink -/
noncomputable def t89 : Option Addr → Int → Int → Heap → (Heap → Prop) → Prop := tC Try.prog 89 [pP, iP .i64, iP .i64] []
noncomputable def w89 : AFn := wC [pP, iP .i64, iP .i64] [] t89

noncomputable def ti90 : Nat → Option Addr → Heap → (Int → Int → Heap → (Heap → Prop) → Prop) → (Heap → Prop) → Prop := tI Try.prog 90 [pP] [iP .i64, iP .i64]
noncomputable def wi90 : AIt := wI [pP] [iP .i64, iP .i64] ti90

/-- slices.IndexFunc[[][]int64,[]int64] -/
noncomputable def t91 : Sl → Value → Heap → (Int → Heap → Prop) → Prop := tC Try.prog 91 [sP, vP] [iP .i64]
noncomputable def w91 : AFn := wC [sP, vP] [iP .i64] t91

/-- math/bits.Mul -/
noncomputable def t92 : Int → Int → Heap → (Int → Int → Heap → Prop) → Prop := tC Try.prog 92 [iP .u64, iP .u64] [iP .u64, iP .u64]
noncomputable def w92 : AFn := wC [iP .u64, iP .u64] [iP .u64, iP .u64] t92

/-- slices.ContainsFunc[[]minikin/flow.Arc,minikin/flow.Arc] -/
noncomputable def t93 : Sl → Value → Heap → (Bool → Heap → Prop) → Prop := tC Try.prog 93 [sP, vP] [bP]
noncomputable def w93 : AFn := wC [sP, vP] [bP] t93

/-- minikin/flow.Check$1 -/
noncomputable def t94 : (Int × Int × Int × Unit) → Option Addr → Heap → (Bool → Heap → Prop) → Prop := tC Try.prog 94 [aggP [iP .i64, iP .i64, iP .i64], pP] [bP]
noncomputable def w94 : AFn := wC [aggP [iP .i64, iP .i64, iP .i64], pP] [bP] t94

/-- minikin/flow.isArc -/
noncomputable def t95 : Int → (Int × Int × Int × Unit) → Heap → (Bool → Heap → Prop) → Prop := tC Try.prog 95 [iP .i64, aggP [iP .i64, iP .i64, iP .i64]] [bP]
noncomputable def w95 : AFn := wC [iP .i64, aggP [iP .i64, iP .i64, iP .i64]] [bP] t95

/-- (*minikin/flow.work).levels -/
noncomputable def t96 : Option Addr → Int → Heap → (List Value → Heap → Prop) → Prop := tC Try.prog 96 [pP, iP .i64] [lP]
noncomputable def w96 : AFn := wC [pP, iP .i64] [lP] t96

/-- (*minikin/flow.work).push$1 -/
noncomputable def t97 : Int → Int → Option Addr → Option Addr → Option Addr → Option Addr → Option Addr → Heap → (Int → Heap → Prop) → Prop := tC Try.prog 97 [iP .i64, iP .i64, pP, pP, pP, pP, pP] [iP .i64]
noncomputable def w97 : AFn := wC [iP .i64, iP .i64, pP, pP, pP, pP, pP] [iP .i64] t97

/-- (*minikin/pair.finder).meet -/
noncomputable def t98 : Option Addr → Int → Int → Heap → (Int → Heap → Prop) → Prop := tC Try.prog 98 [pP, iP .i64, iP .i64] [iP .i64]
noncomputable def w98 : AFn := wC [pP, iP .i64, iP .i64] [iP .i64] t98

/-- (*minikin/pair.finder).shrink$1 -/
noncomputable def t99 : Int → Int → Option Addr → Option Addr → Option Addr → Heap → (Heap → Prop) → Prop := tC Try.prog 99 [iP .i64, iP .i64, pP, pP, pP] []
noncomputable def w99 : AFn := wC [iP .i64, iP .i64, pP, pP, pP] [] t99

/-- math/bits.Mul32 -/
noncomputable def t100 : Int → Int → Heap → (Int → Int → Heap → Prop) → Prop := tC Try.prog 100 [iP .u32, iP .u32] [iP .u32, iP .u32]
noncomputable def w100 : AFn := wC [iP .u32, iP .u32] [iP .u32, iP .u32] t100

/-- math/bits.Mul64 -/
noncomputable def t101 : Int → Int → Heap → (Int → Int → Heap → Prop) → Prop := tC Try.prog 101 [iP .u64, iP .u64] [iP .u64, iP .u64]
noncomputable def w101 : AFn := wC [iP .u64, iP .u64] [iP .u64, iP .u64] t101

/-- slices.IndexFunc[[]minikin/flow.Arc,minikin/flow.Arc] -/
noncomputable def t102 : Sl → Value → Heap → (Int → Heap → Prop) → Prop := tC Try.prog 102 [sP, vP] [iP .i64]
noncomputable def w102 : AFn := wC [sP, vP] [iP .i64] t102

end Go.Proofs.Ytalmoilcehhjkaa
