/-
  THE FUNCTIONS OF THE SEAT as the abstract machine reads them (printed by a program of ours), and that they are the program's ('ok': FuncOK, by the kernel).
  No condition.
-/
import Derived.Test.YtmmfhcodhaemiaaNtSim
import Derived.Test.YtmmfhcodhaemiaaChecked
namespace Go.Nt.Ty
open Go Go.Nt

/-- notary/notarylaw15.TyperSettles -/
def F3 : IFunc := ⟨.pure, .seq (.ops [g0 (.boxL 3 6 (some (.t 0)) []), g0 (.boxL 5 6 (some (.t 2)) []), g0 (.mv 6 (.c (.bool false)))])
  (.seq (.seq (.ops [g0 (.load 15 (.t 3) (some 6) (some 3) false), g0 (.call (some 16) 5 [(.t 15)]), g0 (.mv 17 (.t 16)), g1 17 false (.load 18 (.t 5) (some 6) (some 5) false), g1 17 false (.call (some 19) 5 [(.t 18)]), g0 (.pick 20 (.t 17) (.c (.bool true)) (.t 19)), g0 (.mv 21 (.t 20)), g1 21 false (.mv 22 (.t 1)), g1 21 false (.call (some 23) 6 [(.t 22)]), g0 (.pick 24 (.t 21) (.c (.bool true)) (.t 23))])
  (.cond (.t 24) (.seq (.ops [g0 (.call (some 25) 7 []), g0 (.mv 6 (.t 25))])
  (.ret))
  (.skip)))
  (.seq (.ops [g0 (.load 27 (.t 3) (some 6) (some 3) false), g0 (.mv 28 (.t 1)), g0 (.load 29 (.t 5) (some 6) (some 5) false), g0 (.call (some 30) 8 [(.t 27), (.t 28), (.t 29)]), g0 (.mv 26 (.t 30)), g0 (.ext 31 (.t 26) 0), g0 (.ext 32 (.t 26) 1), g0 (.ext 33 (.t 26) 2), g0 (.ext 34 (.t 26) 3), g0 (.boxL 7 6 none [(.int .i64 0), (.int .i64 0), (.str []), .nils, (.int .i64 0), (.int .i64 0)]), g0 (.boxL 8 6 none [(.int .i64 0), (.int .i64 0), (.str []), .nils, (.int .i64 0), (.int .i64 0)]), g0 (.store (.t 7) (.t 31) 6 (some 7)), g0 (.store (.t 8) (.t 32) 6 (some 8)), g0 (.mv 9 (.t 33)), g0 (.mv 10 (.t 34))])
  (.seq (.seq (.ops [g0 (.mv 35 (.t 10)), g0 (.bin 36 .neq (.t 35) (.c (.int .i64 0)))])
  (.cond (.t 36) (.seq (.ops [g0 (.call (some 37) 7 []), g0 (.mv 6 (.t 37))])
  (.ret))
  (.skip)))
  (.seq (.ops [g0 (.load 39 (.t 3) (some 6) (some 3) false), g0 (.mv 40 (.t 1)), g0 (.load 41 (.t 8) (some 6) (some 8) false), g0 (.call (some 42) 8 [(.t 39), (.t 40), (.t 41)]), g0 (.mv 38 (.t 42)), g0 (.ext 43 (.t 38) 0), g0 (.ext 44 (.t 38) 1), g0 (.ext 45 (.t 38) 2), g0 (.ext 46 (.t 38) 3), g0 (.boxL 11 6 none [(.int .i64 0), (.int .i64 0), (.str []), .nils, (.int .i64 0), (.int .i64 0)]), g0 (.boxL 12 6 none [(.int .i64 0), (.int .i64 0), (.str []), .nils, (.int .i64 0), (.int .i64 0)]), g0 (.store (.t 11) (.t 43) 6 (some 11)), g0 (.store (.t 12) (.t 44) 6 (some 12)), g0 (.mv 13 (.t 45)), g0 (.mv 14 (.t 46))])
  (.seq (.ops [g0 (.mv 47 (.t 14)), g0 (.bin 48 .eql (.t 47) (.c (.int .i64 0))), g0 (.mv 49 (.t 48)), g1 49 true (.mv 50 (.t 13)), g1 49 true (.bin 51 .eql (.t 50) (.c (.int .i64 0))), g0 (.pick 52 (.t 49) (.t 51) (.c (.bool false))), g0 (.mv 53 (.t 52)), g1 53 true (.load 54 (.t 7) (some 6) (some 7) false), g1 53 true (.load 55 (.t 11) (some 6) (some 11) false), g1 53 true (.call (some 56) 9 [(.t 54), (.t 55)]), g0 (.pick 57 (.t 53) (.t 56) (.c (.bool false))), g0 (.mv 58 (.t 57)), g1 58 true (.load 59 (.t 8) (some 6) (some 8) false), g1 58 true (.load 60 (.t 12) (some 6) (some 12) false), g1 58 true (.call (some 61) 9 [(.t 59), (.t 60)]), g0 (.pick 62 (.t 58) (.t 61) (.c (.bool false))), g0 (.mv 63 (.t 62)), g1 63 true (.call (some 64) 7 []), g0 (.pick 65 (.t 63) (.t 64) (.c (.bool false))), g0 (.mv 6 (.t 65))])
  (.ret)))))),
  [.t 6]⟩
/-- notary/notarylaw15.TyperLocals -/
def F4 : IFunc := ⟨.pure, .seq (.ops [g0 (.boxL 1 19 (some (.t 0)) []), g0 (.mv 2 (.c (.bool false)))])
  (.seq (.ops [g0 (.fldA 15 (.t 1) 0 (some 6)), g0 (.load 16 (.t 15) (some 6) (some 1) false), g0 (.fldA 17 (.t 1) 6 (some 6)), g0 (.load 18 (.t 17) (some 6) (some 1) false), g0 (.fldA 19 (.t 1) 12 none), g0 (.load 20 (.t 19) none (some 1) false), g0 (.fldA 21 (.t 1) 13 (some 6)), g0 (.load 22 (.t 21) (some 6) (some 1) false), g0 (.boxL 3 6 none [(.int .i64 0), (.int .i64 0), (.str []), .nils, (.int .i64 0), (.int .i64 0)]), g0 (.boxL 4 6 none [(.int .i64 0), (.int .i64 0), (.str []), .nils, (.int .i64 0), (.int .i64 0)]), g0 (.boxL 6 6 none [(.int .i64 0), (.int .i64 0), (.str []), .nils, (.int .i64 0), (.int .i64 0)]), g0 (.store (.t 3) (.t 16) 6 (some 3)), g0 (.store (.t 4) (.t 18) 6 (some 4)), g0 (.mv 5 (.t 20)), g0 (.store (.t 6) (.t 22) 6 (some 6))])
  (.seq (.seq (.ops [g0 (.load 23 (.t 3) (some 6) (some 3) false), g0 (.call (some 24) 5 [(.t 23)]), g0 (.mv 25 (.t 24)), g1 25 false (.load 26 (.t 6) (some 6) (some 6) false), g1 25 false (.call (some 27) 5 [(.t 26)]), g0 (.pick 28 (.t 25) (.c (.bool true)) (.t 27)), g0 (.mv 29 (.t 28)), g1 29 false (.mv 30 (.t 5)), g1 29 false (.call (some 31) 6 [(.t 30)]), g0 (.pick 32 (.t 29) (.c (.bool true)) (.t 31)), g0 (.mv 33 (.t 32)), g1 33 false (.load 34 (.t 4) (some 6) (some 4) false), g1 33 false (.call (some 35) 5 [(.t 34)]), g0 (.pick 36 (.t 33) (.c (.bool true)) (.t 35))])
  (.cond (.t 36) (.seq (.ops [g0 (.call (some 37) 7 []), g0 (.mv 2 (.t 37))])
  (.ret))
  (.skip)))
  (.seq (.ops [g0 (.load 39 (.t 3) (some 6) (some 3) false), g0 (.mv 40 (.t 5)), g0 (.load 41 (.t 6) (some 6) (some 6) false), g0 (.call (some 42) 8 [(.t 39), (.t 40), (.t 41)]), g0 (.mv 38 (.t 42)), g0 (.ext 43 (.t 38) 0), g0 (.ext 44 (.t 38) 1), g0 (.ext 45 (.t 38) 2), g0 (.ext 46 (.t 38) 3), g0 (.boxL 7 6 none [(.int .i64 0), (.int .i64 0), (.str []), .nils, (.int .i64 0), (.int .i64 0)]), g0 (.boxL 8 6 none [(.int .i64 0), (.int .i64 0), (.str []), .nils, (.int .i64 0), (.int .i64 0)]), g0 (.store (.t 7) (.t 43) 6 (some 7)), g0 (.store (.t 8) (.t 44) 6 (some 8)), g0 (.mv 9 (.t 45)), g0 (.mv 10 (.t 46))])
  (.seq (.seq (.ops [g0 (.mv 47 (.t 10)), g0 (.bin 48 .neq (.t 47) (.c (.int .i64 0)))])
  (.cond (.t 48) (.seq (.ops [g0 (.call (some 49) 7 []), g0 (.mv 2 (.t 49))])
  (.ret))
  (.skip)))
  (.seq (.ops [g0 (.load 51 (.t 3) (some 6) (some 3) false), g0 (.load 52 (.t 4) (some 6) (some 4) false), g0 (.bsl 53 6 true [(.t 52)]), g0 (.mv 54 (.t 5)), g0 (.app 55 (.t 53) (.t 54) 6), g0 (.load 56 (.t 6) (some 6) (some 6) false), g0 (.call (some 57) 8 [(.t 51), (.t 55), (.t 56)]), g0 (.mv 50 (.t 57)), g0 (.ext 58 (.t 50) 0), g0 (.ext 59 (.t 50) 1), g0 (.ext 60 (.t 50) 2), g0 (.ext 61 (.t 50) 3), g0 (.boxL 11 6 none [(.int .i64 0), (.int .i64 0), (.str []), .nils, (.int .i64 0), (.int .i64 0)]), g0 (.boxL 12 6 none [(.int .i64 0), (.int .i64 0), (.str []), .nils, (.int .i64 0), (.int .i64 0)]), g0 (.store (.t 11) (.t 58) 6 (some 11)), g0 (.store (.t 12) (.t 59) 6 (some 12)), g0 (.mv 13 (.t 60)), g0 (.mv 14 (.t 61))])
  (.seq (.ops [g0 (.mv 62 (.t 14)), g0 (.bin 63 .eql (.t 62) (.c (.int .i64 0))), g0 (.mv 64 (.t 63)), g1 64 true (.load 65 (.t 7) (some 6) (some 7) false), g1 64 true (.load 66 (.t 11) (some 6) (some 11) false), g1 64 true (.call (some 67) 9 [(.t 65), (.t 66)]), g0 (.pick 68 (.t 64) (.t 67) (.c (.bool false))), g0 (.mv 69 (.t 68)), g1 69 true (.load 70 (.t 8) (some 6) (some 8) false), g1 69 true (.load 71 (.t 12) (some 6) (some 12) false), g1 69 true (.call (some 72) 9 [(.t 70), (.t 71)]), g0 (.pick 73 (.t 69) (.t 72) (.c (.bool false))), g0 (.mv 74 (.t 73)), g1 74 true (.call (some 75) 7 []), g0 (.pick 76 (.t 74) (.t 75) (.c (.bool false))), g0 (.mv 2 (.t 76))])
  (.ret))))))),
  [.t 2]⟩
/-- notary/notaryref06.Large -/
def F5 : IFunc := ⟨.pure, .seq (.ops [g0 (.boxL 1 6 (some (.t 0)) []), g0 (.mv 2 (.c (.bool false)))])
  (.seq (.ops [g0 (.load 3 (.t 1) (some 6) (some 1) false), g0 (.call (some 4) 10 [(.t 3), (.c (.int .i64 400)), (.c (.int .i64 70))]), g0 (.bin 5 .lss (.t 4) (.c (.int .i64 0))), g0 (.mv 6 (.t 5)), g1 6 false (.load 7 (.t 1) (some 6) (some 1) false), g1 6 false (.call (some 8) 11 [(.t 7)]), g0 (.pick 9 (.t 6) (.c (.bool true)) (.t 8)), g0 (.mv 2 (.t 9))])
  (.ret)),
  [.t 2]⟩
def L6_0 : Ic := .seq (.seq (.ops [g0 (.mv 4 (.t 3)), g0 (.mv 5 (.t 0)), g0 (.len 6 .slice (.t 5) false), g0 (.bin 7 .lss (.t 4) (.t 6)), g0 (.mv 8 (.t 7)), g1 8 true (.mv 9 (.t 3)), g1 8 true (.bin 10 .lss (.t 9) (.c (.int .i64 40))), g0 (.pick 11 (.t 8) (.t 10) (.c (.bool false)))])
  (.cond (.t 11) (.skip)
  (.exit 0)))
  (.seq (.block 1 (.seq (.ops [g0 (.mv 14 (.t 0)), g0 (.mv 15 (.t 3)), g0 (.idxA 16 (.t 14) (.t 15) 6 (some 6) none), g0 (.load 17 (.t 16) (some 6) none false), g0 (.call (some 18) 5 [(.t 17)])])
  (.cond (.t 18) (.seq (.ops [g0 (.mv 2 (.c (.bool true)))])
  (.ret))
  (.skip))))
  (.ops [g0 (.mv 12 (.t 3)), g0 (.bin 13 .add (.t 12) (.c (.int .i64 1))), g0 (.mv 3 (.t 13))]))
/-- notary/notarylaw15.large -/
def F6 : IFunc := ⟨.pure, .seq (.ops [g0 (.mv 2 (.c (.bool false)))])
  (.seq (.seq (.ops [g0 (.mv 3 (.c (.int .i64 0)))])
  (.block 0 (.loop L6_0)))
  (.seq (.ops [g0 (.mv 19 (.t 0)), g0 (.len 20 .slice (.t 19) false), g0 (.bin 21 .gtr (.t 20) (.c (.int .i64 40))), g0 (.mv 2 (.t 21))])
  (.ret))),
  [.t 2]⟩
/-- notary/notarylaw15.awake -/
def F7 : IFunc := ⟨.pure, .seq (.ops [g0 (.mv 0 (.c (.bool false)))])
  (.seq (.ops [g0 (.build 6 [(.int .i64 0), (.int .i64 0), (.str []), .nils, (.int .i64 0), (.int .i64 0)] [(0, 1, (.c (.int .i64 36)))]), g0 (.build 7 [(.int .i64 0), (.int .i64 0), (.str []), .nils, (.int .i64 0), (.int .i64 0)] [(0, 1, (.c (.int .i64 2)))]), g0 (.bsl 8 6 true [(.t 7)]), g0 (.build 9 [(.int .i64 0), (.int .i64 0), (.str []), .nils, (.int .i64 0), (.int .i64 0)] [(0, 1, (.c (.int .i64 7)))]), g0 (.call (some 10) 8 [(.t 6), (.t 8), (.t 9)]), g0 (.mv 5 (.t 10)), g0 (.ext 11 (.t 5) 0), g0 (.ext 12 (.t 5) 1), g0 (.ext 13 (.t 5) 2), g0 (.ext 14 (.t 5) 3), g0 (.boxL 1 6 none [(.int .i64 0), (.int .i64 0), (.str []), .nils, (.int .i64 0), (.int .i64 0)]), g0 (.boxL 2 6 none [(.int .i64 0), (.int .i64 0), (.str []), .nils, (.int .i64 0), (.int .i64 0)]), g0 (.store (.t 1) (.t 11) 6 (some 1)), g0 (.store (.t 2) (.t 12) 6 (some 2)), g0 (.mv 3 (.t 13)), g0 (.mv 4 (.t 14))])
  (.seq (.ops [g0 (.mv 15 (.t 4)), g0 (.bin 16 .eql (.t 15) (.c (.int .i64 0))), g0 (.mv 17 (.t 16)), g1 17 true (.fldA 18 (.t 1) 0 none), g1 17 true (.load 19 (.t 18) none (some 1) false), g1 17 true (.bin 20 .eql (.t 19) (.c (.int .i64 2))), g0 (.pick 21 (.t 17) (.t 20) (.c (.bool false))), g0 (.mv 22 (.t 21)), g1 22 true (.fldA 23 (.t 2) 0 none), g1 22 true (.load 24 (.t 23) none (some 2) false), g1 22 true (.bin 25 .eql (.t 24) (.c (.int .i64 7))), g0 (.pick 26 (.t 22) (.t 25) (.c (.bool false))), g0 (.mv 0 (.t 26))])
  (.ret))),
  [.t 0]⟩
/-- notary/typer.Of -/
def F8 : IFunc := ⟨.pure, .seq (.ops [g0 (.boxL 3 6 (some (.t 0)) []), g0 (.boxL 5 6 (some (.t 2)) []), g0 (.boxL 6 6 none [(.int .i64 0), (.int .i64 0), (.str []), .nils, (.int .i64 0), (.int .i64 0)]), g0 (.boxL 7 6 none [(.int .i64 0), (.int .i64 0), (.str []), .nils, (.int .i64 0), (.int .i64 0)]), g0 (.mv 8 (.c (.int .i64 0))), g0 (.mv 9 (.c (.int .i64 0)))])
  (.seq (.ops [g0 (.load 13 (.t 3) (some 6) (some 3) false), g0 (.mv 14 (.t 1)), g0 (.build 15 [(.int .i64 0), (.int .i64 0), (.str []), .nils, (.int .i64 0), (.int .i64 0), .nils, (.int .i64 0), (.int .i64 0)] [(0, 6, (.t 13)), (6, 1, (.t 14))]), g0 (.boxH 16 (some 9) (.t 15)), g0 (.mv 10 (.t 16))])
  (.seq (.ops [g0 (.mv 18 (.t 10)), g0 (.load 19 (.t 5) (some 6) (some 5) false), g0 (.call (some 20) 12 [(.t 18), (.t 19)]), g0 (.mv 17 (.t 20)), g0 (.ext 21 (.t 17) 0), g0 (.ext 22 (.t 17) 1), g0 (.boxL 11 6 none [(.int .i64 0), (.int .i64 0), (.str []), .nils, (.int .i64 0), (.int .i64 0)]), g0 (.boxL 12 6 none [(.int .i64 0), (.int .i64 0), (.str []), .nils, (.int .i64 0), (.int .i64 0)]), g0 (.store (.t 11) (.t 21) 6 (some 11)), g0 (.store (.t 12) (.t 22) 6 (some 12))])
  (.seq (.seq (.ops [g0 (.mv 23 (.t 10)), g0 (.nilc (some 24) (.t 23)), g0 (.fldA 25 (.t 24) 8 none), g0 (.load 26 (.t 25) none none false), g0 (.bin 27 .neq (.t 26) (.c (.int .i64 0)))])
  (.cond (.t 27) (.seq (.ops [g0 (.build 28 [(.int .i64 0), (.int .i64 0), (.str []), .nils, (.int .i64 0), (.int .i64 0)] []), g0 (.build 29 [(.int .i64 0), (.int .i64 0), (.str []), .nils, (.int .i64 0), (.int .i64 0)] []), g0 (.mv 30 (.t 10)), g0 (.nilc (some 31) (.t 30)), g0 (.fldA 32 (.t 31) 7 none), g0 (.load 33 (.t 32) none none false), g0 (.mv 34 (.t 10)), g0 (.nilc (some 35) (.t 34)), g0 (.fldA 36 (.t 35) 8 none), g0 (.load 37 (.t 36) none none false), g0 (.store (.t 6) (.t 28) 6 (some 6)), g0 (.store (.t 7) (.t 29) 6 (some 7)), g0 (.mv 8 (.t 33)), g0 (.mv 9 (.t 37))])
  (.ret))
  (.skip)))
  (.seq (.ops [g0 (.load 38 (.t 11) (some 6) (some 11) false), g0 (.load 39 (.t 12) (some 6) (some 12) false), g0 (.store (.t 6) (.t 38) 6 (some 6)), g0 (.store (.t 7) (.t 39) 6 (some 7)), g0 (.mv 8 (.c (.int .i64 0))), g0 (.mv 9 (.c (.int .i64 0)))])
  (.ret))))),
  [.cell 6 (some 6) (some 6), .cell 7 (some 6) (some 7), .t 8, .t 9]⟩
def L9_0 : Ic := .seq (.seq (.ops [g0 (.mv 48 (.t 5)), g0 (.fldA 49 (.t 2) 3 none), g0 (.load 50 (.t 49) none (some 2) false), g0 (.len 51 .slice (.t 50) false), g0 (.bin 52 .lss (.t 48) (.t 51))])
  (.cond (.t 52) (.skip)
  (.exit 0)))
  (.seq (.block 1 (.seq (.ops [g0 (.fldA 55 (.t 2) 3 none), g0 (.load 56 (.t 55) none (some 2) false), g0 (.mv 57 (.t 5)), g0 (.idxA 58 (.t 56) (.t 57) 6 (some 6) none), g0 (.load 59 (.t 58) (some 6) none false), g0 (.fldA 60 (.t 3) 3 none), g0 (.load 61 (.t 60) none (some 3) false), g0 (.mv 62 (.t 5)), g0 (.idxA 63 (.t 61) (.t 62) 6 (some 6) none), g0 (.load 64 (.t 63) (some 6) none false), g0 (.call (some 65) 9 [(.t 59), (.t 64)]), g0 (.un 66 .not (.t 65))])
  (.cond (.t 66) (.seq (.ops [g0 (.mv 4 (.c (.bool false)))])
  (.ret))
  (.skip))))
  (.ops [g0 (.mv 53 (.t 5)), g0 (.bin 54 .add (.t 53) (.c (.int .i64 1))), g0 (.mv 5 (.t 54))]))
/-- notary/notaryref06.Placed -/
def F9 : IFunc := ⟨.pure, .seq (.ops [g0 (.boxL 2 6 (some (.t 0)) []), g0 (.boxL 3 6 (some (.t 1)) []), g0 (.mv 4 (.c (.bool false)))])
  (.seq (.seq (.ops [g0 (.fldA 6 (.t 2) 0 none), g0 (.load 7 (.t 6) none (some 2) false), g0 (.fldA 8 (.t 3) 0 none), g0 (.load 9 (.t 8) none (some 3) false), g0 (.bin 10 .neq (.t 7) (.t 9)), g0 (.mv 11 (.t 10)), g1 11 false (.fldA 12 (.t 2) 1 none), g1 11 false (.load 13 (.t 12) none (some 2) false), g1 11 false (.fldA 14 (.t 3) 1 none), g1 11 false (.load 15 (.t 14) none (some 3) false), g1 11 false (.bin 16 .neq (.t 13) (.t 15)), g0 (.pick 17 (.t 11) (.c (.bool true)) (.t 16)), g0 (.mv 18 (.t 17)), g1 18 false (.fldA 19 (.t 2) 2 none), g1 18 false (.load 20 (.t 19) none (some 2) false), g1 18 false (.fldA 21 (.t 3) 2 none), g1 18 false (.load 22 (.t 21) none (some 3) false), g1 18 false (.bin 23 .neq (.t 20) (.t 22)), g0 (.pick 24 (.t 18) (.c (.bool true)) (.t 23)), g0 (.mv 25 (.t 24)), g1 25 false (.fldA 26 (.t 2) 4 none), g1 25 false (.load 27 (.t 26) none (some 2) false), g1 25 false (.fldA 28 (.t 3) 4 none), g1 25 false (.load 29 (.t 28) none (some 3) false), g1 25 false (.bin 30 .neq (.t 27) (.t 29)), g0 (.pick 31 (.t 25) (.c (.bool true)) (.t 30)), g0 (.mv 32 (.t 31)), g1 32 false (.fldA 33 (.t 2) 5 none), g1 32 false (.load 34 (.t 33) none (some 2) false), g1 32 false (.fldA 35 (.t 3) 5 none), g1 32 false (.load 36 (.t 35) none (some 3) false), g1 32 false (.bin 37 .neq (.t 34) (.t 36)), g0 (.pick 38 (.t 32) (.c (.bool true)) (.t 37)), g0 (.mv 39 (.t 38)), g1 39 false (.fldA 40 (.t 2) 3 none), g1 39 false (.load 41 (.t 40) none (some 2) false), g1 39 false (.len 42 .slice (.t 41) false), g1 39 false (.fldA 43 (.t 3) 3 none), g1 39 false (.load 44 (.t 43) none (some 3) false), g1 39 false (.len 45 .slice (.t 44) false), g1 39 false (.bin 46 .neq (.t 42) (.t 45)), g0 (.pick 47 (.t 39) (.c (.bool true)) (.t 46))])
  (.cond (.t 47) (.seq (.ops [g0 (.mv 4 (.c (.bool false)))])
  (.ret))
  (.skip)))
  (.seq (.seq (.ops [g0 (.mv 5 (.c (.int .i64 0)))])
  (.block 0 (.loop L9_0)))
  (.seq (.ops [g0 (.mv 4 (.c (.bool true)))])
  (.ret)))),
  [.t 4]⟩
def L10_0 : Ic := .seq (.seq (.ops [g0 (.mv 12 (.t 7)), g0 (.fldA 13 (.t 3) 3 none), g0 (.load 14 (.t 13) none (some 3) false), g0 (.len 15 .slice (.t 14) false), g0 (.bin 16 .lss (.t 12) (.t 15)), g0 (.mv 17 (.t 16)), g1 17 true (.mv 18 (.t 1)), g1 17 true (.bin 19 .geq (.t 18) (.c (.int .i64 0))), g0 (.pick 20 (.t 17) (.t 19) (.c (.bool false)))])
  (.cond (.t 20) (.skip)
  (.exit 0)))
  (.seq (.block 1 (.ops [g0 (.fldA 23 (.t 3) 3 none), g0 (.load 24 (.t 23) none (some 3) false), g0 (.mv 25 (.t 7)), g0 (.idxA 26 (.t 24) (.t 25) 6 (some 6) none), g0 (.load 27 (.t 26) (some 6) none false), g0 (.mv 28 (.t 1)), g0 (.mv 29 (.t 2)), g0 (.bin 30 .sub (.t 29) (.c (.int .i64 1))), g0 (.call (some 31) 10 [(.t 27), (.t 28), (.t 30)]), g0 (.mv 1 (.t 31))]))
  (.ops [g0 (.mv 21 (.t 7)), g0 (.bin 22 .add (.t 21) (.c (.int .i64 1))), g0 (.mv 7 (.t 22))]))
/-- notary/notaryref06.Count -/
def F10 : IFunc := ⟨.pure, .seq (.ops [g0 (.boxL 3 6 (some (.t 0)) []), g0 (.mv 6 (.c (.int .i64 0)))])
  (.seq (.seq (.ops [g0 (.mv 8 (.t 2)), g0 (.bin 9 .leq (.t 8) (.c (.int .i64 0)))])
  (.cond (.t 9) (.seq (.ops [g0 (.mv 6 (.c (.int .i64 (-1))))])
  (.ret))
  (.skip)))
  (.seq (.ops [g0 (.mv 10 (.t 1)), g0 (.bin 11 .sub (.t 10) (.c (.int .i64 1))), g0 (.mv 1 (.t 11))])
  (.seq (.seq (.ops [g0 (.mv 7 (.c (.int .i64 0)))])
  (.block 0 (.loop L10_0)))
  (.seq (.ops [g0 (.mv 32 (.t 1)), g0 (.mv 6 (.t 32))])
  (.ret))))),
  [.t 6]⟩
def L11_0 : Ic := .seq (.seq (.ops [g0 (.mv 8 (.t 3)), g0 (.fldA 9 (.t 1) 3 none), g0 (.load 10 (.t 9) none (some 1) false), g0 (.len 11 .slice (.t 10) false), g0 (.bin 12 .lss (.t 8) (.t 11))])
  (.cond (.t 12) (.skip)
  (.exit 0)))
  (.seq (.block 1 (.seq (.ops [g0 (.fldA 15 (.t 1) 3 none), g0 (.load 16 (.t 15) none (some 1) false), g0 (.mv 17 (.t 3)), g0 (.idxA 18 (.t 16) (.t 17) 6 (some 6) none), g0 (.load 19 (.t 18) (some 6) none false), g0 (.call (some 20) 11 [(.t 19)])])
  (.cond (.t 20) (.seq (.ops [g0 (.mv 2 (.c (.bool true)))])
  (.ret))
  (.skip))))
  (.ops [g0 (.mv 13 (.t 3)), g0 (.bin 14 .add (.t 13) (.c (.int .i64 1))), g0 (.mv 3 (.t 14))]))
/-- notary/notaryref06.Named -/
def F11 : IFunc := ⟨.pure, .seq (.ops [g0 (.boxL 1 6 (some (.t 0)) []), g0 (.mv 2 (.c (.bool false)))])
  (.seq (.seq (.ops [g0 (.fldA 4 (.t 1) 2 none), g0 (.load 5 (.t 4) none (some 1) false), g0 (.len 6 .str (.t 5) false), g0 (.bin 7 .gtr (.t 6) (.c (.int .i64 40)))])
  (.cond (.t 7) (.seq (.ops [g0 (.mv 2 (.c (.bool true)))])
  (.ret))
  (.skip)))
  (.seq (.seq (.ops [g0 (.mv 3 (.c (.int .i64 0)))])
  (.block 0 (.loop L11_0)))
  (.seq (.ops [g0 (.mv 2 (.c (.bool false)))])
  (.ret)))),
  [.t 2]⟩
def L12_0 : Ic := .seq (.ops [g0 (.bin 48 .lss (.t 47) (.t 46))])
  (.seq (.cond (.t 48) (.skip)
  (.exit 0))
  (.seq (.block 1 (.seq (.ops [g0 (.idxA 49 (.t 45) (.t 47) 6 (some 6) none), g0 (.load 50 (.t 49) (some 6) none false), g0 (.boxL 12 6 none [(.int .i64 0), (.int .i64 0), (.str []), .nils, (.int .i64 0), (.int .i64 0)]), g0 (.store (.t 12) (.t 50) 6 (some 12))])
  (.seq (.ops [g0 (.mv 51 (.t 10)), g0 (.load 52 (.t 12) (some 6) (some 12) false), g0 (.callV (some 53) (.t 51) [(.t 52)]), g0 (.un 54 .not (.t 53))])
  (.cond (.t 54) (.seq (.ops [g0 (.build 55 [(.int .i64 0), (.int .i64 0), (.str []), .nils, (.int .i64 0), (.int .i64 0)] []), g0 (.build 56 [(.int .i64 0), (.int .i64 0), (.str []), .nils, (.int .i64 0), (.int .i64 0)] []), g0 (.store (.t 4) (.t 55) 6 (some 4)), g0 (.store (.t 5) (.t 56) 6 (some 5))])
  (.ret))
  (.skip)))))
  (.ops [g0 (.bin 57 .add (.t 47) (.c (.int .i64 1))), g0 (.mv 47 (.t 57))])))
/-- (*notary/typer.typer).of -/
def F12 : IFunc := ⟨.cut, .seq (.ops [g0 (.boxH 2 none (.t 0)), g0 (.boxL 3 6 (some (.t 1)) []), g0 (.boxL 4 6 none [(.int .i64 0), (.int .i64 0), (.str []), .nils, (.int .i64 0), (.int .i64 0)]), g0 (.boxL 5 6 none [(.int .i64 0), (.int .i64 0), (.str []), .nils, (.int .i64 0), (.int .i64 0)])])
  (.seq (.seq (.ops [g0 (.load 15 (.t 3) (some 6) (some 3) false), g0 (.call (some 16) 13 [(.t 15)]), g0 (.un 17 .not (.t 16))])
  (.cond (.t 17) (.seq (.ops [g0 (.load 18 (.t 2) none none false), g0 (.load 19 (.t 3) (some 6) (some 3) false), g0 (.call (some 20) 14 [(.t 18), (.t 19), (.c (.int .i64 12))]), g0 (.ext 21 (.t 20) 0), g0 (.ext 22 (.t 20) 1), g0 (.store (.t 4) (.t 21) 6 (some 4)), g0 (.store (.t 5) (.t 22) 6 (some 5))])
  (.ret))
  (.skip)))
  (.seq (.ops [g0 (.load 24 (.t 2) none none false), g0 (.load 25 (.t 3) (some 6) (some 3) false), g0 (.call (some 26) 15 [(.t 24), (.t 25)]), g0 (.mv 23 (.t 26)), g0 (.ext 27 (.t 23) 0), g0 (.ext 28 (.t 23) 1), g0 (.boxL 6 6 none [(.int .i64 0), (.int .i64 0), (.str []), .nils, (.int .i64 0), (.int .i64 0)]), g0 (.store (.t 6) (.t 27) 6 (some 6)), g0 (.mv 7 (.t 28))])
  (.seq (.seq (.ops [g0 (.mv 29 (.t 7)), g0 (.un 30 .not (.t 29))])
  (.cond (.t 30) (.seq (.ops [g0 (.load 31 (.t 2) none none false), g0 (.load 32 (.t 3) (some 6) (some 3) false), g0 (.call (some 33) 14 [(.t 31), (.t 32), (.c (.int .i64 8))]), g0 (.ext 34 (.t 33) 0), g0 (.ext 35 (.t 33) 1), g0 (.store (.t 4) (.t 34) 6 (some 4)), g0 (.store (.t 5) (.t 35) 6 (some 5))])
  (.ret))
  (.skip)))
  (.seq (.ops [g0 (.fldA 36 (.t 3) 0 none), g0 (.load 37 (.t 36) none (some 3) false), g0 (.fldA 38 (.t 3) 1 none), g0 (.load 39 (.t 38) none (some 3) false), g0 (.fldA 40 (.t 3) 2 none), g0 (.load 41 (.t 40) none (some 3) false), g0 (.build 42 [(.int .i64 0), (.int .i64 0), (.str []), .nils, (.int .i64 0), (.int .i64 0)] [(0, 1, (.t 37)), (1, 1, (.t 39)), (2, 1, (.t 41))]), g0 (.boxH 8 (some 6) (.c (.agg [(.int .i64 0), (.int .i64 0), (.str []), .nils, (.int .i64 0), (.int .i64 0)]))), g0 (.store (.t 8) (.t 42) 6 none)])
  (.seq (.ops [g0 (.boxH 9 none (.c .nils))])
  (.seq (.ops [g0 (.mkfn 43 16 [] [(.t 2), (.t 9), (.t 8)]), g0 (.mv 10 (.t 43))])
  (.seq (.seq (.ops [g0 (.fldA 44 (.t 3) 3 none), g0 (.load 45 (.t 44) none (some 3) false), g0 (.len 46 .slice (.t 45) false), g0 (.mv 47 (.c (.int .i64 0)))])
  (.block 0 (.loop L12_0)))
  (.seq (.ops [g0 (.load 59 (.t 2) none none false), g0 (.load 60 (.t 6) (some 6) (some 6) false), g0 (.load 61 (.t 9) none none false), g0 (.call (some 62) 17 [(.t 59), (.t 8), (.t 60), (.t 61)]), g0 (.mv 58 (.t 62)), g0 (.ext 63 (.t 58) 0), g0 (.ext 64 (.t 58) 1), g0 (.boxL 13 6 none [(.int .i64 0), (.int .i64 0), (.str []), .nils, (.int .i64 0), (.int .i64 0)]), g0 (.store (.t 13) (.t 63) 6 (some 13)), g0 (.mv 14 (.t 64))])
  (.seq (.seq (.ops [g0 (.mv 65 (.t 14)), g0 (.bin 66 .neq (.t 65) (.c (.int .i64 0)))])
  (.cond (.t 66) (.seq (.ops [g0 (.load 67 (.t 2) none none false), g0 (.load 68 (.t 3) (some 6) (some 3) false), g0 (.mv 69 (.t 14)), g0 (.call (some 70) 14 [(.t 67), (.t 68), (.t 69)]), g0 (.ext 71 (.t 70) 0), g0 (.ext 72 (.t 70) 1), g0 (.store (.t 4) (.t 71) 6 (some 4)), g0 (.store (.t 5) (.t 72) 6 (some 5))])
  (.ret))
  (.skip)))
  (.seq (.ops [g0 (.fldA 73 (.t 8) 2 none), g0 (.store (.t 73) (.c (.str [])) 1 none)])
  (.seq (.ops [g0 (.load 74 (.t 13) (some 6) (some 13) false), g0 (.load 75 (.t 8) (some 6) none false), g0 (.store (.t 4) (.t 74) 6 (some 4)), g0 (.store (.t 5) (.t 75) 6 (some 5))])
  (.ret)))))))))))),
  [.cell 4 (some 6) (some 4), .cell 5 (some 6) (some 5)]⟩
/-- notary/typer.shaped -/
def F13 : IFunc := ⟨.pure, .seq (.ops [g0 (.boxL 1 6 (some (.t 0)) []), g0 (.mv 2 (.c (.bool false)))])
  (.seq (.ops [g0 (.fldA 4 (.t 1) 3 none), g0 (.load 5 (.t 4) none (some 1) false), g0 (.len 6 .slice (.t 5) false), g0 (.mv 3 (.t 6))])
  (.seq (.seq (.ops [g0 (.fldA 7 (.t 1) 0 none), g0 (.load 8 (.t 7) none (some 1) false)])
  (.block 0 (.seq (.seq (.ops [g0 (.bin 10 .eql (.t 8) (.c (.int .i64 5))), g0 (.mv 9 (.t 10))])
  (.cond (.t 9) (.skip)
  (.seq (.ops [g0 (.bin 11 .eql (.t 8) (.c (.int .i64 7))), g0 (.mv 9 (.t 11))])
  (.cond (.t 9) (.skip)
  (.seq (.ops [g0 (.bin 12 .eql (.t 8) (.c (.int .i64 8))), g0 (.mv 9 (.t 12))])
  (.cond (.t 9) (.skip)
  (.seq (.ops [g0 (.bin 13 .eql (.t 8) (.c (.int .i64 9))), g0 (.mv 9 (.t 13))])
  (.cond (.t 9) (.skip)
  (.ops [g0 (.bin 14 .eql (.t 8) (.c (.int .i64 18))), g0 (.mv 9 (.t 14))])))))))))
  (.cond (.t 9) (.seq (.ops [g0 (.mv 15 (.t 3)), g0 (.bin 16 .eql (.t 15) (.c (.int .i64 0))), g0 (.mv 2 (.t 16))])
  (.ret))
  (.seq (.ops [g0 (.bin 18 .eql (.t 8) (.c (.int .i64 6))), g0 (.mv 17 (.t 18))])
  (.cond (.t 17) (.seq (.ops [g0 (.mv 19 (.t 3)), g0 (.bin 20 .eql (.t 19) (.c (.int .i64 0))), g0 (.mv 21 (.t 20)), g1 21 true (.fldA 22 (.t 1) 1 none), g1 21 true (.load 23 (.t 22) none (some 1) false), g1 21 true (.bin 24 .eql (.t 23) (.c (.int .i64 0))), g1 21 true (.mv 25 (.t 24)), g1 25 false (.fldA 26 (.t 1) 1 none), g1 25 false (.load 27 (.t 26) none (some 1) false), g1 25 false (.bin 28 .eql (.t 27) (.c (.int .i64 1))), g1 21 true (.pick 29 (.t 25) (.c (.bool true)) (.t 28)), g0 (.pick 30 (.t 21) (.t 29) (.c (.bool false))), g0 (.mv 2 (.t 30))])
  (.ret))
  (.seq (.ops [g0 (.bin 32 .eql (.t 8) (.c (.int .i64 11))), g0 (.mv 31 (.t 32))])
  (.cond (.t 31) (.seq (.ops [g0 (.mv 33 (.t 3)), g0 (.bin 34 .eql (.t 33) (.c (.int .i64 1))), g0 (.mv 35 (.t 34)), g1 35 true (.fldA 36 (.t 1) 1 none), g1 35 true (.load 37 (.t 36) none (some 1) false), g1 35 true (.bin 38 .eql (.t 37) (.c (.int .i64 1))), g1 35 true (.mv 39 (.t 38)), g1 39 false (.fldA 40 (.t 1) 1 none), g1 39 false (.load 41 (.t 40) none (some 1) false), g1 39 false (.bin 42 .eql (.t 41) (.c (.int .i64 2))), g1 35 true (.pick 43 (.t 39) (.c (.bool true)) (.t 42)), g0 (.pick 44 (.t 35) (.t 43) (.c (.bool false))), g0 (.mv 2 (.t 44))])
  (.ret))
  (.seq (.ops [g0 (.bin 46 .eql (.t 8) (.c (.int .i64 10))), g0 (.mv 45 (.t 46))])
  (.cond (.t 45) (.seq (.ops [g0 (.mv 47 (.t 3)), g0 (.bin 48 .eql (.t 47) (.c (.int .i64 2))), g0 (.mv 49 (.t 48)), g1 49 true (.fldA 50 (.t 1) 1 none), g1 49 true (.load 51 (.t 50) none (some 1) false), g1 49 true (.bin 52 .geq (.t 51) (.c (.int .i64 1))), g0 (.pick 53 (.t 49) (.t 52) (.c (.bool false))), g0 (.mv 54 (.t 53)), g1 54 true (.fldA 55 (.t 1) 1 none), g1 54 true (.load 56 (.t 55) none (some 1) false), g1 54 true (.bin 57 .leq (.t 56) (.c (.int .i64 13))), g0 (.pick 58 (.t 54) (.t 57) (.c (.bool false))), g0 (.mv 2 (.t 58))])
  (.ret))
  (.seq (.ops [g0 (.bin 60 .eql (.t 8) (.c (.int .i64 13))), g0 (.mv 59 (.t 60))])
  (.cond (.t 59) (.seq (.ops [g0 (.mv 61 (.t 3)), g0 (.bin 62 .eql (.t 61) (.c (.int .i64 1))), g0 (.mv 2 (.t 62))])
  (.ret))
  (.seq (.ops [g0 (.bin 64 .eql (.t 8) (.c (.int .i64 12))), g0 (.mv 63 (.t 64))])
  (.cond (.t 63) (.seq (.ops [g0 (.mv 65 (.t 3)), g0 (.bin 66 .eql (.t 65) (.c (.int .i64 2))), g0 (.mv 2 (.t 66))])
  (.ret))
  (.seq (.seq (.ops [g0 (.bin 68 .eql (.t 8) (.c (.int .i64 14))), g0 (.mv 67 (.t 68))])
  (.cond (.t 67) (.skip)
  (.ops [g0 (.bin 69 .eql (.t 8) (.c (.int .i64 15))), g0 (.mv 67 (.t 69))])))
  (.cond (.t 67) (.seq (.ops [g0 (.mv 70 (.t 3)), g0 (.bin 71 .gtr (.t 70) (.c (.int .i64 0))), g0 (.mv 2 (.t 71))])
  (.ret))
  (.seq (.seq (.ops [g0 (.bin 73 .eql (.t 8) (.c (.int .i64 16))), g0 (.mv 72 (.t 73))])
  (.cond (.t 72) (.skip)
  (.ops [g0 (.bin 74 .eql (.t 8) (.c (.int .i64 17))), g0 (.mv 72 (.t 74))])))
  (.cond (.t 72) (.seq (.ops [g0 (.mv 2 (.c (.bool true)))])
  (.ret))
  (.skip)))))))))))))))))))
  (.seq (.ops [g0 (.mv 2 (.c (.bool false)))])
  (.ret)))),
  [.t 2]⟩
/-- (*notary/typer.typer).fail -/
def F14 : IFunc := ⟨.cut, .seq (.ops [g0 (.boxL 4 6 (some (.t 1)) []), g0 (.boxL 6 6 none [(.int .i64 0), (.int .i64 0), (.str []), .nils, (.int .i64 0), (.int .i64 0)]), g0 (.boxL 7 6 none [(.int .i64 0), (.int .i64 0), (.str []), .nils, (.int .i64 0), (.int .i64 0)])])
  (.seq (.seq (.ops [g0 (.mv 8 (.t 0)), g0 (.nilc (some 9) (.t 8)), g0 (.fldA 10 (.t 9) 8 none), g0 (.load 11 (.t 10) none none false), g0 (.bin 12 .eql (.t 11) (.c (.int .i64 0)))])
  (.cond (.t 12) (.ops [g0 (.mv 13 (.t 0)), g0 (.mv 14 (.t 0)), g0 (.fldA 15 (.t 4) 4 none), g0 (.load 16 (.t 15) none (some 4) false), g0 (.mv 17 (.t 2)), g0 (.nilc (some 18) (.t 13)), g0 (.fldA 19 (.t 18) 7 none), g0 (.store (.t 19) (.t 16) 1 none), g0 (.nilc (some 20) (.t 14)), g0 (.fldA 21 (.t 20) 8 none), g0 (.store (.t 21) (.t 17) 1 none)])
  (.skip)))
  (.seq (.ops [g0 (.build 22 [(.int .i64 0), (.int .i64 0), (.str []), .nils, (.int .i64 0), (.int .i64 0)] []), g0 (.build 23 [(.int .i64 0), (.int .i64 0), (.str []), .nils, (.int .i64 0), (.int .i64 0)] []), g0 (.store (.t 6) (.t 22) 6 (some 6)), g0 (.store (.t 7) (.t 23) 6 (some 7))])
  (.ret))),
  [.cell 6 (some 6) (some 6), .cell 7 (some 6) (some 7)]⟩
/-- (*notary/typer.typer).named -/
def F15 : IFunc := ⟨.pop, .seq (.ops [g0 (.boxL 3 6 (some (.t 1)) []), g0 (.boxL 4 6 none [(.int .i64 0), (.int .i64 0), (.str []), .nils, (.int .i64 0), (.int .i64 0)]), g0 (.mv 5 (.c (.bool false)))])
  (.seq (.seq (.ops [g0 (.fldA 10 (.t 3) 0 none), g0 (.load 11 (.t 10) none (some 3) false)])
  (.block 0 (.seq (.ops [g0 (.bin 13 .eql (.t 11) (.c (.int .i64 7))), g0 (.mv 12 (.t 13))])
  (.cond (.t 12) (.seq (.seq (.ops [g0 (.fldA 14 (.t 3) 1 none), g0 (.load 15 (.t 14) none (some 3) false), g0 (.bin 16 .lss (.t 15) (.c (.int .i64 0))), g0 (.mv 17 (.t 16)), g1 17 false (.fldA 18 (.t 3) 1 none), g1 17 false (.load 19 (.t 18) none (some 3) false), g1 17 false (.mv 20 (.t 0)), g1 17 false (.nilc (some 21) (.t 20)), g1 17 false (.fldA 22 (.t 21) 6 none), g1 17 false (.load 23 (.t 22) none none false), g1 17 false (.len 24 .slice (.t 23) false), g1 17 false (.bin 25 .geq (.t 19) (.t 24)), g0 (.pick 26 (.t 17) (.c (.bool true)) (.t 25))])
  (.cond (.t 26) (.seq (.ops [g0 (.build 27 [(.int .i64 0), (.int .i64 0), (.str []), .nils, (.int .i64 0), (.int .i64 0)] []), g0 (.store (.t 4) (.t 27) 6 (some 4)), g0 (.mv 5 (.c (.bool false)))])
  (.ret))
  (.skip)))
  (.seq (.ops [g0 (.mv 28 (.t 0)), g0 (.nilc (some 29) (.t 28)), g0 (.fldA 30 (.t 29) 6 none), g0 (.load 31 (.t 30) none none false), g0 (.mv 32 (.t 0)), g0 (.nilc (some 33) (.t 32)), g0 (.fldA 34 (.t 33) 6 none), g0 (.load 35 (.t 34) none none false), g0 (.len 36 .slice (.t 35) false), g0 (.bin 37 .sub (.t 36) (.c (.int .i64 1))), g0 (.fldA 38 (.t 3) 1 none), g0 (.load 39 (.t 38) none (some 3) false), g0 (.bin 40 .sub (.t 37) (.t 39)), g0 (.idxA 41 (.t 31) (.t 40) 6 (some 6) none), g0 (.load 42 (.t 41) (some 6) none false), g0 (.store (.t 4) (.t 42) 6 (some 4)), g0 (.mv 5 (.c (.bool true)))])
  (.ret)))
  (.seq (.ops [g0 (.bin 44 .eql (.t 11) (.c (.int .i64 8))), g0 (.mv 43 (.t 44))])
  (.cond (.t 43) (.seq (.ops [g0 (.mv 46 (.t 0)), g0 (.fldA 47 (.t 3) 1 none), g0 (.load 48 (.t 47) none (some 3) false), g0 (.call (some 49) 18 [(.t 46), (.t 48), (.c (.int .i64 31))]), g0 (.mv 45 (.t 49)), g0 (.ext 50 (.t 45) 0), g0 (.ext 51 (.t 45) 1), g0 (.boxL 6 6 none [(.int .i64 0), (.int .i64 0), (.str []), .nils, (.int .i64 0), (.int .i64 0)]), g0 (.store (.t 6) (.t 50) 6 (some 6)), g0 (.mv 7 (.t 51))])
  (.seq (.seq (.ops [g0 (.mv 52 (.t 7)), g0 (.un 53 .not (.t 52))])
  (.cond (.t 53) (.seq (.ops [g0 (.build 54 [(.int .i64 0), (.int .i64 0), (.str []), .nils, (.int .i64 0), (.int .i64 0)] []), g0 (.store (.t 4) (.t 54) 6 (some 4)), g0 (.mv 5 (.c (.bool false)))])
  (.ret))
  (.skip)))
  (.seq (.ops [g0 (.fldA 55 (.t 6) 3 none), g0 (.load 56 (.t 55) none (some 6) false), g0 (.idxA 57 (.t 56) (.c (.int .i64 0)) 6 (some 6) none), g0 (.load 58 (.t 57) (some 6) none false), g0 (.call (some 59) 19 [(.t 58)]), g0 (.store (.t 4) (.t 59) 6 (some 4)), g0 (.mv 5 (.c (.bool true)))])
  (.ret))))
  (.seq (.ops [g0 (.bin 61 .eql (.t 11) (.c (.int .i64 9))), g0 (.mv 60 (.t 61))])
  (.cond (.t 60) (.seq (.ops [g0 (.mv 63 (.t 0)), g0 (.fldA 64 (.t 3) 1 none), g0 (.load 65 (.t 64) none (some 3) false), g0 (.call (some 66) 18 [(.t 63), (.t 65), (.c (.int .i64 32))]), g0 (.mv 62 (.t 66)), g0 (.ext 67 (.t 62) 0), g0 (.ext 68 (.t 62) 1), g0 (.boxL 8 6 none [(.int .i64 0), (.int .i64 0), (.str []), .nils, (.int .i64 0), (.int .i64 0)]), g0 (.store (.t 8) (.t 67) 6 (some 8)), g0 (.mv 9 (.t 68))])
  (.seq (.seq (.ops [g0 (.mv 69 (.t 9)), g0 (.un 70 .not (.t 69))])
  (.cond (.t 70) (.seq (.ops [g0 (.build 71 [(.int .i64 0), (.int .i64 0), (.str []), .nils, (.int .i64 0), (.int .i64 0)] []), g0 (.store (.t 4) (.t 71) 6 (some 4)), g0 (.mv 5 (.c (.bool false)))])
  (.ret))
  (.skip)))
  (.seq (.ops [g0 (.fldA 72 (.t 8) 3 none), g0 (.load 73 (.t 72) none (some 8) false), g0 (.idxA 74 (.t 73) (.c (.int .i64 0)) 6 (some 6) none), g0 (.load 75 (.t 74) (some 6) none false), g0 (.store (.t 4) (.t 75) 6 (some 4)), g0 (.mv 5 (.c (.bool true)))])
  (.ret))))
  (.seq (.ops [g0 (.bin 77 .eql (.t 11) (.c (.int .i64 15))), g0 (.mv 76 (.t 77))])
  (.cond (.t 76) (.seq (.ops [g0 (.mv 78 (.t 0)), g0 (.fldA 79 (.t 3) 1 none), g0 (.load 80 (.t 79) none (some 3) false), g0 (.call (some 81) 18 [(.t 78), (.t 80), (.c (.int .i64 30))]), g0 (.ext 82 (.t 81) 0), g0 (.ext 83 (.t 81) 1), g0 (.store (.t 4) (.t 82) 6 (some 4)), g0 (.mv 5 (.t 83))])
  (.ret))
  (.seq (.ops [g0 (.bin 85 .eql (.t 11) (.c (.int .i64 16))), g0 (.mv 84 (.t 85))])
  (.cond (.t 84) (.seq (.ops [g0 (.mv 86 (.t 0)), g0 (.fldA 87 (.t 3) 1 none), g0 (.load 88 (.t 87) none (some 3) false), g0 (.call (some 89) 18 [(.t 86), (.t 88), (.c (.int .i64 33))]), g0 (.ext 90 (.t 89) 0), g0 (.ext 91 (.t 89) 1), g0 (.store (.t 4) (.t 90) 6 (some 4)), g0 (.mv 5 (.t 91))])
  (.ret))
  (.seq (.ops [g0 (.bin 93 .eql (.t 11) (.c (.int .i64 17))), g0 (.mv 92 (.t 93))])
  (.cond (.t 92) (.seq (.ops [g0 (.build 94 [(.int .i64 0), (.int .i64 0), (.str []), .nils, (.int .i64 0), (.int .i64 0)] []), g0 (.store (.t 4) (.t 94) 6 (some 4)), g0 (.mv 5 (.c (.bool false)))])
  (.ret))
  (.skip)))))))))))))))
  (.seq (.ops [g0 (.build 95 [(.int .i64 0), (.int .i64 0), (.str []), .nils, (.int .i64 0), (.int .i64 0)] []), g0 (.store (.t 4) (.t 95) 6 (some 4)), g0 (.mv 5 (.c (.bool true)))])
  (.ret))),
  [.cell 4 (some 6) (some 4), .t 5]⟩
/-- (*notary/typer.typer).of$1 -/
def F16 : IFunc := ⟨.raw, .seq (.ops [g0 (.boxL 4 6 (some (.t 0)) []), g0 (.mv 5 (.c (.bool false)))])
  (.seq (.ops [g0 (.load 9 (.t 1) none none false), g0 (.load 10 (.t 4) (some 6) (some 4) false), g0 (.call (some 11) 12 [(.t 9), (.t 10)]), g0 (.mv 8 (.t 11)), g0 (.ext 12 (.t 8) 0), g0 (.ext 13 (.t 8) 1), g0 (.boxL 6 6 none [(.int .i64 0), (.int .i64 0), (.str []), .nils, (.int .i64 0), (.int .i64 0)]), g0 (.boxL 7 6 none [(.int .i64 0), (.int .i64 0), (.str []), .nils, (.int .i64 0), (.int .i64 0)]), g0 (.store (.t 6) (.t 12) 6 (some 6)), g0 (.store (.t 7) (.t 13) 6 (some 7))])
  (.seq (.ops [g0 (.load 14 (.t 2) none none false), g0 (.load 15 (.t 6) (some 6) (some 6) false), g0 (.len 16 .slice (.t 14) false), g0 (.bsl 17 6 true [(.c (.agg [(.int .i64 0), (.int .i64 0), (.str []), .nils, (.int .i64 0), (.int .i64 0)]))]), g0 (.app 18 (.t 14) (.t 17) 6), g0 (.idxA 19 (.t 18) (.t 16) 6 (some 6) none), g0 (.storeX false (.t 19) (.t 15) 6), g0 (.storeX true (.t 2) (.t 18) 1)])
  (.seq (.ops [g0 (.fldA 20 (.t 3) 3 none), g0 (.load 21 (.t 20) none none false), g0 (.load 22 (.t 7) (some 6) (some 7) false), g0 (.len 23 .slice (.t 21) false), g0 (.bsl 24 6 true [(.c (.agg [(.int .i64 0), (.int .i64 0), (.str []), .nils, (.int .i64 0), (.int .i64 0)]))]), g0 (.app 25 (.t 21) (.t 24) 6), g0 (.idxA 26 (.t 25) (.t 23) 6 (some 6) none), g0 (.storeX false (.t 26) (.t 22) 6), g0 (.fldA 27 (.t 3) 3 none), g0 (.storeX true (.t 27) (.t 25) 1)])
  (.seq (.ops [g0 (.load 28 (.t 1) none none false), g0 (.nilc (some 29) (.t 28)), g0 (.fldA 30 (.t 29) 8 none), g0 (.load 31 (.t 30) none none false), g0 (.bin 32 .eql (.t 31) (.c (.int .i64 0))), g0 (.mv 5 (.t 32))])
  (.ret))))),
  [.t 5]⟩
/-- (*notary/typer.typer).rule -/
def F17 : IFunc := ⟨.raw, .seq (.ops [g0 (.boxL 6 6 (some (.t 2)) []), g0 (.boxL 8 6 none [(.int .i64 0), (.int .i64 0), (.str []), .nils, (.int .i64 0), (.int .i64 0)]), g0 (.mv 9 (.c (.int .i64 0)))])
  (.seq (.ops [g0 (.build 15 [(.int .i64 0), (.int .i64 0), (.str []), .nils, (.int .i64 0), (.int .i64 0)] []), g0 (.boxL 10 6 none [(.int .i64 0), (.int .i64 0), (.str []), .nils, (.int .i64 0), (.int .i64 0)]), g0 (.store (.t 10) (.t 15) 6 (some 10)), g0 (.mv 11 (.c (.bool false)))])
  (.seq (.seq (.ops [g0 (.mv 16 (.t 1)), g0 (.nilc (some 17) (.t 16)), g0 (.fldA 18 (.t 17) 0 none), g0 (.load 19 (.t 18) none none false)])
  (.block 0 (.seq (.seq (.ops [g0 (.bin 21 .eql (.t 19) (.c (.int .i64 5))), g0 (.mv 20 (.t 21))])
  (.cond (.t 20) (.skip)
  (.seq (.ops [g0 (.bin 22 .eql (.t 19) (.c (.int .i64 18))), g0 (.mv 20 (.t 22))])
  (.cond (.t 20) (.skip)
  (.seq (.ops [g0 (.bin 23 .eql (.t 19) (.c (.int .i64 6))), g0 (.mv 20 (.t 23))])
  (.cond (.t 20) (.skip)
  (.seq (.ops [g0 (.bin 24 .eql (.t 19) (.c (.int .i64 7))), g0 (.mv 20 (.t 24))])
  (.cond (.t 20) (.skip)
  (.seq (.ops [g0 (.bin 25 .eql (.t 19) (.c (.int .i64 8))), g0 (.mv 20 (.t 25))])
  (.cond (.t 20) (.skip)
  (.ops [g0 (.bin 26 .eql (.t 19) (.c (.int .i64 9))), g0 (.mv 20 (.t 26))])))))))))))
  (.cond (.t 20) (.seq (.ops [g0 (.mv 27 (.t 1)), g0 (.nilc (some 28) (.t 27)), g0 (.load 29 (.t 28) (some 6) none false), g0 (.load 30 (.t 6) (some 6) (some 6) false), g0 (.call (some 31) 20 [(.t 29), (.t 30)]), g0 (.store (.t 8) (.t 31) 6 (some 8)), g0 (.mv 9 (.c (.int .i64 0)))])
  (.ret))
  (.seq (.ops [g0 (.bin 33 .eql (.t 19) (.c (.int .i64 10))), g0 (.mv 32 (.t 33))])
  (.cond (.t 32) (.seq (.ops [g0 (.mv 34 (.t 1)), g0 (.nilc (some 35) (.t 34)), g0 (.fldA 36 (.t 35) 1 none), g0 (.load 37 (.t 36) none none false), g0 (.mv 38 (.t 3)), g0 (.idxA 39 (.t 38) (.c (.int .i64 0)) 6 (some 6) none), g0 (.load 40 (.t 39) (some 6) none false), g0 (.mv 41 (.t 3)), g0 (.idxA 42 (.t 41) (.c (.int .i64 1)) 6 (some 6) none), g0 (.load 43 (.t 42) (some 6) none false), g0 (.call (some 44) 21 [(.t 37), (.t 40), (.t 43)]), g0 (.store (.t 10) (.t 44) 6 (some 10))])
  (.ops [g0 (.fldA 45 (.t 10) 0 none), g0 (.load 46 (.t 45) none (some 10) false), g0 (.bin 47 .neq (.t 46) (.c (.int .i64 0))), g0 (.mv 11 (.t 47))]))
  (.seq (.ops [g0 (.bin 49 .eql (.t 19) (.c (.int .i64 11))), g0 (.mv 48 (.t 49))])
  (.cond (.t 48) (.seq (.ops [g0 (.mv 50 (.t 1)), g0 (.nilc (some 51) (.t 50)), g0 (.fldA 52 (.t 51) 1 none), g0 (.load 53 (.t 52) none none false), g0 (.bin 54 .eql (.t 53) (.c (.int .i64 1))), g0 (.mv 55 (.t 54)), g1 55 true (.mv 56 (.t 3)), g1 55 true (.idxA 57 (.t 56) (.c (.int .i64 0)) 6 (some 6) none), g1 55 true (.load 58 (.t 57) (some 6) none false), g1 55 true (.call (some 59) 22 [(.t 58), (.c (.int .i64 1))]), g0 (.pick 60 (.t 55) (.t 59) (.c (.bool false))), g0 (.mv 61 (.t 60)), g1 61 false (.mv 62 (.t 1)), g1 61 false (.nilc (some 63) (.t 62)), g1 61 false (.fldA 64 (.t 63) 1 none), g1 61 false (.load 65 (.t 64) none none false), g1 61 false (.bin 66 .eql (.t 65) (.c (.int .i64 2))), g1 61 false (.mv 67 (.t 66)), g1 67 true (.mv 68 (.t 3)), g1 67 true (.idxA 69 (.t 68) (.c (.int .i64 0)) 6 (some 6) none), g1 67 true (.load 70 (.t 69) (some 6) none false), g1 67 true (.call (some 71) 22 [(.t 70), (.c (.int .i64 2))]), g1 61 false (.pick 72 (.t 67) (.t 71) (.c (.bool false))), g0 (.pick 73 (.t 61) (.c (.bool true)) (.t 72))])
  (.cond (.t 73) (.ops [g0 (.mv 74 (.t 3)), g0 (.idxA 75 (.t 74) (.c (.int .i64 0)) 6 (some 6) none), g0 (.load 76 (.t 75) (some 6) none false), g0 (.store (.t 10) (.t 76) 6 (some 10)), g0 (.mv 11 (.c (.bool true)))])
  (.skip)))
  (.seq (.ops [g0 (.bin 78 .eql (.t 19) (.c (.int .i64 12))), g0 (.mv 77 (.t 78))])
  (.cond (.t 77) (.seq (.ops [g0 (.mv 79 (.t 3)), g0 (.idxA 80 (.t 79) (.c (.int .i64 0)) 6 (some 6) none), g0 (.fldA 81 (.t 80) 0 none), g0 (.load 82 (.t 81) none none false), g0 (.bin 83 .eql (.t 82) (.c (.int .i64 3))), g0 (.mv 84 (.t 83)), g1 84 true (.mv 85 (.t 3)), g1 84 true (.idxA 86 (.t 85) (.c (.int .i64 0)) 6 (some 6) none), g1 84 true (.fldA 87 (.t 86) 3 none), g1 84 true (.load 88 (.t 87) none none false), g1 84 true (.len 89 .slice (.t 88) false), g1 84 true (.bin 90 .eql (.t 89) (.c (.int .i64 1))), g0 (.pick 91 (.t 84) (.t 90) (.c (.bool false))), g0 (.mv 92 (.t 91)), g1 92 true (.mv 93 (.t 3)), g1 92 true (.idxA 94 (.t 93) (.c (.int .i64 1)) 6 (some 6) none), g1 92 true (.load 95 (.t 94) (some 6) none false), g1 92 true (.call (some 96) 22 [(.t 95), (.c (.int .i64 1))]), g0 (.pick 97 (.t 92) (.t 96) (.c (.bool false)))])
  (.cond (.t 97) (.ops [g0 (.mv 98 (.t 3)), g0 (.idxA 99 (.t 98) (.c (.int .i64 0)) 6 (some 6) none), g0 (.fldA 100 (.t 99) 3 none), g0 (.load 101 (.t 100) none none false), g0 (.idxA 102 (.t 101) (.c (.int .i64 0)) 6 (some 6) none), g0 (.load 103 (.t 102) (some 6) none false), g0 (.store (.t 10) (.t 103) 6 (some 10)), g0 (.mv 11 (.c (.bool true)))])
  (.skip)))
  (.seq (.ops [g0 (.bin 105 .eql (.t 19) (.c (.int .i64 13))), g0 (.mv 104 (.t 105))])
  (.cond (.t 104) (.seq (.ops [g0 (.mv 106 (.t 3)), g0 (.idxA 107 (.t 106) (.c (.int .i64 0)) 6 (some 6) none), g0 (.fldA 108 (.t 107) 0 none), g0 (.load 109 (.t 108) none none false), g0 (.bin 110 .eql (.t 109) (.c (.int .i64 4))), g0 (.mv 111 (.t 110)), g1 111 true (.mv 112 (.t 3)), g1 111 true (.idxA 113 (.t 112) (.c (.int .i64 0)) 6 (some 6) none), g1 111 true (.fldA 114 (.t 113) 3 none), g1 111 true (.load 115 (.t 114) none none false), g1 111 true (.len 116 .slice (.t 115) false), g1 111 true (.bin 117 .eql (.t 116) (.c (.int .i64 0))), g0 (.pick 118 (.t 111) (.t 117) (.c (.bool false)))])
  (.cond (.t 118) (.seq (.ops [g0 (.mv 120 (.t 0)), g0 (.mv 121 (.t 1)), g0 (.nilc (some 122) (.t 121)), g0 (.load 123 (.t 122) (some 6) none false), g0 (.mv 124 (.t 3)), g0 (.idxA 125 (.t 124) (.c (.int .i64 0)) 6 (some 6) none), g0 (.load 126 (.t 125) (some 6) none false), g0 (.call (some 127) 23 [(.t 120), (.t 123), (.t 126)]), g0 (.mv 119 (.t 127)), g0 (.ext 128 (.t 119) 0), g0 (.ext 129 (.t 119) 1), g0 (.ext 130 (.t 119) 2), g0 (.boxL 13 6 none [(.int .i64 0), (.int .i64 0), (.str []), .nils, (.int .i64 0), (.int .i64 0)]), g0 (.mv 12 (.t 128)), g0 (.store (.t 13) (.t 129) 6 (some 13)), g0 (.mv 14 (.t 130))])
  (.seq (.seq (.ops [g0 (.mv 131 (.t 14)), g0 (.un 132 .not (.t 131))])
  (.cond (.t 132) (.seq (.ops [g0 (.load 133 (.t 10) (some 6) (some 10) false), g0 (.store (.t 8) (.t 133) 6 (some 8)), g0 (.mv 9 (.c (.int .i64 8)))])
  (.ret))
  (.skip)))
  (.ops [g0 (.mv 134 (.t 1)), g0 (.mv 135 (.t 12)), g0 (.load 136 (.t 13) (some 6) (some 13) false), g0 (.nilc (some 137) (.t 134)), g0 (.fldA 138 (.t 137) 1 none), g0 (.store (.t 138) (.t 135) 1 none), g0 (.store (.t 10) (.t 136) 6 (some 10)), g0 (.mv 11 (.c (.bool true)))])))
  (.skip)))
  (.seq (.ops [g0 (.bin 140 .eql (.t 19) (.c (.int .i64 14))), g0 (.mv 139 (.t 140))])
  (.cond (.t 139) (.seq (.ops [g0 (.mv 141 (.t 0)), g0 (.mv 142 (.t 3)), g0 (.call (some 143) 24 [(.t 141), (.t 142)]), g0 (.ext 144 (.t 143) 0), g0 (.ext 145 (.t 143) 1), g0 (.store (.t 8) (.t 144) 6 (some 8)), g0 (.mv 9 (.t 145))])
  (.ret))
  (.seq (.ops [g0 (.bin 147 .eql (.t 19) (.c (.int .i64 15))), g0 (.mv 146 (.t 147))])
  (.cond (.t 146) (.seq (.ops [g0 (.mv 148 (.t 3)), g0 (.fldA 149 (.t 6) 3 none), g0 (.load 150 (.t 149) none (some 6) false), g0 (.call (some 151) 25 [(.t 148), (.t 150)])])
  (.cond (.t 151) (.ops [g0 (.mv 152 (.t 1)), g0 (.nilc (some 153) (.t 152)), g0 (.fldA 154 (.t 153) 1 none), g0 (.load 155 (.t 154) none none false), g0 (.build 156 [(.int .i64 0), (.int .i64 0), (.str []), .nils, (.int .i64 0), (.int .i64 0)] [(0, 1, (.c (.int .i64 4))), (1, 1, (.t 155))]), g0 (.store (.t 10) (.t 156) 6 (some 10)), g0 (.mv 11 (.c (.bool true)))])
  (.skip)))
  (.seq (.ops [g0 (.bin 158 .eql (.t 19) (.c (.int .i64 16))), g0 (.mv 157 (.t 158))])
  (.cond (.t 157) (.seq (.ops [g0 (.mv 159 (.t 3)), g0 (.fldA 160 (.t 6) 3 none), g0 (.load 161 (.t 160) none (some 6) false), g0 (.idxA 162 (.t 161) (.c (.int .i64 0)) 6 (some 6) none), g0 (.fldA 163 (.t 162) 3 none), g0 (.load 164 (.t 163) none none false), g0 (.call (some 165) 25 [(.t 159), (.t 164)])])
  (.cond (.t 165) (.ops [g0 (.fldA 166 (.t 6) 3 none), g0 (.load 167 (.t 166) none (some 6) false), g0 (.idxA 168 (.t 167) (.c (.int .i64 1)) 6 (some 6) none), g0 (.load 169 (.t 168) (some 6) none false), g0 (.call (some 170) 26 [(.t 169)]), g0 (.store (.t 10) (.t 170) 6 (some 10)), g0 (.mv 11 (.c (.bool true)))])
  (.skip)))
  (.skip)))))))))))))))))))
  (.seq (.seq (.ops [g0 (.mv 171 (.t 11)), g0 (.un 172 .not (.t 171))])
  (.cond (.t 172) (.seq (.ops [g0 (.load 173 (.t 10) (some 6) (some 10) false), g0 (.store (.t 8) (.t 173) 6 (some 8)), g0 (.mv 9 (.c (.int .i64 10)))])
  (.ret))
  (.skip)))
  (.seq (.ops [g0 (.load 174 (.t 10) (some 6) (some 10) false), g0 (.store (.t 8) (.t 174) 6 (some 8)), g0 (.mv 9 (.c (.int .i64 0)))])
  (.ret))))),
  [.cell 8 (some 6) (some 8), .t 9]⟩
def L18_0 : Ic := .seq (.ops [g0 (.bin 80 .lss (.t 79) (.t 78))])
  (.seq (.cond (.t 80) (.skip)
  (.exit 1))
  (.seq (.block 2 (.seq (.ops [g0 (.idxA 81 (.t 77) (.t 79) 6 (some 6) none), g0 (.load 82 (.t 81) (some 6) none false), g0 (.boxL 10 6 none [(.int .i64 0), (.int .i64 0), (.str []), .nils, (.int .i64 0), (.int .i64 0)]), g0 (.store (.t 10) (.t 82) 6 (some 10))])
  (.seq (.ops [g0 (.fldA 83 (.t 10) 0 none), g0 (.load 84 (.t 83) none (some 10) false), g0 (.bin 85 .neq (.t 84) (.c (.int .i64 34))), g0 (.mv 86 (.t 85)), g1 86 false (.fldA 87 (.t 10) 3 none), g1 86 false (.load 88 (.t 87) none (some 10) false), g1 86 false (.len 89 .slice (.t 88) false), g1 86 false (.bin 90 .neq (.t 89) (.c (.int .i64 1))), g0 (.pick 91 (.t 86) (.c (.bool true)) (.t 90))])
  (.cond (.t 91) (.seq (.ops [g0 (.build 92 [(.int .i64 0), (.int .i64 0), (.str []), .nils, (.int .i64 0), (.int .i64 0)] []), g0 (.store (.t 6) (.t 92) 6 (some 6)), g0 (.mv 7 (.c (.bool false)))])
  (.ret))
  (.skip)))))
  (.ops [g0 (.bin 93 .add (.t 79) (.c (.int .i64 1))), g0 (.mv 79 (.t 93))])))
/-- (*notary/typer.typer).decl -/
def F18 : IFunc := ⟨.pop, .seq (.ops [g0 (.boxL 6 6 none [(.int .i64 0), (.int .i64 0), (.str []), .nils, (.int .i64 0), (.int .i64 0)]), g0 (.mv 7 (.c (.bool false)))])
  (.seq (.seq (.ops [g0 (.mv 11 (.t 1)), g0 (.bin 12 .lss (.t 11) (.c (.int .i64 0))), g0 (.mv 13 (.t 12)), g1 13 false (.mv 14 (.t 1)), g1 13 false (.mv 15 (.t 0)), g1 13 false (.nilc (some 16) (.t 15)), g1 13 false (.fldA 17 (.t 16) 0 (some 6)), g1 13 false (.fldA 18 (.t 17) 3 none), g1 13 false (.load 19 (.t 18) none none false), g1 13 false (.len 20 .slice (.t 19) false), g1 13 false (.bin 21 .geq (.t 14) (.t 20)), g0 (.pick 22 (.t 13) (.c (.bool true)) (.t 21)), g0 (.mv 23 (.t 22)), g1 23 false (.mv 24 (.t 0)), g1 23 false (.nilc (some 25) (.t 24)), g1 23 false (.fldA 26 (.t 25) 0 (some 6)), g1 23 false (.fldA 27 (.t 26) 3 none), g1 23 false (.load 28 (.t 27) none none false), g1 23 false (.mv 29 (.t 1)), g1 23 false (.idxA 30 (.t 28) (.t 29) 6 (some 6) none), g1 23 false (.fldA 31 (.t 30) 0 none), g1 23 false (.load 32 (.t 31) none none false), g1 23 false (.mv 33 (.t 2)), g1 23 false (.bin 34 .neq (.t 32) (.t 33)), g0 (.pick 35 (.t 23) (.c (.bool true)) (.t 34))])
  (.cond (.t 35) (.seq (.ops [g0 (.build 36 [(.int .i64 0), (.int .i64 0), (.str []), .nils, (.int .i64 0), (.int .i64 0)] []), g0 (.store (.t 6) (.t 36) 6 (some 6)), g0 (.mv 7 (.c (.bool false)))])
  (.ret))
  (.skip)))
  (.seq (.ops [g0 (.mv 37 (.t 0)), g0 (.nilc (some 38) (.t 37)), g0 (.fldA 39 (.t 38) 0 (some 6)), g0 (.fldA 40 (.t 39) 3 none), g0 (.load 41 (.t 40) none none false), g0 (.mv 42 (.t 1)), g0 (.idxA 43 (.t 41) (.t 42) 6 (some 6) none), g0 (.load 44 (.t 43) (some 6) none false), g0 (.boxL 8 6 none [(.int .i64 0), (.int .i64 0), (.str []), .nils, (.int .i64 0), (.int .i64 0)]), g0 (.store (.t 8) (.t 44) 6 (some 8))])
  (.seq (.seq (.ops [g0 (.mv 45 (.t 2))])
  (.block 0 (.seq (.ops [g0 (.bin 47 .eql (.t 45) (.c (.int .i64 31))), g0 (.mv 46 (.t 47))])
  (.cond (.t 46) (.seq (.ops [g0 (.load 48 (.t 8) (some 6) (some 8) false), g0 (.fldA 49 (.t 8) 3 none), g0 (.load 50 (.t 49) none (some 8) false), g0 (.len 51 .slice (.t 50) false), g0 (.bin 52 .eql (.t 51) (.c (.int .i64 1))), g0 (.mv 53 (.t 52)), g1 53 true (.fldA 54 (.t 8) 3 none), g1 53 true (.load 55 (.t 54) none (some 8) false), g1 53 true (.idxA 56 (.t 55) (.c (.int .i64 0)) 6 (some 6) none), g1 53 true (.load 57 (.t 56) (some 6) none false), g1 53 true (.call (some 58) 19 [(.t 57)]), g1 53 true (.fld 59 (.t 58) 0 none), g1 53 true (.bin 60 .neq (.t 59) (.c (.int .i64 0))), g0 (.pick 61 (.t 53) (.t 60) (.c (.bool false))), g0 (.store (.t 6) (.t 48) 6 (some 6)), g0 (.mv 7 (.t 61))])
  (.ret))
  (.seq (.ops [g0 (.bin 63 .eql (.t 45) (.c (.int .i64 32))), g0 (.mv 62 (.t 63))])
  (.cond (.t 62) (.seq (.ops [g0 (.load 64 (.t 8) (some 6) (some 8) false), g0 (.fldA 65 (.t 8) 3 none), g0 (.load 66 (.t 65) none (some 8) false), g0 (.len 67 .slice (.t 66) false), g0 (.bin 68 .eql (.t 67) (.c (.int .i64 1))), g0 (.store (.t 6) (.t 64) 6 (some 6)), g0 (.mv 7 (.t 68))])
  (.ret))
  (.seq (.ops [g0 (.bin 70 .eql (.t 45) (.c (.int .i64 33))), g0 (.mv 69 (.t 70))])
  (.cond (.t 69) (.seq (.ops [g0 (.load 71 (.t 8) (some 6) (some 8) false), g0 (.fldA 72 (.t 8) 3 none), g0 (.load 73 (.t 72) none (some 8) false), g0 (.len 74 .slice (.t 73) false), g0 (.bin 75 .eql (.t 74) (.c (.int .i64 3))), g0 (.store (.t 6) (.t 71) 6 (some 6)), g0 (.mv 7 (.t 75))])
  (.ret))
  (.skip)))))))))
  (.seq (.seq (.ops [g0 (.fldA 76 (.t 8) 3 none), g0 (.load 77 (.t 76) none (some 8) false), g0 (.len 78 .slice (.t 77) false), g0 (.mv 79 (.c (.int .i64 0)))])
  (.block 1 (.loop L18_0)))
  (.seq (.ops [g0 (.load 94 (.t 8) (some 6) (some 8) false), g0 (.fldA 95 (.t 8) 3 none), g0 (.load 96 (.t 95) none (some 8) false), g0 (.len 97 .slice (.t 96) false), g0 (.bin 98 .gtr (.t 97) (.c (.int .i64 0))), g0 (.store (.t 6) (.t 94) 6 (some 6)), g0 (.mv 7 (.t 98))])
  (.ret)))))),
  [.cell 6 (some 6) (some 6), .t 7]⟩
/-- notary/typer.Literal -/
def F19 : IFunc := ⟨.pure, .seq (.ops [g0 (.boxL 1 6 (some (.t 0)) []), g0 (.boxL 2 6 none [(.int .i64 0), (.int .i64 0), (.str []), .nils, (.int .i64 0), (.int .i64 0)])])
  (.seq (.seq (.ops [g0 (.fldA 3 (.t 1) 0 none), g0 (.load 4 (.t 3) none (some 1) false)])
  (.block 0 (.seq (.ops [g0 (.bin 6 .eql (.t 4) (.c (.int .i64 5))), g0 (.mv 5 (.t 6))])
  (.cond (.t 5) (.seq (.ops [g0 (.build 7 [(.int .i64 0), (.int .i64 0), (.str []), .nils, (.int .i64 0), (.int .i64 0)] [(0, 1, (.c (.int .i64 1)))]), g0 (.store (.t 2) (.t 7) 6 (some 2))])
  (.ret))
  (.seq (.ops [g0 (.bin 9 .eql (.t 4) (.c (.int .i64 6))), g0 (.mv 8 (.t 9))])
  (.cond (.t 8) (.seq (.ops [g0 (.build 10 [(.int .i64 0), (.int .i64 0), (.str []), .nils, (.int .i64 0), (.int .i64 0)] [(0, 1, (.c (.int .i64 2)))]), g0 (.store (.t 2) (.t 10) 6 (some 2))])
  (.ret))
  (.skip)))))))
  (.seq (.ops [g0 (.build 11 [(.int .i64 0), (.int .i64 0), (.str []), .nils, (.int .i64 0), (.int .i64 0)] []), g0 (.store (.t 2) (.t 11) 6 (some 2))])
  (.ret))),
  [.cell 2 (some 6) (some 2)]⟩
/-- notary/typer.leaf -/
def F20 : IFunc := ⟨.pure, .seq (.ops [g0 (.boxL 2 6 (some (.t 0)) []), g0 (.boxL 3 6 (some (.t 1)) []), g0 (.boxL 4 6 none [(.int .i64 0), (.int .i64 0), (.str []), .nils, (.int .i64 0), (.int .i64 0)])])
  (.seq (.seq (.ops [g0 (.fldA 5 (.t 2) 0 none), g0 (.load 6 (.t 5) none (some 2) false)])
  (.block 0 (.seq (.seq (.ops [g0 (.bin 8 .eql (.t 6) (.c (.int .i64 5))), g0 (.mv 7 (.t 8))])
  (.cond (.t 7) (.skip)
  (.ops [g0 (.bin 9 .eql (.t 6) (.c (.int .i64 18))), g0 (.mv 7 (.t 9))])))
  (.cond (.t 7) (.seq (.ops [g0 (.build 10 [(.int .i64 0), (.int .i64 0), (.str []), .nils, (.int .i64 0), (.int .i64 0)] [(0, 1, (.c (.int .i64 1)))]), g0 (.store (.t 4) (.t 10) 6 (some 4))])
  (.ret))
  (.seq (.ops [g0 (.bin 12 .eql (.t 6) (.c (.int .i64 6))), g0 (.mv 11 (.t 12))])
  (.cond (.t 11) (.seq (.ops [g0 (.build 13 [(.int .i64 0), (.int .i64 0), (.str []), .nils, (.int .i64 0), (.int .i64 0)] [(0, 1, (.c (.int .i64 2)))]), g0 (.store (.t 4) (.t 13) 6 (some 4))])
  (.ret))
  (.skip)))))))
  (.seq (.ops [g0 (.load 14 (.t 3) (some 6) (some 3) false), g0 (.call (some 15) 26 [(.t 14)]), g0 (.store (.t 4) (.t 15) 6 (some 4))])
  (.ret))),
  [.cell 4 (some 6) (some 4)]⟩
/-- notary/typer.binary -/
def F21 : IFunc := ⟨.pure, .seq (.ops [g0 (.boxL 4 6 (some (.t 1)) []), g0 (.boxL 5 6 (some (.t 2)) []), g0 (.boxL 6 6 none [(.int .i64 0), (.int .i64 0), (.str []), .nils, (.int .i64 0), (.int .i64 0)])])
  (.seq (.ops [g0 (.load 9 (.t 4) (some 6) (some 4) false), g0 (.call (some 10) 22 [(.t 9), (.c (.int .i64 1))]), g0 (.mv 11 (.t 10)), g1 11 true (.load 12 (.t 5) (some 6) (some 5) false), g1 11 true (.call (some 13) 22 [(.t 12), (.c (.int .i64 1))]), g0 (.pick 14 (.t 11) (.t 13) (.c (.bool false))), g0 (.mv 7 (.t 14))])
  (.seq (.ops [g0 (.load 15 (.t 4) (some 6) (some 4) false), g0 (.call (some 16) 22 [(.t 15), (.c (.int .i64 2))]), g0 (.mv 17 (.t 16)), g1 17 true (.load 18 (.t 5) (some 6) (some 5) false), g1 17 true (.call (some 19) 22 [(.t 18), (.c (.int .i64 2))]), g0 (.pick 20 (.t 17) (.t 19) (.c (.bool false))), g0 (.mv 8 (.t 20))])
  (.seq (.block 0 (.seq (.seq (.ops [g0 (.mv 22 (.t 0)), g0 (.bin 23 .leq (.t 22) (.c (.int .i64 2))), g0 (.mv 24 (.t 23)), g1 24 true (.mv 25 (.t 8)), g0 (.pick 26 (.t 24) (.t 25) (.c (.bool false))), g0 (.mv 21 (.t 26))])
  (.cond (.t 21) (.skip)
  (.seq (.ops [g0 (.mv 27 (.t 0)), g0 (.bin 28 .geq (.t 27) (.c (.int .i64 3))), g0 (.mv 29 (.t 28)), g1 29 true (.mv 30 (.t 0)), g1 29 true (.bin 31 .leq (.t 30) (.c (.int .i64 4))), g0 (.pick 32 (.t 29) (.t 31) (.c (.bool false))), g0 (.mv 33 (.t 32)), g1 33 true (.mv 34 (.t 7)), g1 33 true (.mv 35 (.t 34)), g1 35 false (.mv 36 (.t 8)), g1 33 true (.pick 37 (.t 35) (.c (.bool true)) (.t 36)), g0 (.pick 38 (.t 33) (.t 37) (.c (.bool false))), g0 (.mv 21 (.t 38))])
  (.cond (.t 21) (.skip)
  (.ops [g0 (.mv 39 (.t 0)), g0 (.bin 40 .geq (.t 39) (.c (.int .i64 5))), g0 (.mv 41 (.t 40)), g1 41 true (.mv 42 (.t 0)), g1 41 true (.bin 43 .leq (.t 42) (.c (.int .i64 8))), g0 (.pick 44 (.t 41) (.t 43) (.c (.bool false))), g0 (.mv 45 (.t 44)), g1 45 true (.mv 46 (.t 7)), g0 (.pick 47 (.t 45) (.t 46) (.c (.bool false))), g0 (.mv 21 (.t 47))])))))
  (.cond (.t 21) (.seq (.ops [g0 (.build 48 [(.int .i64 0), (.int .i64 0), (.str []), .nils, (.int .i64 0), (.int .i64 0)] [(0, 1, (.c (.int .i64 2)))]), g0 (.store (.t 6) (.t 48) 6 (some 6))])
  (.ret))
  (.seq (.ops [g0 (.mv 50 (.t 0)), g0 (.bin 51 .geq (.t 50) (.c (.int .i64 9))), g0 (.mv 52 (.t 51)), g1 52 true (.mv 53 (.t 7)), g0 (.pick 54 (.t 52) (.t 53) (.c (.bool false))), g0 (.mv 49 (.t 54))])
  (.cond (.t 49) (.seq (.ops [g0 (.build 55 [(.int .i64 0), (.int .i64 0), (.str []), .nils, (.int .i64 0), (.int .i64 0)] [(0, 1, (.c (.int .i64 1)))]), g0 (.store (.t 6) (.t 55) 6 (some 6))])
  (.ret))
  (.skip))))))
  (.seq (.ops [g0 (.build 56 [(.int .i64 0), (.int .i64 0), (.str []), .nils, (.int .i64 0), (.int .i64 0)] []), g0 (.store (.t 6) (.t 56) 6 (some 6))])
  (.ret))))),
  [.cell 6 (some 6) (some 6)]⟩
/-- notary/typer.is -/
def F22 : IFunc := ⟨.pure, .seq (.ops [g0 (.boxL 2 6 (some (.t 0)) []), g0 (.mv 4 (.c (.bool false)))])
  (.seq (.ops [g0 (.fldA 5 (.t 2) 0 none), g0 (.load 6 (.t 5) none (some 2) false), g0 (.mv 7 (.t 1)), g0 (.bin 8 .eql (.t 6) (.t 7)), g0 (.mv 9 (.t 8)), g1 9 true (.fldA 10 (.t 2) 3 none), g1 9 true (.load 11 (.t 10) none (some 2) false), g1 9 true (.len 12 .slice (.t 11) false), g1 9 true (.bin 13 .eql (.t 12) (.c (.int .i64 0))), g0 (.pick 14 (.t 9) (.t 13) (.c (.bool false))), g0 (.mv 4 (.t 14))])
  (.ret)),
  [.t 4]⟩
def L23_0 : Ic := .seq (.ops [g0 (.bin 55 .lss (.t 54) (.t 53))])
  (.seq (.cond (.t 55) (.skip)
  (.exit 0))
  (.seq (.block 1 (.seq (.ops [g0 (.mv 56 (.t 54)), g0 (.idxA 57 (.t 52) (.t 54) 6 (some 6) none), g0 (.load 58 (.t 57) (some 6) none false), g0 (.boxL 14 6 none [(.int .i64 0), (.int .i64 0), (.str []), .nils, (.int .i64 0), (.int .i64 0)]), g0 (.mv 13 (.t 56)), g0 (.store (.t 14) (.t 58) 6 (some 14))])
  (.seq (.ops [g0 (.fldA 59 (.t 14) 2 none), g0 (.load 60 (.t 59) none (some 14) false), g0 (.fldA 61 (.t 4) 2 none), g0 (.load 62 (.t 61) none (some 4) false), g0 (.bin 63 .eql (.t 60) (.t 62)), g0 (.mv 64 (.t 63)), g1 64 true (.mv 65 (.t 13)), g1 64 true (.bin 66 .lss (.t 65) (.c (.int .i64 64))), g0 (.pick 67 (.t 64) (.t 66) (.c (.bool false)))])
  (.cond (.t 67) (.seq (.ops [g0 (.fldA 68 (.t 5) 1 none), g0 (.load 69 (.t 68) none (some 5) false), g0 (.bin 70 .mul (.t 69) (.c (.int .i64 64))), g0 (.mv 71 (.t 13)), g0 (.bin 72 .add (.t 70) (.t 71)), g0 (.fldA 73 (.t 14) 3 none), g0 (.load 74 (.t 73) none (some 14) false), g0 (.idxA 75 (.t 74) (.c (.int .i64 0)) 6 (some 6) none), g0 (.load 76 (.t 75) (some 6) none false), g0 (.call (some 77) 26 [(.t 76)]), g0 (.mv 6 (.t 72)), g0 (.store (.t 7) (.t 77) 6 (some 7)), g0 (.mv 8 (.c (.bool true)))])
  (.ret))
  (.skip)))))
  (.ops [g0 (.bin 78 .add (.t 54) (.c (.int .i64 1))), g0 (.mv 54 (.t 78))])))
/-- (*notary/typer.typer).field -/
def F23 : IFunc := ⟨.pop, .seq (.ops [g0 (.boxL 4 6 (some (.t 1)) []), g0 (.boxL 5 6 (some (.t 2)) []), g0 (.mv 6 (.c (.int .i64 0))), g0 (.boxL 7 6 none [(.int .i64 0), (.int .i64 0), (.str []), .nils, (.int .i64 0), (.int .i64 0)]), g0 (.mv 8 (.c (.bool false)))])
  (.seq (.ops [g0 (.mv 16 (.t 0)), g0 (.fldA 17 (.t 5) 1 none), g0 (.load 18 (.t 17) none (some 5) false), g0 (.call (some 19) 18 [(.t 16), (.t 18), (.c (.int .i64 30))]), g0 (.mv 15 (.t 19)), g0 (.ext 20 (.t 15) 0), g0 (.ext 21 (.t 15) 1), g0 (.boxL 9 6 none [(.int .i64 0), (.int .i64 0), (.str []), .nils, (.int .i64 0), (.int .i64 0)]), g0 (.store (.t 9) (.t 20) 6 (some 9)), g0 (.mv 10 (.t 21))])
  (.seq (.seq (.ops [g0 (.mv 22 (.t 10)), g0 (.un 23 .not (.t 22))])
  (.cond (.t 23) (.seq (.ops [g0 (.build 24 [(.int .i64 0), (.int .i64 0), (.str []), .nils, (.int .i64 0), (.int .i64 0)] []), g0 (.mv 6 (.c (.int .i64 0))), g0 (.store (.t 7) (.t 24) 6 (some 7)), g0 (.mv 8 (.c (.bool false)))])
  (.ret))
  (.skip)))
  (.seq (.seq (.ops [g0 (.fldA 25 (.t 4) 2 none), g0 (.load 26 (.t 25) none (some 4) false), g0 (.bin 27 .eql (.t 26) (.c (.str [])))])
  (.cond (.t 27) (.seq (.ops [g0 (.mv 29 (.t 0)), g0 (.nilc (some 30) (.t 29)), g0 (.fldA 31 (.t 30) 0 (some 6)), g0 (.load 32 (.t 31) (some 6) none false), g0 (.fldA 33 (.t 4) 1 none), g0 (.load 34 (.t 33) none (some 4) false), g0 (.call (some 35) 27 [(.t 32), (.t 34)]), g0 (.mv 28 (.t 35)), g0 (.ext 36 (.t 28) 0), g0 (.ext 37 (.t 28) 1), g0 (.boxL 11 6 none [(.int .i64 0), (.int .i64 0), (.str []), .nils, (.int .i64 0), (.int .i64 0)]), g0 (.store (.t 11) (.t 36) 6 (some 11)), g0 (.mv 12 (.t 37))])
  (.seq (.ops [g0 (.fldA 38 (.t 4) 1 none), g0 (.load 39 (.t 38) none (some 4) false), g0 (.load 40 (.t 11) (some 6) (some 11) false), g0 (.call (some 41) 26 [(.t 40)]), g0 (.mv 42 (.t 12)), g0 (.mv 43 (.t 42)), g1 43 true (.fldA 44 (.t 4) 1 none), g1 43 true (.load 45 (.t 44) none (some 4) false), g1 43 true (.bin 46 .quo (.t 45) (.c (.int .i64 64))), g1 43 true (.fldA 47 (.t 5) 1 none), g1 43 true (.load 48 (.t 47) none (some 5) false), g1 43 true (.bin 49 .eql (.t 46) (.t 48)), g0 (.pick 50 (.t 43) (.t 49) (.c (.bool false))), g0 (.mv 6 (.t 39)), g0 (.store (.t 7) (.t 41) 6 (some 7)), g0 (.mv 8 (.t 50))])
  (.ret)))
  (.skip)))
  (.seq (.seq (.ops [g0 (.fldA 51 (.t 9) 3 none), g0 (.load 52 (.t 51) none (some 9) false), g0 (.len 53 .slice (.t 52) false), g0 (.mv 54 (.c (.int .i64 0)))])
  (.block 0 (.loop L23_0)))
  (.seq (.ops [g0 (.build 79 [(.int .i64 0), (.int .i64 0), (.str []), .nils, (.int .i64 0), (.int .i64 0)] []), g0 (.mv 6 (.c (.int .i64 0))), g0 (.store (.t 7) (.t 79) 6 (some 7)), g0 (.mv 8 (.c (.bool false)))])
  (.ret)))))),
  [.t 6, .cell 7 (some 6) (some 7), .t 8]⟩
def L24_0 : Ic := .seq (.ops [g0 (.bin 12 .lss (.t 11) (.t 10))])
  (.seq (.cond (.t 12) (.skip)
  (.exit 0))
  (.seq (.block 1 (.seq (.ops [g0 (.idxA 13 (.t 9) (.t 11) 6 (some 6) none), g0 (.load 14 (.t 13) (some 6) none false), g0 (.boxL 7 6 none [(.int .i64 0), (.int .i64 0), (.str []), .nils, (.int .i64 0), (.int .i64 0)]), g0 (.store (.t 7) (.t 14) 6 (some 7))])
  (.seq (.ops [g0 (.load 15 (.t 7) (some 6) (some 7) false), g0 (.mv 16 (.t 1)), g0 (.idxA 17 (.t 16) (.c (.int .i64 0)) 6 (some 6) none), g0 (.load 18 (.t 17) (some 6) none false), g0 (.call (some 19) 28 [(.t 15), (.t 18)]), g0 (.un 20 .not (.t 19))])
  (.cond (.t 20) (.seq (.ops [g0 (.build 21 [(.int .i64 0), (.int .i64 0), (.str []), .nils, (.int .i64 0), (.int .i64 0)] []), g0 (.store (.t 4) (.t 21) 6 (some 4)), g0 (.mv 5 (.c (.int .i64 10)))])
  (.ret))
  (.skip)))))
  (.ops [g0 (.bin 22 .add (.t 11) (.c (.int .i64 1))), g0 (.mv 11 (.t 22))])))
/-- (*notary/typer.typer).list -/
def F24 : IFunc := ⟨.cut, .seq (.ops [g0 (.boxL 4 6 none [(.int .i64 0), (.int .i64 0), (.str []), .nils, (.int .i64 0), (.int .i64 0)]), g0 (.mv 5 (.c (.int .i64 0)))])
  (.seq (.seq (.ops [g0 (.mv 9 (.t 1)), g0 (.len 10 .slice (.t 9) false), g0 (.mv 11 (.c (.int .i64 0)))])
  (.block 0 (.loop L24_0)))
  (.seq (.ops [g0 (.mv 23 (.t 1)), g0 (.len 24 .slice (.t 23) false), g0 (.mv 25 (.t 1)), g0 (.slc 26 (some 6) (.t 25) none (some (.c (.int .i64 1))) (some (.c (.int .i64 1)))), g0 (.build 27 [(.int .i64 0), (.int .i64 0), (.str []), .nils, (.int .i64 0), (.int .i64 0)] [(0, 1, (.c (.int .i64 3))), (1, 1, (.t 24)), (3, 1, (.t 26))]), g0 (.boxL 8 6 none [(.int .i64 0), (.int .i64 0), (.str []), .nils, (.int .i64 0), (.int .i64 0)]), g0 (.store (.t 8) (.t 27) 6 (some 8))])
  (.seq (.seq (.ops [g0 (.mv 28 (.t 0)), g0 (.nilc (some 29) (.t 28)), g0 (.fldA 30 (.t 29) 0 (some 6)), g0 (.load 31 (.t 30) (some 6) none false), g0 (.load 32 (.t 8) (some 6) (some 8) false), g0 (.call (some 33) 29 [(.t 31), (.t 32)]), g0 (.bin 34 .eql (.t 33) (.c (.int .i64 0)))])
  (.cond (.t 34) (.seq (.ops [g0 (.build 35 [(.int .i64 0), (.int .i64 0), (.str []), .nils, (.int .i64 0), (.int .i64 0)] []), g0 (.store (.t 4) (.t 35) 6 (some 4)), g0 (.mv 5 (.c (.int .i64 11)))])
  (.ret))
  (.skip)))
  (.seq (.ops [g0 (.load 36 (.t 8) (some 6) (some 8) false), g0 (.store (.t 4) (.t 36) 6 (some 4)), g0 (.mv 5 (.c (.int .i64 0)))])
  (.ret))))),
  [.cell 4 (some 6) (some 4), .t 5]⟩
def L25_0 : Ic := .seq (.ops [g0 (.bin 15 .lss (.t 14) (.t 13))])
  (.seq (.cond (.t 15) (.skip)
  (.exit 0))
  (.seq (.block 1 (.seq (.ops [g0 (.mv 16 (.t 14)), g0 (.idxA 17 (.t 12) (.t 14) 6 (some 6) none), g0 (.load 18 (.t 17) (some 6) none false), g0 (.boxL 6 6 none [(.int .i64 0), (.int .i64 0), (.str []), .nils, (.int .i64 0), (.int .i64 0)]), g0 (.mv 5 (.t 16)), g0 (.store (.t 6) (.t 18) 6 (some 6))])
  (.seq (.ops [g0 (.fldA 19 (.t 6) 3 none), g0 (.load 20 (.t 19) none (some 6) false), g0 (.len 21 .slice (.t 20) false), g0 (.bin 22 .neq (.t 21) (.c (.int .i64 1))), g0 (.mv 23 (.t 22)), g1 23 false (.mv 24 (.t 0)), g1 23 false (.mv 25 (.t 5)), g1 23 false (.idxA 26 (.t 24) (.t 25) 6 (some 6) none), g1 23 false (.load 27 (.t 26) (some 6) none true), g1 23 false (.fldA 28 (.t 6) 3 none), g1 23 false (.load 29 (.t 28) none (some 6) false), g1 23 false (.idxA 30 (.t 29) (.c (.int .i64 0)) 6 (some 6) none), g1 23 false (.load 31 (.t 30) (some 6) none false), g1 23 false (.call (some 32) 26 [(.t 31)]), g1 23 false (.call (some 33) 28 [(.t 27), (.t 32)]), g1 23 false (.un 34 .not (.t 33)), g0 (.pick 35 (.t 23) (.c (.bool true)) (.t 34))])
  (.cond (.t 35) (.seq (.ops [g0 (.mv 4 (.c (.bool false)))])
  (.ret))
  (.skip)))))
  (.ops [g0 (.bin 36 .add (.t 14) (.c (.int .i64 1))), g0 (.mv 14 (.t 36))])))
/-- notary/typer.all -/
def F25 : IFunc := ⟨.pure, .seq (.ops [g0 (.mv 4 (.c (.bool false)))])
  (.seq (.seq (.ops [g0 (.mv 7 (.t 0)), g0 (.len 8 .slice (.t 7) false), g0 (.mv 9 (.t 1)), g0 (.len 10 .slice (.t 9) false), g0 (.bin 11 .neq (.t 8) (.t 10))])
  (.cond (.t 11) (.seq (.ops [g0 (.mv 4 (.c (.bool false)))])
  (.ret))
  (.skip)))
  (.seq (.seq (.ops [g0 (.mv 12 (.t 1)), g0 (.len 13 .slice (.t 12) false), g0 (.mv 14 (.c (.int .i64 0)))])
  (.block 0 (.loop L25_0)))
  (.seq (.ops [g0 (.mv 4 (.c (.bool true)))])
  (.ret)))),
  [.t 4]⟩
def L26_0 : Ic := .seq (.ops [g0 (.bin 26 .lss (.t 25) (.t 24))])
  (.seq (.cond (.t 26) (.skip)
  (.exit 0))
  (.seq (.block 1 (.seq (.ops [g0 (.mv 27 (.t 25)), g0 (.idxA 28 (.t 23) (.t 25) 6 (some 6) none), g0 (.load 29 (.t 28) (some 6) none false), g0 (.boxL 5 6 none [(.int .i64 0), (.int .i64 0), (.str []), .nils, (.int .i64 0), (.int .i64 0)]), g0 (.mv 4 (.t 27)), g0 (.store (.t 5) (.t 29) 6 (some 5))])
  (.ops [g0 (.fldA 30 (.t 3) 3 none), g0 (.load 31 (.t 30) none (some 3) false), g0 (.mv 32 (.t 4)), g0 (.load 33 (.t 5) (some 6) (some 5) false), g0 (.call (some 34) 26 [(.t 33)]), g0 (.idxA 35 (.t 31) (.t 32) 6 (some 6) none), g0 (.store (.t 35) (.t 34) 6 none)])))
  (.ops [g0 (.bin 36 .add (.t 25) (.c (.int .i64 1))), g0 (.mv 25 (.t 36))])))
/-- notary/term.Bare -/
def F26 : IFunc := ⟨.pure, .seq (.ops [g0 (.boxL 1 6 (some (.t 0)) []), g0 (.boxL 2 6 none [(.int .i64 0), (.int .i64 0), (.str []), .nils, (.int .i64 0), (.int .i64 0)])])
  (.seq (.ops [g0 (.fldA 6 (.t 1) 0 none), g0 (.load 7 (.t 6) none (some 1) false), g0 (.fldA 8 (.t 1) 1 none), g0 (.load 9 (.t 8) none (some 1) false), g0 (.fldA 10 (.t 1) 2 none), g0 (.load 11 (.t 10) none (some 1) false), g0 (.build 12 [(.int .i64 0), (.int .i64 0), (.str []), .nils, (.int .i64 0), (.int .i64 0)] [(0, 1, (.t 7)), (1, 1, (.t 9)), (2, 1, (.t 11))]), g0 (.boxL 3 6 none [(.int .i64 0), (.int .i64 0), (.str []), .nils, (.int .i64 0), (.int .i64 0)]), g0 (.store (.t 3) (.t 12) 6 (some 3))])
  (.seq (.seq (.ops [g0 (.fldA 13 (.t 1) 3 none), g0 (.load 14 (.t 13) none (some 1) false), g0 (.len 15 .slice (.t 14) false), g0 (.bin 16 .gtr (.t 15) (.c (.int .i64 0)))])
  (.cond (.t 16) (.ops [g0 (.fldA 17 (.t 1) 3 none), g0 (.load 18 (.t 17) none (some 1) false), g0 (.len 19 .slice (.t 18) false), g0 (.mksl 20 6 (.agg [(.int .i64 0), (.int .i64 0), (.str []), .nils, (.int .i64 0), (.int .i64 0)]) (.t 19) (.t 19)), g0 (.fldA 21 (.t 3) 3 none), g0 (.store (.t 21) (.t 20) 1 (some 3))])
  (.skip)))
  (.seq (.seq (.ops [g0 (.fldA 22 (.t 1) 3 none), g0 (.load 23 (.t 22) none (some 1) false), g0 (.len 24 .slice (.t 23) false), g0 (.mv 25 (.c (.int .i64 0)))])
  (.block 0 (.loop L26_0)))
  (.seq (.ops [g0 (.load 37 (.t 3) (some 6) (some 3) false), g0 (.store (.t 2) (.t 37) 6 (some 2))])
  (.ret))))),
  [.cell 2 (some 6) (some 2)]⟩
/-- notary/typ.Field -/
def F27 : IFunc := ⟨.pure, .seq (.ops [g0 (.boxL 2 6 (some (.t 0)) []), g0 (.boxL 4 6 none [(.int .i64 0), (.int .i64 0), (.str []), .nils, (.int .i64 0), (.int .i64 0)]), g0 (.mv 5 (.c (.bool false)))])
  (.seq (.seq (.ops [g0 (.mv 8 (.t 1)), g0 (.bin 9 .lss (.t 8) (.c (.int .i64 0))), g0 (.mv 10 (.t 9)), g1 10 false (.mv 11 (.t 1)), g1 10 false (.bin 12 .quo (.t 11) (.c (.int .i64 64))), g1 10 false (.fldA 13 (.t 2) 3 none), g1 10 false (.load 14 (.t 13) none (some 2) false), g1 10 false (.len 15 .slice (.t 14) false), g1 10 false (.bin 16 .geq (.t 12) (.t 15)), g0 (.pick 17 (.t 10) (.c (.bool true)) (.t 16))])
  (.cond (.t 17) (.seq (.ops [g0 (.build 18 [(.int .i64 0), (.int .i64 0), (.str []), .nils, (.int .i64 0), (.int .i64 0)] []), g0 (.store (.t 4) (.t 18) 6 (some 4)), g0 (.mv 5 (.c (.bool false)))])
  (.ret))
  (.skip)))
  (.seq (.ops [g0 (.fldA 19 (.t 2) 3 none), g0 (.load 20 (.t 19) none (some 2) false), g0 (.mv 21 (.t 1)), g0 (.bin 22 .quo (.t 21) (.c (.int .i64 64))), g0 (.idxA 23 (.t 20) (.t 22) 6 (some 6) none), g0 (.load 24 (.t 23) (some 6) none false), g0 (.mv 25 (.t 1)), g0 (.bin 26 .rem (.t 25) (.c (.int .i64 64))), g0 (.boxL 6 6 none [(.int .i64 0), (.int .i64 0), (.str []), .nils, (.int .i64 0), (.int .i64 0)]), g0 (.store (.t 6) (.t 24) 6 (some 6)), g0 (.mv 7 (.t 26))])
  (.seq (.seq (.ops [g0 (.fldA 27 (.t 6) 0 none), g0 (.load 28 (.t 27) none (some 6) false), g0 (.bin 29 .neq (.t 28) (.c (.int .i64 30))), g0 (.mv 30 (.t 29)), g1 30 false (.mv 31 (.t 7)), g1 30 false (.fldA 32 (.t 6) 3 none), g1 30 false (.load 33 (.t 32) none (some 6) false), g1 30 false (.len 34 .slice (.t 33) false), g1 30 false (.bin 35 .geq (.t 31) (.t 34)), g0 (.pick 36 (.t 30) (.c (.bool true)) (.t 35)), g0 (.mv 37 (.t 36)), g1 37 false (.fldA 38 (.t 6) 3 none), g1 37 false (.load 39 (.t 38) none (some 6) false), g1 37 false (.mv 40 (.t 7)), g1 37 false (.idxA 41 (.t 39) (.t 40) 6 (some 6) none), g1 37 false (.fldA 42 (.t 41) 0 none), g1 37 false (.load 43 (.t 42) none none false), g1 37 false (.bin 44 .neq (.t 43) (.c (.int .i64 34))), g0 (.pick 45 (.t 37) (.c (.bool true)) (.t 44)), g0 (.mv 46 (.t 45)), g1 46 false (.fldA 47 (.t 6) 3 none), g1 46 false (.load 48 (.t 47) none (some 6) false), g1 46 false (.mv 49 (.t 7)), g1 46 false (.idxA 50 (.t 48) (.t 49) 6 (some 6) none), g1 46 false (.fldA 51 (.t 50) 3 none), g1 46 false (.load 52 (.t 51) none none false), g1 46 false (.len 53 .slice (.t 52) false), g1 46 false (.bin 54 .neq (.t 53) (.c (.int .i64 1))), g0 (.pick 55 (.t 46) (.c (.bool true)) (.t 54))])
  (.cond (.t 55) (.seq (.ops [g0 (.build 56 [(.int .i64 0), (.int .i64 0), (.str []), .nils, (.int .i64 0), (.int .i64 0)] []), g0 (.store (.t 4) (.t 56) 6 (some 4)), g0 (.mv 5 (.c (.bool false)))])
  (.ret))
  (.skip)))
  (.seq (.ops [g0 (.fldA 57 (.t 6) 3 none), g0 (.load 58 (.t 57) none (some 6) false), g0 (.mv 59 (.t 7)), g0 (.idxA 60 (.t 58) (.t 59) 6 (some 6) none), g0 (.fldA 61 (.t 60) 3 none), g0 (.load 62 (.t 61) none none false), g0 (.idxA 63 (.t 62) (.c (.int .i64 0)) 6 (some 6) none), g0 (.load 64 (.t 63) (some 6) none false), g0 (.store (.t 4) (.t 64) 6 (some 4)), g0 (.mv 5 (.c (.bool true)))])
  (.ret))))),
  [.cell 4 (some 6) (some 4), .t 5]⟩
/-- notary/term.Same -/
def F28 : IFunc := ⟨.pure, .seq (.ops [g0 (.boxL 2 6 (some (.t 0)) []), g0 (.boxL 3 6 (some (.t 1)) []), g0 (.mv 4 (.c (.bool false)))])
  (.seq (.ops [g0 (.fldA 5 (.t 2) 0 none), g0 (.load 6 (.t 5) none (some 2) false), g0 (.fldA 7 (.t 3) 0 none), g0 (.load 8 (.t 7) none (some 3) false), g0 (.bin 9 .eql (.t 6) (.t 8)), g0 (.mv 10 (.t 9)), g1 10 true (.fldA 11 (.t 2) 1 none), g1 10 true (.load 12 (.t 11) none (some 2) false), g1 10 true (.fldA 13 (.t 3) 1 none), g1 10 true (.load 14 (.t 13) none (some 3) false), g1 10 true (.bin 15 .eql (.t 12) (.t 14)), g0 (.pick 16 (.t 10) (.t 15) (.c (.bool false))), g0 (.mv 17 (.t 16)), g1 17 true (.fldA 18 (.t 2) 2 none), g1 17 true (.load 19 (.t 18) none (some 2) false), g1 17 true (.fldA 20 (.t 3) 2 none), g1 17 true (.load 21 (.t 20) none (some 3) false), g1 17 true (.bin 22 .eql (.t 19) (.t 21)), g0 (.pick 23 (.t 17) (.t 22) (.c (.bool false))), g0 (.mv 24 (.t 23)), g1 24 true (.fldA 25 (.t 2) 3 none), g1 24 true (.load 26 (.t 25) none (some 2) false), g1 24 true (.fldA 27 (.t 3) 3 none), g1 24 true (.load 28 (.t 27) none (some 3) false), g1 24 true (.call (some 29) 30 [(.t 26), (.t 28), (.f 28)]), g0 (.pick 30 (.t 24) (.t 29) (.c (.bool false))), g0 (.mv 4 (.t 30))])
  (.ret)),
  [.t 4]⟩
/-- notary/typ.Cells -/
def F29 : IFunc := ⟨.pure, .seq (.ops [g0 (.boxL 2 6 (some (.t 0)) []), g0 (.boxL 3 6 (some (.t 1)) []), g0 (.mv 4 (.c (.int .i64 0)))])
  (.seq (.ops [g0 (.load 5 (.t 2) (some 6) (some 2) false), g0 (.build 6 [(.int .i64 0), (.int .i64 0), (.str []), .nils, (.int .i64 0), (.int .i64 0), (.int .i64 0)] [(0, 6, (.t 5))]), g0 (.load 7 (.t 3) (some 6) (some 3) false), g0 (.call (some 8) 31 [(.t 6), (.t 7)]), g0 (.mv 4 (.t 8))])
  (.ret)),
  [.t 4]⟩
def L30_0 : Ic := .seq (.ops [g0 (.bin 18 .lss (.t 17) (.t 16))])
  (.seq (.cond (.t 18) (.skip)
  (.exit 0))
  (.seq (.block 1 (.seq (.ops [g0 (.mv 19 (.t 17)), g0 (.idxA 20 (.t 15) (.t 17) 6 (some 6) none), g0 (.load 21 (.t 20) (some 6) none false), g0 (.boxL 8 6 none [(.int .i64 0), (.int .i64 0), (.str []), .nils, (.int .i64 0), (.int .i64 0)]), g0 (.mv 7 (.t 19)), g0 (.store (.t 8) (.t 21) 6 (some 8))])
  (.seq (.ops [g0 (.mv 22 (.t 1)), g0 (.mv 23 (.t 7)), g0 (.idxA 24 (.t 22) (.t 23) 6 (some 6) none), g0 (.load 25 (.t 24) (some 6) none false), g0 (.boxL 9 6 none [(.int .i64 0), (.int .i64 0), (.str []), .nils, (.int .i64 0), (.int .i64 0)]), g0 (.store (.t 9) (.t 25) 6 (some 9))])
  (.seq (.ops [g0 (.mv 26 (.t 2)), g0 (.load 27 (.t 8) (some 6) (some 8) false), g0 (.load 28 (.t 9) (some 6) (some 9) false), g0 (.callV (some 29) (.t 26) [(.t 27), (.t 28)]), g0 (.un 30 .not (.t 29))])
  (.cond (.t 30) (.seq (.ops [g0 (.mv 6 (.c (.bool false)))])
  (.ret))
  (.skip))))))
  (.ops [g0 (.bin 31 .add (.t 17) (.c (.int .i64 1))), g0 (.mv 17 (.t 31))])))
/-- slices.EqualFunc[[]notary/api.Term,[]notary/api.Term,notary/api.Term,notary/api.Term] -/
def F30 : IFunc := ⟨.pure, .seq (.ops [g0 (.mv 6 (.c (.bool false)))])
  (.seq (.seq (.ops [g0 (.mv 10 (.t 0)), g0 (.len 11 .slice (.t 10) false), g0 (.mv 12 (.t 1)), g0 (.len 13 .slice (.t 12) false), g0 (.bin 14 .neq (.t 11) (.t 13))])
  (.cond (.t 14) (.seq (.ops [g0 (.mv 6 (.c (.bool false)))])
  (.ret))
  (.skip)))
  (.seq (.seq (.ops [g0 (.mv 15 (.t 0)), g0 (.len 16 .slice (.t 15) false), g0 (.mv 17 (.c (.int .i64 0)))])
  (.block 0 (.loop L30_0)))
  (.seq (.ops [g0 (.mv 6 (.c (.bool true)))])
  (.ret)))),
  [.t 6]⟩
/-- (notary/typ.meter).cells -/
def F31 : IFunc := ⟨.pure, .seq (.ops [g0 (.boxL 2 7 (some (.t 0)) []), g0 (.boxL 3 6 (some (.t 1)) []), g0 (.mv 4 (.c (.int .i64 0)))])
  (.seq (.block 0 (.seq (.ops [g0 (.fldA 6 (.t 3) 0 none), g0 (.load 7 (.t 6) none (some 3) false), g0 (.bin 8 .eql (.t 7) (.c (.int .i64 1))), g0 (.mv 9 (.t 8)), g1 9 false (.fldA 10 (.t 3) 0 none), g1 9 false (.load 11 (.t 10) none (some 3) false), g1 9 false (.bin 12 .eql (.t 11) (.c (.int .i64 2))), g0 (.pick 13 (.t 9) (.c (.bool true)) (.t 12)), g0 (.mv 14 (.t 13)), g1 14 true (.fldA 15 (.t 3) 3 none), g1 14 true (.load 16 (.t 15) none (some 3) false), g1 14 true (.len 17 .slice (.t 16) false), g1 14 true (.bin 18 .eql (.t 17) (.c (.int .i64 0))), g0 (.pick 19 (.t 14) (.t 18) (.c (.bool false))), g0 (.mv 5 (.t 19))])
  (.cond (.t 5) (.seq (.ops [g0 (.mv 4 (.c (.int .i64 1)))])
  (.ret))
  (.seq (.ops [g0 (.fldA 21 (.t 3) 0 none), g0 (.load 22 (.t 21) none (some 3) false), g0 (.bin 23 .eql (.t 22) (.c (.int .i64 3))), g0 (.mv 24 (.t 23)), g1 24 true (.fldA 25 (.t 3) 3 none), g1 24 true (.load 26 (.t 25) none (some 3) false), g1 24 true (.len 27 .slice (.t 26) false), g1 24 true (.bin 28 .eql (.t 27) (.c (.int .i64 1))), g0 (.pick 29 (.t 24) (.t 28) (.c (.bool false))), g0 (.mv 20 (.t 29))])
  (.cond (.t 20) (.seq (.ops [g0 (.fldA 30 (.t 3) 1 none), g0 (.load 31 (.t 30) none (some 3) false), g0 (.load 32 (.t 2) (some 7) (some 2) false), g0 (.fldA 33 (.t 3) 3 none), g0 (.load 34 (.t 33) none (some 3) false), g0 (.idxA 35 (.t 34) (.c (.int .i64 0)) 6 (some 6) none), g0 (.load 36 (.t 35) (some 6) none false), g0 (.call (some 37) 31 [(.t 32), (.t 36)]), g0 (.call (some 38) 32 [(.t 31), (.t 37)]), g0 (.mv 4 (.t 38))])
  (.ret))
  (.seq (.ops [g0 (.fldA 40 (.t 3) 0 none), g0 (.load 41 (.t 40) none (some 3) false), g0 (.bin 42 .eql (.t 41) (.c (.int .i64 4))), g0 (.mv 43 (.t 42)), g1 43 true (.fldA 44 (.t 3) 3 none), g1 43 true (.load 45 (.t 44) none (some 3) false), g1 43 true (.len 46 .slice (.t 45) false), g1 43 true (.bin 47 .eql (.t 46) (.c (.int .i64 0))), g0 (.pick 48 (.t 43) (.t 47) (.c (.bool false))), g0 (.mv 39 (.t 48))])
  (.cond (.t 39) (.seq (.ops [g0 (.load 49 (.t 2) (some 7) (some 2) false), g0 (.fldA 50 (.t 3) 1 none), g0 (.load 51 (.t 50) none (some 3) false), g0 (.call (some 52) 33 [(.t 49), (.t 51)]), g0 (.mv 4 (.t 52))])
  (.ret))
  (.skip))))))))
  (.seq (.ops [g0 (.mv 4 (.c (.int .i64 0)))])
  (.ret))),
  [.t 4]⟩
/-- notary/typ.product -/
def F32 : IFunc := ⟨.pure, .seq (.ops [g0 (.mv 4 (.c (.int .i64 0)))])
  (.seq (.seq (.ops [g0 (.mv 5 (.t 0)), g0 (.bin 6 .lss (.t 5) (.c (.int .i64 1))), g0 (.mv 7 (.t 6)), g1 7 false (.mv 8 (.t 0)), g1 7 false (.bin 9 .gtr (.t 8) (.c (.int .i64 16))), g0 (.pick 10 (.t 7) (.c (.bool true)) (.t 9)), g0 (.mv 11 (.t 10)), g1 11 false (.mv 12 (.t 0)), g1 11 false (.mv 13 (.t 1)), g1 11 false (.bin 14 .mul (.t 12) (.t 13)), g1 11 false (.bin 15 .gtr (.t 14) (.c (.int .i64 64))), g0 (.pick 16 (.t 11) (.c (.bool true)) (.t 15))])
  (.cond (.t 16) (.seq (.ops [g0 (.mv 4 (.c (.int .i64 0)))])
  (.ret))
  (.skip)))
  (.seq (.ops [g0 (.mv 17 (.t 0)), g0 (.mv 18 (.t 1)), g0 (.bin 19 .mul (.t 17) (.t 18)), g0 (.mv 4 (.t 19))])
  (.ret))),
  [.t 4]⟩
def L33_0 : Ic := .seq (.ops [g0 (.bin 46 .lss (.t 45) (.t 44))])
  (.seq (.cond (.t 46) (.skip)
  (.exit 0))
  (.seq (.block 1 (.seq (.ops [g0 (.mv 47 (.t 45)), g0 (.mv 7 (.t 47))])
  (.seq (.ops [g0 (.fldA 48 (.t 5) 3 none), g0 (.load 49 (.t 48) none (some 5) false), g0 (.mv 50 (.t 7)), g0 (.idxA 51 (.t 49) (.t 50) 6 (some 6) none), g0 (.load 52 (.t 51) (some 6) none false), g0 (.boxL 8 6 none [(.int .i64 0), (.int .i64 0), (.str []), .nils, (.int .i64 0), (.int .i64 0)]), g0 (.store (.t 8) (.t 52) 6 (some 8))])
  (.seq (.seq (.ops [g0 (.fldA 53 (.t 8) 0 none), g0 (.load 54 (.t 53) none (some 8) false), g0 (.bin 55 .neq (.t 54) (.c (.int .i64 34))), g0 (.mv 56 (.t 55)), g1 56 false (.fldA 57 (.t 8) 3 none), g1 56 false (.load 58 (.t 57) none (some 8) false), g1 56 false (.len 59 .slice (.t 58) false), g1 56 false (.bin 60 .neq (.t 59) (.c (.int .i64 1))), g0 (.pick 61 (.t 56) (.c (.bool true)) (.t 60))])
  (.cond (.t 61) (.seq (.ops [g0 (.mv 4 (.c (.int .i64 0)))])
  (.ret))
  (.skip)))
  (.seq (.ops [g0 (.load 62 (.t 2) (some 7) (some 2) false), g0 (.fldA 63 (.t 8) 3 none), g0 (.load 64 (.t 63) none (some 8) false), g0 (.idxA 65 (.t 64) (.c (.int .i64 0)) 6 (some 6) none), g0 (.load 66 (.t 65) (some 6) none false), g0 (.call (some 67) 31 [(.t 62), (.t 66)]), g0 (.mv 9 (.t 67))])
  (.seq (.ops [g0 (.mv 68 (.t 6)), g0 (.mv 69 (.t 9)), g0 (.bin 70 .add (.t 68) (.t 69)), g0 (.mv 6 (.t 70))])
  (.seq (.ops [g0 (.mv 71 (.t 9)), g0 (.bin 72 .eql (.t 71) (.c (.int .i64 0))), g0 (.mv 73 (.t 72)), g1 73 false (.mv 74 (.t 6)), g1 73 false (.bin 75 .gtr (.t 74) (.c (.int .i64 64))), g0 (.pick 76 (.t 73) (.c (.bool true)) (.t 75))])
  (.cond (.t 76) (.seq (.ops [g0 (.mv 4 (.c (.int .i64 0)))])
  (.ret))
  (.skip)))))))))
  (.ops [g0 (.bin 77 .add (.t 45) (.c (.int .i64 1))), g0 (.mv 45 (.t 77))])))
/-- (notary/typ.meter).record -/
def F33 : IFunc := ⟨.pure, .seq (.ops [g0 (.boxL 2 7 (some (.t 0)) []), g0 (.mv 4 (.c (.int .i64 0)))])
  (.seq (.seq (.ops [g0 (.mv 10 (.t 1)), g0 (.bin 11 .lss (.t 10) (.c (.int .i64 0))), g0 (.mv 12 (.t 11)), g1 12 false (.mv 13 (.t 1)), g1 12 false (.fldA 14 (.t 2) 0 (some 6)), g1 12 false (.fldA 15 (.t 14) 3 none), g1 12 false (.load 16 (.t 15) none (some 2) false), g1 12 false (.len 17 .slice (.t 16) false), g1 12 false (.bin 18 .geq (.t 13) (.t 17)), g0 (.pick 19 (.t 12) (.c (.bool true)) (.t 18)), g0 (.mv 20 (.t 19)), g1 20 false (.fldA 21 (.t 2) 6 none), g1 20 false (.load 22 (.t 21) none (some 2) false), g1 20 false (.fldA 23 (.t 2) 0 (some 6)), g1 20 false (.fldA 24 (.t 23) 3 none), g1 20 false (.load 25 (.t 24) none (some 2) false), g1 20 false (.len 26 .slice (.t 25) false), g1 20 false (.bin 27 .gtr (.t 22) (.t 26)), g0 (.pick 28 (.t 20) (.c (.bool true)) (.t 27))])
  (.cond (.t 28) (.seq (.ops [g0 (.mv 4 (.c (.int .i64 0)))])
  (.ret))
  (.skip)))
  (.seq (.ops [g0 (.fldA 29 (.t 2) 0 (some 6)), g0 (.fldA 30 (.t 29) 3 none), g0 (.load 31 (.t 30) none (some 2) false), g0 (.mv 32 (.t 1)), g0 (.idxA 33 (.t 31) (.t 32) 6 (some 6) none), g0 (.load 34 (.t 33) (some 6) none false), g0 (.boxL 5 6 none [(.int .i64 0), (.int .i64 0), (.str []), .nils, (.int .i64 0), (.int .i64 0)]), g0 (.store (.t 5) (.t 34) 6 (some 5))])
  (.seq (.seq (.ops [g0 (.fldA 35 (.t 5) 0 none), g0 (.load 36 (.t 35) none (some 5) false), g0 (.bin 37 .neq (.t 36) (.c (.int .i64 30)))])
  (.cond (.t 37) (.seq (.ops [g0 (.mv 4 (.c (.int .i64 0)))])
  (.ret))
  (.skip)))
  (.seq (.ops [g0 (.fldA 38 (.t 2) 6 none), g0 (.load 39 (.t 38) none (some 2) false), g0 (.bin 40 .add (.t 39) (.c (.int .i64 1))), g0 (.fldA 41 (.t 2) 6 none), g0 (.store (.t 41) (.t 40) 1 (some 2))])
  (.seq (.ops [g0 (.mv 6 (.c (.int .i64 0)))])
  (.seq (.seq (.ops [g0 (.fldA 42 (.t 5) 3 none), g0 (.load 43 (.t 42) none (some 5) false), g0 (.len 44 .slice (.t 43) false), g0 (.mv 45 (.c (.int .i64 0)))])
  (.block 0 (.loop L33_0)))
  (.seq (.ops [g0 (.mv 78 (.t 6)), g0 (.mv 4 (.t 78))])
  (.ret)))))))),
  [.t 4]⟩
def T : Nat → Option IFunc
  | 3 => some F3
  | 4 => some F4
  | 5 => some F5
  | 6 => some F6
  | 7 => some F7
  | 8 => some F8
  | 9 => some F9
  | 10 => some F10
  | 11 => some F11
  | 12 => some F12
  | 13 => some F13
  | 14 => some F14
  | 15 => some F15
  | 16 => some F16
  | 17 => some F17
  | 18 => some F18
  | 19 => some F19
  | 20 => some F20
  | 21 => some F21
  | 22 => some F22
  | 23 => some F23
  | 24 => some F24
  | 25 => some F25
  | 26 => some F26
  | 27 => some F27
  | 28 => some F28
  | 29 => some F29
  | 30 => some F30
  | 31 => some F31
  | 32 => some F32
  | 33 => some F33
  | _ => none

theorem ok3 : okB Proofs.Try.prog 3 F3 = true := by kernel_rfl
theorem ok4 : okB Proofs.Try.prog 4 F4 = true := by kernel_rfl
theorem ok5 : okB Proofs.Try.prog 5 F5 = true := by kernel_rfl
theorem ok6 : okB Proofs.Try.prog 6 F6 = true := by kernel_rfl
theorem ok7 : okB Proofs.Try.prog 7 F7 = true := by kernel_rfl
theorem ok8 : okB Proofs.Try.prog 8 F8 = true := by kernel_rfl
theorem ok9 : okB Proofs.Try.prog 9 F9 = true := by kernel_rfl
theorem ok10 : okB Proofs.Try.prog 10 F10 = true := by kernel_rfl
theorem ok11 : okB Proofs.Try.prog 11 F11 = true := by kernel_rfl
theorem ok12 : okB Proofs.Try.prog 12 F12 = true := by kernel_rfl
theorem ok13 : okB Proofs.Try.prog 13 F13 = true := by kernel_rfl
theorem ok14 : okB Proofs.Try.prog 14 F14 = true := by kernel_rfl
theorem ok15 : okB Proofs.Try.prog 15 F15 = true := by kernel_rfl
theorem ok16 : okB Proofs.Try.prog 16 F16 = true := by kernel_rfl
theorem ok17 : okB Proofs.Try.prog 17 F17 = true := by kernel_rfl
theorem ok18 : okB Proofs.Try.prog 18 F18 = true := by kernel_rfl
theorem ok19 : okB Proofs.Try.prog 19 F19 = true := by kernel_rfl
theorem ok20 : okB Proofs.Try.prog 20 F20 = true := by kernel_rfl
theorem ok21 : okB Proofs.Try.prog 21 F21 = true := by kernel_rfl
theorem ok22 : okB Proofs.Try.prog 22 F22 = true := by kernel_rfl
theorem ok23 : okB Proofs.Try.prog 23 F23 = true := by kernel_rfl
theorem ok24 : okB Proofs.Try.prog 24 F24 = true := by kernel_rfl
theorem ok25 : okB Proofs.Try.prog 25 F25 = true := by kernel_rfl
theorem ok26 : okB Proofs.Try.prog 26 F26 = true := by kernel_rfl
theorem ok27 : okB Proofs.Try.prog 27 F27 = true := by kernel_rfl
theorem ok28 : okB Proofs.Try.prog 28 F28 = true := by kernel_rfl
theorem ok29 : okB Proofs.Try.prog 29 F29 = true := by kernel_rfl
theorem ok30 : okB Proofs.Try.prog 30 F30 = true := by kernel_rfl
theorem ok31 : okB Proofs.Try.prog 31 F31 = true := by kernel_rfl
theorem ok32 : okB Proofs.Try.prog 32 F32 = true := by kernel_rfl
theorem ok33 : okB Proofs.Try.prog 33 F33 = true := by kernel_rfl

theorem ok (f : Nat) (ifn : IFunc) (h : T f = some ifn) : FuncOK Proofs.Try.prog f ifn := by
  unfold T at h
  split at h
  · cases h; exact okB_ok ok3
  · cases h; exact okB_ok ok4
  · cases h; exact okB_ok ok5
  · cases h; exact okB_ok ok6
  · cases h; exact okB_ok ok7
  · cases h; exact okB_ok ok8
  · cases h; exact okB_ok ok9
  · cases h; exact okB_ok ok10
  · cases h; exact okB_ok ok11
  · cases h; exact okB_ok ok12
  · cases h; exact okB_ok ok13
  · cases h; exact okB_ok ok14
  · cases h; exact okB_ok ok15
  · cases h; exact okB_ok ok16
  · cases h; exact okB_ok ok17
  · cases h; exact okB_ok ok18
  · cases h; exact okB_ok ok19
  · cases h; exact okB_ok ok20
  · cases h; exact okB_ok ok21
  · cases h; exact okB_ok ok22
  · cases h; exact okB_ok ok23
  · cases h; exact okB_ok ok24
  · cases h; exact okB_ok ok25
  · cases h; exact okB_ok ok26
  · cases h; exact okB_ok ok27
  · cases h; exact okB_ok ok28
  · cases h; exact okB_ok ok29
  · cases h; exact okB_ok ok30
  · cases h; exact okB_ok ok31
  · cases h; exact okB_ok ok32
  · cases h; exact okB_ok ok33
  · exact absurd h (by simp)

end Go.Nt.Ty
