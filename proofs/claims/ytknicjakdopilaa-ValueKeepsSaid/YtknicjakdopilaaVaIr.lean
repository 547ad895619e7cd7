/-
  THE FUNCTIONS OF THE SEAT as the abstract machine reads them (printed by a program of ours), and that they are the program's ('ok': FuncOK, by the kernel).
  No condition.
-/
import Derived.Test.YtknicjakdopilaaNtSim
import Derived.Test.YtknicjakdopilaaChecked
namespace Go.Nt.Va
open Go Go.Nt

/-- notary/notarylaw19.ValueSets -/
def F3 : IFunc := ⟨.pure, .seq (.ops [g0 (.boxL 3 2 (some (.t 0)) []), g0 (.boxL 5 2 (some (.t 2)) []), g0 (.mv 6 (.c (.bool false)))])
  (.seq (.seq (.ops [g0 (.load 13 (.t 3) (some 2) (some 3) false), g0 (.call (some 14) 6 [(.t 13)]), g0 (.mv 15 (.t 14)), g1 15 false (.load 16 (.t 5) (some 2) (some 5) false), g1 15 false (.call (some 17) 6 [(.t 16)]), g0 (.pick 18 (.t 15) (.c (.bool true)) (.t 17)), g0 (.mv 19 (.t 18)), g1 19 false (.mv 20 (.t 1)), g1 19 false (.len 21 .slice (.t 20) false), g1 19 false (.bin 22 .gtr (.t 21) (.c (.int .i64 100))), g0 (.pick 23 (.t 19) (.c (.bool true)) (.t 22))])
  (.cond (.t 23) (.seq (.ops [g0 (.call (some 24) 7 []), g0 (.mv 6 (.t 24))])
  (.ret))
  (.skip)))
  (.seq (.ops [g0 (.load 26 (.t 3) (some 2) (some 3) false), g0 (.mv 27 (.t 1)), g0 (.call (some 28) 8 [(.t 26), (.t 27)]), g0 (.mv 25 (.t 28)), g0 (.ext 29 (.t 25) 0), g0 (.ext 30 (.t 25) 1), g0 (.boxL 7 2 none [(.int .i64 0), .nils]), g0 (.store (.t 7) (.t 29) 2 (some 7)), g0 (.mv 8 (.t 30))])
  (.seq (.ops [g0 (.load 32 (.t 3) (some 2) (some 3) false), g0 (.mv 33 (.t 1)), g0 (.load 34 (.t 5) (some 2) (some 5) false), g0 (.call (some 35) 9 [(.t 32), (.t 33), (.t 34)]), g0 (.mv 31 (.t 35)), g0 (.ext 36 (.t 31) 0), g0 (.ext 37 (.t 31) 1), g0 (.boxL 9 2 none [(.int .i64 0), .nils]), g0 (.store (.t 9) (.t 36) 2 (some 9)), g0 (.mv 10 (.t 37))])
  (.seq (.seq (.ops [g0 (.mv 38 (.t 8)), g0 (.load 39 (.t 3) (some 2) (some 3) false), g0 (.mv 40 (.t 1)), g0 (.call (some 41) 10 [(.t 39), (.t 40)]), g0 (.eqn 42 true .bool (.t 38) (.t 41)), g0 (.mv 43 (.t 42)), g1 43 false (.mv 44 (.t 10)), g1 43 false (.mv 45 (.t 8)), g1 43 false (.eqn 46 true .bool (.t 44) (.t 45)), g0 (.pick 47 (.t 43) (.c (.bool true)) (.t 46))])
  (.cond (.t 47) (.seq (.ops [g0 (.mv 6 (.c (.bool false)))])
  (.ret))
  (.skip)))
  (.seq (.seq (.ops [g0 (.mv 48 (.t 10)), g0 (.un 49 .not (.t 48))])
  (.cond (.t 49) (.seq (.ops [g0 (.load 50 (.t 7) (some 2) (some 7) false), g0 (.build 51 [(.int .i64 0), .nils] []), g0 (.call (some 52) 11 [(.t 50), (.t 51)]), g0 (.mv 53 (.t 52)), g1 53 true (.load 54 (.t 9) (some 2) (some 9) false), g1 53 true (.build 55 [(.int .i64 0), .nils] []), g1 53 true (.call (some 56) 11 [(.t 54), (.t 55)]), g0 (.pick 57 (.t 53) (.t 56) (.c (.bool false))), g0 (.mv 58 (.t 57)), g1 58 true (.call (some 59) 7 []), g0 (.pick 60 (.t 58) (.t 59) (.c (.bool false))), g0 (.mv 6 (.t 60))])
  (.ret))
  (.skip)))
  (.seq (.ops [g0 (.load 62 (.t 9) (some 2) (some 9) false), g0 (.mv 63 (.t 1)), g0 (.call (some 64) 8 [(.t 62), (.t 63)]), g0 (.mv 61 (.t 64)), g0 (.ext 65 (.t 61) 0), g0 (.ext 66 (.t 61) 1), g0 (.boxL 11 2 none [(.int .i64 0), .nils]), g0 (.store (.t 11) (.t 65) 2 (some 11)), g0 (.mv 12 (.t 66))])
  (.seq (.ops [g0 (.load 67 (.t 7) (some 2) (some 7) false), g0 (.load 68 (.t 3) (some 2) (some 3) false), g0 (.mv 69 (.t 1)), g0 (.call (some 70) 12 [(.t 68), (.t 69)]), g0 (.call (some 71) 11 [(.t 67), (.t 70)]), g0 (.mv 72 (.t 71)), g1 72 true (.mv 73 (.t 12)), g0 (.pick 74 (.t 72) (.t 73) (.c (.bool false))), g0 (.mv 75 (.t 74)), g1 75 true (.load 76 (.t 11) (some 2) (some 11) false), g1 75 true (.load 77 (.t 5) (some 2) (some 5) false), g1 75 true (.call (some 78) 11 [(.t 76), (.t 77)]), g0 (.pick 79 (.t 75) (.t 78) (.c (.bool false))), g0 (.mv 80 (.t 79)), g1 80 true (.load 81 (.t 9) (some 2) (some 9) false), g1 80 true (.load 82 (.t 3) (some 2) (some 3) false), g1 80 true (.mv 83 (.t 1)), g1 80 true (.load 84 (.t 5) (some 2) (some 5) false), g1 80 true (.call (some 85) 13 [(.t 82), (.t 83), (.t 84)]), g1 80 true (.call (some 86) 11 [(.t 81), (.t 85)]), g0 (.pick 87 (.t 80) (.t 86) (.c (.bool false))), g0 (.mv 88 (.t 87)), g1 88 true (.load 89 (.t 9) (some 2) (some 9) false), g1 88 true (.load 90 (.t 3) (some 2) (some 3) false), g1 88 true (.call (some 91) 14 [(.t 89), (.t 90)]), g1 88 true (.load 92 (.t 5) (some 2) (some 5) false), g1 88 true (.load 93 (.t 7) (some 2) (some 7) false), g1 88 true (.call (some 94) 11 [(.t 92), (.t 93)]), g1 88 true (.eqn 95 false .bool (.t 91) (.t 94)), g0 (.pick 96 (.t 88) (.t 95) (.c (.bool false))), g0 (.mv 97 (.t 96)), g1 97 true (.call (some 98) 7 []), g0 (.pick 99 (.t 97) (.t 98) (.c (.bool false))), g0 (.mv 6 (.t 99))])
  (.ret)))))))),
  [.t 6]⟩
/-- notary/notarylaw19.ValueZeroes -/
def F4 : IFunc := ⟨.pure, .seq (.ops [g0 (.boxL 3 6 (some (.t 0)) []), g0 (.boxL 4 6 (some (.t 1)) []), g0 (.boxL 5 2 (some (.t 2)) []), g0 (.mv 6 (.c (.bool false)))])
  (.seq (.seq (.ops [g0 (.load 8 (.t 3) (some 6) (some 3) false), g0 (.call (some 9) 15 [(.t 8)]), g0 (.mv 10 (.t 9)), g1 10 false (.load 11 (.t 4) (some 6) (some 4) false), g1 10 false (.call (some 12) 15 [(.t 11)]), g0 (.pick 13 (.t 10) (.c (.bool true)) (.t 12)), g0 (.mv 14 (.t 13)), g1 14 false (.load 15 (.t 5) (some 2) (some 5) false), g1 14 false (.call (some 16) 6 [(.t 15)]), g0 (.pick 17 (.t 14) (.c (.bool true)) (.t 16))])
  (.cond (.t 17) (.seq (.ops [g0 (.call (some 18) 7 []), g0 (.mv 6 (.t 18))])
  (.ret))
  (.skip)))
  (.seq (.ops [g0 (.load 19 (.t 3) (some 6) (some 3) false), g0 (.load 20 (.t 4) (some 6) (some 4) false), g0 (.call (some 21) 16 [(.t 19), (.t 20)]), g0 (.boxL 7 2 none [(.int .i64 0), .nils]), g0 (.store (.t 7) (.t 21) 2 (some 7))])
  (.seq (.ops [g0 (.load 22 (.t 7) (some 2) (some 7) false), g0 (.load 23 (.t 3) (some 6) (some 3) false), g0 (.load 24 (.t 4) (some 6) (some 4) false), g0 (.call (some 25) 17 [(.t 23), (.t 24)]), g0 (.call (some 26) 11 [(.t 22), (.t 25)]), g0 (.mv 27 (.t 26)), g1 27 true (.load 28 (.t 3) (some 6) (some 3) false), g1 27 true (.load 29 (.t 4) (some 6) (some 4) false), g1 27 true (.load 30 (.t 7) (some 2) (some 7) false), g1 27 true (.call (some 31) 18 [(.t 28), (.t 29), (.t 30)]), g1 27 true (.load 32 (.t 3) (some 6) (some 3) false), g1 27 true (.load 33 (.t 4) (some 6) (some 4) false), g1 27 true (.call (some 34) 19 [(.t 32), (.t 33)]), g1 27 true (.bin 35 .gtr (.t 34) (.c (.int .i64 0))), g1 27 true (.eqn 36 false .bool (.t 31) (.t 35)), g0 (.pick 37 (.t 27) (.t 36) (.c (.bool false))), g0 (.mv 38 (.t 37)), g1 38 true (.load 39 (.t 3) (some 6) (some 3) false), g1 38 true (.load 40 (.t 4) (some 6) (some 4) false), g1 38 true (.load 41 (.t 5) (some 2) (some 5) false), g1 38 true (.call (some 42) 18 [(.t 39), (.t 40), (.t 41)]), g1 38 true (.load 43 (.t 3) (some 6) (some 3) false), g1 38 true (.load 44 (.t 4) (some 6) (some 4) false), g1 38 true (.load 45 (.t 5) (some 2) (some 5) false), g1 38 true (.call (some 46) 20 [(.t 43), (.t 44), (.t 45)]), g1 38 true (.eqn 47 false .bool (.t 42) (.t 46)), g0 (.pick 48 (.t 38) (.t 47) (.c (.bool false))), g0 (.mv 49 (.t 48)), g1 49 true (.call (some 50) 7 []), g0 (.pick 51 (.t 49) (.t 50) (.c (.bool false))), g0 (.mv 6 (.t 51))])
  (.ret)))),
  [.t 6]⟩
/-- notary/notarylaw19.ValueKeeps -/
def F5 : IFunc := ⟨.pure, .seq (.ops [g0 (.boxL 1 14 (some (.t 0)) []), g0 (.mv 2 (.c (.bool false)))])
  (.seq (.ops [g0 (.fldA 12 (.t 1) 0 (some 6)), g0 (.load 13 (.t 12) (some 6) (some 1) false), g0 (.fldA 14 (.t 1) 6 (some 6)), g0 (.load 15 (.t 14) (some 6) (some 1) false), g0 (.fldA 16 (.t 1) 12 none), g0 (.load 17 (.t 16) none (some 1) false), g0 (.fldA 18 (.t 1) 13 none), g0 (.load 19 (.t 18) none (some 1) false), g0 (.boxL 3 6 none [(.int .i64 0), (.int .i64 0), (.str []), .nils, (.int .i64 0), (.int .i64 0)]), g0 (.boxL 4 6 none [(.int .i64 0), (.int .i64 0), (.str []), .nils, (.int .i64 0), (.int .i64 0)]), g0 (.store (.t 3) (.t 13) 6 (some 3)), g0 (.store (.t 4) (.t 15) 6 (some 4)), g0 (.mv 5 (.t 17)), g0 (.mv 6 (.t 19))])
  (.seq (.seq (.ops [g0 (.load 20 (.t 3) (some 6) (some 3) false), g0 (.call (some 21) 15 [(.t 20)]), g0 (.mv 22 (.t 21)), g1 22 false (.load 23 (.t 4) (some 6) (some 4) false), g1 22 false (.call (some 24) 15 [(.t 23)]), g0 (.pick 25 (.t 22) (.c (.bool true)) (.t 24)), g0 (.mv 26 (.t 25)), g1 26 false (.mv 27 (.t 5)), g1 26 false (.len 28 .slice (.t 27) false), g1 26 false (.bin 29 .gtr (.t 28) (.c (.int .i64 100))), g0 (.pick 30 (.t 26) (.c (.bool true)) (.t 29))])
  (.cond (.t 30) (.seq (.ops [g0 (.call (some 31) 7 []), g0 (.mv 2 (.t 31))])
  (.ret))
  (.skip)))
  (.seq (.ops [g0 (.load 32 (.t 3) (some 6) (some 3) false), g0 (.load 33 (.t 4) (some 6) (some 4) false), g0 (.call (some 34) 16 [(.t 32), (.t 33)]), g0 (.boxL 7 2 none [(.int .i64 0), .nils]), g0 (.store (.t 7) (.t 34) 2 (some 7))])
  (.seq (.ops [g0 (.load 36 (.t 7) (some 2) (some 7) false), g0 (.mv 37 (.t 5)), g0 (.call (some 38) 8 [(.t 36), (.t 37)]), g0 (.mv 35 (.t 38)), g0 (.ext 39 (.t 35) 0), g0 (.ext 40 (.t 35) 1), g0 (.boxL 8 2 none [(.int .i64 0), .nils]), g0 (.store (.t 8) (.t 39) 2 (some 8)), g0 (.mv 9 (.t 40))])
  (.seq (.seq (.ops [g0 (.mv 41 (.t 9)), g0 (.un 42 .not (.t 41)), g0 (.mv 43 (.t 42)), g1 43 false (.fldA 44 (.t 8) 1 none), g1 43 false (.load 45 (.t 44) none (some 8) false), g1 43 false (.len 46 .slice (.t 45) false), g1 43 false (.bin 47 .gtr (.t 46) (.c (.int .i64 0))), g0 (.pick 48 (.t 43) (.c (.bool true)) (.t 47)), g0 (.mv 49 (.t 48)), g1 49 false (.load 50 (.t 3) (some 6) (some 3) false), g1 49 false (.load 51 (.t 4) (some 6) (some 4) false), g1 49 false (.call (some 52) 19 [(.t 50), (.t 51)]), g1 49 false (.bin 53 .eql (.t 52) (.c (.int .i64 0))), g0 (.pick 54 (.t 49) (.c (.bool true)) (.t 53))])
  (.cond (.t 54) (.seq (.ops [g0 (.call (some 55) 7 []), g0 (.mv 2 (.t 55))])
  (.ret))
  (.skip)))
  (.seq (.ops [g0 (.load 57 (.t 7) (some 2) (some 7) false), g0 (.mv 58 (.t 5)), g0 (.mv 59 (.t 6)), g0 (.build 60 [(.int .i64 0), .nils] [(0, 1, (.t 59))]), g0 (.call (some 61) 9 [(.t 57), (.t 58), (.t 60)]), g0 (.mv 56 (.t 61)), g0 (.ext 62 (.t 56) 0), g0 (.ext 63 (.t 56) 1), g0 (.boxL 10 2 none [(.int .i64 0), .nils]), g0 (.store (.t 10) (.t 62) 2 (some 10)), g0 (.mv 11 (.t 63))])
  (.seq (.ops [g0 (.load 64 (.t 3) (some 6) (some 3) false), g0 (.load 65 (.t 4) (some 6) (some 4) false), g0 (.load 66 (.t 10) (some 2) (some 10) false), g0 (.call (some 67) 18 [(.t 64), (.t 65), (.t 66)]), g0 (.mv 68 (.t 67)), g1 68 false (.mv 69 (.t 6)), g1 68 false (.bin 70 .neq (.t 69) (.c (.int .i64 0))), g1 68 false (.mv 71 (.t 70)), g1 71 true (.mv 72 (.t 6)), g1 71 true (.bin 73 .neq (.t 72) (.c (.int .i64 1))), g1 68 false (.pick 74 (.t 71) (.t 73) (.c (.bool false))), g1 68 false (.mv 75 (.t 74)), g1 75 true (.load 76 (.t 3) (some 6) (some 3) false), g1 75 true (.load 77 (.t 4) (some 6) (some 4) false), g1 75 true (.load 78 (.t 10) (some 2) (some 10) false), g1 75 true (.call (some 79) 20 [(.t 76), (.t 77), (.t 78)]), g1 75 true (.un 80 .not (.t 79)), g1 68 false (.pick 81 (.t 75) (.t 80) (.c (.bool false))), g0 (.pick 82 (.t 68) (.c (.bool true)) (.t 81)), g0 (.mv 83 (.t 82)), g1 83 true (.mv 84 (.t 6)), g1 83 true (.bin 85 .eql (.t 84) (.c (.int .i64 0))), g1 83 true (.load 86 (.t 10) (some 2) (some 10) false), g1 83 true (.load 87 (.t 7) (some 2) (some 7) false), g1 83 true (.call (some 88) 14 [(.t 86), (.t 87)]), g1 83 true (.eqn 89 false .bool (.t 85) (.t 88)), g0 (.pick 90 (.t 83) (.t 89) (.c (.bool false))), g0 (.mv 91 (.t 90)), g1 91 true (.call (some 92) 7 []), g0 (.pick 93 (.t 91) (.t 92) (.c (.bool false))), g0 (.mv 2 (.t 93))])
  (.ret)))))))),
  [.t 2]⟩
/-- notary/notaryref19.Large -/
def F6 : IFunc := ⟨.pure, .seq (.ops [g0 (.boxL 1 2 (some (.t 0)) []), g0 (.mv 2 (.c (.bool false)))])
  (.seq (.ops [g0 (.load 3 (.t 1) (some 2) (some 1) false), g0 (.call (some 4) 21 [(.t 3), (.c (.int .i64 300)), (.c (.int .i64 60))]), g0 (.bin 5 .lss (.t 4) (.c (.int .i64 0))), g0 (.mv 2 (.t 5))])
  (.ret)),
  [.t 2]⟩
/-- notary/notarylaw19.awake -/
def F7 : IFunc := ⟨.pure, .seq (.ops [g0 (.mv 0 (.c (.bool false)))])
  (.seq (.ops [g0 (.build 4 [(.int .i64 0), .nils] []), g0 (.build 5 [(.int .i64 0), .nils] []), g0 (.bsl 6 2 true [(.t 4), (.t 5)]), g0 (.build 7 [(.int .i64 0), .nils] [(1, 1, (.t 6))]), g0 (.bsl 8 1 false [(.c (.int .i64 1))]), g0 (.build 9 [(.int .i64 0), .nils] [(0, 1, (.c (.int .i64 7)))]), g0 (.call (some 10) 9 [(.t 7), (.t 8), (.t 9)]), g0 (.mv 3 (.t 10)), g0 (.ext 11 (.t 3) 0), g0 (.ext 12 (.t 3) 1), g0 (.boxL 1 2 none [(.int .i64 0), .nils]), g0 (.store (.t 1) (.t 11) 2 (some 1)), g0 (.mv 2 (.t 12))])
  (.seq (.ops [g0 (.mv 13 (.t 2)), g0 (.mv 14 (.t 13)), g1 14 true (.fldA 15 (.t 1) 1 none), g1 14 true (.load 16 (.t 15) none (some 1) false), g1 14 true (.len 17 .slice (.t 16) false), g1 14 true (.bin 18 .eql (.t 17) (.c (.int .i64 2))), g0 (.pick 19 (.t 14) (.t 18) (.c (.bool false))), g0 (.mv 20 (.t 19)), g1 20 true (.fldA 21 (.t 1) 1 none), g1 20 true (.load 22 (.t 21) none (some 1) false), g1 20 true (.idxA 23 (.t 22) (.c (.int .i64 1)) 2 (some 2) none), g1 20 true (.fldA 24 (.t 23) 0 none), g1 20 true (.load 25 (.t 24) none none false), g1 20 true (.bin 26 .eql (.t 25) (.c (.int .i64 7))), g0 (.pick 27 (.t 20) (.t 26) (.c (.bool false))), g0 (.mv 0 (.t 27))])
  (.ret))),
  [.t 0]⟩
def L8_0 : Ic := .seq (.ops [g0 (.bin 11 .lss (.t 10) (.t 9))])
  (.seq (.cond (.t 11) (.skip)
  (.exit 0))
  (.seq (.block 1 (.seq (.ops [g0 (.idxA 12 (.t 8) (.t 10) 1 none none), g0 (.load 13 (.t 12) none none false), g0 (.mv 7 (.t 13))])
  (.seq (.seq (.ops [g0 (.mv 14 (.t 7)), g0 (.bin 15 .lss (.t 14) (.c (.int .i64 0))), g0 (.mv 16 (.t 15)), g1 16 false (.mv 17 (.t 7)), g1 16 false (.fldA 18 (.t 2) 1 none), g1 16 false (.load 19 (.t 18) none (some 2) false), g1 16 false (.len 20 .slice (.t 19) false), g1 16 false (.bin 21 .geq (.t 17) (.t 20)), g0 (.pick 22 (.t 16) (.c (.bool true)) (.t 21))])
  (.cond (.t 22) (.seq (.ops [g0 (.build 23 [(.int .i64 0), .nils] []), g0 (.store (.t 4) (.t 23) 2 (some 4)), g0 (.mv 5 (.c (.bool false)))])
  (.ret))
  (.skip)))
  (.ops [g0 (.fldA 24 (.t 2) 1 none), g0 (.load 25 (.t 24) none (some 2) false), g0 (.mv 26 (.t 7)), g0 (.idxA 27 (.t 25) (.t 26) 2 (some 2) none), g0 (.load 28 (.t 27) (some 2) none false), g0 (.store (.t 2) (.t 28) 2 (some 2))]))))
  (.ops [g0 (.bin 29 .add (.t 10) (.c (.int .i64 1))), g0 (.mv 10 (.t 29))])))
/-- notary/value.Get -/
def F8 : IFunc := ⟨.pure, .seq (.ops [g0 (.boxL 2 2 (some (.t 0)) []), g0 (.boxL 4 2 none [(.int .i64 0), .nils]), g0 (.mv 5 (.c (.bool false)))])
  (.seq (.seq (.ops [g0 (.mv 8 (.t 1)), g0 (.len 9 .slice (.t 8) false), g0 (.mv 10 (.c (.int .i64 0)))])
  (.block 0 (.loop L8_0)))
  (.seq (.ops [g0 (.load 30 (.t 2) (some 2) (some 2) false), g0 (.store (.t 4) (.t 30) 2 (some 4)), g0 (.mv 5 (.c (.bool true)))])
  (.ret))),
  [.cell 4 (some 2) (some 4), .t 5]⟩
/-- notary/value.Set -/
def F9 : IFunc := ⟨.pure, .seq (.ops [g0 (.boxL 3 2 (some (.t 0)) []), g0 (.boxL 5 2 (some (.t 2)) []), g0 (.boxL 6 2 none [(.int .i64 0), .nils]), g0 (.mv 7 (.c (.bool false)))])
  (.seq (.seq (.ops [g0 (.mv 11 (.t 1)), g0 (.len 12 .slice (.t 11) false), g0 (.bin 13 .eql (.t 12) (.c (.int .i64 0)))])
  (.cond (.t 13) (.seq (.ops [g0 (.load 14 (.t 5) (some 2) (some 5) false), g0 (.store (.t 6) (.t 14) 2 (some 6)), g0 (.mv 7 (.c (.bool true)))])
  (.ret))
  (.skip)))
  (.seq (.ops [g0 (.mv 15 (.t 1)), g0 (.idxA 16 (.t 15) (.c (.int .i64 0)) 1 none none), g0 (.load 17 (.t 16) none none false), g0 (.mv 8 (.t 17))])
  (.seq (.seq (.ops [g0 (.mv 18 (.t 8)), g0 (.bin 19 .lss (.t 18) (.c (.int .i64 0))), g0 (.mv 20 (.t 19)), g1 20 false (.mv 21 (.t 8)), g1 20 false (.fldA 22 (.t 3) 1 none), g1 20 false (.load 23 (.t 22) none (some 3) false), g1 20 false (.len 24 .slice (.t 23) false), g1 20 false (.bin 25 .geq (.t 21) (.t 24)), g0 (.pick 26 (.t 20) (.c (.bool true)) (.t 25))])
  (.cond (.t 26) (.seq (.ops [g0 (.build 27 [(.int .i64 0), .nils] []), g0 (.store (.t 6) (.t 27) 2 (some 6)), g0 (.mv 7 (.c (.bool false)))])
  (.ret))
  (.skip)))
  (.seq (.ops [g0 (.fldA 29 (.t 3) 1 none), g0 (.load 30 (.t 29) none (some 3) false), g0 (.mv 31 (.t 8)), g0 (.idxA 32 (.t 30) (.t 31) 2 (some 2) none), g0 (.load 33 (.t 32) (some 2) none false), g0 (.mv 34 (.t 1)), g0 (.slc 35 (some 1) (.t 34) (some (.c (.int .i64 1))) none none), g0 (.load 36 (.t 5) (some 2) (some 5) false), g0 (.call (some 37) 9 [(.t 33), (.t 35), (.t 36)]), g0 (.mv 28 (.t 37)), g0 (.ext 38 (.t 28) 0), g0 (.ext 39 (.t 28) 1), g0 (.boxL 9 2 none [(.int .i64 0), .nils]), g0 (.store (.t 9) (.t 38) 2 (some 9)), g0 (.mv 10 (.t 39))])
  (.seq (.seq (.ops [g0 (.mv 40 (.t 10)), g0 (.un 41 .not (.t 40))])
  (.cond (.t 41) (.seq (.ops [g0 (.build 42 [(.int .i64 0), .nils] []), g0 (.store (.t 6) (.t 42) 2 (some 6)), g0 (.mv 7 (.c (.bool false)))])
  (.ret))
  (.skip)))
  (.seq (.ops [g0 (.fldA 43 (.t 3) 1 none), g0 (.load 44 (.t 43) none (some 3) false), g0 (.call (some 45) 22 [(.t 44)]), g0 (.fldA 46 (.t 3) 1 none), g0 (.store (.t 46) (.t 45) 1 (some 3))])
  (.seq (.ops [g0 (.fldA 47 (.t 3) 1 none), g0 (.load 48 (.t 47) none (some 3) false), g0 (.mv 49 (.t 8)), g0 (.load 50 (.t 9) (some 2) (some 9) false), g0 (.idxA 51 (.t 48) (.t 49) 2 (some 2) none), g0 (.store (.t 51) (.t 50) 2 none)])
  (.seq (.ops [g0 (.load 52 (.t 3) (some 2) (some 3) false), g0 (.store (.t 6) (.t 52) 2 (some 6)), g0 (.mv 7 (.c (.bool true)))])
  (.ret))))))))),
  [.cell 6 (some 2) (some 6), .t 7]⟩
/-- notary/notaryref19.Leads -/
def F10 : IFunc := ⟨.pure, .seq (.ops [g0 (.boxL 2 2 (some (.t 0)) []), g0 (.mv 4 (.c (.bool false)))])
  (.seq (.seq (.ops [g0 (.mv 5 (.t 1)), g0 (.len 6 .slice (.t 5) false), g0 (.bin 7 .eql (.t 6) (.c (.int .i64 0)))])
  (.cond (.t 7) (.seq (.ops [g0 (.mv 4 (.c (.bool true)))])
  (.ret))
  (.skip)))
  (.seq (.ops [g0 (.mv 8 (.t 1)), g0 (.idxA 9 (.t 8) (.c (.int .i64 0)) 1 none none), g0 (.load 10 (.t 9) none none false), g0 (.bin 11 .geq (.t 10) (.c (.int .i64 0))), g0 (.mv 12 (.t 11)), g1 12 true (.mv 13 (.t 1)), g1 12 true (.idxA 14 (.t 13) (.c (.int .i64 0)) 1 none none), g1 12 true (.load 15 (.t 14) none none false), g1 12 true (.fldA 16 (.t 2) 1 none), g1 12 true (.load 17 (.t 16) none (some 2) false), g1 12 true (.len 18 .slice (.t 17) false), g1 12 true (.bin 19 .lss (.t 15) (.t 18)), g0 (.pick 20 (.t 12) (.t 19) (.c (.bool false))), g0 (.mv 21 (.t 20)), g1 21 true (.fldA 22 (.t 2) 1 none), g1 21 true (.load 23 (.t 22) none (some 2) false), g1 21 true (.mv 24 (.t 1)), g1 21 true (.idxA 25 (.t 24) (.c (.int .i64 0)) 1 none none), g1 21 true (.load 26 (.t 25) none none false), g1 21 true (.idxA 27 (.t 23) (.t 26) 2 (some 2) none), g1 21 true (.load 28 (.t 27) (some 2) none false), g1 21 true (.mv 29 (.t 1)), g1 21 true (.slc 30 (some 1) (.t 29) (some (.c (.int .i64 1))) none none), g1 21 true (.call (some 31) 10 [(.t 28), (.t 30)]), g0 (.pick 32 (.t 21) (.t 31) (.c (.bool false))), g0 (.mv 4 (.t 32))])
  (.ret))),
  [.t 4]⟩
def L11_0 : Ic := .seq (.seq (.ops [g0 (.mv 20 (.t 5)), g0 (.fldA 21 (.t 2) 1 none), g0 (.load 22 (.t 21) none (some 2) false), g0 (.len 23 .slice (.t 22) false), g0 (.bin 24 .lss (.t 20) (.t 23))])
  (.cond (.t 24) (.skip)
  (.exit 0)))
  (.seq (.block 1 (.seq (.ops [g0 (.fldA 27 (.t 2) 1 none), g0 (.load 28 (.t 27) none (some 2) false), g0 (.mv 29 (.t 5)), g0 (.idxA 30 (.t 28) (.t 29) 2 (some 2) none), g0 (.load 31 (.t 30) (some 2) none false), g0 (.fldA 32 (.t 3) 1 none), g0 (.load 33 (.t 32) none (some 3) false), g0 (.mv 34 (.t 5)), g0 (.idxA 35 (.t 33) (.t 34) 2 (some 2) none), g0 (.load 36 (.t 35) (some 2) none false), g0 (.call (some 37) 11 [(.t 31), (.t 36)]), g0 (.un 38 .not (.t 37))])
  (.cond (.t 38) (.seq (.ops [g0 (.mv 4 (.c (.bool false)))])
  (.ret))
  (.skip))))
  (.ops [g0 (.mv 25 (.t 5)), g0 (.bin 26 .add (.t 25) (.c (.int .i64 1))), g0 (.mv 5 (.t 26))]))
/-- notary/notaryref19.Same -/
def F11 : IFunc := ⟨.pure, .seq (.ops [g0 (.boxL 2 2 (some (.t 0)) []), g0 (.boxL 3 2 (some (.t 1)) []), g0 (.mv 4 (.c (.bool false)))])
  (.seq (.seq (.ops [g0 (.fldA 6 (.t 2) 0 none), g0 (.load 7 (.t 6) none (some 2) false), g0 (.fldA 8 (.t 3) 0 none), g0 (.load 9 (.t 8) none (some 3) false), g0 (.bin 10 .neq (.t 7) (.t 9)), g0 (.mv 11 (.t 10)), g1 11 false (.fldA 12 (.t 2) 1 none), g1 11 false (.load 13 (.t 12) none (some 2) false), g1 11 false (.len 14 .slice (.t 13) false), g1 11 false (.fldA 15 (.t 3) 1 none), g1 11 false (.load 16 (.t 15) none (some 3) false), g1 11 false (.len 17 .slice (.t 16) false), g1 11 false (.bin 18 .neq (.t 14) (.t 17)), g0 (.pick 19 (.t 11) (.c (.bool true)) (.t 18))])
  (.cond (.t 19) (.seq (.ops [g0 (.mv 4 (.c (.bool false)))])
  (.ret))
  (.skip)))
  (.seq (.seq (.ops [g0 (.mv 5 (.c (.int .i64 0)))])
  (.block 0 (.loop L11_0)))
  (.seq (.ops [g0 (.mv 4 (.c (.bool true)))])
  (.ret)))),
  [.t 4]⟩
/-- notary/notaryref19.Get -/
def F12 : IFunc := ⟨.pure, .seq (.ops [g0 (.boxL 2 2 (some (.t 0)) []), g0 (.boxL 4 2 none [(.int .i64 0), .nils])])
  (.seq (.seq (.ops [g0 (.mv 5 (.t 1)), g0 (.len 6 .slice (.t 5) false), g0 (.bin 7 .eql (.t 6) (.c (.int .i64 0)))])
  (.cond (.t 7) (.seq (.ops [g0 (.load 8 (.t 2) (some 2) (some 2) false), g0 (.store (.t 4) (.t 8) 2 (some 4))])
  (.ret))
  (.skip)))
  (.seq (.ops [g0 (.fldA 9 (.t 2) 1 none), g0 (.load 10 (.t 9) none (some 2) false), g0 (.mv 11 (.t 1)), g0 (.idxA 12 (.t 11) (.c (.int .i64 0)) 1 none none), g0 (.load 13 (.t 12) none none false), g0 (.idxA 14 (.t 10) (.t 13) 2 (some 2) none), g0 (.load 15 (.t 14) (some 2) none false), g0 (.mv 16 (.t 1)), g0 (.slc 17 (some 1) (.t 16) (some (.c (.int .i64 1))) none none), g0 (.call (some 18) 12 [(.t 15), (.t 17)]), g0 (.store (.t 4) (.t 18) 2 (some 4))])
  (.ret))),
  [.cell 4 (some 2) (some 4)]⟩
def L13_0 : Ic := .seq (.seq (.ops [g0 (.mv 14 (.t 8)), g0 (.fldA 15 (.t 3) 1 none), g0 (.load 16 (.t 15) none (some 3) false), g0 (.len 17 .slice (.t 16) false), g0 (.bin 18 .lss (.t 14) (.t 17))])
  (.cond (.t 18) (.skip)
  (.exit 0)))
  (.seq (.block 1 (.seq (.ops [g0 (.mv 21 (.t 8)), g0 (.mv 22 (.t 1)), g0 (.idxA 23 (.t 22) (.c (.int .i64 0)) 1 none none), g0 (.load 24 (.t 23) none none false), g0 (.bin 25 .eql (.t 21) (.t 24))])
  (.cond (.t 25) (.ops [g0 (.mv 26 (.t 7)), g0 (.fldA 27 (.t 3) 1 none), g0 (.load 28 (.t 27) none (some 3) false), g0 (.mv 29 (.t 8)), g0 (.idxA 30 (.t 28) (.t 29) 2 (some 2) none), g0 (.load 31 (.t 30) (some 2) none false), g0 (.mv 32 (.t 1)), g0 (.slc 33 (some 1) (.t 32) (some (.c (.int .i64 1))) none none), g0 (.load 34 (.t 5) (some 2) (some 5) false), g0 (.call (some 35) 13 [(.t 31), (.t 33), (.t 34)]), g0 (.bsl 36 2 true [(.t 35)]), g0 (.app 37 (.t 26) (.t 36) 2), g0 (.mv 7 (.t 37))])
  (.ops [g0 (.mv 38 (.t 7)), g0 (.fldA 39 (.t 3) 1 none), g0 (.load 40 (.t 39) none (some 3) false), g0 (.mv 41 (.t 8)), g0 (.idxA 42 (.t 40) (.t 41) 2 (some 2) none), g0 (.load 43 (.t 42) (some 2) none false), g0 (.bsl 44 2 true [(.t 43)]), g0 (.app 45 (.t 38) (.t 44) 2), g0 (.mv 7 (.t 45))]))))
  (.ops [g0 (.mv 19 (.t 8)), g0 (.bin 20 .add (.t 19) (.c (.int .i64 1))), g0 (.mv 8 (.t 20))]))
/-- notary/notaryref19.Set -/
def F13 : IFunc := ⟨.pure, .seq (.ops [g0 (.boxL 3 2 (some (.t 0)) []), g0 (.boxL 5 2 (some (.t 2)) []), g0 (.boxL 6 2 none [(.int .i64 0), .nils])])
  (.seq (.seq (.ops [g0 (.mv 9 (.t 1)), g0 (.len 10 .slice (.t 9) false), g0 (.bin 11 .eql (.t 10) (.c (.int .i64 0)))])
  (.cond (.t 11) (.seq (.ops [g0 (.load 12 (.t 5) (some 2) (some 5) false), g0 (.store (.t 6) (.t 12) 2 (some 6))])
  (.ret))
  (.skip)))
  (.seq (.ops [g0 (.bsl 13 2 true []), g0 (.mv 7 (.t 13))])
  (.seq (.seq (.ops [g0 (.mv 8 (.c (.int .i64 0)))])
  (.block 0 (.loop L13_0)))
  (.seq (.ops [g0 (.fldA 46 (.t 3) 0 none), g0 (.load 47 (.t 46) none (some 3) false), g0 (.mv 48 (.t 7)), g0 (.build 49 [(.int .i64 0), .nils] [(0, 1, (.t 47)), (1, 1, (.t 48))]), g0 (.store (.t 6) (.t 49) 2 (some 6))])
  (.ret))))),
  [.cell 6 (some 2) (some 6)]⟩
/-- notary/value.Same -/
def F14 : IFunc := ⟨.pure, .seq (.ops [g0 (.boxL 2 2 (some (.t 0)) []), g0 (.boxL 3 2 (some (.t 1)) []), g0 (.mv 4 (.c (.bool false)))])
  (.seq (.ops [g0 (.fldA 5 (.t 2) 0 none), g0 (.load 6 (.t 5) none (some 2) false), g0 (.fldA 7 (.t 3) 0 none), g0 (.load 8 (.t 7) none (some 3) false), g0 (.bin 9 .eql (.t 6) (.t 8)), g0 (.mv 10 (.t 9)), g1 10 true (.fldA 11 (.t 2) 1 none), g1 10 true (.load 12 (.t 11) none (some 2) false), g1 10 true (.fldA 13 (.t 3) 1 none), g1 10 true (.load 14 (.t 13) none (some 3) false), g1 10 true (.call (some 15) 23 [(.t 12), (.t 14), (.f 14)]), g0 (.pick 16 (.t 10) (.t 15) (.c (.bool false))), g0 (.mv 4 (.t 16))])
  (.ret)),
  [.t 4]⟩
/-- notary/notaryref06.Large -/
def F15 : IFunc := ⟨.pure, .seq (.ops [g0 (.boxL 1 6 (some (.t 0)) []), g0 (.mv 2 (.c (.bool false)))])
  (.seq (.ops [g0 (.load 3 (.t 1) (some 6) (some 1) false), g0 (.call (some 4) 24 [(.t 3), (.c (.int .i64 400)), (.c (.int .i64 70))]), g0 (.bin 5 .lss (.t 4) (.c (.int .i64 0))), g0 (.mv 6 (.t 5)), g1 6 false (.load 7 (.t 1) (some 6) (some 1) false), g1 6 false (.call (some 8) 25 [(.t 7)]), g0 (.pick 9 (.t 6) (.c (.bool true)) (.t 8)), g0 (.mv 2 (.t 9))])
  (.ret)),
  [.t 2]⟩
/-- notary/value.Zero -/
def F16 : IFunc := ⟨.pure, .seq (.ops [g0 (.boxI 2 (some 6) (.t 0)), g0 (.boxL 3 6 (some (.t 1)) []), g0 (.boxL 4 2 none [(.int .i64 0), .nils])])
  (.seq (.seq (.ops [g0 (.load 6 (.t 2) (some 6) none false), g0 (.load 7 (.t 3) (some 6) (some 3) false), g0 (.call (some 8) 26 [(.t 6), (.t 7)]), g0 (.bin 9 .eql (.t 8) (.c (.int .i64 0)))])
  (.cond (.t 9) (.seq (.ops [g0 (.build 10 [(.int .i64 0), .nils] []), g0 (.store (.t 4) (.t 10) 2 (some 4))])
  (.ret))
  (.skip)))
  (.seq (.ops [g0 (.boxH 5 none (.c .nilf))])
  (.seq (.ops [g0 (.mkfn 11 27 [] [(.t 5), (.t 2)]), g0 (.store (.t 5) (.t 11) 1 none)])
  (.seq (.ops [g0 (.load 12 (.t 5) none none false), g0 (.load 13 (.t 3) (some 6) (some 3) false), g0 (.callV (some 14) (.t 12) [(.t 13)]), g0 (.store (.t 4) (.t 14) 2 (some 4))])
  (.ret))))),
  [.cell 4 (some 2) (some 4)]⟩
def L17_0 : Ic := .seq (.seq (.ops [g0 (.mv 17 (.t 7)), g0 (.mv 18 (.t 6)), g0 (.len 19 .slice (.t 18) false), g0 (.bin 20 .lss (.t 17) (.t 19))])
  (.cond (.t 20) (.skip)
  (.exit 0)))
  (.seq (.block 1 (.ops [g0 (.fldA 23 (.t 5) 1 none), g0 (.load 24 (.t 23) none (some 5) false), g0 (.load 25 (.t 2) (some 6) (some 2) false), g0 (.mv 26 (.t 6)), g0 (.mv 27 (.t 7)), g0 (.idxA 28 (.t 26) (.t 27) 6 (some 6) none), g0 (.load 29 (.t 28) (some 6) none false), g0 (.call (some 30) 17 [(.t 25), (.t 29)]), g0 (.bsl 31 2 true [(.t 30)]), g0 (.app 32 (.t 24) (.t 31) 2), g0 (.fldA 33 (.t 5) 1 none), g0 (.store (.t 33) (.t 32) 1 (some 5))]))
  (.ops [g0 (.mv 21 (.t 7)), g0 (.bin 22 .add (.t 21) (.c (.int .i64 1))), g0 (.mv 7 (.t 22))]))
/-- notary/notaryref19.Zero -/
def F17 : IFunc := ⟨.pure, .seq (.ops [g0 (.boxL 2 6 (some (.t 0)) []), g0 (.boxL 3 6 (some (.t 1)) []), g0 (.boxL 4 2 none [(.int .i64 0), .nils])])
  (.seq (.ops [g0 (.build 8 [(.int .i64 0), .nils] []), g0 (.boxL 5 2 none [(.int .i64 0), .nils]), g0 (.store (.t 5) (.t 8) 2 (some 5))])
  (.seq (.seq (.ops [g0 (.load 9 (.t 2) (some 6) (some 2) false), g0 (.load 10 (.t 3) (some 6) (some 3) false), g0 (.call (some 11) 19 [(.t 9), (.t 10)]), g0 (.bin 12 .eql (.t 11) (.c (.int .i64 0)))])
  (.cond (.t 12) (.seq (.ops [g0 (.load 13 (.t 5) (some 2) (some 5) false), g0 (.store (.t 4) (.t 13) 2 (some 4))])
  (.ret))
  (.skip)))
  (.seq (.ops [g0 (.load 14 (.t 2) (some 6) (some 2) false), g0 (.load 15 (.t 3) (some 6) (some 3) false), g0 (.call (some 16) 28 [(.t 14), (.t 15)]), g0 (.mv 6 (.t 16))])
  (.seq (.seq (.ops [g0 (.mv 7 (.c (.int .i64 0)))])
  (.block 0 (.loop L17_0)))
  (.seq (.ops [g0 (.load 34 (.t 5) (some 2) (some 5) false), g0 (.store (.t 4) (.t 34) 2 (some 4))])
  (.ret)))))),
  [.cell 4 (some 2) (some 4)]⟩
/-- notary/value.Fits -/
def F18 : IFunc := ⟨.pure, .seq (.ops [g0 (.boxL 3 6 (some (.t 0)) []), g0 (.boxL 4 6 (some (.t 1)) []), g0 (.boxL 5 2 (some (.t 2)) []), g0 (.mv 6 (.c (.bool false)))])
  (.seq (.ops [g0 (.load 7 (.t 3) (some 6) (some 3) false), g0 (.load 8 (.t 4) (some 6) (some 4) false), g0 (.call (some 9) 26 [(.t 7), (.t 8)]), g0 (.bin 10 .gtr (.t 9) (.c (.int .i64 0))), g0 (.mv 11 (.t 10)), g1 11 true (.load 12 (.t 3) (some 6) (some 3) false), g1 11 true (.load 13 (.t 4) (some 6) (some 4) false), g1 11 true (.load 14 (.t 5) (some 2) (some 5) false), g1 11 true (.call (some 15) 29 [(.t 12), (.t 13), (.t 14)]), g0 (.pick 16 (.t 11) (.t 15) (.c (.bool false))), g0 (.mv 6 (.t 16))])
  (.ret)),
  [.t 6]⟩
/-- notary/notaryref12.Cells -/
def F19 : IFunc := ⟨.pure, .seq (.ops [g0 (.boxL 2 6 (some (.t 0)) []), g0 (.boxL 3 6 (some (.t 1)) []), g0 (.mv 4 (.c (.int .i64 0)))])
  (.seq (.ops [g0 (.load 5 (.t 2) (some 6) (some 2) false), g0 (.load 6 (.t 3) (some 6) (some 3) false), g0 (.bsl 7 1 false []), g0 (.call (some 8) 30 [(.t 5), (.t 6), (.t 7)]), g0 (.mv 4 (.t 8))])
  (.ret)),
  [.t 4]⟩
def L20_0 : Ic := .seq (.seq (.ops [g0 (.mv 50 (.t 8)), g0 (.mv 51 (.t 7)), g0 (.len 52 .slice (.t 51) false), g0 (.bin 53 .lss (.t 50) (.t 52))])
  (.cond (.t 53) (.skip)
  (.exit 0)))
  (.seq (.block 1 (.seq (.ops [g0 (.load 56 (.t 3) (some 6) (some 3) false), g0 (.mv 57 (.t 7)), g0 (.mv 58 (.t 8)), g0 (.idxA 59 (.t 57) (.t 58) 6 (some 6) none), g0 (.load 60 (.t 59) (some 6) none false), g0 (.fldA 61 (.t 5) 1 none), g0 (.load 62 (.t 61) none (some 5) false), g0 (.mv 63 (.t 8)), g0 (.idxA 64 (.t 62) (.t 63) 2 (some 2) none), g0 (.load 65 (.t 64) (some 2) none false), g0 (.call (some 66) 20 [(.t 56), (.t 60), (.t 65)]), g0 (.un 67 .not (.t 66))])
  (.cond (.t 67) (.seq (.ops [g0 (.mv 6 (.c (.bool false)))])
  (.ret))
  (.skip))))
  (.ops [g0 (.mv 54 (.t 8)), g0 (.bin 55 .add (.t 54) (.c (.int .i64 1))), g0 (.mv 8 (.t 55))]))
/-- notary/notaryref19.Fits -/
def F20 : IFunc := ⟨.pure, .seq (.ops [g0 (.boxL 3 6 (some (.t 0)) []), g0 (.boxL 4 6 (some (.t 1)) []), g0 (.boxL 5 2 (some (.t 2)) []), g0 (.mv 6 (.c (.bool false)))])
  (.seq (.seq (.ops [g0 (.load 9 (.t 3) (some 6) (some 3) false), g0 (.load 10 (.t 4) (some 6) (some 4) false), g0 (.call (some 11) 19 [(.t 9), (.t 10)]), g0 (.bin 12 .eql (.t 11) (.c (.int .i64 0)))])
  (.cond (.t 12) (.seq (.ops [g0 (.mv 6 (.c (.bool false)))])
  (.ret))
  (.skip)))
  (.seq (.seq (.ops [g0 (.fldA 13 (.t 4) 0 none), g0 (.load 14 (.t 13) none (some 4) false), g0 (.bin 15 .eql (.t 14) (.c (.int .i64 2))), g0 (.mv 16 (.t 15)), g1 16 true (.fldA 17 (.t 5) 0 none), g1 16 true (.load 18 (.t 17) none (some 5) false), g1 16 true (.bin 19 .neq (.t 18) (.c (.int .i64 0))), g0 (.pick 20 (.t 16) (.t 19) (.c (.bool false))), g0 (.mv 21 (.t 20)), g1 21 true (.fldA 22 (.t 5) 0 none), g1 21 true (.load 23 (.t 22) none (some 5) false), g1 21 true (.bin 24 .neq (.t 23) (.c (.int .i64 1))), g0 (.pick 25 (.t 21) (.t 24) (.c (.bool false))), g0 (.mv 26 (.t 25)), g1 26 false (.fldA 27 (.t 4) 0 none), g1 26 false (.load 28 (.t 27) none (some 4) false), g1 26 false (.bin 29 .neq (.t 28) (.c (.int .i64 2))), g1 26 false (.mv 30 (.t 29)), g1 30 true (.fldA 31 (.t 4) 0 none), g1 30 true (.load 32 (.t 31) none (some 4) false), g1 30 true (.bin 33 .neq (.t 32) (.c (.int .i64 1))), g1 26 false (.pick 34 (.t 30) (.t 33) (.c (.bool false))), g1 26 false (.mv 35 (.t 34)), g1 35 true (.fldA 36 (.t 5) 0 none), g1 35 true (.load 37 (.t 36) none (some 5) false), g1 35 true (.bin 38 .neq (.t 37) (.c (.int .i64 0))), g1 26 false (.pick 39 (.t 35) (.t 38) (.c (.bool false))), g0 (.pick 40 (.t 26) (.c (.bool true)) (.t 39))])
  (.cond (.t 40) (.seq (.ops [g0 (.mv 6 (.c (.bool false)))])
  (.ret))
  (.skip)))
  (.seq (.ops [g0 (.load 41 (.t 3) (some 6) (some 3) false), g0 (.load 42 (.t 4) (some 6) (some 4) false), g0 (.call (some 43) 28 [(.t 41), (.t 42)]), g0 (.mv 7 (.t 43))])
  (.seq (.seq (.ops [g0 (.mv 44 (.t 7)), g0 (.len 45 .slice (.t 44) false), g0 (.fldA 46 (.t 5) 1 none), g0 (.load 47 (.t 46) none (some 5) false), g0 (.len 48 .slice (.t 47) false), g0 (.bin 49 .neq (.t 45) (.t 48))])
  (.cond (.t 49) (.seq (.ops [g0 (.mv 6 (.c (.bool false)))])
  (.ret))
  (.skip)))
  (.seq (.seq (.ops [g0 (.mv 8 (.c (.int .i64 0)))])
  (.block 0 (.loop L20_0)))
  (.seq (.ops [g0 (.mv 6 (.c (.bool true)))])
  (.ret))))))),
  [.t 6]⟩
def L21_0 : Ic := .seq (.seq (.ops [g0 (.mv 12 (.t 7)), g0 (.fldA 13 (.t 3) 1 none), g0 (.load 14 (.t 13) none (some 3) false), g0 (.len 15 .slice (.t 14) false), g0 (.bin 16 .lss (.t 12) (.t 15)), g0 (.mv 17 (.t 16)), g1 17 true (.mv 18 (.t 1)), g1 17 true (.bin 19 .geq (.t 18) (.c (.int .i64 0))), g0 (.pick 20 (.t 17) (.t 19) (.c (.bool false)))])
  (.cond (.t 20) (.skip)
  (.exit 0)))
  (.seq (.block 1 (.ops [g0 (.fldA 23 (.t 3) 1 none), g0 (.load 24 (.t 23) none (some 3) false), g0 (.mv 25 (.t 7)), g0 (.idxA 26 (.t 24) (.t 25) 2 (some 2) none), g0 (.load 27 (.t 26) (some 2) none false), g0 (.mv 28 (.t 1)), g0 (.mv 29 (.t 2)), g0 (.bin 30 .sub (.t 29) (.c (.int .i64 1))), g0 (.call (some 31) 21 [(.t 27), (.t 28), (.t 30)]), g0 (.mv 1 (.t 31))]))
  (.ops [g0 (.mv 21 (.t 7)), g0 (.bin 22 .add (.t 21) (.c (.int .i64 1))), g0 (.mv 7 (.t 22))]))
/-- notary/notaryref19.Count -/
def F21 : IFunc := ⟨.pure, .seq (.ops [g0 (.boxL 3 2 (some (.t 0)) []), g0 (.mv 6 (.c (.int .i64 0)))])
  (.seq (.seq (.ops [g0 (.mv 8 (.t 2)), g0 (.bin 9 .leq (.t 8) (.c (.int .i64 0)))])
  (.cond (.t 9) (.seq (.ops [g0 (.mv 6 (.c (.int .i64 (-1))))])
  (.ret))
  (.skip)))
  (.seq (.ops [g0 (.mv 10 (.t 1)), g0 (.bin 11 .sub (.t 10) (.c (.int .i64 1))), g0 (.mv 1 (.t 11))])
  (.seq (.seq (.ops [g0 (.mv 7 (.c (.int .i64 0)))])
  (.block 0 (.loop L21_0)))
  (.seq (.ops [g0 (.mv 32 (.t 1)), g0 (.mv 6 (.t 32))])
  (.ret))))),
  [.t 6]⟩
/-- slices.Clone[[]notary/api.Value,notary/api.Value] -/
def F22 : IFunc := ⟨.raw, .seq (.ops [g0 (.mv 2 (.c .nils))])
  (.seq (.seq (.ops [g0 (.mv 3 (.t 0)), g0 (.eqn 4 false .slice (.t 3) (.c .nils))])
  (.cond (.t 4) (.seq (.ops [g0 (.mv 2 (.c .nils))])
  (.ret))
  (.skip)))
  (.seq (.ops [g0 (.bsl 5 2 true []), g0 (.mv 6 (.t 0)), g0 (.app 7 (.t 5) (.t 6) 2), g0 (.mv 2 (.t 7))])
  (.ret))),
  [.t 2]⟩
def L23_0 : Ic := .seq (.ops [g0 (.bin 18 .lss (.t 17) (.t 16))])
  (.seq (.cond (.t 18) (.skip)
  (.exit 0))
  (.seq (.block 1 (.seq (.ops [g0 (.mv 19 (.t 17)), g0 (.idxA 20 (.t 15) (.t 17) 2 (some 2) none), g0 (.load 21 (.t 20) (some 2) none false), g0 (.boxL 8 2 none [(.int .i64 0), .nils]), g0 (.mv 7 (.t 19)), g0 (.store (.t 8) (.t 21) 2 (some 8))])
  (.seq (.ops [g0 (.mv 22 (.t 1)), g0 (.mv 23 (.t 7)), g0 (.idxA 24 (.t 22) (.t 23) 2 (some 2) none), g0 (.load 25 (.t 24) (some 2) none false), g0 (.boxL 9 2 none [(.int .i64 0), .nils]), g0 (.store (.t 9) (.t 25) 2 (some 9))])
  (.seq (.ops [g0 (.mv 26 (.t 2)), g0 (.load 27 (.t 8) (some 2) (some 8) false), g0 (.load 28 (.t 9) (some 2) (some 9) false), g0 (.callV (some 29) (.t 26) [(.t 27), (.t 28)]), g0 (.un 30 .not (.t 29))])
  (.cond (.t 30) (.seq (.ops [g0 (.mv 6 (.c (.bool false)))])
  (.ret))
  (.skip))))))
  (.ops [g0 (.bin 31 .add (.t 17) (.c (.int .i64 1))), g0 (.mv 17 (.t 31))])))
/-- slices.EqualFunc[[]notary/api.Value,[]notary/api.Value,notary/api.Value,notary/api.Value] -/
def F23 : IFunc := ⟨.pure, .seq (.ops [g0 (.mv 6 (.c (.bool false)))])
  (.seq (.seq (.ops [g0 (.mv 10 (.t 0)), g0 (.len 11 .slice (.t 10) false), g0 (.mv 12 (.t 1)), g0 (.len 13 .slice (.t 12) false), g0 (.bin 14 .neq (.t 11) (.t 13))])
  (.cond (.t 14) (.seq (.ops [g0 (.mv 6 (.c (.bool false)))])
  (.ret))
  (.skip)))
  (.seq (.seq (.ops [g0 (.mv 15 (.t 0)), g0 (.len 16 .slice (.t 15) false), g0 (.mv 17 (.c (.int .i64 0)))])
  (.block 0 (.loop L23_0)))
  (.seq (.ops [g0 (.mv 6 (.c (.bool true)))])
  (.ret)))),
  [.t 6]⟩
def L24_0 : Ic := .seq (.seq (.ops [g0 (.mv 12 (.t 7)), g0 (.fldA 13 (.t 3) 3 none), g0 (.load 14 (.t 13) none (some 3) false), g0 (.len 15 .slice (.t 14) false), g0 (.bin 16 .lss (.t 12) (.t 15)), g0 (.mv 17 (.t 16)), g1 17 true (.mv 18 (.t 1)), g1 17 true (.bin 19 .geq (.t 18) (.c (.int .i64 0))), g0 (.pick 20 (.t 17) (.t 19) (.c (.bool false)))])
  (.cond (.t 20) (.skip)
  (.exit 0)))
  (.seq (.block 1 (.ops [g0 (.fldA 23 (.t 3) 3 none), g0 (.load 24 (.t 23) none (some 3) false), g0 (.mv 25 (.t 7)), g0 (.idxA 26 (.t 24) (.t 25) 6 (some 6) none), g0 (.load 27 (.t 26) (some 6) none false), g0 (.mv 28 (.t 1)), g0 (.mv 29 (.t 2)), g0 (.bin 30 .sub (.t 29) (.c (.int .i64 1))), g0 (.call (some 31) 24 [(.t 27), (.t 28), (.t 30)]), g0 (.mv 1 (.t 31))]))
  (.ops [g0 (.mv 21 (.t 7)), g0 (.bin 22 .add (.t 21) (.c (.int .i64 1))), g0 (.mv 7 (.t 22))]))
/-- notary/notaryref06.Count -/
def F24 : IFunc := ⟨.pure, .seq (.ops [g0 (.boxL 3 6 (some (.t 0)) []), g0 (.mv 6 (.c (.int .i64 0)))])
  (.seq (.seq (.ops [g0 (.mv 8 (.t 2)), g0 (.bin 9 .leq (.t 8) (.c (.int .i64 0)))])
  (.cond (.t 9) (.seq (.ops [g0 (.mv 6 (.c (.int .i64 (-1))))])
  (.ret))
  (.skip)))
  (.seq (.ops [g0 (.mv 10 (.t 1)), g0 (.bin 11 .sub (.t 10) (.c (.int .i64 1))), g0 (.mv 1 (.t 11))])
  (.seq (.seq (.ops [g0 (.mv 7 (.c (.int .i64 0)))])
  (.block 0 (.loop L24_0)))
  (.seq (.ops [g0 (.mv 32 (.t 1)), g0 (.mv 6 (.t 32))])
  (.ret))))),
  [.t 6]⟩
def L25_0 : Ic := .seq (.seq (.ops [g0 (.mv 8 (.t 3)), g0 (.fldA 9 (.t 1) 3 none), g0 (.load 10 (.t 9) none (some 1) false), g0 (.len 11 .slice (.t 10) false), g0 (.bin 12 .lss (.t 8) (.t 11))])
  (.cond (.t 12) (.skip)
  (.exit 0)))
  (.seq (.block 1 (.seq (.ops [g0 (.fldA 15 (.t 1) 3 none), g0 (.load 16 (.t 15) none (some 1) false), g0 (.mv 17 (.t 3)), g0 (.idxA 18 (.t 16) (.t 17) 6 (some 6) none), g0 (.load 19 (.t 18) (some 6) none false), g0 (.call (some 20) 25 [(.t 19)])])
  (.cond (.t 20) (.seq (.ops [g0 (.mv 2 (.c (.bool true)))])
  (.ret))
  (.skip))))
  (.ops [g0 (.mv 13 (.t 3)), g0 (.bin 14 .add (.t 13) (.c (.int .i64 1))), g0 (.mv 3 (.t 14))]))
/-- notary/notaryref06.Named -/
def F25 : IFunc := ⟨.pure, .seq (.ops [g0 (.boxL 1 6 (some (.t 0)) []), g0 (.mv 2 (.c (.bool false)))])
  (.seq (.seq (.ops [g0 (.fldA 4 (.t 1) 2 none), g0 (.load 5 (.t 4) none (some 1) false), g0 (.len 6 .str (.t 5) false), g0 (.bin 7 .gtr (.t 6) (.c (.int .i64 40)))])
  (.cond (.t 7) (.seq (.ops [g0 (.mv 2 (.c (.bool true)))])
  (.ret))
  (.skip)))
  (.seq (.seq (.ops [g0 (.mv 3 (.c (.int .i64 0)))])
  (.block 0 (.loop L25_0)))
  (.seq (.ops [g0 (.mv 2 (.c (.bool false)))])
  (.ret)))),
  [.t 2]⟩
/-- notary/typ.Cells -/
def F26 : IFunc := ⟨.pure, .seq (.ops [g0 (.boxL 2 6 (some (.t 0)) []), g0 (.boxL 3 6 (some (.t 1)) []), g0 (.mv 4 (.c (.int .i64 0)))])
  (.seq (.ops [g0 (.load 5 (.t 2) (some 6) (some 2) false), g0 (.build 6 [(.int .i64 0), (.int .i64 0), (.str []), .nils, (.int .i64 0), (.int .i64 0), (.int .i64 0)] [(0, 6, (.t 5))]), g0 (.load 7 (.t 3) (some 6) (some 3) false), g0 (.call (some 8) 31 [(.t 6), (.t 7)]), g0 (.mv 4 (.t 8))])
  (.ret)),
  [.t 4]⟩
def L27_1 : Ic := .seq (.ops [g0 (.bin 39 .lss (.t 38) (.t 37))])
  (.seq (.cond (.t 39) (.skip)
  (.exit 3))
  (.seq (.block 4 (.seq (.ops [g0 (.idxA 40 (.t 36) (.t 38) 6 (some 6) none), g0 (.load 41 (.t 40) (some 6) none false), g0 (.boxL 7 6 none [(.int .i64 0), (.int .i64 0), (.str []), .nils, (.int .i64 0), (.int .i64 0)]), g0 (.store (.t 7) (.t 41) 6 (some 7))])
  (.ops [g0 (.fldA 42 (.t 5) 1 none), g0 (.load 43 (.t 42) none (some 5) false), g0 (.load 44 (.t 1) none none false), g0 (.fldA 45 (.t 7) 3 none), g0 (.load 46 (.t 45) none (some 7) false), g0 (.idxA 47 (.t 46) (.c (.int .i64 0)) 6 (some 6) none), g0 (.load 48 (.t 47) (some 6) none false), g0 (.callV (some 49) (.t 44) [(.t 48)]), g0 (.bsl 50 2 true [(.t 49)]), g0 (.app 51 (.t 43) (.t 50) 2), g0 (.fldA 52 (.t 5) 1 none), g0 (.store (.t 52) (.t 51) 1 (some 5))])))
  (.ops [g0 (.bin 53 .add (.t 38) (.c (.int .i64 1))), g0 (.mv 38 (.t 53))])))
def L27_0 : Ic := .seq (.ops [g0 (.bin 15 .lss (.t 14) (.t 13))])
  (.seq (.cond (.t 15) (.skip)
  (.exit 1))
  (.seq (.block 2 (.ops [g0 (.fldA 16 (.t 5) 1 none), g0 (.load 17 (.t 16) none (some 5) false), g0 (.load 18 (.t 1) none none false), g0 (.fldA 19 (.t 3) 3 none), g0 (.load 20 (.t 19) none (some 3) false), g0 (.idxA 21 (.t 20) (.c (.int .i64 0)) 6 (some 6) none), g0 (.load 22 (.t 21) (some 6) none false), g0 (.callV (some 23) (.t 18) [(.t 22)]), g0 (.bsl 24 2 true [(.t 23)]), g0 (.app 25 (.t 17) (.t 24) 2), g0 (.fldA 26 (.t 5) 1 none), g0 (.store (.t 26) (.t 25) 1 (some 5))]))
  (.ops [g0 (.bin 27 .add (.t 14) (.c (.int .i64 1))), g0 (.mv 14 (.t 27))])))
/-- notary/value.Zero$1 -/
def F27 : IFunc := ⟨.pop, .seq (.ops [g0 (.boxL 3 6 (some (.t 0)) []), g0 (.boxL 4 2 none [(.int .i64 0), .nils])])
  (.seq (.ops [g0 (.boxL 5 2 none [(.int .i64 0), .nils])])
  (.seq (.seq (.ops [g0 (.fldA 8 (.t 3) 0 none), g0 (.load 9 (.t 8) none (some 3) false)])
  (.block 0 (.seq (.ops [g0 (.bin 11 .eql (.t 9) (.c (.int .i64 3))), g0 (.mv 10 (.t 11))])
  (.cond (.t 10) (.seq (.ops [g0 (.fldA 12 (.t 3) 1 none), g0 (.load 13 (.t 12) none (some 3) false), g0 (.mv 14 (.c (.int .i64 0)))])
  (.block 1 (.loop L27_0)))
  (.seq (.ops [g0 (.bin 29 .eql (.t 9) (.c (.int .i64 4))), g0 (.mv 28 (.t 29))])
  (.cond (.t 28) (.seq (.ops [g0 (.fldA 30 (.t 2) 3 none), g0 (.load 31 (.t 30) none none false), g0 (.fldA 32 (.t 3) 1 none), g0 (.load 33 (.t 32) none (some 3) false), g0 (.idxA 34 (.t 31) (.t 33) 6 (some 6) none), g0 (.fldA 35 (.t 34) 3 none), g0 (.load 36 (.t 35) none none false), g0 (.len 37 .slice (.t 36) false), g0 (.mv 38 (.c (.int .i64 0)))])
  (.block 3 (.loop L27_1)))
  (.skip)))))))
  (.seq (.ops [g0 (.load 54 (.t 5) (some 2) (some 5) false), g0 (.store (.t 4) (.t 54) 2 (some 4))])
  (.ret)))),
  [.cell 4 (some 2) (some 4)]⟩
def L28_1 : Ic := .seq (.seq (.ops [g0 (.mv 36 (.t 8)), g0 (.mv 37 (.t 7)), g0 (.len 38 .slice (.t 37) false), g0 (.bin 39 .lss (.t 36) (.t 38))])
  (.cond (.t 39) (.skip)
  (.exit 2)))
  (.seq (.block 3 (.ops [g0 (.mv 42 (.t 5)), g0 (.mv 43 (.t 7)), g0 (.mv 44 (.t 8)), g0 (.idxA 45 (.t 43) (.t 44) 6 (some 6) none), g0 (.fldA 46 (.t 45) 3 none), g0 (.load 47 (.t 46) none none false), g0 (.idxA 48 (.t 47) (.c (.int .i64 0)) 6 (some 6) none), g0 (.load 49 (.t 48) (some 6) none false), g0 (.bsl 50 6 true [(.t 49)]), g0 (.app 51 (.t 42) (.t 50) 6), g0 (.mv 5 (.t 51))]))
  (.ops [g0 (.mv 40 (.t 8)), g0 (.bin 41 .add (.t 40) (.c (.int .i64 1))), g0 (.mv 8 (.t 41))]))
def L28_0 : Ic := .seq (.seq (.ops [g0 (.mv 13 (.t 6)), g0 (.fldA 14 (.t 3) 1 none), g0 (.load 15 (.t 14) none (some 3) false), g0 (.bin 16 .lss (.t 13) (.t 15))])
  (.cond (.t 16) (.skip)
  (.exit 0)))
  (.seq (.block 1 (.ops [g0 (.mv 19 (.t 5)), g0 (.fldA 20 (.t 3) 3 none), g0 (.load 21 (.t 20) none (some 3) false), g0 (.idxA 22 (.t 21) (.c (.int .i64 0)) 6 (some 6) none), g0 (.load 23 (.t 22) (some 6) none false), g0 (.bsl 24 6 true [(.t 23)]), g0 (.app 25 (.t 19) (.t 24) 6), g0 (.mv 5 (.t 25))]))
  (.ops [g0 (.mv 17 (.t 6)), g0 (.bin 18 .add (.t 17) (.c (.int .i64 1))), g0 (.mv 6 (.t 18))]))
/-- notary/notaryref19.Parts -/
def F28 : IFunc := ⟨.pure, .seq (.ops [g0 (.boxL 2 6 (some (.t 0)) []), g0 (.boxL 3 6 (some (.t 1)) []), g0 (.mv 4 (.c .nils))])
  (.seq (.ops [g0 (.bsl 9 6 true []), g0 (.mv 5 (.t 9))])
  (.seq (.seq (.ops [g0 (.fldA 10 (.t 3) 0 none), g0 (.load 11 (.t 10) none (some 3) false), g0 (.bin 12 .eql (.t 11) (.c (.int .i64 3)))])
  (.cond (.t 12) (.seq (.ops [g0 (.mv 6 (.c (.int .i64 0)))])
  (.block 0 (.loop L28_0)))
  (.skip)))
  (.seq (.seq (.ops [g0 (.fldA 26 (.t 3) 0 none), g0 (.load 27 (.t 26) none (some 3) false), g0 (.bin 28 .eql (.t 27) (.c (.int .i64 4)))])
  (.cond (.t 28) (.seq (.ops [g0 (.fldA 29 (.t 2) 3 none), g0 (.load 30 (.t 29) none (some 2) false), g0 (.fldA 31 (.t 3) 1 none), g0 (.load 32 (.t 31) none (some 3) false), g0 (.idxA 33 (.t 30) (.t 32) 6 (some 6) none), g0 (.fldA 34 (.t 33) 3 none), g0 (.load 35 (.t 34) none none false), g0 (.mv 7 (.t 35))])
  (.seq (.ops [g0 (.mv 8 (.c (.int .i64 0)))])
  (.block 2 (.loop L28_1))))
  (.skip)))
  (.seq (.ops [g0 (.mv 52 (.t 5)), g0 (.mv 4 (.t 52))])
  (.ret))))),
  [.t 4]⟩
def L29_0 : Ic := .seq (.ops [g0 (.bin 75 .lss (.t 74) (.t 73))])
  (.seq (.cond (.t 75) (.skip)
  (.exit 1))
  (.seq (.block 2 (.seq (.ops [g0 (.mv 76 (.t 74)), g0 (.idxA 77 (.t 72) (.t 74) 6 (some 6) none), g0 (.load 78 (.t 77) (some 6) none false), g0 (.boxL 9 6 none [(.int .i64 0), (.int .i64 0), (.str []), .nils, (.int .i64 0), (.int .i64 0)]), g0 (.mv 8 (.t 76)), g0 (.store (.t 9) (.t 78) 6 (some 9))])
  (.seq (.ops [g0 (.load 79 (.t 3) (some 6) none false), g0 (.fldA 80 (.t 9) 3 none), g0 (.load 81 (.t 80) none (some 9) false), g0 (.idxA 82 (.t 81) (.c (.int .i64 0)) 6 (some 6) none), g0 (.load 83 (.t 82) (some 6) none false), g0 (.fldA 84 (.t 5) 1 none), g0 (.load 85 (.t 84) none (some 5) false), g0 (.mv 86 (.t 8)), g0 (.idxA 87 (.t 85) (.t 86) 2 (some 2) none), g0 (.load 88 (.t 87) (some 2) none false), g0 (.call (some 89) 29 [(.t 79), (.t 83), (.t 88)]), g0 (.un 90 .not (.t 89))])
  (.cond (.t 90) (.seq (.ops [g0 (.mv 6 (.c (.bool false)))])
  (.ret))
  (.skip)))))
  (.ops [g0 (.bin 91 .add (.t 74) (.c (.int .i64 1))), g0 (.mv 74 (.t 91))])))
/-- notary/value.fits -/
def F29 : IFunc := ⟨.pure, .seq (.ops [g0 (.boxI 3 (some 6) (.t 0)), g0 (.boxI 4 (some 6) (.t 1)), g0 (.boxL 5 2 (some (.t 2)) []), g0 (.mv 6 (.c (.bool false)))])
  (.seq (.seq (.ops [g0 (.fldA 10 (.t 4) 0 none), g0 (.load 11 (.t 10) none none false)])
  (.block 0 (.seq (.ops [g0 (.bin 13 .eql (.t 11) (.c (.int .i64 1))), g0 (.mv 12 (.t 13))])
  (.cond (.t 12) (.seq (.ops [g0 (.fldA 14 (.t 5) 1 none), g0 (.load 15 (.t 14) none (some 5) false), g0 (.len 16 .slice (.t 15) false), g0 (.bin 17 .eql (.t 16) (.c (.int .i64 0))), g0 (.mv 6 (.t 17))])
  (.ret))
  (.seq (.ops [g0 (.bin 19 .eql (.t 11) (.c (.int .i64 2))), g0 (.mv 18 (.t 19))])
  (.cond (.t 18) (.seq (.ops [g0 (.fldA 20 (.t 5) 1 none), g0 (.load 21 (.t 20) none (some 5) false), g0 (.len 22 .slice (.t 21) false), g0 (.bin 23 .eql (.t 22) (.c (.int .i64 0))), g0 (.mv 24 (.t 23)), g1 24 true (.fldA 25 (.t 5) 0 none), g1 24 true (.load 26 (.t 25) none (some 5) false), g1 24 true (.bin 27 .eql (.t 26) (.c (.int .i64 0))), g1 24 true (.mv 28 (.t 27)), g1 28 false (.fldA 29 (.t 5) 0 none), g1 28 false (.load 30 (.t 29) none (some 5) false), g1 28 false (.bin 31 .eql (.t 30) (.c (.int .i64 1))), g1 24 true (.pick 32 (.t 28) (.c (.bool true)) (.t 31)), g0 (.pick 33 (.t 24) (.t 32) (.c (.bool false))), g0 (.mv 6 (.t 33))])
  (.ret))
  (.seq (.ops [g0 (.bin 35 .eql (.t 11) (.c (.int .i64 3))), g0 (.mv 34 (.t 35))])
  (.cond (.t 34) (.seq (.ops [g0 (.fldA 36 (.t 5) 0 none), g0 (.load 37 (.t 36) none (some 5) false), g0 (.bin 38 .eql (.t 37) (.c (.int .i64 0))), g0 (.mv 39 (.t 38)), g1 39 true (.fldA 40 (.t 5) 1 none), g1 39 true (.load 41 (.t 40) none (some 5) false), g1 39 true (.len 42 .slice (.t 41) false), g1 39 true (.fldA 43 (.t 4) 1 none), g1 39 true (.load 44 (.t 43) none none false), g1 39 true (.bin 45 .eql (.t 42) (.t 44)), g0 (.pick 46 (.t 39) (.t 45) (.c (.bool false))), g0 (.mv 47 (.t 46)), g1 47 true (.fldA 48 (.t 5) 1 none), g1 47 true (.load 49 (.t 48) none (some 5) false), g1 47 true (.mkfn 50 33 [] [(.t 3), (.t 4)]), g1 47 true (.call (some 51) 32 [(.t 49), (.t 50)]), g1 47 true (.un 52 .not (.t 51)), g0 (.pick 53 (.t 47) (.t 52) (.c (.bool false))), g0 (.mv 6 (.t 53))])
  (.ret))
  (.skip)))))))))
  (.seq (.ops [g0 (.fldA 54 (.t 3) 3 none), g0 (.load 55 (.t 54) none none false), g0 (.fldA 56 (.t 4) 1 none), g0 (.load 57 (.t 56) none none false), g0 (.idxA 58 (.t 55) (.t 57) 6 (some 6) none), g0 (.fldA 59 (.t 58) 3 none), g0 (.load 60 (.t 59) none none false), g0 (.mv 7 (.t 60))])
  (.seq (.seq (.ops [g0 (.fldA 61 (.t 5) 0 none), g0 (.load 62 (.t 61) none (some 5) false), g0 (.bin 63 .neq (.t 62) (.c (.int .i64 0))), g0 (.mv 64 (.t 63)), g1 64 false (.fldA 65 (.t 5) 1 none), g1 64 false (.load 66 (.t 65) none (some 5) false), g1 64 false (.len 67 .slice (.t 66) false), g1 64 false (.mv 68 (.t 7)), g1 64 false (.len 69 .slice (.t 68) false), g1 64 false (.bin 70 .neq (.t 67) (.t 69)), g0 (.pick 71 (.t 64) (.c (.bool true)) (.t 70))])
  (.cond (.t 71) (.seq (.ops [g0 (.mv 6 (.c (.bool false)))])
  (.ret))
  (.skip)))
  (.seq (.seq (.ops [g0 (.mv 72 (.t 7)), g0 (.len 73 .slice (.t 72) false), g0 (.mv 74 (.c (.int .i64 0)))])
  (.block 1 (.loop L29_0)))
  (.seq (.ops [g0 (.mv 6 (.c (.bool true)))])
  (.ret)))))),
  [.t 6]⟩
def L30_1 : Ic := .seq (.seq (.ops [g0 (.mv 104 (.t 12)), g0 (.fldA 105 (.t 10) 3 none), g0 (.load 106 (.t 105) none (some 10) false), g0 (.len 107 .slice (.t 106) false), g0 (.bin 108 .lss (.t 104) (.t 107))])
  (.cond (.t 108) (.skip)
  (.exit 2)))
  (.seq (.block 3 (.seq (.ops [g0 (.load 111 (.t 3) (some 6) (some 3) false), g0 (.fldA 112 (.t 10) 3 none), g0 (.load 113 (.t 112) none (some 10) false), g0 (.mv 114 (.t 12)), g0 (.idxA 115 (.t 113) (.t 114) 6 (some 6) none), g0 (.fldA 116 (.t 115) 3 none), g0 (.load 117 (.t 116) none none true), g0 (.idxA 118 (.t 117) (.c (.int .i64 0)) 6 (some 6) none), g0 (.load 119 (.t 118) (some 6) none true), g0 (.bsl 120 1 false []), g0 (.mv 121 (.t 2)), g0 (.app 122 (.t 120) (.t 121) 1), g0 (.mv 123 (.t 8)), g0 (.bsl 124 1 false [(.t 123)]), g0 (.app 125 (.t 122) (.t 124) 1), g0 (.call (some 126) 30 [(.t 111), (.t 119), (.t 125)]), g0 (.mv 13 (.t 126))])
  (.seq (.ops [g0 (.mv 127 (.t 11)), g0 (.mv 128 (.t 13)), g0 (.bin 129 .add (.t 127) (.t 128)), g0 (.mv 11 (.t 129))])
  (.seq (.ops [g0 (.mv 130 (.t 13)), g0 (.bin 131 .eql (.t 130) (.c (.int .i64 0))), g0 (.mv 132 (.t 131)), g1 132 false (.mv 133 (.t 11)), g1 132 false (.bin 134 .gtr (.t 133) (.c (.int .i64 64))), g0 (.pick 135 (.t 132) (.c (.bool true)) (.t 134))])
  (.cond (.t 135) (.seq (.ops [g0 (.mv 6 (.c (.int .i64 0)))])
  (.ret))
  (.skip))))))
  (.ops [g0 (.mv 109 (.t 12)), g0 (.bin 110 .add (.t 109) (.c (.int .i64 1))), g0 (.mv 12 (.t 110))]))
def L30_0 : Ic := .seq (.seq (.ops [g0 (.mv 84 (.t 9)), g0 (.mv 85 (.t 2)), g0 (.len 86 .slice (.t 85) false), g0 (.bin 87 .lss (.t 84) (.t 86))])
  (.cond (.t 87) (.skip)
  (.exit 0)))
  (.seq (.block 1 (.seq (.ops [g0 (.mv 90 (.t 2)), g0 (.mv 91 (.t 9)), g0 (.idxA 92 (.t 90) (.t 91) 1 none none), g0 (.load 93 (.t 92) none none false), g0 (.mv 94 (.t 8)), g0 (.bin 95 .eql (.t 93) (.t 94))])
  (.cond (.t 95) (.seq (.ops [g0 (.mv 6 (.c (.int .i64 0)))])
  (.ret))
  (.skip))))
  (.ops [g0 (.mv 88 (.t 9)), g0 (.bin 89 .add (.t 88) (.c (.int .i64 1))), g0 (.mv 9 (.t 89))]))
/-- notary/notaryref12.Within -/
def F30 : IFunc := ⟨.pure, .seq (.ops [g0 (.boxL 3 6 (some (.t 0)) []), g0 (.boxL 4 6 (some (.t 1)) []), g0 (.mv 6 (.c (.int .i64 0)))])
  (.seq (.seq (.ops [g0 (.fldA 14 (.t 4) 0 none), g0 (.load 15 (.t 14) none (some 4) false), g0 (.bin 16 .eql (.t 15) (.c (.int .i64 1))), g0 (.mv 17 (.t 16)), g1 17 false (.fldA 18 (.t 4) 0 none), g1 17 false (.load 19 (.t 18) none (some 4) false), g1 17 false (.bin 20 .eql (.t 19) (.c (.int .i64 2))), g0 (.pick 21 (.t 17) (.c (.bool true)) (.t 20)), g0 (.mv 22 (.t 21)), g1 22 true (.fldA 23 (.t 4) 3 none), g1 22 true (.load 24 (.t 23) none (some 4) false), g1 22 true (.len 25 .slice (.t 24) false), g1 22 true (.bin 26 .eql (.t 25) (.c (.int .i64 0))), g0 (.pick 27 (.t 22) (.t 26) (.c (.bool false)))])
  (.cond (.t 27) (.seq (.ops [g0 (.mv 6 (.c (.int .i64 1)))])
  (.ret))
  (.skip)))
  (.seq (.seq (.ops [g0 (.fldA 28 (.t 4) 0 none), g0 (.load 29 (.t 28) none (some 4) false), g0 (.bin 30 .eql (.t 29) (.c (.int .i64 3))), g0 (.mv 31 (.t 30)), g1 31 true (.fldA 32 (.t 4) 3 none), g1 31 true (.load 33 (.t 32) none (some 4) false), g1 31 true (.len 34 .slice (.t 33) false), g1 31 true (.bin 35 .eql (.t 34) (.c (.int .i64 1))), g0 (.pick 36 (.t 31) (.t 35) (.c (.bool false))), g0 (.mv 37 (.t 36)), g1 37 true (.fldA 38 (.t 4) 1 none), g1 37 true (.load 39 (.t 38) none (some 4) false), g1 37 true (.bin 40 .geq (.t 39) (.c (.int .i64 1))), g0 (.pick 41 (.t 37) (.t 40) (.c (.bool false))), g0 (.mv 42 (.t 41)), g1 42 true (.fldA 43 (.t 4) 1 none), g1 42 true (.load 44 (.t 43) none (some 4) false), g1 42 true (.bin 45 .leq (.t 44) (.c (.int .i64 16))), g0 (.pick 46 (.t 42) (.t 45) (.c (.bool false)))])
  (.cond (.t 46) (.seq (.ops [g0 (.load 47 (.t 3) (some 6) (some 3) false), g0 (.fldA 48 (.t 4) 3 none), g0 (.load 49 (.t 48) none (some 4) false), g0 (.idxA 50 (.t 49) (.c (.int .i64 0)) 6 (some 6) none), g0 (.load 51 (.t 50) (some 6) none false), g0 (.mv 52 (.t 2)), g0 (.call (some 53) 30 [(.t 47), (.t 51), (.t 52)]), g0 (.fldA 54 (.t 4) 1 none), g0 (.load 55 (.t 54) none (some 4) false), g0 (.bin 56 .mul (.t 53) (.t 55)), g0 (.mv 7 (.t 56))])
  (.seq (.seq (.ops [g0 (.mv 57 (.t 7)), g0 (.bin 58 .gtr (.t 57) (.c (.int .i64 64)))])
  (.cond (.t 58) (.seq (.ops [g0 (.mv 6 (.c (.int .i64 0)))])
  (.ret))
  (.skip)))
  (.seq (.ops [g0 (.mv 59 (.t 7)), g0 (.mv 6 (.t 59))])
  (.ret))))
  (.skip)))
  (.seq (.seq (.ops [g0 (.fldA 60 (.t 4) 0 none), g0 (.load 61 (.t 60) none (some 4) false), g0 (.bin 62 .neq (.t 61) (.c (.int .i64 4))), g0 (.mv 63 (.t 62)), g1 63 false (.fldA 64 (.t 4) 3 none), g1 63 false (.load 65 (.t 64) none (some 4) false), g1 63 false (.len 66 .slice (.t 65) false), g1 63 false (.bin 67 .neq (.t 66) (.c (.int .i64 0))), g0 (.pick 68 (.t 63) (.c (.bool true)) (.t 67)), g0 (.mv 69 (.t 68)), g1 69 false (.fldA 70 (.t 4) 1 none), g1 69 false (.load 71 (.t 70) none (some 4) false), g1 69 false (.bin 72 .lss (.t 71) (.c (.int .i64 0))), g0 (.pick 73 (.t 69) (.c (.bool true)) (.t 72)), g0 (.mv 74 (.t 73)), g1 74 false (.fldA 75 (.t 4) 1 none), g1 74 false (.load 76 (.t 75) none (some 4) false), g1 74 false (.fldA 77 (.t 3) 3 none), g1 74 false (.load 78 (.t 77) none (some 3) false), g1 74 false (.len 79 .slice (.t 78) false), g1 74 false (.bin 80 .geq (.t 76) (.t 79)), g0 (.pick 81 (.t 74) (.c (.bool true)) (.t 80))])
  (.cond (.t 81) (.seq (.ops [g0 (.mv 6 (.c (.int .i64 0)))])
  (.ret))
  (.skip)))
  (.seq (.ops [g0 (.fldA 82 (.t 4) 1 none), g0 (.load 83 (.t 82) none (some 4) false), g0 (.mv 8 (.t 83))])
  (.seq (.seq (.ops [g0 (.mv 9 (.c (.int .i64 0)))])
  (.block 0 (.loop L30_0)))
  (.seq (.ops [g0 (.fldA 96 (.t 3) 3 none), g0 (.load 97 (.t 96) none (some 3) false), g0 (.mv 98 (.t 8)), g0 (.idxA 99 (.t 97) (.t 98) 6 (some 6) none), g0 (.load 100 (.t 99) (some 6) none false), g0 (.boxL 10 6 none [(.int .i64 0), (.int .i64 0), (.str []), .nils, (.int .i64 0), (.int .i64 0)]), g0 (.store (.t 10) (.t 100) 6 (some 10))])
  (.seq (.seq (.ops [g0 (.load 101 (.t 10) (some 6) (some 10) false), g0 (.call (some 102) 34 [(.t 101)]), g0 (.un 103 .not (.t 102))])
  (.cond (.t 103) (.seq (.ops [g0 (.mv 6 (.c (.int .i64 0)))])
  (.ret))
  (.skip)))
  (.seq (.ops [g0 (.mv 11 (.c (.int .i64 0)))])
  (.seq (.seq (.ops [g0 (.mv 12 (.c (.int .i64 0)))])
  (.block 2 (.loop L30_1)))
  (.seq (.ops [g0 (.mv 136 (.t 11)), g0 (.mv 6 (.t 136))])
  (.ret))))))))))),
  [.t 6]⟩
/-- (notary/typ.meter).cells -/
def F31 : IFunc := ⟨.pure, .seq (.ops [g0 (.boxL 2 7 (some (.t 0)) []), g0 (.boxL 3 6 (some (.t 1)) []), g0 (.mv 4 (.c (.int .i64 0)))])
  (.seq (.block 0 (.seq (.ops [g0 (.fldA 6 (.t 3) 0 none), g0 (.load 7 (.t 6) none (some 3) false), g0 (.bin 8 .eql (.t 7) (.c (.int .i64 1))), g0 (.mv 9 (.t 8)), g1 9 false (.fldA 10 (.t 3) 0 none), g1 9 false (.load 11 (.t 10) none (some 3) false), g1 9 false (.bin 12 .eql (.t 11) (.c (.int .i64 2))), g0 (.pick 13 (.t 9) (.c (.bool true)) (.t 12)), g0 (.mv 14 (.t 13)), g1 14 true (.fldA 15 (.t 3) 3 none), g1 14 true (.load 16 (.t 15) none (some 3) false), g1 14 true (.len 17 .slice (.t 16) false), g1 14 true (.bin 18 .eql (.t 17) (.c (.int .i64 0))), g0 (.pick 19 (.t 14) (.t 18) (.c (.bool false))), g0 (.mv 5 (.t 19))])
  (.cond (.t 5) (.seq (.ops [g0 (.mv 4 (.c (.int .i64 1)))])
  (.ret))
  (.seq (.ops [g0 (.fldA 21 (.t 3) 0 none), g0 (.load 22 (.t 21) none (some 3) false), g0 (.bin 23 .eql (.t 22) (.c (.int .i64 3))), g0 (.mv 24 (.t 23)), g1 24 true (.fldA 25 (.t 3) 3 none), g1 24 true (.load 26 (.t 25) none (some 3) false), g1 24 true (.len 27 .slice (.t 26) false), g1 24 true (.bin 28 .eql (.t 27) (.c (.int .i64 1))), g0 (.pick 29 (.t 24) (.t 28) (.c (.bool false))), g0 (.mv 20 (.t 29))])
  (.cond (.t 20) (.seq (.ops [g0 (.fldA 30 (.t 3) 1 none), g0 (.load 31 (.t 30) none (some 3) false), g0 (.load 32 (.t 2) (some 7) (some 2) false), g0 (.fldA 33 (.t 3) 3 none), g0 (.load 34 (.t 33) none (some 3) false), g0 (.idxA 35 (.t 34) (.c (.int .i64 0)) 6 (some 6) none), g0 (.load 36 (.t 35) (some 6) none false), g0 (.call (some 37) 31 [(.t 32), (.t 36)]), g0 (.call (some 38) 35 [(.t 31), (.t 37)]), g0 (.mv 4 (.t 38))])
  (.ret))
  (.seq (.ops [g0 (.fldA 40 (.t 3) 0 none), g0 (.load 41 (.t 40) none (some 3) false), g0 (.bin 42 .eql (.t 41) (.c (.int .i64 4))), g0 (.mv 43 (.t 42)), g1 43 true (.fldA 44 (.t 3) 3 none), g1 43 true (.load 45 (.t 44) none (some 3) false), g1 43 true (.len 46 .slice (.t 45) false), g1 43 true (.bin 47 .eql (.t 46) (.c (.int .i64 0))), g0 (.pick 48 (.t 43) (.t 47) (.c (.bool false))), g0 (.mv 39 (.t 48))])
  (.cond (.t 39) (.seq (.ops [g0 (.load 49 (.t 2) (some 7) (some 2) false), g0 (.fldA 50 (.t 3) 1 none), g0 (.load 51 (.t 50) none (some 3) false), g0 (.call (some 52) 36 [(.t 49), (.t 51)]), g0 (.mv 4 (.t 52))])
  (.ret))
  (.skip))))))))
  (.seq (.ops [g0 (.mv 4 (.c (.int .i64 0)))])
  (.ret))),
  [.t 4]⟩
/-- slices.ContainsFunc[[]notary/api.Value,notary/api.Value] -/
def F32 : IFunc := ⟨.pure, .seq (.ops [g0 (.mv 4 (.c (.bool false)))])
  (.seq (.ops [g0 (.mv 5 (.t 0)), g0 (.mv 6 (.t 1)), g0 (.call (some 7) 37 [(.t 5), (.t 6)]), g0 (.bin 8 .geq (.t 7) (.c (.int .i64 0))), g0 (.mv 4 (.t 8))])
  (.ret)),
  [.t 4]⟩
/-- notary/value.fits$1 -/
def F33 : IFunc := ⟨.pure, .seq (.ops [g0 (.boxL 3 2 (some (.t 0)) []), g0 (.mv 4 (.c (.bool false)))])
  (.seq (.ops [g0 (.load 5 (.t 1) (some 6) none false), g0 (.fldA 6 (.t 2) 3 none), g0 (.load 7 (.t 6) none none false), g0 (.idxA 8 (.t 7) (.c (.int .i64 0)) 6 (some 6) none), g0 (.load 9 (.t 8) (some 6) none false), g0 (.load 10 (.t 3) (some 2) (some 3) false), g0 (.call (some 11) 29 [(.t 5), (.t 9), (.t 10)]), g0 (.un 12 .not (.t 11)), g0 (.mv 4 (.t 12))])
  (.ret)),
  [.t 4]⟩
def L34_0 : Ic := .seq (.seq (.ops [g0 (.mv 13 (.t 3)), g0 (.fldA 14 (.t 1) 3 none), g0 (.load 15 (.t 14) none (some 1) false), g0 (.len 16 .slice (.t 15) false), g0 (.bin 17 .lss (.t 13) (.t 16))])
  (.cond (.t 17) (.skip)
  (.exit 0)))
  (.seq (.block 1 (.seq (.ops [g0 (.fldA 20 (.t 1) 3 none), g0 (.load 21 (.t 20) none (some 1) false), g0 (.mv 22 (.t 3)), g0 (.idxA 23 (.t 21) (.t 22) 6 (some 6) none), g0 (.fldA 24 (.t 23) 0 none), g0 (.load 25 (.t 24) none none false), g0 (.bin 26 .neq (.t 25) (.c (.int .i64 34))), g0 (.mv 27 (.t 26)), g1 27 false (.fldA 28 (.t 1) 3 none), g1 27 false (.load 29 (.t 28) none (some 1) false), g1 27 false (.mv 30 (.t 3)), g1 27 false (.idxA 31 (.t 29) (.t 30) 6 (some 6) none), g1 27 false (.fldA 32 (.t 31) 3 none), g1 27 false (.load 33 (.t 32) none none false), g1 27 false (.len 34 .slice (.t 33) false), g1 27 false (.bin 35 .neq (.t 34) (.c (.int .i64 1))), g0 (.pick 36 (.t 27) (.c (.bool true)) (.t 35))])
  (.cond (.t 36) (.seq (.ops [g0 (.mv 2 (.c (.bool false)))])
  (.ret))
  (.skip))))
  (.ops [g0 (.mv 18 (.t 3)), g0 (.bin 19 .add (.t 18) (.c (.int .i64 1))), g0 (.mv 3 (.t 19))]))
/-- notary/notaryref12.Shaped -/
def F34 : IFunc := ⟨.pure, .seq (.ops [g0 (.boxL 1 6 (some (.t 0)) []), g0 (.mv 2 (.c (.bool false)))])
  (.seq (.seq (.ops [g0 (.fldA 4 (.t 1) 0 none), g0 (.load 5 (.t 4) none (some 1) false), g0 (.bin 6 .neq (.t 5) (.c (.int .i64 30))), g0 (.mv 7 (.t 6)), g1 7 false (.fldA 8 (.t 1) 3 none), g1 7 false (.load 9 (.t 8) none (some 1) false), g1 7 false (.len 10 .slice (.t 9) false), g1 7 false (.bin 11 .eql (.t 10) (.c (.int .i64 0))), g0 (.pick 12 (.t 7) (.c (.bool true)) (.t 11))])
  (.cond (.t 12) (.seq (.ops [g0 (.mv 2 (.c (.bool false)))])
  (.ret))
  (.skip)))
  (.seq (.seq (.ops [g0 (.mv 3 (.c (.int .i64 0)))])
  (.block 0 (.loop L34_0)))
  (.seq (.ops [g0 (.mv 2 (.c (.bool true)))])
  (.ret)))),
  [.t 2]⟩
/-- notary/typ.product -/
def F35 : IFunc := ⟨.pure, .seq (.ops [g0 (.mv 4 (.c (.int .i64 0)))])
  (.seq (.seq (.ops [g0 (.mv 5 (.t 0)), g0 (.bin 6 .lss (.t 5) (.c (.int .i64 1))), g0 (.mv 7 (.t 6)), g1 7 false (.mv 8 (.t 0)), g1 7 false (.bin 9 .gtr (.t 8) (.c (.int .i64 16))), g0 (.pick 10 (.t 7) (.c (.bool true)) (.t 9)), g0 (.mv 11 (.t 10)), g1 11 false (.mv 12 (.t 0)), g1 11 false (.mv 13 (.t 1)), g1 11 false (.bin 14 .mul (.t 12) (.t 13)), g1 11 false (.bin 15 .gtr (.t 14) (.c (.int .i64 64))), g0 (.pick 16 (.t 11) (.c (.bool true)) (.t 15))])
  (.cond (.t 16) (.seq (.ops [g0 (.mv 4 (.c (.int .i64 0)))])
  (.ret))
  (.skip)))
  (.seq (.ops [g0 (.mv 17 (.t 0)), g0 (.mv 18 (.t 1)), g0 (.bin 19 .mul (.t 17) (.t 18)), g0 (.mv 4 (.t 19))])
  (.ret))),
  [.t 4]⟩
def L36_0 : Ic := .seq (.ops [g0 (.bin 46 .lss (.t 45) (.t 44))])
  (.seq (.cond (.t 46) (.skip)
  (.exit 0))
  (.seq (.block 1 (.seq (.ops [g0 (.mv 47 (.t 45)), g0 (.mv 7 (.t 47))])
  (.seq (.ops [g0 (.fldA 48 (.t 5) 3 none), g0 (.load 49 (.t 48) none (some 5) false), g0 (.mv 50 (.t 7)), g0 (.idxA 51 (.t 49) (.t 50) 6 (some 6) none), g0 (.load 52 (.t 51) (some 6) none false), g0 (.boxL 8 6 none [(.int .i64 0), (.int .i64 0), (.str []), .nils, (.int .i64 0), (.int .i64 0)]), g0 (.store (.t 8) (.t 52) 6 (some 8))])
  (.seq (.seq (.ops [g0 (.fldA 53 (.t 8) 0 none), g0 (.load 54 (.t 53) none (some 8) false), g0 (.bin 55 .neq (.t 54) (.c (.int .i64 34))), g0 (.mv 56 (.t 55)), g1 56 false (.fldA 57 (.t 8) 3 none), g1 56 false (.load 58 (.t 57) none (some 8) false), g1 56 false (.len 59 .slice (.t 58) false), g1 56 false (.bin 60 .neq (.t 59) (.c (.int .i64 1))), g0 (.pick 61 (.t 56) (.c (.bool true)) (.t 60))])
  (.cond (.t 61) (.seq (.ops [g0 (.mv 4 (.c (.int .i64 0)))])
  (.ret))
  (.skip)))
  (.seq (.ops [g0 (.load 62 (.t 2) (some 7) (some 2) false), g0 (.fldA 63 (.t 8) 3 none), g0 (.load 64 (.t 63) none (some 8) false), g0 (.idxA 65 (.t 64) (.c (.int .i64 0)) 6 (some 6) none), g0 (.load 66 (.t 65) (some 6) none false), g0 (.call (some 67) 31 [(.t 62), (.t 66)]), g0 (.mv 9 (.t 67))])
  (.seq (.ops [g0 (.mv 68 (.t 6)), g0 (.mv 69 (.t 9)), g0 (.bin 70 .add (.t 68) (.t 69)), g0 (.mv 6 (.t 70))])
  (.seq (.ops [g0 (.mv 71 (.t 9)), g0 (.bin 72 .eql (.t 71) (.c (.int .i64 0))), g0 (.mv 73 (.t 72)), g1 73 false (.mv 74 (.t 6)), g1 73 false (.bin 75 .gtr (.t 74) (.c (.int .i64 64))), g0 (.pick 76 (.t 73) (.c (.bool true)) (.t 75))])
  (.cond (.t 76) (.seq (.ops [g0 (.mv 4 (.c (.int .i64 0)))])
  (.ret))
  (.skip)))))))))
  (.ops [g0 (.bin 77 .add (.t 45) (.c (.int .i64 1))), g0 (.mv 45 (.t 77))])))
/-- (notary/typ.meter).record -/
def F36 : IFunc := ⟨.pure, .seq (.ops [g0 (.boxL 2 7 (some (.t 0)) []), g0 (.mv 4 (.c (.int .i64 0)))])
  (.seq (.seq (.ops [g0 (.mv 10 (.t 1)), g0 (.bin 11 .lss (.t 10) (.c (.int .i64 0))), g0 (.mv 12 (.t 11)), g1 12 false (.mv 13 (.t 1)), g1 12 false (.fldA 14 (.t 2) 0 (some 6)), g1 12 false (.fldA 15 (.t 14) 3 none), g1 12 false (.load 16 (.t 15) none (some 2) false), g1 12 false (.len 17 .slice (.t 16) false), g1 12 false (.bin 18 .geq (.t 13) (.t 17)), g0 (.pick 19 (.t 12) (.c (.bool true)) (.t 18)), g0 (.mv 20 (.t 19)), g1 20 false (.fldA 21 (.t 2) 6 none), g1 20 false (.load 22 (.t 21) none (some 2) false), g1 20 false (.fldA 23 (.t 2) 0 (some 6)), g1 20 false (.fldA 24 (.t 23) 3 none), g1 20 false (.load 25 (.t 24) none (some 2) false), g1 20 false (.len 26 .slice (.t 25) false), g1 20 false (.bin 27 .gtr (.t 22) (.t 26)), g0 (.pick 28 (.t 20) (.c (.bool true)) (.t 27))])
  (.cond (.t 28) (.seq (.ops [g0 (.mv 4 (.c (.int .i64 0)))])
  (.ret))
  (.skip)))
  (.seq (.ops [g0 (.fldA 29 (.t 2) 0 (some 6)), g0 (.fldA 30 (.t 29) 3 none), g0 (.load 31 (.t 30) none (some 2) false), g0 (.mv 32 (.t 1)), g0 (.idxA 33 (.t 31) (.t 32) 6 (some 6) none), g0 (.load 34 (.t 33) (some 6) none false), g0 (.boxL 5 6 none [(.int .i64 0), (.int .i64 0), (.str []), .nils, (.int .i64 0), (.int .i64 0)]), g0 (.store (.t 5) (.t 34) 6 (some 5))])
  (.seq (.seq (.ops [g0 (.fldA 35 (.t 5) 0 none), g0 (.load 36 (.t 35) none (some 5) false), g0 (.bin 37 .neq (.t 36) (.c (.int .i64 30)))])
  (.cond (.t 37) (.seq (.ops [g0 (.mv 4 (.c (.int .i64 0)))])
  (.ret))
  (.skip)))
  (.seq (.ops [g0 (.fldA 38 (.t 2) 6 none), g0 (.load 39 (.t 38) none (some 2) false), g0 (.bin 40 .add (.t 39) (.c (.int .i64 1))), g0 (.fldA 41 (.t 2) 6 none), g0 (.store (.t 41) (.t 40) 1 (some 2))])
  (.seq (.ops [g0 (.mv 6 (.c (.int .i64 0)))])
  (.seq (.seq (.ops [g0 (.fldA 42 (.t 5) 3 none), g0 (.load 43 (.t 42) none (some 5) false), g0 (.len 44 .slice (.t 43) false), g0 (.mv 45 (.c (.int .i64 0)))])
  (.block 0 (.loop L36_0)))
  (.seq (.ops [g0 (.mv 78 (.t 6)), g0 (.mv 4 (.t 78))])
  (.ret)))))))),
  [.t 4]⟩
def L37_0 : Ic := .seq (.ops [g0 (.bin 9 .lss (.t 8) (.t 7))])
  (.seq (.cond (.t 9) (.skip)
  (.exit 0))
  (.seq (.block 1 (.seq (.ops [g0 (.mv 10 (.t 8)), g0 (.mv 5 (.t 10))])
  (.seq (.ops [g0 (.mv 11 (.t 1)), g0 (.mv 12 (.t 0)), g0 (.mv 13 (.t 5)), g0 (.idxA 14 (.t 12) (.t 13) 2 (some 2) none), g0 (.load 15 (.t 14) (some 2) none false), g0 (.callV (some 16) (.t 11) [(.t 15)])])
  (.cond (.t 16) (.seq (.ops [g0 (.mv 17 (.t 5)), g0 (.mv 4 (.t 17))])
  (.ret))
  (.skip)))))
  (.ops [g0 (.bin 18 .add (.t 8) (.c (.int .i64 1))), g0 (.mv 8 (.t 18))])))
/-- slices.IndexFunc[[]notary/api.Value,notary/api.Value] -/
def F37 : IFunc := ⟨.pure, .seq (.ops [g0 (.mv 4 (.c (.int .i64 0)))])
  (.seq (.seq (.ops [g0 (.mv 6 (.t 0)), g0 (.len 7 .slice (.t 6) false), g0 (.mv 8 (.c (.int .i64 0)))])
  (.block 0 (.loop L37_0)))
  (.seq (.ops [g0 (.mv 4 (.c (.int .i64 (-1))))])
  (.ret))),
  [.t 4]⟩
def T : Nat → Option IFunc
  | 3 => some F3
  | 4 => some F4
  | 5 => some F5
  | 6 => some F6
  | 7 => some F7
  | 8 => some F8
  | 9 => some F9
  | 10 => some F10
  | 11 => some F11
  | 12 => some F12
  | 13 => some F13
  | 14 => some F14
  | 15 => some F15
  | 16 => some F16
  | 17 => some F17
  | 18 => some F18
  | 19 => some F19
  | 20 => some F20
  | 21 => some F21
  | 22 => some F22
  | 23 => some F23
  | 24 => some F24
  | 25 => some F25
  | 26 => some F26
  | 27 => some F27
  | 28 => some F28
  | 29 => some F29
  | 30 => some F30
  | 31 => some F31
  | 32 => some F32
  | 33 => some F33
  | 34 => some F34
  | 35 => some F35
  | 36 => some F36
  | 37 => some F37
  | _ => none

theorem ok3 : okB Proofs.Try.prog 3 F3 = true := by kernel_rfl
theorem ok4 : okB Proofs.Try.prog 4 F4 = true := by kernel_rfl
theorem ok5 : okB Proofs.Try.prog 5 F5 = true := by kernel_rfl
theorem ok6 : okB Proofs.Try.prog 6 F6 = true := by kernel_rfl
theorem ok7 : okB Proofs.Try.prog 7 F7 = true := by kernel_rfl
theorem ok8 : okB Proofs.Try.prog 8 F8 = true := by kernel_rfl
theorem ok9 : okB Proofs.Try.prog 9 F9 = true := by kernel_rfl
theorem ok10 : okB Proofs.Try.prog 10 F10 = true := by kernel_rfl
theorem ok11 : okB Proofs.Try.prog 11 F11 = true := by kernel_rfl
theorem ok12 : okB Proofs.Try.prog 12 F12 = true := by kernel_rfl
theorem ok13 : okB Proofs.Try.prog 13 F13 = true := by kernel_rfl
theorem ok14 : okB Proofs.Try.prog 14 F14 = true := by kernel_rfl
theorem ok15 : okB Proofs.Try.prog 15 F15 = true := by kernel_rfl
theorem ok16 : okB Proofs.Try.prog 16 F16 = true := by kernel_rfl
theorem ok17 : okB Proofs.Try.prog 17 F17 = true := by kernel_rfl
theorem ok18 : okB Proofs.Try.prog 18 F18 = true := by kernel_rfl
theorem ok19 : okB Proofs.Try.prog 19 F19 = true := by kernel_rfl
theorem ok20 : okB Proofs.Try.prog 20 F20 = true := by kernel_rfl
theorem ok21 : okB Proofs.Try.prog 21 F21 = true := by kernel_rfl
theorem ok22 : okB Proofs.Try.prog 22 F22 = true := by kernel_rfl
theorem ok23 : okB Proofs.Try.prog 23 F23 = true := by kernel_rfl
theorem ok24 : okB Proofs.Try.prog 24 F24 = true := by kernel_rfl
theorem ok25 : okB Proofs.Try.prog 25 F25 = true := by kernel_rfl
theorem ok26 : okB Proofs.Try.prog 26 F26 = true := by kernel_rfl
theorem ok27 : okB Proofs.Try.prog 27 F27 = true := by kernel_rfl
theorem ok28 : okB Proofs.Try.prog 28 F28 = true := by kernel_rfl
theorem ok29 : okB Proofs.Try.prog 29 F29 = true := by kernel_rfl
theorem ok30 : okB Proofs.Try.prog 30 F30 = true := by kernel_rfl
theorem ok31 : okB Proofs.Try.prog 31 F31 = true := by kernel_rfl
theorem ok32 : okB Proofs.Try.prog 32 F32 = true := by kernel_rfl
theorem ok33 : okB Proofs.Try.prog 33 F33 = true := by kernel_rfl
theorem ok34 : okB Proofs.Try.prog 34 F34 = true := by kernel_rfl
theorem ok35 : okB Proofs.Try.prog 35 F35 = true := by kernel_rfl
theorem ok36 : okB Proofs.Try.prog 36 F36 = true := by kernel_rfl
theorem ok37 : okB Proofs.Try.prog 37 F37 = true := by kernel_rfl

theorem ok (f : Nat) (ifn : IFunc) (h : T f = some ifn) : FuncOK Proofs.Try.prog f ifn := by
  unfold T at h
  split at h
  · cases h; exact okB_ok ok3
  · cases h; exact okB_ok ok4
  · cases h; exact okB_ok ok5
  · cases h; exact okB_ok ok6
  · cases h; exact okB_ok ok7
  · cases h; exact okB_ok ok8
  · cases h; exact okB_ok ok9
  · cases h; exact okB_ok ok10
  · cases h; exact okB_ok ok11
  · cases h; exact okB_ok ok12
  · cases h; exact okB_ok ok13
  · cases h; exact okB_ok ok14
  · cases h; exact okB_ok ok15
  · cases h; exact okB_ok ok16
  · cases h; exact okB_ok ok17
  · cases h; exact okB_ok ok18
  · cases h; exact okB_ok ok19
  · cases h; exact okB_ok ok20
  · cases h; exact okB_ok ok21
  · cases h; exact okB_ok ok22
  · cases h; exact okB_ok ok23
  · cases h; exact okB_ok ok24
  · cases h; exact okB_ok ok25
  · cases h; exact okB_ok ok26
  · cases h; exact okB_ok ok27
  · cases h; exact okB_ok ok28
  · cases h; exact okB_ok ok29
  · cases h; exact okB_ok ok30
  · cases h; exact okB_ok ok31
  · cases h; exact okB_ok ok32
  · cases h; exact okB_ok ok33
  · cases h; exact okB_ok ok34
  · cases h; exact okB_ok ok35
  · cases h; exact okB_ok ok36
  · cases h; exact okB_ok ok37
  · exact absurd h (by simp)

end Go.Nt.Va
