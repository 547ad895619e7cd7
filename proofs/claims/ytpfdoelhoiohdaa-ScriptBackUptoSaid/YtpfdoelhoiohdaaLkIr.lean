/-
  THE FUNCTIONS OF THE SEAT as the abstract machine reads them (printed by a program of ours), and that they are the program's ('ok': FuncOK, by the kernel).
  No condition.
-/
import Derived.Test.YtpfdoelhoiohdaaNtAuto
import Derived.Test.YtpfdoelhoiohdaaChecked
namespace Go.Nt.Lk
open Go Go.Nt

/-- notary/notarylaw22.LinkRenames -/
def F6 : IFunc := ⟨.pure, .seq (.ops [g0 (.mv 4 (.c (.bool false)))])
  (.seq (.seq (.ops [g0 (.mv 11 (.t 0)), g0 (.len 12 .str (.t 11) false), g0 (.bin 13 .gtr (.t 12) (.c (.int .i64 800))), g0 (.mv 14 (.t 13)), g1 14 false (.mv 15 (.t 1)), g1 14 false (.len 16 .slice (.t 15) false), g1 14 false (.bin 17 .gtr (.t 16) (.c (.int .i64 40))), g0 (.pick 18 (.t 14) (.c (.bool true)) (.t 17))])
  (.cond (.t 18) (.seq (.ops [g0 (.call (some 19) 21 []), g0 (.mv 4 (.t 19))])
  (.ret))
  (.skip)))
  (.seq (.ops [g0 (.mv 21 (.t 0)), g0 (.mv 22 (.t 1)), g0 (.call (some 23) 22 [(.t 21), (.t 22)]), g0 (.mv 20 (.t 23)), g0 (.ext 24 (.t 20) 0), g0 (.ext 25 (.t 20) 1), g0 (.ext 26 (.t 20) 2), g0 (.mv 5 (.t 24)), g0 (.mv 6 (.t 25)), g0 (.mv 7 (.t 26))])
  (.seq (.ops [g0 (.mv 28 (.t 0)), g0 (.mv 29 (.t 1)), g0 (.call (some 30) 23 [(.t 28), (.t 29)]), g0 (.mv 27 (.t 30)), g0 (.ext 31 (.t 27) 0), g0 (.ext 32 (.t 27) 1), g0 (.ext 33 (.t 27) 2), g0 (.mv 8 (.t 31)), g0 (.mv 9 (.t 32)), g0 (.mv 10 (.t 33))])
  (.seq (.ops [g0 (.mv 34 (.t 7)), g0 (.mv 35 (.t 10)), g0 (.bin 36 .eql (.t 34) (.t 35)), g0 (.mv 37 (.t 36)), g1 37 true (.mv 38 (.t 6)), g1 37 true (.mv 39 (.t 9)), g1 37 true (.bin 40 .eql (.t 38) (.t 39)), g0 (.pick 41 (.t 37) (.t 40) (.c (.bool false))), g0 (.mv 42 (.t 41)), g1 42 true (.mv 43 (.t 5)), g1 42 true (.mv 44 (.t 8)), g1 42 true (.bin 45 .eql (.t 43) (.t 44)), g0 (.pick 46 (.t 42) (.t 45) (.c (.bool false))), g0 (.mv 47 (.t 46)), g1 47 true (.call (some 48) 21 []), g0 (.pick 49 (.t 47) (.t 48) (.c (.bool false))), g0 (.mv 4 (.t 49))])
  (.ret))))),
  [.t 4]⟩
/-- notary/notarylaw22.LinkAgrees -/
def F7 : IFunc := ⟨.pure, .seq (.ops [g0 (.boxL 3 4 (some (.t 0)) []), g0 (.boxL 4 4 (some (.t 1)) []), g0 (.mv 6 (.c (.bool false)))])
  (.seq (.seq (.ops [g0 (.fldA 7 (.t 3) 2 none), g0 (.load 8 (.t 7) none (some 3) false), g0 (.len 9 .slice (.t 8) false), g0 (.bin 10 .gtr (.t 9) (.c (.int .i64 200))), g0 (.mv 11 (.t 10)), g1 11 false (.fldA 12 (.t 4) 2 none), g1 11 false (.load 13 (.t 12) none (some 4) false), g1 11 false (.len 14 .slice (.t 13) false), g1 11 false (.bin 15 .gtr (.t 14) (.c (.int .i64 200))), g0 (.pick 16 (.t 11) (.c (.bool true)) (.t 15))])
  (.cond (.t 16) (.seq (.ops [g0 (.call (some 17) 21 []), g0 (.mv 6 (.t 17))])
  (.ret))
  (.skip)))
  (.seq (.seq (.ops [g0 (.load 18 (.t 3) (some 4) (some 3) false), g0 (.load 19 (.t 4) (some 4) (some 4) false), g0 (.call (some 20) 24 [(.t 18), (.t 19)]), g0 (.load 21 (.t 3) (some 4) (some 3) false), g0 (.load 22 (.t 4) (some 4) (some 4) false), g0 (.call (some 23) 25 [(.t 21), (.t 22)]), g0 (.eqn 24 true .bool (.t 20) (.t 23)), g0 (.mv 25 (.t 24)), g1 25 false (.load 26 (.t 3) (some 4) (some 3) false), g1 25 false (.load 27 (.t 4) (some 4) (some 4) false), g1 25 false (.call (some 28) 24 [(.t 26), (.t 27)]), g1 25 false (.load 29 (.t 4) (some 4) (some 4) false), g1 25 false (.load 30 (.t 3) (some 4) (some 3) false), g1 25 false (.call (some 31) 24 [(.t 29), (.t 30)]), g1 25 false (.eqn 32 true .bool (.t 28) (.t 31)), g0 (.pick 33 (.t 25) (.c (.bool true)) (.t 32)), g0 (.mv 34 (.t 33)), g1 34 false (.load 35 (.t 3) (some 4) (some 3) false), g1 34 false (.load 36 (.t 3) (some 4) (some 3) false), g1 34 false (.call (some 37) 24 [(.t 35), (.t 36)]), g1 34 false (.un 38 .not (.t 37)), g0 (.pick 39 (.t 34) (.c (.bool true)) (.t 38))])
  (.cond (.t 39) (.seq (.ops [g0 (.mv 6 (.c (.bool false)))])
  (.ret))
  (.skip)))
  (.seq (.seq (.ops [g0 (.mv 40 (.t 2)), g0 (.bin 41 .lss (.t 40) (.c (.int .i64 0))), g0 (.mv 42 (.t 41)), g1 42 false (.mv 43 (.t 2)), g1 42 false (.fldA 44 (.t 3) 2 none), g1 42 false (.load 45 (.t 44) none (some 3) false), g1 42 false (.len 46 .slice (.t 45) false), g1 42 false (.bin 47 .gtr (.t 43) (.t 46)), g0 (.pick 48 (.t 42) (.c (.bool true)) (.t 47))])
  (.cond (.t 48) (.seq (.ops [g0 (.call (some 49) 21 []), g0 (.mv 6 (.t 49))])
  (.ret))
  (.skip)))
  (.seq (.ops [g0 (.load 50 (.t 3) (some 4) (some 3) false), g0 (.fldA 51 (.t 3) 2 none), g0 (.load 52 (.t 51) none (some 3) false), g0 (.mv 53 (.t 2)), g0 (.slc 54 (some 1) (.t 52) none (some (.t 53)) none), g0 (.build 55 [(.int .i64 0), (.int .i64 0), .nils, (.int .i64 0)] [(0, 1, (.c (.int .i64 3))), (2, 1, (.t 54))]), g0 (.call (some 56) 24 [(.t 50), (.t 55)]), g0 (.mv 57 (.t 56)), g1 57 true (.call (some 58) 21 []), g0 (.pick 59 (.t 57) (.t 58) (.c (.bool false))), g0 (.mv 6 (.t 59))])
  (.ret))))),
  [.t 6]⟩
/-- notary/notarylaw51.ScriptQuotes -/
def F8 : IFunc := ⟨.pure, .seq (.ops [g0 (.mv 2 (.c (.bool false)))])
  (.seq (.seq (.ops [g0 (.mv 7 (.t 0)), g0 (.len 8 .str (.t 7) false), g0 (.bin 9 .gtr (.t 8) (.c (.int .i64 2000)))])
  (.cond (.t 9) (.seq (.ops [g0 (.call (some 10) 26 []), g0 (.mv 2 (.t 10))])
  (.ret))
  (.skip)))
  (.seq (.ops [g0 (.mv 11 (.t 0)), g0 (.call (some 12) 27 [(.t 11)]), g0 (.mv 3 (.t 12))])
  (.seq (.seq (.ops [g0 (.mv 13 (.t 3)), g0 (.mv 14 (.t 0)), g0 (.call (some 15) 28 [(.t 14)]), g0 (.bin 16 .neq (.t 13) (.t 15))])
  (.cond (.t 16) (.seq (.ops [g0 (.mv 2 (.c (.bool false)))])
  (.ret))
  (.skip)))
  (.seq (.ops [g0 (.mv 18 (.t 3)), g0 (.bin 19 .add (.c (.str [110, 111, 116, 101, 32])) (.t 18)), g0 (.bin 20 .add (.t 19) (.c (.str [10]))), g0 (.call (some 21) 29 [(.t 20)]), g0 (.mv 17 (.t 21)), g0 (.ext 22 (.t 17) 0), g0 (.ext 23 (.t 17) 1), g0 (.ext 24 (.t 17) 2), g0 (.mv 4 (.t 22)), g0 (.mv 5 (.t 23)), g0 (.mv 6 (.t 24))])
  (.seq (.ops [g0 (.mv 25 (.t 6)), g0 (.bin 26 .eql (.t 25) (.c (.int .i64 0))), g0 (.mv 27 (.t 26)), g1 27 true (.mv 28 (.t 4)), g1 27 true (.len 29 .slice (.t 28) false), g1 27 true (.bin 30 .eql (.t 29) (.c (.int .i64 1))), g0 (.pick 31 (.t 27) (.t 30) (.c (.bool false))), g0 (.mv 32 (.t 31)), g1 32 true (.mv 33 (.t 4)), g1 32 true (.idxA 34 (.t 33) (.c (.int .i64 0)) 8 (some 8) none), g1 32 true (.fldA 35 (.t 34) 1 none), g1 32 true (.load 36 (.t 35) none none false), g1 32 true (.mv 37 (.t 0)), g1 32 true (.bin 38 .eql (.t 36) (.t 37)), g0 (.pick 39 (.t 32) (.t 38) (.c (.bool false))), g0 (.mv 40 (.t 39)), g1 40 true (.call (some 41) 26 []), g0 (.pick 42 (.t 40) (.t 41) (.c (.bool false))), g0 (.mv 2 (.t 42))])
  (.ret)))))),
  [.t 2]⟩
/-- notary/notarylaw51.ScriptBack -/
def F9 : IFunc := ⟨.pure, .seq (.ops [g0 (.mv 2 (.c (.bool false)))])
  (.seq (.seq (.ops [g0 (.mv 10 (.t 0)), g0 (.len 11 .slice (.t 10) false), g0 (.bin 12 .gtr (.t 11) (.c (.int .i64 40))), g0 (.mv 13 (.t 12)), g1 13 false (.mv 14 (.t 0)), g1 13 false (.mv 15 (.t 0)), g1 13 false (.len 16 .slice (.t 15) false), g1 13 false (.mm 17 false (.t 16) (.c (.int .i64 16))), g1 13 false (.slc 18 (some 8) (.t 14) none (some (.t 17)) none), g1 13 false (.call (some 19) 30 [(.c .nils), (.t 18)]), g0 (.pick 20 (.t 13) (.c (.bool true)) (.t 19))])
  (.cond (.t 20) (.seq (.ops [g0 (.call (some 21) 26 []), g0 (.mv 2 (.t 21))])
  (.ret))
  (.skip)))
  (.seq (.ops [g0 (.mv 23 (.t 0)), g0 (.call (some 24) 31 [(.t 23)]), g0 (.mv 22 (.t 24)), g0 (.ext 25 (.t 22) 0), g0 (.ext 26 (.t 22) 1), g0 (.mv 3 (.t 25)), g0 (.mv 4 (.t 26))])
  (.seq (.ops [g0 (.mv 28 (.t 0)), g0 (.call (some 29) 32 [(.t 28)]), g0 (.mv 27 (.t 29)), g0 (.ext 30 (.t 27) 0), g0 (.ext 31 (.t 27) 1), g0 (.mv 5 (.t 30)), g0 (.mv 6 (.t 31))])
  (.seq (.seq (.ops [g0 (.mv 32 (.t 4)), g0 (.mv 33 (.t 6)), g0 (.bin 34 .neq (.t 32) (.t 33)), g0 (.mv 35 (.t 34)), g1 35 false (.mv 36 (.t 3)), g1 35 false (.mv 37 (.t 5)), g1 35 false (.bin 38 .neq (.t 36) (.t 37)), g0 (.pick 39 (.t 35) (.c (.bool true)) (.t 38))])
  (.cond (.t 39) (.seq (.ops [g0 (.mv 2 (.c (.bool false)))])
  (.ret))
  (.skip)))
  (.seq (.seq (.ops [g0 (.mv 40 (.t 4)), g0 (.bin 41 .neq (.t 40) (.c (.int .i64 0)))])
  (.cond (.t 41) (.seq (.ops [g0 (.call (some 42) 26 []), g0 (.mv 2 (.t 42))])
  (.ret))
  (.skip)))
  (.seq (.ops [g0 (.mv 44 (.t 3)), g0 (.call (some 45) 29 [(.t 44)]), g0 (.mv 43 (.t 45)), g0 (.ext 46 (.t 43) 0), g0 (.ext 47 (.t 43) 1), g0 (.ext 48 (.t 43) 2), g0 (.mv 7 (.t 46)), g0 (.mv 8 (.t 47)), g0 (.mv 9 (.t 48))])
  (.seq (.ops [g0 (.mv 49 (.t 9)), g0 (.bin 50 .eql (.t 49) (.c (.int .i64 0))), g0 (.mv 51 (.t 50)), g1 51 true (.mv 52 (.t 8)), g1 51 true (.bin 53 .eql (.t 52) (.c (.int .i64 0))), g0 (.pick 54 (.t 51) (.t 53) (.c (.bool false))), g0 (.mv 55 (.t 54)), g1 55 true (.mv 56 (.t 7)), g1 55 true (.mv 57 (.t 0)), g1 55 true (.call (some 58) 33 [(.t 56), (.t 57)]), g0 (.pick 59 (.t 55) (.t 58) (.c (.bool false))), g0 (.mv 60 (.t 59)), g1 60 true (.call (some 61) 26 []), g0 (.pick 62 (.t 60) (.t 61) (.c (.bool false))), g0 (.mv 2 (.t 62))])
  (.ret)))))))),
  [.t 2]⟩
/-- notary/notarylaw51.ScriptReads -/
def F10 : IFunc := ⟨.pure, .seq (.ops [g0 (.mv 2 (.c (.bool false)))])
  (.seq (.seq (.ops [g0 (.mv 11 (.t 0)), g0 (.len 12 .str (.t 11) false), g0 (.bin 13 .gtr (.t 12) (.c (.int .i64 3000)))])
  (.cond (.t 13) (.seq (.ops [g0 (.call (some 14) 26 []), g0 (.mv 2 (.t 14))])
  (.ret))
  (.skip)))
  (.seq (.ops [g0 (.mv 16 (.t 0)), g0 (.call (some 17) 29 [(.t 16)]), g0 (.mv 15 (.t 17)), g0 (.ext 18 (.t 15) 0), g0 (.ext 19 (.t 15) 1), g0 (.ext 20 (.t 15) 2), g0 (.mv 3 (.t 18)), g0 (.mv 4 (.t 19)), g0 (.mv 5 (.t 20))])
  (.seq (.ops [g0 (.mv 22 (.t 0)), g0 (.call (some 23) 34 [(.t 22)]), g0 (.mv 21 (.t 23)), g0 (.ext 24 (.t 21) 0), g0 (.ext 25 (.t 21) 1), g0 (.ext 26 (.t 21) 2), g0 (.mv 6 (.t 24)), g0 (.mv 7 (.t 25)), g0 (.mv 8 (.t 26))])
  (.seq (.seq (.ops [g0 (.mv 27 (.t 5)), g0 (.mv 28 (.t 8)), g0 (.bin 29 .neq (.t 27) (.t 28)), g0 (.mv 30 (.t 29)), g1 30 false (.mv 31 (.t 4)), g1 30 false (.mv 32 (.t 7)), g1 30 false (.bin 33 .neq (.t 31) (.t 32)), g0 (.pick 34 (.t 30) (.c (.bool true)) (.t 33)), g0 (.mv 35 (.t 34)), g1 35 false (.mv 36 (.t 3)), g1 35 false (.mv 37 (.t 6)), g1 35 false (.call (some 38) 33 [(.t 36), (.t 37)]), g1 35 false (.un 39 .not (.t 38)), g0 (.pick 40 (.t 35) (.c (.bool true)) (.t 39))])
  (.cond (.t 40) (.seq (.ops [g0 (.mv 2 (.c (.bool false)))])
  (.ret))
  (.skip)))
  (.seq (.seq (.ops [g0 (.mv 41 (.t 5)), g0 (.bin 42 .neq (.t 41) (.c (.int .i64 0)))])
  (.cond (.t 42) (.seq (.ops [g0 (.call (some 43) 26 []), g0 (.mv 2 (.t 43))])
  (.ret))
  (.skip)))
  (.seq (.ops [g0 (.mv 45 (.t 3)), g0 (.call (some 46) 31 [(.t 45)]), g0 (.mv 44 (.t 46)), g0 (.ext 47 (.t 44) 0), g0 (.ext 48 (.t 44) 1), g0 (.mv 9 (.t 47)), g0 (.mv 10 (.t 48))])
  (.seq (.ops [g0 (.mv 49 (.t 10)), g0 (.bin 50 .eql (.t 49) (.c (.int .i64 0))), g0 (.mv 51 (.t 50)), g1 51 true (.mv 52 (.t 9)), g1 51 true (.mv 53 (.t 0)), g1 51 true (.bin 54 .eql (.t 52) (.t 53)), g0 (.pick 55 (.t 51) (.t 54) (.c (.bool false))), g0 (.mv 56 (.t 55)), g1 56 true (.call (some 57) 26 []), g0 (.pick 58 (.t 56) (.t 57) (.c (.bool false))), g0 (.mv 2 (.t 58))])
  (.ret)))))))),
  [.t 2]⟩
def L16_0 : Ic := .seq (.seq (.ops [g0 (.mv 16 (.t 6)), g0 (.mv 17 (.t 0)), g0 (.len 18 .str (.t 17) false), g0 (.bin 19 .lss (.t 16) (.t 18))])
  (.cond (.t 19) (.skip)
  (.exit 0)))
  (.block 1 (.seq (.ops [g0 (.mv 21 (.t 0)), g0 (.mv 22 (.t 6)), g0 (.call (some 23) 42 [(.t 21), (.t 22)]), g0 (.mv 20 (.t 23)), g0 (.ext 24 (.t 20) 0), g0 (.ext 25 (.t 20) 1), g0 (.boxL 7 5 none [(.int .i64 0), (.int .i64 0), (.str []), (.int .i64 0), (.int .i64 0)]), g0 (.store (.t 7) (.t 24) 5 (some 7)), g0 (.mv 8 (.t 25))])
  (.seq (.seq (.ops [g0 (.mv 26 (.t 8)), g0 (.bin 27 .neq (.t 26) (.c (.int .i64 0)))])
  (.cond (.t 27) (.seq (.ops [g0 (.bsl 28 5 true []), g0 (.mv 29 (.t 6)), g0 (.mv 30 (.t 8)), g0 (.mv 2 (.t 28)), g0 (.mv 3 (.t 29)), g0 (.mv 4 (.t 30))])
  (.ret))
  (.skip)))
  (.seq (.ops [g0 (.mv 31 (.t 5)), g0 (.load 32 (.t 7) (some 5) (some 7) false), g0 (.bsl 33 5 true [(.t 32)]), g0 (.app 34 (.t 31) (.t 33) 5), g0 (.mv 5 (.t 34))])
  (.ops [g0 (.mv 35 (.t 0)), g0 (.fldA 36 (.t 7) 4 none), g0 (.load 37 (.t 36) none (some 7) false), g0 (.call (some 38) 41 [(.t 35), (.t 37)]), g0 (.mv 6 (.t 38))])))))
/-- notary/notaryref05.Tokens -/
def F16 : IFunc := ⟨.pure, .seq (.ops [g0 (.mv 2 (.c .nils)), g0 (.mv 3 (.c (.int .i64 0))), g0 (.mv 4 (.c (.int .i64 0)))])
  (.seq (.ops [g0 (.bsl 9 5 true []), g0 (.mv 5 (.t 9))])
  (.seq (.seq (.ops [g0 (.mv 10 (.t 0)), g0 (.len 11 .str (.t 10) false), g0 (.bin 12 .gtr (.t 11) (.c (.int .i64 8192)))])
  (.cond (.t 12) (.seq (.ops [g0 (.mv 13 (.t 5)), g0 (.mv 2 (.t 13)), g0 (.mv 3 (.c (.int .i64 0))), g0 (.mv 4 (.c (.int .i64 3)))])
  (.ret))
  (.skip)))
  (.seq (.ops [g0 (.mv 14 (.t 0)), g0 (.call (some 15) 41 [(.t 14), (.c (.int .i64 0))]), g0 (.mv 6 (.t 15))])
  (.seq (.block 0 (.loop L16_0))
  (.seq (.ops [g0 (.mv 39 (.t 5)), g0 (.mv 40 (.t 0)), g0 (.len 41 .str (.t 40) false), g0 (.mv 42 (.t 0)), g0 (.len 43 .str (.t 42) false), g0 (.build 44 [(.int .i64 0), (.int .i64 0), (.str []), (.int .i64 0), (.int .i64 0)] [(0, 1, (.c (.int .i64 5))), (3, 1, (.t 41)), (4, 1, (.t 43))]), g0 (.bsl 45 5 true [(.t 44)]), g0 (.app 46 (.t 39) (.t 45) 5), g0 (.mv 2 (.t 46)), g0 (.mv 3 (.c (.int .i64 0))), g0 (.mv 4 (.c (.int .i64 0)))])
  (.ret)))))),
  [.t 2, .t 3, .t 4]⟩
/-- notary/notarylaw22.awake -/
def F21 : IFunc := ⟨.pure, .seq (.ops [g0 (.mv 0 (.c (.bool false)))])
  (.seq (.ops [g0 (.build 5 [(.str []), (.str [])] [(0, 1, (.c (.str [97]))), (1, 1, (.c (.str [98, 99])))]), g0 (.bsl 6 2 true [(.t 5)]), g0 (.call (some 7) 22 [(.c (.str [64, 97, 40, 41])), (.t 6)]), g0 (.mv 4 (.t 7)), g0 (.ext 8 (.t 4) 0), g0 (.ext 9 (.t 4) 1), g0 (.ext 10 (.t 4) 2), g0 (.mv 1 (.t 8)), g0 (.mv 2 (.t 9)), g0 (.mv 3 (.t 10))])
  (.seq (.ops [g0 (.mv 11 (.t 3)), g0 (.bin 12 .eql (.t 11) (.c (.int .i64 0))), g0 (.mv 13 (.t 12)), g1 13 true (.mv 14 (.t 1)), g1 13 true (.bin 15 .eql (.t 14) (.c (.str [64, 98, 99, 40, 41]))), g0 (.pick 16 (.t 13) (.t 15) (.c (.bool false))), g0 (.mv 17 (.t 16)), g1 17 true (.build 18 [(.int .i64 0), (.int .i64 0), .nils, (.int .i64 0)] []), g1 17 true (.build 19 [(.int .i64 0), (.int .i64 0), .nils, (.int .i64 0)] []), g1 17 true (.call (some 20) 24 [(.t 18), (.t 19)]), g0 (.pick 21 (.t 17) (.t 20) (.c (.bool false))), g0 (.mv 0 (.t 21))])
  (.ret))),
  [.t 0]⟩
def L22_0 : Ic := .seq (.seq (.ops [g0 (.load 24 (.t 12) none none false), g0 (.load 25 (.t 7) none none false), g0 (.len 26 .slice (.t 25) false), g0 (.bin 27 .lss (.t 24) (.t 26))])
  (.cond (.t 27) (.skip)
  (.exit 0)))
  (.seq (.block 1 (.seq (.seq (.ops [g0 (.load 30 (.t 7) none none false), g0 (.load 31 (.t 12) none none false), g0 (.idxA 32 (.t 30) (.t 31) 5 (some 5) none), g0 (.fldA 33 (.t 32) 0 none), g0 (.load 34 (.t 33) none none false), g0 (.bin 35 .neq (.t 34) (.c (.int .i64 1))), g0 (.mv 36 (.t 35)), g1 36 false (.load 37 (.t 7) none none false), g1 36 false (.load 38 (.t 12) none none false), g1 36 false (.bin 39 .sub (.t 38) (.c (.int .i64 1))), g1 36 false (.idxA 40 (.t 37) (.t 39) 5 (some 5) none), g1 36 false (.fldA 41 (.t 40) 0 none), g1 36 false (.load 42 (.t 41) none none false), g1 36 false (.bin 43 .neq (.t 42) (.c (.int .i64 4))), g0 (.pick 44 (.t 36) (.c (.bool true)) (.t 43)), g0 (.mv 45 (.t 44)), g1 45 false (.load 46 (.t 7) none none false), g1 45 false (.load 47 (.t 12) none none false), g1 45 false (.bin 48 .sub (.t 47) (.c (.int .i64 1))), g1 45 false (.idxA 49 (.t 46) (.t 48) 5 (some 5) none), g1 45 false (.fldA 50 (.t 49) 2 none), g1 45 false (.load 51 (.t 50) none none false), g1 45 false (.bin 52 .neq (.t 51) (.c (.str [64]))), g0 (.pick 53 (.t 45) (.c (.bool true)) (.t 52))])
  (.cond (.t 53) (.exit 1)
  (.skip)))
  (.seq (.ops [g0 (.mv 54 (.t 1)), g0 (.mkfn 55 46 [] [(.t 7), (.t 12)]), g0 (.call (some 56) 45 [(.t 54), (.t 55)]), g0 (.mv 13 (.t 56))])
  (.seq (.seq (.ops [g0 (.mv 57 (.t 13)), g0 (.bin 58 .lss (.t 57) (.c (.int .i64 0)))])
  (.cond (.t 58) (.exit 1)
  (.skip)))
  (.seq (.ops [g0 (.mv 59 (.t 0)), g0 (.mv 60 (.t 11)), g0 (.load 61 (.t 7) none none false), g0 (.load 62 (.t 12) none none false), g0 (.idxA 63 (.t 61) (.t 62) 5 (some 5) none), g0 (.fldA 64 (.t 63) 3 none), g0 (.load 65 (.t 64) none none false), g0 (.slc 66 none (.t 59) (some (.t 60)) (some (.t 65)) none), g0 (.call (some 67) 47 [(.t 10), (.t 66)])])
  (.seq (.ops [g0 (.mv 68 (.t 1)), g0 (.mv 69 (.t 13)), g0 (.idxA 70 (.t 68) (.t 69) 2 (some 2) none), g0 (.fldA 71 (.t 70) 1 none), g0 (.load 72 (.t 71) none none false), g0 (.call (some 73) 47 [(.t 10), (.t 72)])])
  (.seq (.ops [g0 (.load 74 (.t 7) none none false), g0 (.load 75 (.t 12) none none false), g0 (.idxA 76 (.t 74) (.t 75) 5 (some 5) none), g0 (.fldA 77 (.t 76) 4 none), g0 (.load 78 (.t 77) none none false), g0 (.mv 11 (.t 78))])
  (.seq (.ops [g0 (.call (some 79) 48 [(.t 10)]), g0 (.bin 80 .gtr (.t 79) (.c (.int .i64 8192)))])
  (.cond (.t 80) (.seq (.ops [g0 (.mv 4 (.c (.str []))), g0 (.mv 5 (.c (.int .i64 0))), g0 (.mv 6 (.c (.int .i64 3)))])
  (.ret))
  (.skip))))))))))
  (.seq (.seq (.ops [g0 (.load 81 (.t 12) none none false)])
  (.ops [g0 (.boxH 12 none (.c (.int .i64 0))), g0 (.store (.t 12) (.t 81) 1 none)]))
  (.ops [g0 (.load 28 (.t 12) none none false), g0 (.bin 29 .add (.t 28) (.c (.int .i64 1))), g0 (.store (.t 12) (.t 29) 1 none)])))
/-- notary/link.Rename -/
def F22 : IFunc := ⟨.pure, .seq (.ops [g0 (.mv 4 (.c (.str []))), g0 (.mv 5 (.c (.int .i64 0))), g0 (.mv 6 (.c (.int .i64 0)))])
  (.seq (.ops [g0 (.mv 15 (.t 0)), g0 (.call (some 16) 44 [(.t 15)]), g0 (.mv 14 (.t 16)), g0 (.ext 17 (.t 14) 0), g0 (.ext 18 (.t 14) 1), g0 (.ext 19 (.t 14) 2), g0 (.boxH 7 none (.c .nils)), g0 (.store (.t 7) (.t 17) 1 none), g0 (.mv 8 (.t 18)), g0 (.mv 9 (.t 19))])
  (.seq (.seq (.ops [g0 (.mv 20 (.t 9)), g0 (.bin 21 .neq (.t 20) (.c (.int .i64 0)))])
  (.cond (.t 21) (.seq (.ops [g0 (.mv 22 (.t 8)), g0 (.mv 23 (.t 9)), g0 (.mv 4 (.c (.str []))), g0 (.mv 5 (.t 22)), g0 (.mv 6 (.t 23))])
  (.ret))
  (.skip)))
  (.seq (.ops [g0 (.boxT 10 2 (.agg [.nilp, .nils]) 85)])
  (.seq (.ops [g0 (.mv 11 (.c (.int .i64 0)))])
  (.seq (.seq (.ops [g0 (.boxH 12 none (.c (.int .i64 0))), g0 (.store (.t 12) (.c (.int .i64 1)) 1 none)])
  (.block 0 (.loop L22_0)))
  (.seq (.ops [g0 (.mv 82 (.t 0)), g0 (.mv 83 (.t 11)), g0 (.slc 84 none (.t 82) (some (.t 83)) none none), g0 (.call (some 85) 47 [(.t 10), (.t 84)])])
  (.seq (.seq (.ops [g0 (.call (some 86) 48 [(.t 10)]), g0 (.bin 87 .gtr (.t 86) (.c (.int .i64 8192)))])
  (.cond (.t 87) (.seq (.ops [g0 (.mv 4 (.c (.str []))), g0 (.mv 5 (.c (.int .i64 0))), g0 (.mv 6 (.c (.int .i64 3)))])
  (.ret))
  (.skip)))
  (.seq (.ops [g0 (.call (some 88) 49 [(.t 10)]), g0 (.mv 4 (.t 88)), g0 (.mv 5 (.c (.int .i64 0))), g0 (.mv 6 (.c (.int .i64 0)))])
  (.ret))))))))),
  [.t 4, .t 5, .t 6]⟩
def L23_0 : Ic := .seq (.seq (.ops [g0 (.mv 23 (.t 12)), g0 (.mv 24 (.t 7)), g0 (.len 25 .slice (.t 24) false), g0 (.bin 26 .lss (.t 23) (.t 25))])
  (.cond (.t 26) (.skip)
  (.exit 0)))
  (.seq (.block 1 (.seq (.ops [g0 (.mv 29 (.t 12)), g0 (.bin 30 .gtr (.t 29) (.c (.int .i64 0))), g0 (.mv 31 (.t 30)), g1 31 true (.mv 32 (.t 7)), g1 31 true (.mv 33 (.t 12)), g1 31 true (.idxA 34 (.t 32) (.t 33) 5 (some 5) none), g1 31 true (.fldA 35 (.t 34) 0 none), g1 31 true (.load 36 (.t 35) none none false), g1 31 true (.bin 37 .eql (.t 36) (.c (.int .i64 1))), g0 (.pick 38 (.t 31) (.t 37) (.c (.bool false))), g0 (.mv 39 (.t 38)), g1 39 true (.mv 40 (.t 7)), g1 39 true (.mv 41 (.t 12)), g1 39 true (.bin 42 .sub (.t 41) (.c (.int .i64 1))), g1 39 true (.idxA 43 (.t 40) (.t 42) 5 (some 5) none), g1 39 true (.fldA 44 (.t 43) 0 none), g1 39 true (.load 45 (.t 44) none none false), g1 39 true (.bin 46 .eql (.t 45) (.c (.int .i64 4))), g0 (.pick 47 (.t 39) (.t 46) (.c (.bool false))), g0 (.mv 48 (.t 47)), g1 48 true (.mv 49 (.t 7)), g1 48 true (.mv 50 (.t 12)), g1 48 true (.bin 51 .sub (.t 50) (.c (.int .i64 1))), g1 48 true (.idxA 52 (.t 49) (.t 51) 5 (some 5) none), g1 48 true (.fldA 53 (.t 52) 2 none), g1 48 true (.load 54 (.t 53) none none false), g1 48 true (.bin 55 .eql (.t 54) (.c (.str [64]))), g0 (.pick 56 (.t 48) (.t 55) (.c (.bool false)))])
  (.cond (.t 56) (.seq (.ops [g0 (.mv 57 (.t 10)), g0 (.mv 58 (.t 0)), g0 (.mv 59 (.t 11)), g0 (.mv 60 (.t 7)), g0 (.mv 61 (.t 12)), g0 (.idxA 62 (.t 60) (.t 61) 5 (some 5) none), g0 (.fldA 63 (.t 62) 3 none), g0 (.load 64 (.t 63) none none true), g0 (.slc 65 none (.t 58) (some (.t 59)) (some (.t 64)) none), g0 (.bin 66 .add (.t 57) (.t 65)), g0 (.mv 67 (.t 1)), g0 (.mv 68 (.t 7)), g0 (.mv 69 (.t 12)), g0 (.idxA 70 (.t 68) (.t 69) 5 (some 5) none), g0 (.fldA 71 (.t 70) 2 none), g0 (.load 72 (.t 71) none none false), g0 (.call (some 73) 50 [(.t 67), (.t 72)]), g0 (.bin 74 .add (.t 66) (.t 73)), g0 (.mv 10 (.t 74))])
  (.seq (.ops [g0 (.mv 75 (.t 7)), g0 (.mv 76 (.t 12)), g0 (.idxA 77 (.t 75) (.t 76) 5 (some 5) none), g0 (.fldA 78 (.t 77) 4 none), g0 (.load 79 (.t 78) none none false), g0 (.mv 11 (.t 79))])
  (.seq (.ops [g0 (.mv 80 (.t 10)), g0 (.len 81 .str (.t 80) false), g0 (.bin 82 .gtr (.t 81) (.c (.int .i64 8192)))])
  (.cond (.t 82) (.seq (.ops [g0 (.mv 4 (.c (.str []))), g0 (.mv 5 (.c (.int .i64 0))), g0 (.mv 6 (.c (.int .i64 3)))])
  (.ret))
  (.skip)))))
  (.skip))))
  (.ops [g0 (.mv 27 (.t 12)), g0 (.bin 28 .add (.t 27) (.c (.int .i64 1))), g0 (.mv 12 (.t 28))]))
/-- notary/notaryref22.Rename -/
def F23 : IFunc := ⟨.pure, .seq (.ops [g0 (.mv 4 (.c (.str []))), g0 (.mv 5 (.c (.int .i64 0))), g0 (.mv 6 (.c (.int .i64 0)))])
  (.seq (.ops [g0 (.mv 14 (.t 0)), g0 (.call (some 15) 16 [(.t 14)]), g0 (.mv 13 (.t 15)), g0 (.ext 16 (.t 13) 0), g0 (.ext 17 (.t 13) 1), g0 (.ext 18 (.t 13) 2), g0 (.mv 7 (.t 16)), g0 (.mv 8 (.t 17)), g0 (.mv 9 (.t 18))])
  (.seq (.seq (.ops [g0 (.mv 19 (.t 9)), g0 (.bin 20 .neq (.t 19) (.c (.int .i64 0)))])
  (.cond (.t 20) (.seq (.ops [g0 (.mv 21 (.t 8)), g0 (.mv 22 (.t 9)), g0 (.mv 4 (.c (.str []))), g0 (.mv 5 (.t 21)), g0 (.mv 6 (.t 22))])
  (.ret))
  (.skip)))
  (.seq (.ops [g0 (.mv 10 (.c (.str [])))])
  (.seq (.ops [g0 (.mv 11 (.c (.int .i64 0)))])
  (.seq (.seq (.ops [g0 (.mv 12 (.c (.int .i64 0)))])
  (.block 0 (.loop L23_0)))
  (.seq (.ops [g0 (.mv 83 (.t 10)), g0 (.mv 84 (.t 0)), g0 (.mv 85 (.t 11)), g0 (.slc 86 none (.t 84) (some (.t 85)) none none), g0 (.bin 87 .add (.t 83) (.t 86)), g0 (.mv 10 (.t 87))])
  (.seq (.seq (.ops [g0 (.mv 88 (.t 10)), g0 (.len 89 .str (.t 88) false), g0 (.bin 90 .gtr (.t 89) (.c (.int .i64 8192)))])
  (.cond (.t 90) (.seq (.ops [g0 (.mv 4 (.c (.str []))), g0 (.mv 5 (.c (.int .i64 0))), g0 (.mv 6 (.c (.int .i64 3)))])
  (.ret))
  (.skip)))
  (.seq (.ops [g0 (.mv 91 (.t 10)), g0 (.mv 4 (.t 91)), g0 (.mv 5 (.c (.int .i64 0))), g0 (.mv 6 (.c (.int .i64 0)))])
  (.ret))))))))),
  [.t 4, .t 5, .t 6]⟩
/-- notary/link.Agree -/
def F24 : IFunc := ⟨.pure, .seq (.ops [g0 (.boxL 2 4 (some (.t 0)) []), g0 (.boxL 3 4 (some (.t 1)) []), g0 (.mv 4 (.c (.bool false)))])
  (.seq (.ops [g0 (.fldA 6 (.t 2) 2 none), g0 (.load 7 (.t 6) none (some 2) false), g0 (.len 8 .slice (.t 7) false), g0 (.fldA 9 (.t 3) 2 none), g0 (.load 10 (.t 9) none (some 3) false), g0 (.len 11 .slice (.t 10) false), g0 (.mm 12 false (.t 8) (.t 11)), g0 (.mv 5 (.t 12))])
  (.seq (.seq (.ops [g0 (.fldA 13 (.t 2) 2 none), g0 (.load 14 (.t 13) none (some 2) false), g0 (.mv 15 (.t 5)), g0 (.slc 16 (some 1) (.t 14) none (some (.t 15)) none), g0 (.fldA 17 (.t 3) 2 none), g0 (.load 18 (.t 17) none (some 3) false), g0 (.mv 19 (.t 5)), g0 (.slc 20 (some 1) (.t 18) none (some (.t 19)) none), g0 (.call (some 21) 51 [(.t 16), (.t 20)]), g0 (.un 22 .not (.t 21))])
  (.cond (.t 22) (.seq (.ops [g0 (.mv 4 (.c (.bool false)))])
  (.ret))
  (.skip)))
  (.seq (.seq (.ops [g0 (.fldA 23 (.t 2) 0 none), g0 (.load 24 (.t 23) none (some 2) false), g0 (.bin 25 .eql (.t 24) (.c (.int .i64 3))), g0 (.mv 26 (.t 25)), g1 26 false (.fldA 27 (.t 3) 0 none), g1 26 false (.load 28 (.t 27) none (some 3) false), g1 26 false (.bin 29 .eql (.t 28) (.c (.int .i64 3))), g0 (.pick 30 (.t 26) (.c (.bool true)) (.t 29))])
  (.cond (.t 30) (.seq (.ops [g0 (.mv 4 (.c (.bool true)))])
  (.ret))
  (.skip)))
  (.seq (.ops [g0 (.fldA 31 (.t 2) 2 none), g0 (.load 32 (.t 31) none (some 2) false), g0 (.len 33 .slice (.t 32) false), g0 (.fldA 34 (.t 3) 2 none), g0 (.load 35 (.t 34) none (some 3) false), g0 (.len 36 .slice (.t 35) false), g0 (.bin 37 .eql (.t 33) (.t 36)), g0 (.mv 38 (.t 37)), g1 38 true (.fldA 39 (.t 2) 0 none), g1 38 true (.load 40 (.t 39) none (some 2) false), g1 38 true (.fldA 41 (.t 3) 0 none), g1 38 true (.load 42 (.t 41) none (some 3) false), g1 38 true (.bin 43 .eql (.t 40) (.t 42)), g0 (.pick 44 (.t 38) (.t 43) (.c (.bool false))), g0 (.mv 45 (.t 44)), g1 45 true (.fldA 46 (.t 2) 1 none), g1 45 true (.load 47 (.t 46) none (some 2) false), g1 45 true (.fldA 48 (.t 3) 1 none), g1 45 true (.load 49 (.t 48) none (some 3) false), g1 45 true (.bin 50 .eql (.t 47) (.t 49)), g0 (.pick 51 (.t 45) (.t 50) (.c (.bool false))), g0 (.mv 4 (.t 51))])
  (.ret))))),
  [.t 4]⟩
/-- notary/notaryref22.Agree -/
def F25 : IFunc := ⟨.pure, .seq (.ops [g0 (.boxL 2 4 (some (.t 0)) []), g0 (.boxL 3 4 (some (.t 1)) []), g0 (.mv 4 (.c (.bool false)))])
  (.seq (.seq (.ops [g0 (.fldA 5 (.t 2) 2 none), g0 (.load 6 (.t 5) none (some 2) false), g0 (.fldA 7 (.t 3) 2 none), g0 (.load 8 (.t 7) none (some 3) false), g0 (.call (some 9) 52 [(.t 6), (.t 8)]), g0 (.un 10 .not (.t 9)), g0 (.mv 11 (.t 10)), g1 11 true (.fldA 12 (.t 3) 2 none), g1 11 true (.load 13 (.t 12) none (some 3) false), g1 11 true (.fldA 14 (.t 2) 2 none), g1 11 true (.load 15 (.t 14) none (some 2) false), g1 11 true (.call (some 16) 52 [(.t 13), (.t 15)]), g1 11 true (.un 17 .not (.t 16)), g0 (.pick 18 (.t 11) (.t 17) (.c (.bool false)))])
  (.cond (.t 18) (.seq (.ops [g0 (.mv 4 (.c (.bool false)))])
  (.ret))
  (.skip)))
  (.seq (.ops [g0 (.fldA 19 (.t 2) 0 none), g0 (.load 20 (.t 19) none (some 2) false), g0 (.bin 21 .eql (.t 20) (.c (.int .i64 3))), g0 (.mv 22 (.t 21)), g1 22 false (.fldA 23 (.t 3) 0 none), g1 22 false (.load 24 (.t 23) none (some 3) false), g1 22 false (.bin 25 .eql (.t 24) (.c (.int .i64 3))), g0 (.pick 26 (.t 22) (.c (.bool true)) (.t 25)), g0 (.mv 27 (.t 26)), g1 27 false (.fldA 28 (.t 2) 2 none), g1 27 false (.load 29 (.t 28) none (some 2) false), g1 27 false (.fldA 30 (.t 3) 2 none), g1 27 false (.load 31 (.t 30) none (some 3) false), g1 27 false (.call (some 32) 53 [(.t 29), (.t 31)]), g1 27 false (.mv 33 (.t 32)), g1 33 true (.fldA 34 (.t 2) 0 none), g1 33 true (.load 35 (.t 34) none (some 2) false), g1 33 true (.fldA 36 (.t 3) 0 none), g1 33 true (.load 37 (.t 36) none (some 3) false), g1 33 true (.bin 38 .eql (.t 35) (.t 37)), g1 27 false (.pick 39 (.t 33) (.t 38) (.c (.bool false))), g1 27 false (.mv 40 (.t 39)), g1 40 true (.fldA 41 (.t 2) 1 none), g1 40 true (.load 42 (.t 41) none (some 2) false), g1 40 true (.fldA 43 (.t 3) 1 none), g1 40 true (.load 44 (.t 43) none (some 3) false), g1 40 true (.bin 45 .eql (.t 42) (.t 44)), g1 27 false (.pick 46 (.t 40) (.t 45) (.c (.bool false))), g0 (.pick 47 (.t 27) (.c (.bool true)) (.t 46)), g0 (.mv 4 (.t 47))])
  (.ret))),
  [.t 4]⟩
/-- notary/notarylaw51.awake -/
def F26 : IFunc := ⟨.pure, .seq (.ops [g0 (.mv 0 (.c (.bool false)))])
  (.seq (.ops [g0 (.call (some 5) 29 [(.c (.str [117, 110, 100, 111, 10]))]), g0 (.mv 4 (.t 5)), g0 (.ext 6 (.t 4) 0), g0 (.ext 7 (.t 4) 1), g0 (.ext 8 (.t 4) 2), g0 (.mv 1 (.t 6)), g0 (.mv 2 (.t 7)), g0 (.mv 3 (.t 8))])
  (.seq (.ops [g0 (.mv 9 (.t 3)), g0 (.bin 10 .eql (.t 9) (.c (.int .i64 0))), g0 (.mv 11 (.t 10)), g1 11 true (.mv 12 (.t 1)), g1 11 true (.len 13 .slice (.t 12) false), g1 11 true (.bin 14 .eql (.t 13) (.c (.int .i64 1))), g0 (.pick 15 (.t 11) (.t 14) (.c (.bool false))), g0 (.mv 16 (.t 15)), g1 16 true (.mv 17 (.t 1)), g1 16 true (.idxA 18 (.t 17) (.c (.int .i64 0)) 8 (some 8) none), g1 16 true (.fldA 19 (.t 18) 0 none), g1 16 true (.load 20 (.t 19) none none false), g1 16 true (.bin 21 .eql (.t 20) (.c (.int .i64 4))), g0 (.pick 22 (.t 16) (.t 21) (.c (.bool false))), g0 (.mv 23 (.t 22)), g1 23 true (.call (some 24) 27 [(.c (.str [97]))]), g1 23 true (.bin 25 .eql (.t 24) (.c (.str [34, 97, 34]))), g0 (.pick 26 (.t 23) (.t 25) (.c (.bool false))), g0 (.mv 0 (.t 26))])
  (.ret))),
  [.t 0]⟩
def L27_0 : Ic := .seq (.ops [g0 (.bin 10 .lss (.t 9) (.t 8))])
  (.seq (.cond (.t 10) (.skip)
  (.exit 0))
  (.seq (.block 1 (.seq (.ops [g0 (.mv 11 (.t 9)), g0 (.mv 4 (.t 11))])
  (.seq (.ops [g0 (.mv 12 (.t 0)), g0 (.mv 13 (.t 4)), g0 (.idx 14 (.t 12) (.t 13) none 1 none), g0 (.mv 5 (.t 14))])
  (.block 2 (.seq (.ops [g0 (.mv 25 (.t 5)), g0 (.bin 26 .eql (.t 25) (.c (.int .u8 34))), g0 (.mv 27 (.t 26)), g1 27 false (.mv 28 (.t 5)), g1 27 false (.bin 29 .eql (.t 28) (.c (.int .u8 92))), g0 (.pick 30 (.t 27) (.c (.bool true)) (.t 29)), g0 (.mv 24 (.t 30))])
  (.cond (.t 24) (.seq (.ops [g0 (.call (some 31) 54 [(.t 3), (.c (.int .u8 92))])])
  (.ops [g0 (.mv 32 (.t 5)), g0 (.call (some 33) 54 [(.t 3), (.t 32)])]))
  (.seq (.ops [g0 (.mv 35 (.t 5)), g0 (.bin 36 .eql (.t 35) (.c (.int .u8 10))), g0 (.mv 34 (.t 36))])
  (.cond (.t 34) (.ops [g0 (.call (some 37) 47 [(.t 3), (.c (.str [92, 110]))])])
  (.seq (.ops [g0 (.mv 39 (.t 5)), g0 (.bin 40 .geq (.t 39) (.c (.int .u8 32))), g0 (.mv 41 (.t 40)), g1 41 true (.mv 42 (.t 5)), g1 41 true (.bin 43 .leq (.t 42) (.c (.int .u8 126))), g0 (.pick 44 (.t 41) (.t 43) (.c (.bool false))), g0 (.mv 38 (.t 44))])
  (.cond (.t 38) (.ops [g0 (.mv 45 (.t 5)), g0 (.call (some 46) 54 [(.t 3), (.t 45)])])
  (.seq (.ops [g0 (.call (some 15) 47 [(.t 3), (.c (.str [92, 120]))])])
  (.seq (.ops [g0 (.mv 16 (.t 5)), g0 (.bin 17 .shr (.t 16) (.c (.int .u64 4))), g0 (.idx 18 (.c (.str [48, 49, 50, 51, 52, 53, 54, 55, 56, 57, 97, 98, 99, 100, 101, 102])) (.t 17) none 1 none), g0 (.call (some 19) 54 [(.t 3), (.t 18)])])
  (.ops [g0 (.mv 20 (.t 5)), g0 (.bin 21 .and (.t 20) (.c (.int .u8 15))), g0 (.idx 22 (.c (.str [48, 49, 50, 51, 52, 53, 54, 55, 56, 57, 97, 98, 99, 100, 101, 102])) (.t 21) none 1 none), g0 (.call (some 23) 54 [(.t 3), (.t 22)])])))))))))))))
  (.ops [g0 (.bin 47 .add (.t 9) (.c (.int .i64 1))), g0 (.mv 9 (.t 47))])))
/-- notary/script.Quote -/
def F27 : IFunc := ⟨.pure, .seq (.ops [g0 (.mv 2 (.c (.str [])))])
  (.seq (.ops [g0 (.boxT 3 2 (.agg [.nilp, .nils]) 85)])
  (.seq (.ops [g0 (.call (some 6) 54 [(.t 3), (.c (.int .u8 34))])])
  (.seq (.seq (.ops [g0 (.mv 7 (.t 0)), g0 (.len 8 .str (.t 7) false), g0 (.mv 9 (.c (.int .i64 0)))])
  (.block 0 (.loop L27_0)))
  (.seq (.ops [g0 (.call (some 48) 54 [(.t 3), (.c (.int .u8 34))])])
  (.seq (.ops [g0 (.call (some 49) 49 [(.t 3)]), g0 (.mv 2 (.t 49))])
  (.ret)))))),
  [.t 2]⟩
def L28_0 : Ic := .seq (.seq (.ops [g0 (.mv 5 (.t 4)), g0 (.mv 6 (.t 0)), g0 (.len 7 .str (.t 6) false), g0 (.bin 8 .lss (.t 5) (.t 7))])
  (.cond (.t 8) (.skip)
  (.exit 0)))
  (.seq (.block 1 (.ops [g0 (.mv 11 (.t 3)), g0 (.mv 12 (.t 0)), g0 (.mv 13 (.t 4)), g0 (.idx 14 (.t 12) (.t 13) none 1 none), g0 (.call (some 15) 55 [(.t 14)]), g0 (.bin 16 .add (.t 11) (.t 15)), g0 (.mv 3 (.t 16))]))
  (.ops [g0 (.mv 9 (.t 4)), g0 (.bin 10 .add (.t 9) (.c (.int .i64 1))), g0 (.mv 4 (.t 10))]))
/-- notary/notaryref51.Quote -/
def F28 : IFunc := ⟨.pure, .seq (.ops [g0 (.mv 2 (.c (.str [])))])
  (.seq (.ops [g0 (.mv 3 (.c (.str [34])))])
  (.seq (.seq (.ops [g0 (.mv 4 (.c (.int .i64 0)))])
  (.block 0 (.loop L28_0)))
  (.seq (.ops [g0 (.mv 17 (.t 3)), g0 (.bin 18 .add (.t 17) (.c (.str [34]))), g0 (.mv 2 (.t 18))])
  (.ret)))),
  [.t 2]⟩
def L29_0 : Ic := .seq (.seq (.ops [g0 (.mv 12 (.t 0)), g0 (.bin 13 .neq (.t 12) (.c (.str [])))])
  (.cond (.t 13) (.skip)
  (.exit 0)))
  (.seq (.block 1 (.seq (.ops [g0 (.mv 17 (.t 0)), g0 (.call (some 18) 56 [(.t 17), (.c (.str [10]))]), g0 (.mv 16 (.t 18)), g0 (.ext 19 (.t 16) 0), g0 (.ext 20 (.t 16) 1), g0 (.ext 21 (.t 16) 2), g0 (.mv 7 (.t 19)), g0 (.mv 8 (.t 20)), g0 (.mv 9 (.t 21))])
  (.seq (.ops [g0 (.mv 22 (.t 7)), g0 (.mv 23 (.t 9)), g0 (.build 24 [(.str []), (.int .i64 0), (.bool false)] [(0, 1, (.t 22)), (2, 1, (.t 23))]), g0 (.boxH 25 (some 3) (.t 24)), g0 (.mv 10 (.t 25))])
  (.seq (.ops [g0 (.mv 26 (.t 10)), g0 (.call (some 27) 57 [(.t 26)]), g0 (.boxL 11 8 none [(.int .i64 0), (.str []), (.int .i64 0), (.int .i64 0), (.int .i64 0), (.str []), .nils, (.int .i64 0)]), g0 (.store (.t 11) (.t 27) 8 (some 11))])
  (.seq (.seq (.ops [g0 (.mv 28 (.t 10)), g0 (.nilc (some 29) (.t 28)), g0 (.fldA 30 (.t 29) 2 none), g0 (.load 31 (.t 30) none none false), g0 (.un 32 .not (.t 31)), g0 (.mv 33 (.t 32)), g1 33 false (.mv 34 (.t 10)), g1 33 false (.nilc (some 35) (.t 34)), g1 33 false (.fldA 36 (.t 35) 1 none), g1 33 false (.load 37 (.t 36) none none false), g1 33 false (.mv 38 (.t 7)), g1 33 false (.len 39 .str (.t 38) false), g1 33 false (.bin 40 .neq (.t 37) (.t 39)), g0 (.pick 41 (.t 33) (.c (.bool true)) (.t 40))])
  (.cond (.t 41) (.seq (.ops [g0 (.mv 42 (.t 6)), g0 (.mv 2 (.c .nils)), g0 (.mv 3 (.t 42)), g0 (.mv 4 (.c (.int .i64 2)))])
  (.ret))
  (.skip)))
  (.seq (.ops [g0 (.mv 43 (.t 5)), g0 (.load 44 (.t 11) (some 8) (some 11) false), g0 (.bsl 45 8 true [(.t 44)]), g0 (.app 46 (.t 43) (.t 45) 8), g0 (.mv 5 (.t 46))])
  (.ops [g0 (.mv 47 (.t 8)), g0 (.mv 0 (.t 47))])))))))
  (.ops [g0 (.mv 14 (.t 6)), g0 (.bin 15 .add (.t 14) (.c (.int .i64 1))), g0 (.mv 6 (.t 15))]))
/-- notary/script.Parse -/
def F29 : IFunc := ⟨.pure, .seq (.ops [g0 (.mv 2 (.c .nils)), g0 (.mv 3 (.c (.int .i64 0))), g0 (.mv 4 (.c (.int .i64 0)))])
  (.seq (.ops [g0 (.mv 5 (.c .nils))])
  (.seq (.seq (.ops [g0 (.mv 6 (.c (.int .i64 1)))])
  (.block 0 (.loop L29_0)))
  (.seq (.ops [g0 (.mv 48 (.t 5)), g0 (.mv 2 (.t 48)), g0 (.mv 3 (.c (.int .i64 0))), g0 (.mv 4 (.c (.int .i64 0)))])
  (.ret)))),
  [.t 2, .t 3, .t 4]⟩
def L30_0 : Ic := .seq (.seq (.ops [g0 (.mv 6 (.t 5)), g0 (.mv 7 (.t 1)), g0 (.len 8 .slice (.t 7) false), g0 (.bin 9 .lss (.t 6) (.t 8)), g0 (.mv 10 (.t 9)), g1 10 true (.mv 11 (.t 5)), g1 10 true (.bin 12 .lss (.t 11) (.c (.int .i64 16))), g0 (.pick 13 (.t 10) (.t 12) (.c (.bool false)))])
  (.cond (.t 13) (.skip)
  (.exit 0)))
  (.seq (.block 1 (.seq (.ops [g0 (.mv 16 (.t 1)), g0 (.mv 17 (.t 5)), g0 (.idxA 18 (.t 16) (.t 17) 8 (some 8) none), g0 (.fldA 19 (.t 18) 1 none), g0 (.load 20 (.t 19) none none false), g0 (.len 21 .str (.t 20) false), g0 (.bin 22 .gtr (.t 21) (.c (.int .i64 500))), g0 (.mv 23 (.t 22)), g1 23 false (.mv 24 (.t 1)), g1 23 false (.mv 25 (.t 5)), g1 23 false (.idxA 26 (.t 24) (.t 25) 8 (some 8) none), g1 23 false (.fldA 27 (.t 26) 2 (some 5)), g1 23 false (.fldA 28 (.t 27) 3 none), g1 23 false (.load 29 (.t 28) none none false), g1 23 false (.len 30 .str (.t 29) false), g1 23 false (.bin 31 .gtr (.t 30) (.c (.int .i64 100))), g0 (.pick 32 (.t 23) (.c (.bool true)) (.t 31)), g0 (.mv 33 (.t 32)), g1 33 false (.mv 34 (.t 1)), g1 33 false (.mv 35 (.t 5)), g1 33 false (.idxA 36 (.t 34) (.t 35) 8 (some 8) none), g1 33 false (.fldA 37 (.t 36) 2 (some 5)), g1 33 false (.fldA 38 (.t 37) 4 none), g1 33 false (.load 39 (.t 38) none none false), g1 33 false (.len 40 .slice (.t 39) false), g1 33 false (.bin 41 .gtr (.t 40) (.c (.int .i64 100))), g0 (.pick 42 (.t 33) (.c (.bool true)) (.t 41))])
  (.cond (.t 42) (.seq (.ops [g0 (.mv 4 (.c (.bool true)))])
  (.ret))
  (.skip))))
  (.ops [g0 (.mv 14 (.t 5)), g0 (.bin 15 .add (.t 14) (.c (.int .i64 1))), g0 (.mv 5 (.t 15))]))
/-- notary/notaryref50.Large -/
def F30 : IFunc := ⟨.pure, .seq (.ops [g0 (.mv 4 (.c (.bool false)))])
  (.seq (.seq (.ops [g0 (.mv 5 (.c (.int .i64 0)))])
  (.block 0 (.loop L30_0)))
  (.seq (.ops [g0 (.mv 43 (.t 1)), g0 (.len 44 .slice (.t 43) false), g0 (.bin 45 .gtr (.t 44) (.c (.int .i64 16))), g0 (.mv 46 (.t 45)), g1 46 false (.mv 47 (.t 0)), g1 46 false (.len 48 .slice (.t 47) false), g1 46 false (.bin 49 .gtr (.t 48) (.c (.int .i64 100))), g0 (.pick 50 (.t 46) (.c (.bool true)) (.t 49)), g0 (.mv 4 (.t 50))])
  (.ret))),
  [.t 4]⟩
def L31_0 : Ic := .seq (.ops [g0 (.bin 13 .lss (.t 12) (.t 11))])
  (.seq (.cond (.t 13) (.skip)
  (.exit 0))
  (.seq (.block 1 (.seq (.ops [g0 (.idxA 14 (.t 10) (.t 12) 8 (some 8) none), g0 (.load 15 (.t 14) (some 8) none false), g0 (.boxL 6 8 none [(.int .i64 0), (.str []), (.int .i64 0), (.int .i64 0), (.int .i64 0), (.str []), .nils, (.int .i64 0)]), g0 (.store (.t 6) (.t 15) 8 (some 6))])
  (.seq (.ops [g0 (.load 17 (.t 6) (some 8) (some 6) false), g0 (.call (some 18) 58 [(.t 17)]), g0 (.mv 16 (.t 18)), g0 (.ext 19 (.t 16) 0), g0 (.ext 20 (.t 16) 1), g0 (.ext 21 (.t 16) 2), g0 (.boxL 8 8 none [(.int .i64 0), (.str []), (.int .i64 0), (.int .i64 0), (.int .i64 0), (.str []), .nils, (.int .i64 0)]), g0 (.mv 7 (.t 19)), g0 (.store (.t 8) (.t 20) 8 (some 8)), g0 (.mv 9 (.t 21))])
  (.seq (.seq (.ops [g0 (.mv 22 (.t 9)), g0 (.un 23 .not (.t 22))])
  (.cond (.t 23) (.seq (.ops [g0 (.mv 2 (.c (.str []))), g0 (.mv 3 (.c (.int .i64 23)))])
  (.ret))
  (.skip)))
  (.seq (.seq (.ops [g0 (.load 24 (.t 6) (some 8) (some 6) false), g0 (.load 25 (.t 8) (some 8) (some 8) false), g0 (.call (some 26) 59 [(.t 24), (.t 25)]), g0 (.un 27 .not (.t 26))])
  (.cond (.t 27) (.seq (.ops [g0 (.mv 2 (.c (.str []))), g0 (.mv 3 (.c (.int .i64 2)))])
  (.ret))
  (.skip)))
  (.seq (.ops [g0 (.mv 28 (.t 7)), g0 (.call (some 29) 60 [(.t 28), (.c (.str [32]))]), g0 (.call (some 30) 47 [(.t 4), (.t 29)])])
  (.ops [g0 (.call (some 31) 54 [(.t 4), (.c (.int .u8 10))])])))))))
  (.ops [g0 (.bin 32 .add (.t 12) (.c (.int .i64 1))), g0 (.mv 12 (.t 32))])))
/-- notary/script.Print -/
def F31 : IFunc := ⟨.pure, .seq (.ops [g0 (.mv 2 (.c (.str []))), g0 (.mv 3 (.c (.int .i64 0)))])
  (.seq (.ops [g0 (.boxT 4 2 (.agg [.nilp, .nils]) 85)])
  (.seq (.seq (.ops [g0 (.mv 10 (.t 0)), g0 (.len 11 .slice (.t 10) false), g0 (.mv 12 (.c (.int .i64 0)))])
  (.block 0 (.loop L31_0)))
  (.seq (.ops [g0 (.call (some 33) 49 [(.t 4)]), g0 (.mv 2 (.t 33)), g0 (.mv 3 (.c (.int .i64 0)))])
  (.ret)))),
  [.t 2, .t 3]⟩
def L32_0 : Ic := .seq (.seq (.ops [g0 (.mv 8 (.t 5)), g0 (.mv 9 (.t 0)), g0 (.len 10 .slice (.t 9) false), g0 (.bin 11 .lss (.t 8) (.t 10))])
  (.cond (.t 11) (.skip)
  (.exit 0)))
  (.seq (.block 1 (.seq (.ops [g0 (.mv 15 (.t 0)), g0 (.mv 16 (.t 5)), g0 (.idxA 17 (.t 15) (.t 16) 8 (some 8) none), g0 (.load 18 (.t 17) (some 8) none false), g0 (.call (some 19) 61 [(.t 18)]), g0 (.mv 14 (.t 19)), g0 (.ext 20 (.t 14) 0), g0 (.ext 21 (.t 14) 1), g0 (.mv 6 (.t 20)), g0 (.mv 7 (.t 21))])
  (.seq (.seq (.ops [g0 (.mv 22 (.t 7)), g0 (.bin 23 .neq (.t 22) (.c (.int .i64 0)))])
  (.cond (.t 23) (.seq (.ops [g0 (.mv 24 (.t 7)), g0 (.mv 2 (.c (.str []))), g0 (.mv 3 (.t 24))])
  (.ret))
  (.skip)))
  (.ops [g0 (.mv 25 (.t 4)), g0 (.mv 26 (.t 6)), g0 (.bin 27 .add (.t 25) (.t 26)), g0 (.bin 28 .add (.t 27) (.c (.str [10]))), g0 (.mv 4 (.t 28))]))))
  (.ops [g0 (.mv 12 (.t 5)), g0 (.bin 13 .add (.t 12) (.c (.int .i64 1))), g0 (.mv 5 (.t 13))]))
/-- notary/notaryref51.Print -/
def F32 : IFunc := ⟨.pure, .seq (.ops [g0 (.mv 2 (.c (.str []))), g0 (.mv 3 (.c (.int .i64 0)))])
  (.seq (.ops [g0 (.mv 4 (.c (.str [])))])
  (.seq (.seq (.ops [g0 (.mv 5 (.c (.int .i64 0)))])
  (.block 0 (.loop L32_0)))
  (.seq (.ops [g0 (.mv 29 (.t 4)), g0 (.mv 2 (.t 29)), g0 (.mv 3 (.c (.int .i64 0)))])
  (.ret)))),
  [.t 2, .t 3]⟩
def L33_0 : Ic := .seq (.seq (.ops [g0 (.mv 11 (.t 5)), g0 (.mv 12 (.t 0)), g0 (.len 13 .slice (.t 12) false), g0 (.bin 14 .lss (.t 11) (.t 13))])
  (.cond (.t 14) (.skip)
  (.exit 0)))
  (.seq (.block 1 (.seq (.ops [g0 (.mv 17 (.t 0)), g0 (.mv 18 (.t 5)), g0 (.idxA 19 (.t 17) (.t 18) 8 (some 8) none), g0 (.load 20 (.t 19) (some 8) none false), g0 (.mv 21 (.t 1)), g0 (.mv 22 (.t 5)), g0 (.idxA 23 (.t 21) (.t 22) 8 (some 8) none), g0 (.load 24 (.t 23) (some 8) none false), g0 (.call (some 25) 62 [(.t 20), (.t 24)]), g0 (.un 26 .not (.t 25))])
  (.cond (.t 26) (.seq (.ops [g0 (.mv 4 (.c (.bool false)))])
  (.ret))
  (.skip))))
  (.ops [g0 (.mv 15 (.t 5)), g0 (.bin 16 .add (.t 15) (.c (.int .i64 1))), g0 (.mv 5 (.t 16))]))
/-- notary/notaryref51.Alike -/
def F33 : IFunc := ⟨.pure, .seq (.ops [g0 (.mv 4 (.c (.bool false)))])
  (.seq (.seq (.ops [g0 (.mv 6 (.t 0)), g0 (.len 7 .slice (.t 6) false), g0 (.mv 8 (.t 1)), g0 (.len 9 .slice (.t 8) false), g0 (.bin 10 .neq (.t 7) (.t 9))])
  (.cond (.t 10) (.seq (.ops [g0 (.mv 4 (.c (.bool false)))])
  (.ret))
  (.skip)))
  (.seq (.seq (.ops [g0 (.mv 5 (.c (.int .i64 0)))])
  (.block 0 (.loop L33_0)))
  (.seq (.ops [g0 (.mv 4 (.c (.bool true)))])
  (.ret)))),
  [.t 4]⟩
def L34_0 : Ic := .seq (.seq (.ops [g0 (.mv 12 (.t 8)), g0 (.mv 13 (.t 0)), g0 (.len 14 .str (.t 13) false), g0 (.bin 15 .lss (.t 12) (.t 14))])
  (.cond (.t 15) (.skip)
  (.exit 0)))
  (.seq (.block 1 (.seq (.ops [g0 (.mv 18 (.t 0)), g0 (.mv 19 (.t 8)), g0 (.idx 20 (.t 18) (.t 19) none 1 none), g0 (.bin 21 .eql (.t 20) (.c (.int .u8 10)))])
  (.cond (.t 21) (.seq (.ops [g0 (.mv 23 (.t 0)), g0 (.mv 24 (.t 6)), g0 (.mv 25 (.t 8)), g0 (.slc 26 none (.t 23) (some (.t 24)) (some (.t 25)) none), g0 (.call (some 27) 63 [(.t 26)]), g0 (.mv 22 (.t 27)), g0 (.ext 28 (.t 22) 0), g0 (.ext 29 (.t 22) 1), g0 (.boxL 9 8 none [(.int .i64 0), (.str []), (.int .i64 0), (.int .i64 0), (.int .i64 0), (.str []), .nils, (.int .i64 0)]), g0 (.store (.t 9) (.t 28) 8 (some 9)), g0 (.mv 10 (.t 29))])
  (.seq (.seq (.ops [g0 (.mv 30 (.t 10)), g0 (.un 31 .not (.t 30))])
  (.cond (.t 31) (.seq (.ops [g0 (.bsl 32 8 true []), g0 (.mv 33 (.t 7)), g0 (.mv 2 (.t 32)), g0 (.mv 3 (.t 33)), g0 (.mv 4 (.c (.int .i64 2)))])
  (.ret))
  (.skip)))
  (.seq (.ops [g0 (.mv 34 (.t 5)), g0 (.load 35 (.t 9) (some 8) (some 9) false), g0 (.bsl 36 8 true [(.t 35)]), g0 (.app 37 (.t 34) (.t 36) 8), g0 (.mv 5 (.t 37))])
  (.seq (.ops [g0 (.mv 38 (.t 8)), g0 (.bin 39 .add (.t 38) (.c (.int .i64 1))), g0 (.mv 6 (.t 39))])
  (.ops [g0 (.mv 40 (.t 7)), g0 (.bin 41 .add (.t 40) (.c (.int .i64 1))), g0 (.mv 7 (.t 41))])))))
  (.skip))))
  (.ops [g0 (.mv 16 (.t 8)), g0 (.bin 17 .add (.t 16) (.c (.int .i64 1))), g0 (.mv 8 (.t 17))]))
/-- notary/notaryref51.Parse -/
def F34 : IFunc := ⟨.pure, .seq (.ops [g0 (.mv 2 (.c .nils)), g0 (.mv 3 (.c (.int .i64 0))), g0 (.mv 4 (.c (.int .i64 0)))])
  (.seq (.ops [g0 (.bsl 11 8 true []), g0 (.mv 5 (.t 11))])
  (.seq (.ops [g0 (.mv 6 (.c (.int .i64 0)))])
  (.seq (.ops [g0 (.mv 7 (.c (.int .i64 1)))])
  (.seq (.seq (.ops [g0 (.mv 8 (.c (.int .i64 0)))])
  (.block 0 (.loop L34_0)))
  (.seq (.seq (.ops [g0 (.mv 42 (.t 6)), g0 (.mv 43 (.t 0)), g0 (.len 44 .str (.t 43) false), g0 (.bin 45 .lss (.t 42) (.t 44))])
  (.cond (.t 45) (.seq (.ops [g0 (.bsl 46 8 true []), g0 (.mv 47 (.t 7)), g0 (.mv 2 (.t 46)), g0 (.mv 3 (.t 47)), g0 (.mv 4 (.c (.int .i64 2)))])
  (.ret))
  (.skip)))
  (.seq (.ops [g0 (.mv 48 (.t 5)), g0 (.mv 2 (.t 48)), g0 (.mv 3 (.c (.int .i64 0))), g0 (.mv 4 (.c (.int .i64 0)))])
  (.ret))))))),
  [.t 2, .t 3, .t 4]⟩
def L41_1 : Ic := .seq (.seq (.ops [g0 (.mv 18 (.t 1)), g0 (.mv 19 (.t 0)), g0 (.len 20 .str (.t 19) false), g0 (.bin 21 .lss (.t 18) (.t 20)), g0 (.mv 22 (.t 21)), g1 22 true (.mv 23 (.t 0)), g1 22 true (.mv 24 (.t 1)), g1 22 true (.idx 25 (.t 23) (.t 24) none 1 none), g1 22 true (.bin 26 .neq (.t 25) (.c (.int .u8 10))), g0 (.pick 27 (.t 22) (.t 26) (.c (.bool false)))])
  (.cond (.t 27) (.skip)
  (.exit 2)))
  (.block 3 (.ops [g0 (.mv 28 (.t 1)), g0 (.bin 29 .add (.t 28) (.c (.int .i64 1))), g0 (.mv 1 (.t 29))]))
def L41_0 : Ic := .seq (.seq (.ops [g0 (.mv 5 (.t 1)), g0 (.mv 6 (.t 0)), g0 (.len 7 .str (.t 6) false), g0 (.bin 8 .lss (.t 5) (.t 7))])
  (.cond (.t 8) (.skip)
  (.exit 0)))
  (.block 1 (.seq (.ops [g0 (.mv 9 (.t 0)), g0 (.mv 10 (.t 1)), g0 (.idx 11 (.t 9) (.t 10) none 1 none), g0 (.call (some 12) 77 [(.t 11)])])
  (.cond (.t 12) (.ops [g0 (.mv 13 (.t 1)), g0 (.bin 14 .add (.t 13) (.c (.int .i64 1))), g0 (.mv 1 (.t 14))])
  (.seq (.ops [g0 (.mv 15 (.t 0)), g0 (.mv 16 (.t 1)), g0 (.call (some 17) 78 [(.t 15), (.t 16), (.c (.str [47, 47]))])])
  (.cond (.t 17) (.block 2 (.loop L41_1))
  (.seq (.ops [g0 (.mv 30 (.t 1)), g0 (.mv 4 (.t 30))])
  (.ret)))))))
/-- notary/notaryref05.Next -/
def F41 : IFunc := ⟨.pure, .seq (.ops [g0 (.mv 4 (.c (.int .i64 0)))])
  (.seq (.block 0 (.loop L41_0))
  (.seq (.ops [g0 (.mv 31 (.t 1)), g0 (.mv 4 (.t 31))])
  (.ret))),
  [.t 4]⟩
def L42_2 : Ic := .seq (.seq (.ops [g0 (.mv 87 (.t 12)), g0 (.mv 88 (.t 11)), g0 (.len 89 .slice (.t 88) false), g0 (.bin 90 .lss (.t 87) (.t 89))])
  (.cond (.t 90) (.skip)
  (.exit 4)))
  (.seq (.block 5 (.seq (.ops [g0 (.mv 93 (.t 0)), g0 (.mv 94 (.t 1)), g0 (.mv 95 (.t 11)), g0 (.mv 96 (.t 12)), g0 (.idxA 97 (.t 95) (.t 96) 1 none none), g0 (.load 98 (.t 97) none none false), g0 (.call (some 99) 78 [(.t 93), (.t 94), (.t 98)])])
  (.cond (.t 99) (.seq (.ops [g0 (.mv 100 (.t 11)), g0 (.mv 101 (.t 12)), g0 (.idxA 102 (.t 100) (.t 101) 1 none none), g0 (.load 103 (.t 102) none none false), g0 (.mv 104 (.t 1)), g0 (.mv 105 (.t 1)), g0 (.mv 106 (.t 11)), g0 (.mv 107 (.t 12)), g0 (.idxA 108 (.t 106) (.t 107) 1 none none), g0 (.load 109 (.t 108) none none false), g0 (.len 110 .str (.t 109) false), g0 (.bin 111 .add (.t 105) (.t 110)), g0 (.build 112 [(.int .i64 0), (.int .i64 0), (.str []), (.int .i64 0), (.int .i64 0)] [(0, 1, (.c (.int .i64 4))), (2, 1, (.t 103)), (3, 1, (.t 104)), (4, 1, (.t 111))]), g0 (.store (.t 4) (.t 112) 5 (some 4)), g0 (.mv 5 (.c (.int .i64 0)))])
  (.ret))
  (.skip))))
  (.ops [g0 (.mv 91 (.t 12)), g0 (.bin 92 .add (.t 91) (.c (.int .i64 1))), g0 (.mv 12 (.t 92))]))
def L42_1 : Ic := .seq (.seq (.ops [g0 (.mv 59 (.t 7)), g0 (.mv 60 (.t 0)), g0 (.len 61 .str (.t 60) false), g0 (.bin 62 .lss (.t 59) (.t 61)), g0 (.mv 63 (.t 62)), g1 63 true (.mv 64 (.t 0)), g1 63 true (.mv 65 (.t 7)), g1 63 true (.idx 66 (.t 64) (.t 65) none 1 none), g1 63 true (.call (some 67) 80 [(.t 66)]), g0 (.pick 68 (.t 63) (.t 67) (.c (.bool false)))])
  (.cond (.t 68) (.skip)
  (.exit 2)))
  (.block 3 (.ops [g0 (.mv 69 (.t 7)), g0 (.bin 70 .add (.t 69) (.c (.int .i64 1))), g0 (.mv 7 (.t 70))]))
def L42_0 : Ic := .seq (.seq (.ops [g0 (.mv 19 (.t 7)), g0 (.mv 20 (.t 0)), g0 (.len 21 .str (.t 20) false), g0 (.bin 22 .lss (.t 19) (.t 21)), g0 (.mv 23 (.t 22)), g1 23 true (.mv 24 (.t 0)), g1 23 true (.mv 25 (.t 7)), g1 23 true (.idx 26 (.t 24) (.t 25) none 1 none), g1 23 true (.call (some 27) 79 [(.t 26)]), g1 23 true (.mv 28 (.t 27)), g1 28 false (.mv 29 (.t 0)), g1 28 false (.mv 30 (.t 7)), g1 28 false (.idx 31 (.t 29) (.t 30) none 1 none), g1 28 false (.call (some 32) 80 [(.t 31)]), g1 23 true (.pick 33 (.t 28) (.c (.bool true)) (.t 32)), g0 (.pick 34 (.t 23) (.t 33) (.c (.bool false)))])
  (.cond (.t 34) (.skip)
  (.exit 0)))
  (.block 1 (.ops [g0 (.mv 35 (.t 7)), g0 (.bin 36 .add (.t 35) (.c (.int .i64 1))), g0 (.mv 7 (.t 36))]))
/-- notary/notaryref05.One -/
def F42 : IFunc := ⟨.pure, .seq (.ops [g0 (.boxL 4 5 none [(.int .i64 0), (.int .i64 0), (.str []), (.int .i64 0), (.int .i64 0)]), g0 (.mv 5 (.c (.int .i64 0)))])
  (.seq (.ops [g0 (.mv 13 (.t 0)), g0 (.mv 14 (.t 1)), g0 (.idx 15 (.t 13) (.t 14) none 1 none), g0 (.mv 6 (.t 15))])
  (.seq (.ops [g0 (.mv 16 (.t 1)), g0 (.mv 7 (.t 16))])
  (.seq (.seq (.ops [g0 (.mv 17 (.t 6)), g0 (.call (some 18) 79 [(.t 17)])])
  (.cond (.t 18) (.seq (.block 0 (.loop L42_0))
  (.seq (.seq (.ops [g0 (.mv 37 (.t 7)), g0 (.mv 38 (.t 1)), g0 (.bin 39 .sub (.t 37) (.t 38)), g0 (.bin 40 .gtr (.t 39) (.c (.int .i64 16)))])
  (.cond (.t 40) (.seq (.ops [g0 (.build 41 [(.int .i64 0), (.int .i64 0), (.str []), (.int .i64 0), (.int .i64 0)] []), g0 (.store (.t 4) (.t 41) 5 (some 4)), g0 (.mv 5 (.c (.int .i64 3)))])
  (.ret))
  (.skip)))
  (.seq (.ops [g0 (.mv 42 (.t 0)), g0 (.mv 43 (.t 1)), g0 (.mv 44 (.t 7)), g0 (.slc 45 none (.t 42) (some (.t 43)) (some (.t 44)) none), g0 (.mv 8 (.t 45))])
  (.seq (.seq (.ops [g0 (.mv 46 (.t 8)), g0 (.call (some 47) 82 []), g0 (.call (some 48) 81 [(.t 46), (.t 47)])])
  (.cond (.t 48) (.seq (.ops [g0 (.mv 49 (.t 8)), g0 (.mv 50 (.t 1)), g0 (.mv 51 (.t 7)), g0 (.build 52 [(.int .i64 0), (.int .i64 0), (.str []), (.int .i64 0), (.int .i64 0)] [(0, 1, (.c (.int .i64 3))), (2, 1, (.t 49)), (3, 1, (.t 50)), (4, 1, (.t 51))]), g0 (.store (.t 4) (.t 52) 5 (some 4)), g0 (.mv 5 (.c (.int .i64 0)))])
  (.ret))
  (.skip)))
  (.seq (.ops [g0 (.mv 53 (.t 8)), g0 (.mv 54 (.t 1)), g0 (.mv 55 (.t 7)), g0 (.build 56 [(.int .i64 0), (.int .i64 0), (.str []), (.int .i64 0), (.int .i64 0)] [(0, 1, (.c (.int .i64 1))), (2, 1, (.t 53)), (3, 1, (.t 54)), (4, 1, (.t 55))]), g0 (.store (.t 4) (.t 56) 5 (some 4)), g0 (.mv 5 (.c (.int .i64 0)))])
  (.ret))))))
  (.skip)))
  (.seq (.seq (.ops [g0 (.mv 57 (.t 6)), g0 (.call (some 58) 80 [(.t 57)])])
  (.cond (.t 58) (.seq (.block 2 (.loop L42_1))
  (.seq (.ops [g0 (.mv 72 (.t 0)), g0 (.mv 73 (.t 1)), g0 (.mv 74 (.t 7)), g0 (.slc 75 none (.t 72) (some (.t 73)) (some (.t 74)) none), g0 (.call (some 76) 83 [(.t 75)]), g0 (.mv 71 (.t 76)), g0 (.ext 77 (.t 71) 0), g0 (.ext 78 (.t 71) 1), g0 (.mv 9 (.t 77)), g0 (.mv 10 (.t 78))])
  (.seq (.seq (.ops [g0 (.mv 79 (.t 10)), g0 (.un 80 .not (.t 79))])
  (.cond (.t 80) (.seq (.ops [g0 (.build 81 [(.int .i64 0), (.int .i64 0), (.str []), (.int .i64 0), (.int .i64 0)] []), g0 (.store (.t 4) (.t 81) 5 (some 4)), g0 (.mv 5 (.c (.int .i64 5)))])
  (.ret))
  (.skip)))
  (.seq (.ops [g0 (.mv 82 (.t 9)), g0 (.mv 83 (.t 1)), g0 (.mv 84 (.t 7)), g0 (.build 85 [(.int .i64 0), (.int .i64 0), (.str []), (.int .i64 0), (.int .i64 0)] [(0, 1, (.c (.int .i64 2))), (1, 1, (.t 82)), (3, 1, (.t 83)), (4, 1, (.t 84))]), g0 (.store (.t 4) (.t 85) 5 (some 4)), g0 (.mv 5 (.c (.int .i64 0)))])
  (.ret)))))
  (.skip)))
  (.seq (.ops [g0 (.call (some 86) 84 []), g0 (.mv 11 (.t 86))])
  (.seq (.seq (.ops [g0 (.mv 12 (.c (.int .i64 0)))])
  (.block 4 (.loop L42_2)))
  (.seq (.ops [g0 (.build 113 [(.int .i64 0), (.int .i64 0), (.str []), (.int .i64 0), (.int .i64 0)] []), g0 (.store (.t 4) (.t 113) 5 (some 4)), g0 (.mv 5 (.c (.int .i64 4)))])
  (.ret)))))))),
  [.cell 4 (some 5) (some 4), .t 5]⟩
/-- notary/notaryref05.Digits -/
def F43 : IFunc := ⟨.pure, .seq (.ops [g0 (.mv 2 (.c (.str [])))])
  (.seq (.seq (.ops [g0 (.mv 3 (.t 0)), g0 (.bin 4 .lss (.t 3) (.c (.int .i64 0)))])
  (.cond (.t 4) (.seq (.seq (.ops [g0 (.mv 5 (.t 0)), g0 (.bin 6 .gtr (.t 5) (.c (.int .i64 (-10))))])
  (.cond (.t 6) (.seq (.ops [g0 (.mv 7 (.t 0)), g0 (.bin 8 .sub (.c (.int .i64 48)) (.t 7)), g0 (.conv 9 (.int .u8) (.t 8)), g0 (.bsl 10 1 false [(.t 9)]), g0 (.conv 11 .bytesstr (.t 10)), g0 (.bin 12 .add (.c (.str [45])) (.t 11)), g0 (.mv 2 (.t 12))])
  (.ret))
  (.skip)))
  (.seq (.ops [g0 (.mv 13 (.t 0)), g0 (.bin 14 .quo (.t 13) (.c (.int .i64 10))), g0 (.callQ (some 15) 43 [(.t 14)]), g0 (.mv 16 (.t 0)), g0 (.bin 17 .rem (.t 16) (.c (.int .i64 10))), g0 (.bin 18 .sub (.c (.int .i64 48)) (.t 17)), g0 (.conv 19 (.int .u8) (.t 18)), g0 (.bsl 20 1 false [(.t 19)]), g0 (.conv 21 .bytesstr (.t 20)), g0 (.bin 22 .add (.t 15) (.t 21)), g0 (.mv 2 (.t 22))])
  (.ret)))
  (.skip)))
  (.seq (.seq (.ops [g0 (.mv 23 (.t 0)), g0 (.bin 24 .lss (.t 23) (.c (.int .i64 10)))])
  (.cond (.t 24) (.seq (.ops [g0 (.mv 25 (.t 0)), g0 (.bin 26 .add (.c (.int .i64 48)) (.t 25)), g0 (.conv 27 (.int .u8) (.t 26)), g0 (.bsl 28 1 false [(.t 27)]), g0 (.conv 29 .bytesstr (.t 28)), g0 (.mv 2 (.t 29))])
  (.ret))
  (.skip)))
  (.seq (.ops [g0 (.mv 30 (.t 0)), g0 (.bin 31 .quo (.t 30) (.c (.int .i64 10))), g0 (.callQ (some 32) 43 [(.t 31)]), g0 (.mv 33 (.t 0)), g0 (.bin 34 .rem (.t 33) (.c (.int .i64 10))), g0 (.bin 35 .add (.c (.int .i64 48)) (.t 34)), g0 (.conv 36 (.int .u8) (.t 35)), g0 (.bsl 37 1 false [(.t 36)]), g0 (.conv 38 .bytesstr (.t 37)), g0 (.bin 39 .add (.t 32) (.t 38)), g0 (.mv 2 (.t 39))])
  (.ret)))),
  [.t 2]⟩
def L44_0 : Ic := .seq (.seq (.ops [g0 (.mv 16 (.t 5)), g0 (.nilc (some 17) (.t 16)), g0 (.fldA 18 (.t 17) 1 none), g0 (.load 19 (.t 18) none none false), g0 (.mv 20 (.t 0)), g0 (.len 21 .str (.t 20) false), g0 (.bin 22 .lss (.t 19) (.t 21))])
  (.cond (.t 22) (.skip)
  (.exit 0)))
  (.seq (.block 1 (.seq (.ops [g0 (.mv 25 (.t 5)), g0 (.nilc (some 26) (.t 25)), g0 (.fldA 27 (.t 26) 1 none), g0 (.load 28 (.t 27) none none false), g0 (.mv 6 (.t 28))])
  (.seq (.ops [g0 (.mv 29 (.t 5)), g0 (.call (some 30) 86 [(.t 29)]), g0 (.mv 7 (.t 30))])
  (.seq (.ops [g0 (.mv 31 (.t 7)), g0 (.bin 32 .neq (.t 31) (.c (.int .i64 0)))])
  (.cond (.t 32) (.seq (.ops [g0 (.mv 33 (.t 6)), g0 (.mv 34 (.t 7)), g0 (.mv 2 (.c .nils)), g0 (.mv 3 (.t 33)), g0 (.mv 4 (.t 34))])
  (.ret))
  (.skip))))))
  (.ops [g0 (.mv 23 (.t 5)), g0 (.call (some 24) 85 [(.t 23)])]))
/-- notary/lex.Tokens -/
def F44 : IFunc := ⟨.pure, .seq (.ops [g0 (.mv 2 (.c .nils)), g0 (.mv 3 (.c (.int .i64 0))), g0 (.mv 4 (.c (.int .i64 0)))])
  (.seq (.seq (.ops [g0 (.mv 8 (.t 0)), g0 (.len 9 .str (.t 8) false), g0 (.bin 10 .gtr (.t 9) (.c (.int .i64 8192)))])
  (.cond (.t 10) (.seq (.ops [g0 (.mv 2 (.c .nils)), g0 (.mv 3 (.c (.int .i64 0))), g0 (.mv 4 (.c (.int .i64 3)))])
  (.ret))
  (.skip)))
  (.seq (.ops [g0 (.mv 11 (.t 0)), g0 (.build 12 [(.str []), (.int .i64 0), .nils] [(0, 1, (.t 11))]), g0 (.boxH 13 (some 3) (.t 12)), g0 (.mv 5 (.t 13))])
  (.seq (.seq (.ops [g0 (.mv 14 (.t 5)), g0 (.call (some 15) 85 [(.t 14)])])
  (.block 0 (.loop L44_0)))
  (.seq (.ops [g0 (.mv 35 (.t 5)), g0 (.mv 36 (.t 5)), g0 (.nilc (some 37) (.t 36)), g0 (.fldA 38 (.t 37) 1 none), g0 (.load 39 (.t 38) none none false), g0 (.call (some 40) 87 [(.t 35), (.c (.int .i64 5)), (.c (.int .i64 0)), (.c (.str [])), (.t 39)])])
  (.seq (.ops [g0 (.mv 41 (.t 5)), g0 (.nilc (some 42) (.t 41)), g0 (.fldA 43 (.t 42) 2 none), g0 (.load 44 (.t 43) none none false), g0 (.mv 2 (.t 44)), g0 (.mv 3 (.c (.int .i64 0))), g0 (.mv 4 (.c (.int .i64 0)))])
  (.ret)))))),
  [.t 2, .t 3, .t 4]⟩
def L45_0 : Ic := .seq (.ops [g0 (.bin 9 .lss (.t 8) (.t 7))])
  (.seq (.cond (.t 9) (.skip)
  (.exit 0))
  (.seq (.block 1 (.seq (.ops [g0 (.mv 10 (.t 8)), g0 (.mv 5 (.t 10))])
  (.seq (.ops [g0 (.mv 11 (.t 1)), g0 (.mv 12 (.t 0)), g0 (.mv 13 (.t 5)), g0 (.idxA 14 (.t 12) (.t 13) 2 (some 2) none), g0 (.load 15 (.t 14) (some 2) none false), g0 (.callV (some 16) (.t 11) [(.t 15)])])
  (.cond (.t 16) (.seq (.ops [g0 (.mv 17 (.t 5)), g0 (.mv 4 (.t 17))])
  (.ret))
  (.skip)))))
  (.ops [g0 (.bin 18 .add (.t 8) (.c (.int .i64 1))), g0 (.mv 8 (.t 18))])))
/-- slices.IndexFunc[[]notary/api.Naming,notary/api.Naming] -/
def F45 : IFunc := ⟨.pop, .seq (.ops [g0 (.mv 4 (.c (.int .i64 0)))])
  (.seq (.seq (.ops [g0 (.mv 6 (.t 0)), g0 (.len 7 .slice (.t 6) false), g0 (.mv 8 (.c (.int .i64 0)))])
  (.block 0 (.loop L45_0)))
  (.seq (.ops [g0 (.mv 4 (.c (.int .i64 (-1))))])
  (.ret))),
  [.t 4]⟩
/-- notary/link.Rename$1 -/
def F46 : IFunc := ⟨.pop, .seq (.ops [g0 (.boxL 3 2 (some (.t 0)) []), g0 (.mv 4 (.c (.bool false)))])
  (.seq (.ops [g0 (.fldA 5 (.t 3) 0 none), g0 (.load 6 (.t 5) none (some 3) false), g0 (.load 7 (.t 1) none none false), g0 (.load 8 (.t 2) none none false), g0 (.idxA 9 (.t 7) (.t 8) 5 (some 5) none), g0 (.fldA 10 (.t 9) 2 none), g0 (.load 11 (.t 10) none none false), g0 (.bin 12 .eql (.t 6) (.t 11)), g0 (.mv 4 (.t 12))])
  (.ret)),
  [.t 4]⟩
/-- (*strings.Builder).WriteString -/
def F47 : IFunc := ⟨.raw, .seq (.ops [g0 (.mv 4 (.c (.int .i64 0))), g0 (.mv 5 (.c .nili))])
  (.seq (.ops [g0 (.mv 6 (.t 0)), g0 (.call (some 7) 88 [(.t 6)])])
  (.seq (.ops [g0 (.mv 8 (.t 0)), g0 (.mv 9 (.t 0)), g0 (.nilc (some 10) (.t 9)), g0 (.fldA 11 (.t 10) 1 none), g0 (.load 12 (.t 11) none none false), g0 (.mv 13 (.t 1)), g0 (.appT 14 (.t 12) (.t 13) 1 5), g0 (.nilc (some 15) (.t 8)), g0 (.fldA 16 (.t 15) 1 none), g0 (.store (.t 16) (.t 14) 1 none)])
  (.seq (.ops [g0 (.mv 17 (.t 1)), g0 (.len 18 .str (.t 17) false), g0 (.mv 4 (.t 18)), g0 (.mv 5 (.c .nili))])
  (.ret)))),
  [.t 4, .t 5]⟩
/-- (*strings.Builder).Len -/
def F48 : IFunc := ⟨.raw, .seq (.ops [g0 (.mv 2 (.c (.int .i64 0)))])
  (.seq (.ops [g0 (.mv 3 (.t 0)), g0 (.nilc (some 4) (.t 3)), g0 (.fldA 5 (.t 4) 1 none), g0 (.load 6 (.t 5) none none false), g0 (.len 7 .slice (.t 6) false), g0 (.mv 2 (.t 7))])
  (.ret)),
  [.t 2]⟩
/-- (*strings.Builder).String -/
def F49 : IFunc := ⟨.raw, .prim 98649,
  [.t 0]⟩
def L50_0 : Ic := .seq (.seq (.ops [g0 (.mv 6 (.t 5)), g0 (.mv 7 (.t 0)), g0 (.len 8 .slice (.t 7) false), g0 (.bin 9 .lss (.t 6) (.t 8))])
  (.cond (.t 9) (.skip)
  (.exit 0)))
  (.seq (.block 1 (.seq (.ops [g0 (.mv 12 (.t 0)), g0 (.mv 13 (.t 5)), g0 (.idxA 14 (.t 12) (.t 13) 2 (some 2) none), g0 (.fldA 15 (.t 14) 0 none), g0 (.load 16 (.t 15) none none false), g0 (.mv 17 (.t 1)), g0 (.bin 18 .eql (.t 16) (.t 17))])
  (.cond (.t 18) (.seq (.ops [g0 (.mv 19 (.t 0)), g0 (.mv 20 (.t 5)), g0 (.idxA 21 (.t 19) (.t 20) 2 (some 2) none), g0 (.fldA 22 (.t 21) 1 none), g0 (.load 23 (.t 22) none none false), g0 (.mv 4 (.t 23))])
  (.ret))
  (.skip))))
  (.ops [g0 (.mv 10 (.t 5)), g0 (.bin 11 .add (.t 10) (.c (.int .i64 1))), g0 (.mv 5 (.t 11))]))
/-- notary/notaryref22.Anew -/
def F50 : IFunc := ⟨.pure, .seq (.ops [g0 (.mv 4 (.c (.str [])))])
  (.seq (.seq (.ops [g0 (.mv 5 (.c (.int .i64 0)))])
  (.block 0 (.loop L50_0)))
  (.seq (.ops [g0 (.mv 24 (.t 1)), g0 (.mv 4 (.t 24))])
  (.ret))),
  [.t 4]⟩
def L51_0 : Ic := .seq (.ops [g0 (.bin 14 .lss (.t 13) (.t 12))])
  (.seq (.cond (.t 14) (.skip)
  (.exit 0))
  (.seq (.block 1 (.seq (.ops [g0 (.mv 15 (.t 13)), g0 (.mv 5 (.t 15))])
  (.seq (.ops [g0 (.mv 16 (.t 0)), g0 (.mv 17 (.t 5)), g0 (.idxA 18 (.t 16) (.t 17) 1 none none), g0 (.load 19 (.t 18) none none false), g0 (.mv 20 (.t 1)), g0 (.mv 21 (.t 5)), g0 (.idxA 22 (.t 20) (.t 21) 1 none none), g0 (.load 23 (.t 22) none none false), g0 (.bin 24 .neq (.t 19) (.t 23))])
  (.cond (.t 24) (.seq (.ops [g0 (.mv 4 (.c (.bool false)))])
  (.ret))
  (.skip)))))
  (.ops [g0 (.bin 25 .add (.t 13) (.c (.int .i64 1))), g0 (.mv 13 (.t 25))])))
/-- slices.Equal[[]int64,int64] -/
def F51 : IFunc := ⟨.pure, .seq (.ops [g0 (.mv 4 (.c (.bool false)))])
  (.seq (.seq (.ops [g0 (.mv 6 (.t 0)), g0 (.len 7 .slice (.t 6) false), g0 (.mv 8 (.t 1)), g0 (.len 9 .slice (.t 8) false), g0 (.bin 10 .neq (.t 7) (.t 9))])
  (.cond (.t 10) (.seq (.ops [g0 (.mv 4 (.c (.bool false)))])
  (.ret))
  (.skip)))
  (.seq (.seq (.ops [g0 (.mv 11 (.t 0)), g0 (.len 12 .slice (.t 11) false), g0 (.mv 13 (.c (.int .i64 0)))])
  (.block 0 (.loop L51_0)))
  (.seq (.ops [g0 (.mv 4 (.c (.bool true)))])
  (.ret)))),
  [.t 4]⟩
/-- notary/notaryref21.Ahead -/
def F52 : IFunc := ⟨.pure, .seq (.ops [g0 (.mv 4 (.c (.bool false)))])
  (.seq (.ops [g0 (.mv 5 (.t 0)), g0 (.len 6 .slice (.t 5) false), g0 (.mv 7 (.t 1)), g0 (.len 8 .slice (.t 7) false), g0 (.bin 9 .leq (.t 6) (.t 8)), g0 (.mv 10 (.t 9)), g1 10 true (.mv 11 (.t 0)), g1 10 true (.mv 12 (.t 1)), g1 10 true (.mv 13 (.t 0)), g1 10 true (.len 14 .slice (.t 13) false), g1 10 true (.slc 15 (some 1) (.t 12) none (some (.t 14)) none), g1 10 true (.call (some 16) 53 [(.t 11), (.t 15)]), g0 (.pick 17 (.t 10) (.t 16) (.c (.bool false))), g0 (.mv 4 (.t 17))])
  (.ret)),
  [.t 4]⟩
def L53_0 : Ic := .seq (.seq (.ops [g0 (.mv 11 (.t 5)), g0 (.mv 12 (.t 0)), g0 (.len 13 .slice (.t 12) false), g0 (.bin 14 .lss (.t 11) (.t 13))])
  (.cond (.t 14) (.skip)
  (.exit 0)))
  (.seq (.block 1 (.seq (.ops [g0 (.mv 17 (.t 0)), g0 (.mv 18 (.t 5)), g0 (.idxA 19 (.t 17) (.t 18) 1 none none), g0 (.load 20 (.t 19) none none false), g0 (.mv 21 (.t 1)), g0 (.mv 22 (.t 5)), g0 (.idxA 23 (.t 21) (.t 22) 1 none none), g0 (.load 24 (.t 23) none none false), g0 (.bin 25 .neq (.t 20) (.t 24))])
  (.cond (.t 25) (.seq (.ops [g0 (.mv 4 (.c (.bool false)))])
  (.ret))
  (.skip))))
  (.ops [g0 (.mv 15 (.t 5)), g0 (.bin 16 .add (.t 15) (.c (.int .i64 1))), g0 (.mv 5 (.t 16))]))
/-- notary/notaryref21.Numbers -/
def F53 : IFunc := ⟨.pure, .seq (.ops [g0 (.mv 4 (.c (.bool false)))])
  (.seq (.seq (.ops [g0 (.mv 6 (.t 0)), g0 (.len 7 .slice (.t 6) false), g0 (.mv 8 (.t 1)), g0 (.len 9 .slice (.t 8) false), g0 (.bin 10 .neq (.t 7) (.t 9))])
  (.cond (.t 10) (.seq (.ops [g0 (.mv 4 (.c (.bool false)))])
  (.ret))
  (.skip)))
  (.seq (.seq (.ops [g0 (.mv 5 (.c (.int .i64 0)))])
  (.block 0 (.loop L53_0)))
  (.seq (.ops [g0 (.mv 4 (.c (.bool true)))])
  (.ret)))),
  [.t 4]⟩
/-- (*strings.Builder).WriteByte -/
def F54 : IFunc := ⟨.raw, .seq (.ops [g0 (.mv 4 (.c .nili))])
  (.seq (.ops [g0 (.mv 5 (.t 0)), g0 (.call (some 6) 88 [(.t 5)])])
  (.seq (.ops [g0 (.mv 7 (.t 0)), g0 (.mv 8 (.t 0)), g0 (.nilc (some 9) (.t 8)), g0 (.fldA 10 (.t 9) 1 none), g0 (.load 11 (.t 10) none none false), g0 (.mv 12 (.t 1)), g0 (.bsl 13 1 false [(.t 12)]), g0 (.appT 14 (.t 11) (.t 13) 1 5), g0 (.nilc (some 15) (.t 7)), g0 (.fldA 16 (.t 15) 1 none), g0 (.store (.t 16) (.t 14) 1 none)])
  (.seq (.ops [g0 (.mv 4 (.c .nili))])
  (.ret)))),
  [.t 4]⟩
/-- notary/notaryref51.Byte -/
def F55 : IFunc := ⟨.pure, .seq (.ops [g0 (.mv 2 (.c (.str [])))])
  (.seq (.seq (.ops [g0 (.mv 3 (.t 0)), g0 (.bin 4 .eql (.t 3) (.c (.int .u8 34))), g0 (.mv 5 (.t 4)), g1 5 false (.mv 6 (.t 0)), g1 5 false (.bin 7 .eql (.t 6) (.c (.int .u8 92))), g0 (.pick 8 (.t 5) (.c (.bool true)) (.t 7))])
  (.cond (.t 8) (.seq (.ops [g0 (.mv 9 (.t 0)), g0 (.bsl 10 1 false [(.c (.int .u8 92)), (.t 9)]), g0 (.conv 11 .bytesstr (.t 10)), g0 (.mv 2 (.t 11))])
  (.ret))
  (.skip)))
  (.seq (.seq (.ops [g0 (.mv 12 (.t 0)), g0 (.bin 13 .eql (.t 12) (.c (.int .u8 10)))])
  (.cond (.t 13) (.seq (.ops [g0 (.mv 2 (.c (.str [92, 110])))])
  (.ret))
  (.skip)))
  (.seq (.seq (.ops [g0 (.mv 14 (.t 0)), g0 (.bin 15 .geq (.t 14) (.c (.int .u8 32))), g0 (.mv 16 (.t 15)), g1 16 true (.mv 17 (.t 0)), g1 16 true (.bin 18 .leq (.t 17) (.c (.int .u8 126))), g0 (.pick 19 (.t 16) (.t 18) (.c (.bool false)))])
  (.cond (.t 19) (.seq (.ops [g0 (.mv 20 (.t 0)), g0 (.bsl 21 1 false [(.t 20)]), g0 (.conv 22 .bytesstr (.t 21)), g0 (.mv 2 (.t 22))])
  (.ret))
  (.skip)))
  (.seq (.ops [g0 (.mv 23 (.t 0)), g0 (.bin 24 .quo (.t 23) (.c (.int .u8 16))), g0 (.call (some 25) 89 [(.t 24)]), g0 (.mv 26 (.t 0)), g0 (.bin 27 .rem (.t 26) (.c (.int .u8 16))), g0 (.call (some 28) 89 [(.t 27)]), g0 (.bsl 29 1 false [(.c (.int .u8 92)), (.c (.int .u8 120)), (.t 25), (.t 28)]), g0 (.conv 30 .bytesstr (.t 29)), g0 (.mv 2 (.t 30))])
  (.ret))))),
  [.t 2]⟩
/-- strings.Cut -/
def F56 : IFunc := ⟨.pure, .seq (.ops [g0 (.mv 4 (.c (.str []))), g0 (.mv 5 (.c (.str []))), g0 (.mv 6 (.c (.bool false)))])
  (.seq (.ops [g0 (.mv 7 (.t 0)), g0 (.mv 8 (.t 1)), g0 (.call (some 9) 90 [(.t 7), (.t 8)]), g0 (.ext 10 (.t 9) 0), g0 (.ext 11 (.t 9) 1), g0 (.ext 12 (.t 9) 2), g0 (.mv 4 (.t 10)), g0 (.mv 5 (.t 11)), g0 (.mv 6 (.t 12))])
  (.ret)),
  [.t 4, .t 5, .t 6]⟩
def L57_0 : Ic := .seq (.ops [g0 (.bin 70 .lss (.t 69) (.t 68))])
  (.seq (.cond (.t 70) (.skip)
  (.exit 1))
  (.seq (.block 2 (.seq (.ops [g0 (.idxA 71 (.t 67) (.t 69) 1 none none), g0 (.load 72 (.t 71) none none false), g0 (.mv 6 (.t 72))])
  (.seq (.ops [g0 (.mv 73 (.t 3)), g0 (.mv 74 (.t 6)), g0 (.call (some 75) 97 [(.t 74)]), g0 (.bin 76 .eql (.t 73) (.t 75))])
  (.cond (.t 76) (.seq (.ops [g0 (.mv 77 (.t 6)), g0 (.build 78 [(.int .i64 0), (.str []), (.int .i64 0), (.int .i64 0), (.int .i64 0), (.str []), .nils, (.int .i64 0)] [(0, 1, (.t 77))]), g0 (.store (.t 2) (.t 78) 8 (some 2))])
  (.ret))
  (.skip)))))
  (.ops [g0 (.bin 79 .add (.t 69) (.c (.int .i64 1))), g0 (.mv 69 (.t 79))])))
/-- (*notary/script.reader).op -/
def F57 : IFunc := ⟨.fre, .seq (.ops [g0 (.boxL 2 8 none [(.int .i64 0), (.str []), (.int .i64 0), (.int .i64 0), (.int .i64 0), (.str []), .nils, (.int .i64 0)])])
  (.seq (.ops [g0 (.mv 7 (.t 0)), g0 (.call (some 8) 91 [(.t 7)]), g0 (.mv 3 (.t 8))])
  (.seq (.seq (.ops [g0 (.mv 9 (.t 3))])
  (.block 0 (.seq (.ops [g0 (.bin 11 .eql (.t 9) (.c (.str [108, 111, 97, 100]))), g0 (.mv 10 (.t 11))])
  (.cond (.t 10) (.seq (.ops [g0 (.mv 12 (.t 0)), g0 (.mv 13 (.t 0)), g0 (.mkfn 14 93 [(.t 13)] []), g0 (.call (some 15) 92 [(.t 12), (.t 14)]), g0 (.build 16 [(.int .i64 0), (.str []), (.int .i64 0), (.int .i64 0), (.int .i64 0), (.str []), .nils, (.int .i64 0)] [(0, 1, (.c (.int .i64 1))), (1, 1, (.t 15))]), g0 (.store (.t 2) (.t 16) 8 (some 2))])
  (.ret))
  (.seq (.ops [g0 (.bin 18 .eql (.t 9) (.c (.str [110, 111, 116, 101]))), g0 (.mv 17 (.t 18))])
  (.cond (.t 17) (.seq (.ops [g0 (.mv 19 (.t 0)), g0 (.mv 20 (.t 0)), g0 (.mkfn 21 93 [(.t 20)] []), g0 (.call (some 22) 92 [(.t 19), (.t 21)]), g0 (.build 23 [(.int .i64 0), (.str []), (.int .i64 0), (.int .i64 0), (.int .i64 0), (.str []), .nils, (.int .i64 0)] [(0, 1, (.c (.int .i64 5))), (1, 1, (.t 22))]), g0 (.store (.t 2) (.t 23) 8 (some 2))])
  (.ret))
  (.seq (.ops [g0 (.bin 25 .eql (.t 9) (.c (.str [114, 101, 102, 97, 99, 116, 111, 114]))), g0 (.mv 24 (.t 25))])
  (.cond (.t 24) (.seq (.ops [g0 (.mv 26 (.t 0)), g0 (.call (some 27) 94 [(.t 26)]), g0 (.build 28 [(.int .i64 0), (.str []), (.int .i64 0), (.int .i64 0), (.int .i64 0), (.str []), .nils, (.int .i64 0)] [(0, 1, (.c (.int .i64 2))), (2, 5, (.t 27))]), g0 (.store (.t 2) (.t 28) 8 (some 2))])
  (.ret))
  (.seq (.ops [g0 (.bin 30 .eql (.t 9) (.c (.str [99, 104, 101, 99, 107]))), g0 (.mv 29 (.t 30))])
  (.cond (.t 29) (.seq (.ops [g0 (.build 31 [(.int .i64 0), (.str []), (.int .i64 0), (.int .i64 0), (.int .i64 0), (.str []), .nils, (.int .i64 0)] [(0, 1, (.c (.int .i64 3)))]), g0 (.boxL 4 8 none [(.int .i64 0), (.str []), (.int .i64 0), (.int .i64 0), (.int .i64 0), (.str []), .nils, (.int .i64 0)]), g0 (.store (.t 4) (.t 31) 8 (some 4))])
  (.seq (.seq (.ops [g0 (.mv 32 (.t 0)), g0 (.nilc (some 33) (.t 32)), g0 (.fldA 34 (.t 33) 1 none), g0 (.load 35 (.t 34) none none false), g0 (.mv 36 (.t 0)), g0 (.nilc (some 37) (.t 36)), g0 (.fldA 38 (.t 37) 0 none), g0 (.load 39 (.t 38) none none false), g0 (.len 40 .str (.t 39) false), g0 (.bin 41 .lss (.t 35) (.t 40))])
  (.cond (.t 41) (.seq (.ops [g0 (.mv 42 (.t 0)), g0 (.mv 43 (.t 0)), g0 (.mkfn 44 93 [(.t 43)] []), g0 (.call (some 45) 92 [(.t 42), (.t 44)]), g0 (.fldA 46 (.t 4) 1 none), g0 (.store (.t 46) (.t 45) 1 (some 4))])
  (.ops [g0 (.mv 47 (.t 0)), g0 (.mv 48 (.t 0)), g0 (.nilc (some 49) (.t 48)), g0 (.fldA 50 (.t 49) 2 none), g0 (.load 51 (.t 50) none none false), g0 (.mv 52 (.t 51)), g1 52 true (.fldA 53 (.t 4) 1 none), g1 52 true (.load 54 (.t 53) none (some 4) false), g1 52 true (.bin 55 .neq (.t 54) (.c (.str []))), g0 (.pick 56 (.t 52) (.t 55) (.c (.bool false))), g0 (.nilc (some 57) (.t 47)), g0 (.fldA 58 (.t 57) 2 none), g0 (.store (.t 58) (.t 56) 1 none)]))
  (.skip)))
  (.seq (.ops [g0 (.load 59 (.t 4) (some 8) (some 4) false), g0 (.store (.t 2) (.t 59) 8 (some 2))])
  (.ret))))
  (.seq (.ops [g0 (.bin 61 .eql (.t 9) (.c (.str [99, 114, 97, 115, 104]))), g0 (.mv 60 (.t 61))])
  (.cond (.t 60) (.seq (.ops [g0 (.mv 62 (.t 0)), g0 (.mv 63 (.t 0)), g0 (.mkfn 64 96 [(.t 63)] []), g0 (.call (some 65) 95 [(.t 62), (.t 64)]), g0 (.build 66 [(.int .i64 0), (.str []), (.int .i64 0), (.int .i64 0), (.int .i64 0), (.str []), .nils, (.int .i64 0)] [(0, 1, (.c (.int .i64 7))), (7, 1, (.t 65))]), g0 (.store (.t 2) (.t 66) 8 (some 2))])
  (.ret))
  (.skip)))))))))))))
  (.seq (.seq (.ops [g0 (.bsl 67 1 false [(.c (.int .i64 4)), (.c (.int .i64 6)), (.c (.int .i64 8)), (.c (.int .i64 9))]), g0 (.len 68 .slice (.t 67) false), g0 (.mv 69 (.c (.int .i64 0)))])
  (.block 1 (.loop L57_0)))
  (.seq (.ops [g0 (.mv 80 (.t 0)), g0 (.nilc (some 81) (.t 80)), g0 (.fldA 82 (.t 81) 2 none), g0 (.store (.t 82) (.c (.bool false)) 1 none)])
  (.seq (.ops [g0 (.build 83 [(.int .i64 0), (.str []), (.int .i64 0), (.int .i64 0), (.int .i64 0), (.str []), .nils, (.int .i64 0)] []), g0 (.store (.t 2) (.t 83) 8 (some 2))])
  (.ret)))))),
  [.cell 2 (some 8) (some 2)]⟩
def L58_0 : Ic := .seq (.ops [g0 (.bin 62 .lss (.t 61) (.t 60))])
  (.seq (.cond (.t 62) (.skip)
  (.exit 1))
  (.seq (.block 2 (.seq (.ops [g0 (.idxA 63 (.t 59) (.t 61) 1 none none), g0 (.load 64 (.t 63) none none false), g0 (.mv 8 (.t 64))])
  (.ops [g0 (.mv 65 (.t 6)), g0 (.mv 66 (.t 8)), g0 (.call (some 67) 98 [(.t 66)]), g0 (.bsl 68 1 false [(.t 67)]), g0 (.app 69 (.t 65) (.t 68) 1), g0 (.mv 6 (.t 69))])))
  (.ops [g0 (.bin 70 .add (.t 61) (.c (.int .i64 1))), g0 (.mv 61 (.t 70))])))
/-- notary/script.line -/
def F58 : IFunc := ⟨.pure, .seq (.ops [g0 (.boxL 1 8 (some (.t 0)) []), g0 (.mv 2 (.c .nils)), g0 (.boxL 3 8 none [(.int .i64 0), (.str []), (.int .i64 0), (.int .i64 0), (.int .i64 0), (.str []), .nils, (.int .i64 0)]), g0 (.mv 4 (.c (.bool false)))])
  (.seq (.ops [g0 (.fldA 10 (.t 1) 0 none), g0 (.load 11 (.t 10) none (some 1) false), g0 (.build 12 [(.int .i64 0), (.str []), (.int .i64 0), (.int .i64 0), (.int .i64 0), (.str []), .nils, (.int .i64 0)] [(0, 1, (.t 11))]), g0 (.boxL 5 8 none [(.int .i64 0), (.str []), (.int .i64 0), (.int .i64 0), (.int .i64 0), (.str []), .nils, (.int .i64 0)]), g0 (.store (.t 5) (.t 12) 8 (some 5))])
  (.seq (.seq (.ops [g0 (.fldA 13 (.t 1) 0 none), g0 (.load 14 (.t 13) none (some 1) false)])
  (.block 0 (.seq (.ops [g0 (.bin 16 .eql (.t 14) (.c (.int .i64 1))), g0 (.mv 15 (.t 16))])
  (.cond (.t 15) (.seq (.ops [g0 (.fldA 17 (.t 1) 1 none), g0 (.load 18 (.t 17) none (some 1) false), g0 (.fldA 19 (.t 5) 1 none), g0 (.store (.t 19) (.t 18) 1 (some 5))])
  (.seq (.ops [g0 (.fldA 20 (.t 1) 1 none), g0 (.load 21 (.t 20) none (some 1) false), g0 (.call (some 22) 27 [(.t 21)]), g0 (.bsl 23 1 false [(.c (.str [108, 111, 97, 100])), (.t 22)]), g0 (.load 24 (.t 5) (some 8) (some 5) false), g0 (.mv 2 (.t 23)), g0 (.store (.t 3) (.t 24) 8 (some 3)), g0 (.mv 4 (.c (.bool true)))])
  (.ret)))
  (.seq (.ops [g0 (.bin 26 .eql (.t 14) (.c (.int .i64 5))), g0 (.mv 25 (.t 26))])
  (.cond (.t 25) (.seq (.ops [g0 (.fldA 27 (.t 1) 1 none), g0 (.load 28 (.t 27) none (some 1) false), g0 (.fldA 29 (.t 5) 1 none), g0 (.store (.t 29) (.t 28) 1 (some 5))])
  (.seq (.ops [g0 (.fldA 30 (.t 1) 1 none), g0 (.load 31 (.t 30) none (some 1) false), g0 (.call (some 32) 27 [(.t 31)]), g0 (.bsl 33 1 false [(.c (.str [110, 111, 116, 101])), (.t 32)]), g0 (.load 34 (.t 5) (some 8) (some 5) false), g0 (.mv 2 (.t 33)), g0 (.store (.t 3) (.t 34) 8 (some 3)), g0 (.mv 4 (.c (.bool true)))])
  (.ret)))
  (.seq (.ops [g0 (.bin 36 .eql (.t 14) (.c (.int .i64 2))), g0 (.mv 35 (.t 36))])
  (.cond (.t 35) (.seq (.ops [g0 (.fldA 37 (.t 1) 2 (some 5)), g0 (.load 38 (.t 37) (some 5) (some 1) false), g0 (.fldA 39 (.t 5) 2 (some 5)), g0 (.store (.t 39) (.t 38) 5 (some 5))])
  (.seq (.ops [g0 (.fldA 40 (.t 1) 2 (some 5)), g0 (.fldA 41 (.t 40) 0 none), g0 (.load 42 (.t 41) none (some 1) false), g0 (.call (some 43) 98 [(.t 42)]), g0 (.fldA 44 (.t 1) 2 (some 5)), g0 (.fldA 45 (.t 44) 1 none), g0 (.load 46 (.t 45) none (some 1) false), g0 (.call (some 47) 98 [(.t 46)]), g0 (.fldA 48 (.t 1) 2 (some 5)), g0 (.fldA 49 (.t 48) 2 none), g0 (.load 50 (.t 49) none (some 1) false), g0 (.call (some 51) 98 [(.t 50)]), g0 (.fldA 52 (.t 1) 2 (some 5)), g0 (.fldA 53 (.t 52) 3 none), g0 (.load 54 (.t 53) none (some 1) false), g0 (.call (some 55) 27 [(.t 54)]), g0 (.bsl 56 1 false [(.c (.str [114, 101, 102, 97, 99, 116, 111, 114])), (.t 43), (.t 47), (.t 51), (.t 55)]), g0 (.mv 6 (.t 56))])
  (.seq (.seq (.ops [g0 (.fldA 57 (.t 1) 2 (some 5)), g0 (.fldA 58 (.t 57) 4 none), g0 (.load 59 (.t 58) none (some 1) false), g0 (.len 60 .slice (.t 59) false), g0 (.mv 61 (.c (.int .i64 0)))])
  (.block 1 (.loop L58_0)))
  (.seq (.ops [g0 (.mv 71 (.t 6)), g0 (.load 72 (.t 5) (some 8) (some 5) false), g0 (.mv 2 (.t 71)), g0 (.store (.t 3) (.t 72) 8 (some 3)), g0 (.mv 4 (.c (.bool true)))])
  (.ret)))))
  (.seq (.ops [g0 (.bin 74 .eql (.t 14) (.c (.int .i64 3))), g0 (.mv 73 (.t 74))])
  (.cond (.t 73) (.seq (.ops [g0 (.fldA 75 (.t 1) 1 none), g0 (.load 76 (.t 75) none (some 1) false), g0 (.fldA 77 (.t 5) 1 none), g0 (.store (.t 77) (.t 76) 1 (some 5))])
  (.seq (.seq (.ops [g0 (.fldA 78 (.t 1) 1 none), g0 (.load 79 (.t 78) none (some 1) false), g0 (.bin 80 .eql (.t 79) (.c (.str [])))])
  (.cond (.t 80) (.seq (.ops [g0 (.bsl 81 1 false [(.c (.str [99, 104, 101, 99, 107]))]), g0 (.load 82 (.t 5) (some 8) (some 5) false), g0 (.mv 2 (.t 81)), g0 (.store (.t 3) (.t 82) 8 (some 3)), g0 (.mv 4 (.c (.bool true)))])
  (.ret))
  (.skip)))
  (.seq (.ops [g0 (.fldA 83 (.t 1) 1 none), g0 (.load 84 (.t 83) none (some 1) false), g0 (.call (some 85) 27 [(.t 84)]), g0 (.bsl 86 1 false [(.c (.str [99, 104, 101, 99, 107])), (.t 85)]), g0 (.load 87 (.t 5) (some 8) (some 5) false), g0 (.mv 2 (.t 86)), g0 (.store (.t 3) (.t 87) 8 (some 3)), g0 (.mv 4 (.c (.bool true)))])
  (.ret))))
  (.seq (.ops [g0 (.bin 89 .eql (.t 14) (.c (.int .i64 7))), g0 (.mv 88 (.t 89))])
  (.cond (.t 88) (.seq (.ops [g0 (.fldA 90 (.t 1) 7 none), g0 (.load 91 (.t 90) none (some 1) false), g0 (.fldA 92 (.t 5) 7 none), g0 (.store (.t 92) (.t 91) 1 (some 5))])
  (.seq (.ops [g0 (.fldA 93 (.t 1) 7 none), g0 (.load 94 (.t 93) none (some 1) false), g0 (.call (some 95) 98 [(.t 94)]), g0 (.bsl 96 1 false [(.c (.str [99, 114, 97, 115, 104])), (.t 95)]), g0 (.load 97 (.t 5) (some 8) (some 5) false), g0 (.mv 2 (.t 96)), g0 (.store (.t 3) (.t 97) 8 (some 3)), g0 (.mv 4 (.c (.bool true)))])
  (.ret)))
  (.skip)))))))))))))
  (.seq (.ops [g0 (.fldA 98 (.t 1) 0 none), g0 (.load 99 (.t 98) none (some 1) false), g0 (.call (some 100) 97 [(.t 99)]), g0 (.mv 9 (.t 100))])
  (.seq (.ops [g0 (.mv 101 (.t 9)), g0 (.bsl 102 1 false [(.t 101)]), g0 (.load 103 (.t 5) (some 8) (some 5) false), g0 (.mv 104 (.t 9)), g0 (.bin 105 .neq (.t 104) (.c (.str []))), g0 (.mv 2 (.t 102)), g0 (.store (.t 3) (.t 103) 8 (some 3)), g0 (.mv 4 (.t 105))])
  (.ret))))),
  [.t 2, .cell 3 (some 8) (some 3), .t 4]⟩
/-- notary/script.same -/
def F59 : IFunc := ⟨.pure, .seq (.ops [g0 (.boxL 2 8 (some (.t 0)) []), g0 (.boxL 3 8 (some (.t 1)) []), g0 (.mv 4 (.c (.bool false)))])
  (.seq (.ops [g0 (.fldA 5 (.t 2) 0 none), g0 (.load 6 (.t 5) none (some 2) false), g0 (.fldA 7 (.t 3) 0 none), g0 (.load 8 (.t 7) none (some 3) false), g0 (.bin 9 .eql (.t 6) (.t 8)), g0 (.mv 10 (.t 9)), g1 10 true (.fldA 11 (.t 2) 1 none), g1 10 true (.load 12 (.t 11) none (some 2) false), g1 10 true (.fldA 13 (.t 3) 1 none), g1 10 true (.load 14 (.t 13) none (some 3) false), g1 10 true (.bin 15 .eql (.t 12) (.t 14)), g0 (.pick 16 (.t 10) (.t 15) (.c (.bool false))), g0 (.mv 17 (.t 16)), g1 17 true (.fldA 18 (.t 2) 7 none), g1 17 true (.load 19 (.t 18) none (some 2) false), g1 17 true (.fldA 20 (.t 3) 7 none), g1 17 true (.load 21 (.t 20) none (some 3) false), g1 17 true (.bin 22 .eql (.t 19) (.t 21)), g0 (.pick 23 (.t 17) (.t 22) (.c (.bool false))), g0 (.mv 24 (.t 23)), g1 24 true (.fldA 25 (.t 2) 2 (some 5)), g1 24 true (.load 26 (.t 25) (some 5) (some 2) false), g1 24 true (.fldA 27 (.t 3) 2 (some 5)), g1 24 true (.load 28 (.t 27) (some 5) (some 3) false), g1 24 true (.call (some 29) 99 [(.t 26), (.t 28)]), g0 (.pick 30 (.t 24) (.t 29) (.c (.bool false))), g0 (.mv 4 (.t 30))])
  (.ret)),
  [.t 4]⟩
/-- strings.Join -/
def F60 : IFunc := ⟨.raw, .prim 11,
  [.t 0]⟩
/-- notary/notaryref51.Line -/
def F61 : IFunc := ⟨.pure, .seq (.ops [g0 (.boxL 1 8 (some (.t 0)) []), g0 (.mv 2 (.c (.str []))), g0 (.mv 3 (.c (.int .i64 0)))])
  (.seq (.seq (.ops [g0 (.fldA 6 (.t 1) 0 none), g0 (.load 7 (.t 6) none (some 1) false), g0 (.bin 8 .lss (.t 7) (.c (.int .i64 1))), g0 (.mv 9 (.t 8)), g1 9 false (.fldA 10 (.t 1) 0 none), g1 9 false (.load 11 (.t 10) none (some 1) false), g1 9 false (.bin 12 .gtr (.t 11) (.c (.int .i64 9))), g0 (.pick 13 (.t 9) (.c (.bool true)) (.t 12))])
  (.cond (.t 13) (.seq (.ops [g0 (.mv 2 (.c (.str []))), g0 (.mv 3 (.c (.int .i64 23)))])
  (.ret))
  (.skip)))
  (.seq (.ops [g0 (.fldA 14 (.t 1) 0 none), g0 (.load 15 (.t 14) none (some 1) false), g0 (.bin 16 .eql (.t 15) (.c (.int .i64 1))), g0 (.mv 17 (.t 16)), g1 17 false (.fldA 18 (.t 1) 0 none), g1 17 false (.load 19 (.t 18) none (some 1) false), g1 17 false (.bin 20 .eql (.t 19) (.c (.int .i64 5))), g0 (.pick 21 (.t 17) (.c (.bool true)) (.t 20)), g0 (.mv 22 (.t 21)), g1 22 false (.fldA 23 (.t 1) 0 none), g1 22 false (.load 24 (.t 23) none (some 1) false), g1 22 false (.bin 25 .eql (.t 24) (.c (.int .i64 3))), g0 (.pick 26 (.t 22) (.c (.bool true)) (.t 25)), g0 (.mv 4 (.t 26))])
  (.seq (.seq (.ops [g0 (.mv 27 (.t 4)), g0 (.un 28 .not (.t 27)), g0 (.mv 29 (.t 28)), g1 29 true (.fldA 30 (.t 1) 1 none), g1 29 true (.load 31 (.t 30) none (some 1) false), g1 29 true (.bin 32 .neq (.t 31) (.c (.str []))), g0 (.pick 33 (.t 29) (.t 32) (.c (.bool false))), g0 (.mv 34 (.t 33)), g1 34 false (.fldA 35 (.t 1) 0 none), g1 34 false (.load 36 (.t 35) none (some 1) false), g1 34 false (.bin 37 .neq (.t 36) (.c (.int .i64 2))), g1 34 false (.mv 38 (.t 37)), g1 38 true (.fldA 39 (.t 1) 2 (some 5)), g1 38 true (.load 40 (.t 39) (some 5) (some 1) false), g1 38 true (.call (some 41) 101 [(.t 40)]), g1 38 true (.un 42 .not (.t 41)), g1 34 false (.pick 43 (.t 38) (.t 42) (.c (.bool false))), g0 (.pick 44 (.t 34) (.c (.bool true)) (.t 43)), g0 (.mv 45 (.t 44)), g1 45 false (.fldA 46 (.t 1) 0 none), g1 45 false (.load 47 (.t 46) none (some 1) false), g1 45 false (.bin 48 .neq (.t 47) (.c (.int .i64 7))), g1 45 false (.mv 49 (.t 48)), g1 49 true (.fldA 50 (.t 1) 7 none), g1 49 true (.load 51 (.t 50) none (some 1) false), g1 49 true (.bin 52 .neq (.t 51) (.c (.int .i64 0))), g1 45 false (.pick 53 (.t 49) (.t 52) (.c (.bool false))), g0 (.pick 54 (.t 45) (.c (.bool true)) (.t 53))])
  (.cond (.t 54) (.seq (.ops [g0 (.mv 2 (.c (.str []))), g0 (.mv 3 (.c (.int .i64 2)))])
  (.ret))
  (.skip)))
  (.seq (.seq (.ops [g0 (.fldA 55 (.t 1) 0 none), g0 (.load 56 (.t 55) none (some 1) false), g0 (.bin 57 .eql (.t 56) (.c (.int .i64 1)))])
  (.cond (.t 57) (.seq (.ops [g0 (.fldA 58 (.t 1) 1 none), g0 (.load 59 (.t 58) none (some 1) false), g0 (.call (some 60) 28 [(.t 59)]), g0 (.bin 61 .add (.c (.str [108, 111, 97, 100, 32])) (.t 60)), g0 (.mv 2 (.t 61)), g0 (.mv 3 (.c (.int .i64 0)))])
  (.ret))
  (.skip)))
  (.seq (.seq (.ops [g0 (.fldA 62 (.t 1) 0 none), g0 (.load 63 (.t 62) none (some 1) false), g0 (.bin 64 .eql (.t 63) (.c (.int .i64 5)))])
  (.cond (.t 64) (.seq (.ops [g0 (.fldA 65 (.t 1) 1 none), g0 (.load 66 (.t 65) none (some 1) false), g0 (.call (some 67) 28 [(.t 66)]), g0 (.bin 68 .add (.c (.str [110, 111, 116, 101, 32])) (.t 67)), g0 (.mv 2 (.t 68)), g0 (.mv 3 (.c (.int .i64 0)))])
  (.ret))
  (.skip)))
  (.seq (.seq (.ops [g0 (.fldA 69 (.t 1) 0 none), g0 (.load 70 (.t 69) none (some 1) false), g0 (.bin 71 .eql (.t 70) (.c (.int .i64 3))), g0 (.mv 72 (.t 71)), g1 72 true (.fldA 73 (.t 1) 1 none), g1 72 true (.load 74 (.t 73) none (some 1) false), g1 72 true (.bin 75 .eql (.t 74) (.c (.str []))), g0 (.pick 76 (.t 72) (.t 75) (.c (.bool false)))])
  (.cond (.t 76) (.seq (.ops [g0 (.mv 2 (.c (.str [99, 104, 101, 99, 107]))), g0 (.mv 3 (.c (.int .i64 0)))])
  (.ret))
  (.skip)))
  (.seq (.seq (.ops [g0 (.fldA 77 (.t 1) 0 none), g0 (.load 78 (.t 77) none (some 1) false), g0 (.bin 79 .eql (.t 78) (.c (.int .i64 3)))])
  (.cond (.t 79) (.seq (.ops [g0 (.fldA 80 (.t 1) 1 none), g0 (.load 81 (.t 80) none (some 1) false), g0 (.call (some 82) 28 [(.t 81)]), g0 (.bin 83 .add (.c (.str [99, 104, 101, 99, 107, 32])) (.t 82)), g0 (.mv 2 (.t 83)), g0 (.mv 3 (.c (.int .i64 0)))])
  (.ret))
  (.skip)))
  (.seq (.seq (.ops [g0 (.fldA 84 (.t 1) 0 none), g0 (.load 85 (.t 84) none (some 1) false), g0 (.bin 86 .eql (.t 85) (.c (.int .i64 7)))])
  (.cond (.t 86) (.seq (.ops [g0 (.fldA 87 (.t 1) 7 none), g0 (.load 88 (.t 87) none (some 1) false), g0 (.call (some 89) 102 [(.t 88)]), g0 (.bin 90 .add (.c (.str [99, 114, 97, 115, 104, 32])) (.t 89)), g0 (.mv 2 (.t 90)), g0 (.mv 3 (.c (.int .i64 0)))])
  (.ret))
  (.skip)))
  (.seq (.seq (.ops [g0 (.fldA 91 (.t 1) 0 none), g0 (.load 92 (.t 91) none (some 1) false), g0 (.bin 93 .eql (.t 92) (.c (.int .i64 2)))])
  (.cond (.t 93) (.seq (.ops [g0 (.fldA 94 (.t 1) 2 (some 5)), g0 (.load 95 (.t 94) (some 5) (some 1) false), g0 (.boxL 5 5 none [(.int .i64 0), (.int .i64 0), (.int .i64 0), (.str []), .nils]), g0 (.store (.t 5) (.t 95) 5 (some 5))])
  (.seq (.ops [g0 (.fldA 96 (.t 5) 0 none), g0 (.load 97 (.t 96) none (some 5) false), g0 (.call (some 98) 102 [(.t 97)]), g0 (.bin 99 .add (.c (.str [114, 101, 102, 97, 99, 116, 111, 114, 32])) (.t 98)), g0 (.bin 100 .add (.t 99) (.c (.str [32]))), g0 (.fldA 101 (.t 5) 1 none), g0 (.load 102 (.t 101) none (some 5) false), g0 (.call (some 103) 102 [(.t 102)]), g0 (.bin 104 .add (.t 100) (.t 103)), g0 (.bin 105 .add (.t 104) (.c (.str [32]))), g0 (.fldA 106 (.t 5) 2 none), g0 (.load 107 (.t 106) none (some 5) false), g0 (.call (some 108) 102 [(.t 107)]), g0 (.bin 109 .add (.t 105) (.t 108)), g0 (.bin 110 .add (.t 109) (.c (.str [32]))), g0 (.fldA 111 (.t 5) 3 none), g0 (.load 112 (.t 111) none (some 5) false), g0 (.call (some 113) 28 [(.t 112)]), g0 (.bin 114 .add (.t 110) (.t 113)), g0 (.fldA 115 (.t 5) 4 none), g0 (.load 116 (.t 115) none (some 5) false), g0 (.call (some 117) 103 [(.t 116)]), g0 (.bin 118 .add (.t 114) (.t 117)), g0 (.mv 2 (.t 118)), g0 (.mv 3 (.c (.int .i64 0)))])
  (.ret)))
  (.skip)))
  (.seq (.ops [g0 (.fldA 119 (.t 1) 0 none), g0 (.load 120 (.t 119) none (some 1) false), g0 (.call (some 121) 104 [(.t 120)]), g0 (.mv 2 (.t 121)), g0 (.mv 3 (.c (.int .i64 0)))])
  (.ret))))))))))),
  [.t 2, .t 3]⟩
/-- notary/notaryref51.Same -/
def F62 : IFunc := ⟨.pure, .seq (.ops [g0 (.boxL 2 8 (some (.t 0)) []), g0 (.boxL 3 8 (some (.t 1)) []), g0 (.mv 4 (.c (.bool false)))])
  (.seq (.ops [g0 (.fldA 5 (.t 2) 0 none), g0 (.load 6 (.t 5) none (some 2) false), g0 (.fldA 7 (.t 3) 0 none), g0 (.load 8 (.t 7) none (some 3) false), g0 (.bin 9 .eql (.t 6) (.t 8)), g0 (.mv 10 (.t 9)), g1 10 true (.fldA 11 (.t 2) 1 none), g1 10 true (.load 12 (.t 11) none (some 2) false), g1 10 true (.fldA 13 (.t 3) 1 none), g1 10 true (.load 14 (.t 13) none (some 3) false), g1 10 true (.bin 15 .eql (.t 12) (.t 14)), g0 (.pick 16 (.t 10) (.t 15) (.c (.bool false))), g0 (.mv 17 (.t 16)), g1 17 true (.fldA 18 (.t 2) 7 none), g1 17 true (.load 19 (.t 18) none (some 2) false), g1 17 true (.fldA 20 (.t 3) 7 none), g1 17 true (.load 21 (.t 20) none (some 3) false), g1 17 true (.bin 22 .eql (.t 19) (.t 21)), g0 (.pick 23 (.t 17) (.t 22) (.c (.bool false))), g0 (.mv 24 (.t 23)), g1 24 true (.fldA 25 (.t 2) 2 (some 5)), g1 24 true (.fldA 26 (.t 25) 0 none), g1 24 true (.load 27 (.t 26) none (some 2) false), g1 24 true (.fldA 28 (.t 3) 2 (some 5)), g1 24 true (.fldA 29 (.t 28) 0 none), g1 24 true (.load 30 (.t 29) none (some 3) false), g1 24 true (.bin 31 .eql (.t 27) (.t 30)), g0 (.pick 32 (.t 24) (.t 31) (.c (.bool false))), g0 (.mv 33 (.t 32)), g1 33 true (.fldA 34 (.t 2) 2 (some 5)), g1 33 true (.fldA 35 (.t 34) 1 none), g1 33 true (.load 36 (.t 35) none (some 2) false), g1 33 true (.fldA 37 (.t 3) 2 (some 5)), g1 33 true (.fldA 38 (.t 37) 1 none), g1 33 true (.load 39 (.t 38) none (some 3) false), g1 33 true (.bin 40 .eql (.t 36) (.t 39)), g0 (.pick 41 (.t 33) (.t 40) (.c (.bool false))), g0 (.mv 42 (.t 41)), g1 42 true (.fldA 43 (.t 2) 2 (some 5)), g1 42 true (.fldA 44 (.t 43) 2 none), g1 42 true (.load 45 (.t 44) none (some 2) false), g1 42 true (.fldA 46 (.t 3) 2 (some 5)), g1 42 true (.fldA 47 (.t 46) 2 none), g1 42 true (.load 48 (.t 47) none (some 3) false), g1 42 true (.bin 49 .eql (.t 45) (.t 48)), g0 (.pick 50 (.t 42) (.t 49) (.c (.bool false))), g0 (.mv 51 (.t 50)), g1 51 true (.fldA 52 (.t 2) 2 (some 5)), g1 51 true (.fldA 53 (.t 52) 3 none), g1 51 true (.load 54 (.t 53) none (some 2) false), g1 51 true (.fldA 55 (.t 3) 2 (some 5)), g1 51 true (.fldA 56 (.t 55) 3 none), g1 51 true (.load 57 (.t 56) none (some 3) false), g1 51 true (.bin 58 .eql (.t 54) (.t 57)), g0 (.pick 59 (.t 51) (.t 58) (.c (.bool false))), g0 (.mv 60 (.t 59)), g1 60 true (.fldA 61 (.t 2) 2 (some 5)), g1 60 true (.fldA 62 (.t 61) 4 none), g1 60 true (.load 63 (.t 62) none (some 2) false), g1 60 true (.fldA 64 (.t 3) 2 (some 5)), g1 60 true (.fldA 65 (.t 64) 4 none), g1 60 true (.load 66 (.t 65) none (some 3) false), g1 60 true (.call (some 67) 105 [(.t 63), (.t 66)]), g0 (.pick 68 (.t 60) (.t 67) (.c (.bool false))), g0 (.mv 4 (.t 68))])
  (.ret)),
  [.t 4]⟩
def L63_0 : Ic := .seq (.seq (.ops [g0 (.mv 11 (.t 4)), g0 (.bin 12 .leq (.t 11) (.c (.int .i64 9)))])
  (.cond (.t 12) (.skip)
  (.exit 0)))
  (.seq (.block 1 (.seq (.ops [g0 (.mv 15 (.t 4)), g0 (.call (some 16) 104 [(.t 15)]), g0 (.bin 17 .neq (.t 16) (.c (.str []))), g0 (.mv 18 (.t 17)), g1 18 true (.mv 19 (.t 0)), g1 18 true (.mv 20 (.t 4)), g1 18 true (.call (some 21) 104 [(.t 20)]), g1 18 true (.bin 22 .eql (.t 19) (.t 21)), g0 (.pick 23 (.t 18) (.t 22) (.c (.bool false)))])
  (.cond (.t 23) (.seq (.ops [g0 (.mv 24 (.t 4)), g0 (.build 25 [(.int .i64 0), (.str []), (.int .i64 0), (.int .i64 0), (.int .i64 0), (.str []), .nils, (.int .i64 0)] [(0, 1, (.t 24))]), g0 (.store (.t 2) (.t 25) 8 (some 2)), g0 (.mv 3 (.c (.bool true)))])
  (.ret))
  (.skip))))
  (.ops [g0 (.mv 13 (.t 4)), g0 (.bin 14 .add (.t 13) (.c (.int .i64 1))), g0 (.mv 4 (.t 14))]))
/-- notary/notaryref51.Operation -/
def F63 : IFunc := ⟨.pure, .seq (.ops [g0 (.boxL 2 8 none [(.int .i64 0), (.str []), (.int .i64 0), (.int .i64 0), (.int .i64 0), (.str []), .nils, (.int .i64 0)]), g0 (.mv 3 (.c (.bool false)))])
  (.seq (.seq (.ops [g0 (.mv 4 (.c (.int .i64 1)))])
  (.block 0 (.loop L63_0)))
  (.seq (.seq (.ops [g0 (.mv 26 (.t 0)), g0 (.bin 27 .eql (.t 26) (.c (.str [99, 104, 101, 99, 107])))])
  (.cond (.t 27) (.seq (.ops [g0 (.build 28 [(.int .i64 0), (.str []), (.int .i64 0), (.int .i64 0), (.int .i64 0), (.str []), .nils, (.int .i64 0)] [(0, 1, (.c (.int .i64 3)))]), g0 (.store (.t 2) (.t 28) 8 (some 2)), g0 (.mv 3 (.c (.bool true)))])
  (.ret))
  (.skip)))
  (.seq (.ops [g0 (.mv 29 (.t 0)), g0 (.call (some 30) 106 [(.t 29), (.c (.int .i64 0))]), g0 (.mv 5 (.t 30))])
  (.seq (.ops [g0 (.mv 31 (.t 0)), g0 (.mv 32 (.t 5)), g0 (.slc 33 none (.t 31) none (some (.t 32)) none), g0 (.mv 6 (.t 33))])
  (.seq (.seq (.ops [g0 (.mv 34 (.t 6)), g0 (.bin 35 .eql (.t 34) (.c (.str [114, 101, 102, 97, 99, 116, 111, 114])))])
  (.cond (.t 35) (.seq (.ops [g0 (.mv 36 (.t 0)), g0 (.mv 37 (.t 5)), g0 (.slc 38 none (.t 36) (some (.t 37)) none none), g0 (.call (some 39) 107 [(.t 38)]), g0 (.ext 40 (.t 39) 0), g0 (.ext 41 (.t 39) 1), g0 (.store (.t 2) (.t 40) 8 (some 2)), g0 (.mv 3 (.t 41))])
  (.ret))
  (.skip)))
  (.seq (.seq (.ops [g0 (.mv 42 (.t 6)), g0 (.bin 43 .eql (.t 42) (.c (.str [99, 114, 97, 115, 104]))), g0 (.mv 44 (.t 43)), g1 44 true (.mv 45 (.t 5)), g1 44 true (.mv 46 (.t 0)), g1 44 true (.len 47 .str (.t 46) false), g1 44 true (.bin 48 .lss (.t 45) (.t 47)), g0 (.pick 49 (.t 44) (.t 48) (.c (.bool false)))])
  (.cond (.t 49) (.seq (.ops [g0 (.mv 51 (.t 0)), g0 (.mv 52 (.t 5)), g0 (.bin 53 .add (.t 52) (.c (.int .i64 1))), g0 (.slc 54 none (.t 51) (some (.t 53)) none none), g0 (.call (some 55) 108 [(.t 54)]), g0 (.mv 50 (.t 55)), g0 (.ext 56 (.t 50) 0), g0 (.ext 57 (.t 50) 1), g0 (.mv 7 (.t 56)), g0 (.mv 8 (.t 57))])
  (.seq (.ops [g0 (.mv 58 (.t 7)), g0 (.build 59 [(.int .i64 0), (.str []), (.int .i64 0), (.int .i64 0), (.int .i64 0), (.str []), .nils, (.int .i64 0)] [(0, 1, (.c (.int .i64 7))), (7, 1, (.t 58))]), g0 (.mv 60 (.t 8)), g0 (.store (.t 2) (.t 59) 8 (some 2)), g0 (.mv 3 (.t 60))])
  (.ret)))
  (.skip)))
  (.seq (.ops [g0 (.mv 62 (.t 0)), g0 (.mv 63 (.t 5)), g0 (.slc 64 none (.t 62) (some (.t 63)) none none), g0 (.call (some 65) 109 [(.t 64)]), g0 (.mv 61 (.t 65)), g0 (.ext 66 (.t 61) 0), g0 (.ext 67 (.t 61) 1), g0 (.mv 9 (.t 66)), g0 (.mv 10 (.t 67))])
  (.seq (.seq (.ops [g0 (.mv 68 (.t 6)), g0 (.bin 69 .eql (.t 68) (.c (.str [108, 111, 97, 100])))])
  (.cond (.t 69) (.seq (.ops [g0 (.mv 70 (.t 9)), g0 (.build 71 [(.int .i64 0), (.str []), (.int .i64 0), (.int .i64 0), (.int .i64 0), (.str []), .nils, (.int .i64 0)] [(0, 1, (.c (.int .i64 1))), (1, 1, (.t 70))]), g0 (.mv 72 (.t 10)), g0 (.store (.t 2) (.t 71) 8 (some 2)), g0 (.mv 3 (.t 72))])
  (.ret))
  (.skip)))
  (.seq (.seq (.ops [g0 (.mv 73 (.t 6)), g0 (.bin 74 .eql (.t 73) (.c (.str [110, 111, 116, 101])))])
  (.cond (.t 74) (.seq (.ops [g0 (.mv 75 (.t 9)), g0 (.build 76 [(.int .i64 0), (.str []), (.int .i64 0), (.int .i64 0), (.int .i64 0), (.str []), .nils, (.int .i64 0)] [(0, 1, (.c (.int .i64 5))), (1, 1, (.t 75))]), g0 (.mv 77 (.t 10)), g0 (.store (.t 2) (.t 76) 8 (some 2)), g0 (.mv 3 (.t 77))])
  (.ret))
  (.skip)))
  (.seq (.seq (.ops [g0 (.mv 78 (.t 6)), g0 (.bin 79 .eql (.t 78) (.c (.str [99, 104, 101, 99, 107])))])
  (.cond (.t 79) (.seq (.ops [g0 (.mv 80 (.t 9)), g0 (.build 81 [(.int .i64 0), (.str []), (.int .i64 0), (.int .i64 0), (.int .i64 0), (.str []), .nils, (.int .i64 0)] [(0, 1, (.c (.int .i64 3))), (1, 1, (.t 80))]), g0 (.mv 82 (.t 10)), g0 (.mv 83 (.t 82)), g1 83 true (.mv 84 (.t 9)), g1 83 true (.bin 85 .neq (.t 84) (.c (.str []))), g0 (.pick 86 (.t 83) (.t 85) (.c (.bool false))), g0 (.store (.t 2) (.t 81) 8 (some 2)), g0 (.mv 3 (.t 86))])
  (.ret))
  (.skip)))
  (.seq (.ops [g0 (.build 87 [(.int .i64 0), (.str []), (.int .i64 0), (.int .i64 0), (.int .i64 0), (.str []), .nils, (.int .i64 0)] []), g0 (.store (.t 2) (.t 87) 8 (some 2)), g0 (.mv 3 (.c (.bool false)))])
  (.ret)))))))))))),
  [.cell 2 (some 8) (some 2), .t 3]⟩
/-- notary/notaryref05.Blank -/
def F77 : IFunc := ⟨.pure, .seq (.ops [g0 (.mv 2 (.c (.bool false)))])
  (.seq (.ops [g0 (.mv 3 (.t 0)), g0 (.bin 4 .eql (.t 3) (.c (.int .u8 32))), g0 (.mv 5 (.t 4)), g1 5 false (.mv 6 (.t 0)), g1 5 false (.bin 7 .eql (.t 6) (.c (.int .u8 9))), g0 (.pick 8 (.t 5) (.c (.bool true)) (.t 7)), g0 (.mv 9 (.t 8)), g1 9 false (.mv 10 (.t 0)), g1 9 false (.bin 11 .eql (.t 10) (.c (.int .u8 10))), g0 (.pick 12 (.t 9) (.c (.bool true)) (.t 11)), g0 (.mv 13 (.t 12)), g1 13 false (.mv 14 (.t 0)), g1 13 false (.bin 15 .eql (.t 14) (.c (.int .u8 13))), g0 (.pick 16 (.t 13) (.c (.bool true)) (.t 15)), g0 (.mv 2 (.t 16))])
  (.ret)),
  [.t 2]⟩
/-- notary/notaryref05.Begins -/
def F78 : IFunc := ⟨.pure, .seq (.ops [g0 (.mv 6 (.c (.bool false)))])
  (.seq (.ops [g0 (.mv 7 (.t 2)), g0 (.len 8 .str (.t 7) false), g0 (.mv 9 (.t 0)), g0 (.len 10 .str (.t 9) false), g0 (.mv 11 (.t 1)), g0 (.bin 12 .sub (.t 10) (.t 11)), g0 (.bin 13 .leq (.t 8) (.t 12)), g0 (.mv 14 (.t 13)), g1 14 true (.mv 15 (.t 0)), g1 14 true (.mv 16 (.t 1)), g1 14 true (.mv 17 (.t 1)), g1 14 true (.mv 18 (.t 2)), g1 14 true (.len 19 .str (.t 18) false), g1 14 true (.bin 20 .add (.t 17) (.t 19)), g1 14 true (.slc 21 none (.t 15) (some (.t 16)) (some (.t 20)) none), g1 14 true (.mv 22 (.t 2)), g1 14 true (.bin 23 .eql (.t 21) (.t 22)), g0 (.pick 24 (.t 14) (.t 23) (.c (.bool false))), g0 (.mv 6 (.t 24))])
  (.ret)),
  [.t 6]⟩
/-- notary/notaryref05.Letter -/
def F79 : IFunc := ⟨.pure, .seq (.ops [g0 (.mv 2 (.c (.bool false)))])
  (.seq (.ops [g0 (.mv 3 (.t 0)), g0 (.bin 4 .leq (.c (.int .u8 97)) (.t 3)), g0 (.mv 5 (.t 4)), g1 5 true (.mv 6 (.t 0)), g1 5 true (.bin 7 .leq (.t 6) (.c (.int .u8 122))), g0 (.pick 8 (.t 5) (.t 7) (.c (.bool false))), g0 (.mv 9 (.t 8)), g1 9 false (.mv 10 (.t 0)), g1 9 false (.bin 11 .leq (.c (.int .u8 65)) (.t 10)), g1 9 false (.mv 12 (.t 11)), g1 12 true (.mv 13 (.t 0)), g1 12 true (.bin 14 .leq (.t 13) (.c (.int .u8 90))), g1 9 false (.pick 15 (.t 12) (.t 14) (.c (.bool false))), g0 (.pick 16 (.t 9) (.c (.bool true)) (.t 15)), g0 (.mv 17 (.t 16)), g1 17 false (.mv 18 (.t 0)), g1 17 false (.bin 19 .eql (.t 18) (.c (.int .u8 95))), g0 (.pick 20 (.t 17) (.c (.bool true)) (.t 19)), g0 (.mv 2 (.t 20))])
  (.ret)),
  [.t 2]⟩
/-- notary/notaryref05.Digit -/
def F80 : IFunc := ⟨.pure, .seq (.ops [g0 (.mv 2 (.c (.bool false)))])
  (.seq (.ops [g0 (.mv 3 (.t 0)), g0 (.bin 4 .leq (.c (.int .u8 48)) (.t 3)), g0 (.mv 5 (.t 4)), g1 5 true (.mv 6 (.t 0)), g1 5 true (.bin 7 .leq (.t 6) (.c (.int .u8 57))), g0 (.pick 8 (.t 5) (.t 7) (.c (.bool false))), g0 (.mv 2 (.t 8))])
  (.ret)),
  [.t 2]⟩
def L81_0 : Ic := .seq (.seq (.ops [g0 (.mv 6 (.t 5)), g0 (.mv 7 (.t 1)), g0 (.len 8 .slice (.t 7) false), g0 (.bin 9 .lss (.t 6) (.t 8))])
  (.cond (.t 9) (.skip)
  (.exit 0)))
  (.seq (.block 1 (.seq (.ops [g0 (.mv 12 (.t 1)), g0 (.mv 13 (.t 5)), g0 (.idxA 14 (.t 12) (.t 13) 1 none none), g0 (.load 15 (.t 14) none none false), g0 (.mv 16 (.t 0)), g0 (.bin 17 .eql (.t 15) (.t 16))])
  (.cond (.t 17) (.seq (.ops [g0 (.mv 4 (.c (.bool true)))])
  (.ret))
  (.skip))))
  (.ops [g0 (.mv 10 (.t 5)), g0 (.bin 11 .add (.t 10) (.c (.int .i64 1))), g0 (.mv 5 (.t 11))]))
/-- notary/notaryref05.Among -/
def F81 : IFunc := ⟨.pure, .seq (.ops [g0 (.mv 4 (.c (.bool false)))])
  (.seq (.seq (.ops [g0 (.mv 5 (.c (.int .i64 0)))])
  (.block 0 (.loop L81_0)))
  (.seq (.ops [g0 (.mv 4 (.c (.bool false)))])
  (.ret))),
  [.t 4]⟩
/-- notary/notaryref05.Words -/
def F82 : IFunc := ⟨.pure, .seq (.ops [g0 (.mv 0 (.c .nils))])
  (.seq (.ops [g0 (.bsl 1 1 false [(.c (.str [114, 101, 99])), (.c (.str [99, 111, 110, 115, 116])), (.c (.str [118, 97, 114])), (.c (.str [112, 117, 98])), (.c (.str [102, 110])), (.c (.str [105, 110, 116])), (.c (.str [98, 111, 111, 108])), (.c (.str [108, 101, 116])), (.c (.str [105, 102])), (.c (.str [101, 108, 115, 101])), (.c (.str [119, 104, 105, 108, 101])), (.c (.str [102, 111, 114])), (.c (.str [116, 111])), (.c (.str [112, 114, 105, 110, 116])), (.c (.str [114, 101, 116, 117, 114, 110])), (.c (.str [100, 111])), (.c (.str [116, 114, 117, 101])), (.c (.str [102, 97, 108, 115, 101])), (.c (.str [114, 101, 97, 100])), (.c (.str [110, 101, 119]))]), g0 (.mv 0 (.t 1))])
  (.ret)),
  [.t 0]⟩
def L83_0 : Ic := .seq (.seq (.ops [g0 (.mv 20 (.t 5)), g0 (.mv 21 (.t 0)), g0 (.len 22 .str (.t 21) false), g0 (.bin 23 .lss (.t 20) (.t 22))])
  (.cond (.t 23) (.skip)
  (.exit 0)))
  (.seq (.block 1 (.seq (.ops [g0 (.mv 26 (.t 0)), g0 (.mv 27 (.t 5)), g0 (.idx 28 (.t 26) (.t 27) none 1 none), g0 (.bin 29 .sub (.t 28) (.c (.int .u8 48))), g0 (.conv 30 (.int .i64) (.t 29)), g0 (.mv 6 (.t 30))])
  (.seq (.seq (.ops [g0 (.mv 31 (.t 4)), g0 (.mv 32 (.t 6)), g0 (.bin 33 .sub (.c (.int .i64 9223372036854775807)) (.t 32)), g0 (.bin 34 .quo (.t 33) (.c (.int .i64 10))), g0 (.bin 35 .gtr (.t 31) (.t 34))])
  (.cond (.t 35) (.seq (.ops [g0 (.mv 2 (.c (.int .i64 0))), g0 (.mv 3 (.c (.bool false)))])
  (.ret))
  (.skip)))
  (.ops [g0 (.mv 36 (.t 4)), g0 (.bin 37 .mul (.t 36) (.c (.int .i64 10))), g0 (.mv 38 (.t 6)), g0 (.bin 39 .add (.t 37) (.t 38)), g0 (.mv 4 (.t 39))]))))
  (.ops [g0 (.mv 24 (.t 5)), g0 (.bin 25 .add (.t 24) (.c (.int .i64 1))), g0 (.mv 5 (.t 25))]))
/-- notary/notaryref05.Number -/
def F83 : IFunc := ⟨.pure, .seq (.ops [g0 (.mv 2 (.c (.int .i64 0))), g0 (.mv 3 (.c (.bool false)))])
  (.seq (.seq (.ops [g0 (.mv 7 (.t 0)), g0 (.len 8 .str (.t 7) false), g0 (.bin 9 .eql (.t 8) (.c (.int .i64 0))), g0 (.mv 10 (.t 9)), g1 10 false (.mv 11 (.t 0)), g1 10 false (.len 12 .str (.t 11) false), g1 10 false (.bin 13 .gtr (.t 12) (.c (.int .i64 1))), g1 10 false (.mv 14 (.t 13)), g1 14 true (.mv 15 (.t 0)), g1 14 true (.idx 16 (.t 15) (.c (.int .i64 0)) none 1 none), g1 14 true (.bin 17 .eql (.t 16) (.c (.int .u8 48))), g1 10 false (.pick 18 (.t 14) (.t 17) (.c (.bool false))), g0 (.pick 19 (.t 10) (.c (.bool true)) (.t 18))])
  (.cond (.t 19) (.seq (.ops [g0 (.mv 2 (.c (.int .i64 0))), g0 (.mv 3 (.c (.bool false)))])
  (.ret))
  (.skip)))
  (.seq (.ops [g0 (.mv 4 (.c (.int .i64 0)))])
  (.seq (.seq (.ops [g0 (.mv 5 (.c (.int .i64 0)))])
  (.block 0 (.loop L83_0)))
  (.seq (.ops [g0 (.mv 40 (.t 4)), g0 (.mv 2 (.t 40)), g0 (.mv 3 (.c (.bool true)))])
  (.ret))))),
  [.t 2, .t 3]⟩
/-- notary/notaryref05.Signs -/
def F84 : IFunc := ⟨.pure, .seq (.ops [g0 (.mv 0 (.c .nils))])
  (.seq (.ops [g0 (.bsl 1 1 false [(.c (.str [61, 61])), (.c (.str [33, 61])), (.c (.str [60, 61])), (.c (.str [62, 61])), (.c (.str [38, 38])), (.c (.str [124, 124])), (.c (.str [123])), (.c (.str [125])), (.c (.str [40])), (.c (.str [41])), (.c (.str [91])), (.c (.str [93])), (.c (.str [44])), (.c (.str [59])), (.c (.str [58])), (.c (.str [46])), (.c (.str [61])), (.c (.str [60])), (.c (.str [62])), (.c (.str [43])), (.c (.str [45])), (.c (.str [42])), (.c (.str [47])), (.c (.str [37])), (.c (.str [33])), (.c (.str [64]))]), g0 (.mv 0 (.t 1))])
  (.ret)),
  [.t 0]⟩
def L85_0 : Ic := .seq (.seq (.ops [g0 (.mv 3 (.t 0)), g0 (.nilc (some 4) (.t 3)), g0 (.fldA 5 (.t 4) 1 none), g0 (.load 6 (.t 5) none none false), g0 (.mv 7 (.t 0)), g0 (.nilc (some 8) (.t 7)), g0 (.fldA 9 (.t 8) 0 none), g0 (.load 10 (.t 9) none none false), g0 (.len 11 .str (.t 10) false), g0 (.bin 12 .lss (.t 6) (.t 11))])
  (.cond (.t 12) (.skip)
  (.exit 0)))
  (.block 1 (.seq (.ops [g0 (.mv 13 (.t 0)), g0 (.nilc (some 14) (.t 13)), g0 (.fldA 15 (.t 14) 0 none), g0 (.load 16 (.t 15) none none false), g0 (.mv 17 (.t 0)), g0 (.nilc (some 18) (.t 17)), g0 (.fldA 19 (.t 18) 1 none), g0 (.load 20 (.t 19) none none false), g0 (.idx 21 (.t 16) (.t 20) none 1 none), g0 (.mv 2 (.t 21))])
  (.block 2 (.seq (.ops [g0 (.mv 23 (.t 2)), g0 (.bin 24 .eql (.t 23) (.c (.int .u8 32))), g0 (.mv 25 (.t 24)), g1 25 false (.mv 26 (.t 2)), g1 25 false (.bin 27 .eql (.t 26) (.c (.int .u8 9))), g0 (.pick 28 (.t 25) (.c (.bool true)) (.t 27)), g0 (.mv 29 (.t 28)), g1 29 false (.mv 30 (.t 2)), g1 29 false (.bin 31 .eql (.t 30) (.c (.int .u8 10))), g0 (.pick 32 (.t 29) (.c (.bool true)) (.t 31)), g0 (.mv 33 (.t 32)), g1 33 false (.mv 34 (.t 2)), g1 33 false (.bin 35 .eql (.t 34) (.c (.int .u8 13))), g0 (.pick 36 (.t 33) (.c (.bool true)) (.t 35)), g0 (.mv 22 (.t 36))])
  (.cond (.t 22) (.ops [g0 (.mv 37 (.t 0)), g0 (.nilc (some 38) (.t 37)), g0 (.fldA 39 (.t 38) 1 none), g0 (.load 40 (.t 39) none none false), g0 (.bin 41 .add (.t 40) (.c (.int .i64 1))), g0 (.nilc (some 42) (.t 37)), g0 (.fldA 43 (.t 42) 1 none), g0 (.store (.t 43) (.t 41) 1 none)])
  (.seq (.ops [g0 (.mv 45 (.t 2)), g0 (.bin 46 .eql (.t 45) (.c (.int .u8 47))), g0 (.mv 47 (.t 46)), g1 47 true (.mv 48 (.t 0)), g1 47 true (.call (some 49) 124 [(.t 48), (.c (.int .i64 1))]), g1 47 true (.bin 50 .eql (.t 49) (.c (.int .u8 47))), g0 (.pick 51 (.t 47) (.t 50) (.c (.bool false))), g0 (.mv 44 (.t 51))])
  (.cond (.t 44) (.ops [g0 (.mv 52 (.t 0)), g0 (.mv 53 (.t 0)), g0 (.mkfn 54 126 [(.t 53)] []), g0 (.call (some 55) 125 [(.t 52), (.t 54)])])
  (.ret))))))))
/-- (*notary/lex.reader).skip -/
def F85 : IFunc := ⟨.raw, .block 0 (.loop L85_0),
  []⟩
/-- (*notary/lex.reader).one -/
def F86 : IFunc := ⟨.raw, .seq (.ops [g0 (.mv 2 (.c (.int .i64 0)))])
  (.seq (.ops [g0 (.mv 6 (.t 0)), g0 (.nilc (some 7) (.t 6)), g0 (.fldA 8 (.t 7) 0 none), g0 (.load 9 (.t 8) none none false), g0 (.mv 10 (.t 0)), g0 (.nilc (some 11) (.t 10)), g0 (.fldA 12 (.t 11) 1 none), g0 (.load 13 (.t 12) none none false), g0 (.idx 14 (.t 9) (.t 13) none 1 none), g0 (.mv 3 (.t 14))])
  (.seq (.block 0 (.seq (.ops [g0 (.mv 16 (.t 0)), g0 (.mv 17 (.t 3)), g0 (.call (some 18) 127 [(.t 16), (.t 17)]), g0 (.mv 15 (.t 18))])
  (.cond (.t 15) (.seq (.ops [g0 (.mv 19 (.t 0)), g0 (.call (some 20) 128 [(.t 19)]), g0 (.mv 2 (.t 20))])
  (.ret))
  (.seq (.ops [g0 (.mv 22 (.t 0)), g0 (.mv 23 (.t 3)), g0 (.call (some 24) 129 [(.t 22), (.t 23)]), g0 (.mv 21 (.t 24))])
  (.cond (.t 21) (.seq (.ops [g0 (.mv 25 (.t 0)), g0 (.call (some 26) 130 [(.t 25)]), g0 (.mv 2 (.t 26))])
  (.ret))
  (.skip))))))
  (.seq (.ops [g0 (.mv 27 (.t 3)), g0 (.mv 28 (.t 0)), g0 (.call (some 29) 124 [(.t 28), (.c (.int .i64 1))]), g0 (.call (some 30) 131 [(.t 27), (.t 29)]), g0 (.mv 4 (.t 30))])
  (.seq (.seq (.ops [g0 (.mv 31 (.t 4)), g0 (.bin 32 .eql (.t 31) (.c (.int .i64 0)))])
  (.cond (.t 32) (.seq (.ops [g0 (.mv 2 (.c (.int .i64 4)))])
  (.ret))
  (.skip)))
  (.seq (.ops [g0 (.mv 33 (.t 0)), g0 (.nilc (some 34) (.t 33)), g0 (.fldA 35 (.t 34) 1 none), g0 (.load 36 (.t 35) none none false), g0 (.mv 5 (.t 36))])
  (.seq (.ops [g0 (.mv 37 (.t 0)), g0 (.nilc (some 38) (.t 37)), g0 (.fldA 39 (.t 38) 1 none), g0 (.load 40 (.t 39) none none false), g0 (.mv 41 (.t 4)), g0 (.bin 42 .add (.t 40) (.t 41)), g0 (.nilc (some 43) (.t 37)), g0 (.fldA 44 (.t 43) 1 none), g0 (.store (.t 44) (.t 42) 1 none)])
  (.seq (.ops [g0 (.mv 45 (.t 0)), g0 (.mv 46 (.t 0)), g0 (.nilc (some 47) (.t 46)), g0 (.fldA 48 (.t 47) 0 none), g0 (.load 49 (.t 48) none none false), g0 (.mv 50 (.t 5)), g0 (.mv 51 (.t 0)), g0 (.nilc (some 52) (.t 51)), g0 (.fldA 53 (.t 52) 1 none), g0 (.load 54 (.t 53) none none false), g0 (.slc 55 none (.t 49) (some (.t 50)) (some (.t 54)) none), g0 (.mv 56 (.t 5)), g0 (.call (some 57) 87 [(.t 45), (.c (.int .i64 4)), (.c (.int .i64 0)), (.t 55), (.t 56)])])
  (.seq (.ops [g0 (.mv 2 (.c (.int .i64 0)))])
  (.ret))))))))),
  [.t 2]⟩
/-- (*notary/lex.reader).put -/
def F87 : IFunc := ⟨.raw, .ops [g0 (.mv 10 (.t 0)), g0 (.mv 11 (.t 0)), g0 (.nilc (some 12) (.t 11)), g0 (.fldA 13 (.t 12) 2 none), g0 (.load 14 (.t 13) none none false), g0 (.mv 15 (.t 1)), g0 (.mv 16 (.t 2)), g0 (.mv 17 (.t 3)), g0 (.mv 18 (.t 4)), g0 (.mv 19 (.t 0)), g0 (.nilc (some 20) (.t 19)), g0 (.fldA 21 (.t 20) 1 none), g0 (.load 22 (.t 21) none none false), g0 (.build 23 [(.int .i64 0), (.int .i64 0), (.str []), (.int .i64 0), (.int .i64 0)] [(0, 1, (.t 15)), (1, 1, (.t 16)), (2, 1, (.t 17)), (3, 1, (.t 18)), (4, 1, (.t 22))]), g0 (.bsl 24 5 true [(.t 23)]), g0 (.app 25 (.t 14) (.t 24) 5), g0 (.nilc (some 26) (.t 10)), g0 (.fldA 27 (.t 26) 2 none), g0 (.store (.t 27) (.t 25) 1 none)],
  []⟩
/-- (*strings.Builder).copyCheck -/
def F88 : IFunc := ⟨.raw, .prim 344,
  []⟩
/-- notary/notaryref51.Digit -/
def F89 : IFunc := ⟨.pure, .seq (.ops [g0 (.mv 2 (.c (.int .u8 0)))])
  (.seq (.seq (.ops [g0 (.mv 3 (.t 0)), g0 (.bin 4 .lss (.t 3) (.c (.int .u8 10)))])
  (.cond (.t 4) (.seq (.ops [g0 (.mv 5 (.t 0)), g0 (.bin 6 .add (.c (.int .u8 48)) (.t 5)), g0 (.mv 2 (.t 6))])
  (.ret))
  (.skip)))
  (.seq (.ops [g0 (.mv 7 (.t 0)), g0 (.bin 8 .add (.c (.int .u8 97)) (.t 7)), g0 (.bin 9 .sub (.t 8) (.c (.int .u8 10))), g0 (.mv 2 (.t 9))])
  (.ret))),
  [.t 2]⟩
/-- internal/stringslite.Cut -/
def F90 : IFunc := ⟨.pure, .seq (.ops [g0 (.mv 4 (.c (.str []))), g0 (.mv 5 (.c (.str []))), g0 (.mv 6 (.c (.bool false)))])
  (.seq (.seq (.ops [g0 (.mv 8 (.t 0)), g0 (.mv 9 (.t 1)), g0 (.call (some 10) 133 [(.t 8), (.t 9)]), g0 (.mv 7 (.t 10))])
  (.seq (.ops [g0 (.mv 11 (.t 7)), g0 (.bin 12 .geq (.t 11) (.c (.int .i64 0)))])
  (.cond (.t 12) (.seq (.ops [g0 (.mv 13 (.t 0)), g0 (.mv 14 (.t 7)), g0 (.slc 15 none (.t 13) none (some (.t 14)) none), g0 (.mv 16 (.t 0)), g0 (.mv 17 (.t 7)), g0 (.mv 18 (.t 1)), g0 (.len 19 .str (.t 18) false), g0 (.bin 20 .add (.t 17) (.t 19)), g0 (.slc 21 none (.t 16) (some (.t 20)) none none), g0 (.mv 4 (.t 15)), g0 (.mv 5 (.t 21)), g0 (.mv 6 (.c (.bool true)))])
  (.ret))
  (.skip))))
  (.seq (.ops [g0 (.mv 22 (.t 0)), g0 (.mv 4 (.t 22)), g0 (.mv 5 (.c (.str []))), g0 (.mv 6 (.c (.bool false)))])
  (.ret))),
  [.t 4, .t 5, .t 6]⟩
def L91_0 : Ic := .seq (.seq (.ops [g0 (.mv 8 (.t 0)), g0 (.nilc (some 9) (.t 8)), g0 (.fldA 10 (.t 9) 1 none), g0 (.load 11 (.t 10) none none false), g0 (.mv 12 (.t 0)), g0 (.nilc (some 13) (.t 12)), g0 (.fldA 14 (.t 13) 0 none), g0 (.load 15 (.t 14) none none false), g0 (.len 16 .str (.t 15) false), g0 (.bin 17 .lss (.t 11) (.t 16)), g0 (.mv 18 (.t 17)), g1 18 true (.mv 19 (.t 0)), g1 18 true (.nilc (some 20) (.t 19)), g1 18 true (.fldA 21 (.t 20) 0 none), g1 18 true (.load 22 (.t 21) none none false), g1 18 true (.mv 23 (.t 0)), g1 18 true (.nilc (some 24) (.t 23)), g1 18 true (.fldA 25 (.t 24) 1 none), g1 18 true (.load 26 (.t 25) none none false), g1 18 true (.idx 27 (.t 22) (.t 26) none 1 none), g1 18 true (.bin 28 .geq (.t 27) (.c (.int .u8 97))), g0 (.pick 29 (.t 18) (.t 28) (.c (.bool false))), g0 (.mv 30 (.t 29)), g1 30 true (.mv 31 (.t 0)), g1 30 true (.nilc (some 32) (.t 31)), g1 30 true (.fldA 33 (.t 32) 0 none), g1 30 true (.load 34 (.t 33) none none false), g1 30 true (.mv 35 (.t 0)), g1 30 true (.nilc (some 36) (.t 35)), g1 30 true (.fldA 37 (.t 36) 1 none), g1 30 true (.load 38 (.t 37) none none false), g1 30 true (.idx 39 (.t 34) (.t 38) none 1 none), g1 30 true (.bin 40 .leq (.t 39) (.c (.int .u8 122))), g0 (.pick 41 (.t 30) (.t 40) (.c (.bool false)))])
  (.cond (.t 41) (.skip)
  (.exit 0)))
  (.block 1 (.ops [g0 (.mv 42 (.t 0)), g0 (.nilc (some 43) (.t 42)), g0 (.fldA 44 (.t 43) 1 none), g0 (.load 45 (.t 44) none none false), g0 (.bin 46 .add (.t 45) (.c (.int .i64 1))), g0 (.nilc (some 47) (.t 42)), g0 (.fldA 48 (.t 47) 1 none), g0 (.store (.t 48) (.t 46) 1 none)]))
/-- (*notary/script.reader).word -/
def F91 : IFunc := ⟨.raw, .seq (.ops [g0 (.mv 2 (.c (.str [])))])
  (.seq (.ops [g0 (.mv 4 (.t 0)), g0 (.nilc (some 5) (.t 4)), g0 (.fldA 6 (.t 5) 1 none), g0 (.load 7 (.t 6) none none false), g0 (.mv 3 (.t 7))])
  (.seq (.block 0 (.loop L91_0))
  (.seq (.ops [g0 (.mv 49 (.t 0)), g0 (.nilc (some 50) (.t 49)), g0 (.fldA 51 (.t 50) 0 none), g0 (.load 52 (.t 51) none none false), g0 (.mv 53 (.t 3)), g0 (.mv 54 (.t 0)), g0 (.nilc (some 55) (.t 54)), g0 (.fldA 56 (.t 55) 1 none), g0 (.load 57 (.t 56) none none false), g0 (.slc 58 none (.t 52) (some (.t 53)) (some (.t 57)) none), g0 (.mv 2 (.t 58))])
  (.ret)))),
  [.t 2]⟩
/-- notary/script.behind[string] -/
def F92 : IFunc := ⟨.raw, .seq (.ops [g0 (.mv 4 (.c (.str [])))])
  (.seq (.ops [g0 (.mv 5 (.c (.str [])))])
  (.seq (.seq (.ops [g0 (.mv 6 (.t 0)), g0 (.nilc (some 7) (.t 6)), g0 (.fldA 8 (.t 7) 2 none), g0 (.load 9 (.t 8) none none false), g0 (.un 10 .not (.t 9)), g0 (.mv 11 (.t 10)), g1 11 false (.mv 12 (.t 0)), g1 11 false (.nilc (some 13) (.t 12)), g1 11 false (.fldA 14 (.t 13) 1 none), g1 11 false (.load 15 (.t 14) none none false), g1 11 false (.mv 16 (.t 0)), g1 11 false (.nilc (some 17) (.t 16)), g1 11 false (.fldA 18 (.t 17) 0 none), g1 11 false (.load 19 (.t 18) none none false), g1 11 false (.len 20 .str (.t 19) false), g1 11 false (.bin 21 .geq (.t 15) (.t 20)), g0 (.pick 22 (.t 11) (.c (.bool true)) (.t 21)), g0 (.mv 23 (.t 22)), g1 23 false (.mv 24 (.t 0)), g1 23 false (.nilc (some 25) (.t 24)), g1 23 false (.fldA 26 (.t 25) 0 none), g1 23 false (.load 27 (.t 26) none none false), g1 23 false (.mv 28 (.t 0)), g1 23 false (.nilc (some 29) (.t 28)), g1 23 false (.fldA 30 (.t 29) 1 none), g1 23 false (.load 31 (.t 30) none none false), g1 23 false (.idx 32 (.t 27) (.t 31) none 1 none), g1 23 false (.bin 33 .neq (.t 32) (.c (.int .u8 32))), g0 (.pick 34 (.t 23) (.c (.bool true)) (.t 33))])
  (.cond (.t 34) (.seq (.ops [g0 (.mv 35 (.t 0)), g0 (.nilc (some 36) (.t 35)), g0 (.fldA 37 (.t 36) 2 none), g0 (.store (.t 37) (.c (.bool false)) 1 none)])
  (.seq (.ops [g0 (.mv 38 (.t 5)), g0 (.mv 4 (.t 38))])
  (.ret)))
  (.skip)))
  (.seq (.ops [g0 (.mv 39 (.t 0)), g0 (.nilc (some 40) (.t 39)), g0 (.fldA 41 (.t 40) 1 none), g0 (.load 42 (.t 41) none none false), g0 (.bin 43 .add (.t 42) (.c (.int .i64 1))), g0 (.nilc (some 44) (.t 39)), g0 (.fldA 45 (.t 44) 1 none), g0 (.store (.t 45) (.t 43) 1 none)])
  (.seq (.ops [g0 (.mv 46 (.t 1)), g0 (.callV (some 47) (.t 46) []), g0 (.mv 4 (.t 47))])
  (.ret))))),
  [.t 4]⟩
/-- (*notary/script.reader).text -/
def F93 : IFunc := ⟨.raw, .seq (.ops [g0 (.mv 2 (.c (.str [])))])
  (.seq (.seq (.ops [g0 (.mv 3 (.t 0)), g0 (.nilc (some 4) (.t 3)), g0 (.fldA 5 (.t 4) 1 none), g0 (.load 6 (.t 5) none none false), g0 (.mv 7 (.t 0)), g0 (.nilc (some 8) (.t 7)), g0 (.fldA 9 (.t 8) 0 none), g0 (.load 10 (.t 9) none none false), g0 (.len 11 .str (.t 10) false), g0 (.bin 12 .geq (.t 6) (.t 11)), g0 (.mv 13 (.t 12)), g1 13 false (.mv 14 (.t 0)), g1 13 false (.nilc (some 15) (.t 14)), g1 13 false (.fldA 16 (.t 15) 0 none), g1 13 false (.load 17 (.t 16) none none false), g1 13 false (.mv 18 (.t 0)), g1 13 false (.nilc (some 19) (.t 18)), g1 13 false (.fldA 20 (.t 19) 1 none), g1 13 false (.load 21 (.t 20) none none false), g1 13 false (.idx 22 (.t 17) (.t 21) none 1 none), g1 13 false (.bin 23 .neq (.t 22) (.c (.int .u8 34))), g0 (.pick 24 (.t 13) (.c (.bool true)) (.t 23))])
  (.cond (.t 24) (.seq (.ops [g0 (.mv 25 (.t 0)), g0 (.nilc (some 26) (.t 25)), g0 (.fldA 27 (.t 26) 2 none), g0 (.store (.t 27) (.c (.bool false)) 1 none)])
  (.seq (.ops [g0 (.mv 2 (.c (.str [])))])
  (.ret)))
  (.skip)))
  (.seq (.ops [g0 (.mv 28 (.t 0)), g0 (.call (some 29) 134 [(.t 28)]), g0 (.mv 2 (.t 29))])
  (.ret))),
  [.t 2]⟩
def L94_0 : Ic := .seq (.seq (.ops [g0 (.mv 24 (.t 0)), g0 (.nilc (some 25) (.t 24)), g0 (.fldA 26 (.t 25) 2 none), g0 (.load 27 (.t 26) none none false), g0 (.mv 28 (.t 27)), g1 28 true (.mv 29 (.t 0)), g1 28 true (.nilc (some 30) (.t 29)), g1 28 true (.fldA 31 (.t 30) 1 none), g1 28 true (.load 32 (.t 31) none none false), g1 28 true (.mv 33 (.t 0)), g1 28 true (.nilc (some 34) (.t 33)), g1 28 true (.fldA 35 (.t 34) 0 none), g1 28 true (.load 36 (.t 35) none none false), g1 28 true (.len 37 .str (.t 36) false), g1 28 true (.bin 38 .lss (.t 32) (.t 37)), g0 (.pick 39 (.t 28) (.t 38) (.c (.bool false)))])
  (.cond (.t 39) (.skip)
  (.exit 0)))
  (.block 1 (.ops [g0 (.fldA 40 (.t 3) 4 none), g0 (.load 41 (.t 40) none (some 3) false), g0 (.mv 42 (.t 0)), g0 (.mv 43 (.t 0)), g0 (.mkfn 44 96 [(.t 43)] []), g0 (.call (some 45) 95 [(.t 42), (.t 44)]), g0 (.bsl 46 1 false [(.t 45)]), g0 (.app 47 (.t 41) (.t 46) 1), g0 (.fldA 48 (.t 3) 4 none), g0 (.store (.t 48) (.t 47) 1 (some 3))]))
/-- (*notary/script.reader).req -/
def F94 : IFunc := ⟨.raw, .seq (.ops [g0 (.boxL 2 5 none [(.int .i64 0), (.int .i64 0), (.int .i64 0), (.str []), .nils])])
  (.seq (.ops [g0 (.boxL 3 5 none [(.int .i64 0), (.int .i64 0), (.int .i64 0), (.str []), .nils])])
  (.seq (.ops [g0 (.mv 4 (.t 0)), g0 (.mv 5 (.t 0)), g0 (.mkfn 6 96 [(.t 5)] []), g0 (.call (some 7) 95 [(.t 4), (.t 6)]), g0 (.fldA 8 (.t 3) 0 none), g0 (.store (.t 8) (.t 7) 1 (some 3))])
  (.seq (.ops [g0 (.mv 9 (.t 0)), g0 (.mv 10 (.t 0)), g0 (.mkfn 11 96 [(.t 10)] []), g0 (.call (some 12) 95 [(.t 9), (.t 11)]), g0 (.fldA 13 (.t 3) 1 none), g0 (.store (.t 13) (.t 12) 1 (some 3))])
  (.seq (.ops [g0 (.mv 14 (.t 0)), g0 (.mv 15 (.t 0)), g0 (.mkfn 16 96 [(.t 15)] []), g0 (.call (some 17) 95 [(.t 14), (.t 16)]), g0 (.fldA 18 (.t 3) 2 none), g0 (.store (.t 18) (.t 17) 1 (some 3))])
  (.seq (.ops [g0 (.mv 19 (.t 0)), g0 (.mv 20 (.t 0)), g0 (.mkfn 21 93 [(.t 20)] []), g0 (.call (some 22) 92 [(.t 19), (.t 21)]), g0 (.fldA 23 (.t 3) 3 none), g0 (.store (.t 23) (.t 22) 1 (some 3))])
  (.seq (.block 0 (.loop L94_0))
  (.seq (.ops [g0 (.load 49 (.t 3) (some 5) (some 3) false), g0 (.store (.t 2) (.t 49) 5 (some 2))])
  (.ret)))))))),
  [.cell 2 (some 5) (some 2)]⟩
/-- notary/script.behind[int] -/
def F95 : IFunc := ⟨.raw, .seq (.ops [g0 (.mv 4 (.c (.int .i64 0)))])
  (.seq (.ops [g0 (.mv 5 (.c (.int .i64 0)))])
  (.seq (.seq (.ops [g0 (.mv 6 (.t 0)), g0 (.nilc (some 7) (.t 6)), g0 (.fldA 8 (.t 7) 2 none), g0 (.load 9 (.t 8) none none false), g0 (.un 10 .not (.t 9)), g0 (.mv 11 (.t 10)), g1 11 false (.mv 12 (.t 0)), g1 11 false (.nilc (some 13) (.t 12)), g1 11 false (.fldA 14 (.t 13) 1 none), g1 11 false (.load 15 (.t 14) none none false), g1 11 false (.mv 16 (.t 0)), g1 11 false (.nilc (some 17) (.t 16)), g1 11 false (.fldA 18 (.t 17) 0 none), g1 11 false (.load 19 (.t 18) none none false), g1 11 false (.len 20 .str (.t 19) false), g1 11 false (.bin 21 .geq (.t 15) (.t 20)), g0 (.pick 22 (.t 11) (.c (.bool true)) (.t 21)), g0 (.mv 23 (.t 22)), g1 23 false (.mv 24 (.t 0)), g1 23 false (.nilc (some 25) (.t 24)), g1 23 false (.fldA 26 (.t 25) 0 none), g1 23 false (.load 27 (.t 26) none none false), g1 23 false (.mv 28 (.t 0)), g1 23 false (.nilc (some 29) (.t 28)), g1 23 false (.fldA 30 (.t 29) 1 none), g1 23 false (.load 31 (.t 30) none none false), g1 23 false (.idx 32 (.t 27) (.t 31) none 1 none), g1 23 false (.bin 33 .neq (.t 32) (.c (.int .u8 32))), g0 (.pick 34 (.t 23) (.c (.bool true)) (.t 33))])
  (.cond (.t 34) (.seq (.ops [g0 (.mv 35 (.t 0)), g0 (.nilc (some 36) (.t 35)), g0 (.fldA 37 (.t 36) 2 none), g0 (.store (.t 37) (.c (.bool false)) 1 none)])
  (.seq (.ops [g0 (.mv 38 (.t 5)), g0 (.mv 4 (.t 38))])
  (.ret)))
  (.skip)))
  (.seq (.ops [g0 (.mv 39 (.t 0)), g0 (.nilc (some 40) (.t 39)), g0 (.fldA 41 (.t 40) 1 none), g0 (.load 42 (.t 41) none none false), g0 (.bin 43 .add (.t 42) (.c (.int .i64 1))), g0 (.nilc (some 44) (.t 39)), g0 (.fldA 45 (.t 44) 1 none), g0 (.store (.t 45) (.t 43) 1 none)])
  (.seq (.ops [g0 (.mv 46 (.t 1)), g0 (.callV (some 47) (.t 46) []), g0 (.mv 4 (.t 47))])
  (.ret))))),
  [.t 4]⟩
def L96_0 : Ic := .seq (.seq (.ops [g0 (.mv 39 (.t 0)), g0 (.nilc (some 40) (.t 39)), g0 (.fldA 41 (.t 40) 1 none), g0 (.load 42 (.t 41) none none false), g0 (.mv 43 (.t 0)), g0 (.nilc (some 44) (.t 43)), g0 (.fldA 45 (.t 44) 0 none), g0 (.load 46 (.t 45) none none false), g0 (.len 47 .str (.t 46) false), g0 (.bin 48 .lss (.t 42) (.t 47)), g0 (.mv 49 (.t 48)), g1 49 true (.mv 50 (.t 0)), g1 49 true (.nilc (some 51) (.t 50)), g1 49 true (.fldA 52 (.t 51) 0 none), g1 49 true (.load 53 (.t 52) none none false), g1 49 true (.mv 54 (.t 0)), g1 49 true (.nilc (some 55) (.t 54)), g1 49 true (.fldA 56 (.t 55) 1 none), g1 49 true (.load 57 (.t 56) none none false), g1 49 true (.idx 58 (.t 53) (.t 57) none 1 none), g1 49 true (.bin 59 .geq (.t 58) (.c (.int .u8 48))), g0 (.pick 60 (.t 49) (.t 59) (.c (.bool false))), g0 (.mv 61 (.t 60)), g1 61 true (.mv 62 (.t 0)), g1 61 true (.nilc (some 63) (.t 62)), g1 61 true (.fldA 64 (.t 63) 0 none), g1 61 true (.load 65 (.t 64) none none false), g1 61 true (.mv 66 (.t 0)), g1 61 true (.nilc (some 67) (.t 66)), g1 61 true (.fldA 68 (.t 67) 1 none), g1 61 true (.load 69 (.t 68) none none false), g1 61 true (.idx 70 (.t 65) (.t 69) none 1 none), g1 61 true (.bin 71 .leq (.t 70) (.c (.int .u8 57))), g0 (.pick 72 (.t 61) (.t 71) (.c (.bool false)))])
  (.cond (.t 72) (.skip)
  (.exit 0)))
  (.block 1 (.seq (.ops [g0 (.mv 73 (.t 4)), g0 (.bin 74 .mul (.t 73) (.c (.int .u64 10))), g0 (.mv 75 (.t 0)), g0 (.nilc (some 76) (.t 75)), g0 (.fldA 77 (.t 76) 0 none), g0 (.load 78 (.t 77) none none false), g0 (.mv 79 (.t 0)), g0 (.nilc (some 80) (.t 79)), g0 (.fldA 81 (.t 80) 1 none), g0 (.load 82 (.t 81) none none false), g0 (.idx 83 (.t 78) (.t 82) none 1 none), g0 (.bin 84 .sub (.t 83) (.c (.int .u8 48))), g0 (.conv 85 (.int .u64) (.t 84)), g0 (.bin 86 .add (.t 74) (.t 85)), g0 (.mv 4 (.t 86))])
  (.ops [g0 (.mv 87 (.t 0)), g0 (.nilc (some 88) (.t 87)), g0 (.fldA 89 (.t 88) 1 none), g0 (.load 90 (.t 89) none none false), g0 (.bin 91 .add (.t 90) (.c (.int .i64 1))), g0 (.nilc (some 92) (.t 87)), g0 (.fldA 93 (.t 92) 1 none), g0 (.store (.t 93) (.t 91) 1 none)])))
/-- (*notary/script.reader).number -/
def F96 : IFunc := ⟨.raw, .seq (.ops [g0 (.mv 2 (.c (.int .i64 0)))])
  (.seq (.ops [g0 (.mv 6 (.t 0)), g0 (.nilc (some 7) (.t 6)), g0 (.fldA 8 (.t 7) 1 none), g0 (.load 9 (.t 8) none none false), g0 (.mv 3 (.t 9))])
  (.seq (.seq (.ops [g0 (.mv 10 (.t 0)), g0 (.nilc (some 11) (.t 10)), g0 (.fldA 12 (.t 11) 1 none), g0 (.load 13 (.t 12) none none false), g0 (.mv 14 (.t 0)), g0 (.nilc (some 15) (.t 14)), g0 (.fldA 16 (.t 15) 0 none), g0 (.load 17 (.t 16) none none false), g0 (.len 18 .str (.t 17) false), g0 (.bin 19 .lss (.t 13) (.t 18)), g0 (.mv 20 (.t 19)), g1 20 true (.mv 21 (.t 0)), g1 20 true (.nilc (some 22) (.t 21)), g1 20 true (.fldA 23 (.t 22) 0 none), g1 20 true (.load 24 (.t 23) none none false), g1 20 true (.mv 25 (.t 0)), g1 20 true (.nilc (some 26) (.t 25)), g1 20 true (.fldA 27 (.t 26) 1 none), g1 20 true (.load 28 (.t 27) none none false), g1 20 true (.idx 29 (.t 24) (.t 28) none 1 none), g1 20 true (.bin 30 .eql (.t 29) (.c (.int .u8 45))), g0 (.pick 31 (.t 20) (.t 30) (.c (.bool false)))])
  (.cond (.t 31) (.ops [g0 (.mv 32 (.t 0)), g0 (.nilc (some 33) (.t 32)), g0 (.fldA 34 (.t 33) 1 none), g0 (.load 35 (.t 34) none none false), g0 (.bin 36 .add (.t 35) (.c (.int .i64 1))), g0 (.nilc (some 37) (.t 32)), g0 (.fldA 38 (.t 37) 1 none), g0 (.store (.t 38) (.t 36) 1 none)])
  (.skip)))
  (.seq (.ops [g0 (.mv 4 (.c (.int .u64 0)))])
  (.seq (.block 0 (.loop L96_0))
  (.seq (.ops [g0 (.mv 94 (.t 4)), g0 (.conv 95 (.int .i64) (.t 94)), g0 (.mv 5 (.t 95))])
  (.seq (.seq (.ops [g0 (.mv 96 (.t 3)), g0 (.mv 97 (.t 0)), g0 (.nilc (some 98) (.t 97)), g0 (.fldA 99 (.t 98) 0 none), g0 (.load 100 (.t 99) none none false), g0 (.len 101 .str (.t 100) false), g0 (.bin 102 .lss (.t 96) (.t 101)), g0 (.mv 103 (.t 102)), g1 103 true (.mv 104 (.t 0)), g1 103 true (.nilc (some 105) (.t 104)), g1 103 true (.fldA 106 (.t 105) 0 none), g1 103 true (.load 107 (.t 106) none none false), g1 103 true (.mv 108 (.t 3)), g1 103 true (.idx 109 (.t 107) (.t 108) none 1 none), g1 103 true (.bin 110 .eql (.t 109) (.c (.int .u8 45))), g0 (.pick 111 (.t 103) (.t 110) (.c (.bool false)))])
  (.cond (.t 111) (.ops [g0 (.mv 112 (.t 5)), g0 (.un 113 .neg (.t 112)), g0 (.mv 5 (.t 113))])
  (.skip)))
  (.seq (.seq (.ops [g0 (.mv 114 (.t 5)), g0 (.callQ (some 115) 98 [(.t 114)]), g0 (.mv 116 (.t 0)), g0 (.nilc (some 117) (.t 116)), g0 (.fldA 118 (.t 117) 0 none), g0 (.load 119 (.t 118) none none false), g0 (.mv 120 (.t 3)), g0 (.mv 121 (.t 0)), g0 (.nilc (some 122) (.t 121)), g0 (.fldA 123 (.t 122) 1 none), g0 (.load 124 (.t 123) none none false), g0 (.slc 125 none (.t 119) (some (.t 120)) (some (.t 124)) none), g0 (.bin 126 .neq (.t 115) (.t 125))])
  (.cond (.t 126) (.ops [g0 (.mv 127 (.t 0)), g0 (.nilc (some 128) (.t 127)), g0 (.fldA 129 (.t 128) 2 none), g0 (.store (.t 129) (.c (.bool false)) 1 none)])
  (.skip)))
  (.seq (.ops [g0 (.mv 130 (.t 5)), g0 (.mv 2 (.t 130))])
  (.ret))))))))),
  [.t 2]⟩
/-- notary/script.word -/
def F97 : IFunc := ⟨.pure, .seq (.ops [g0 (.mv 2 (.c (.str [])))])
  (.seq (.seq (.ops [g0 (.mv 3 (.t 0))])
  (.block 0 (.seq (.ops [g0 (.bin 5 .eql (.t 3) (.c (.int .i64 4))), g0 (.mv 4 (.t 5))])
  (.cond (.t 4) (.seq (.ops [g0 (.mv 2 (.c (.str [117, 110, 100, 111])))])
  (.ret))
  (.seq (.ops [g0 (.bin 7 .eql (.t 3) (.c (.int .i64 6))), g0 (.mv 6 (.t 7))])
  (.cond (.t 6) (.seq (.ops [g0 (.mv 2 (.c (.str [115, 121, 110, 99])))])
  (.ret))
  (.seq (.ops [g0 (.bin 9 .eql (.t 3) (.c (.int .i64 8))), g0 (.mv 8 (.t 9))])
  (.cond (.t 8) (.seq (.ops [g0 (.mv 2 (.c (.str [114, 101, 99, 111, 118, 101, 114])))])
  (.ret))
  (.seq (.ops [g0 (.bin 11 .eql (.t 3) (.c (.int .i64 9))), g0 (.mv 10 (.t 11))])
  (.cond (.t 10) (.seq (.ops [g0 (.mv 2 (.c (.str [118, 101, 114, 105, 102, 121])))])
  (.ret))
  (.skip)))))))))))
  (.seq (.ops [g0 (.mv 2 (.c (.str [])))])
  (.ret))),
  [.t 2]⟩
/-- notary/script.number -/
def F98 : IFunc := ⟨.pure, .seq (.ops [g0 (.mv 2 (.c (.str [])))])
  (.seq (.ops [g0 (.mv 3 (.t 0)), g0 (.call (some 4) 135 [(.t 3)]), g0 (.mv 2 (.t 4))])
  (.ret)),
  [.t 2]⟩
def L99_0 : Ic := .seq (.ops [g0 (.bin 46 .lss (.t 45) (.t 44))])
  (.seq (.cond (.t 46) (.skip)
  (.exit 0))
  (.seq (.block 1 (.seq (.ops [g0 (.mv 47 (.t 45)), g0 (.idxA 48 (.t 43) (.t 45) 1 none none), g0 (.load 49 (.t 48) none none false), g0 (.mv 5 (.t 47)), g0 (.mv 6 (.t 49))])
  (.seq (.ops [g0 (.mv 50 (.t 6)), g0 (.fldA 51 (.t 3) 4 none), g0 (.load 52 (.t 51) none (some 3) false), g0 (.mv 53 (.t 5)), g0 (.idxA 54 (.t 52) (.t 53) 1 none none), g0 (.load 55 (.t 54) none none false), g0 (.bin 56 .neq (.t 50) (.t 55))])
  (.cond (.t 56) (.seq (.ops [g0 (.mv 4 (.c (.bool false)))])
  (.ret))
  (.skip)))))
  (.ops [g0 (.bin 57 .add (.t 45) (.c (.int .i64 1))), g0 (.mv 45 (.t 57))])))
/-- notary/script.sameReq -/
def F99 : IFunc := ⟨.pure, .seq (.ops [g0 (.boxL 2 5 (some (.t 0)) []), g0 (.boxL 3 5 (some (.t 1)) []), g0 (.mv 4 (.c (.bool false)))])
  (.seq (.seq (.ops [g0 (.fldA 7 (.t 2) 0 none), g0 (.load 8 (.t 7) none (some 2) false), g0 (.fldA 9 (.t 3) 0 none), g0 (.load 10 (.t 9) none (some 3) false), g0 (.bin 11 .neq (.t 8) (.t 10)), g0 (.mv 12 (.t 11)), g1 12 false (.fldA 13 (.t 2) 1 none), g1 12 false (.load 14 (.t 13) none (some 2) false), g1 12 false (.fldA 15 (.t 3) 1 none), g1 12 false (.load 16 (.t 15) none (some 3) false), g1 12 false (.bin 17 .neq (.t 14) (.t 16)), g0 (.pick 18 (.t 12) (.c (.bool true)) (.t 17)), g0 (.mv 19 (.t 18)), g1 19 false (.fldA 20 (.t 2) 2 none), g1 19 false (.load 21 (.t 20) none (some 2) false), g1 19 false (.fldA 22 (.t 3) 2 none), g1 19 false (.load 23 (.t 22) none (some 3) false), g1 19 false (.bin 24 .neq (.t 21) (.t 23)), g0 (.pick 25 (.t 19) (.c (.bool true)) (.t 24)), g0 (.mv 26 (.t 25)), g1 26 false (.fldA 27 (.t 2) 3 none), g1 26 false (.load 28 (.t 27) none (some 2) false), g1 26 false (.fldA 29 (.t 3) 3 none), g1 26 false (.load 30 (.t 29) none (some 3) false), g1 26 false (.bin 31 .neq (.t 28) (.t 30)), g0 (.pick 32 (.t 26) (.c (.bool true)) (.t 31)), g0 (.mv 33 (.t 32)), g1 33 false (.fldA 34 (.t 2) 4 none), g1 33 false (.load 35 (.t 34) none (some 2) false), g1 33 false (.len 36 .slice (.t 35) false), g1 33 false (.fldA 37 (.t 3) 4 none), g1 33 false (.load 38 (.t 37) none (some 3) false), g1 33 false (.len 39 .slice (.t 38) false), g1 33 false (.bin 40 .neq (.t 36) (.t 39)), g0 (.pick 41 (.t 33) (.c (.bool true)) (.t 40))])
  (.cond (.t 41) (.seq (.ops [g0 (.mv 4 (.c (.bool false)))])
  (.ret))
  (.skip)))
  (.seq (.seq (.ops [g0 (.fldA 42 (.t 2) 4 none), g0 (.load 43 (.t 42) none (some 2) false), g0 (.len 44 .slice (.t 43) false), g0 (.mv 45 (.c (.int .i64 0)))])
  (.block 0 (.loop L99_0)))
  (.seq (.ops [g0 (.mv 4 (.c (.bool true)))])
  (.ret)))),
  [.t 4]⟩
/-- notary/notaryref51.Bare -/
def F101 : IFunc := ⟨.pure, .seq (.ops [g0 (.boxL 1 5 (some (.t 0)) []), g0 (.mv 2 (.c (.bool false)))])
  (.seq (.ops [g0 (.fldA 3 (.t 1) 0 none), g0 (.load 4 (.t 3) none (some 1) false), g0 (.bin 5 .eql (.t 4) (.c (.int .i64 0))), g0 (.mv 6 (.t 5)), g1 6 true (.fldA 7 (.t 1) 1 none), g1 6 true (.load 8 (.t 7) none (some 1) false), g1 6 true (.bin 9 .eql (.t 8) (.c (.int .i64 0))), g0 (.pick 10 (.t 6) (.t 9) (.c (.bool false))), g0 (.mv 11 (.t 10)), g1 11 true (.fldA 12 (.t 1) 2 none), g1 11 true (.load 13 (.t 12) none (some 1) false), g1 11 true (.bin 14 .eql (.t 13) (.c (.int .i64 0))), g0 (.pick 15 (.t 11) (.t 14) (.c (.bool false))), g0 (.mv 16 (.t 15)), g1 16 true (.fldA 17 (.t 1) 3 none), g1 16 true (.load 18 (.t 17) none (some 1) false), g1 16 true (.bin 19 .eql (.t 18) (.c (.str []))), g0 (.pick 20 (.t 16) (.t 19) (.c (.bool false))), g0 (.mv 21 (.t 20)), g1 21 true (.fldA 22 (.t 1) 4 none), g1 21 true (.load 23 (.t 22) none (some 1) false), g1 21 true (.len 24 .slice (.t 23) false), g1 21 true (.bin 25 .eql (.t 24) (.c (.int .i64 0))), g0 (.pick 26 (.t 21) (.t 25) (.c (.bool false))), g0 (.mv 2 (.t 26))])
  (.ret)),
  [.t 2]⟩
/-- notary/notaryref51.Num -/
def F102 : IFunc := ⟨.pure, .seq (.ops [g0 (.mv 2 (.c (.str [])))])
  (.seq (.ops [g0 (.mv 3 (.t 0)), g0 (.call (some 4) 43 [(.t 3)]), g0 (.mv 2 (.t 4))])
  (.ret)),
  [.t 2]⟩
def L103_0 : Ic := .seq (.seq (.ops [g0 (.mv 5 (.t 4)), g0 (.mv 6 (.t 0)), g0 (.len 7 .slice (.t 6) false), g0 (.bin 8 .lss (.t 5) (.t 7))])
  (.cond (.t 8) (.skip)
  (.exit 0)))
  (.seq (.block 1 (.ops [g0 (.mv 11 (.t 3)), g0 (.bin 12 .add (.t 11) (.c (.str [32]))), g0 (.mv 13 (.t 0)), g0 (.mv 14 (.t 4)), g0 (.idxA 15 (.t 13) (.t 14) 1 none none), g0 (.load 16 (.t 15) none none false), g0 (.call (some 17) 102 [(.t 16)]), g0 (.bin 18 .add (.t 12) (.t 17)), g0 (.mv 3 (.t 18))]))
  (.ops [g0 (.mv 9 (.t 4)), g0 (.bin 10 .add (.t 9) (.c (.int .i64 1))), g0 (.mv 4 (.t 10))]))
/-- notary/notaryref51.Nums -/
def F103 : IFunc := ⟨.pure, .seq (.ops [g0 (.mv 2 (.c (.str [])))])
  (.seq (.ops [g0 (.mv 3 (.c (.str [])))])
  (.seq (.seq (.ops [g0 (.mv 4 (.c (.int .i64 0)))])
  (.block 0 (.loop L103_0)))
  (.seq (.ops [g0 (.mv 19 (.t 3)), g0 (.mv 2 (.t 19))])
  (.ret)))),
  [.t 2]⟩
/-- notary/notaryref51.Word -/
def F104 : IFunc := ⟨.pure, .seq (.ops [g0 (.mv 2 (.c (.str [])))])
  (.seq (.seq (.ops [g0 (.mv 3 (.t 0)), g0 (.bin 4 .eql (.t 3) (.c (.int .i64 4)))])
  (.cond (.t 4) (.seq (.ops [g0 (.mv 2 (.c (.str [117, 110, 100, 111])))])
  (.ret))
  (.skip)))
  (.seq (.seq (.ops [g0 (.mv 5 (.t 0)), g0 (.bin 6 .eql (.t 5) (.c (.int .i64 6)))])
  (.cond (.t 6) (.seq (.ops [g0 (.mv 2 (.c (.str [115, 121, 110, 99])))])
  (.ret))
  (.skip)))
  (.seq (.seq (.ops [g0 (.mv 7 (.t 0)), g0 (.bin 8 .eql (.t 7) (.c (.int .i64 8)))])
  (.cond (.t 8) (.seq (.ops [g0 (.mv 2 (.c (.str [114, 101, 99, 111, 118, 101, 114])))])
  (.ret))
  (.skip)))
  (.seq (.seq (.ops [g0 (.mv 9 (.t 0)), g0 (.bin 10 .eql (.t 9) (.c (.int .i64 9)))])
  (.cond (.t 10) (.seq (.ops [g0 (.mv 2 (.c (.str [118, 101, 114, 105, 102, 121])))])
  (.ret))
  (.skip)))
  (.seq (.ops [g0 (.mv 2 (.c (.str [])))])
  (.ret)))))),
  [.t 2]⟩
def L105_0 : Ic := .seq (.seq (.ops [g0 (.mv 11 (.t 5)), g0 (.mv 12 (.t 0)), g0 (.len 13 .slice (.t 12) false), g0 (.bin 14 .lss (.t 11) (.t 13))])
  (.cond (.t 14) (.skip)
  (.exit 0)))
  (.seq (.block 1 (.seq (.ops [g0 (.mv 17 (.t 0)), g0 (.mv 18 (.t 5)), g0 (.idxA 19 (.t 17) (.t 18) 1 none none), g0 (.load 20 (.t 19) none none false), g0 (.mv 21 (.t 1)), g0 (.mv 22 (.t 5)), g0 (.idxA 23 (.t 21) (.t 22) 1 none none), g0 (.load 24 (.t 23) none none false), g0 (.bin 25 .neq (.t 20) (.t 24))])
  (.cond (.t 25) (.seq (.ops [g0 (.mv 4 (.c (.bool false)))])
  (.ret))
  (.skip))))
  (.ops [g0 (.mv 15 (.t 5)), g0 (.bin 16 .add (.t 15) (.c (.int .i64 1))), g0 (.mv 5 (.t 16))]))
/-- notary/notaryref06.Way -/
def F105 : IFunc := ⟨.pure, .seq (.ops [g0 (.mv 4 (.c (.bool false)))])
  (.seq (.seq (.ops [g0 (.mv 6 (.t 0)), g0 (.len 7 .slice (.t 6) false), g0 (.mv 8 (.t 1)), g0 (.len 9 .slice (.t 8) false), g0 (.bin 10 .neq (.t 7) (.t 9))])
  (.cond (.t 10) (.seq (.ops [g0 (.mv 4 (.c (.bool false)))])
  (.ret))
  (.skip)))
  (.seq (.seq (.ops [g0 (.mv 5 (.c (.int .i64 0)))])
  (.block 0 (.loop L105_0)))
  (.seq (.ops [g0 (.mv 4 (.c (.bool true)))])
  (.ret)))),
  [.t 4]⟩
def L106_0 : Ic := .seq (.seq (.ops [g0 (.mv 5 (.t 1)), g0 (.mv 6 (.t 0)), g0 (.len 7 .str (.t 6) false), g0 (.bin 8 .lss (.t 5) (.t 7)), g0 (.mv 9 (.t 8)), g1 9 true (.mv 10 (.t 0)), g1 9 true (.mv 11 (.t 1)), g1 9 true (.idx 12 (.t 10) (.t 11) none 1 none), g1 9 true (.bin 13 .neq (.t 12) (.c (.int .u8 32))), g0 (.pick 14 (.t 9) (.t 13) (.c (.bool false)))])
  (.cond (.t 14) (.skip)
  (.exit 0)))
  (.block 1 (.ops [g0 (.mv 15 (.t 1)), g0 (.bin 16 .add (.t 15) (.c (.int .i64 1))), g0 (.mv 1 (.t 16))]))
/-- notary/notaryref51.Until -/
def F106 : IFunc := ⟨.pure, .seq (.ops [g0 (.mv 4 (.c (.int .i64 0)))])
  (.seq (.block 0 (.loop L106_0))
  (.seq (.ops [g0 (.mv 17 (.t 1)), g0 (.mv 4 (.t 17))])
  (.ret))),
  [.t 4]⟩
def L107_0 : Ic := .seq (.seq (.ops [g0 (.mv 15 (.t 5)), g0 (.mv 16 (.t 0)), g0 (.len 17 .str (.t 16) false), g0 (.bin 18 .lss (.t 15) (.t 17))])
  (.cond (.t 18) (.skip)
  (.exit 0)))
  (.block 1 (.seq (.seq (.ops [g0 (.mv 19 (.t 0)), g0 (.mv 20 (.t 5)), g0 (.idx 21 (.t 19) (.t 20) none 1 none), g0 (.bin 22 .neq (.t 21) (.c (.int .u8 32)))])
  (.cond (.t 22) (.seq (.ops [g0 (.build 23 [(.int .i64 0), (.str []), (.int .i64 0), (.int .i64 0), (.int .i64 0), (.str []), .nils, (.int .i64 0)] []), g0 (.store (.t 2) (.t 23) 8 (some 2)), g0 (.mv 3 (.c (.bool false)))])
  (.ret))
  (.skip)))
  (.seq (.ops [g0 (.mv 24 (.t 5)), g0 (.bin 25 .add (.t 24) (.c (.int .i64 1))), g0 (.mv 5 (.t 25))])
  (.seq (.ops [g0 (.mv 26 (.t 4)), g0 (.len 27 .slice (.t 26) false), g0 (.bin 28 .eql (.t 27) (.c (.int .i64 3))), g0 (.mv 29 (.t 28)), g1 29 true (.mv 30 (.t 7)), g1 29 true (.un 31 .not (.t 30)), g0 (.pick 32 (.t 29) (.t 31) (.c (.bool false)))])
  (.cond (.t 32) (.seq (.ops [g0 (.mv 34 (.t 0)), g0 (.mv 35 (.t 5)), g0 (.call (some 36) 137 [(.t 34), (.t 35)]), g0 (.mv 33 (.t 36)), g0 (.ext 37 (.t 33) 0), g0 (.ext 38 (.t 33) 1), g0 (.mv 8 (.t 37)), g0 (.mv 9 (.t 38))])
  (.seq (.seq (.ops [g0 (.mv 39 (.t 9)), g0 (.bin 40 .lss (.t 39) (.c (.int .i64 0)))])
  (.cond (.t 40) (.seq (.ops [g0 (.build 41 [(.int .i64 0), (.str []), (.int .i64 0), (.int .i64 0), (.int .i64 0), (.str []), .nils, (.int .i64 0)] []), g0 (.store (.t 2) (.t 41) 8 (some 2)), g0 (.mv 3 (.c (.bool false)))])
  (.ret))
  (.skip)))
  (.seq (.ops [g0 (.mv 42 (.t 8)), g0 (.fldA 43 (.t 6) 3 none), g0 (.store (.t 43) (.t 42) 1 (some 6))])
  (.seq (.ops [g0 (.mv 7 (.c (.bool true)))])
  (.ops [g0 (.mv 44 (.t 9)), g0 (.mv 5 (.t 44))])))))
  (.seq (.ops [g0 (.mv 45 (.t 0)), g0 (.mv 46 (.t 5)), g0 (.call (some 47) 106 [(.t 45), (.t 46)]), g0 (.mv 10 (.t 47))])
  (.seq (.ops [g0 (.mv 49 (.t 0)), g0 (.mv 50 (.t 5)), g0 (.mv 51 (.t 10)), g0 (.slc 52 none (.t 49) (some (.t 50)) (some (.t 51)) none), g0 (.call (some 53) 108 [(.t 52)]), g0 (.mv 48 (.t 53)), g0 (.ext 54 (.t 48) 0), g0 (.ext 55 (.t 48) 1), g0 (.mv 11 (.t 54)), g0 (.mv 12 (.t 55))])
  (.seq (.seq (.ops [g0 (.mv 56 (.t 12)), g0 (.un 57 .not (.t 56))])
  (.cond (.t 57) (.seq (.ops [g0 (.build 58 [(.int .i64 0), (.str []), (.int .i64 0), (.int .i64 0), (.int .i64 0), (.str []), .nils, (.int .i64 0)] []), g0 (.store (.t 2) (.t 58) 8 (some 2)), g0 (.mv 3 (.c (.bool false)))])
  (.ret))
  (.skip)))
  (.seq (.ops [g0 (.mv 59 (.t 4)), g0 (.mv 60 (.t 11)), g0 (.bsl 61 1 false [(.t 60)]), g0 (.app 62 (.t 59) (.t 61) 1), g0 (.mv 4 (.t 62))])
  (.ops [g0 (.mv 63 (.t 10)), g0 (.mv 5 (.t 63))]))))))))))
/-- notary/notaryref51.Refactor -/
def F107 : IFunc := ⟨.pure, .seq (.ops [g0 (.boxL 2 8 none [(.int .i64 0), (.str []), (.int .i64 0), (.int .i64 0), (.int .i64 0), (.str []), .nils, (.int .i64 0)]), g0 (.mv 3 (.c (.bool false)))])
  (.seq (.ops [g0 (.bsl 13 1 false []), g0 (.mv 4 (.t 13))])
  (.seq (.ops [g0 (.mv 5 (.c (.int .i64 0)))])
  (.seq (.ops [g0 (.build 14 [(.int .i64 0), (.int .i64 0), (.int .i64 0), (.str []), .nils] []), g0 (.boxL 6 5 none [(.int .i64 0), (.int .i64 0), (.int .i64 0), (.str []), .nils]), g0 (.store (.t 6) (.t 14) 5 (some 6))])
  (.seq (.ops [g0 (.mv 7 (.c (.bool false)))])
  (.seq (.block 0 (.loop L107_0))
  (.seq (.seq (.ops [g0 (.mv 64 (.t 7)), g0 (.un 65 .not (.t 64))])
  (.cond (.t 65) (.seq (.ops [g0 (.build 66 [(.int .i64 0), (.str []), (.int .i64 0), (.int .i64 0), (.int .i64 0), (.str []), .nils, (.int .i64 0)] []), g0 (.store (.t 2) (.t 66) 8 (some 2)), g0 (.mv 3 (.c (.bool false)))])
  (.ret))
  (.skip)))
  (.seq (.ops [g0 (.mv 67 (.t 4)), g0 (.idxA 68 (.t 67) (.c (.int .i64 0)) 1 none none), g0 (.load 69 (.t 68) none none false), g0 (.fldA 70 (.t 6) 0 none), g0 (.store (.t 70) (.t 69) 1 (some 6))])
  (.seq (.ops [g0 (.mv 71 (.t 4)), g0 (.idxA 72 (.t 71) (.c (.int .i64 1)) 1 none none), g0 (.load 73 (.t 72) none none false), g0 (.fldA 74 (.t 6) 1 none), g0 (.store (.t 74) (.t 73) 1 (some 6))])
  (.seq (.ops [g0 (.mv 75 (.t 4)), g0 (.idxA 76 (.t 75) (.c (.int .i64 2)) 1 none none), g0 (.load 77 (.t 76) none none false), g0 (.fldA 78 (.t 6) 2 none), g0 (.store (.t 78) (.t 77) 1 (some 6))])
  (.seq (.ops [g0 (.bsl 79 1 false []), g0 (.mv 80 (.t 4)), g0 (.slc 81 (some 1) (.t 80) (some (.c (.int .i64 3))) none none), g0 (.app 82 (.t 79) (.t 81) 1), g0 (.fldA 83 (.t 6) 4 none), g0 (.store (.t 83) (.t 82) 1 (some 6))])
  (.seq (.ops [g0 (.load 84 (.t 6) (some 5) (some 6) false), g0 (.build 85 [(.int .i64 0), (.str []), (.int .i64 0), (.int .i64 0), (.int .i64 0), (.str []), .nils, (.int .i64 0)] [(0, 1, (.c (.int .i64 2))), (2, 5, (.t 84))]), g0 (.store (.t 2) (.t 85) 8 (some 2)), g0 (.mv 3 (.c (.bool true)))])
  (.ret)))))))))))),
  [.cell 2 (some 8) (some 2), .t 3]⟩
/-- notary/notaryref51.Number -/
def F108 : IFunc := ⟨.pure, .seq (.ops [g0 (.mv 2 (.c (.int .i64 0))), g0 (.mv 3 (.c (.bool false)))])
  (.seq (.seq (.ops [g0 (.mv 6 (.t 0)), g0 (.len 7 .str (.t 6) false), g0 (.bin 8 .gtr (.t 7) (.c (.int .i64 1))), g0 (.mv 9 (.t 8)), g1 9 true (.mv 10 (.t 0)), g1 9 true (.idx 11 (.t 10) (.c (.int .i64 0)) none 1 none), g1 9 true (.bin 12 .eql (.t 11) (.c (.int .u8 45))), g0 (.pick 13 (.t 9) (.t 12) (.c (.bool false)))])
  (.cond (.t 13) (.seq (.seq (.ops [g0 (.mv 14 (.t 0)), g0 (.bin 15 .eql (.t 14) (.c (.str [45, 57, 50, 50, 51, 51, 55, 50, 48, 51, 54, 56, 53, 52, 55, 55, 53, 56, 48, 56])))])
  (.cond (.t 15) (.seq (.ops [g0 (.mv 2 (.c (.int .i64 (-9223372036854775808)))), g0 (.mv 3 (.c (.bool true)))])
  (.ret))
  (.skip)))
  (.seq (.ops [g0 (.mv 17 (.t 0)), g0 (.slc 18 none (.t 17) (some (.c (.int .i64 1))) none none), g0 (.call (some 19) 138 [(.t 18)]), g0 (.mv 16 (.t 19)), g0 (.ext 20 (.t 16) 0), g0 (.ext 21 (.t 16) 1), g0 (.mv 4 (.t 20)), g0 (.mv 5 (.t 21))])
  (.seq (.ops [g0 (.mv 22 (.t 4)), g0 (.un 23 .neg (.t 22)), g0 (.mv 24 (.t 5)), g0 (.mv 25 (.t 24)), g1 25 true (.mv 26 (.t 4)), g1 25 true (.bin 27 .gtr (.t 26) (.c (.int .i64 0))), g0 (.pick 28 (.t 25) (.t 27) (.c (.bool false))), g0 (.mv 2 (.t 23)), g0 (.mv 3 (.t 28))])
  (.ret))))
  (.skip)))
  (.seq (.ops [g0 (.mv 29 (.t 0)), g0 (.call (some 30) 138 [(.t 29)]), g0 (.ext 31 (.t 30) 0), g0 (.ext 32 (.t 30) 1), g0 (.mv 2 (.t 31)), g0 (.mv 3 (.t 32))])
  (.ret))),
  [.t 2, .t 3]⟩
/-- notary/notaryref51.Text -/
def F109 : IFunc := ⟨.pure, .seq (.ops [g0 (.mv 2 (.c (.str []))), g0 (.mv 3 (.c (.bool false)))])
  (.seq (.seq (.ops [g0 (.mv 6 (.t 0)), g0 (.len 7 .str (.t 6) false), g0 (.bin 8 .eql (.t 7) (.c (.int .i64 0))), g0 (.mv 9 (.t 8)), g1 9 false (.mv 10 (.t 0)), g1 9 false (.idx 11 (.t 10) (.c (.int .i64 0)) none 1 none), g1 9 false (.bin 12 .neq (.t 11) (.c (.int .u8 32))), g0 (.pick 13 (.t 9) (.c (.bool true)) (.t 12))])
  (.cond (.t 13) (.seq (.ops [g0 (.mv 2 (.c (.str []))), g0 (.mv 3 (.c (.bool false)))])
  (.ret))
  (.skip)))
  (.seq (.ops [g0 (.mv 15 (.t 0)), g0 (.call (some 16) 137 [(.t 15), (.c (.int .i64 1))]), g0 (.mv 14 (.t 16)), g0 (.ext 17 (.t 14) 0), g0 (.ext 18 (.t 14) 1), g0 (.mv 4 (.t 17)), g0 (.mv 5 (.t 18))])
  (.seq (.ops [g0 (.mv 19 (.t 4)), g0 (.mv 20 (.t 5)), g0 (.mv 21 (.t 0)), g0 (.len 22 .str (.t 21) false), g0 (.bin 23 .eql (.t 20) (.t 22)), g0 (.mv 2 (.t 19)), g0 (.mv 3 (.t 23))])
  (.ret)))),
  [.t 2, .t 3]⟩
/-- (*notary/lex.reader).peek -/
def F124 : IFunc := ⟨.raw, .seq (.ops [g0 (.mv 4 (.c (.int .u8 0)))])
  (.seq (.seq (.ops [g0 (.mv 5 (.t 0)), g0 (.nilc (some 6) (.t 5)), g0 (.fldA 7 (.t 6) 1 none), g0 (.load 8 (.t 7) none none false), g0 (.mv 9 (.t 1)), g0 (.bin 10 .add (.t 8) (.t 9)), g0 (.mv 11 (.t 0)), g0 (.nilc (some 12) (.t 11)), g0 (.fldA 13 (.t 12) 0 none), g0 (.load 14 (.t 13) none none false), g0 (.len 15 .str (.t 14) false), g0 (.bin 16 .lss (.t 10) (.t 15))])
  (.cond (.t 16) (.seq (.ops [g0 (.mv 17 (.t 0)), g0 (.nilc (some 18) (.t 17)), g0 (.fldA 19 (.t 18) 0 none), g0 (.load 20 (.t 19) none none false), g0 (.mv 21 (.t 0)), g0 (.nilc (some 22) (.t 21)), g0 (.fldA 23 (.t 22) 1 none), g0 (.load 24 (.t 23) none none false), g0 (.mv 25 (.t 1)), g0 (.bin 26 .add (.t 24) (.t 25)), g0 (.idx 27 (.t 20) (.t 26) none 1 none), g0 (.mv 4 (.t 27))])
  (.ret))
  (.skip)))
  (.seq (.ops [g0 (.mv 4 (.c (.int .u8 0)))])
  (.ret))),
  [.t 4]⟩
def L125_0 : Ic := .seq (.seq (.ops [g0 (.mv 10 (.t 0)), g0 (.nilc (some 11) (.t 10)), g0 (.fldA 12 (.t 11) 1 none), g0 (.load 13 (.t 12) none none false), g0 (.mv 14 (.t 0)), g0 (.nilc (some 15) (.t 14)), g0 (.fldA 16 (.t 15) 0 none), g0 (.load 17 (.t 16) none none false), g0 (.len 18 .str (.t 17) false), g0 (.bin 19 .lss (.t 13) (.t 18)), g0 (.mv 20 (.t 19)), g1 20 true (.mv 21 (.t 1)), g1 20 true (.mv 22 (.t 0)), g1 20 true (.nilc (some 23) (.t 22)), g1 20 true (.fldA 24 (.t 23) 0 none), g1 20 true (.load 25 (.t 24) none none false), g1 20 true (.mv 26 (.t 0)), g1 20 true (.nilc (some 27) (.t 26)), g1 20 true (.fldA 28 (.t 27) 1 none), g1 20 true (.load 29 (.t 28) none none false), g1 20 true (.idx 30 (.t 25) (.t 29) none 1 none), g1 20 true (.callV (some 31) (.t 21) [(.t 30)]), g0 (.pick 32 (.t 20) (.t 31) (.c (.bool false)))])
  (.cond (.t 32) (.skip)
  (.exit 0)))
  (.block 1 (.ops [g0 (.mv 33 (.t 0)), g0 (.nilc (some 34) (.t 33)), g0 (.fldA 35 (.t 34) 1 none), g0 (.load 36 (.t 35) none none false), g0 (.bin 37 .add (.t 36) (.c (.int .i64 1))), g0 (.nilc (some 38) (.t 33)), g0 (.fldA 39 (.t 38) 1 none), g0 (.store (.t 39) (.t 37) 1 none)]))
/-- (*notary/lex.reader).run -/
def F125 : IFunc := ⟨.raw, .seq (.ops [g0 (.mv 4 (.c (.str [])))])
  (.seq (.ops [g0 (.mv 6 (.t 0)), g0 (.nilc (some 7) (.t 6)), g0 (.fldA 8 (.t 7) 1 none), g0 (.load 9 (.t 8) none none false), g0 (.mv 5 (.t 9))])
  (.seq (.block 0 (.loop L125_0))
  (.seq (.ops [g0 (.mv 40 (.t 0)), g0 (.nilc (some 41) (.t 40)), g0 (.fldA 42 (.t 41) 0 none), g0 (.load 43 (.t 42) none none false), g0 (.mv 44 (.t 5)), g0 (.mv 45 (.t 0)), g0 (.nilc (some 46) (.t 45)), g0 (.fldA 47 (.t 46) 1 none), g0 (.load 48 (.t 47) none none false), g0 (.slc 49 none (.t 43) (some (.t 44)) (some (.t 48)) none), g0 (.mv 4 (.t 49))])
  (.ret)))),
  [.t 4]⟩
/-- (*notary/lex.reader).isLine -/
def F126 : IFunc := ⟨.raw, .seq (.ops [g0 (.mv 4 (.c (.bool false)))])
  (.seq (.ops [g0 (.mv 5 (.t 1)), g0 (.bin 6 .neq (.t 5) (.c (.int .u8 10))), g0 (.mv 4 (.t 6))])
  (.ret)),
  [.t 4]⟩
/-- (*notary/lex.reader).isLetter -/
def F127 : IFunc := ⟨.raw, .seq (.ops [g0 (.mv 4 (.c (.bool false)))])
  (.seq (.ops [g0 (.mv 5 (.t 1)), g0 (.bin 6 .geq (.t 5) (.c (.int .u8 97))), g0 (.mv 7 (.t 6)), g1 7 true (.mv 8 (.t 1)), g1 7 true (.bin 9 .leq (.t 8) (.c (.int .u8 122))), g0 (.pick 10 (.t 7) (.t 9) (.c (.bool false))), g0 (.mv 11 (.t 10)), g1 11 false (.mv 12 (.t 1)), g1 11 false (.bin 13 .geq (.t 12) (.c (.int .u8 65))), g1 11 false (.mv 14 (.t 13)), g1 14 true (.mv 15 (.t 1)), g1 14 true (.bin 16 .leq (.t 15) (.c (.int .u8 90))), g1 11 false (.pick 17 (.t 14) (.t 16) (.c (.bool false))), g0 (.pick 18 (.t 11) (.c (.bool true)) (.t 17)), g0 (.mv 19 (.t 18)), g1 19 false (.mv 20 (.t 1)), g1 19 false (.bin 21 .eql (.t 20) (.c (.int .u8 95))), g0 (.pick 22 (.t 19) (.c (.bool true)) (.t 21)), g0 (.mv 4 (.t 22))])
  (.ret)),
  [.t 4]⟩
/-- (*notary/lex.reader).word -/
def F128 : IFunc := ⟨.raw, .seq (.ops [g0 (.mv 2 (.c (.int .i64 0)))])
  (.seq (.ops [g0 (.mv 5 (.t 0)), g0 (.nilc (some 6) (.t 5)), g0 (.fldA 7 (.t 6) 1 none), g0 (.load 8 (.t 7) none none false), g0 (.mv 3 (.t 8))])
  (.seq (.ops [g0 (.mv 9 (.t 0)), g0 (.mv 10 (.t 0)), g0 (.mkfn 11 144 [(.t 10)] []), g0 (.call (some 12) 125 [(.t 9), (.t 11)]), g0 (.mv 4 (.t 12))])
  (.seq (.seq (.ops [g0 (.mv 13 (.t 4)), g0 (.len 14 .str (.t 13) false), g0 (.bin 15 .gtr (.t 14) (.c (.int .i64 16)))])
  (.cond (.t 15) (.seq (.ops [g0 (.mv 2 (.c (.int .i64 3)))])
  (.ret))
  (.skip)))
  (.seq (.seq (.ops [g0 (.mv 16 (.t 4)), g0 (.call (some 17) 145 [(.t 16)])])
  (.cond (.t 17) (.ops [g0 (.mv 18 (.t 0)), g0 (.mv 19 (.t 4)), g0 (.mv 20 (.t 3)), g0 (.call (some 21) 87 [(.t 18), (.c (.int .i64 3)), (.c (.int .i64 0)), (.t 19), (.t 20)])])
  (.ops [g0 (.mv 22 (.t 0)), g0 (.mv 23 (.t 4)), g0 (.mv 24 (.t 3)), g0 (.call (some 25) 87 [(.t 22), (.c (.int .i64 1)), (.c (.int .i64 0)), (.t 23), (.t 24)])])))
  (.seq (.ops [g0 (.mv 2 (.c (.int .i64 0)))])
  (.ret)))))),
  [.t 2]⟩
/-- (*notary/lex.reader).isDigit -/
def F129 : IFunc := ⟨.raw, .seq (.ops [g0 (.mv 4 (.c (.bool false)))])
  (.seq (.ops [g0 (.mv 5 (.t 1)), g0 (.bin 6 .geq (.t 5) (.c (.int .u8 48))), g0 (.mv 7 (.t 6)), g1 7 true (.mv 8 (.t 1)), g1 7 true (.bin 9 .leq (.t 8) (.c (.int .u8 57))), g0 (.pick 10 (.t 7) (.t 9) (.c (.bool false))), g0 (.mv 4 (.t 10))])
  (.ret)),
  [.t 4]⟩
def L130_0 : Ic := .seq (.ops [g0 (.bin 31 .lss (.t 30) (.t 29))])
  (.seq (.cond (.t 31) (.skip)
  (.exit 0))
  (.seq (.block 1 (.seq (.ops [g0 (.mv 32 (.t 30)), g0 (.mv 6 (.t 32))])
  (.ops [g0 (.mv 33 (.t 5)), g0 (.bin 34 .mul (.t 33) (.c (.int .u64 10))), g0 (.mv 35 (.t 4)), g0 (.mv 36 (.t 6)), g0 (.idx 37 (.t 35) (.t 36) none 1 none), g0 (.bin 38 .sub (.t 37) (.c (.int .u8 48))), g0 (.conv 39 (.int .u64) (.t 38)), g0 (.bin 40 .add (.t 34) (.t 39)), g0 (.mv 5 (.t 40))])))
  (.ops [g0 (.bin 41 .add (.t 30) (.c (.int .i64 1))), g0 (.mv 30 (.t 41))])))
/-- (*notary/lex.reader).number -/
def F130 : IFunc := ⟨.raw, .seq (.ops [g0 (.mv 2 (.c (.int .i64 0)))])
  (.seq (.ops [g0 (.mv 7 (.t 0)), g0 (.nilc (some 8) (.t 7)), g0 (.fldA 9 (.t 8) 1 none), g0 (.load 10 (.t 9) none none false), g0 (.mv 3 (.t 10))])
  (.seq (.ops [g0 (.mv 11 (.t 0)), g0 (.mv 12 (.t 0)), g0 (.mkfn 13 129 [(.t 12)] []), g0 (.call (some 14) 125 [(.t 11), (.t 13)]), g0 (.mv 4 (.t 14))])
  (.seq (.seq (.ops [g0 (.mv 15 (.t 4)), g0 (.len 16 .str (.t 15) false), g0 (.bin 17 .gtr (.t 16) (.c (.int .i64 19))), g0 (.mv 18 (.t 17)), g1 18 false (.mv 19 (.t 4)), g1 18 false (.len 20 .str (.t 19) false), g1 18 false (.bin 21 .gtr (.t 20) (.c (.int .i64 1))), g1 18 false (.mv 22 (.t 21)), g1 22 true (.mv 23 (.t 4)), g1 22 true (.idx 24 (.t 23) (.c (.int .i64 0)) none 1 none), g1 22 true (.bin 25 .eql (.t 24) (.c (.int .u8 48))), g1 18 false (.pick 26 (.t 22) (.t 25) (.c (.bool false))), g0 (.pick 27 (.t 18) (.c (.bool true)) (.t 26))])
  (.cond (.t 27) (.seq (.ops [g0 (.mv 2 (.c (.int .i64 5)))])
  (.ret))
  (.skip)))
  (.seq (.ops [g0 (.mv 5 (.c (.int .u64 0)))])
  (.seq (.seq (.ops [g0 (.mv 28 (.t 4)), g0 (.len 29 .str (.t 28) false), g0 (.mv 30 (.c (.int .i64 0)))])
  (.block 0 (.loop L130_0)))
  (.seq (.seq (.ops [g0 (.mv 42 (.t 5)), g0 (.bin 43 .gtr (.t 42) (.c (.int .u64 9223372036854775807)))])
  (.cond (.t 43) (.seq (.ops [g0 (.mv 2 (.c (.int .i64 5)))])
  (.ret))
  (.skip)))
  (.seq (.ops [g0 (.mv 44 (.t 0)), g0 (.mv 45 (.t 5)), g0 (.conv 46 (.int .i64) (.t 45)), g0 (.mv 47 (.t 3)), g0 (.call (some 48) 87 [(.t 44), (.c (.int .i64 2)), (.t 46), (.c (.str [])), (.t 47)])])
  (.seq (.ops [g0 (.mv 2 (.c (.int .i64 0)))])
  (.ret))))))))),
  [.t 2]⟩
/-- notary/lex.signAt -/
def F131 : IFunc := ⟨.pure, .seq (.ops [g0 (.mv 4 (.c (.int .i64 0)))])
  (.seq (.seq (.ops [g0 (.mv 5 (.t 0))])
  (.block 0 (.seq (.seq (.ops [g0 (.bin 7 .eql (.t 5) (.c (.int .u8 61))), g0 (.mv 6 (.t 7))])
  (.cond (.t 6) (.skip)
  (.seq (.ops [g0 (.bin 8 .eql (.t 5) (.c (.int .u8 33))), g0 (.mv 6 (.t 8))])
  (.cond (.t 6) (.skip)
  (.seq (.ops [g0 (.bin 9 .eql (.t 5) (.c (.int .u8 60))), g0 (.mv 6 (.t 9))])
  (.cond (.t 6) (.skip)
  (.ops [g0 (.bin 10 .eql (.t 5) (.c (.int .u8 62))), g0 (.mv 6 (.t 10))])))))))
  (.cond (.t 6) (.seq (.seq (.ops [g0 (.mv 11 (.t 1)), g0 (.bin 12 .eql (.t 11) (.c (.int .u8 61)))])
  (.cond (.t 12) (.seq (.ops [g0 (.mv 4 (.c (.int .i64 2)))])
  (.ret))
  (.skip)))
  (.seq (.ops [g0 (.mv 4 (.c (.int .i64 1)))])
  (.ret)))
  (.seq (.seq (.ops [g0 (.bin 14 .eql (.t 5) (.c (.int .u8 38))), g0 (.mv 13 (.t 14))])
  (.cond (.t 13) (.skip)
  (.ops [g0 (.bin 15 .eql (.t 5) (.c (.int .u8 124))), g0 (.mv 13 (.t 15))])))
  (.cond (.t 13) (.seq (.seq (.ops [g0 (.mv 16 (.t 1)), g0 (.mv 17 (.t 0)), g0 (.bin 18 .eql (.t 16) (.t 17))])
  (.cond (.t 18) (.seq (.ops [g0 (.mv 4 (.c (.int .i64 2)))])
  (.ret))
  (.skip)))
  (.seq (.ops [g0 (.mv 4 (.c (.int .i64 0)))])
  (.ret)))
  (.seq (.seq (.ops [g0 (.bin 20 .eql (.t 5) (.c (.int .u8 123))), g0 (.mv 19 (.t 20))])
  (.cond (.t 19) (.skip)
  (.seq (.ops [g0 (.bin 21 .eql (.t 5) (.c (.int .u8 125))), g0 (.mv 19 (.t 21))])
  (.cond (.t 19) (.skip)
  (.seq (.ops [g0 (.bin 22 .eql (.t 5) (.c (.int .u8 40))), g0 (.mv 19 (.t 22))])
  (.cond (.t 19) (.skip)
  (.seq (.ops [g0 (.bin 23 .eql (.t 5) (.c (.int .u8 41))), g0 (.mv 19 (.t 23))])
  (.cond (.t 19) (.skip)
  (.seq (.ops [g0 (.bin 24 .eql (.t 5) (.c (.int .u8 91))), g0 (.mv 19 (.t 24))])
  (.cond (.t 19) (.skip)
  (.seq (.ops [g0 (.bin 25 .eql (.t 5) (.c (.int .u8 93))), g0 (.mv 19 (.t 25))])
  (.cond (.t 19) (.skip)
  (.seq (.ops [g0 (.bin 26 .eql (.t 5) (.c (.int .u8 44))), g0 (.mv 19 (.t 26))])
  (.cond (.t 19) (.skip)
  (.seq (.ops [g0 (.bin 27 .eql (.t 5) (.c (.int .u8 59))), g0 (.mv 19 (.t 27))])
  (.cond (.t 19) (.skip)
  (.seq (.ops [g0 (.bin 28 .eql (.t 5) (.c (.int .u8 58))), g0 (.mv 19 (.t 28))])
  (.cond (.t 19) (.skip)
  (.seq (.ops [g0 (.bin 29 .eql (.t 5) (.c (.int .u8 46))), g0 (.mv 19 (.t 29))])
  (.cond (.t 19) (.skip)
  (.seq (.ops [g0 (.bin 30 .eql (.t 5) (.c (.int .u8 43))), g0 (.mv 19 (.t 30))])
  (.cond (.t 19) (.skip)
  (.seq (.ops [g0 (.bin 31 .eql (.t 5) (.c (.int .u8 45))), g0 (.mv 19 (.t 31))])
  (.cond (.t 19) (.skip)
  (.seq (.ops [g0 (.bin 32 .eql (.t 5) (.c (.int .u8 42))), g0 (.mv 19 (.t 32))])
  (.cond (.t 19) (.skip)
  (.seq (.ops [g0 (.bin 33 .eql (.t 5) (.c (.int .u8 47))), g0 (.mv 19 (.t 33))])
  (.cond (.t 19) (.skip)
  (.seq (.ops [g0 (.bin 34 .eql (.t 5) (.c (.int .u8 37))), g0 (.mv 19 (.t 34))])
  (.cond (.t 19) (.skip)
  (.ops [g0 (.bin 35 .eql (.t 5) (.c (.int .u8 64))), g0 (.mv 19 (.t 35))])))))))))))))))))))))))))))))))
  (.cond (.t 19) (.seq (.ops [g0 (.mv 4 (.c (.int .i64 1)))])
  (.ret))
  (.skip)))))))))
  (.seq (.ops [g0 (.mv 4 (.c (.int .i64 0)))])
  (.ret))),
  [.t 4]⟩
/-- internal/stringslite.Index -/
def F133 : IFunc := ⟨.raw, .prim 7,
  [.t 0]⟩
def L134_0 : Ic := .seq (.seq (.ops [g0 (.mv 17 (.t 0)), g0 (.nilc (some 18) (.t 17)), g0 (.fldA 19 (.t 18) 1 none), g0 (.load 20 (.t 19) none none false), g0 (.mv 21 (.t 0)), g0 (.nilc (some 22) (.t 21)), g0 (.fldA 23 (.t 22) 0 none), g0 (.load 24 (.t 23) none none false), g0 (.len 25 .str (.t 24) false), g0 (.bin 26 .lss (.t 20) (.t 25)), g0 (.mv 27 (.t 26)), g1 27 true (.mv 28 (.t 0)), g1 27 true (.nilc (some 29) (.t 28)), g1 27 true (.fldA 30 (.t 29) 0 none), g1 27 true (.load 31 (.t 30) none none false), g1 27 true (.mv 32 (.t 0)), g1 27 true (.nilc (some 33) (.t 32)), g1 27 true (.fldA 34 (.t 33) 1 none), g1 27 true (.load 35 (.t 34) none none false), g1 27 true (.idx 36 (.t 31) (.t 35) none 1 none), g1 27 true (.bin 37 .neq (.t 36) (.c (.int .u8 34))), g0 (.pick 38 (.t 27) (.t 37) (.c (.bool false)))])
  (.cond (.t 38) (.skip)
  (.exit 0)))
  (.block 1 (.seq (.ops [g0 (.mv 39 (.t 0)), g0 (.nilc (some 40) (.t 39)), g0 (.fldA 41 (.t 40) 0 none), g0 (.load 42 (.t 41) none none false), g0 (.mv 43 (.t 0)), g0 (.nilc (some 44) (.t 43)), g0 (.fldA 45 (.t 44) 1 none), g0 (.load 46 (.t 45) none none false), g0 (.idx 47 (.t 42) (.t 46) none 1 none), g0 (.mv 5 (.t 47))])
  (.seq (.ops [g0 (.mv 48 (.t 0)), g0 (.nilc (some 49) (.t 48)), g0 (.fldA 50 (.t 49) 1 none), g0 (.load 51 (.t 50) none none false), g0 (.bin 52 .add (.t 51) (.c (.int .i64 1))), g0 (.nilc (some 53) (.t 48)), g0 (.fldA 54 (.t 53) 1 none), g0 (.store (.t 54) (.t 52) 1 none)])
  (.seq (.seq (.ops [g0 (.mv 55 (.t 5)), g0 (.bin 56 .eql (.t 55) (.c (.int .u8 92)))])
  (.cond (.t 56) (.ops [g0 (.mv 57 (.t 0)), g0 (.call (some 58) 150 [(.t 57)]), g0 (.mv 5 (.t 58))])
  (.skip)))
  (.ops [g0 (.mv 59 (.t 4)), g0 (.mv 60 (.t 5)), g0 (.bsl 61 1 false [(.t 60)]), g0 (.appT 62 (.t 59) (.t 61) 1 5), g0 (.mv 4 (.t 62))])))))
/-- (*notary/script.reader).quoted -/
def F134 : IFunc := ⟨.raw, .seq (.ops [g0 (.mv 2 (.c (.str [])))])
  (.seq (.ops [g0 (.mv 6 (.t 0)), g0 (.nilc (some 7) (.t 6)), g0 (.fldA 8 (.t 7) 1 none), g0 (.load 9 (.t 8) none none false), g0 (.mv 3 (.t 9))])
  (.seq (.ops [g0 (.mv 4 (.c .nils))])
  (.seq (.ops [g0 (.mv 10 (.t 0)), g0 (.nilc (some 11) (.t 10)), g0 (.fldA 12 (.t 11) 1 none), g0 (.load 13 (.t 12) none none false), g0 (.bin 14 .add (.t 13) (.c (.int .i64 1))), g0 (.nilc (some 15) (.t 10)), g0 (.fldA 16 (.t 15) 1 none), g0 (.store (.t 16) (.t 14) 1 none)])
  (.seq (.block 0 (.loop L134_0))
  (.seq (.ops [g0 (.mv 63 (.t 0)), g0 (.nilc (some 64) (.t 63)), g0 (.fldA 65 (.t 64) 1 none), g0 (.load 66 (.t 65) none none false), g0 (.bin 67 .add (.t 66) (.c (.int .i64 1))), g0 (.nilc (some 68) (.t 63)), g0 (.fldA 69 (.t 68) 1 none), g0 (.store (.t 69) (.t 67) 1 none)])
  (.seq (.seq (.ops [g0 (.mv 70 (.t 0)), g0 (.nilc (some 71) (.t 70)), g0 (.fldA 72 (.t 71) 1 none), g0 (.load 73 (.t 72) none none false), g0 (.mv 74 (.t 0)), g0 (.nilc (some 75) (.t 74)), g0 (.fldA 76 (.t 75) 0 none), g0 (.load 77 (.t 76) none none false), g0 (.len 78 .str (.t 77) false), g0 (.bin 79 .gtr (.t 73) (.t 78)), g0 (.mv 80 (.t 79)), g1 80 false (.mv 81 (.t 4)), g1 80 false (.conv 82 .bytesstr (.t 81)), g1 80 false (.callQ (some 83) 27 [(.t 82)]), g1 80 false (.mv 84 (.t 0)), g1 80 false (.nilc (some 85) (.t 84)), g1 80 false (.fldA 86 (.t 85) 0 none), g1 80 false (.load 87 (.t 86) none none false), g1 80 false (.mv 88 (.t 3)), g1 80 false (.mv 89 (.t 0)), g1 80 false (.nilc (some 90) (.t 89)), g1 80 false (.fldA 91 (.t 90) 1 none), g1 80 false (.load 92 (.t 91) none none false), g1 80 false (.slc 93 none (.t 87) (some (.t 88)) (some (.t 92)) none), g1 80 false (.bin 94 .neq (.t 83) (.t 93)), g0 (.pick 95 (.t 80) (.c (.bool true)) (.t 94))])
  (.cond (.t 95) (.seq (.ops [g0 (.mv 96 (.t 0)), g0 (.nilc (some 97) (.t 96)), g0 (.fldA 98 (.t 97) 2 none), g0 (.store (.t 98) (.c (.bool false)) 1 none)])
  (.ops [g0 (.mv 99 (.t 0)), g0 (.mv 100 (.t 0)), g0 (.nilc (some 101) (.t 100)), g0 (.fldA 102 (.t 101) 0 none), g0 (.load 103 (.t 102) none none false), g0 (.len 104 .str (.t 103) false), g0 (.nilc (some 105) (.t 99)), g0 (.fldA 106 (.t 105) 1 none), g0 (.store (.t 106) (.t 104) 1 none)]))
  (.skip)))
  (.seq (.ops [g0 (.mv 107 (.t 4)), g0 (.conv 108 .bytesstr (.t 107)), g0 (.mv 2 (.t 108))])
  (.ret)))))))),
  [.t 2]⟩
def L135_0 : Ic := .block 1 (.seq (.ops [g0 (.mv 12 (.t 4)), g0 (.bin 13 .sub (.t 12) (.c (.int .i64 1))), g0 (.mv 4 (.t 13))])
  (.seq (.ops [g0 (.mv 14 (.t 4)), g0 (.mv 15 (.t 5)), g0 (.bin 16 .rem (.t 15) (.c (.int .u64 10))), g0 (.bin 17 .add (.c (.int .u64 48)) (.t 16)), g0 (.conv 18 (.int .u8) (.t 17)), g0 (.idxA 19 (.t 3) (.t 14) 1 none (some 20)), g0 (.store (.t 19) (.t 18) 1 none)])
  (.seq (.ops [g0 (.mv 20 (.t 5)), g0 (.bin 21 .quo (.t 20) (.c (.int .u64 10))), g0 (.mv 5 (.t 21))])
  (.seq (.ops [g0 (.mv 22 (.t 5)), g0 (.bin 23 .eql (.t 22) (.c (.int .u64 0)))])
  (.cond (.t 23) (.exit 0)
  (.skip))))))
/-- notary/lex.Digits -/
def F135 : IFunc := ⟨.pure, .seq (.ops [g0 (.mv 2 (.c (.str [])))])
  (.seq (.ops [g0 (.boxH 3 (some 20) (.c (.agg [(.int .u8 0), (.int .u8 0), (.int .u8 0), (.int .u8 0), (.int .u8 0), (.int .u8 0), (.int .u8 0), (.int .u8 0), (.int .u8 0), (.int .u8 0), (.int .u8 0), (.int .u8 0), (.int .u8 0), (.int .u8 0), (.int .u8 0), (.int .u8 0), (.int .u8 0), (.int .u8 0), (.int .u8 0), (.int .u8 0)])))])
  (.seq (.ops [g0 (.mv 4 (.c (.int .i64 20)))])
  (.seq (.ops [g0 (.mv 6 (.t 0)), g0 (.conv 7 (.int .u64) (.t 6)), g0 (.mv 5 (.t 7))])
  (.seq (.seq (.ops [g0 (.mv 8 (.t 0)), g0 (.bin 9 .lss (.t 8) (.c (.int .i64 0)))])
  (.cond (.t 9) (.ops [g0 (.mv 10 (.t 5)), g0 (.un 11 .neg (.t 10)), g0 (.mv 5 (.t 11))])
  (.skip)))
  (.seq (.block 0 (.loop L135_0))
  (.seq (.seq (.ops [g0 (.mv 24 (.t 0)), g0 (.bin 25 .lss (.t 24) (.c (.int .i64 0)))])
  (.cond (.t 25) (.seq (.ops [g0 (.mv 26 (.t 4)), g0 (.bin 27 .sub (.t 26) (.c (.int .i64 1))), g0 (.mv 4 (.t 27))])
  (.ops [g0 (.mv 28 (.t 4)), g0 (.idxA 29 (.t 3) (.t 28) 1 none (some 20)), g0 (.store (.t 29) (.c (.int .u8 45)) 1 none)]))
  (.skip)))
  (.seq (.ops [g0 (.mv 30 (.t 4)), g0 (.slcA 31 (.t 3) (some (.t 30)) none 20), g0 (.conv 32 .bytesstr (.t 31)), g0 (.mv 2 (.t 32))])
  (.ret)))))))),
  [.t 2]⟩
def L137_0 : Ic := .seq (.seq (.ops [g0 (.mv 22 (.t 1)), g0 (.mv 23 (.t 0)), g0 (.len 24 .str (.t 23) false), g0 (.bin 25 .lss (.t 22) (.t 24)), g0 (.mv 26 (.t 25)), g1 26 true (.mv 27 (.t 0)), g1 26 true (.mv 28 (.t 1)), g1 26 true (.idx 29 (.t 27) (.t 28) none 1 none), g1 26 true (.bin 30 .neq (.t 29) (.c (.int .u8 34))), g0 (.pick 31 (.t 26) (.t 30) (.c (.bool false)))])
  (.cond (.t 31) (.skip)
  (.exit 0)))
  (.block 1 (.seq (.ops [g0 (.mv 32 (.t 0)), g0 (.mv 33 (.t 1)), g0 (.idx 34 (.t 32) (.t 33) none 1 none), g0 (.mv 7 (.t 34))])
  (.seq (.ops [g0 (.mv 8 (.c (.int .i64 1)))])
  (.seq (.seq (.ops [g0 (.mv 35 (.t 7)), g0 (.bin 36 .eql (.t 35) (.c (.int .u8 92)))])
  (.cond (.t 36) (.seq (.seq (.ops [g0 (.mv 37 (.t 1)), g0 (.bin 38 .add (.t 37) (.c (.int .i64 1))), g0 (.mv 39 (.t 0)), g0 (.len 40 .str (.t 39) false), g0 (.bin 41 .geq (.t 38) (.t 40))])
  (.cond (.t 41) (.seq (.ops [g0 (.mv 4 (.c (.str []))), g0 (.mv 5 (.c (.int .i64 (-1))))])
  (.ret))
  (.skip)))
  (.seq (.ops [g0 (.mv 42 (.t 0)), g0 (.mv 43 (.t 1)), g0 (.bin 44 .add (.t 43) (.c (.int .i64 1))), g0 (.idx 45 (.t 42) (.t 44) none 1 none), g0 (.mv 7 (.t 45))])
  (.seq (.ops [g0 (.mv 8 (.c (.int .i64 2)))])
  (.seq (.ops [g0 (.mv 46 (.t 7)), g0 (.bin 47 .eql (.t 46) (.c (.int .u8 110)))])
  (.cond (.t 47) (.ops [g0 (.mv 7 (.c (.int .u8 10)))])
  (.seq (.ops [g0 (.mv 48 (.t 7)), g0 (.bin 49 .eql (.t 48) (.c (.int .u8 120)))])
  (.cond (.t 49) (.seq (.seq (.ops [g0 (.mv 50 (.t 1)), g0 (.bin 51 .add (.t 50) (.c (.int .i64 3))), g0 (.mv 52 (.t 0)), g0 (.len 53 .str (.t 52) false), g0 (.bin 54 .geq (.t 51) (.t 53)), g0 (.mv 55 (.t 54)), g1 55 false (.mv 56 (.t 0)), g1 55 false (.mv 57 (.t 1)), g1 55 false (.bin 58 .add (.t 57) (.c (.int .i64 2))), g1 55 false (.idx 59 (.t 56) (.t 58) none 1 none), g1 55 false (.call (some 60) 152 [(.t 59)]), g1 55 false (.bin 61 .gtr (.t 60) (.c (.int .u8 15))), g0 (.pick 62 (.t 55) (.c (.bool true)) (.t 61)), g0 (.mv 63 (.t 62)), g1 63 false (.mv 64 (.t 0)), g1 63 false (.mv 65 (.t 1)), g1 63 false (.bin 66 .add (.t 65) (.c (.int .i64 3))), g1 63 false (.idx 67 (.t 64) (.t 66) none 1 none), g1 63 false (.call (some 68) 152 [(.t 67)]), g1 63 false (.bin 69 .gtr (.t 68) (.c (.int .u8 15))), g0 (.pick 70 (.t 63) (.c (.bool true)) (.t 69))])
  (.cond (.t 70) (.seq (.ops [g0 (.mv 4 (.c (.str []))), g0 (.mv 5 (.c (.int .i64 (-1))))])
  (.ret))
  (.skip)))
  (.seq (.ops [g0 (.mv 71 (.t 0)), g0 (.mv 72 (.t 1)), g0 (.bin 73 .add (.t 72) (.c (.int .i64 2))), g0 (.idx 74 (.t 71) (.t 73) none 1 none), g0 (.call (some 75) 152 [(.t 74)]), g0 (.bin 76 .mul (.t 75) (.c (.int .u8 16))), g0 (.mv 77 (.t 0)), g0 (.mv 78 (.t 1)), g0 (.bin 79 .add (.t 78) (.c (.int .i64 3))), g0 (.idx 80 (.t 77) (.t 79) none 1 none), g0 (.call (some 81) 152 [(.t 80)]), g0 (.bin 82 .add (.t 76) (.t 81)), g0 (.mv 7 (.t 82))])
  (.ops [g0 (.mv 8 (.c (.int .i64 4)))])))
  (.skip))))))))
  (.skip)))
  (.seq (.seq (.ops [g0 (.mv 83 (.t 1)), g0 (.mv 84 (.t 8)), g0 (.bin 85 .add (.t 83) (.t 84)), g0 (.mv 86 (.t 0)), g0 (.len 87 .str (.t 86) false), g0 (.bin 88 .gtr (.t 85) (.t 87)), g0 (.mv 89 (.t 88)), g1 89 false (.mv 90 (.t 7)), g1 89 false (.call (some 91) 55 [(.t 90)]), g1 89 false (.mv 92 (.t 0)), g1 89 false (.mv 93 (.t 1)), g1 89 false (.mv 94 (.t 1)), g1 89 false (.mv 95 (.t 8)), g1 89 false (.bin 96 .add (.t 94) (.t 95)), g1 89 false (.slc 97 none (.t 92) (some (.t 93)) (some (.t 96)) none), g1 89 false (.bin 98 .neq (.t 91) (.t 97)), g0 (.pick 99 (.t 89) (.c (.bool true)) (.t 98))])
  (.cond (.t 99) (.seq (.ops [g0 (.mv 4 (.c (.str []))), g0 (.mv 5 (.c (.int .i64 (-1))))])
  (.ret))
  (.skip)))
  (.seq (.ops [g0 (.mv 100 (.t 6)), g0 (.mv 101 (.t 7)), g0 (.bsl 102 1 false [(.t 101)]), g0 (.app 103 (.t 100) (.t 102) 1), g0 (.mv 6 (.t 103))])
  (.ops [g0 (.mv 104 (.t 1)), g0 (.mv 105 (.t 8)), g0 (.bin 106 .add (.t 104) (.t 105)), g0 (.mv 1 (.t 106))])))))))
/-- notary/notaryref51.Unquote -/
def F137 : IFunc := ⟨.pure, .seq (.ops [g0 (.mv 4 (.c (.str []))), g0 (.mv 5 (.c (.int .i64 0)))])
  (.seq (.seq (.ops [g0 (.mv 9 (.t 1)), g0 (.mv 10 (.t 0)), g0 (.len 11 .str (.t 10) false), g0 (.bin 12 .geq (.t 9) (.t 11)), g0 (.mv 13 (.t 12)), g1 13 false (.mv 14 (.t 0)), g1 13 false (.mv 15 (.t 1)), g1 13 false (.idx 16 (.t 14) (.t 15) none 1 none), g1 13 false (.bin 17 .neq (.t 16) (.c (.int .u8 34))), g0 (.pick 18 (.t 13) (.c (.bool true)) (.t 17))])
  (.cond (.t 18) (.seq (.ops [g0 (.mv 4 (.c (.str []))), g0 (.mv 5 (.c (.int .i64 (-1))))])
  (.ret))
  (.skip)))
  (.seq (.ops [g0 (.bsl 19 1 false []), g0 (.mv 6 (.t 19))])
  (.seq (.ops [g0 (.mv 20 (.t 1)), g0 (.bin 21 .add (.t 20) (.c (.int .i64 1))), g0 (.mv 1 (.t 21))])
  (.seq (.block 0 (.loop L137_0))
  (.seq (.seq (.ops [g0 (.mv 107 (.t 1)), g0 (.mv 108 (.t 0)), g0 (.len 109 .str (.t 108) false), g0 (.bin 110 .geq (.t 107) (.t 109))])
  (.cond (.t 110) (.seq (.ops [g0 (.mv 4 (.c (.str []))), g0 (.mv 5 (.c (.int .i64 (-1))))])
  (.ret))
  (.skip)))
  (.seq (.ops [g0 (.mv 111 (.t 6)), g0 (.conv 112 .bytesstr (.t 111)), g0 (.mv 113 (.t 1)), g0 (.bin 114 .add (.t 113) (.c (.int .i64 1))), g0 (.mv 4 (.t 112)), g0 (.mv 5 (.t 114))])
  (.ret))))))),
  [.t 4, .t 5]⟩
def L138_0 : Ic := .seq (.seq (.ops [g0 (.mv 7 (.t 4)), g0 (.mv 8 (.t 0)), g0 (.len 9 .str (.t 8) false), g0 (.bin 10 .lss (.t 7) (.t 9))])
  (.cond (.t 10) (.skip)
  (.exit 0)))
  (.seq (.block 1 (.seq (.ops [g0 (.mv 13 (.t 0)), g0 (.mv 14 (.t 4)), g0 (.idx 15 (.t 13) (.t 14) none 1 none), g0 (.bin 16 .lss (.t 15) (.c (.int .u8 48))), g0 (.mv 17 (.t 16)), g1 17 false (.mv 18 (.t 0)), g1 17 false (.mv 19 (.t 4)), g1 17 false (.idx 20 (.t 18) (.t 19) none 1 none), g1 17 false (.bin 21 .gtr (.t 20) (.c (.int .u8 57))), g0 (.pick 22 (.t 17) (.c (.bool true)) (.t 21))])
  (.cond (.t 22) (.seq (.ops [g0 (.mv 2 (.c (.int .i64 0))), g0 (.mv 3 (.c (.bool false)))])
  (.ret))
  (.skip))))
  (.ops [g0 (.mv 11 (.t 4)), g0 (.bin 12 .add (.t 11) (.c (.int .i64 1))), g0 (.mv 4 (.t 12))]))
/-- notary/notaryref51.Plain -/
def F138 : IFunc := ⟨.pure, .seq (.ops [g0 (.mv 2 (.c (.int .i64 0))), g0 (.mv 3 (.c (.bool false)))])
  (.seq (.seq (.ops [g0 (.mv 4 (.c (.int .i64 0)))])
  (.block 0 (.loop L138_0)))
  (.seq (.ops [g0 (.mv 24 (.t 0)), g0 (.call (some 25) 83 [(.t 24)]), g0 (.mv 23 (.t 25)), g0 (.ext 26 (.t 23) 0), g0 (.ext 27 (.t 23) 1), g0 (.mv 5 (.t 26)), g0 (.mv 6 (.t 27))])
  (.seq (.ops [g0 (.mv 28 (.t 5)), g0 (.mv 29 (.t 6)), g0 (.mv 2 (.t 28)), g0 (.mv 3 (.t 29))])
  (.ret)))),
  [.t 2, .t 3]⟩
/-- (*notary/lex.reader).isMore -/
def F144 : IFunc := ⟨.raw, .seq (.ops [g0 (.mv 4 (.c (.bool false)))])
  (.seq (.ops [g0 (.mv 5 (.t 0)), g0 (.mv 6 (.t 1)), g0 (.call (some 7) 127 [(.t 5), (.t 6)]), g0 (.mv 8 (.t 7)), g1 8 false (.mv 9 (.t 0)), g1 8 false (.mv 10 (.t 1)), g1 8 false (.call (some 11) 129 [(.t 9), (.t 10)]), g0 (.pick 12 (.t 8) (.c (.bool true)) (.t 11)), g0 (.mv 4 (.t 12))])
  (.ret)),
  [.t 4]⟩
/-- notary/lex.isWord -/
def F145 : IFunc := ⟨.pure, .seq (.ops [g0 (.mv 2 (.c (.bool false)))])
  (.seq (.seq (.ops [g0 (.mv 3 (.t 0))])
  (.block 0 (.seq (.seq (.ops [g0 (.bin 5 .eql (.t 3) (.c (.str [114, 101, 99]))), g0 (.mv 4 (.t 5))])
  (.cond (.t 4) (.skip)
  (.seq (.ops [g0 (.bin 6 .eql (.t 3) (.c (.str [99, 111, 110, 115, 116]))), g0 (.mv 4 (.t 6))])
  (.cond (.t 4) (.skip)
  (.seq (.ops [g0 (.bin 7 .eql (.t 3) (.c (.str [118, 97, 114]))), g0 (.mv 4 (.t 7))])
  (.cond (.t 4) (.skip)
  (.seq (.ops [g0 (.bin 8 .eql (.t 3) (.c (.str [112, 117, 98]))), g0 (.mv 4 (.t 8))])
  (.cond (.t 4) (.skip)
  (.seq (.ops [g0 (.bin 9 .eql (.t 3) (.c (.str [102, 110]))), g0 (.mv 4 (.t 9))])
  (.cond (.t 4) (.skip)
  (.seq (.ops [g0 (.bin 10 .eql (.t 3) (.c (.str [105, 110, 116]))), g0 (.mv 4 (.t 10))])
  (.cond (.t 4) (.skip)
  (.seq (.ops [g0 (.bin 11 .eql (.t 3) (.c (.str [98, 111, 111, 108]))), g0 (.mv 4 (.t 11))])
  (.cond (.t 4) (.skip)
  (.seq (.ops [g0 (.bin 12 .eql (.t 3) (.c (.str [108, 101, 116]))), g0 (.mv 4 (.t 12))])
  (.cond (.t 4) (.skip)
  (.seq (.ops [g0 (.bin 13 .eql (.t 3) (.c (.str [105, 102]))), g0 (.mv 4 (.t 13))])
  (.cond (.t 4) (.skip)
  (.seq (.ops [g0 (.bin 14 .eql (.t 3) (.c (.str [101, 108, 115, 101]))), g0 (.mv 4 (.t 14))])
  (.cond (.t 4) (.skip)
  (.seq (.ops [g0 (.bin 15 .eql (.t 3) (.c (.str [119, 104, 105, 108, 101]))), g0 (.mv 4 (.t 15))])
  (.cond (.t 4) (.skip)
  (.seq (.ops [g0 (.bin 16 .eql (.t 3) (.c (.str [102, 111, 114]))), g0 (.mv 4 (.t 16))])
  (.cond (.t 4) (.skip)
  (.seq (.ops [g0 (.bin 17 .eql (.t 3) (.c (.str [116, 111]))), g0 (.mv 4 (.t 17))])
  (.cond (.t 4) (.skip)
  (.seq (.ops [g0 (.bin 18 .eql (.t 3) (.c (.str [112, 114, 105, 110, 116]))), g0 (.mv 4 (.t 18))])
  (.cond (.t 4) (.skip)
  (.seq (.ops [g0 (.bin 19 .eql (.t 3) (.c (.str [114, 101, 116, 117, 114, 110]))), g0 (.mv 4 (.t 19))])
  (.cond (.t 4) (.skip)
  (.seq (.ops [g0 (.bin 20 .eql (.t 3) (.c (.str [100, 111]))), g0 (.mv 4 (.t 20))])
  (.cond (.t 4) (.skip)
  (.seq (.ops [g0 (.bin 21 .eql (.t 3) (.c (.str [116, 114, 117, 101]))), g0 (.mv 4 (.t 21))])
  (.cond (.t 4) (.skip)
  (.seq (.ops [g0 (.bin 22 .eql (.t 3) (.c (.str [102, 97, 108, 115, 101]))), g0 (.mv 4 (.t 22))])
  (.cond (.t 4) (.skip)
  (.seq (.ops [g0 (.bin 23 .eql (.t 3) (.c (.str [114, 101, 97, 100]))), g0 (.mv 4 (.t 23))])
  (.cond (.t 4) (.skip)
  (.ops [g0 (.bin 24 .eql (.t 3) (.c (.str [110, 101, 119]))), g0 (.mv 4 (.t 24))])))))))))))))))))))))))))))))))))))))))
  (.cond (.t 4) (.seq (.ops [g0 (.mv 2 (.c (.bool true)))])
  (.ret))
  (.skip)))))
  (.seq (.ops [g0 (.mv 2 (.c (.bool false)))])
  (.ret))),
  [.t 2]⟩
def L150_0 : Ic := .seq (.ops [g0 (.bin 37 .lss (.t 36) (.c (.int .i64 2)))])
  (.seq (.cond (.t 37) (.skip)
  (.exit 1))
  (.seq (.block 2 (.seq (.ops [g0 (.mv 38 (.t 0)), g0 (.nilc (some 39) (.t 38)), g0 (.fldA 40 (.t 39) 1 none), g0 (.load 41 (.t 40) none none false), g0 (.mv 42 (.t 0)), g0 (.nilc (some 43) (.t 42)), g0 (.fldA 44 (.t 43) 0 none), g0 (.load 45 (.t 44) none none false), g0 (.len 46 .str (.t 45) false), g0 (.bin 47 .lss (.t 41) (.t 46))])
  (.cond (.t 47) (.seq (.ops [g0 (.mv 48 (.t 4)), g0 (.bin 49 .mul (.t 48) (.c (.int .i64 16))), g0 (.mv 50 (.t 0)), g0 (.nilc (some 51) (.t 50)), g0 (.fldA 52 (.t 51) 0 none), g0 (.load 53 (.t 52) none none false), g0 (.mv 54 (.t 0)), g0 (.nilc (some 55) (.t 54)), g0 (.fldA 56 (.t 55) 1 none), g0 (.load 57 (.t 56) none none false), g0 (.idx 58 (.t 53) (.t 57) none 1 none), g0 (.call (some 59) 160 [(.c (.str [48, 49, 50, 51, 52, 53, 54, 55, 56, 57, 97, 98, 99, 100, 101, 102])), (.t 58)]), g0 (.mm 60 true (.c (.int .i64 0)) (.t 59)), g0 (.bin 61 .add (.t 49) (.t 60)), g0 (.mv 4 (.t 61))])
  (.ops [g0 (.mv 62 (.t 0)), g0 (.nilc (some 63) (.t 62)), g0 (.fldA 64 (.t 63) 1 none), g0 (.load 65 (.t 64) none none false), g0 (.bin 66 .add (.t 65) (.c (.int .i64 1))), g0 (.nilc (some 67) (.t 62)), g0 (.fldA 68 (.t 67) 1 none), g0 (.store (.t 68) (.t 66) 1 none)]))
  (.skip))))
  (.ops [g0 (.bin 69 .add (.t 36) (.c (.int .i64 1))), g0 (.mv 36 (.t 69))])))
/-- (*notary/script.reader).escaped -/
def F150 : IFunc := ⟨.raw, .seq (.ops [g0 (.mv 2 (.c (.int .u8 0)))])
  (.seq (.seq (.ops [g0 (.mv 5 (.t 0)), g0 (.nilc (some 6) (.t 5)), g0 (.fldA 7 (.t 6) 1 none), g0 (.load 8 (.t 7) none none false), g0 (.mv 9 (.t 0)), g0 (.nilc (some 10) (.t 9)), g0 (.fldA 11 (.t 10) 0 none), g0 (.load 12 (.t 11) none none false), g0 (.len 13 .str (.t 12) false), g0 (.bin 14 .geq (.t 8) (.t 13))])
  (.cond (.t 14) (.seq (.ops [g0 (.mv 2 (.c (.int .u8 0)))])
  (.ret))
  (.skip)))
  (.seq (.ops [g0 (.mv 15 (.t 0)), g0 (.nilc (some 16) (.t 15)), g0 (.fldA 17 (.t 16) 0 none), g0 (.load 18 (.t 17) none none false), g0 (.mv 19 (.t 0)), g0 (.nilc (some 20) (.t 19)), g0 (.fldA 21 (.t 20) 1 none), g0 (.load 22 (.t 21) none none false), g0 (.idx 23 (.t 18) (.t 22) none 1 none), g0 (.mv 3 (.t 23))])
  (.seq (.ops [g0 (.mv 24 (.t 0)), g0 (.nilc (some 25) (.t 24)), g0 (.fldA 26 (.t 25) 1 none), g0 (.load 27 (.t 26) none none false), g0 (.bin 28 .add (.t 27) (.c (.int .i64 1))), g0 (.nilc (some 29) (.t 24)), g0 (.fldA 30 (.t 29) 1 none), g0 (.store (.t 30) (.t 28) 1 none)])
  (.seq (.seq (.ops [g0 (.mv 31 (.t 3))])
  (.block 0 (.seq (.ops [g0 (.bin 33 .eql (.t 31) (.c (.int .u8 110))), g0 (.mv 32 (.t 33))])
  (.cond (.t 32) (.seq (.ops [g0 (.mv 2 (.c (.int .u8 10)))])
  (.ret))
  (.seq (.ops [g0 (.bin 35 .eql (.t 31) (.c (.int .u8 120))), g0 (.mv 34 (.t 35))])
  (.cond (.t 34) (.seq (.ops [g0 (.mv 4 (.c (.int .i64 0)))])
  (.seq (.seq (.ops [g0 (.mv 36 (.c (.int .i64 0)))])
  (.block 1 (.loop L150_0)))
  (.seq (.ops [g0 (.mv 70 (.t 4)), g0 (.conv 71 (.int .u8) (.t 70)), g0 (.mv 2 (.t 71))])
  (.ret))))
  (.skip)))))))
  (.seq (.ops [g0 (.mv 72 (.t 3)), g0 (.mv 2 (.t 72))])
  (.ret)))))),
  [.t 2]⟩
/-- notary/notaryref51.Value -/
def F152 : IFunc := ⟨.pure, .seq (.ops [g0 (.mv 2 (.c (.int .u8 0)))])
  (.seq (.seq (.ops [g0 (.mv 3 (.t 0)), g0 (.bin 4 .geq (.t 3) (.c (.int .u8 48))), g0 (.mv 5 (.t 4)), g1 5 true (.mv 6 (.t 0)), g1 5 true (.bin 7 .leq (.t 6) (.c (.int .u8 57))), g0 (.pick 8 (.t 5) (.t 7) (.c (.bool false)))])
  (.cond (.t 8) (.seq (.ops [g0 (.mv 9 (.t 0)), g0 (.bin 10 .sub (.t 9) (.c (.int .u8 48))), g0 (.mv 2 (.t 10))])
  (.ret))
  (.skip)))
  (.seq (.seq (.ops [g0 (.mv 11 (.t 0)), g0 (.bin 12 .geq (.t 11) (.c (.int .u8 97))), g0 (.mv 13 (.t 12)), g1 13 true (.mv 14 (.t 0)), g1 13 true (.bin 15 .leq (.t 14) (.c (.int .u8 102))), g0 (.pick 16 (.t 13) (.t 15) (.c (.bool false)))])
  (.cond (.t 16) (.seq (.ops [g0 (.mv 17 (.t 0)), g0 (.bin 18 .sub (.t 17) (.c (.int .u8 97))), g0 (.bin 19 .add (.t 18) (.c (.int .u8 10))), g0 (.mv 2 (.t 19))])
  (.ret))
  (.skip)))
  (.seq (.ops [g0 (.mv 2 (.c (.int .u8 16)))])
  (.ret)))),
  [.t 2]⟩
/-- strings.IndexByte -/
def F160 : IFunc := ⟨.raw, .prim 3,
  [.t 0]⟩
def T : Nat → Option IFunc
  | 6 => some F6
  | 7 => some F7
  | 8 => some F8
  | 9 => some F9
  | 10 => some F10
  | 16 => some F16
  | 21 => some F21
  | 22 => some F22
  | 23 => some F23
  | 24 => some F24
  | 25 => some F25
  | 26 => some F26
  | 27 => some F27
  | 28 => some F28
  | 29 => some F29
  | 30 => some F30
  | 31 => some F31
  | 32 => some F32
  | 33 => some F33
  | 34 => some F34
  | 41 => some F41
  | 42 => some F42
  | 43 => some F43
  | 44 => some F44
  | 45 => some F45
  | 46 => some F46
  | 47 => some F47
  | 48 => some F48
  | 49 => some F49
  | 50 => some F50
  | 51 => some F51
  | 52 => some F52
  | 53 => some F53
  | 54 => some F54
  | 55 => some F55
  | 56 => some F56
  | 57 => some F57
  | 58 => some F58
  | 59 => some F59
  | 60 => some F60
  | 61 => some F61
  | 62 => some F62
  | 63 => some F63
  | 77 => some F77
  | 78 => some F78
  | 79 => some F79
  | 80 => some F80
  | 81 => some F81
  | 82 => some F82
  | 83 => some F83
  | 84 => some F84
  | 85 => some F85
  | 86 => some F86
  | 87 => some F87
  | 88 => some F88
  | 89 => some F89
  | 90 => some F90
  | 91 => some F91
  | 92 => some F92
  | 93 => some F93
  | 94 => some F94
  | 95 => some F95
  | 96 => some F96
  | 97 => some F97
  | 98 => some F98
  | 99 => some F99
  | 101 => some F101
  | 102 => some F102
  | 103 => some F103
  | 104 => some F104
  | 105 => some F105
  | 106 => some F106
  | 107 => some F107
  | 108 => some F108
  | 109 => some F109
  | 124 => some F124
  | 125 => some F125
  | 126 => some F126
  | 127 => some F127
  | 128 => some F128
  | 129 => some F129
  | 130 => some F130
  | 131 => some F131
  | 133 => some F133
  | 134 => some F134
  | 135 => some F135
  | 137 => some F137
  | 138 => some F138
  | 144 => some F144
  | 145 => some F145
  | 150 => some F150
  | 152 => some F152
  | 160 => some F160
  | _ => none

theorem ok6 : okB Proofs.Try.prog 6 F6 = true := by kernel_rfl
theorem ok7 : okB Proofs.Try.prog 7 F7 = true := by kernel_rfl
theorem ok8 : okB Proofs.Try.prog 8 F8 = true := by kernel_rfl
theorem ok9 : okB Proofs.Try.prog 9 F9 = true := by kernel_rfl
theorem ok10 : okB Proofs.Try.prog 10 F10 = true := by kernel_rfl
theorem ok16 : okB Proofs.Try.prog 16 F16 = true := by kernel_rfl
theorem ok21 : okB Proofs.Try.prog 21 F21 = true := by kernel_rfl
theorem ok22 : okB Proofs.Try.prog 22 F22 = true := by kernel_rfl
theorem ok23 : okB Proofs.Try.prog 23 F23 = true := by kernel_rfl
theorem ok24 : okB Proofs.Try.prog 24 F24 = true := by kernel_rfl
theorem ok25 : okB Proofs.Try.prog 25 F25 = true := by kernel_rfl
theorem ok26 : okB Proofs.Try.prog 26 F26 = true := by kernel_rfl
theorem ok27 : okB Proofs.Try.prog 27 F27 = true := by kernel_rfl
theorem ok28 : okB Proofs.Try.prog 28 F28 = true := by kernel_rfl
theorem ok29 : okB Proofs.Try.prog 29 F29 = true := by kernel_rfl
theorem ok30 : okB Proofs.Try.prog 30 F30 = true := by kernel_rfl
theorem ok31 : okB Proofs.Try.prog 31 F31 = true := by kernel_rfl
theorem ok32 : okB Proofs.Try.prog 32 F32 = true := by kernel_rfl
theorem ok33 : okB Proofs.Try.prog 33 F33 = true := by kernel_rfl
theorem ok34 : okB Proofs.Try.prog 34 F34 = true := by kernel_rfl
theorem ok41 : okB Proofs.Try.prog 41 F41 = true := by kernel_rfl
theorem ok42 : okB Proofs.Try.prog 42 F42 = true := by kernel_rfl
theorem ok43 : okB Proofs.Try.prog 43 F43 = true := by kernel_rfl
theorem ok44 : okB Proofs.Try.prog 44 F44 = true := by kernel_rfl
theorem ok45 : okB Proofs.Try.prog 45 F45 = true := by kernel_rfl
theorem ok46 : okB Proofs.Try.prog 46 F46 = true := by kernel_rfl
theorem ok47 : okB Proofs.Try.prog 47 F47 = true := by kernel_rfl
theorem ok48 : okB Proofs.Try.prog 48 F48 = true := by kernel_rfl
theorem ok50 : okB Proofs.Try.prog 50 F50 = true := by kernel_rfl
theorem ok51 : okB Proofs.Try.prog 51 F51 = true := by kernel_rfl
theorem ok52 : okB Proofs.Try.prog 52 F52 = true := by kernel_rfl
theorem ok53 : okB Proofs.Try.prog 53 F53 = true := by kernel_rfl
theorem ok54 : okB Proofs.Try.prog 54 F54 = true := by kernel_rfl
theorem ok55 : okB Proofs.Try.prog 55 F55 = true := by kernel_rfl
theorem ok56 : okB Proofs.Try.prog 56 F56 = true := by kernel_rfl
theorem ok57 : okB Proofs.Try.prog 57 F57 = true := by kernel_rfl
theorem ok58 : okB Proofs.Try.prog 58 F58 = true := by kernel_rfl
theorem ok59 : okB Proofs.Try.prog 59 F59 = true := by kernel_rfl
theorem ok61 : okB Proofs.Try.prog 61 F61 = true := by kernel_rfl
theorem ok62 : okB Proofs.Try.prog 62 F62 = true := by kernel_rfl
theorem ok63 : okB Proofs.Try.prog 63 F63 = true := by kernel_rfl
theorem ok77 : okB Proofs.Try.prog 77 F77 = true := by kernel_rfl
theorem ok78 : okB Proofs.Try.prog 78 F78 = true := by kernel_rfl
theorem ok79 : okB Proofs.Try.prog 79 F79 = true := by kernel_rfl
theorem ok80 : okB Proofs.Try.prog 80 F80 = true := by kernel_rfl
theorem ok81 : okB Proofs.Try.prog 81 F81 = true := by kernel_rfl
theorem ok82 : okB Proofs.Try.prog 82 F82 = true := by kernel_rfl
theorem ok83 : okB Proofs.Try.prog 83 F83 = true := by kernel_rfl
theorem ok84 : okB Proofs.Try.prog 84 F84 = true := by kernel_rfl
theorem ok85 : okB Proofs.Try.prog 85 F85 = true := by kernel_rfl
theorem ok86 : okB Proofs.Try.prog 86 F86 = true := by kernel_rfl
theorem ok87 : okB Proofs.Try.prog 87 F87 = true := by kernel_rfl
theorem ok89 : okB Proofs.Try.prog 89 F89 = true := by kernel_rfl
theorem ok90 : okB Proofs.Try.prog 90 F90 = true := by kernel_rfl
theorem ok91 : okB Proofs.Try.prog 91 F91 = true := by kernel_rfl
theorem ok92 : okB Proofs.Try.prog 92 F92 = true := by kernel_rfl
theorem ok93 : okB Proofs.Try.prog 93 F93 = true := by kernel_rfl
theorem ok94 : okB Proofs.Try.prog 94 F94 = true := by kernel_rfl
theorem ok95 : okB Proofs.Try.prog 95 F95 = true := by kernel_rfl
theorem ok96 : okB Proofs.Try.prog 96 F96 = true := by kernel_rfl
theorem ok97 : okB Proofs.Try.prog 97 F97 = true := by kernel_rfl
theorem ok98 : okB Proofs.Try.prog 98 F98 = true := by kernel_rfl
theorem ok99 : okB Proofs.Try.prog 99 F99 = true := by kernel_rfl
theorem ok101 : okB Proofs.Try.prog 101 F101 = true := by kernel_rfl
theorem ok102 : okB Proofs.Try.prog 102 F102 = true := by kernel_rfl
theorem ok103 : okB Proofs.Try.prog 103 F103 = true := by kernel_rfl
theorem ok104 : okB Proofs.Try.prog 104 F104 = true := by kernel_rfl
theorem ok105 : okB Proofs.Try.prog 105 F105 = true := by kernel_rfl
theorem ok106 : okB Proofs.Try.prog 106 F106 = true := by kernel_rfl
theorem ok107 : okB Proofs.Try.prog 107 F107 = true := by kernel_rfl
theorem ok108 : okB Proofs.Try.prog 108 F108 = true := by kernel_rfl
theorem ok109 : okB Proofs.Try.prog 109 F109 = true := by kernel_rfl
theorem ok124 : okB Proofs.Try.prog 124 F124 = true := by kernel_rfl
theorem ok125 : okB Proofs.Try.prog 125 F125 = true := by kernel_rfl
theorem ok126 : okB Proofs.Try.prog 126 F126 = true := by kernel_rfl
theorem ok127 : okB Proofs.Try.prog 127 F127 = true := by kernel_rfl
theorem ok128 : okB Proofs.Try.prog 128 F128 = true := by kernel_rfl
theorem ok129 : okB Proofs.Try.prog 129 F129 = true := by kernel_rfl
theorem ok130 : okB Proofs.Try.prog 130 F130 = true := by kernel_rfl
theorem ok131 : okB Proofs.Try.prog 131 F131 = true := by kernel_rfl
theorem ok134 : okB Proofs.Try.prog 134 F134 = true := by kernel_rfl
theorem ok135 : okB Proofs.Try.prog 135 F135 = true := by kernel_rfl
theorem ok137 : okB Proofs.Try.prog 137 F137 = true := by kernel_rfl
theorem ok138 : okB Proofs.Try.prog 138 F138 = true := by kernel_rfl
theorem ok144 : okB Proofs.Try.prog 144 F144 = true := by kernel_rfl
theorem ok145 : okB Proofs.Try.prog 145 F145 = true := by kernel_rfl
theorem ok150 : okB Proofs.Try.prog 150 F150 = true := by kernel_rfl
theorem ok152 : okB Proofs.Try.prog 152 F152 = true := by kernel_rfl

theorem ok (p49 : PrimF Proofs.Try.prog 49 F49) (p60 : PrimF Proofs.Try.prog 60 F60) (p88 : PrimF Proofs.Try.prog 88 F88) (p133 : PrimF Proofs.Try.prog 133 F133) (p160 : PrimF Proofs.Try.prog 160 F160) (f : Nat) (ifn : IFunc) (h : T f = some ifn) : FuncOK Proofs.Try.prog f ifn := by
  unfold T at h
  split at h
  · cases h; exact okB_ok ok6
  · cases h; exact okB_ok ok7
  · cases h; exact okB_ok ok8
  · cases h; exact okB_ok ok9
  · cases h; exact okB_ok ok10
  · cases h; exact okB_ok ok16
  · cases h; exact okB_ok ok21
  · cases h; exact okB_ok ok22
  · cases h; exact okB_ok ok23
  · cases h; exact okB_ok ok24
  · cases h; exact okB_ok ok25
  · cases h; exact okB_ok ok26
  · cases h; exact okB_ok ok27
  · cases h; exact okB_ok ok28
  · cases h; exact okB_ok ok29
  · cases h; exact okB_ok ok30
  · cases h; exact okB_ok ok31
  · cases h; exact okB_ok ok32
  · cases h; exact okB_ok ok33
  · cases h; exact okB_ok ok34
  · cases h; exact okB_ok ok41
  · cases h; exact okB_ok ok42
  · cases h; exact okB_ok ok43
  · cases h; exact okB_ok ok44
  · cases h; exact okB_ok ok45
  · cases h; exact okB_ok ok46
  · cases h; exact okB_ok ok47
  · cases h; exact okB_ok ok48
  · cases h; exact .inr p49
  · cases h; exact okB_ok ok50
  · cases h; exact okB_ok ok51
  · cases h; exact okB_ok ok52
  · cases h; exact okB_ok ok53
  · cases h; exact okB_ok ok54
  · cases h; exact okB_ok ok55
  · cases h; exact okB_ok ok56
  · cases h; exact okB_ok ok57
  · cases h; exact okB_ok ok58
  · cases h; exact okB_ok ok59
  · cases h; exact .inr p60
  · cases h; exact okB_ok ok61
  · cases h; exact okB_ok ok62
  · cases h; exact okB_ok ok63
  · cases h; exact okB_ok ok77
  · cases h; exact okB_ok ok78
  · cases h; exact okB_ok ok79
  · cases h; exact okB_ok ok80
  · cases h; exact okB_ok ok81
  · cases h; exact okB_ok ok82
  · cases h; exact okB_ok ok83
  · cases h; exact okB_ok ok84
  · cases h; exact okB_ok ok85
  · cases h; exact okB_ok ok86
  · cases h; exact okB_ok ok87
  · cases h; exact .inr p88
  · cases h; exact okB_ok ok89
  · cases h; exact okB_ok ok90
  · cases h; exact okB_ok ok91
  · cases h; exact okB_ok ok92
  · cases h; exact okB_ok ok93
  · cases h; exact okB_ok ok94
  · cases h; exact okB_ok ok95
  · cases h; exact okB_ok ok96
  · cases h; exact okB_ok ok97
  · cases h; exact okB_ok ok98
  · cases h; exact okB_ok ok99
  · cases h; exact okB_ok ok101
  · cases h; exact okB_ok ok102
  · cases h; exact okB_ok ok103
  · cases h; exact okB_ok ok104
  · cases h; exact okB_ok ok105
  · cases h; exact okB_ok ok106
  · cases h; exact okB_ok ok107
  · cases h; exact okB_ok ok108
  · cases h; exact okB_ok ok109
  · cases h; exact okB_ok ok124
  · cases h; exact okB_ok ok125
  · cases h; exact okB_ok ok126
  · cases h; exact okB_ok ok127
  · cases h; exact okB_ok ok128
  · cases h; exact okB_ok ok129
  · cases h; exact okB_ok ok130
  · cases h; exact okB_ok ok131
  · cases h; exact .inr p133
  · cases h; exact okB_ok ok134
  · cases h; exact okB_ok ok135
  · cases h; exact okB_ok ok137
  · cases h; exact okB_ok ok138
  · cases h; exact okB_ok ok144
  · cases h; exact okB_ok ok145
  · cases h; exact okB_ok ok150
  · cases h; exact okB_ok ok152
  · cases h; exact .inr p160
  · exact absurd h (by simp)
theorem L16_0_w : L16_0.wr = [16, 17, 18, 19, 21, 22, 23, 20, 24, 25, 7, 8, 26, 27, 28, 29, 30, 2, 3, 4, 31, 32, 33, 34, 5, 35, 36, 37, 38, 6] := by kernel_rfl
theorem L16_0_p : L16_0.plain = true := by kernel_rfl
theorem L22_0_w : L22_0.wr = [24, 25, 26, 27, 30, 31, 32, 33, 34, 35, 36, 37, 38, 39, 40, 41, 42, 43, 44, 45, 46, 47, 48, 49, 50, 51, 52, 53, 54, 55, 56, 13, 57, 58, 59, 60, 61, 62, 63, 64, 65, 66, 67, 68, 69, 70, 71, 72, 73, 74, 75, 76, 77, 78, 11, 79, 80, 4, 5, 6, 81, 12, 28, 29] := by kernel_rfl
theorem L22_0_p : L22_0.plain = true := by kernel_rfl
theorem L23_0_w : L23_0.wr = [23, 24, 25, 26, 29, 30, 31, 32, 33, 34, 35, 36, 37, 38, 39, 40, 41, 42, 43, 44, 45, 46, 47, 48, 49, 50, 51, 52, 53, 54, 55, 56, 57, 58, 59, 60, 61, 62, 63, 64, 65, 66, 67, 68, 69, 70, 71, 72, 73, 74, 10, 75, 76, 77, 78, 79, 11, 80, 81, 82, 4, 5, 6, 27, 28, 12] := by kernel_rfl
theorem L23_0_p : L23_0.plain = true := by kernel_rfl
theorem L27_0_w : L27_0.wr = [10, 11, 4, 12, 13, 14, 5, 25, 26, 27, 28, 29, 30, 24, 31, 32, 33, 35, 36, 34, 37, 39, 40, 41, 42, 43, 44, 38, 45, 46, 15, 16, 17, 18, 19, 20, 21, 22, 23, 47, 9] := by kernel_rfl
theorem L27_0_p : L27_0.plain = true := by kernel_rfl
theorem L28_0_w : L28_0.wr = [5, 6, 7, 8, 11, 12, 13, 14, 15, 16, 3, 9, 10, 4] := by kernel_rfl
theorem L28_0_p : L28_0.plain = true := by kernel_rfl
theorem L29_0_w : L29_0.wr = [12, 13, 17, 18, 16, 19, 20, 21, 7, 8, 9, 22, 23, 24, 25, 10, 26, 27, 11, 28, 29, 30, 31, 32, 33, 34, 35, 36, 37, 38, 39, 40, 41, 42, 2, 3, 4, 43, 44, 45, 46, 5, 47, 0, 14, 15, 6] := by kernel_rfl
theorem L29_0_p : L29_0.plain = true := by kernel_rfl
theorem L30_0_w : L30_0.wr = [6, 7, 8, 9, 10, 11, 12, 13, 16, 17, 18, 19, 20, 21, 22, 23, 24, 25, 26, 27, 28, 29, 30, 31, 32, 33, 34, 35, 36, 37, 38, 39, 40, 41, 42, 4, 14, 15, 5] := by kernel_rfl
theorem L30_0_p : L30_0.plain = true := by kernel_rfl
theorem L31_0_w : L31_0.wr = [13, 14, 15, 6, 17, 18, 16, 19, 20, 21, 8, 7, 9, 22, 23, 2, 3, 24, 25, 26, 27, 2, 3, 28, 29, 30, 31, 32, 12] := by kernel_rfl
theorem L31_0_p : L31_0.plain = true := by kernel_rfl
theorem L32_0_w : L32_0.wr = [8, 9, 10, 11, 15, 16, 17, 18, 19, 14, 20, 21, 6, 7, 22, 23, 24, 2, 3, 25, 26, 27, 28, 4, 12, 13, 5] := by kernel_rfl
theorem L32_0_p : L32_0.plain = true := by kernel_rfl
theorem L33_0_w : L33_0.wr = [11, 12, 13, 14, 17, 18, 19, 20, 21, 22, 23, 24, 25, 26, 4, 15, 16, 5] := by kernel_rfl
theorem L33_0_p : L33_0.plain = true := by kernel_rfl
theorem L34_0_w : L34_0.wr = [12, 13, 14, 15, 18, 19, 20, 21, 23, 24, 25, 26, 27, 22, 28, 29, 9, 10, 30, 31, 32, 33, 2, 3, 4, 34, 35, 36, 37, 5, 38, 39, 6, 40, 41, 7, 16, 17, 8] := by kernel_rfl
theorem L34_0_p : L34_0.plain = true := by kernel_rfl
theorem L41_1_w : L41_1.wr = [18, 19, 20, 21, 22, 23, 24, 25, 26, 27, 28, 29, 1] := by kernel_rfl
theorem L41_1_p : L41_1.plain = true := by kernel_rfl
theorem L41_0_w : L41_0.wr = [5, 6, 7, 8, 9, 10, 11, 12, 13, 14, 1, 15, 16, 17, 18, 19, 20, 21, 22, 23, 24, 25, 26, 27, 28, 29, 1, 30, 4] := by kernel_rfl
theorem L41_0_p : L41_0.plain = true := by kernel_rfl
theorem L42_2_w : L42_2.wr = [87, 88, 89, 90, 93, 94, 95, 96, 97, 98, 99, 100, 101, 102, 103, 104, 105, 106, 107, 108, 109, 110, 111, 112, 5, 91, 92, 12] := by kernel_rfl
theorem L42_2_p : L42_2.plain = true := by kernel_rfl
theorem L42_1_w : L42_1.wr = [59, 60, 61, 62, 63, 64, 65, 66, 67, 68, 69, 70, 7] := by kernel_rfl
theorem L42_1_p : L42_1.plain = true := by kernel_rfl
theorem L42_0_w : L42_0.wr = [19, 20, 21, 22, 23, 24, 25, 26, 27, 28, 29, 30, 31, 32, 33, 34, 35, 36, 7] := by kernel_rfl
theorem L42_0_p : L42_0.plain = true := by kernel_rfl
theorem L44_0_w : L44_0.wr = [16, 17, 18, 19, 20, 21, 22, 25, 26, 27, 28, 6, 29, 30, 7, 31, 32, 33, 34, 2, 3, 4, 23, 24] := by kernel_rfl
theorem L44_0_p : L44_0.plain = true := by kernel_rfl
theorem L45_0_w : L45_0.wr = [9, 10, 5, 11, 12, 13, 14, 15, 16, 17, 4, 18, 8] := by kernel_rfl
theorem L45_0_p : L45_0.plain = true := by kernel_rfl
theorem L50_0_w : L50_0.wr = [6, 7, 8, 9, 12, 13, 14, 15, 16, 17, 18, 19, 20, 21, 22, 23, 4, 10, 11, 5] := by kernel_rfl
theorem L50_0_p : L50_0.plain = true := by kernel_rfl
theorem L51_0_w : L51_0.wr = [14, 15, 5, 16, 17, 18, 19, 20, 21, 22, 23, 24, 4, 25, 13] := by kernel_rfl
theorem L51_0_p : L51_0.plain = true := by kernel_rfl
theorem L53_0_w : L53_0.wr = [11, 12, 13, 14, 17, 18, 19, 20, 21, 22, 23, 24, 25, 4, 15, 16, 5] := by kernel_rfl
theorem L53_0_p : L53_0.plain = true := by kernel_rfl
theorem L57_0_w : L57_0.wr = [70, 71, 72, 6, 73, 74, 75, 76, 77, 78, 79, 69] := by kernel_rfl
theorem L57_0_p : L57_0.plain = true := by kernel_rfl
theorem L58_0_w : L58_0.wr = [62, 63, 64, 8, 65, 66, 67, 68, 69, 6, 70, 61] := by kernel_rfl
theorem L58_0_p : L58_0.plain = true := by kernel_rfl
theorem L63_0_w : L63_0.wr = [11, 12, 15, 16, 17, 18, 19, 20, 21, 22, 23, 24, 25, 3, 13, 14, 4] := by kernel_rfl
theorem L63_0_p : L63_0.plain = true := by kernel_rfl
theorem L81_0_w : L81_0.wr = [6, 7, 8, 9, 12, 13, 14, 15, 16, 17, 4, 10, 11, 5] := by kernel_rfl
theorem L81_0_p : L81_0.plain = true := by kernel_rfl
theorem L83_0_w : L83_0.wr = [20, 21, 22, 23, 26, 27, 28, 29, 30, 6, 31, 32, 33, 34, 35, 2, 3, 36, 37, 38, 39, 4, 24, 25, 5] := by kernel_rfl
theorem L83_0_p : L83_0.plain = true := by kernel_rfl
theorem L85_0_w : L85_0.wr = [3, 4, 5, 6, 7, 8, 9, 10, 11, 12, 13, 14, 15, 16, 17, 18, 19, 20, 21, 2, 23, 24, 25, 26, 27, 28, 29, 30, 31, 32, 33, 34, 35, 36, 22, 37, 38, 39, 40, 41, 42, 43, 45, 46, 47, 48, 49, 50, 51, 44, 52, 53, 54, 55] := by kernel_rfl
theorem L85_0_p : L85_0.plain = true := by kernel_rfl
theorem L91_0_w : L91_0.wr = [8, 9, 10, 11, 12, 13, 14, 15, 16, 17, 18, 19, 20, 21, 22, 23, 24, 25, 26, 27, 28, 29, 30, 31, 32, 33, 34, 35, 36, 37, 38, 39, 40, 41, 42, 43, 44, 45, 46, 47, 48] := by kernel_rfl
theorem L91_0_p : L91_0.plain = true := by kernel_rfl
theorem L94_0_w : L94_0.wr = [24, 25, 26, 27, 28, 29, 30, 31, 32, 33, 34, 35, 36, 37, 38, 39, 40, 41, 42, 43, 44, 45, 46, 47, 48] := by kernel_rfl
theorem L94_0_p : L94_0.plain = true := by kernel_rfl
theorem L96_0_w : L96_0.wr = [39, 40, 41, 42, 43, 44, 45, 46, 47, 48, 49, 50, 51, 52, 53, 54, 55, 56, 57, 58, 59, 60, 61, 62, 63, 64, 65, 66, 67, 68, 69, 70, 71, 72, 73, 74, 75, 76, 77, 78, 79, 80, 81, 82, 83, 84, 85, 86, 4, 87, 88, 89, 90, 91, 92, 93] := by kernel_rfl
theorem L96_0_p : L96_0.plain = true := by kernel_rfl
theorem L99_0_w : L99_0.wr = [46, 47, 48, 49, 5, 6, 50, 51, 52, 53, 54, 55, 56, 4, 57, 45] := by kernel_rfl
theorem L99_0_p : L99_0.plain = true := by kernel_rfl
theorem L103_0_w : L103_0.wr = [5, 6, 7, 8, 11, 12, 13, 14, 15, 16, 17, 18, 3, 9, 10, 4] := by kernel_rfl
theorem L103_0_p : L103_0.plain = true := by kernel_rfl
theorem L105_0_w : L105_0.wr = [11, 12, 13, 14, 17, 18, 19, 20, 21, 22, 23, 24, 25, 4, 15, 16, 5] := by kernel_rfl
theorem L105_0_p : L105_0.plain = true := by kernel_rfl
theorem L106_0_w : L106_0.wr = [5, 6, 7, 8, 9, 10, 11, 12, 13, 14, 15, 16, 1] := by kernel_rfl
theorem L106_0_p : L106_0.plain = true := by kernel_rfl
theorem L107_0_w : L107_0.wr = [15, 16, 17, 18, 19, 20, 21, 22, 23, 3, 24, 25, 5, 26, 27, 28, 29, 30, 31, 32, 34, 35, 36, 33, 37, 38, 8, 9, 39, 40, 41, 3, 42, 43, 7, 44, 5, 45, 46, 47, 10, 49, 50, 51, 52, 53, 48, 54, 55, 11, 12, 56, 57, 58, 3, 59, 60, 61, 62, 4, 63, 5] := by kernel_rfl
theorem L107_0_p : L107_0.plain = true := by kernel_rfl
theorem L125_0_w : L125_0.wr = [10, 11, 12, 13, 14, 15, 16, 17, 18, 19, 20, 21, 22, 23, 24, 25, 26, 27, 28, 29, 30, 31, 32, 33, 34, 35, 36, 37, 38, 39] := by kernel_rfl
theorem L125_0_p : L125_0.plain = true := by kernel_rfl
theorem L130_0_w : L130_0.wr = [31, 32, 6, 33, 34, 35, 36, 37, 38, 39, 40, 5, 41, 30] := by kernel_rfl
theorem L130_0_p : L130_0.plain = true := by kernel_rfl
theorem L134_0_w : L134_0.wr = [17, 18, 19, 20, 21, 22, 23, 24, 25, 26, 27, 28, 29, 30, 31, 32, 33, 34, 35, 36, 37, 38, 39, 40, 41, 42, 43, 44, 45, 46, 47, 5, 48, 49, 50, 51, 52, 53, 54, 55, 56, 57, 58, 5, 59, 60, 61, 62, 4] := by kernel_rfl
theorem L134_0_p : L134_0.plain = true := by kernel_rfl
theorem L135_0_w : L135_0.wr = [12, 13, 4, 14, 15, 16, 17, 18, 19, 20, 21, 5, 22, 23] := by kernel_rfl
theorem L135_0_p : L135_0.plain = true := by kernel_rfl
theorem L137_0_w : L137_0.wr = [22, 23, 24, 25, 26, 27, 28, 29, 30, 31, 32, 33, 34, 7, 8, 35, 36, 37, 38, 39, 40, 41, 4, 5, 42, 43, 44, 45, 7, 8, 46, 47, 7, 48, 49, 50, 51, 52, 53, 54, 55, 56, 57, 58, 59, 60, 61, 62, 63, 64, 65, 66, 67, 68, 69, 70, 4, 5, 71, 72, 73, 74, 75, 76, 77, 78, 79, 80, 81, 82, 7, 8, 83, 84, 85, 86, 87, 88, 89, 90, 91, 92, 93, 94, 95, 96, 97, 98, 99, 4, 5, 100, 101, 102, 103, 6, 104, 105, 106, 1] := by kernel_rfl
theorem L137_0_p : L137_0.plain = true := by kernel_rfl
theorem L138_0_w : L138_0.wr = [7, 8, 9, 10, 13, 14, 15, 16, 17, 18, 19, 20, 21, 22, 2, 3, 11, 12, 4] := by kernel_rfl
theorem L138_0_p : L138_0.plain = true := by kernel_rfl
theorem L150_0_w : L150_0.wr = [37, 38, 39, 40, 41, 42, 43, 44, 45, 46, 47, 48, 49, 50, 51, 52, 53, 54, 55, 56, 57, 58, 59, 60, 61, 4, 62, 63, 64, 65, 66, 67, 68, 69, 36] := by kernel_rfl
theorem L150_0_p : L150_0.plain = true := by kernel_rfl

end Go.Nt.Lk
