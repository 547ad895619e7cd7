/-
  THE FUNCTIONS OF THE SEAT as the abstract machine reads them (printed by a program of ours), and that they are the program's ('ok': FuncOK, by the kernel).
  No condition.
-/
import Derived.Test.YtpfdoelhoiohdaaNtSim
import Derived.Test.YtpfdoelhoiohdaaChecked
namespace Go.Nt.Lk
open Go Go.Nt

/-- notary/notarylaw22.LinkRenames -/
def F6 : IFunc := ⟨.pure, .seq (.ops [g0 (.mv 4 (.c (.bool false)))])
  (.seq (.seq (.ops [g0 (.mv 11 (.t 0)), g0 (.len 12 .str (.t 11) false), g0 (.bin 13 .gtr (.t 12) (.c (.int .i64 800))), g0 (.mv 14 (.t 13)), g1 14 false (.mv 15 (.t 1)), g1 14 false (.len 16 .slice (.t 15) false), g1 14 false (.bin 17 .gtr (.t 16) (.c (.int .i64 40))), g0 (.pick 18 (.t 14) (.c (.bool true)) (.t 17))])
  (.cond (.t 18) (.seq (.ops [g0 (.call (some 19) 21 []), g0 (.mv 4 (.t 19))])
  (.ret))
  (.skip)))
  (.seq (.ops [g0 (.mv 21 (.t 0)), g0 (.mv 22 (.t 1)), g0 (.call (some 23) 22 [(.t 21), (.t 22)]), g0 (.mv 20 (.t 23)), g0 (.ext 24 (.t 20) 0), g0 (.ext 25 (.t 20) 1), g0 (.ext 26 (.t 20) 2), g0 (.mv 5 (.t 24)), g0 (.mv 6 (.t 25)), g0 (.mv 7 (.t 26))])
  (.seq (.ops [g0 (.mv 28 (.t 0)), g0 (.mv 29 (.t 1)), g0 (.call (some 30) 23 [(.t 28), (.t 29)]), g0 (.mv 27 (.t 30)), g0 (.ext 31 (.t 27) 0), g0 (.ext 32 (.t 27) 1), g0 (.ext 33 (.t 27) 2), g0 (.mv 8 (.t 31)), g0 (.mv 9 (.t 32)), g0 (.mv 10 (.t 33))])
  (.seq (.ops [g0 (.mv 34 (.t 7)), g0 (.mv 35 (.t 10)), g0 (.bin 36 .eql (.t 34) (.t 35)), g0 (.mv 37 (.t 36)), g1 37 true (.mv 38 (.t 6)), g1 37 true (.mv 39 (.t 9)), g1 37 true (.bin 40 .eql (.t 38) (.t 39)), g0 (.pick 41 (.t 37) (.t 40) (.c (.bool false))), g0 (.mv 42 (.t 41)), g1 42 true (.mv 43 (.t 5)), g1 42 true (.mv 44 (.t 8)), g1 42 true (.bin 45 .eql (.t 43) (.t 44)), g0 (.pick 46 (.t 42) (.t 45) (.c (.bool false))), g0 (.mv 47 (.t 46)), g1 47 true (.call (some 48) 21 []), g0 (.pick 49 (.t 47) (.t 48) (.c (.bool false))), g0 (.mv 4 (.t 49))])
  (.ret))))),
  [.t 4]⟩
/-- notary/notarylaw22.LinkAgrees -/
def F7 : IFunc := ⟨.pure, .seq (.ops [g0 (.boxL 3 4 (some (.t 0)) []), g0 (.boxL 4 4 (some (.t 1)) []), g0 (.mv 6 (.c (.bool false)))])
  (.seq (.seq (.ops [g0 (.fldA 7 (.t 3) 2 none), g0 (.load 8 (.t 7) none (some 3) false), g0 (.len 9 .slice (.t 8) false), g0 (.bin 10 .gtr (.t 9) (.c (.int .i64 200))), g0 (.mv 11 (.t 10)), g1 11 false (.fldA 12 (.t 4) 2 none), g1 11 false (.load 13 (.t 12) none (some 4) false), g1 11 false (.len 14 .slice (.t 13) false), g1 11 false (.bin 15 .gtr (.t 14) (.c (.int .i64 200))), g0 (.pick 16 (.t 11) (.c (.bool true)) (.t 15))])
  (.cond (.t 16) (.seq (.ops [g0 (.call (some 17) 21 []), g0 (.mv 6 (.t 17))])
  (.ret))
  (.skip)))
  (.seq (.seq (.ops [g0 (.load 18 (.t 3) (some 4) (some 3) false), g0 (.load 19 (.t 4) (some 4) (some 4) false), g0 (.call (some 20) 24 [(.t 18), (.t 19)]), g0 (.load 21 (.t 3) (some 4) (some 3) false), g0 (.load 22 (.t 4) (some 4) (some 4) false), g0 (.call (some 23) 25 [(.t 21), (.t 22)]), g0 (.eqn 24 true .bool (.t 20) (.t 23)), g0 (.mv 25 (.t 24)), g1 25 false (.load 26 (.t 3) (some 4) (some 3) false), g1 25 false (.load 27 (.t 4) (some 4) (some 4) false), g1 25 false (.call (some 28) 24 [(.t 26), (.t 27)]), g1 25 false (.load 29 (.t 4) (some 4) (some 4) false), g1 25 false (.load 30 (.t 3) (some 4) (some 3) false), g1 25 false (.call (some 31) 24 [(.t 29), (.t 30)]), g1 25 false (.eqn 32 true .bool (.t 28) (.t 31)), g0 (.pick 33 (.t 25) (.c (.bool true)) (.t 32)), g0 (.mv 34 (.t 33)), g1 34 false (.load 35 (.t 3) (some 4) (some 3) false), g1 34 false (.load 36 (.t 3) (some 4) (some 3) false), g1 34 false (.call (some 37) 24 [(.t 35), (.t 36)]), g1 34 false (.un 38 .not (.t 37)), g0 (.pick 39 (.t 34) (.c (.bool true)) (.t 38))])
  (.cond (.t 39) (.seq (.ops [g0 (.mv 6 (.c (.bool false)))])
  (.ret))
  (.skip)))
  (.seq (.seq (.ops [g0 (.mv 40 (.t 2)), g0 (.bin 41 .lss (.t 40) (.c (.int .i64 0))), g0 (.mv 42 (.t 41)), g1 42 false (.mv 43 (.t 2)), g1 42 false (.fldA 44 (.t 3) 2 none), g1 42 false (.load 45 (.t 44) none (some 3) false), g1 42 false (.len 46 .slice (.t 45) false), g1 42 false (.bin 47 .gtr (.t 43) (.t 46)), g0 (.pick 48 (.t 42) (.c (.bool true)) (.t 47))])
  (.cond (.t 48) (.seq (.ops [g0 (.call (some 49) 21 []), g0 (.mv 6 (.t 49))])
  (.ret))
  (.skip)))
  (.seq (.ops [g0 (.load 50 (.t 3) (some 4) (some 3) false), g0 (.fldA 51 (.t 3) 2 none), g0 (.load 52 (.t 51) none (some 3) false), g0 (.mv 53 (.t 2)), g0 (.slc 54 (some 1) (.t 52) none (some (.t 53)) none), g0 (.build 55 [(.int .i64 0), (.int .i64 0), .nils, (.int .i64 0)] [(0, 1, (.c (.int .i64 3))), (2, 1, (.t 54))]), g0 (.call (some 56) 24 [(.t 50), (.t 55)]), g0 (.mv 57 (.t 56)), g1 57 true (.call (some 58) 21 []), g0 (.pick 59 (.t 57) (.t 58) (.c (.bool false))), g0 (.mv 6 (.t 59))])
  (.ret))))),
  [.t 6]⟩
def L16_0 : Ic := .seq (.seq (.ops [g0 (.mv 16 (.t 6)), g0 (.mv 17 (.t 0)), g0 (.len 18 .str (.t 17) false), g0 (.bin 19 .lss (.t 16) (.t 18))])
  (.cond (.t 19) (.skip)
  (.exit 0)))
  (.block 1 (.seq (.ops [g0 (.mv 21 (.t 0)), g0 (.mv 22 (.t 6)), g0 (.call (some 23) 42 [(.t 21), (.t 22)]), g0 (.mv 20 (.t 23)), g0 (.ext 24 (.t 20) 0), g0 (.ext 25 (.t 20) 1), g0 (.boxL 7 5 none [(.int .i64 0), (.int .i64 0), (.str []), (.int .i64 0), (.int .i64 0)]), g0 (.store (.t 7) (.t 24) 5 (some 7)), g0 (.mv 8 (.t 25))])
  (.seq (.seq (.ops [g0 (.mv 26 (.t 8)), g0 (.bin 27 .neq (.t 26) (.c (.int .i64 0)))])
  (.cond (.t 27) (.seq (.ops [g0 (.bsl 28 5 true []), g0 (.mv 29 (.t 6)), g0 (.mv 30 (.t 8)), g0 (.mv 2 (.t 28)), g0 (.mv 3 (.t 29)), g0 (.mv 4 (.t 30))])
  (.ret))
  (.skip)))
  (.seq (.ops [g0 (.mv 31 (.t 5)), g0 (.load 32 (.t 7) (some 5) (some 7) false), g0 (.bsl 33 5 true [(.t 32)]), g0 (.app 34 (.t 31) (.t 33) 5), g0 (.mv 5 (.t 34))])
  (.ops [g0 (.mv 35 (.t 0)), g0 (.fldA 36 (.t 7) 4 none), g0 (.load 37 (.t 36) none (some 7) false), g0 (.call (some 38) 41 [(.t 35), (.t 37)]), g0 (.mv 6 (.t 38))])))))
/-- notary/notaryref05.Tokens -/
def F16 : IFunc := ⟨.pure, .seq (.ops [g0 (.mv 2 (.c .nils)), g0 (.mv 3 (.c (.int .i64 0))), g0 (.mv 4 (.c (.int .i64 0)))])
  (.seq (.ops [g0 (.bsl 9 5 true []), g0 (.mv 5 (.t 9))])
  (.seq (.seq (.ops [g0 (.mv 10 (.t 0)), g0 (.len 11 .str (.t 10) false), g0 (.bin 12 .gtr (.t 11) (.c (.int .i64 8192)))])
  (.cond (.t 12) (.seq (.ops [g0 (.mv 13 (.t 5)), g0 (.mv 2 (.t 13)), g0 (.mv 3 (.c (.int .i64 0))), g0 (.mv 4 (.c (.int .i64 3)))])
  (.ret))
  (.skip)))
  (.seq (.ops [g0 (.mv 14 (.t 0)), g0 (.call (some 15) 41 [(.t 14), (.c (.int .i64 0))]), g0 (.mv 6 (.t 15))])
  (.seq (.block 0 (.loop L16_0))
  (.seq (.ops [g0 (.mv 39 (.t 5)), g0 (.mv 40 (.t 0)), g0 (.len 41 .str (.t 40) false), g0 (.mv 42 (.t 0)), g0 (.len 43 .str (.t 42) false), g0 (.build 44 [(.int .i64 0), (.int .i64 0), (.str []), (.int .i64 0), (.int .i64 0)] [(0, 1, (.c (.int .i64 5))), (3, 1, (.t 41)), (4, 1, (.t 43))]), g0 (.bsl 45 5 true [(.t 44)]), g0 (.app 46 (.t 39) (.t 45) 5), g0 (.mv 2 (.t 46)), g0 (.mv 3 (.c (.int .i64 0))), g0 (.mv 4 (.c (.int .i64 0)))])
  (.ret)))))),
  [.t 2, .t 3, .t 4]⟩
/-- notary/notarylaw22.awake -/
def F21 : IFunc := ⟨.pure, .seq (.ops [g0 (.mv 0 (.c (.bool false)))])
  (.seq (.ops [g0 (.build 5 [(.str []), (.str [])] [(0, 1, (.c (.str [97]))), (1, 1, (.c (.str [98, 99])))]), g0 (.bsl 6 2 true [(.t 5)]), g0 (.call (some 7) 22 [(.c (.str [64, 97, 40, 41])), (.t 6)]), g0 (.mv 4 (.t 7)), g0 (.ext 8 (.t 4) 0), g0 (.ext 9 (.t 4) 1), g0 (.ext 10 (.t 4) 2), g0 (.mv 1 (.t 8)), g0 (.mv 2 (.t 9)), g0 (.mv 3 (.t 10))])
  (.seq (.ops [g0 (.mv 11 (.t 3)), g0 (.bin 12 .eql (.t 11) (.c (.int .i64 0))), g0 (.mv 13 (.t 12)), g1 13 true (.mv 14 (.t 1)), g1 13 true (.bin 15 .eql (.t 14) (.c (.str [64, 98, 99, 40, 41]))), g0 (.pick 16 (.t 13) (.t 15) (.c (.bool false))), g0 (.mv 17 (.t 16)), g1 17 true (.build 18 [(.int .i64 0), (.int .i64 0), .nils, (.int .i64 0)] []), g1 17 true (.build 19 [(.int .i64 0), (.int .i64 0), .nils, (.int .i64 0)] []), g1 17 true (.call (some 20) 24 [(.t 18), (.t 19)]), g0 (.pick 21 (.t 17) (.t 20) (.c (.bool false))), g0 (.mv 0 (.t 21))])
  (.ret))),
  [.t 0]⟩
def L22_0 : Ic := .seq (.seq (.ops [g0 (.load 24 (.t 12) none none false), g0 (.load 25 (.t 7) none none false), g0 (.len 26 .slice (.t 25) false), g0 (.bin 27 .lss (.t 24) (.t 26))])
  (.cond (.t 27) (.skip)
  (.exit 0)))
  (.seq (.block 1 (.seq (.seq (.ops [g0 (.load 30 (.t 7) none none false), g0 (.load 31 (.t 12) none none false), g0 (.idxA 32 (.t 30) (.t 31) 5 (some 5) none), g0 (.fldA 33 (.t 32) 0 none), g0 (.load 34 (.t 33) none none false), g0 (.bin 35 .neq (.t 34) (.c (.int .i64 1))), g0 (.mv 36 (.t 35)), g1 36 false (.load 37 (.t 7) none none false), g1 36 false (.load 38 (.t 12) none none false), g1 36 false (.bin 39 .sub (.t 38) (.c (.int .i64 1))), g1 36 false (.idxA 40 (.t 37) (.t 39) 5 (some 5) none), g1 36 false (.fldA 41 (.t 40) 0 none), g1 36 false (.load 42 (.t 41) none none false), g1 36 false (.bin 43 .neq (.t 42) (.c (.int .i64 4))), g0 (.pick 44 (.t 36) (.c (.bool true)) (.t 43)), g0 (.mv 45 (.t 44)), g1 45 false (.load 46 (.t 7) none none false), g1 45 false (.load 47 (.t 12) none none false), g1 45 false (.bin 48 .sub (.t 47) (.c (.int .i64 1))), g1 45 false (.idxA 49 (.t 46) (.t 48) 5 (some 5) none), g1 45 false (.fldA 50 (.t 49) 2 none), g1 45 false (.load 51 (.t 50) none none false), g1 45 false (.bin 52 .neq (.t 51) (.c (.str [64]))), g0 (.pick 53 (.t 45) (.c (.bool true)) (.t 52))])
  (.cond (.t 53) (.exit 1)
  (.skip)))
  (.seq (.ops [g0 (.mv 54 (.t 1)), g0 (.mkfn 55 46 [] [(.t 7), (.t 12)]), g0 (.call (some 56) 45 [(.t 54), (.t 55)]), g0 (.mv 13 (.t 56))])
  (.seq (.seq (.ops [g0 (.mv 57 (.t 13)), g0 (.bin 58 .lss (.t 57) (.c (.int .i64 0)))])
  (.cond (.t 58) (.exit 1)
  (.skip)))
  (.seq (.ops [g0 (.mv 59 (.t 0)), g0 (.mv 60 (.t 11)), g0 (.load 61 (.t 7) none none false), g0 (.load 62 (.t 12) none none false), g0 (.idxA 63 (.t 61) (.t 62) 5 (some 5) none), g0 (.fldA 64 (.t 63) 3 none), g0 (.load 65 (.t 64) none none false), g0 (.slc 66 none (.t 59) (some (.t 60)) (some (.t 65)) none), g0 (.call (some 67) 47 [(.t 10), (.t 66)])])
  (.seq (.ops [g0 (.mv 68 (.t 1)), g0 (.mv 69 (.t 13)), g0 (.idxA 70 (.t 68) (.t 69) 2 (some 2) none), g0 (.fldA 71 (.t 70) 1 none), g0 (.load 72 (.t 71) none none false), g0 (.call (some 73) 47 [(.t 10), (.t 72)])])
  (.seq (.ops [g0 (.load 74 (.t 7) none none false), g0 (.load 75 (.t 12) none none false), g0 (.idxA 76 (.t 74) (.t 75) 5 (some 5) none), g0 (.fldA 77 (.t 76) 4 none), g0 (.load 78 (.t 77) none none false), g0 (.mv 11 (.t 78))])
  (.seq (.ops [g0 (.call (some 79) 48 [(.t 10)]), g0 (.bin 80 .gtr (.t 79) (.c (.int .i64 8192)))])
  (.cond (.t 80) (.seq (.ops [g0 (.mv 4 (.c (.str []))), g0 (.mv 5 (.c (.int .i64 0))), g0 (.mv 6 (.c (.int .i64 3)))])
  (.ret))
  (.skip))))))))))
  (.seq (.seq (.ops [g0 (.load 81 (.t 12) none none false)])
  (.ops [g0 (.boxH 12 none (.c (.int .i64 0))), g0 (.store (.t 12) (.t 81) 1 none)]))
  (.ops [g0 (.load 28 (.t 12) none none false), g0 (.bin 29 .add (.t 28) (.c (.int .i64 1))), g0 (.store (.t 12) (.t 29) 1 none)])))
/-- notary/link.Rename -/
def F22 : IFunc := ⟨.pure, .seq (.ops [g0 (.mv 4 (.c (.str []))), g0 (.mv 5 (.c (.int .i64 0))), g0 (.mv 6 (.c (.int .i64 0)))])
  (.seq (.ops [g0 (.mv 15 (.t 0)), g0 (.call (some 16) 44 [(.t 15)]), g0 (.mv 14 (.t 16)), g0 (.ext 17 (.t 14) 0), g0 (.ext 18 (.t 14) 1), g0 (.ext 19 (.t 14) 2), g0 (.boxH 7 none (.c .nils)), g0 (.store (.t 7) (.t 17) 1 none), g0 (.mv 8 (.t 18)), g0 (.mv 9 (.t 19))])
  (.seq (.seq (.ops [g0 (.mv 20 (.t 9)), g0 (.bin 21 .neq (.t 20) (.c (.int .i64 0)))])
  (.cond (.t 21) (.seq (.ops [g0 (.mv 22 (.t 8)), g0 (.mv 23 (.t 9)), g0 (.mv 4 (.c (.str []))), g0 (.mv 5 (.t 22)), g0 (.mv 6 (.t 23))])
  (.ret))
  (.skip)))
  (.seq (.ops [g0 (.boxT 10 2 (.agg [.nilp, .nils]) 85)])
  (.seq (.ops [g0 (.mv 11 (.c (.int .i64 0)))])
  (.seq (.seq (.ops [g0 (.boxH 12 none (.c (.int .i64 0))), g0 (.store (.t 12) (.c (.int .i64 1)) 1 none)])
  (.block 0 (.loop L22_0)))
  (.seq (.ops [g0 (.mv 82 (.t 0)), g0 (.mv 83 (.t 11)), g0 (.slc 84 none (.t 82) (some (.t 83)) none none), g0 (.call (some 85) 47 [(.t 10), (.t 84)])])
  (.seq (.seq (.ops [g0 (.call (some 86) 48 [(.t 10)]), g0 (.bin 87 .gtr (.t 86) (.c (.int .i64 8192)))])
  (.cond (.t 87) (.seq (.ops [g0 (.mv 4 (.c (.str []))), g0 (.mv 5 (.c (.int .i64 0))), g0 (.mv 6 (.c (.int .i64 3)))])
  (.ret))
  (.skip)))
  (.seq (.ops [g0 (.call (some 88) 49 [(.t 10)]), g0 (.mv 4 (.t 88)), g0 (.mv 5 (.c (.int .i64 0))), g0 (.mv 6 (.c (.int .i64 0)))])
  (.ret))))))))),
  [.t 4, .t 5, .t 6]⟩
def L23_0 : Ic := .seq (.seq (.ops [g0 (.mv 23 (.t 12)), g0 (.mv 24 (.t 7)), g0 (.len 25 .slice (.t 24) false), g0 (.bin 26 .lss (.t 23) (.t 25))])
  (.cond (.t 26) (.skip)
  (.exit 0)))
  (.seq (.block 1 (.seq (.ops [g0 (.mv 29 (.t 12)), g0 (.bin 30 .gtr (.t 29) (.c (.int .i64 0))), g0 (.mv 31 (.t 30)), g1 31 true (.mv 32 (.t 7)), g1 31 true (.mv 33 (.t 12)), g1 31 true (.idxA 34 (.t 32) (.t 33) 5 (some 5) none), g1 31 true (.fldA 35 (.t 34) 0 none), g1 31 true (.load 36 (.t 35) none none false), g1 31 true (.bin 37 .eql (.t 36) (.c (.int .i64 1))), g0 (.pick 38 (.t 31) (.t 37) (.c (.bool false))), g0 (.mv 39 (.t 38)), g1 39 true (.mv 40 (.t 7)), g1 39 true (.mv 41 (.t 12)), g1 39 true (.bin 42 .sub (.t 41) (.c (.int .i64 1))), g1 39 true (.idxA 43 (.t 40) (.t 42) 5 (some 5) none), g1 39 true (.fldA 44 (.t 43) 0 none), g1 39 true (.load 45 (.t 44) none none false), g1 39 true (.bin 46 .eql (.t 45) (.c (.int .i64 4))), g0 (.pick 47 (.t 39) (.t 46) (.c (.bool false))), g0 (.mv 48 (.t 47)), g1 48 true (.mv 49 (.t 7)), g1 48 true (.mv 50 (.t 12)), g1 48 true (.bin 51 .sub (.t 50) (.c (.int .i64 1))), g1 48 true (.idxA 52 (.t 49) (.t 51) 5 (some 5) none), g1 48 true (.fldA 53 (.t 52) 2 none), g1 48 true (.load 54 (.t 53) none none false), g1 48 true (.bin 55 .eql (.t 54) (.c (.str [64]))), g0 (.pick 56 (.t 48) (.t 55) (.c (.bool false)))])
  (.cond (.t 56) (.seq (.ops [g0 (.mv 57 (.t 10)), g0 (.mv 58 (.t 0)), g0 (.mv 59 (.t 11)), g0 (.mv 60 (.t 7)), g0 (.mv 61 (.t 12)), g0 (.idxA 62 (.t 60) (.t 61) 5 (some 5) none), g0 (.fldA 63 (.t 62) 3 none), g0 (.load 64 (.t 63) none none true), g0 (.slc 65 none (.t 58) (some (.t 59)) (some (.t 64)) none), g0 (.bin 66 .add (.t 57) (.t 65)), g0 (.mv 67 (.t 1)), g0 (.mv 68 (.t 7)), g0 (.mv 69 (.t 12)), g0 (.idxA 70 (.t 68) (.t 69) 5 (some 5) none), g0 (.fldA 71 (.t 70) 2 none), g0 (.load 72 (.t 71) none none false), g0 (.call (some 73) 50 [(.t 67), (.t 72)]), g0 (.bin 74 .add (.t 66) (.t 73)), g0 (.mv 10 (.t 74))])
  (.seq (.ops [g0 (.mv 75 (.t 7)), g0 (.mv 76 (.t 12)), g0 (.idxA 77 (.t 75) (.t 76) 5 (some 5) none), g0 (.fldA 78 (.t 77) 4 none), g0 (.load 79 (.t 78) none none false), g0 (.mv 11 (.t 79))])
  (.seq (.ops [g0 (.mv 80 (.t 10)), g0 (.len 81 .str (.t 80) false), g0 (.bin 82 .gtr (.t 81) (.c (.int .i64 8192)))])
  (.cond (.t 82) (.seq (.ops [g0 (.mv 4 (.c (.str []))), g0 (.mv 5 (.c (.int .i64 0))), g0 (.mv 6 (.c (.int .i64 3)))])
  (.ret))
  (.skip)))))
  (.skip))))
  (.ops [g0 (.mv 27 (.t 12)), g0 (.bin 28 .add (.t 27) (.c (.int .i64 1))), g0 (.mv 12 (.t 28))]))
/-- notary/notaryref22.Rename -/
def F23 : IFunc := ⟨.pure, .seq (.ops [g0 (.mv 4 (.c (.str []))), g0 (.mv 5 (.c (.int .i64 0))), g0 (.mv 6 (.c (.int .i64 0)))])
  (.seq (.ops [g0 (.mv 14 (.t 0)), g0 (.call (some 15) 16 [(.t 14)]), g0 (.mv 13 (.t 15)), g0 (.ext 16 (.t 13) 0), g0 (.ext 17 (.t 13) 1), g0 (.ext 18 (.t 13) 2), g0 (.mv 7 (.t 16)), g0 (.mv 8 (.t 17)), g0 (.mv 9 (.t 18))])
  (.seq (.seq (.ops [g0 (.mv 19 (.t 9)), g0 (.bin 20 .neq (.t 19) (.c (.int .i64 0)))])
  (.cond (.t 20) (.seq (.ops [g0 (.mv 21 (.t 8)), g0 (.mv 22 (.t 9)), g0 (.mv 4 (.c (.str []))), g0 (.mv 5 (.t 21)), g0 (.mv 6 (.t 22))])
  (.ret))
  (.skip)))
  (.seq (.ops [g0 (.mv 10 (.c (.str [])))])
  (.seq (.ops [g0 (.mv 11 (.c (.int .i64 0)))])
  (.seq (.seq (.ops [g0 (.mv 12 (.c (.int .i64 0)))])
  (.block 0 (.loop L23_0)))
  (.seq (.ops [g0 (.mv 83 (.t 10)), g0 (.mv 84 (.t 0)), g0 (.mv 85 (.t 11)), g0 (.slc 86 none (.t 84) (some (.t 85)) none none), g0 (.bin 87 .add (.t 83) (.t 86)), g0 (.mv 10 (.t 87))])
  (.seq (.seq (.ops [g0 (.mv 88 (.t 10)), g0 (.len 89 .str (.t 88) false), g0 (.bin 90 .gtr (.t 89) (.c (.int .i64 8192)))])
  (.cond (.t 90) (.seq (.ops [g0 (.mv 4 (.c (.str []))), g0 (.mv 5 (.c (.int .i64 0))), g0 (.mv 6 (.c (.int .i64 3)))])
  (.ret))
  (.skip)))
  (.seq (.ops [g0 (.mv 91 (.t 10)), g0 (.mv 4 (.t 91)), g0 (.mv 5 (.c (.int .i64 0))), g0 (.mv 6 (.c (.int .i64 0)))])
  (.ret))))))))),
  [.t 4, .t 5, .t 6]⟩
/-- notary/link.Agree -/
def F24 : IFunc := ⟨.pure, .seq (.ops [g0 (.boxL 2 4 (some (.t 0)) []), g0 (.boxL 3 4 (some (.t 1)) []), g0 (.mv 4 (.c (.bool false)))])
  (.seq (.ops [g0 (.fldA 6 (.t 2) 2 none), g0 (.load 7 (.t 6) none (some 2) false), g0 (.len 8 .slice (.t 7) false), g0 (.fldA 9 (.t 3) 2 none), g0 (.load 10 (.t 9) none (some 3) false), g0 (.len 11 .slice (.t 10) false), g0 (.mm 12 false (.t 8) (.t 11)), g0 (.mv 5 (.t 12))])
  (.seq (.seq (.ops [g0 (.fldA 13 (.t 2) 2 none), g0 (.load 14 (.t 13) none (some 2) false), g0 (.mv 15 (.t 5)), g0 (.slc 16 (some 1) (.t 14) none (some (.t 15)) none), g0 (.fldA 17 (.t 3) 2 none), g0 (.load 18 (.t 17) none (some 3) false), g0 (.mv 19 (.t 5)), g0 (.slc 20 (some 1) (.t 18) none (some (.t 19)) none), g0 (.call (some 21) 51 [(.t 16), (.t 20)]), g0 (.un 22 .not (.t 21))])
  (.cond (.t 22) (.seq (.ops [g0 (.mv 4 (.c (.bool false)))])
  (.ret))
  (.skip)))
  (.seq (.seq (.ops [g0 (.fldA 23 (.t 2) 0 none), g0 (.load 24 (.t 23) none (some 2) false), g0 (.bin 25 .eql (.t 24) (.c (.int .i64 3))), g0 (.mv 26 (.t 25)), g1 26 false (.fldA 27 (.t 3) 0 none), g1 26 false (.load 28 (.t 27) none (some 3) false), g1 26 false (.bin 29 .eql (.t 28) (.c (.int .i64 3))), g0 (.pick 30 (.t 26) (.c (.bool true)) (.t 29))])
  (.cond (.t 30) (.seq (.ops [g0 (.mv 4 (.c (.bool true)))])
  (.ret))
  (.skip)))
  (.seq (.ops [g0 (.fldA 31 (.t 2) 2 none), g0 (.load 32 (.t 31) none (some 2) false), g0 (.len 33 .slice (.t 32) false), g0 (.fldA 34 (.t 3) 2 none), g0 (.load 35 (.t 34) none (some 3) false), g0 (.len 36 .slice (.t 35) false), g0 (.bin 37 .eql (.t 33) (.t 36)), g0 (.mv 38 (.t 37)), g1 38 true (.fldA 39 (.t 2) 0 none), g1 38 true (.load 40 (.t 39) none (some 2) false), g1 38 true (.fldA 41 (.t 3) 0 none), g1 38 true (.load 42 (.t 41) none (some 3) false), g1 38 true (.bin 43 .eql (.t 40) (.t 42)), g0 (.pick 44 (.t 38) (.t 43) (.c (.bool false))), g0 (.mv 45 (.t 44)), g1 45 true (.fldA 46 (.t 2) 1 none), g1 45 true (.load 47 (.t 46) none (some 2) false), g1 45 true (.fldA 48 (.t 3) 1 none), g1 45 true (.load 49 (.t 48) none (some 3) false), g1 45 true (.bin 50 .eql (.t 47) (.t 49)), g0 (.pick 51 (.t 45) (.t 50) (.c (.bool false))), g0 (.mv 4 (.t 51))])
  (.ret))))),
  [.t 4]⟩
/-- notary/notaryref22.Agree -/
def F25 : IFunc := ⟨.pure, .seq (.ops [g0 (.boxL 2 4 (some (.t 0)) []), g0 (.boxL 3 4 (some (.t 1)) []), g0 (.mv 4 (.c (.bool false)))])
  (.seq (.seq (.ops [g0 (.fldA 5 (.t 2) 2 none), g0 (.load 6 (.t 5) none (some 2) false), g0 (.fldA 7 (.t 3) 2 none), g0 (.load 8 (.t 7) none (some 3) false), g0 (.call (some 9) 52 [(.t 6), (.t 8)]), g0 (.un 10 .not (.t 9)), g0 (.mv 11 (.t 10)), g1 11 true (.fldA 12 (.t 3) 2 none), g1 11 true (.load 13 (.t 12) none (some 3) false), g1 11 true (.fldA 14 (.t 2) 2 none), g1 11 true (.load 15 (.t 14) none (some 2) false), g1 11 true (.call (some 16) 52 [(.t 13), (.t 15)]), g1 11 true (.un 17 .not (.t 16)), g0 (.pick 18 (.t 11) (.t 17) (.c (.bool false)))])
  (.cond (.t 18) (.seq (.ops [g0 (.mv 4 (.c (.bool false)))])
  (.ret))
  (.skip)))
  (.seq (.ops [g0 (.fldA 19 (.t 2) 0 none), g0 (.load 20 (.t 19) none (some 2) false), g0 (.bin 21 .eql (.t 20) (.c (.int .i64 3))), g0 (.mv 22 (.t 21)), g1 22 false (.fldA 23 (.t 3) 0 none), g1 22 false (.load 24 (.t 23) none (some 3) false), g1 22 false (.bin 25 .eql (.t 24) (.c (.int .i64 3))), g0 (.pick 26 (.t 22) (.c (.bool true)) (.t 25)), g0 (.mv 27 (.t 26)), g1 27 false (.fldA 28 (.t 2) 2 none), g1 27 false (.load 29 (.t 28) none (some 2) false), g1 27 false (.fldA 30 (.t 3) 2 none), g1 27 false (.load 31 (.t 30) none (some 3) false), g1 27 false (.call (some 32) 53 [(.t 29), (.t 31)]), g1 27 false (.mv 33 (.t 32)), g1 33 true (.fldA 34 (.t 2) 0 none), g1 33 true (.load 35 (.t 34) none (some 2) false), g1 33 true (.fldA 36 (.t 3) 0 none), g1 33 true (.load 37 (.t 36) none (some 3) false), g1 33 true (.bin 38 .eql (.t 35) (.t 37)), g1 27 false (.pick 39 (.t 33) (.t 38) (.c (.bool false))), g1 27 false (.mv 40 (.t 39)), g1 40 true (.fldA 41 (.t 2) 1 none), g1 40 true (.load 42 (.t 41) none (some 2) false), g1 40 true (.fldA 43 (.t 3) 1 none), g1 40 true (.load 44 (.t 43) none (some 3) false), g1 40 true (.bin 45 .eql (.t 42) (.t 44)), g1 27 false (.pick 46 (.t 40) (.t 45) (.c (.bool false))), g0 (.pick 47 (.t 27) (.c (.bool true)) (.t 46)), g0 (.mv 4 (.t 47))])
  (.ret))),
  [.t 4]⟩
def L41_1 : Ic := .seq (.seq (.ops [g0 (.mv 18 (.t 1)), g0 (.mv 19 (.t 0)), g0 (.len 20 .str (.t 19) false), g0 (.bin 21 .lss (.t 18) (.t 20)), g0 (.mv 22 (.t 21)), g1 22 true (.mv 23 (.t 0)), g1 22 true (.mv 24 (.t 1)), g1 22 true (.idx 25 (.t 23) (.t 24) none 1 none), g1 22 true (.bin 26 .neq (.t 25) (.c (.int .u8 10))), g0 (.pick 27 (.t 22) (.t 26) (.c (.bool false)))])
  (.cond (.t 27) (.skip)
  (.exit 2)))
  (.block 3 (.ops [g0 (.mv 28 (.t 1)), g0 (.bin 29 .add (.t 28) (.c (.int .i64 1))), g0 (.mv 1 (.t 29))]))
def L41_0 : Ic := .seq (.seq (.ops [g0 (.mv 5 (.t 1)), g0 (.mv 6 (.t 0)), g0 (.len 7 .str (.t 6) false), g0 (.bin 8 .lss (.t 5) (.t 7))])
  (.cond (.t 8) (.skip)
  (.exit 0)))
  (.block 1 (.seq (.ops [g0 (.mv 9 (.t 0)), g0 (.mv 10 (.t 1)), g0 (.idx 11 (.t 9) (.t 10) none 1 none), g0 (.call (some 12) 77 [(.t 11)])])
  (.cond (.t 12) (.ops [g0 (.mv 13 (.t 1)), g0 (.bin 14 .add (.t 13) (.c (.int .i64 1))), g0 (.mv 1 (.t 14))])
  (.seq (.ops [g0 (.mv 15 (.t 0)), g0 (.mv 16 (.t 1)), g0 (.call (some 17) 78 [(.t 15), (.t 16), (.c (.str [47, 47]))])])
  (.cond (.t 17) (.block 2 (.loop L41_1))
  (.seq (.ops [g0 (.mv 30 (.t 1)), g0 (.mv 4 (.t 30))])
  (.ret)))))))
/-- notary/notaryref05.Next -/
def F41 : IFunc := ⟨.pure, .seq (.ops [g0 (.mv 4 (.c (.int .i64 0)))])
  (.seq (.block 0 (.loop L41_0))
  (.seq (.ops [g0 (.mv 31 (.t 1)), g0 (.mv 4 (.t 31))])
  (.ret))),
  [.t 4]⟩
def L42_2 : Ic := .seq (.seq (.ops [g0 (.mv 87 (.t 12)), g0 (.mv 88 (.t 11)), g0 (.len 89 .slice (.t 88) false), g0 (.bin 90 .lss (.t 87) (.t 89))])
  (.cond (.t 90) (.skip)
  (.exit 4)))
  (.seq (.block 5 (.seq (.ops [g0 (.mv 93 (.t 0)), g0 (.mv 94 (.t 1)), g0 (.mv 95 (.t 11)), g0 (.mv 96 (.t 12)), g0 (.idxA 97 (.t 95) (.t 96) 1 none none), g0 (.load 98 (.t 97) none none false), g0 (.call (some 99) 78 [(.t 93), (.t 94), (.t 98)])])
  (.cond (.t 99) (.seq (.ops [g0 (.mv 100 (.t 11)), g0 (.mv 101 (.t 12)), g0 (.idxA 102 (.t 100) (.t 101) 1 none none), g0 (.load 103 (.t 102) none none false), g0 (.mv 104 (.t 1)), g0 (.mv 105 (.t 1)), g0 (.mv 106 (.t 11)), g0 (.mv 107 (.t 12)), g0 (.idxA 108 (.t 106) (.t 107) 1 none none), g0 (.load 109 (.t 108) none none false), g0 (.len 110 .str (.t 109) false), g0 (.bin 111 .add (.t 105) (.t 110)), g0 (.build 112 [(.int .i64 0), (.int .i64 0), (.str []), (.int .i64 0), (.int .i64 0)] [(0, 1, (.c (.int .i64 4))), (2, 1, (.t 103)), (3, 1, (.t 104)), (4, 1, (.t 111))]), g0 (.store (.t 4) (.t 112) 5 (some 4)), g0 (.mv 5 (.c (.int .i64 0)))])
  (.ret))
  (.skip))))
  (.ops [g0 (.mv 91 (.t 12)), g0 (.bin 92 .add (.t 91) (.c (.int .i64 1))), g0 (.mv 12 (.t 92))]))
def L42_1 : Ic := .seq (.seq (.ops [g0 (.mv 59 (.t 7)), g0 (.mv 60 (.t 0)), g0 (.len 61 .str (.t 60) false), g0 (.bin 62 .lss (.t 59) (.t 61)), g0 (.mv 63 (.t 62)), g1 63 true (.mv 64 (.t 0)), g1 63 true (.mv 65 (.t 7)), g1 63 true (.idx 66 (.t 64) (.t 65) none 1 none), g1 63 true (.call (some 67) 80 [(.t 66)]), g0 (.pick 68 (.t 63) (.t 67) (.c (.bool false)))])
  (.cond (.t 68) (.skip)
  (.exit 2)))
  (.block 3 (.ops [g0 (.mv 69 (.t 7)), g0 (.bin 70 .add (.t 69) (.c (.int .i64 1))), g0 (.mv 7 (.t 70))]))
def L42_0 : Ic := .seq (.seq (.ops [g0 (.mv 19 (.t 7)), g0 (.mv 20 (.t 0)), g0 (.len 21 .str (.t 20) false), g0 (.bin 22 .lss (.t 19) (.t 21)), g0 (.mv 23 (.t 22)), g1 23 true (.mv 24 (.t 0)), g1 23 true (.mv 25 (.t 7)), g1 23 true (.idx 26 (.t 24) (.t 25) none 1 none), g1 23 true (.call (some 27) 79 [(.t 26)]), g1 23 true (.mv 28 (.t 27)), g1 28 false (.mv 29 (.t 0)), g1 28 false (.mv 30 (.t 7)), g1 28 false (.idx 31 (.t 29) (.t 30) none 1 none), g1 28 false (.call (some 32) 80 [(.t 31)]), g1 23 true (.pick 33 (.t 28) (.c (.bool true)) (.t 32)), g0 (.pick 34 (.t 23) (.t 33) (.c (.bool false)))])
  (.cond (.t 34) (.skip)
  (.exit 0)))
  (.block 1 (.ops [g0 (.mv 35 (.t 7)), g0 (.bin 36 .add (.t 35) (.c (.int .i64 1))), g0 (.mv 7 (.t 36))]))
/-- notary/notaryref05.One -/
def F42 : IFunc := ⟨.pure, .seq (.ops [g0 (.boxL 4 5 none [(.int .i64 0), (.int .i64 0), (.str []), (.int .i64 0), (.int .i64 0)]), g0 (.mv 5 (.c (.int .i64 0)))])
  (.seq (.ops [g0 (.mv 13 (.t 0)), g0 (.mv 14 (.t 1)), g0 (.idx 15 (.t 13) (.t 14) none 1 none), g0 (.mv 6 (.t 15))])
  (.seq (.ops [g0 (.mv 16 (.t 1)), g0 (.mv 7 (.t 16))])
  (.seq (.seq (.ops [g0 (.mv 17 (.t 6)), g0 (.call (some 18) 79 [(.t 17)])])
  (.cond (.t 18) (.seq (.block 0 (.loop L42_0))
  (.seq (.seq (.ops [g0 (.mv 37 (.t 7)), g0 (.mv 38 (.t 1)), g0 (.bin 39 .sub (.t 37) (.t 38)), g0 (.bin 40 .gtr (.t 39) (.c (.int .i64 16)))])
  (.cond (.t 40) (.seq (.ops [g0 (.build 41 [(.int .i64 0), (.int .i64 0), (.str []), (.int .i64 0), (.int .i64 0)] []), g0 (.store (.t 4) (.t 41) 5 (some 4)), g0 (.mv 5 (.c (.int .i64 3)))])
  (.ret))
  (.skip)))
  (.seq (.ops [g0 (.mv 42 (.t 0)), g0 (.mv 43 (.t 1)), g0 (.mv 44 (.t 7)), g0 (.slc 45 none (.t 42) (some (.t 43)) (some (.t 44)) none), g0 (.mv 8 (.t 45))])
  (.seq (.seq (.ops [g0 (.mv 46 (.t 8)), g0 (.call (some 47) 82 []), g0 (.call (some 48) 81 [(.t 46), (.t 47)])])
  (.cond (.t 48) (.seq (.ops [g0 (.mv 49 (.t 8)), g0 (.mv 50 (.t 1)), g0 (.mv 51 (.t 7)), g0 (.build 52 [(.int .i64 0), (.int .i64 0), (.str []), (.int .i64 0), (.int .i64 0)] [(0, 1, (.c (.int .i64 3))), (2, 1, (.t 49)), (3, 1, (.t 50)), (4, 1, (.t 51))]), g0 (.store (.t 4) (.t 52) 5 (some 4)), g0 (.mv 5 (.c (.int .i64 0)))])
  (.ret))
  (.skip)))
  (.seq (.ops [g0 (.mv 53 (.t 8)), g0 (.mv 54 (.t 1)), g0 (.mv 55 (.t 7)), g0 (.build 56 [(.int .i64 0), (.int .i64 0), (.str []), (.int .i64 0), (.int .i64 0)] [(0, 1, (.c (.int .i64 1))), (2, 1, (.t 53)), (3, 1, (.t 54)), (4, 1, (.t 55))]), g0 (.store (.t 4) (.t 56) 5 (some 4)), g0 (.mv 5 (.c (.int .i64 0)))])
  (.ret))))))
  (.skip)))
  (.seq (.seq (.ops [g0 (.mv 57 (.t 6)), g0 (.call (some 58) 80 [(.t 57)])])
  (.cond (.t 58) (.seq (.block 2 (.loop L42_1))
  (.seq (.ops [g0 (.mv 72 (.t 0)), g0 (.mv 73 (.t 1)), g0 (.mv 74 (.t 7)), g0 (.slc 75 none (.t 72) (some (.t 73)) (some (.t 74)) none), g0 (.call (some 76) 83 [(.t 75)]), g0 (.mv 71 (.t 76)), g0 (.ext 77 (.t 71) 0), g0 (.ext 78 (.t 71) 1), g0 (.mv 9 (.t 77)), g0 (.mv 10 (.t 78))])
  (.seq (.seq (.ops [g0 (.mv 79 (.t 10)), g0 (.un 80 .not (.t 79))])
  (.cond (.t 80) (.seq (.ops [g0 (.build 81 [(.int .i64 0), (.int .i64 0), (.str []), (.int .i64 0), (.int .i64 0)] []), g0 (.store (.t 4) (.t 81) 5 (some 4)), g0 (.mv 5 (.c (.int .i64 5)))])
  (.ret))
  (.skip)))
  (.seq (.ops [g0 (.mv 82 (.t 9)), g0 (.mv 83 (.t 1)), g0 (.mv 84 (.t 7)), g0 (.build 85 [(.int .i64 0), (.int .i64 0), (.str []), (.int .i64 0), (.int .i64 0)] [(0, 1, (.c (.int .i64 2))), (1, 1, (.t 82)), (3, 1, (.t 83)), (4, 1, (.t 84))]), g0 (.store (.t 4) (.t 85) 5 (some 4)), g0 (.mv 5 (.c (.int .i64 0)))])
  (.ret)))))
  (.skip)))
  (.seq (.ops [g0 (.call (some 86) 84 []), g0 (.mv 11 (.t 86))])
  (.seq (.seq (.ops [g0 (.mv 12 (.c (.int .i64 0)))])
  (.block 4 (.loop L42_2)))
  (.seq (.ops [g0 (.build 113 [(.int .i64 0), (.int .i64 0), (.str []), (.int .i64 0), (.int .i64 0)] []), g0 (.store (.t 4) (.t 113) 5 (some 4)), g0 (.mv 5 (.c (.int .i64 4)))])
  (.ret)))))))),
  [.cell 4 (some 5) (some 4), .t 5]⟩
def L44_0 : Ic := .seq (.seq (.ops [g0 (.mv 16 (.t 5)), g0 (.nilc (some 17) (.t 16)), g0 (.fldA 18 (.t 17) 1 none), g0 (.load 19 (.t 18) none none false), g0 (.mv 20 (.t 0)), g0 (.len 21 .str (.t 20) false), g0 (.bin 22 .lss (.t 19) (.t 21))])
  (.cond (.t 22) (.skip)
  (.exit 0)))
  (.seq (.block 1 (.seq (.ops [g0 (.mv 25 (.t 5)), g0 (.nilc (some 26) (.t 25)), g0 (.fldA 27 (.t 26) 1 none), g0 (.load 28 (.t 27) none none false), g0 (.mv 6 (.t 28))])
  (.seq (.ops [g0 (.mv 29 (.t 5)), g0 (.call (some 30) 86 [(.t 29)]), g0 (.mv 7 (.t 30))])
  (.seq (.ops [g0 (.mv 31 (.t 7)), g0 (.bin 32 .neq (.t 31) (.c (.int .i64 0)))])
  (.cond (.t 32) (.seq (.ops [g0 (.mv 33 (.t 6)), g0 (.mv 34 (.t 7)), g0 (.mv 2 (.c .nils)), g0 (.mv 3 (.t 33)), g0 (.mv 4 (.t 34))])
  (.ret))
  (.skip))))))
  (.ops [g0 (.mv 23 (.t 5)), g0 (.call (some 24) 85 [(.t 23)])]))
/-- notary/lex.Tokens -/
def F44 : IFunc := ⟨.pure, .seq (.ops [g0 (.mv 2 (.c .nils)), g0 (.mv 3 (.c (.int .i64 0))), g0 (.mv 4 (.c (.int .i64 0)))])
  (.seq (.seq (.ops [g0 (.mv 8 (.t 0)), g0 (.len 9 .str (.t 8) false), g0 (.bin 10 .gtr (.t 9) (.c (.int .i64 8192)))])
  (.cond (.t 10) (.seq (.ops [g0 (.mv 2 (.c .nils)), g0 (.mv 3 (.c (.int .i64 0))), g0 (.mv 4 (.c (.int .i64 3)))])
  (.ret))
  (.skip)))
  (.seq (.ops [g0 (.mv 11 (.t 0)), g0 (.build 12 [(.str []), (.int .i64 0), .nils] [(0, 1, (.t 11))]), g0 (.boxH 13 (some 3) (.t 12)), g0 (.mv 5 (.t 13))])
  (.seq (.seq (.ops [g0 (.mv 14 (.t 5)), g0 (.call (some 15) 85 [(.t 14)])])
  (.block 0 (.loop L44_0)))
  (.seq (.ops [g0 (.mv 35 (.t 5)), g0 (.mv 36 (.t 5)), g0 (.nilc (some 37) (.t 36)), g0 (.fldA 38 (.t 37) 1 none), g0 (.load 39 (.t 38) none none false), g0 (.call (some 40) 87 [(.t 35), (.c (.int .i64 5)), (.c (.int .i64 0)), (.c (.str [])), (.t 39)])])
  (.seq (.ops [g0 (.mv 41 (.t 5)), g0 (.nilc (some 42) (.t 41)), g0 (.fldA 43 (.t 42) 2 none), g0 (.load 44 (.t 43) none none false), g0 (.mv 2 (.t 44)), g0 (.mv 3 (.c (.int .i64 0))), g0 (.mv 4 (.c (.int .i64 0)))])
  (.ret)))))),
  [.t 2, .t 3, .t 4]⟩
def L45_0 : Ic := .seq (.ops [g0 (.bin 9 .lss (.t 8) (.t 7))])
  (.seq (.cond (.t 9) (.skip)
  (.exit 0))
  (.seq (.block 1 (.seq (.ops [g0 (.mv 10 (.t 8)), g0 (.mv 5 (.t 10))])
  (.seq (.ops [g0 (.mv 11 (.t 1)), g0 (.mv 12 (.t 0)), g0 (.mv 13 (.t 5)), g0 (.idxA 14 (.t 12) (.t 13) 2 (some 2) none), g0 (.load 15 (.t 14) (some 2) none false), g0 (.callV (some 16) (.t 11) [(.t 15)])])
  (.cond (.t 16) (.seq (.ops [g0 (.mv 17 (.t 5)), g0 (.mv 4 (.t 17))])
  (.ret))
  (.skip)))))
  (.ops [g0 (.bin 18 .add (.t 8) (.c (.int .i64 1))), g0 (.mv 8 (.t 18))])))
/-- slices.IndexFunc[[]notary/api.Naming,notary/api.Naming] -/
def F45 : IFunc := ⟨.pop, .seq (.ops [g0 (.mv 4 (.c (.int .i64 0)))])
  (.seq (.seq (.ops [g0 (.mv 6 (.t 0)), g0 (.len 7 .slice (.t 6) false), g0 (.mv 8 (.c (.int .i64 0)))])
  (.block 0 (.loop L45_0)))
  (.seq (.ops [g0 (.mv 4 (.c (.int .i64 (-1))))])
  (.ret))),
  [.t 4]⟩
/-- notary/link.Rename$1 -/
def F46 : IFunc := ⟨.pop, .seq (.ops [g0 (.boxL 3 2 (some (.t 0)) []), g0 (.mv 4 (.c (.bool false)))])
  (.seq (.ops [g0 (.fldA 5 (.t 3) 0 none), g0 (.load 6 (.t 5) none (some 3) false), g0 (.load 7 (.t 1) none none false), g0 (.load 8 (.t 2) none none false), g0 (.idxA 9 (.t 7) (.t 8) 5 (some 5) none), g0 (.fldA 10 (.t 9) 2 none), g0 (.load 11 (.t 10) none none false), g0 (.bin 12 .eql (.t 6) (.t 11)), g0 (.mv 4 (.t 12))])
  (.ret)),
  [.t 4]⟩
/-- (*strings.Builder).WriteString -/
def F47 : IFunc := ⟨.raw, .seq (.ops [g0 (.mv 4 (.c (.int .i64 0))), g0 (.mv 5 (.c .nili))])
  (.seq (.ops [g0 (.mv 6 (.t 0)), g0 (.call (some 7) 88 [(.t 6)])])
  (.seq (.ops [g0 (.mv 8 (.t 0)), g0 (.mv 9 (.t 0)), g0 (.nilc (some 10) (.t 9)), g0 (.fldA 11 (.t 10) 1 none), g0 (.load 12 (.t 11) none none false), g0 (.mv 13 (.t 1)), g0 (.appT 14 (.t 12) (.t 13) 1 5), g0 (.nilc (some 15) (.t 8)), g0 (.fldA 16 (.t 15) 1 none), g0 (.store (.t 16) (.t 14) 1 none)])
  (.seq (.ops [g0 (.mv 17 (.t 1)), g0 (.len 18 .str (.t 17) false), g0 (.mv 4 (.t 18)), g0 (.mv 5 (.c .nili))])
  (.ret)))),
  [.t 4, .t 5]⟩
/-- (*strings.Builder).Len -/
def F48 : IFunc := ⟨.raw, .seq (.ops [g0 (.mv 2 (.c (.int .i64 0)))])
  (.seq (.ops [g0 (.mv 3 (.t 0)), g0 (.nilc (some 4) (.t 3)), g0 (.fldA 5 (.t 4) 1 none), g0 (.load 6 (.t 5) none none false), g0 (.len 7 .slice (.t 6) false), g0 (.mv 2 (.t 7))])
  (.ret)),
  [.t 2]⟩
/-- (*strings.Builder).String -/
def F49 : IFunc := ⟨.raw, .prim 98649,
  [.t 0]⟩
def L50_0 : Ic := .seq (.seq (.ops [g0 (.mv 6 (.t 5)), g0 (.mv 7 (.t 0)), g0 (.len 8 .slice (.t 7) false), g0 (.bin 9 .lss (.t 6) (.t 8))])
  (.cond (.t 9) (.skip)
  (.exit 0)))
  (.seq (.block 1 (.seq (.ops [g0 (.mv 12 (.t 0)), g0 (.mv 13 (.t 5)), g0 (.idxA 14 (.t 12) (.t 13) 2 (some 2) none), g0 (.fldA 15 (.t 14) 0 none), g0 (.load 16 (.t 15) none none false), g0 (.mv 17 (.t 1)), g0 (.bin 18 .eql (.t 16) (.t 17))])
  (.cond (.t 18) (.seq (.ops [g0 (.mv 19 (.t 0)), g0 (.mv 20 (.t 5)), g0 (.idxA 21 (.t 19) (.t 20) 2 (some 2) none), g0 (.fldA 22 (.t 21) 1 none), g0 (.load 23 (.t 22) none none false), g0 (.mv 4 (.t 23))])
  (.ret))
  (.skip))))
  (.ops [g0 (.mv 10 (.t 5)), g0 (.bin 11 .add (.t 10) (.c (.int .i64 1))), g0 (.mv 5 (.t 11))]))
/-- notary/notaryref22.Anew -/
def F50 : IFunc := ⟨.pure, .seq (.ops [g0 (.mv 4 (.c (.str [])))])
  (.seq (.seq (.ops [g0 (.mv 5 (.c (.int .i64 0)))])
  (.block 0 (.loop L50_0)))
  (.seq (.ops [g0 (.mv 24 (.t 1)), g0 (.mv 4 (.t 24))])
  (.ret))),
  [.t 4]⟩
def L51_0 : Ic := .seq (.ops [g0 (.bin 14 .lss (.t 13) (.t 12))])
  (.seq (.cond (.t 14) (.skip)
  (.exit 0))
  (.seq (.block 1 (.seq (.ops [g0 (.mv 15 (.t 13)), g0 (.mv 5 (.t 15))])
  (.seq (.ops [g0 (.mv 16 (.t 0)), g0 (.mv 17 (.t 5)), g0 (.idxA 18 (.t 16) (.t 17) 1 none none), g0 (.load 19 (.t 18) none none false), g0 (.mv 20 (.t 1)), g0 (.mv 21 (.t 5)), g0 (.idxA 22 (.t 20) (.t 21) 1 none none), g0 (.load 23 (.t 22) none none false), g0 (.bin 24 .neq (.t 19) (.t 23))])
  (.cond (.t 24) (.seq (.ops [g0 (.mv 4 (.c (.bool false)))])
  (.ret))
  (.skip)))))
  (.ops [g0 (.bin 25 .add (.t 13) (.c (.int .i64 1))), g0 (.mv 13 (.t 25))])))
/-- slices.Equal[[]int64,int64] -/
def F51 : IFunc := ⟨.pure, .seq (.ops [g0 (.mv 4 (.c (.bool false)))])
  (.seq (.seq (.ops [g0 (.mv 6 (.t 0)), g0 (.len 7 .slice (.t 6) false), g0 (.mv 8 (.t 1)), g0 (.len 9 .slice (.t 8) false), g0 (.bin 10 .neq (.t 7) (.t 9))])
  (.cond (.t 10) (.seq (.ops [g0 (.mv 4 (.c (.bool false)))])
  (.ret))
  (.skip)))
  (.seq (.seq (.ops [g0 (.mv 11 (.t 0)), g0 (.len 12 .slice (.t 11) false), g0 (.mv 13 (.c (.int .i64 0)))])
  (.block 0 (.loop L51_0)))
  (.seq (.ops [g0 (.mv 4 (.c (.bool true)))])
  (.ret)))),
  [.t 4]⟩
/-- notary/notaryref21.Ahead -/
def F52 : IFunc := ⟨.pure, .seq (.ops [g0 (.mv 4 (.c (.bool false)))])
  (.seq (.ops [g0 (.mv 5 (.t 0)), g0 (.len 6 .slice (.t 5) false), g0 (.mv 7 (.t 1)), g0 (.len 8 .slice (.t 7) false), g0 (.bin 9 .leq (.t 6) (.t 8)), g0 (.mv 10 (.t 9)), g1 10 true (.mv 11 (.t 0)), g1 10 true (.mv 12 (.t 1)), g1 10 true (.mv 13 (.t 0)), g1 10 true (.len 14 .slice (.t 13) false), g1 10 true (.slc 15 (some 1) (.t 12) none (some (.t 14)) none), g1 10 true (.call (some 16) 53 [(.t 11), (.t 15)]), g0 (.pick 17 (.t 10) (.t 16) (.c (.bool false))), g0 (.mv 4 (.t 17))])
  (.ret)),
  [.t 4]⟩
def L53_0 : Ic := .seq (.seq (.ops [g0 (.mv 11 (.t 5)), g0 (.mv 12 (.t 0)), g0 (.len 13 .slice (.t 12) false), g0 (.bin 14 .lss (.t 11) (.t 13))])
  (.cond (.t 14) (.skip)
  (.exit 0)))
  (.seq (.block 1 (.seq (.ops [g0 (.mv 17 (.t 0)), g0 (.mv 18 (.t 5)), g0 (.idxA 19 (.t 17) (.t 18) 1 none none), g0 (.load 20 (.t 19) none none false), g0 (.mv 21 (.t 1)), g0 (.mv 22 (.t 5)), g0 (.idxA 23 (.t 21) (.t 22) 1 none none), g0 (.load 24 (.t 23) none none false), g0 (.bin 25 .neq (.t 20) (.t 24))])
  (.cond (.t 25) (.seq (.ops [g0 (.mv 4 (.c (.bool false)))])
  (.ret))
  (.skip))))
  (.ops [g0 (.mv 15 (.t 5)), g0 (.bin 16 .add (.t 15) (.c (.int .i64 1))), g0 (.mv 5 (.t 16))]))
/-- notary/notaryref21.Numbers -/
def F53 : IFunc := ⟨.pure, .seq (.ops [g0 (.mv 4 (.c (.bool false)))])
  (.seq (.seq (.ops [g0 (.mv 6 (.t 0)), g0 (.len 7 .slice (.t 6) false), g0 (.mv 8 (.t 1)), g0 (.len 9 .slice (.t 8) false), g0 (.bin 10 .neq (.t 7) (.t 9))])
  (.cond (.t 10) (.seq (.ops [g0 (.mv 4 (.c (.bool false)))])
  (.ret))
  (.skip)))
  (.seq (.seq (.ops [g0 (.mv 5 (.c (.int .i64 0)))])
  (.block 0 (.loop L53_0)))
  (.seq (.ops [g0 (.mv 4 (.c (.bool true)))])
  (.ret)))),
  [.t 4]⟩
/-- notary/notaryref05.Blank -/
def F77 : IFunc := ⟨.pure, .seq (.ops [g0 (.mv 2 (.c (.bool false)))])
  (.seq (.ops [g0 (.mv 3 (.t 0)), g0 (.bin 4 .eql (.t 3) (.c (.int .u8 32))), g0 (.mv 5 (.t 4)), g1 5 false (.mv 6 (.t 0)), g1 5 false (.bin 7 .eql (.t 6) (.c (.int .u8 9))), g0 (.pick 8 (.t 5) (.c (.bool true)) (.t 7)), g0 (.mv 9 (.t 8)), g1 9 false (.mv 10 (.t 0)), g1 9 false (.bin 11 .eql (.t 10) (.c (.int .u8 10))), g0 (.pick 12 (.t 9) (.c (.bool true)) (.t 11)), g0 (.mv 13 (.t 12)), g1 13 false (.mv 14 (.t 0)), g1 13 false (.bin 15 .eql (.t 14) (.c (.int .u8 13))), g0 (.pick 16 (.t 13) (.c (.bool true)) (.t 15)), g0 (.mv 2 (.t 16))])
  (.ret)),
  [.t 2]⟩
/-- notary/notaryref05.Begins -/
def F78 : IFunc := ⟨.pure, .seq (.ops [g0 (.mv 6 (.c (.bool false)))])
  (.seq (.ops [g0 (.mv 7 (.t 2)), g0 (.len 8 .str (.t 7) false), g0 (.mv 9 (.t 0)), g0 (.len 10 .str (.t 9) false), g0 (.mv 11 (.t 1)), g0 (.bin 12 .sub (.t 10) (.t 11)), g0 (.bin 13 .leq (.t 8) (.t 12)), g0 (.mv 14 (.t 13)), g1 14 true (.mv 15 (.t 0)), g1 14 true (.mv 16 (.t 1)), g1 14 true (.mv 17 (.t 1)), g1 14 true (.mv 18 (.t 2)), g1 14 true (.len 19 .str (.t 18) false), g1 14 true (.bin 20 .add (.t 17) (.t 19)), g1 14 true (.slc 21 none (.t 15) (some (.t 16)) (some (.t 20)) none), g1 14 true (.mv 22 (.t 2)), g1 14 true (.bin 23 .eql (.t 21) (.t 22)), g0 (.pick 24 (.t 14) (.t 23) (.c (.bool false))), g0 (.mv 6 (.t 24))])
  (.ret)),
  [.t 6]⟩
/-- notary/notaryref05.Letter -/
def F79 : IFunc := ⟨.pure, .seq (.ops [g0 (.mv 2 (.c (.bool false)))])
  (.seq (.ops [g0 (.mv 3 (.t 0)), g0 (.bin 4 .leq (.c (.int .u8 97)) (.t 3)), g0 (.mv 5 (.t 4)), g1 5 true (.mv 6 (.t 0)), g1 5 true (.bin 7 .leq (.t 6) (.c (.int .u8 122))), g0 (.pick 8 (.t 5) (.t 7) (.c (.bool false))), g0 (.mv 9 (.t 8)), g1 9 false (.mv 10 (.t 0)), g1 9 false (.bin 11 .leq (.c (.int .u8 65)) (.t 10)), g1 9 false (.mv 12 (.t 11)), g1 12 true (.mv 13 (.t 0)), g1 12 true (.bin 14 .leq (.t 13) (.c (.int .u8 90))), g1 9 false (.pick 15 (.t 12) (.t 14) (.c (.bool false))), g0 (.pick 16 (.t 9) (.c (.bool true)) (.t 15)), g0 (.mv 17 (.t 16)), g1 17 false (.mv 18 (.t 0)), g1 17 false (.bin 19 .eql (.t 18) (.c (.int .u8 95))), g0 (.pick 20 (.t 17) (.c (.bool true)) (.t 19)), g0 (.mv 2 (.t 20))])
  (.ret)),
  [.t 2]⟩
/-- notary/notaryref05.Digit -/
def F80 : IFunc := ⟨.pure, .seq (.ops [g0 (.mv 2 (.c (.bool false)))])
  (.seq (.ops [g0 (.mv 3 (.t 0)), g0 (.bin 4 .leq (.c (.int .u8 48)) (.t 3)), g0 (.mv 5 (.t 4)), g1 5 true (.mv 6 (.t 0)), g1 5 true (.bin 7 .leq (.t 6) (.c (.int .u8 57))), g0 (.pick 8 (.t 5) (.t 7) (.c (.bool false))), g0 (.mv 2 (.t 8))])
  (.ret)),
  [.t 2]⟩
def L81_0 : Ic := .seq (.seq (.ops [g0 (.mv 6 (.t 5)), g0 (.mv 7 (.t 1)), g0 (.len 8 .slice (.t 7) false), g0 (.bin 9 .lss (.t 6) (.t 8))])
  (.cond (.t 9) (.skip)
  (.exit 0)))
  (.seq (.block 1 (.seq (.ops [g0 (.mv 12 (.t 1)), g0 (.mv 13 (.t 5)), g0 (.idxA 14 (.t 12) (.t 13) 1 none none), g0 (.load 15 (.t 14) none none false), g0 (.mv 16 (.t 0)), g0 (.bin 17 .eql (.t 15) (.t 16))])
  (.cond (.t 17) (.seq (.ops [g0 (.mv 4 (.c (.bool true)))])
  (.ret))
  (.skip))))
  (.ops [g0 (.mv 10 (.t 5)), g0 (.bin 11 .add (.t 10) (.c (.int .i64 1))), g0 (.mv 5 (.t 11))]))
/-- notary/notaryref05.Among -/
def F81 : IFunc := ⟨.pure, .seq (.ops [g0 (.mv 4 (.c (.bool false)))])
  (.seq (.seq (.ops [g0 (.mv 5 (.c (.int .i64 0)))])
  (.block 0 (.loop L81_0)))
  (.seq (.ops [g0 (.mv 4 (.c (.bool false)))])
  (.ret))),
  [.t 4]⟩
/-- notary/notaryref05.Words -/
def F82 : IFunc := ⟨.pure, .seq (.ops [g0 (.mv 0 (.c .nils))])
  (.seq (.ops [g0 (.bsl 1 1 false [(.c (.str [114, 101, 99])), (.c (.str [99, 111, 110, 115, 116])), (.c (.str [118, 97, 114])), (.c (.str [112, 117, 98])), (.c (.str [102, 110])), (.c (.str [105, 110, 116])), (.c (.str [98, 111, 111, 108])), (.c (.str [108, 101, 116])), (.c (.str [105, 102])), (.c (.str [101, 108, 115, 101])), (.c (.str [119, 104, 105, 108, 101])), (.c (.str [102, 111, 114])), (.c (.str [116, 111])), (.c (.str [112, 114, 105, 110, 116])), (.c (.str [114, 101, 116, 117, 114, 110])), (.c (.str [100, 111])), (.c (.str [116, 114, 117, 101])), (.c (.str [102, 97, 108, 115, 101])), (.c (.str [114, 101, 97, 100])), (.c (.str [110, 101, 119]))]), g0 (.mv 0 (.t 1))])
  (.ret)),
  [.t 0]⟩
def L83_0 : Ic := .seq (.seq (.ops [g0 (.mv 20 (.t 5)), g0 (.mv 21 (.t 0)), g0 (.len 22 .str (.t 21) false), g0 (.bin 23 .lss (.t 20) (.t 22))])
  (.cond (.t 23) (.skip)
  (.exit 0)))
  (.seq (.block 1 (.seq (.ops [g0 (.mv 26 (.t 0)), g0 (.mv 27 (.t 5)), g0 (.idx 28 (.t 26) (.t 27) none 1 none), g0 (.bin 29 .sub (.t 28) (.c (.int .u8 48))), g0 (.conv 30 (.int .i64) (.t 29)), g0 (.mv 6 (.t 30))])
  (.seq (.seq (.ops [g0 (.mv 31 (.t 4)), g0 (.mv 32 (.t 6)), g0 (.bin 33 .sub (.c (.int .i64 9223372036854775807)) (.t 32)), g0 (.bin 34 .quo (.t 33) (.c (.int .i64 10))), g0 (.bin 35 .gtr (.t 31) (.t 34))])
  (.cond (.t 35) (.seq (.ops [g0 (.mv 2 (.c (.int .i64 0))), g0 (.mv 3 (.c (.bool false)))])
  (.ret))
  (.skip)))
  (.ops [g0 (.mv 36 (.t 4)), g0 (.bin 37 .mul (.t 36) (.c (.int .i64 10))), g0 (.mv 38 (.t 6)), g0 (.bin 39 .add (.t 37) (.t 38)), g0 (.mv 4 (.t 39))]))))
  (.ops [g0 (.mv 24 (.t 5)), g0 (.bin 25 .add (.t 24) (.c (.int .i64 1))), g0 (.mv 5 (.t 25))]))
/-- notary/notaryref05.Number -/
def F83 : IFunc := ⟨.pure, .seq (.ops [g0 (.mv 2 (.c (.int .i64 0))), g0 (.mv 3 (.c (.bool false)))])
  (.seq (.seq (.ops [g0 (.mv 7 (.t 0)), g0 (.len 8 .str (.t 7) false), g0 (.bin 9 .eql (.t 8) (.c (.int .i64 0))), g0 (.mv 10 (.t 9)), g1 10 false (.mv 11 (.t 0)), g1 10 false (.len 12 .str (.t 11) false), g1 10 false (.bin 13 .gtr (.t 12) (.c (.int .i64 1))), g1 10 false (.mv 14 (.t 13)), g1 14 true (.mv 15 (.t 0)), g1 14 true (.idx 16 (.t 15) (.c (.int .i64 0)) none 1 none), g1 14 true (.bin 17 .eql (.t 16) (.c (.int .u8 48))), g1 10 false (.pick 18 (.t 14) (.t 17) (.c (.bool false))), g0 (.pick 19 (.t 10) (.c (.bool true)) (.t 18))])
  (.cond (.t 19) (.seq (.ops [g0 (.mv 2 (.c (.int .i64 0))), g0 (.mv 3 (.c (.bool false)))])
  (.ret))
  (.skip)))
  (.seq (.ops [g0 (.mv 4 (.c (.int .i64 0)))])
  (.seq (.seq (.ops [g0 (.mv 5 (.c (.int .i64 0)))])
  (.block 0 (.loop L83_0)))
  (.seq (.ops [g0 (.mv 40 (.t 4)), g0 (.mv 2 (.t 40)), g0 (.mv 3 (.c (.bool true)))])
  (.ret))))),
  [.t 2, .t 3]⟩
/-- notary/notaryref05.Signs -/
def F84 : IFunc := ⟨.pure, .seq (.ops [g0 (.mv 0 (.c .nils))])
  (.seq (.ops [g0 (.bsl 1 1 false [(.c (.str [61, 61])), (.c (.str [33, 61])), (.c (.str [60, 61])), (.c (.str [62, 61])), (.c (.str [38, 38])), (.c (.str [124, 124])), (.c (.str [123])), (.c (.str [125])), (.c (.str [40])), (.c (.str [41])), (.c (.str [91])), (.c (.str [93])), (.c (.str [44])), (.c (.str [59])), (.c (.str [58])), (.c (.str [46])), (.c (.str [61])), (.c (.str [60])), (.c (.str [62])), (.c (.str [43])), (.c (.str [45])), (.c (.str [42])), (.c (.str [47])), (.c (.str [37])), (.c (.str [33])), (.c (.str [64]))]), g0 (.mv 0 (.t 1))])
  (.ret)),
  [.t 0]⟩
def L85_0 : Ic := .seq (.seq (.ops [g0 (.mv 3 (.t 0)), g0 (.nilc (some 4) (.t 3)), g0 (.fldA 5 (.t 4) 1 none), g0 (.load 6 (.t 5) none none false), g0 (.mv 7 (.t 0)), g0 (.nilc (some 8) (.t 7)), g0 (.fldA 9 (.t 8) 0 none), g0 (.load 10 (.t 9) none none false), g0 (.len 11 .str (.t 10) false), g0 (.bin 12 .lss (.t 6) (.t 11))])
  (.cond (.t 12) (.skip)
  (.exit 0)))
  (.block 1 (.seq (.ops [g0 (.mv 13 (.t 0)), g0 (.nilc (some 14) (.t 13)), g0 (.fldA 15 (.t 14) 0 none), g0 (.load 16 (.t 15) none none false), g0 (.mv 17 (.t 0)), g0 (.nilc (some 18) (.t 17)), g0 (.fldA 19 (.t 18) 1 none), g0 (.load 20 (.t 19) none none false), g0 (.idx 21 (.t 16) (.t 20) none 1 none), g0 (.mv 2 (.t 21))])
  (.block 2 (.seq (.ops [g0 (.mv 23 (.t 2)), g0 (.bin 24 .eql (.t 23) (.c (.int .u8 32))), g0 (.mv 25 (.t 24)), g1 25 false (.mv 26 (.t 2)), g1 25 false (.bin 27 .eql (.t 26) (.c (.int .u8 9))), g0 (.pick 28 (.t 25) (.c (.bool true)) (.t 27)), g0 (.mv 29 (.t 28)), g1 29 false (.mv 30 (.t 2)), g1 29 false (.bin 31 .eql (.t 30) (.c (.int .u8 10))), g0 (.pick 32 (.t 29) (.c (.bool true)) (.t 31)), g0 (.mv 33 (.t 32)), g1 33 false (.mv 34 (.t 2)), g1 33 false (.bin 35 .eql (.t 34) (.c (.int .u8 13))), g0 (.pick 36 (.t 33) (.c (.bool true)) (.t 35)), g0 (.mv 22 (.t 36))])
  (.cond (.t 22) (.ops [g0 (.mv 37 (.t 0)), g0 (.nilc (some 38) (.t 37)), g0 (.fldA 39 (.t 38) 1 none), g0 (.load 40 (.t 39) none none false), g0 (.bin 41 .add (.t 40) (.c (.int .i64 1))), g0 (.nilc (some 42) (.t 37)), g0 (.fldA 43 (.t 42) 1 none), g0 (.store (.t 43) (.t 41) 1 none)])
  (.seq (.ops [g0 (.mv 45 (.t 2)), g0 (.bin 46 .eql (.t 45) (.c (.int .u8 47))), g0 (.mv 47 (.t 46)), g1 47 true (.mv 48 (.t 0)), g1 47 true (.call (some 49) 124 [(.t 48), (.c (.int .i64 1))]), g1 47 true (.bin 50 .eql (.t 49) (.c (.int .u8 47))), g0 (.pick 51 (.t 47) (.t 50) (.c (.bool false))), g0 (.mv 44 (.t 51))])
  (.cond (.t 44) (.ops [g0 (.mv 52 (.t 0)), g0 (.mv 53 (.t 0)), g0 (.mkfn 54 126 [(.t 53)] []), g0 (.call (some 55) 125 [(.t 52), (.t 54)])])
  (.ret))))))))
/-- (*notary/lex.reader).skip -/
def F85 : IFunc := ⟨.raw, .block 0 (.loop L85_0),
  []⟩
/-- (*notary/lex.reader).one -/
def F86 : IFunc := ⟨.raw, .seq (.ops [g0 (.mv 2 (.c (.int .i64 0)))])
  (.seq (.ops [g0 (.mv 6 (.t 0)), g0 (.nilc (some 7) (.t 6)), g0 (.fldA 8 (.t 7) 0 none), g0 (.load 9 (.t 8) none none false), g0 (.mv 10 (.t 0)), g0 (.nilc (some 11) (.t 10)), g0 (.fldA 12 (.t 11) 1 none), g0 (.load 13 (.t 12) none none false), g0 (.idx 14 (.t 9) (.t 13) none 1 none), g0 (.mv 3 (.t 14))])
  (.seq (.block 0 (.seq (.ops [g0 (.mv 16 (.t 0)), g0 (.mv 17 (.t 3)), g0 (.call (some 18) 127 [(.t 16), (.t 17)]), g0 (.mv 15 (.t 18))])
  (.cond (.t 15) (.seq (.ops [g0 (.mv 19 (.t 0)), g0 (.call (some 20) 128 [(.t 19)]), g0 (.mv 2 (.t 20))])
  (.ret))
  (.seq (.ops [g0 (.mv 22 (.t 0)), g0 (.mv 23 (.t 3)), g0 (.call (some 24) 129 [(.t 22), (.t 23)]), g0 (.mv 21 (.t 24))])
  (.cond (.t 21) (.seq (.ops [g0 (.mv 25 (.t 0)), g0 (.call (some 26) 130 [(.t 25)]), g0 (.mv 2 (.t 26))])
  (.ret))
  (.skip))))))
  (.seq (.ops [g0 (.mv 27 (.t 3)), g0 (.mv 28 (.t 0)), g0 (.call (some 29) 124 [(.t 28), (.c (.int .i64 1))]), g0 (.call (some 30) 131 [(.t 27), (.t 29)]), g0 (.mv 4 (.t 30))])
  (.seq (.seq (.ops [g0 (.mv 31 (.t 4)), g0 (.bin 32 .eql (.t 31) (.c (.int .i64 0)))])
  (.cond (.t 32) (.seq (.ops [g0 (.mv 2 (.c (.int .i64 4)))])
  (.ret))
  (.skip)))
  (.seq (.ops [g0 (.mv 33 (.t 0)), g0 (.nilc (some 34) (.t 33)), g0 (.fldA 35 (.t 34) 1 none), g0 (.load 36 (.t 35) none none false), g0 (.mv 5 (.t 36))])
  (.seq (.ops [g0 (.mv 37 (.t 0)), g0 (.nilc (some 38) (.t 37)), g0 (.fldA 39 (.t 38) 1 none), g0 (.load 40 (.t 39) none none false), g0 (.mv 41 (.t 4)), g0 (.bin 42 .add (.t 40) (.t 41)), g0 (.nilc (some 43) (.t 37)), g0 (.fldA 44 (.t 43) 1 none), g0 (.store (.t 44) (.t 42) 1 none)])
  (.seq (.ops [g0 (.mv 45 (.t 0)), g0 (.mv 46 (.t 0)), g0 (.nilc (some 47) (.t 46)), g0 (.fldA 48 (.t 47) 0 none), g0 (.load 49 (.t 48) none none false), g0 (.mv 50 (.t 5)), g0 (.mv 51 (.t 0)), g0 (.nilc (some 52) (.t 51)), g0 (.fldA 53 (.t 52) 1 none), g0 (.load 54 (.t 53) none none false), g0 (.slc 55 none (.t 49) (some (.t 50)) (some (.t 54)) none), g0 (.mv 56 (.t 5)), g0 (.call (some 57) 87 [(.t 45), (.c (.int .i64 4)), (.c (.int .i64 0)), (.t 55), (.t 56)])])
  (.seq (.ops [g0 (.mv 2 (.c (.int .i64 0)))])
  (.ret))))))))),
  [.t 2]⟩
/-- (*notary/lex.reader).put -/
def F87 : IFunc := ⟨.raw, .ops [g0 (.mv 10 (.t 0)), g0 (.mv 11 (.t 0)), g0 (.nilc (some 12) (.t 11)), g0 (.fldA 13 (.t 12) 2 none), g0 (.load 14 (.t 13) none none false), g0 (.mv 15 (.t 1)), g0 (.mv 16 (.t 2)), g0 (.mv 17 (.t 3)), g0 (.mv 18 (.t 4)), g0 (.mv 19 (.t 0)), g0 (.nilc (some 20) (.t 19)), g0 (.fldA 21 (.t 20) 1 none), g0 (.load 22 (.t 21) none none false), g0 (.build 23 [(.int .i64 0), (.int .i64 0), (.str []), (.int .i64 0), (.int .i64 0)] [(0, 1, (.t 15)), (1, 1, (.t 16)), (2, 1, (.t 17)), (3, 1, (.t 18)), (4, 1, (.t 22))]), g0 (.bsl 24 5 true [(.t 23)]), g0 (.app 25 (.t 14) (.t 24) 5), g0 (.nilc (some 26) (.t 10)), g0 (.fldA 27 (.t 26) 2 none), g0 (.store (.t 27) (.t 25) 1 none)],
  []⟩
/-- (*strings.Builder).copyCheck -/
def F88 : IFunc := ⟨.raw, .prim 344,
  []⟩
/-- (*notary/lex.reader).peek -/
def F124 : IFunc := ⟨.raw, .seq (.ops [g0 (.mv 4 (.c (.int .u8 0)))])
  (.seq (.seq (.ops [g0 (.mv 5 (.t 0)), g0 (.nilc (some 6) (.t 5)), g0 (.fldA 7 (.t 6) 1 none), g0 (.load 8 (.t 7) none none false), g0 (.mv 9 (.t 1)), g0 (.bin 10 .add (.t 8) (.t 9)), g0 (.mv 11 (.t 0)), g0 (.nilc (some 12) (.t 11)), g0 (.fldA 13 (.t 12) 0 none), g0 (.load 14 (.t 13) none none false), g0 (.len 15 .str (.t 14) false), g0 (.bin 16 .lss (.t 10) (.t 15))])
  (.cond (.t 16) (.seq (.ops [g0 (.mv 17 (.t 0)), g0 (.nilc (some 18) (.t 17)), g0 (.fldA 19 (.t 18) 0 none), g0 (.load 20 (.t 19) none none false), g0 (.mv 21 (.t 0)), g0 (.nilc (some 22) (.t 21)), g0 (.fldA 23 (.t 22) 1 none), g0 (.load 24 (.t 23) none none false), g0 (.mv 25 (.t 1)), g0 (.bin 26 .add (.t 24) (.t 25)), g0 (.idx 27 (.t 20) (.t 26) none 1 none), g0 (.mv 4 (.t 27))])
  (.ret))
  (.skip)))
  (.seq (.ops [g0 (.mv 4 (.c (.int .u8 0)))])
  (.ret))),
  [.t 4]⟩
def L125_0 : Ic := .seq (.seq (.ops [g0 (.mv 10 (.t 0)), g0 (.nilc (some 11) (.t 10)), g0 (.fldA 12 (.t 11) 1 none), g0 (.load 13 (.t 12) none none false), g0 (.mv 14 (.t 0)), g0 (.nilc (some 15) (.t 14)), g0 (.fldA 16 (.t 15) 0 none), g0 (.load 17 (.t 16) none none false), g0 (.len 18 .str (.t 17) false), g0 (.bin 19 .lss (.t 13) (.t 18)), g0 (.mv 20 (.t 19)), g1 20 true (.mv 21 (.t 1)), g1 20 true (.mv 22 (.t 0)), g1 20 true (.nilc (some 23) (.t 22)), g1 20 true (.fldA 24 (.t 23) 0 none), g1 20 true (.load 25 (.t 24) none none false), g1 20 true (.mv 26 (.t 0)), g1 20 true (.nilc (some 27) (.t 26)), g1 20 true (.fldA 28 (.t 27) 1 none), g1 20 true (.load 29 (.t 28) none none false), g1 20 true (.idx 30 (.t 25) (.t 29) none 1 none), g1 20 true (.callV (some 31) (.t 21) [(.t 30)]), g0 (.pick 32 (.t 20) (.t 31) (.c (.bool false)))])
  (.cond (.t 32) (.skip)
  (.exit 0)))
  (.block 1 (.ops [g0 (.mv 33 (.t 0)), g0 (.nilc (some 34) (.t 33)), g0 (.fldA 35 (.t 34) 1 none), g0 (.load 36 (.t 35) none none false), g0 (.bin 37 .add (.t 36) (.c (.int .i64 1))), g0 (.nilc (some 38) (.t 33)), g0 (.fldA 39 (.t 38) 1 none), g0 (.store (.t 39) (.t 37) 1 none)]))
/-- (*notary/lex.reader).run -/
def F125 : IFunc := ⟨.raw, .seq (.ops [g0 (.mv 4 (.c (.str [])))])
  (.seq (.ops [g0 (.mv 6 (.t 0)), g0 (.nilc (some 7) (.t 6)), g0 (.fldA 8 (.t 7) 1 none), g0 (.load 9 (.t 8) none none false), g0 (.mv 5 (.t 9))])
  (.seq (.block 0 (.loop L125_0))
  (.seq (.ops [g0 (.mv 40 (.t 0)), g0 (.nilc (some 41) (.t 40)), g0 (.fldA 42 (.t 41) 0 none), g0 (.load 43 (.t 42) none none false), g0 (.mv 44 (.t 5)), g0 (.mv 45 (.t 0)), g0 (.nilc (some 46) (.t 45)), g0 (.fldA 47 (.t 46) 1 none), g0 (.load 48 (.t 47) none none false), g0 (.slc 49 none (.t 43) (some (.t 44)) (some (.t 48)) none), g0 (.mv 4 (.t 49))])
  (.ret)))),
  [.t 4]⟩
/-- (*notary/lex.reader).isLine -/
def F126 : IFunc := ⟨.raw, .seq (.ops [g0 (.mv 4 (.c (.bool false)))])
  (.seq (.ops [g0 (.mv 5 (.t 1)), g0 (.bin 6 .neq (.t 5) (.c (.int .u8 10))), g0 (.mv 4 (.t 6))])
  (.ret)),
  [.t 4]⟩
/-- (*notary/lex.reader).isLetter -/
def F127 : IFunc := ⟨.raw, .seq (.ops [g0 (.mv 4 (.c (.bool false)))])
  (.seq (.ops [g0 (.mv 5 (.t 1)), g0 (.bin 6 .geq (.t 5) (.c (.int .u8 97))), g0 (.mv 7 (.t 6)), g1 7 true (.mv 8 (.t 1)), g1 7 true (.bin 9 .leq (.t 8) (.c (.int .u8 122))), g0 (.pick 10 (.t 7) (.t 9) (.c (.bool false))), g0 (.mv 11 (.t 10)), g1 11 false (.mv 12 (.t 1)), g1 11 false (.bin 13 .geq (.t 12) (.c (.int .u8 65))), g1 11 false (.mv 14 (.t 13)), g1 14 true (.mv 15 (.t 1)), g1 14 true (.bin 16 .leq (.t 15) (.c (.int .u8 90))), g1 11 false (.pick 17 (.t 14) (.t 16) (.c (.bool false))), g0 (.pick 18 (.t 11) (.c (.bool true)) (.t 17)), g0 (.mv 19 (.t 18)), g1 19 false (.mv 20 (.t 1)), g1 19 false (.bin 21 .eql (.t 20) (.c (.int .u8 95))), g0 (.pick 22 (.t 19) (.c (.bool true)) (.t 21)), g0 (.mv 4 (.t 22))])
  (.ret)),
  [.t 4]⟩
/-- (*notary/lex.reader).word -/
def F128 : IFunc := ⟨.raw, .seq (.ops [g0 (.mv 2 (.c (.int .i64 0)))])
  (.seq (.ops [g0 (.mv 5 (.t 0)), g0 (.nilc (some 6) (.t 5)), g0 (.fldA 7 (.t 6) 1 none), g0 (.load 8 (.t 7) none none false), g0 (.mv 3 (.t 8))])
  (.seq (.ops [g0 (.mv 9 (.t 0)), g0 (.mv 10 (.t 0)), g0 (.mkfn 11 144 [(.t 10)] []), g0 (.call (some 12) 125 [(.t 9), (.t 11)]), g0 (.mv 4 (.t 12))])
  (.seq (.seq (.ops [g0 (.mv 13 (.t 4)), g0 (.len 14 .str (.t 13) false), g0 (.bin 15 .gtr (.t 14) (.c (.int .i64 16)))])
  (.cond (.t 15) (.seq (.ops [g0 (.mv 2 (.c (.int .i64 3)))])
  (.ret))
  (.skip)))
  (.seq (.seq (.ops [g0 (.mv 16 (.t 4)), g0 (.call (some 17) 145 [(.t 16)])])
  (.cond (.t 17) (.ops [g0 (.mv 18 (.t 0)), g0 (.mv 19 (.t 4)), g0 (.mv 20 (.t 3)), g0 (.call (some 21) 87 [(.t 18), (.c (.int .i64 3)), (.c (.int .i64 0)), (.t 19), (.t 20)])])
  (.ops [g0 (.mv 22 (.t 0)), g0 (.mv 23 (.t 4)), g0 (.mv 24 (.t 3)), g0 (.call (some 25) 87 [(.t 22), (.c (.int .i64 1)), (.c (.int .i64 0)), (.t 23), (.t 24)])])))
  (.seq (.ops [g0 (.mv 2 (.c (.int .i64 0)))])
  (.ret)))))),
  [.t 2]⟩
/-- (*notary/lex.reader).isDigit -/
def F129 : IFunc := ⟨.raw, .seq (.ops [g0 (.mv 4 (.c (.bool false)))])
  (.seq (.ops [g0 (.mv 5 (.t 1)), g0 (.bin 6 .geq (.t 5) (.c (.int .u8 48))), g0 (.mv 7 (.t 6)), g1 7 true (.mv 8 (.t 1)), g1 7 true (.bin 9 .leq (.t 8) (.c (.int .u8 57))), g0 (.pick 10 (.t 7) (.t 9) (.c (.bool false))), g0 (.mv 4 (.t 10))])
  (.ret)),
  [.t 4]⟩
def L130_0 : Ic := .seq (.ops [g0 (.bin 31 .lss (.t 30) (.t 29))])
  (.seq (.cond (.t 31) (.skip)
  (.exit 0))
  (.seq (.block 1 (.seq (.ops [g0 (.mv 32 (.t 30)), g0 (.mv 6 (.t 32))])
  (.ops [g0 (.mv 33 (.t 5)), g0 (.bin 34 .mul (.t 33) (.c (.int .u64 10))), g0 (.mv 35 (.t 4)), g0 (.mv 36 (.t 6)), g0 (.idx 37 (.t 35) (.t 36) none 1 none), g0 (.bin 38 .sub (.t 37) (.c (.int .u8 48))), g0 (.conv 39 (.int .u64) (.t 38)), g0 (.bin 40 .add (.t 34) (.t 39)), g0 (.mv 5 (.t 40))])))
  (.ops [g0 (.bin 41 .add (.t 30) (.c (.int .i64 1))), g0 (.mv 30 (.t 41))])))
/-- (*notary/lex.reader).number -/
def F130 : IFunc := ⟨.raw, .seq (.ops [g0 (.mv 2 (.c (.int .i64 0)))])
  (.seq (.ops [g0 (.mv 7 (.t 0)), g0 (.nilc (some 8) (.t 7)), g0 (.fldA 9 (.t 8) 1 none), g0 (.load 10 (.t 9) none none false), g0 (.mv 3 (.t 10))])
  (.seq (.ops [g0 (.mv 11 (.t 0)), g0 (.mv 12 (.t 0)), g0 (.mkfn 13 129 [(.t 12)] []), g0 (.call (some 14) 125 [(.t 11), (.t 13)]), g0 (.mv 4 (.t 14))])
  (.seq (.seq (.ops [g0 (.mv 15 (.t 4)), g0 (.len 16 .str (.t 15) false), g0 (.bin 17 .gtr (.t 16) (.c (.int .i64 19))), g0 (.mv 18 (.t 17)), g1 18 false (.mv 19 (.t 4)), g1 18 false (.len 20 .str (.t 19) false), g1 18 false (.bin 21 .gtr (.t 20) (.c (.int .i64 1))), g1 18 false (.mv 22 (.t 21)), g1 22 true (.mv 23 (.t 4)), g1 22 true (.idx 24 (.t 23) (.c (.int .i64 0)) none 1 none), g1 22 true (.bin 25 .eql (.t 24) (.c (.int .u8 48))), g1 18 false (.pick 26 (.t 22) (.t 25) (.c (.bool false))), g0 (.pick 27 (.t 18) (.c (.bool true)) (.t 26))])
  (.cond (.t 27) (.seq (.ops [g0 (.mv 2 (.c (.int .i64 5)))])
  (.ret))
  (.skip)))
  (.seq (.ops [g0 (.mv 5 (.c (.int .u64 0)))])
  (.seq (.seq (.ops [g0 (.mv 28 (.t 4)), g0 (.len 29 .str (.t 28) false), g0 (.mv 30 (.c (.int .i64 0)))])
  (.block 0 (.loop L130_0)))
  (.seq (.seq (.ops [g0 (.mv 42 (.t 5)), g0 (.bin 43 .gtr (.t 42) (.c (.int .u64 9223372036854775807)))])
  (.cond (.t 43) (.seq (.ops [g0 (.mv 2 (.c (.int .i64 5)))])
  (.ret))
  (.skip)))
  (.seq (.ops [g0 (.mv 44 (.t 0)), g0 (.mv 45 (.t 5)), g0 (.conv 46 (.int .i64) (.t 45)), g0 (.mv 47 (.t 3)), g0 (.call (some 48) 87 [(.t 44), (.c (.int .i64 2)), (.t 46), (.c (.str [])), (.t 47)])])
  (.seq (.ops [g0 (.mv 2 (.c (.int .i64 0)))])
  (.ret))))))))),
  [.t 2]⟩
/-- notary/lex.signAt -/
def F131 : IFunc := ⟨.pure, .seq (.ops [g0 (.mv 4 (.c (.int .i64 0)))])
  (.seq (.seq (.ops [g0 (.mv 5 (.t 0))])
  (.block 0 (.seq (.seq (.ops [g0 (.bin 7 .eql (.t 5) (.c (.int .u8 61))), g0 (.mv 6 (.t 7))])
  (.cond (.t 6) (.skip)
  (.seq (.ops [g0 (.bin 8 .eql (.t 5) (.c (.int .u8 33))), g0 (.mv 6 (.t 8))])
  (.cond (.t 6) (.skip)
  (.seq (.ops [g0 (.bin 9 .eql (.t 5) (.c (.int .u8 60))), g0 (.mv 6 (.t 9))])
  (.cond (.t 6) (.skip)
  (.ops [g0 (.bin 10 .eql (.t 5) (.c (.int .u8 62))), g0 (.mv 6 (.t 10))])))))))
  (.cond (.t 6) (.seq (.seq (.ops [g0 (.mv 11 (.t 1)), g0 (.bin 12 .eql (.t 11) (.c (.int .u8 61)))])
  (.cond (.t 12) (.seq (.ops [g0 (.mv 4 (.c (.int .i64 2)))])
  (.ret))
  (.skip)))
  (.seq (.ops [g0 (.mv 4 (.c (.int .i64 1)))])
  (.ret)))
  (.seq (.seq (.ops [g0 (.bin 14 .eql (.t 5) (.c (.int .u8 38))), g0 (.mv 13 (.t 14))])
  (.cond (.t 13) (.skip)
  (.ops [g0 (.bin 15 .eql (.t 5) (.c (.int .u8 124))), g0 (.mv 13 (.t 15))])))
  (.cond (.t 13) (.seq (.seq (.ops [g0 (.mv 16 (.t 1)), g0 (.mv 17 (.t 0)), g0 (.bin 18 .eql (.t 16) (.t 17))])
  (.cond (.t 18) (.seq (.ops [g0 (.mv 4 (.c (.int .i64 2)))])
  (.ret))
  (.skip)))
  (.seq (.ops [g0 (.mv 4 (.c (.int .i64 0)))])
  (.ret)))
  (.seq (.seq (.ops [g0 (.bin 20 .eql (.t 5) (.c (.int .u8 123))), g0 (.mv 19 (.t 20))])
  (.cond (.t 19) (.skip)
  (.seq (.ops [g0 (.bin 21 .eql (.t 5) (.c (.int .u8 125))), g0 (.mv 19 (.t 21))])
  (.cond (.t 19) (.skip)
  (.seq (.ops [g0 (.bin 22 .eql (.t 5) (.c (.int .u8 40))), g0 (.mv 19 (.t 22))])
  (.cond (.t 19) (.skip)
  (.seq (.ops [g0 (.bin 23 .eql (.t 5) (.c (.int .u8 41))), g0 (.mv 19 (.t 23))])
  (.cond (.t 19) (.skip)
  (.seq (.ops [g0 (.bin 24 .eql (.t 5) (.c (.int .u8 91))), g0 (.mv 19 (.t 24))])
  (.cond (.t 19) (.skip)
  (.seq (.ops [g0 (.bin 25 .eql (.t 5) (.c (.int .u8 93))), g0 (.mv 19 (.t 25))])
  (.cond (.t 19) (.skip)
  (.seq (.ops [g0 (.bin 26 .eql (.t 5) (.c (.int .u8 44))), g0 (.mv 19 (.t 26))])
  (.cond (.t 19) (.skip)
  (.seq (.ops [g0 (.bin 27 .eql (.t 5) (.c (.int .u8 59))), g0 (.mv 19 (.t 27))])
  (.cond (.t 19) (.skip)
  (.seq (.ops [g0 (.bin 28 .eql (.t 5) (.c (.int .u8 58))), g0 (.mv 19 (.t 28))])
  (.cond (.t 19) (.skip)
  (.seq (.ops [g0 (.bin 29 .eql (.t 5) (.c (.int .u8 46))), g0 (.mv 19 (.t 29))])
  (.cond (.t 19) (.skip)
  (.seq (.ops [g0 (.bin 30 .eql (.t 5) (.c (.int .u8 43))), g0 (.mv 19 (.t 30))])
  (.cond (.t 19) (.skip)
  (.seq (.ops [g0 (.bin 31 .eql (.t 5) (.c (.int .u8 45))), g0 (.mv 19 (.t 31))])
  (.cond (.t 19) (.skip)
  (.seq (.ops [g0 (.bin 32 .eql (.t 5) (.c (.int .u8 42))), g0 (.mv 19 (.t 32))])
  (.cond (.t 19) (.skip)
  (.seq (.ops [g0 (.bin 33 .eql (.t 5) (.c (.int .u8 47))), g0 (.mv 19 (.t 33))])
  (.cond (.t 19) (.skip)
  (.seq (.ops [g0 (.bin 34 .eql (.t 5) (.c (.int .u8 37))), g0 (.mv 19 (.t 34))])
  (.cond (.t 19) (.skip)
  (.ops [g0 (.bin 35 .eql (.t 5) (.c (.int .u8 64))), g0 (.mv 19 (.t 35))])))))))))))))))))))))))))))))))
  (.cond (.t 19) (.seq (.ops [g0 (.mv 4 (.c (.int .i64 1)))])
  (.ret))
  (.skip)))))))))
  (.seq (.ops [g0 (.mv 4 (.c (.int .i64 0)))])
  (.ret))),
  [.t 4]⟩
/-- (*notary/lex.reader).isMore -/
def F144 : IFunc := ⟨.raw, .seq (.ops [g0 (.mv 4 (.c (.bool false)))])
  (.seq (.ops [g0 (.mv 5 (.t 0)), g0 (.mv 6 (.t 1)), g0 (.call (some 7) 127 [(.t 5), (.t 6)]), g0 (.mv 8 (.t 7)), g1 8 false (.mv 9 (.t 0)), g1 8 false (.mv 10 (.t 1)), g1 8 false (.call (some 11) 129 [(.t 9), (.t 10)]), g0 (.pick 12 (.t 8) (.c (.bool true)) (.t 11)), g0 (.mv 4 (.t 12))])
  (.ret)),
  [.t 4]⟩
/-- notary/lex.isWord -/
def F145 : IFunc := ⟨.pure, .seq (.ops [g0 (.mv 2 (.c (.bool false)))])
  (.seq (.seq (.ops [g0 (.mv 3 (.t 0))])
  (.block 0 (.seq (.seq (.ops [g0 (.bin 5 .eql (.t 3) (.c (.str [114, 101, 99]))), g0 (.mv 4 (.t 5))])
  (.cond (.t 4) (.skip)
  (.seq (.ops [g0 (.bin 6 .eql (.t 3) (.c (.str [99, 111, 110, 115, 116]))), g0 (.mv 4 (.t 6))])
  (.cond (.t 4) (.skip)
  (.seq (.ops [g0 (.bin 7 .eql (.t 3) (.c (.str [118, 97, 114]))), g0 (.mv 4 (.t 7))])
  (.cond (.t 4) (.skip)
  (.seq (.ops [g0 (.bin 8 .eql (.t 3) (.c (.str [112, 117, 98]))), g0 (.mv 4 (.t 8))])
  (.cond (.t 4) (.skip)
  (.seq (.ops [g0 (.bin 9 .eql (.t 3) (.c (.str [102, 110]))), g0 (.mv 4 (.t 9))])
  (.cond (.t 4) (.skip)
  (.seq (.ops [g0 (.bin 10 .eql (.t 3) (.c (.str [105, 110, 116]))), g0 (.mv 4 (.t 10))])
  (.cond (.t 4) (.skip)
  (.seq (.ops [g0 (.bin 11 .eql (.t 3) (.c (.str [98, 111, 111, 108]))), g0 (.mv 4 (.t 11))])
  (.cond (.t 4) (.skip)
  (.seq (.ops [g0 (.bin 12 .eql (.t 3) (.c (.str [108, 101, 116]))), g0 (.mv 4 (.t 12))])
  (.cond (.t 4) (.skip)
  (.seq (.ops [g0 (.bin 13 .eql (.t 3) (.c (.str [105, 102]))), g0 (.mv 4 (.t 13))])
  (.cond (.t 4) (.skip)
  (.seq (.ops [g0 (.bin 14 .eql (.t 3) (.c (.str [101, 108, 115, 101]))), g0 (.mv 4 (.t 14))])
  (.cond (.t 4) (.skip)
  (.seq (.ops [g0 (.bin 15 .eql (.t 3) (.c (.str [119, 104, 105, 108, 101]))), g0 (.mv 4 (.t 15))])
  (.cond (.t 4) (.skip)
  (.seq (.ops [g0 (.bin 16 .eql (.t 3) (.c (.str [102, 111, 114]))), g0 (.mv 4 (.t 16))])
  (.cond (.t 4) (.skip)
  (.seq (.ops [g0 (.bin 17 .eql (.t 3) (.c (.str [116, 111]))), g0 (.mv 4 (.t 17))])
  (.cond (.t 4) (.skip)
  (.seq (.ops [g0 (.bin 18 .eql (.t 3) (.c (.str [112, 114, 105, 110, 116]))), g0 (.mv 4 (.t 18))])
  (.cond (.t 4) (.skip)
  (.seq (.ops [g0 (.bin 19 .eql (.t 3) (.c (.str [114, 101, 116, 117, 114, 110]))), g0 (.mv 4 (.t 19))])
  (.cond (.t 4) (.skip)
  (.seq (.ops [g0 (.bin 20 .eql (.t 3) (.c (.str [100, 111]))), g0 (.mv 4 (.t 20))])
  (.cond (.t 4) (.skip)
  (.seq (.ops [g0 (.bin 21 .eql (.t 3) (.c (.str [116, 114, 117, 101]))), g0 (.mv 4 (.t 21))])
  (.cond (.t 4) (.skip)
  (.seq (.ops [g0 (.bin 22 .eql (.t 3) (.c (.str [102, 97, 108, 115, 101]))), g0 (.mv 4 (.t 22))])
  (.cond (.t 4) (.skip)
  (.seq (.ops [g0 (.bin 23 .eql (.t 3) (.c (.str [114, 101, 97, 100]))), g0 (.mv 4 (.t 23))])
  (.cond (.t 4) (.skip)
  (.ops [g0 (.bin 24 .eql (.t 3) (.c (.str [110, 101, 119]))), g0 (.mv 4 (.t 24))])))))))))))))))))))))))))))))))))))))))
  (.cond (.t 4) (.seq (.ops [g0 (.mv 2 (.c (.bool true)))])
  (.ret))
  (.skip)))))
  (.seq (.ops [g0 (.mv 2 (.c (.bool false)))])
  (.ret))),
  [.t 2]⟩
def T : Nat → Option IFunc
  | 6 => some F6
  | 7 => some F7
  | 16 => some F16
  | 21 => some F21
  | 22 => some F22
  | 23 => some F23
  | 24 => some F24
  | 25 => some F25
  | 41 => some F41
  | 42 => some F42
  | 44 => some F44
  | 45 => some F45
  | 46 => some F46
  | 47 => some F47
  | 48 => some F48
  | 49 => some F49
  | 50 => some F50
  | 51 => some F51
  | 52 => some F52
  | 53 => some F53
  | 77 => some F77
  | 78 => some F78
  | 79 => some F79
  | 80 => some F80
  | 81 => some F81
  | 82 => some F82
  | 83 => some F83
  | 84 => some F84
  | 85 => some F85
  | 86 => some F86
  | 87 => some F87
  | 88 => some F88
  | 124 => some F124
  | 125 => some F125
  | 126 => some F126
  | 127 => some F127
  | 128 => some F128
  | 129 => some F129
  | 130 => some F130
  | 131 => some F131
  | 144 => some F144
  | 145 => some F145
  | _ => none

theorem ok6 : okB Proofs.Try.prog 6 F6 = true := by kernel_rfl
theorem ok7 : okB Proofs.Try.prog 7 F7 = true := by kernel_rfl
theorem ok16 : okB Proofs.Try.prog 16 F16 = true := by kernel_rfl
theorem ok21 : okB Proofs.Try.prog 21 F21 = true := by kernel_rfl
theorem ok22 : okB Proofs.Try.prog 22 F22 = true := by kernel_rfl
theorem ok23 : okB Proofs.Try.prog 23 F23 = true := by kernel_rfl
theorem ok24 : okB Proofs.Try.prog 24 F24 = true := by kernel_rfl
theorem ok25 : okB Proofs.Try.prog 25 F25 = true := by kernel_rfl
theorem ok41 : okB Proofs.Try.prog 41 F41 = true := by kernel_rfl
theorem ok42 : okB Proofs.Try.prog 42 F42 = true := by kernel_rfl
theorem ok44 : okB Proofs.Try.prog 44 F44 = true := by kernel_rfl
theorem ok45 : okB Proofs.Try.prog 45 F45 = true := by kernel_rfl
theorem ok46 : okB Proofs.Try.prog 46 F46 = true := by kernel_rfl
theorem ok47 : okB Proofs.Try.prog 47 F47 = true := by kernel_rfl
theorem ok48 : okB Proofs.Try.prog 48 F48 = true := by kernel_rfl
theorem ok50 : okB Proofs.Try.prog 50 F50 = true := by kernel_rfl
theorem ok51 : okB Proofs.Try.prog 51 F51 = true := by kernel_rfl
theorem ok52 : okB Proofs.Try.prog 52 F52 = true := by kernel_rfl
theorem ok53 : okB Proofs.Try.prog 53 F53 = true := by kernel_rfl
theorem ok77 : okB Proofs.Try.prog 77 F77 = true := by kernel_rfl
theorem ok78 : okB Proofs.Try.prog 78 F78 = true := by kernel_rfl
theorem ok79 : okB Proofs.Try.prog 79 F79 = true := by kernel_rfl
theorem ok80 : okB Proofs.Try.prog 80 F80 = true := by kernel_rfl
theorem ok81 : okB Proofs.Try.prog 81 F81 = true := by kernel_rfl
theorem ok82 : okB Proofs.Try.prog 82 F82 = true := by kernel_rfl
theorem ok83 : okB Proofs.Try.prog 83 F83 = true := by kernel_rfl
theorem ok84 : okB Proofs.Try.prog 84 F84 = true := by kernel_rfl
theorem ok85 : okB Proofs.Try.prog 85 F85 = true := by kernel_rfl
theorem ok86 : okB Proofs.Try.prog 86 F86 = true := by kernel_rfl
theorem ok87 : okB Proofs.Try.prog 87 F87 = true := by kernel_rfl
theorem ok124 : okB Proofs.Try.prog 124 F124 = true := by kernel_rfl
theorem ok125 : okB Proofs.Try.prog 125 F125 = true := by kernel_rfl
theorem ok126 : okB Proofs.Try.prog 126 F126 = true := by kernel_rfl
theorem ok127 : okB Proofs.Try.prog 127 F127 = true := by kernel_rfl
theorem ok128 : okB Proofs.Try.prog 128 F128 = true := by kernel_rfl
theorem ok129 : okB Proofs.Try.prog 129 F129 = true := by kernel_rfl
theorem ok130 : okB Proofs.Try.prog 130 F130 = true := by kernel_rfl
theorem ok131 : okB Proofs.Try.prog 131 F131 = true := by kernel_rfl
theorem ok144 : okB Proofs.Try.prog 144 F144 = true := by kernel_rfl
theorem ok145 : okB Proofs.Try.prog 145 F145 = true := by kernel_rfl

theorem ok (p49 : PrimF Proofs.Try.prog 49 F49) (p88 : PrimF Proofs.Try.prog 88 F88) (f : Nat) (ifn : IFunc) (h : T f = some ifn) : FuncOK Proofs.Try.prog f ifn := by
  unfold T at h
  split at h
  · cases h; exact okB_ok ok6
  · cases h; exact okB_ok ok7
  · cases h; exact okB_ok ok16
  · cases h; exact okB_ok ok21
  · cases h; exact okB_ok ok22
  · cases h; exact okB_ok ok23
  · cases h; exact okB_ok ok24
  · cases h; exact okB_ok ok25
  · cases h; exact okB_ok ok41
  · cases h; exact okB_ok ok42
  · cases h; exact okB_ok ok44
  · cases h; exact okB_ok ok45
  · cases h; exact okB_ok ok46
  · cases h; exact okB_ok ok47
  · cases h; exact okB_ok ok48
  · cases h; exact .inr p49
  · cases h; exact okB_ok ok50
  · cases h; exact okB_ok ok51
  · cases h; exact okB_ok ok52
  · cases h; exact okB_ok ok53
  · cases h; exact okB_ok ok77
  · cases h; exact okB_ok ok78
  · cases h; exact okB_ok ok79
  · cases h; exact okB_ok ok80
  · cases h; exact okB_ok ok81
  · cases h; exact okB_ok ok82
  · cases h; exact okB_ok ok83
  · cases h; exact okB_ok ok84
  · cases h; exact okB_ok ok85
  · cases h; exact okB_ok ok86
  · cases h; exact okB_ok ok87
  · cases h; exact .inr p88
  · cases h; exact okB_ok ok124
  · cases h; exact okB_ok ok125
  · cases h; exact okB_ok ok126
  · cases h; exact okB_ok ok127
  · cases h; exact okB_ok ok128
  · cases h; exact okB_ok ok129
  · cases h; exact okB_ok ok130
  · cases h; exact okB_ok ok131
  · cases h; exact okB_ok ok144
  · cases h; exact okB_ok ok145
  · exact absurd h (by simp)

end Go.Nt.Lk
