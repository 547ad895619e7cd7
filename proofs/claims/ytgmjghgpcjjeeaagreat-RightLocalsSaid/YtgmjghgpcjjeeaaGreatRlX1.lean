/-
  THE FUNCTIONS OF THE SEAT as the abstract machine reads them (printed by a program of ours), and that they are the program's ('ok': FuncOK, by the kernel).
  No condition.
-/
import Derived.Test.YtgmjghgpcjjeeaaGreatRtIr2
import Derived.Test.YtgmjghgpcjjeeaaGreatTmVal
namespace Go.Nt.Ty
open Go Go.Nt

def L204_0 : Ic := .seq (.ops [bT 80 .lss 79 78])
  (.seq (.cond (.t 80) (.skip)
  (.exit 1))
  (.seq (.block 2 (.seq (.ops [iX 81 77 79, lP 82 81, bZ 10, sT 10 82 6 10])
  (.seq (.ops [fA 83 10 0, lA 84 83 10, bK 85 .neq 84 34, mV 86 85, g1 86 false (.fldA 87 (.t 10) 3 none), g1 86 false (.load 88 (.t 87) none (some 10) false), g1 86 false (.len 89 .slice (.t 88) false), g1 86 false (.bin 90 .neq (.t 89) (kI 1)), pO 91 86 90])
  (.cond (.t 91) (.seq (.ops [g0 (.build 92 zT []), sT 6 92 6 6, g0 (.mv 7 (.c (.bool false)))])
  (.ret))
  (.skip)))))
  (.ops [bK 93 .add 79 1, mV 79 93])))
/-- (*notary/typer.typer).decl -/
def F204 : IFunc := ⟨.pop, .seq (.ops [bZ 6, g0 (.mv 7 (.c (.bool false)))])
  (.seq (.seq (.ops [mV 11 1, bK 12 .lss 11 0, mV 13 12, g1 13 false (.mv 14 (.t 1)), g1 13 false (.mv 15 (.t 0)), g1 13 false (.nilc (some 16) (.t 15)), g1 13 false (.fldA 17 (.t 16) 0 (some 6)), g1 13 false (.fldA 18 (.t 17) 3 none), g1 13 false (.load 19 (.t 18) none none false), g1 13 false (.len 20 .slice (.t 19) false), g1 13 false (.bin 21 .geq (.t 14) (.t 20)), pO 22 13 21, mV 23 22, g1 23 false (.mv 24 (.t 0)), g1 23 false (.nilc (some 25) (.t 24)), g1 23 false (.fldA 26 (.t 25) 0 (some 6)), g1 23 false (.fldA 27 (.t 26) 3 none), g1 23 false (.load 28 (.t 27) none none false), g1 23 false (.mv 29 (.t 1)), g1 23 false (.idxA 30 (.t 28) (.t 29) 6 (some 6) none), g1 23 false (.fldA 31 (.t 30) 0 none), g1 23 false (.load 32 (.t 31) none none false), g1 23 false (.mv 33 (.t 2)), g1 23 false (.bin 34 .neq (.t 32) (.t 33)), pO 35 23 34])
  (.cond (.t 35) (.seq (.ops [g0 (.build 36 zT []), sT 6 36 6 6, g0 (.mv 7 (.c (.bool false)))])
  (.ret))
  (.skip)))
  (.seq (.ops [mV 37 0, nC 38 37, g0 (.fldA 39 (.t 38) 0 (some 6)), fA 40 39 3, lO 41 40, mV 42 1, iX 43 41 42, lP 44 43, bZ 8, sT 8 44 6 8])
  (.seq (.seq (.ops [mV 45 2])
  (.block 0 (.seq (.ops [bK 47 .eql 45 31, mV 46 47])
  (.cond (.t 46) (.seq (.ops [lF 48 8 8, fA 49 8 3, lA 50 49 8, lN 51 50, bK 52 .eql 51 1, mV 53 52, g1 53 true (.fldA 54 (.t 8) 3 none), g1 53 true (.load 55 (.t 54) none (some 8) false), g1 53 true (.idxA 56 (.t 55) (kI 0) 6 (some 6) none), g1 53 true (.load 57 (.t 56) (some 6) none false), g1 53 true (.call (some 58) 205 [(.t 57)]), g1 53 true (.fld 59 (.t 58) 0 none), g1 53 true (.bin 60 .neq (.t 59) (kI 0)), pA 61 53 60, sT 6 48 6 6, mV 7 61])
  (.ret))
  (.seq (.ops [bK 63 .eql 45 32, mV 62 63])
  (.cond (.t 62) (.seq (.ops [lF 64 8 8, fA 65 8 3, lA 66 65 8, lN 67 66, bK 68 .eql 67 1, sT 6 64 6 6, mV 7 68])
  (.ret))
  (.seq (.ops [bK 70 .eql 45 33, mV 69 70])
  (.cond (.t 69) (.seq (.ops [lF 71 8 8, fA 72 8 3, lA 73 72 8, lN 74 73, bK 75 .eql 74 3, sT 6 71 6 6, mV 7 75])
  (.ret))
  (.skip)))))))))
  (.seq (.seq (.ops [fA 76 8 3, lA 77 76 8, lN 78 77, mK 79 0])
  (.block 1 (.loop L204_0)))
  (.seq (.ops [lF 94 8 8, fA 95 8 3, lA 96 95 8, lN 97 96, bK 98 .gtr 97 0, sT 6 94 6 6, mV 7 98])
  (.ret)))))),
  [.cell 6 (some 6) (some 6), .t 7]⟩
/-- notary/typer.Literal -/
def F205 : IFunc := ⟨.pure, .seq (.ops [bF 1 0, bZ 2])
  (.seq (.seq (.ops [fA 3 1 0, lA 4 3 1])
  (.block 0 (.seq (.ops [bK 6 .eql 4 5, mV 5 6])
  (.cond (.t 5) (.seq (.ops [g0 (.build 7 zT [(0, 1, (kI 1))]), sT 2 7 6 2])
  (.ret))
  (.seq (.ops [bK 9 .eql 4 6, mV 8 9])
  (.cond (.t 8) (.seq (.ops [g0 (.build 10 zT [(0, 1, (kI 2))]), sT 2 10 6 2])
  (.ret))
  (.skip)))))))
  (.seq (.ops [g0 (.build 11 zT []), sT 2 11 6 2])
  (.ret))),
  [.cell 2 (some 6) (some 2)]⟩
/-- notary/typer.leaf -/
def F206 : IFunc := ⟨.pure, .seq (.ops [bF 2 0, bF 3 1, bZ 4])
  (.seq (.seq (.ops [fA 5 2 0, lA 6 5 2])
  (.block 0 (.seq (.seq (.ops [bK 8 .eql 6 5, mV 7 8])
  (.cond (.t 7) (.skip)
  (.ops [bK 9 .eql 6 18, mV 7 9])))
  (.cond (.t 7) (.seq (.ops [g0 (.build 10 zT [(0, 1, (kI 1))]), sT 4 10 6 4])
  (.ret))
  (.seq (.ops [bK 12 .eql 6 6, mV 11 12])
  (.cond (.t 11) (.seq (.ops [g0 (.build 13 zT [(0, 1, (kI 2))]), sT 4 13 6 4])
  (.ret))
  (.skip)))))))
  (.seq (.ops [lF 14 3 3, cA 15 212 [(.t 14)], sT 4 15 6 4])
  (.ret))),
  [.cell 4 (some 6) (some 4)]⟩
/-- notary/typer.binary -/
def F207 : IFunc := ⟨.pure, .seq (.ops [bF 4 1, bF 5 2, bZ 6])
  (.seq (.ops [lF 9 4 4, cA 10 208 [(.t 9), (kI 1)], mV 11 10, g1 11 true (.load 12 (.t 5) (some 6) (some 5) false), g1 11 true (.call (some 13) 208 [(.t 12), (kI 1)]), pA 14 11 13, mV 7 14])
  (.seq (.ops [lF 15 4 4, cA 16 208 [(.t 15), (kI 2)], mV 17 16, g1 17 true (.load 18 (.t 5) (some 6) (some 5) false), g1 17 true (.call (some 19) 208 [(.t 18), (kI 2)]), pA 20 17 19, mV 8 20])
  (.seq (.block 0 (.seq (.seq (.ops [mV 22 0, bK 23 .leq 22 2, mV 24 23, g1 24 true (.mv 25 (.t 8)), pA 26 24 25, mV 21 26])
  (.cond (.t 21) (.skip)
  (.seq (.ops [mV 27 0, bK 28 .geq 27 3, mV 29 28, g1 29 true (.mv 30 (.t 0)), g1 29 true (.bin 31 .leq (.t 30) (kI 4)), pA 32 29 31, mV 33 32, g1 33 true (.mv 34 (.t 7)), g1 33 true (.mv 35 (.t 34)), g1 35 false (.mv 36 (.t 8)), g1 33 true (.pick 37 (.t 35) (.c (.bool true)) (.t 36)), pA 38 33 37, mV 21 38])
  (.cond (.t 21) (.skip)
  (.ops [mV 39 0, bK 40 .geq 39 5, mV 41 40, g1 41 true (.mv 42 (.t 0)), g1 41 true (.bin 43 .leq (.t 42) (kI 8)), pA 44 41 43, mV 45 44, g1 45 true (.mv 46 (.t 7)), pA 47 45 46, mV 21 47])))))
  (.cond (.t 21) (.seq (.ops [g0 (.build 48 zT [(0, 1, (kI 2))]), sT 6 48 6 6])
  (.ret))
  (.seq (.ops [mV 50 0, bK 51 .geq 50 9, mV 52 51, g1 52 true (.mv 53 (.t 7)), pA 54 52 53, mV 49 54])
  (.cond (.t 49) (.seq (.ops [g0 (.build 55 zT [(0, 1, (kI 1))]), sT 6 55 6 6])
  (.ret))
  (.skip))))))
  (.seq (.ops [g0 (.build 56 zT []), sT 6 56 6 6])
  (.ret))))),
  [.cell 6 (some 6) (some 6)]⟩
/-- notary/typer.is -/
def F208 : IFunc := ⟨.pure, .seq (.ops [bF 2 0, g0 (.mv 4 (.c (.bool false)))])
  (.seq (.ops [fA 5 2 0, lA 6 5 2, mV 7 1, bT 8 .eql 6 7, mV 9 8, g1 9 true (.fldA 10 (.t 2) 3 none), g1 9 true (.load 11 (.t 10) none (some 2) false), g1 9 true (.len 12 .slice (.t 11) false), g1 9 true (.bin 13 .eql (.t 12) (kI 0)), pA 14 9 13, mV 4 14])
  (.ret)),
  [.t 4]⟩
def L209_0 : Ic := .seq (.ops [bT 55 .lss 54 53])
  (.seq (.cond (.t 55) (.skip)
  (.exit 0))
  (.seq (.block 1 (.seq (.ops [mV 56 54, iX 57 52 54, lP 58 57, bZ 14, mV 13 56, sT 14 58 6 14])
  (.seq (.ops [fA 59 14 2, lA 60 59 14, fA 61 4 2, lA 62 61 4, bT 63 .eql 60 62, mV 64 63, g1 64 true (.mv 65 (.t 13)), g1 64 true (.bin 66 .lss (.t 65) (kI 64)), pA 67 64 66])
  (.cond (.t 67) (.seq (.ops [fA 68 5 1, lA 69 68 5, bK 70 .mul 69 64, mV 71 13, bT 72 .add 70 71, fA 73 14 3, lA 74 73 14, g0 (.idxA 75 (.t 74) (kI 0) 6 (some 6) none), lP 76 75, cA 77 212 [(.t 76)], mV 6 72, sT 7 77 6 7, g0 (.mv 8 (.c (.bool true)))])
  (.ret))
  (.skip)))))
  (.ops [bK 78 .add 54 1, mV 54 78])))
/-- (*notary/typer.typer).field -/
def F209 : IFunc := ⟨.pop, .seq (.ops [bF 4 1, bF 5 2, mK 6 0, bZ 7, g0 (.mv 8 (.c (.bool false)))])
  (.seq (.ops [mV 16 0, fA 17 5 1, lA 18 17 5, cA 19 204 [(.t 16), (.t 18), (kI 30)], mV 15 19, eX 20 15 0, eX 21 15 1, bZ 9, sT 9 20 6 9, mV 10 21])
  (.seq (.seq (.ops [mV 22 10, g0 (.un 23 .not (.t 22))])
  (.cond (.t 23) (.seq (.ops [g0 (.build 24 zT []), mK 6 0, sT 7 24 6 7, g0 (.mv 8 (.c (.bool false)))])
  (.ret))
  (.skip)))
  (.seq (.seq (.ops [fA 25 4 2, lA 26 25 4, g0 (.bin 27 .eql (.t 26) (.c (.str [])))])
  (.cond (.t 27) (.seq (.ops [mV 29 0, nC 30 29, g0 (.fldA 31 (.t 30) 0 (some 6)), lP 32 31, fA 33 4 1, lA 34 33 4, cA 35 246 [(.t 32), (.t 34)], mV 28 35, eX 36 28 0, eX 37 28 1, bZ 11, sT 11 36 6 11, mV 12 37])
  (.seq (.ops [fA 38 4 1, lA 39 38 4, lF 40 11 11, cA 41 212 [(.t 40)], mV 42 12, mV 43 42, g1 43 true (.fldA 44 (.t 4) 1 none), g1 43 true (.load 45 (.t 44) none (some 4) false), g1 43 true (.bin 46 .quo (.t 45) (kI 64)), g1 43 true (.fldA 47 (.t 5) 1 none), g1 43 true (.load 48 (.t 47) none (some 5) false), g1 43 true (.bin 49 .eql (.t 46) (.t 48)), pA 50 43 49, mV 6 39, sT 7 41 6 7, mV 8 50])
  (.ret)))
  (.skip)))
  (.seq (.seq (.ops [fA 51 9 3, lA 52 51 9, lN 53 52, mK 54 0])
  (.block 0 (.loop L209_0)))
  (.seq (.ops [g0 (.build 79 zT []), mK 6 0, sT 7 79 6 7, g0 (.mv 8 (.c (.bool false)))])
  (.ret)))))),
  [.t 6, .cell 7 (some 6) (some 7), .t 8]⟩
def L210_0 : Ic := .seq (.ops [bT 12 .lss 11 10])
  (.seq (.cond (.t 12) (.skip)
  (.exit 0))
  (.seq (.block 1 (.seq (.ops [iX 13 9 11, lP 14 13, bZ 7, sT 7 14 6 7])
  (.seq (.ops [lF 15 7 7, mV 16 1, g0 (.idxA 17 (.t 16) (kI 0) 6 (some 6) none), lP 18 17, cA 19 235 [(.t 15), (.t 18)], g0 (.un 20 .not (.t 19))])
  (.cond (.t 20) (.seq (.ops [g0 (.build 21 zT []), sT 4 21 6 4, mK 5 10])
  (.ret))
  (.skip)))))
  (.ops [bK 22 .add 11 1, mV 11 22])))
/-- (*notary/typer.typer).list -/
def F210 : IFunc := ⟨.cut, .seq (.ops [bZ 4, mK 5 0])
  (.seq (.seq (.ops [mV 9 1, lN 10 9, mK 11 0])
  (.block 0 (.loop L210_0)))
  (.seq (.ops [mV 23 1, lN 24 23, mV 25 1, g0 (.slc 26 (some 6) (.t 25) none (some (kI 1)) (some (kI 1))), g0 (.build 27 zT [(0, 1, (kI 3)), (1, 1, (.t 24)), (3, 1, (.t 26))]), bZ 8, sT 8 27 6 8])
  (.seq (.seq (.ops [mV 28 0, nC 29 28, g0 (.fldA 30 (.t 29) 0 (some 6)), lP 31 30, lF 32 8 8, cA 33 46 [(.t 31), (.t 32)], bK 34 .eql 33 0])
  (.cond (.t 34) (.seq (.ops [g0 (.build 35 zT []), sT 4 35 6 4, mK 5 11])
  (.ret))
  (.skip)))
  (.seq (.ops [lF 36 8 8, sT 4 36 6 4, mK 5 0])
  (.ret))))),
  [.cell 4 (some 6) (some 4), .t 5]⟩
def L211_0 : Ic := .seq (.ops [bT 15 .lss 14 13])
  (.seq (.cond (.t 15) (.skip)
  (.exit 0))
  (.seq (.block 1 (.seq (.ops [mV 16 14, iX 17 12 14, lP 18 17, bZ 6, mV 5 16, sT 6 18 6 6])
  (.seq (.ops [fA 19 6 3, lA 20 19 6, lN 21 20, bK 22 .neq 21 1, mV 23 22, g1 23 false (.mv 24 (.t 0)), g1 23 false (.mv 25 (.t 5)), g1 23 false (.idxA 26 (.t 24) (.t 25) 6 (some 6) none), g1 23 false (.load 27 (.t 26) (some 6) none true), g1 23 false (.fldA 28 (.t 6) 3 none), g1 23 false (.load 29 (.t 28) none (some 6) false), g1 23 false (.idxA 30 (.t 29) (kI 0) 6 (some 6) none), g1 23 false (.load 31 (.t 30) (some 6) none false), g1 23 false (.call (some 32) 212 [(.t 31)]), g1 23 false (.call (some 33) 235 [(.t 27), (.t 32)]), g1 23 false (.un 34 .not (.t 33)), pO 35 23 34])
  (.cond (.t 35) (.seq (.ops [g0 (.mv 4 (.c (.bool false)))])
  (.ret))
  (.skip)))))
  (.ops [bK 36 .add 14 1, mV 14 36])))
/-- notary/typer.all -/
def F211 : IFunc := ⟨.pure, .seq (.ops [g0 (.mv 4 (.c (.bool false)))])
  (.seq (.seq (.ops [mV 7 0, lN 8 7, mV 9 1, lN 10 9, bT 11 .neq 8 10])
  (.cond (.t 11) (.seq (.ops [g0 (.mv 4 (.c (.bool false)))])
  (.ret))
  (.skip)))
  (.seq (.seq (.ops [mV 12 1, lN 13 12, mK 14 0])
  (.block 0 (.loop L211_0)))
  (.seq (.ops [g0 (.mv 4 (.c (.bool true)))])
  (.ret)))),
  [.t 4]⟩
def L212_0 : Ic := .seq (.ops [bT 26 .lss 25 24])
  (.seq (.cond (.t 26) (.skip)
  (.exit 0))
  (.seq (.block 1 (.seq (.ops [mV 27 25, iX 28 23 25, lP 29 28, bZ 5, mV 4 27, sT 5 29 6 5])
  (.ops [fA 30 3 3, lA 31 30 3, mV 32 4, lF 33 5 5, cA 34 212 [(.t 33)], iX 35 31 32, g0 (.store (.t 35) (.t 34) 6 none)])))
  (.ops [bK 36 .add 25 1, mV 25 36])))
/-- notary/term.Bare -/
def F212 : IFunc := ⟨.pure, .seq (.ops [bF 1 0, bZ 2])
  (.seq (.ops [fA 6 1 0, lA 7 6 1, fA 8 1 1, lA 9 8 1, fA 10 1 2, lA 11 10 1, g0 (.build 12 zT [(0, 1, (.t 7)), (1, 1, (.t 9)), (2, 1, (.t 11))]), bZ 3, sT 3 12 6 3])
  (.seq (.seq (.ops [fA 13 1 3, lA 14 13 1, lN 15 14, bK 16 .gtr 15 0])
  (.cond (.t 16) (.ops [fA 17 1 3, lA 18 17 1, lN 19 18, g0 (.mksl 20 6 (.agg zT) (.t 19) (.t 19)), fA 21 3 3, sT 21 20 1 3])
  (.skip)))
  (.seq (.seq (.ops [fA 22 1 3, lA 23 22 1, lN 24 23, mK 25 0])
  (.block 0 (.loop L212_0)))
  (.seq (.ops [lF 37 3 3, sT 2 37 6 2])
  (.ret))))),
  [.cell 2 (some 6) (some 2)]⟩
def L218_0 : Ic := .seq (.seq (.ops [mV 3 0, nC 4 3, fA 5 4 1, lO 6 5, mV 7 0, nC 8 7, fA 9 8 0, lO 10 9, g0 (.len 11 .str (.t 10) false), bT 12 .lss 6 11])
  (.cond (.t 12) (.skip)
  (.exit 0)))
  (.block 1 (.seq (.ops [mV 13 0, nC 14 13, fA 15 14 0, lO 16 15, mV 17 0, nC 18 17, fA 19 18 1, lO 20 19, g0 (.idx 21 (.t 16) (.t 20) none 1 none), mV 2 21])
  (.block 2 (.seq (.ops [mV 23 2, g0 (.bin 24 .eql (.t 23) (.c (.int .u8 32))), mV 25 24, g1 25 false (.mv 26 (.t 2)), g1 25 false (.bin 27 .eql (.t 26) (.c (.int .u8 9))), pO 28 25 27, mV 29 28, g1 29 false (.mv 30 (.t 2)), g1 29 false (.bin 31 .eql (.t 30) (.c (.int .u8 10))), pO 32 29 31, mV 33 32, g1 33 false (.mv 34 (.t 2)), g1 33 false (.bin 35 .eql (.t 34) (.c (.int .u8 13))), pO 36 33 35, mV 22 36])
  (.cond (.t 22) (.ops [mV 37 0, nC 38 37, fA 39 38 1, lO 40 39, bK 41 .add 40 1, nC 42 37, fA 43 42 1, g0 (.store (.t 43) (.t 41) 1 none)])
  (.seq (.ops [mV 45 2, g0 (.bin 46 .eql (.t 45) (.c (.int .u8 47))), mV 47 46, g1 47 true (.mv 48 (.t 0)), g1 47 true (.call (some 49) 249 [(.t 48), (kI 1)]), g1 47 true (.bin 50 .eql (.t 49) (.c (.int .u8 47))), pA 51 47 50, mV 44 51])
  (.cond (.t 44) (.ops [mV 52 0, mV 53 0, g0 (.mkfn 54 251 [(.t 53)] []), cA 55 250 [(.t 52), (.t 54)]])
  (.ret))))))))
/-- (*notary/lex.reader).skip -/
def F218 : IFunc := ⟨.raw, .block 0 (.loop L218_0),
  []⟩
/-- (*notary/lex.reader).one -/
def F219 : IFunc := ⟨.raw, .seq (.ops [mK 2 0])
  (.seq (.ops [mV 6 0, nC 7 6, fA 8 7 0, lO 9 8, mV 10 0, nC 11 10, fA 12 11 1, lO 13 12, g0 (.idx 14 (.t 9) (.t 13) none 1 none), mV 3 14])
  (.seq (.block 0 (.seq (.ops [mV 16 0, mV 17 3, cA 18 252 [(.t 16), (.t 17)], mV 15 18])
  (.cond (.t 15) (.seq (.ops [mV 19 0, cA 20 253 [(.t 19)], mV 2 20])
  (.ret))
  (.seq (.ops [mV 22 0, mV 23 3, cA 24 254 [(.t 22), (.t 23)], mV 21 24])
  (.cond (.t 21) (.seq (.ops [mV 25 0, cA 26 255 [(.t 25)], mV 2 26])
  (.ret))
  (.skip))))))
  (.seq (.ops [mV 27 3, mV 28 0, cA 29 249 [(.t 28), (kI 1)], cA 30 256 [(.t 27), (.t 29)], mV 4 30])
  (.seq (.seq (.ops [mV 31 4, bK 32 .eql 31 0])
  (.cond (.t 32) (.seq (.ops [mK 2 4])
  (.ret))
  (.skip)))
  (.seq (.ops [mV 33 0, nC 34 33, fA 35 34 1, lO 36 35, mV 5 36])
  (.seq (.ops [mV 37 0, nC 38 37, fA 39 38 1, lO 40 39, mV 41 4, bT 42 .add 40 41, nC 43 37, fA 44 43 1, g0 (.store (.t 44) (.t 42) 1 none)])
  (.seq (.ops [mV 45 0, mV 46 0, nC 47 46, fA 48 47 0, lO 49 48, mV 50 5, mV 51 0, nC 52 51, fA 53 52 1, lO 54 53, g0 (.slc 55 none (.t 49) (some (.t 50)) (some (.t 54)) none), mV 56 5, cA 57 220 [(.t 45), (kI 4), (kI 0), (.t 55), (.t 56)]])
  (.seq (.ops [mK 2 0])
  (.ret))))))))),
  [.t 2]⟩
/-- (*notary/lex.reader).put -/
def F220 : IFunc := ⟨.raw, .ops [mV 10 0, mV 11 0, nC 12 11, fA 13 12 2, lO 14 13, mV 15 1, mV 16 2, mV 17 3, mV 18 4, mV 19 0, nC 20 19, fA 21 20 1, lO 22 21, g0 (.build 23 [(.int .i64 0), (.int .i64 0), (.str []), (.int .i64 0), (.int .i64 0)] [(0, 1, (.t 15)), (1, 1, (.t 16)), (2, 1, (.t 17)), (3, 1, (.t 18)), (4, 1, (.t 22))]), g0 (.bsl 24 5 true [(.t 23)]), g0 (.app 25 (.t 14) (.t 24) 5), nC 26 10, fA 27 26 2, g0 (.store (.t 27) (.t 25) 1 none)],
  []⟩
/-- (*notary/unit.reader).is -/
def F221 : IFunc := ⟨.pop, .seq (.ops [g0 (.mv 6 (.c (.bool false)))])
  (.seq (.ops [mV 7 0, nC 8 7, fA 9 8 0, lO 10 9, mV 11 0, nC 12 11, fA 13 12 1, lO 14 13, g0 (.idxA 15 (.t 10) (.t 14) 5 (some 5) none), fA 16 15 0, lO 17 16, mV 18 1, bT 19 .eql 17 18, mV 20 19, g1 20 true (.mv 21 (.t 0)), g1 20 true (.nilc (some 22) (.t 21)), g1 20 true (.fldA 23 (.t 22) 0 none), g1 20 true (.load 24 (.t 23) none none false), g1 20 true (.mv 25 (.t 0)), g1 20 true (.nilc (some 26) (.t 25)), g1 20 true (.fldA 27 (.t 26) 1 none), g1 20 true (.load 28 (.t 27) none none false), g1 20 true (.idxA 29 (.t 24) (.t 28) 5 (some 5) none), g1 20 true (.fldA 30 (.t 29) 2 none), g1 20 true (.load 31 (.t 30) none none false), g1 20 true (.mv 32 (.t 2)), g1 20 true (.bin 33 .eql (.t 31) (.t 32)), pA 34 20 33, mV 6 34])
  (.ret)),
  [.t 6]⟩
/-- (*notary/unit.reader).record -/
def F222 : IFunc := ⟨.fre, .seq (.ops [bZ 2])
  (.seq (.ops [mV 6 0, nC 7 6, fA 8 7 1, lO 9 8, mV 3 9])
  (.seq (.ops [mV 10 0, nC 11 10, fA 12 11 1, lO 13 12, bK 14 .add 13 1, nC 15 10, fA 16 15 1, g0 (.store (.t 16) (.t 14) 1 none)])
  (.seq (.ops [mV 17 0, cA 18 257 [(.t 17)], mV 4 18])
  (.seq (.ops [mV 19 0, g0 (.call (some 20) 258 [(.t 19), (kI 4), (.c (.str [123]))])])
  (.seq (.ops [mV 21 0, mV 22 0, g0 (.mkfn 23 260 [(.t 22)] []), mV 24 0, g0 (.mkfn 25 261 [(.t 24)] []), cA 26 259 [(.t 21), (.t 23), (.t 25)], mV 5 26])
  (.seq (.ops [mV 27 0, g0 (.call (some 28) 258 [(.t 27), (kI 4), (.c (.str [125]))])])
  (.seq (.ops [mV 29 0, mV 30 4, mV 31 3, mV 32 5, cA 33 262 [(.t 29), (kI 30), (kI 0), (.t 30), (.t 31), (.t 32)], sT 2 33 6 2])
  (.ret)))))))),
  [.cell 2 (some 6) (some 2)]⟩
/-- (*notary/unit.reader).define -/
def F223 : IFunc := ⟨.fre, .seq (.ops [bZ 2])
  (.seq (.ops [mV 6 0, nC 7 6, fA 8 7 1, lO 9 8, mV 3 9])
  (.seq (.ops [mV 10 0, nC 11 10, fA 12 11 1, lO 13 12, bK 14 .add 13 1, nC 15 10, fA 16 15 1, g0 (.store (.t 16) (.t 14) 1 none)])
  (.seq (.ops [mV 17 0, cA 18 257 [(.t 17)], mV 4 18])
  (.seq (.ops [mV 19 0, g0 (.call (some 20) 258 [(.t 19), (kI 4), (.c (.str [61]))])])
  (.seq (.ops [mV 21 0, cA 22 263 [(.t 21)], bZ 5, sT 5 22 6 5])
  (.seq (.ops [mV 23 0, g0 (.call (some 24) 258 [(.t 23), (kI 4), (.c (.str [59]))])])
  (.seq (.ops [mV 25 0, mV 26 4, mV 27 3, lF 28 5 5, g0 (.bsl 29 6 true [(.t 28)]), cA 30 262 [(.t 25), (kI 31), (kI 0), (.t 26), (.t 27), (.t 29)], sT 2 30 6 2])
  (.ret)))))))),
  [.cell 2 (some 6) (some 2)]⟩
/-- (*notary/unit.reader).global -/
def F224 : IFunc := ⟨.fre, .seq (.ops [bZ 2])
  (.seq (.ops [mV 6 0, nC 7 6, fA 8 7 1, lO 9 8, mV 3 9])
  (.seq (.ops [mV 10 0, nC 11 10, fA 12 11 1, lO 13 12, bK 14 .add 13 1, nC 15 10, fA 16 15 1, g0 (.store (.t 16) (.t 14) 1 none)])
  (.seq (.ops [mV 17 0, cA 18 257 [(.t 17)], mV 4 18])
  (.seq (.ops [mV 19 0, g0 (.call (some 20) 258 [(.t 19), (kI 4), (.c (.str [58]))])])
  (.seq (.ops [mV 21 0, cA 22 264 [(.t 21), (.f 265)], bZ 5, sT 5 22 6 5])
  (.seq (.ops [mV 23 0, g0 (.call (some 24) 258 [(.t 23), (kI 4), (.c (.str [59]))])])
  (.seq (.ops [mV 25 0, mV 26 4, mV 27 3, lF 28 5 5, g0 (.bsl 29 6 true [(.t 28)]), cA 30 262 [(.t 25), (kI 32), (kI 0), (.t 26), (.t 27), (.t 29)], sT 2 30 6 2])
  (.ret)))))))),
  [.cell 2 (some 6) (some 2)]⟩
/-- (*notary/unit.reader).function -/
def F225 : IFunc := ⟨.fre, .seq (.ops [bZ 2])
  (.seq (.ops [mV 9 0, nC 10 9, fA 11 10 1, lO 12 11, mV 3 12])
  (.seq (.ops [mK 4 0])
  (.seq (.seq (.ops [mV 13 0, g0 (.call (some 14) 266 [(.t 13), (kI 3), (.c (.str [112, 117, 98]))])])
  (.cond (.t 14) (.ops [mK 4 1])
  (.skip)))
  (.seq (.ops [mV 15 0, g0 (.call (some 16) 258 [(.t 15), (kI 3), (.c (.str [102, 110]))])])
  (.seq (.ops [mV 17 0, cA 18 257 [(.t 17)], mV 5 18])
  (.seq (.ops [mV 19 0, cA 20 267 [(.t 19)], bZ 6, sT 6 20 6 6])
  (.seq (.ops [mV 21 0, g0 (.call (some 22) 258 [(.t 21), (kI 4), (.c (.str [58]))])])
  (.seq (.ops [mV 23 0, cA 24 264 [(.t 23), (.f 265)], bZ 7, sT 7 24 6 7])
  (.seq (.ops [mV 25 0, cA 26 264 [(.t 25), (.f 268)], bZ 8, sT 8 26 6 8])
  (.seq (.ops [mV 27 0, mV 28 4, mV 29 5, mV 30 3, lF 31 6 6, lF 32 7 7, lF 33 8 8, g0 (.bsl 34 6 true [(.t 31), (.t 32), (.t 33)]), cA 35 262 [(.t 27), (kI 33), (.t 28), (.t 29), (.t 30), (.t 34)], sT 2 35 6 2])
  (.ret))))))))))),
  [.cell 2 (some 6) (some 2)]⟩
def L226_0 : Ic := .seq (.ops [bT 16 .lss 15 14])
  (.seq (.cond (.t 16) (.skip)
  (.exit 0))
  (.seq (.block 1 (.seq (.ops [mV 17 15, iX 18 13 15, lP 19 18, bZ 7, mV 6 17, sT 7 19 6 7])
  (.ops [lF 20 7 7, mV 21 1, mV 22 1, lN 23 22, mV 24 1, lN 25 24, g0 (.slc 26 (some 1) (.t 21) none (some (.t 23)) (some (.t 25))), mV 27 6, g0 (.bsl 28 1 false [(.t 27)]), g0 (.app 29 (.t 26) (.t 28) 1), mV 30 2, cA 31 226 [(.t 20), (.t 29), (.t 30)]])))
  (.ops [bK 32 .add 15 1, mV 15 32])))
/-- notary/term.walk -/
def F226 : IFunc := ⟨.raw, .seq (.ops [bF 3 0])
  (.seq (.ops [mV 8 2, mV 9 1, lF 10 3 3, g0 (.callV (some 11) (.t 8) [(.t 9), (.t 10)])])
  (.seq (.ops [fA 12 3 3, lA 13 12 3, lN 14 13, mK 15 0])
  (.block 0 (.loop L226_0)))),
  []⟩
/-- (*notary/term.meter).see -/
def F227 : IFunc := ⟨.raw, .seq (.ops [bF 5 2])
  (.seq (.ops [mV 6 0, nC 7 6, fA 8 7 0, lO 9 8, bK 10 .add 9 1, nC 11 6, fA 12 11 0, g0 (.store (.t 12) (.t 10) 1 none)])
  (.ops [mV 13 0, mV 14 0, nC 15 14, fA 16 15 1, lO 17 16, mV 18 1, lN 19 18, bK 20 .add 19 1, g0 (.mm 21 true (.t 17) (.t 20)), nC 22 13, fA 23 22 1, g0 (.store (.t 23) (.t 21) 1 none)])),
  []⟩
/-- (*notary/scope.scope).named -/
def F228 : IFunc := ⟨.fre, .seq (.ops [g0 (.boxI 3 none (.t 0)), g0 (.boxI 5 none (.t 2)), g0 (.mv 6 (.c .nils))])
  (.seq (.ops [g0 (.mkmap 8), g0 (.boxH 7 none (.c .nilm)), g0 (.store (.t 7) (.t 8) 1 none)])
  (.seq (.ops [lO 9 3, mV 10 1, g0 (.mkfn 11 269 [] [(.t 7), (.t 3), (.t 5)]), cA 12 172 [(.t 9), (.t 10), (.t 11)], mV 6 12])
  (.ret))),
  [.t 6]⟩
/-- (*notary/scope.scope).term -/
def F229 : IFunc := ⟨.fre, .seq (.ops [bF 3 1, bZ 4])
  (.seq (.seq (.ops [mV 7 0, nC 8 7, fA 9 8 9, lO 10 9, bK 11 .neq 10 0])
  (.cond (.t 11) (.seq (.ops [g0 (.build 12 zT []), sT 4 12 6 4])
  (.ret))
  (.skip)))
  (.seq (.ops [mK 5 0])
  (.seq (.seq (.ops [fA 13 3 0, lA 14 13 3])
  (.block 0 (.seq (.ops [bK 16 .eql 14 19, mV 15 16])
  (.cond (.t 15) (.seq (.ops [mV 17 0, lF 18 3 3, cA 19 271 [(.t 17), (.t 18)], sT 4 19 6 4])
  (.ret))
  (.seq (.ops [bK 21 .eql 14 16, mV 20 21])
  (.cond (.t 20) (.ops [mV 23 0, lF 24 3 3, g0 (.bsl 25 1 false [(kI 33)]), cA 26 272 [(.t 23), (.t 24), (.t 25)], mV 22 26, eX 27 22 0, eX 28 22 1, mV 5 27])
  (.seq (.seq (.ops [bK 30 .eql 14 15, mV 29 30])
  (.cond (.t 29) (.skip)
  (.ops [bK 31 .eql 14 4, mV 29 31])))
  (.cond (.t 29) (.ops [mV 33 0, lF 34 3 3, g0 (.bsl 35 1 false [(kI 30)]), cA 36 272 [(.t 33), (.t 34), (.t 35)], mV 32 36, eX 37 32 0, eX 38 32 1, mV 5 37])
  (.skip)))))))))
  (.seq (.ops [lF 39 3 3, bZ 6, sT 6 39 6 6])
  (.seq (.seq (.ops [fA 40 3 0, lA 41 40 3, bK 42 .eql 41 16, mV 43 42, g1 43 false (.fldA 44 (.t 3) 0 none), g1 43 false (.load 45 (.t 44) none (some 3) false), g1 43 false (.bin 46 .eql (.t 45) (kI 15)), pO 47 43 46, mV 48 47, g1 48 false (.fldA 49 (.t 3) 0 none), g1 48 false (.load 50 (.t 49) none (some 3) false), g1 48 false (.bin 51 .eql (.t 50) (kI 4)), pO 52 48 51])
  (.cond (.t 52) (.ops [mV 53 5, fA 54 6 1, sT 54 53 1 6])
  (.skip)))
  (.seq (.seq (.ops [fA 55 3 0, lA 56 55 3, bK 57 .neq 56 13, mV 58 57, g1 58 true (.fldA 59 (.t 3) 0 none), g1 58 true (.load 60 (.t 59) none (some 3) false), g1 58 true (.bin 61 .neq (.t 60) (kI 17)), pA 62 58 61])
  (.cond (.t 62) (.ops [fA 63 6 2, g0 (.store (.t 63) (.c (.str [])) 1 (some 6))])
  (.skip)))
  (.seq (.ops [mV 64 0, fA 65 3 3, lA 66 65 3, mV 67 0, g0 (.mkfn 68 229 [(.t 67)] []), cA 69 172 [(.t 64), (.t 66), (.t 68)], fA 70 6 3, sT 70 69 1 6])
  (.seq (.ops [lF 71 6 6, sT 4 71 6 4])
  (.ret))))))))),
  [.cell 4 (some 6) (some 4)]⟩
/-- (*notary/scope.scope).block -/
def F230 : IFunc := ⟨.fre, .seq (.ops [bF 3 1, bZ 4])
  (.seq (.ops [mV 6 0, nC 7 6, fA 8 7 7, lO 9 8, lN 10 9, mV 5 10])
  (.seq (.ops [fA 11 3 2, g0 (.store (.t 11) (.c (.str [])) 1 (some 3))])
  (.seq (.ops [mV 12 0, fA 13 3 3, lA 14 13 3, mV 15 0, g0 (.mkfn 16 273 [(.t 15)] []), cA 17 172 [(.t 12), (.t 14), (.t 16)], fA 18 3 3, sT 18 17 1 3])
  (.seq (.ops [mV 19 0, mV 20 0, nC 21 20, fA 22 21 7, lO 23 22, mV 24 5, g0 (.slc 25 (some 1) (.t 23) none (some (.t 24)) none), nC 26 19, fA 27 26 7, g0 (.store (.t 27) (.t 25) 1 none)])
  (.seq (.ops [lF 28 3 3, sT 4 28 6 4])
  (.ret)))))),
  [.cell 4 (some 6) (some 4)]⟩
def L231_0 : Ic := .seq (.ops [bT 38 .lss 37 36])
  (.seq (.cond (.t 38) (.skip)
  (.exit 1))
  (.seq (.block 2 (.seq (.ops [iX 39 35 37, lP 40 39, bZ 6, sT 6 40 6 6])
  (.seq (.ops [fA 41 6 0, lA 42 41 6, bK 43 .neq 42 29])
  (.cond (.t 43) (.seq (.ops [g0 (.mv 2 (.c (.bool false)))])
  (.ret))
  (.skip)))))
  (.ops [bK 44 .add 37 1, mV 37 44])))
/-- notary/right.shape -/
def F231 : IFunc := ⟨.pure, .seq (.ops [bF 1 0, g0 (.mv 2 (.c (.bool false)))])
  (.seq (.ops [mK 3 1, mK 4 0])
  (.seq (.seq (.ops [fA 7 1 0, lA 8 7 1])
  (.block 0 (.seq (.ops [bK 10 .eql 8 29, mV 9 10])
  (.cond (.t 9) (.seq (.ops [g0 (.mv 2 (.c (.bool true)))])
  (.ret))
  (.seq (.seq (.ops [bK 12 .eql 8 20, mV 11 12])
  (.cond (.t 11) (.skip)
  (.seq (.ops [bK 13 .eql 8 21, mV 11 13])
  (.cond (.t 11) (.skip)
  (.seq (.ops [bK 14 .eql 8 26, mV 11 14])
  (.cond (.t 11) (.skip)
  (.seq (.ops [bK 15 .eql 8 27, mV 11 15])
  (.cond (.t 11) (.skip)
  (.ops [bK 16 .eql 8 28, mV 11 16])))))))))
  (.cond (.t 11) (.skip)
  (.seq (.ops [bK 18 .eql 8 22, mV 17 18])
  (.cond (.t 17) (.ops [mK 3 2])
  (.seq (.ops [bK 20 .eql 8 23, mV 19 20])
  (.cond (.t 19) (.ops [mK 3 3, mK 4 2])
  (.seq (.ops [bK 22 .eql 8 24, mV 21 22])
  (.cond (.t 21) (.ops [mK 3 2, mK 4 1])
  (.seq (.ops [bK 24 .eql 8 25, mV 23 24])
  (.cond (.t 23) (.ops [mK 3 3, mK 4 1])
  (.seq (.ops [g0 (.mv 2 (.c (.bool false)))])
  (.ret))))))))))))))))
  (.seq (.seq (.ops [fA 25 1 3, lA 26 25 1, lN 27 26, mV 28 3, bT 29 .neq 27 28])
  (.cond (.t 29) (.seq (.ops [g0 (.mv 2 (.c (.bool false)))])
  (.ret))
  (.skip)))
  (.seq (.seq (.ops [fA 30 1 3, lA 31 30 1, mV 32 3, mV 33 4, bT 34 .sub 32 33, g0 (.slc 35 (some 6) (.t 31) (some (.t 34)) none none), lN 36 35, mK 37 0])
  (.block 1 (.loop L231_0)))
  (.seq (.ops [g0 (.mv 2 (.c (.bool true)))])
  (.ret)))))),
  [.t 2]⟩
/-- (*notary/right.looker).expr -/
def F232 : IFunc := ⟨.fre, .seq (.ops [bF 3 1, bZ 4, bZ 5])
  (.seq (.seq (.ops [mV 10 0, nC 11 10, fA 12 11 14, lO 13 12, bK 14 .neq 13 0])
  (.cond (.t 14) (.seq (.ops [g0 (.build 15 zT []), g0 (.build 16 zT []), sT 4 15 6 4, sT 5 16 6 5])
  (.ret))
  (.skip)))
  (.seq (.ops [mV 18 0, nC 19 18, g0 (.fldA 20 (.t 19) 0 (some 6)), lP 21 20, mV 22 0, nC 23 22, fA 24 23 6, lO 25 24, lF 26 3 3, cA 27 62 [(.t 21), (.t 25), (.t 26)], mV 17 27, eX 28 17 0, eX 29 17 1, eX 30 17 2, eX 31 17 3, bZ 6, bZ 7, sT 6 28 6 6, sT 7 29 6 7, mV 8 30, mV 9 31])
  (.seq (.seq (.ops [mV 32 9, bK 33 .neq 32 0])
  (.cond (.t 33) (.ops [mV 34 0, mV 35 0, mV 36 8, mV 37 9, nC 38 34, fA 39 38 13, g0 (.store (.t 39) (.t 36) 1 none), nC 40 35, fA 41 40 14, g0 (.store (.t 41) (.t 37) 1 none)])
  (.skip)))
  (.seq (.ops [lF 42 6 6, lF 43 7 7, sT 4 42 6 4, sT 5 43 6 5])
  (.ret))))),
  [.cell 4 (some 6) (some 4), .cell 5 (some 6) (some 5)]⟩
/-- (*notary/right.looker).set -/
def F233 : IFunc := ⟨.fre, .seq (.ops [bF 3 1, g0 (.mv 4 (.c .nils))])
  (.seq (.ops [mV 11 0, fA 12 3 3, lA 13 12 3, g0 (.idxA 14 (.t 13) (kI 0) 6 (some 6) none), lP 15 14, cA 16 232 [(.t 11), (.t 15)], mV 10 16, eX 17 10 0, eX 18 10 1, bZ 5, bZ 6, sT 5 17 6 5, sT 6 18 6 6])
  (.seq (.ops [mV 20 0, fA 21 3 3, lA 22 21 3, g0 (.idxA 23 (.t 22) (kI 1) 6 (some 6) none), lP 24 23, cA 25 232 [(.t 20), (.t 24)], mV 19 25, eX 26 19 0, eX 27 19 1, bZ 7, bZ 8, sT 7 26 6 7, sT 8 27 6 8])
  (.seq (.seq (.ops [fA 28 3 3, lA 29 28 3, g0 (.idxA 30 (.t 29) (kI 0) 6 (some 6) none), lP 31 30, cA 32 274 [(.t 31)], bZ 9, sT 9 32 6 9])
  (.seq (.ops [fA 33 9 0, lA 34 33 9, bK 35 .neq 34 7, mV 36 35, g1 36 true (.fldA 37 (.t 9) 0 none), g1 36 true (.load 38 (.t 37) none (some 9) false), g1 36 true (.bin 39 .neq (.t 38) (kI 9)), pA 40 36 39])
  (.cond (.t 40) (.ops [mV 41 0, fA 42 3 3, lA 43 42 3, g0 (.idxA 44 (.t 43) (kI 0) 6 (some 6) none), lP 45 44, cA 46 118 [(.t 41), (.t 45), (kI 12)]])
  (.skip))))
  (.seq (.seq (.ops [lF 47 5 5, lF 48 7 7, cA 49 235 [(.t 47), (.t 48)], g0 (.un 50 .not (.t 49))])
  (.cond (.t 50) (.ops [mV 51 0, lF 52 3 3, cA 53 118 [(.t 51), (.t 52), (kI 10)]])
  (.skip)))
  (.seq (.ops [lF 54 6 6, lF 55 8 8, g0 (.bsl 56 6 true [(.t 54), (.t 55)]), mV 4 56])
  (.ret)))))),
  [.t 4]⟩
def L234_0 : Ic := .seq (.ops [bT 26 .lss 25 24])
  (.seq (.cond (.t 26) (.skip)
  (.exit 0))
  (.seq (.block 1 (.seq (.ops [g0 (.idxA 27 (.t 23) (.t 25) 1 none none), lO 28 27, mV 10 28])
  (.seq (.ops [fA 29 7 0, lA 30 29 7, mV 31 10, bT 32 .eql 30 31, mV 33 32, g1 33 true (.fldA 34 (.t 7) 3 none), g1 33 true (.load 35 (.t 34) none (some 7) false), g1 33 true (.len 36 .slice (.t 35) false), g1 33 true (.bin 37 .eql (.t 36) (kI 0)), pA 38 33 37])
  (.cond (.t 38) (.seq (.ops [lF 39 8 8, sT 6 39 6 6])
  (.ret))
  (.skip)))))
  (.ops [bK 40 .add 25 1, mV 25 40])))
/-- (*notary/right.looker).of -/
def F234 : IFunc := ⟨.fre, .seq (.ops [bF 4 1, bZ 6])
  (.seq (.ops [mV 12 0, lF 13 4 4, cA 14 232 [(.t 12), (.t 13)], mV 11 14, eX 15 11 0, eX 16 11 1, bZ 7, bZ 8, sT 7 15 6 7, sT 8 16 6 8])
  (.seq (.seq (.ops [mV 17 0, nC 18 17, fA 19 18 14, lO 20 19, bK 21 .neq 20 0])
  (.cond (.t 21) (.seq (.ops [lF 22 8 8, sT 6 22 6 6])
  (.ret))
  (.skip)))
  (.seq (.seq (.ops [mV 23 2, lN 24 23, mK 25 0])
  (.block 0 (.loop L234_0)))
  (.seq (.ops [mV 41 0, lF 42 4 4, cA 43 118 [(.t 41), (.t 42), (kI 10)]])
  (.seq (.ops [lF 44 8 8, sT 6 44 6 6])
  (.ret)))))),
  [.cell 6 (some 6) (some 6)]⟩
/-- notary/term.Same -/
def F235 : IFunc := ⟨.pure, .seq (.ops [bF 2 0, bF 3 1, g0 (.mv 4 (.c (.bool false)))])
  (.seq (.ops [fA 5 2 0, lA 6 5 2, fA 7 3 0, lA 8 7 3, bT 9 .eql 6 8, mV 10 9, g1 10 true (.fldA 11 (.t 2) 1 none), g1 10 true (.load 12 (.t 11) none (some 2) false), g1 10 true (.fldA 13 (.t 3) 1 none), g1 10 true (.load 14 (.t 13) none (some 3) false), g1 10 true (.bin 15 .eql (.t 12) (.t 14)), pA 16 10 15, mV 17 16, g1 17 true (.fldA 18 (.t 2) 2 none), g1 17 true (.load 19 (.t 18) none (some 2) false), g1 17 true (.fldA 20 (.t 3) 2 none), g1 17 true (.load 21 (.t 20) none (some 3) false), g1 17 true (.bin 22 .eql (.t 19) (.t 21)), pA 23 17 22, mV 24 23, g1 24 true (.fldA 25 (.t 2) 3 none), g1 24 true (.load 26 (.t 25) none (some 2) false), g1 24 true (.fldA 27 (.t 3) 3 none), g1 24 true (.load 28 (.t 27) none (some 3) false), g1 24 true (.call (some 29) 94 [(.t 26), (.t 28), (.f 235)]), pA 30 24 29, mV 4 30])
  (.ret)),
  [.t 4]⟩
/-- (*notary/right.looker).nested -/
def F236 : IFunc := ⟨.fre, .seq (.ops [g0 (.boxI 2 none (.t 0)), g0 (.boxI 3 (some 6) (.t 1)), g0 (.mv 4 (.c .nils))])
  (.seq (.ops [g0 (.boxH 5 none (kI 0)), g0 (.store (.t 5) (kI 2) 1 none)])
  (.seq (.seq (.ops [fA 8 3 0, lO 9 8, bK 10 .eql 9 25])
  (.cond (.t 10) (.ops [g0 (.store (.t 5) (kI 1) 1 none)])
  (.skip)))
  (.seq (.ops [lO 11 2, nC 12 11, fA 13 12 6, lO 14 13, lN 15 14, mV 6 15])
  (.seq (.ops [lO 16 2, fA 17 3 3, lO 18 17, g0 (.mkfn 19 275 [] [(.t 2), (.t 5), (.t 3)]), cA 20 174 [(.t 16), (.t 18), (.t 19)], mV 7 20])
  (.seq (.ops [lO 21 2, lO 22 2, nC 23 22, fA 24 23 6, lO 25 24, mV 26 6, mV 27 6, g0 (.slc 28 (some 6) (.t 25) none (some (.t 26)) (some (.t 27))), nC 29 21, fA 30 29 6, g0 (.store (.t 30) (.t 28) 1 none)])
  (.seq (.ops [mV 31 7, mV 4 31])
  (.ret))))))),
  [.t 4]⟩
def L241_0 : Ic := .seq (.seq (.ops [mV 7 3, fA 8 1 3, lA 9 8 1, lN 10 9, bT 11 .lss 7 10])
  (.cond (.t 11) (.skip)
  (.exit 0)))
  (.seq (.block 1 (.seq (.ops [fA 14 1 3, lA 15 14 1, mV 16 3, iX 17 15 16, lP 18 17, cA 19 241 [(.t 18)], g0 (.un 20 .not (.t 19))])
  (.cond (.t 20) (.seq (.ops [g0 (.mv 2 (.c (.bool false)))])
  (.ret))
  (.skip))))
  (.ops [mV 12 3, bK 13 .add 12 1, mV 3 13]))
/-- notary/notaryref12.Free -/
def F241 : IFunc := ⟨.pure, .seq (.ops [bF 1 0, g0 (.mv 2 (.c (.bool false)))])
  (.seq (.seq (.ops [fA 4 1 0, lA 5 4 1, bK 6 .eql 5 4])
  (.cond (.t 6) (.seq (.ops [g0 (.mv 2 (.c (.bool false)))])
  (.ret))
  (.skip)))
  (.seq (.seq (.ops [mK 3 0])
  (.block 0 (.loop L241_0)))
  (.seq (.ops [g0 (.mv 2 (.c (.bool true)))])
  (.ret)))),
  [.t 2]⟩
def L242_0 : Ic := .seq (.seq (.ops [mV 32 10, fA 33 7 3, lA 34 33 7, lN 35 34, bT 36 .lss 32 35])
  (.cond (.t 36) (.skip)
  (.exit 0)))
  (.seq (.block 1 (.seq (.ops [lF 39 4 4, mV 40 1, lF 41 6 6, lF 42 7 7, mV 43 10, cA 44 281 [(.t 39), (.t 40), (.t 41), (.t 42), (.t 43)], g0 (.boxL 11 8 none [(.int .i64 0), (.int .i64 0), (.str []), .nils, (.int .i64 0), (.int .i64 0), (.int .i64 0), (.int .i64 0)]), sT 11 44 8 11])
  (.seq (.seq (.ops [fA 45 11 7, lA 46 45 11, bK 47 .neq 46 0])
  (.cond (.t 47) (.seq (.ops [g0 (.load 48 (.t 11) (some 8) (some 11) false), sT 8 48 8 8])
  (.ret))
  (.skip)))
  (.ops [fA 49 9 3, lA 50 49 9, g0 (.fldA 51 (.t 11) 0 (some 6)), lF 52 51 11, g0 (.bsl 53 6 true [(.t 52)]), g0 (.app 54 (.t 50) (.t 53) 6), fA 55 9 3, sT 55 54 1 9]))))
  (.ops [mV 37 10, bK 38 .add 37 1, mV 10 38]))
/-- notary/notaryref16.Stmt -/
def F242 : IFunc := ⟨.pure, .seq (.ops [bF 4 0, bF 6 2, bF 7 3, g0 (.boxL 8 8 none [(.int .i64 0), (.int .i64 0), (.str []), .nils, (.int .i64 0), (.int .i64 0), (.int .i64 0), (.int .i64 0)])])
  (.seq (.seq (.ops [lF 13 7 7, cA 14 280 [(.t 13)], g0 (.un 15 .not (.t 14))])
  (.cond (.t 15) (.seq (.ops [lF 16 7 7, cA 17 137 [(.t 16), (kI 12)], sT 8 17 8 8])
  (.ret))
  (.skip)))
  (.seq (.seq (.ops [fA 18 7 0, lA 19 18 7, bK 20 .eql 19 29])
  (.cond (.t 20) (.seq (.ops [lF 21 4 4, mV 22 1, lF 23 6 6, lF 24 7 7, cA 25 195 [(.t 21), (.t 22), (.t 23), (.t 24)], sT 8 25 8 8])
  (.ret))
  (.skip)))
  (.seq (.ops [fA 26 7 0, lA 27 26 7, fA 28 7 1, lA 29 28 7, g0 (.bsl 30 6 true []), g0 (.build 31 zT [(0, 1, (.t 27)), (1, 1, (.t 29)), (3, 1, (.t 30))]), bZ 9, sT 9 31 6 9])
  (.seq (.seq (.ops [mK 10 0])
  (.block 0 (.loop L242_0)))
  (.seq (.seq (.ops [fA 56 7 0, lA 57 56 7, bK 58 .eql 57 22])
  (.cond (.t 58) (.seq (.ops [fA 59 7 3, lA 60 59 7, g0 (.idxA 61 (.t 60) (kI 0) 6 (some 6) none), lP 62 61, cA 63 282 [(.t 62)], bZ 12, sT 12 63 6 12])
  (.seq (.seq (.ops [fA 64 12 0, lA 65 64 12, bK 66 .neq 65 7, mV 67 66, g1 67 true (.fldA 68 (.t 12) 0 none), g1 67 true (.load 69 (.t 68) none (some 12) false), g1 67 true (.bin 70 .neq (.t 69) (kI 9)), pA 71 67 70])
  (.cond (.t 71) (.seq (.ops [fA 72 7 3, lA 73 72 7, g0 (.idxA 74 (.t 73) (kI 0) 6 (some 6) none), lP 75 74, cA 76 137 [(.t 75), (kI 12)], sT 8 76 8 8])
  (.ret))
  (.skip)))
  (.seq (.ops [lF 77 4 4, mV 78 1, fA 79 7 3, lA 80 79 7, g0 (.idxA 81 (.t 80) (kI 0) 6 (some 6) none), lP 82 81, g0 (.callQ (some 83) 65 [(.t 77), (.t 78), (.t 82)]), g0 (.fld 84 (.t 83) 0 (some 6)), lF 85 4 4, mV 86 1, fA 87 7 3, lA 88 87 7, g0 (.idxA 89 (.t 88) (kI 1) 6 (some 6) none), lP 90 89, cA 91 65 [(.t 85), (.t 86), (.t 90)], g0 (.fld 92 (.t 91) 0 (some 6)), cA 93 74 [(.t 84), (.t 92)], g0 (.un 94 .not (.t 93))])
  (.cond (.t 94) (.seq (.ops [lF 95 7 7, cA 96 137 [(.t 95), (kI 10)], sT 8 96 8 8])
  (.ret))
  (.skip)))))
  (.skip)))
  (.seq (.ops [lF 97 9 9, g0 (.build 98 [(.int .i64 0), (.int .i64 0), (.str []), .nils, (.int .i64 0), (.int .i64 0), (.int .i64 0), (.int .i64 0)] [(0, 6, (.t 97))]), sT 8 98 8 8])
  (.ret))))))),
  [.cell 8 (some 8) (some 8)]⟩
/-- notary/typ.Field -/
def F246 : IFunc := ⟨.pure, .seq (.ops [bF 2 0, bZ 4, g0 (.mv 5 (.c (.bool false)))])
  (.seq (.seq (.ops [mV 8 1, bK 9 .lss 8 0, mV 10 9, g1 10 false (.mv 11 (.t 1)), g1 10 false (.bin 12 .quo (.t 11) (kI 64)), g1 10 false (.fldA 13 (.t 2) 3 none), g1 10 false (.load 14 (.t 13) none (some 2) false), g1 10 false (.len 15 .slice (.t 14) false), g1 10 false (.bin 16 .geq (.t 12) (.t 15)), pO 17 10 16])
  (.cond (.t 17) (.seq (.ops [g0 (.build 18 zT []), sT 4 18 6 4, g0 (.mv 5 (.c (.bool false)))])
  (.ret))
  (.skip)))
  (.seq (.ops [fA 19 2 3, lA 20 19 2, mV 21 1, bK 22 .quo 21 64, iX 23 20 22, lP 24 23, mV 25 1, bK 26 .rem 25 64, bZ 6, sT 6 24 6 6, mV 7 26])
  (.seq (.seq (.ops [fA 27 6 0, lA 28 27 6, bK 29 .neq 28 30, mV 30 29, g1 30 false (.mv 31 (.t 7)), g1 30 false (.fldA 32 (.t 6) 3 none), g1 30 false (.load 33 (.t 32) none (some 6) false), g1 30 false (.len 34 .slice (.t 33) false), g1 30 false (.bin 35 .geq (.t 31) (.t 34)), pO 36 30 35, mV 37 36, g1 37 false (.fldA 38 (.t 6) 3 none), g1 37 false (.load 39 (.t 38) none (some 6) false), g1 37 false (.mv 40 (.t 7)), g1 37 false (.idxA 41 (.t 39) (.t 40) 6 (some 6) none), g1 37 false (.fldA 42 (.t 41) 0 none), g1 37 false (.load 43 (.t 42) none none false), g1 37 false (.bin 44 .neq (.t 43) (kI 34)), pO 45 37 44, mV 46 45, g1 46 false (.fldA 47 (.t 6) 3 none), g1 46 false (.load 48 (.t 47) none (some 6) false), g1 46 false (.mv 49 (.t 7)), g1 46 false (.idxA 50 (.t 48) (.t 49) 6 (some 6) none), g1 46 false (.fldA 51 (.t 50) 3 none), g1 46 false (.load 52 (.t 51) none none false), g1 46 false (.len 53 .slice (.t 52) false), g1 46 false (.bin 54 .neq (.t 53) (kI 1)), pO 55 46 54])
  (.cond (.t 55) (.seq (.ops [g0 (.build 56 zT []), sT 4 56 6 4, g0 (.mv 5 (.c (.bool false)))])
  (.ret))
  (.skip)))
  (.seq (.ops [fA 57 6 3, lA 58 57 6, mV 59 7, iX 60 58 59, fA 61 60 3, lO 62 61, g0 (.idxA 63 (.t 62) (kI 0) 6 (some 6) none), lP 64 63, sT 4 64 6 4, g0 (.mv 5 (.c (.bool true)))])
  (.ret))))),
  [.cell 4 (some 6) (some 4), .t 5]⟩
/-- (*notary/lex.reader).peek -/
def F249 : IFunc := ⟨.raw, .seq (.ops [g0 (.mv 4 (.c (.int .u8 0)))])
  (.seq (.seq (.ops [mV 5 0, nC 6 5, fA 7 6 1, lO 8 7, mV 9 1, bT 10 .add 8 9, mV 11 0, nC 12 11, fA 13 12 0, lO 14 13, g0 (.len 15 .str (.t 14) false), bT 16 .lss 10 15])
  (.cond (.t 16) (.seq (.ops [mV 17 0, nC 18 17, fA 19 18 0, lO 20 19, mV 21 0, nC 22 21, fA 23 22 1, lO 24 23, mV 25 1, bT 26 .add 24 25, g0 (.idx 27 (.t 20) (.t 26) none 1 none), mV 4 27])
  (.ret))
  (.skip)))
  (.seq (.ops [g0 (.mv 4 (.c (.int .u8 0)))])
  (.ret))),
  [.t 4]⟩
def L250_0 : Ic := .seq (.seq (.ops [mV 10 0, nC 11 10, fA 12 11 1, lO 13 12, mV 14 0, nC 15 14, fA 16 15 0, lO 17 16, g0 (.len 18 .str (.t 17) false), bT 19 .lss 13 18, mV 20 19, g1 20 true (.mv 21 (.t 1)), g1 20 true (.mv 22 (.t 0)), g1 20 true (.nilc (some 23) (.t 22)), g1 20 true (.fldA 24 (.t 23) 0 none), g1 20 true (.load 25 (.t 24) none none false), g1 20 true (.mv 26 (.t 0)), g1 20 true (.nilc (some 27) (.t 26)), g1 20 true (.fldA 28 (.t 27) 1 none), g1 20 true (.load 29 (.t 28) none none false), g1 20 true (.idx 30 (.t 25) (.t 29) none 1 none), g1 20 true (.callV (some 31) (.t 21) [(.t 30)]), pA 32 20 31])
  (.cond (.t 32) (.skip)
  (.exit 0)))
  (.block 1 (.ops [mV 33 0, nC 34 33, fA 35 34 1, lO 36 35, bK 37 .add 36 1, nC 38 33, fA 39 38 1, g0 (.store (.t 39) (.t 37) 1 none)]))
/-- (*notary/lex.reader).run -/
def F250 : IFunc := ⟨.raw, .seq (.ops [g0 (.mv 4 (.c (.str [])))])
  (.seq (.ops [mV 6 0, nC 7 6, fA 8 7 1, lO 9 8, mV 5 9])
  (.seq (.block 0 (.loop L250_0))
  (.seq (.ops [mV 40 0, nC 41 40, fA 42 41 0, lO 43 42, mV 44 5, mV 45 0, nC 46 45, fA 47 46 1, lO 48 47, g0 (.slc 49 none (.t 43) (some (.t 44)) (some (.t 48)) none), mV 4 49])
  (.ret)))),
  [.t 4]⟩
/-- (*notary/lex.reader).isLine -/
def F251 : IFunc := ⟨.raw, .seq (.ops [g0 (.mv 4 (.c (.bool false)))])
  (.seq (.ops [mV 5 1, g0 (.bin 6 .neq (.t 5) (.c (.int .u8 10))), mV 4 6])
  (.ret)),
  [.t 4]⟩
/-- (*notary/lex.reader).isLetter -/
def F252 : IFunc := ⟨.raw, .seq (.ops [g0 (.mv 4 (.c (.bool false)))])
  (.seq (.ops [mV 5 1, g0 (.bin 6 .geq (.t 5) (.c (.int .u8 97))), mV 7 6, g1 7 true (.mv 8 (.t 1)), g1 7 true (.bin 9 .leq (.t 8) (.c (.int .u8 122))), pA 10 7 9, mV 11 10, g1 11 false (.mv 12 (.t 1)), g1 11 false (.bin 13 .geq (.t 12) (.c (.int .u8 65))), g1 11 false (.mv 14 (.t 13)), g1 14 true (.mv 15 (.t 1)), g1 14 true (.bin 16 .leq (.t 15) (.c (.int .u8 90))), g1 11 false (.pick 17 (.t 14) (.t 16) (.c (.bool false))), pO 18 11 17, mV 19 18, g1 19 false (.mv 20 (.t 1)), g1 19 false (.bin 21 .eql (.t 20) (.c (.int .u8 95))), pO 22 19 21, mV 4 22])
  (.ret)),
  [.t 4]⟩
/-- (*notary/lex.reader).word -/
def F253 : IFunc := ⟨.raw, .seq (.ops [mK 2 0])
  (.seq (.ops [mV 5 0, nC 6 5, fA 7 6 1, lO 8 7, mV 3 8])
  (.seq (.ops [mV 9 0, mV 10 0, g0 (.mkfn 11 283 [(.t 10)] []), cA 12 250 [(.t 9), (.t 11)], mV 4 12])
  (.seq (.seq (.ops [mV 13 4, g0 (.len 14 .str (.t 13) false), bK 15 .gtr 14 16])
  (.cond (.t 15) (.seq (.ops [mK 2 3])
  (.ret))
  (.skip)))
  (.seq (.seq (.ops [mV 16 4, cA 17 284 [(.t 16)]])
  (.cond (.t 17) (.ops [mV 18 0, mV 19 4, mV 20 3, cA 21 220 [(.t 18), (kI 3), (kI 0), (.t 19), (.t 20)]])
  (.ops [mV 22 0, mV 23 4, mV 24 3, cA 25 220 [(.t 22), (kI 1), (kI 0), (.t 23), (.t 24)]])))
  (.seq (.ops [mK 2 0])
  (.ret)))))),
  [.t 2]⟩
/-- (*notary/lex.reader).isDigit -/
def F254 : IFunc := ⟨.raw, .seq (.ops [g0 (.mv 4 (.c (.bool false)))])
  (.seq (.ops [mV 5 1, g0 (.bin 6 .geq (.t 5) (.c (.int .u8 48))), mV 7 6, g1 7 true (.mv 8 (.t 1)), g1 7 true (.bin 9 .leq (.t 8) (.c (.int .u8 57))), pA 10 7 9, mV 4 10])
  (.ret)),
  [.t 4]⟩
def L255_0 : Ic := .seq (.ops [bT 31 .lss 30 29])
  (.seq (.cond (.t 31) (.skip)
  (.exit 0))
  (.seq (.block 1 (.seq (.ops [mV 32 30, mV 6 32])
  (.ops [mV 33 5, g0 (.bin 34 .mul (.t 33) (.c (.int .u64 10))), mV 35 4, mV 36 6, g0 (.idx 37 (.t 35) (.t 36) none 1 none), g0 (.bin 38 .sub (.t 37) (.c (.int .u8 48))), g0 (.conv 39 (.int .u64) (.t 38)), bT 40 .add 34 39, mV 5 40])))
  (.ops [bK 41 .add 30 1, mV 30 41])))
/-- (*notary/lex.reader).number -/
def F255 : IFunc := ⟨.raw, .seq (.ops [mK 2 0])
  (.seq (.ops [mV 7 0, nC 8 7, fA 9 8 1, lO 10 9, mV 3 10])
  (.seq (.ops [mV 11 0, mV 12 0, g0 (.mkfn 13 254 [(.t 12)] []), cA 14 250 [(.t 11), (.t 13)], mV 4 14])
  (.seq (.seq (.ops [mV 15 4, g0 (.len 16 .str (.t 15) false), bK 17 .gtr 16 19, mV 18 17, g1 18 false (.mv 19 (.t 4)), g1 18 false (.len 20 .str (.t 19) false), g1 18 false (.bin 21 .gtr (.t 20) (kI 1)), g1 18 false (.mv 22 (.t 21)), g1 22 true (.mv 23 (.t 4)), g1 22 true (.idx 24 (.t 23) (kI 0) none 1 none), g1 22 true (.bin 25 .eql (.t 24) (.c (.int .u8 48))), g1 18 false (.pick 26 (.t 22) (.t 25) (.c (.bool false))), pO 27 18 26])
  (.cond (.t 27) (.seq (.ops [mK 2 5])
  (.ret))
  (.skip)))
  (.seq (.ops [g0 (.mv 5 (.c (.int .u64 0)))])
  (.seq (.seq (.ops [mV 28 4, g0 (.len 29 .str (.t 28) false), mK 30 0])
  (.block 0 (.loop L255_0)))
  (.seq (.seq (.ops [mV 42 5, g0 (.bin 43 .gtr (.t 42) (.c (.int .u64 9223372036854775807)))])
  (.cond (.t 43) (.seq (.ops [mK 2 5])
  (.ret))
  (.skip)))
  (.seq (.ops [mV 44 0, mV 45 5, g0 (.conv 46 (.int .i64) (.t 45)), mV 47 3, g0 (.call (some 48) 220 [(.t 44), (kI 2), (.t 46), (.c (.str [])), (.t 47)])])
  (.seq (.ops [mK 2 0])
  (.ret))))))))),
  [.t 2]⟩
/-- notary/lex.signAt -/
def F256 : IFunc := ⟨.pure, .seq (.ops [mK 4 0])
  (.seq (.seq (.ops [mV 5 0])
  (.block 0 (.seq (.seq (.ops [g0 (.bin 7 .eql (.t 5) (.c (.int .u8 61))), mV 6 7])
  (.cond (.t 6) (.skip)
  (.seq (.ops [g0 (.bin 8 .eql (.t 5) (.c (.int .u8 33))), mV 6 8])
  (.cond (.t 6) (.skip)
  (.seq (.ops [g0 (.bin 9 .eql (.t 5) (.c (.int .u8 60))), mV 6 9])
  (.cond (.t 6) (.skip)
  (.ops [g0 (.bin 10 .eql (.t 5) (.c (.int .u8 62))), mV 6 10])))))))
  (.cond (.t 6) (.seq (.seq (.ops [mV 11 1, g0 (.bin 12 .eql (.t 11) (.c (.int .u8 61)))])
  (.cond (.t 12) (.seq (.ops [mK 4 2])
  (.ret))
  (.skip)))
  (.seq (.ops [mK 4 1])
  (.ret)))
  (.seq (.seq (.ops [g0 (.bin 14 .eql (.t 5) (.c (.int .u8 38))), mV 13 14])
  (.cond (.t 13) (.skip)
  (.ops [g0 (.bin 15 .eql (.t 5) (.c (.int .u8 124))), mV 13 15])))
  (.cond (.t 13) (.seq (.seq (.ops [mV 16 1, mV 17 0, bT 18 .eql 16 17])
  (.cond (.t 18) (.seq (.ops [mK 4 2])
  (.ret))
  (.skip)))
  (.seq (.ops [mK 4 0])
  (.ret)))
  (.seq (.seq (.ops [g0 (.bin 20 .eql (.t 5) (.c (.int .u8 123))), mV 19 20])
  (.cond (.t 19) (.skip)
  (.seq (.ops [g0 (.bin 21 .eql (.t 5) (.c (.int .u8 125))), mV 19 21])
  (.cond (.t 19) (.skip)
  (.seq (.ops [g0 (.bin 22 .eql (.t 5) (.c (.int .u8 40))), mV 19 22])
  (.cond (.t 19) (.skip)
  (.seq (.ops [g0 (.bin 23 .eql (.t 5) (.c (.int .u8 41))), mV 19 23])
  (.cond (.t 19) (.skip)
  (.seq (.ops [g0 (.bin 24 .eql (.t 5) (.c (.int .u8 91))), mV 19 24])
  (.cond (.t 19) (.skip)
  (.seq (.ops [g0 (.bin 25 .eql (.t 5) (.c (.int .u8 93))), mV 19 25])
  (.cond (.t 19) (.skip)
  (.seq (.ops [g0 (.bin 26 .eql (.t 5) (.c (.int .u8 44))), mV 19 26])
  (.cond (.t 19) (.skip)
  (.seq (.ops [g0 (.bin 27 .eql (.t 5) (.c (.int .u8 59))), mV 19 27])
  (.cond (.t 19) (.skip)
  (.seq (.ops [g0 (.bin 28 .eql (.t 5) (.c (.int .u8 58))), mV 19 28])
  (.cond (.t 19) (.skip)
  (.seq (.ops [g0 (.bin 29 .eql (.t 5) (.c (.int .u8 46))), mV 19 29])
  (.cond (.t 19) (.skip)
  (.seq (.ops [g0 (.bin 30 .eql (.t 5) (.c (.int .u8 43))), mV 19 30])
  (.cond (.t 19) (.skip)
  (.seq (.ops [g0 (.bin 31 .eql (.t 5) (.c (.int .u8 45))), mV 19 31])
  (.cond (.t 19) (.skip)
  (.seq (.ops [g0 (.bin 32 .eql (.t 5) (.c (.int .u8 42))), mV 19 32])
  (.cond (.t 19) (.skip)
  (.seq (.ops [g0 (.bin 33 .eql (.t 5) (.c (.int .u8 47))), mV 19 33])
  (.cond (.t 19) (.skip)
  (.seq (.ops [g0 (.bin 34 .eql (.t 5) (.c (.int .u8 37))), mV 19 34])
  (.cond (.t 19) (.skip)
  (.ops [g0 (.bin 35 .eql (.t 5) (.c (.int .u8 64))), mV 19 35])))))))))))))))))))))))))))))))
  (.cond (.t 19) (.seq (.ops [mK 4 1])
  (.ret))
  (.skip)))))))))
  (.seq (.ops [mK 4 0])
  (.ret))),
  [.t 4]⟩
/-- (*notary/unit.reader).name -/
def F257 : IFunc := ⟨.fre, .seq (.ops [g0 (.mv 2 (.c (.str [])))])
  (.seq (.seq (.ops [mV 3 0, nC 4 3, fA 5 4 2, lO 6 5, bK 7 .neq 6 0])
  (.cond (.t 7) (.seq (.ops [g0 (.mv 2 (.c (.str [])))])
  (.ret))
  (.skip)))
  (.seq (.seq (.ops [mV 8 0, nC 9 8, fA 10 9 0, lO 11 10, mV 12 0, nC 13 12, fA 14 13 1, lO 15 14, g0 (.idxA 16 (.t 11) (.t 15) 5 (some 5) none), fA 17 16 0, lO 18 17, bK 19 .neq 18 1])
  (.cond (.t 19) (.seq (.ops [mV 20 0, nC 21 20, fA 22 21 2, g0 (.store (.t 22) (kI 6) 1 none)])
  (.seq (.ops [g0 (.mv 2 (.c (.str [])))])
  (.ret)))
  (.skip)))
  (.seq (.ops [mV 23 0, nC 24 23, fA 25 24 1, lO 26 25, bK 27 .add 26 1, nC 28 23, fA 29 28 1, g0 (.store (.t 29) (.t 27) 1 none)])
  (.seq (.ops [mV 30 0, nC 31 30, fA 32 31 0, lO 33 32, mV 34 0, nC 35 34, fA 36 35 1, lO 37 36, bK 38 .sub 37 1, g0 (.idxA 39 (.t 33) (.t 38) 5 (some 5) none), fA 40 39 2, lO 41 40, mV 2 41])
  (.ret))))),
  [.t 2]⟩
/-- (*notary/unit.reader).need -/
def F258 : IFunc := ⟨.fre, .seq (.ops [mV 6 0, nC 7 6, fA 8 7 2, lO 9 8, bK 10 .eql 9 0, mV 11 10, g1 11 true (.mv 12 (.t 0)), g1 11 true (.mv 13 (.t 1)), g1 11 true (.mv 14 (.t 2)), g1 11 true (.call (some 15) 266 [(.t 12), (.t 13), (.t 14)]), g1 11 true (.un 16 .not (.t 15)), pA 17 11 16])
  (.cond (.t 17) (.ops [mV 18 0, nC 19 18, fA 20 19 2, g0 (.store (.t 20) (kI 6) 1 none)])
  (.skip)),
  []⟩
def L259_0 : Ic := .seq (.seq (.ops [mV 11 0, nC 12 11, fA 13 12 2, lO 14 13, bK 15 .eql 14 0, mV 16 15, g1 16 true (.mv 17 (.t 2)), g1 16 true (.callV (some 18) (.t 17) []), pA 19 16 18])
  (.cond (.t 19) (.skip)
  (.exit 0)))
  (.block 1 (.ops [mV 20 7, mV 21 1, g0 (.callV (some 22) (.t 21) []), g0 (.bsl 23 6 true [(.t 22)]), g0 (.app 24 (.t 20) (.t 23) 6), mV 7 24]))
/-- (*notary/unit.reader).list -/
def F259 : IFunc := ⟨.fre, .seq (.ops [g0 (.mv 6 (.c .nils))])
  (.seq (.ops [mV 8 1, g0 (.callV (some 9) (.t 8) []), g0 (.bsl 10 6 true [(.t 9)]), mV 7 10])
  (.seq (.block 0 (.loop L259_0))
  (.seq (.ops [mV 25 7, mV 6 25])
  (.ret)))),
  [.t 6]⟩
/-- (*notary/unit.reader).field -/
def F260 : IFunc := ⟨.fre, .seq (.ops [bZ 2])
  (.seq (.ops [mV 4 0, cA 5 285 [(.t 4)], bZ 3, sT 3 5 6 3])
  (.seq (.ops [mV 6 0, g0 (.call (some 7) 258 [(.t 6), (kI 4), (.c (.str [59]))])])
  (.seq (.ops [lF 8 3 3, sT 2 8 6 2])
  (.ret)))),
  [.cell 2 (some 6) (some 2)]⟩
/-- (*notary/unit.reader).open -/
def F261 : IFunc := ⟨.fre, .seq (.ops [g0 (.mv 2 (.c (.bool false)))])
  (.seq (.ops [mV 3 0, g0 (.callR (some 4) 221 [(.t 3), (kI 4), (.c (.str [125]))]), g0 (.un 5 .not (.t 4)), mV 2 5])
  (.ret)),
  [.t 2]⟩
/-- (*notary/unit.reader).made -/
def F262 : IFunc := ⟨.fre, .seq (.ops [bZ 12])
  (.seq (.seq (.ops [mV 13 0, nC 14 13, fA 15 14 2, lO 16 15, bK 17 .neq 16 0])
  (.cond (.t 17) (.seq (.ops [g0 (.build 18 zT []), sT 12 18 6 12])
  (.ret))
  (.skip)))
  (.seq (.ops [mV 19 1, mV 20 2, mV 21 3, mV 22 5, mV 23 0, nC 24 23, fA 25 24 0, lO 26 25, mV 27 4, g0 (.idxA 28 (.t 26) (.t 27) 5 (some 5) none), fA 29 28 3, lO 30 29, mV 31 0, nC 32 31, fA 33 32 0, lO 34 33, mV 35 0, nC 36 35, fA 37 36 1, lO 38 37, bK 39 .sub 38 1, g0 (.idxA 40 (.t 34) (.t 39) 5 (some 5) none), fA 41 40 4, lO 42 41, g0 (.build 43 zT [(0, 1, (.t 19)), (1, 1, (.t 20)), (2, 1, (.t 21)), (3, 1, (.t 22)), (4, 1, (.t 30)), (5, 1, (.t 42))]), sT 12 43 6 12])
  (.ret))),
  [.cell 12 (some 6) (some 12)]⟩
/-- (*notary/unit.reader).literal -/
def F263 : IFunc := ⟨.fre, .seq (.ops [bZ 2])
  (.seq (.seq (.ops [mV 6 0, nC 7 6, fA 8 7 2, lO 9 8, bK 10 .neq 9 0])
  (.cond (.t 10) (.seq (.ops [g0 (.build 11 zT []), sT 2 11 6 2])
  (.ret))
  (.skip)))
  (.seq (.seq (.ops [mV 12 0, nC 13 12, fA 14 13 0, lO 15 14, mV 16 0, nC 17 16, fA 18 17 1, lO 19 18, g0 (.idxA 20 (.t 15) (.t 19) 5 (some 5) none), fA 21 20 0, lO 22 21, bK 23 .neq 22 2, mV 24 23, g1 24 true (.mv 25 (.t 0)), g1 24 true (.callR (some 26) 221 [(.t 25), (kI 3), (.c (.str [116, 114, 117, 101]))]), g1 24 true (.un 27 .not (.t 26)), pA 28 24 27, mV 29 28, g1 29 true (.mv 30 (.t 0)), g1 29 true (.callR (some 31) 221 [(.t 30), (kI 3), (.c (.str [102, 97, 108, 115, 101]))]), g1 29 true (.un 32 .not (.t 31)), pA 33 29 32])
  (.cond (.t 33) (.seq (.ops [mV 34 0, nC 35 34, fA 36 35 2, g0 (.store (.t 36) (kI 6) 1 none)])
  (.seq (.ops [g0 (.build 37 zT []), sT 2 37 6 2])
  (.ret)))
  (.skip)))
  (.seq (.ops [mV 39 0, nC 40 39, fA 41 40 0, lO 42 41, mV 43 0, nC 44 43, fA 45 44 1, lO 46 45, mV 47 0, nC 48 47, fA 49 48 1, lO 50 49, bK 51 .add 50 1, g0 (.slc 52 (some 5) (.t 42) (some (.t 46)) (some (.t 51)) none), cA 53 286 [(.t 52), (kI 0)], mV 38 53, eX 54 38 0, eX 55 38 1, eX 56 38 2, bZ 3, sT 3 54 6 3, mV 4 55, mV 5 56])
  (.seq (.ops [mV 57 0, nC 58 57, fA 59 58 1, lO 60 59, bK 61 .add 60 1, nC 62 57, fA 63 62 1, g0 (.store (.t 63) (.t 61) 1 none)])
  (.seq (.ops [lF 64 3 3, sT 2 64 6 2])
  (.ret)))))),
  [.cell 2 (some 6) (some 2)]⟩
/-- (*notary/unit.reader).other -/
def F264 : IFunc := ⟨.fre, .seq (.ops [bZ 4])
  (.seq (.seq (.ops [mV 8 0, nC 9 8, fA 10 9 2, lO 11 10, bK 12 .neq 11 0])
  (.cond (.t 12) (.seq (.ops [g0 (.build 13 zT []), sT 4 13 6 4])
  (.ret))
  (.skip)))
  (.seq (.ops [mV 15 1, mV 16 0, nC 17 16, fA 18 17 0, lO 19 18, mV 20 0, nC 21 20, fA 22 21 1, lO 23 22, g0 (.callV (some 24) (.t 15) [(.t 19), (.t 23)]), mV 14 24, eX 25 14 0, eX 26 14 1, eX 27 14 2, bZ 5, sT 5 25 6 5, mV 6 26, mV 7 27])
  (.seq (.ops [mV 28 0, mV 29 0, mV 30 6, mV 31 7, nC 32 28, fA 33 32 1, g0 (.store (.t 33) (.t 30) 1 none), nC 34 29, fA 35 34 2, g0 (.store (.t 35) (.t 31) 1 none)])
  (.seq (.ops [lF 36 5 5, sT 4 36 6 4])
  (.ret))))),
  [.cell 4 (some 6) (some 4)]⟩
/-- notary/expr.Type -/
def F265 : IFunc := ⟨.pure, .seq (.ops [bZ 4, mK 5 0, mK 6 0])
  (.seq (.ops [mV 7 0, mV 8 1, cA 9 287 [(.t 7), (.t 8), (.f 288)], eX 10 9 0, eX 11 9 1, eX 12 9 2, sT 4 10 6 4, mV 5 11, mV 6 12])
  (.ret)),
  [.cell 4 (some 6) (some 4), .t 5, .t 6]⟩
/-- (*notary/unit.reader).take -/
def F266 : IFunc := ⟨.fre, .seq (.ops [g0 (.mv 6 (.c (.bool false)))])
  (.seq (.seq (.ops [mV 7 0, nC 8 7, fA 9 8 2, lO 10 9, bK 11 .neq 10 0, mV 12 11, g1 12 false (.mv 13 (.t 0)), g1 12 false (.mv 14 (.t 1)), g1 12 false (.mv 15 (.t 2)), g1 12 false (.callR (some 16) 221 [(.t 13), (.t 14), (.t 15)]), g1 12 false (.un 17 .not (.t 16)), pO 18 12 17])
  (.cond (.t 18) (.seq (.ops [g0 (.mv 6 (.c (.bool false)))])
  (.ret))
  (.skip)))
  (.seq (.ops [mV 19 0, nC 20 19, fA 21 20 1, lO 22 21, bK 23 .add 22 1, nC 24 19, fA 25 24 1, g0 (.store (.t 25) (.t 23) 1 none)])
  (.seq (.ops [g0 (.mv 6 (.c (.bool true)))])
  (.ret)))),
  [.t 6]⟩
/-- (*notary/unit.reader).params -/
def F267 : IFunc := ⟨.fre, .seq (.ops [bZ 2])
  (.seq (.ops [mV 5 0, nC 6 5, fA 7 6 1, lO 8 7, mV 3 8])
  (.seq (.ops [mV 9 0, g0 (.call (some 10) 258 [(.t 9), (kI 4), (.c (.str [40]))])])
  (.seq (.seq (.ops [mV 11 0, g0 (.call (some 12) 266 [(.t 11), (kI 4), (.c (.str [41]))])])
  (.cond (.t 12) (.seq (.ops [mV 13 0, mV 14 3, g0 (.call (some 15) 262 [(.t 13), (kI 35), (kI 0), (.c (.str [])), (.t 14), (.c .nils)]), sT 2 15 6 2])
  (.ret))
  (.skip)))
  (.seq (.ops [mV 16 0, mV 17 0, g0 (.mkfn 18 285 [(.t 17)] []), mV 19 0, g0 (.mkfn 20 289 [(.t 19)] []), cA 21 259 [(.t 16), (.t 18), (.t 20)], mV 4 21])
  (.seq (.ops [mV 22 0, g0 (.call (some 23) 258 [(.t 22), (kI 4), (.c (.str [41]))])])
  (.seq (.ops [mV 24 0, mV 25 3, mV 26 4, g0 (.call (some 27) 262 [(.t 24), (kI 35), (kI 0), (.c (.str [])), (.t 25), (.t 26)]), sT 2 27 6 2])
  (.ret))))))),
  [.cell 2 (some 6) (some 2)]⟩
/-- notary/stmt.Block -/
def F268 : IFunc := ⟨.pure, .seq (.ops [bZ 4, mK 5 0, mK 6 0])
  (.seq (.ops [mV 7 0, mV 8 1, cA 9 290 [(.t 7), (.t 8), (.f 291)], eX 10 9 0, eX 11 9 1, eX 12 9 2, sT 4 10 6 4, mV 5 11, mV 6 12])
  (.ret)),
  [.cell 4 (some 6) (some 4), .t 5, .t 6]⟩
/-- (*notary/scope.scope).named$1 -/
def F269 : IFunc := ⟨.fre, .seq (.ops [bF 4 0, bZ 5])
  (.seq (.seq (.ops [lO 7 1, fA 8 4 2, lA 9 8 4, g0 (.look 10 .str (.t 7) (.t 9) (.int .i64 0) false), bK 11 .add 10 1, g0 (.mupd .str (.t 7) (.t 9) (.t 11))])
  (.seq (.ops [lO 12 1, fA 13 4 2, lA 14 13 4, g0 (.look 15 .str (.t 12) (.t 14) (.int .i64 0) false), bK 16 .gtr 15 1])
  (.cond (.t 16) (.seq (.ops [lO 17 2, lF 18 4 4, cA 19 270 [(.t 17), (.t 18), (kI 9)]])
  (.seq (.ops [g0 (.build 20 zT []), sT 5 20 6 5])
  (.ret)))
  (.skip))))
  (.seq (.ops [lO 21 2, lF 22 4 4, cA 23 229 [(.t 21), (.t 22)], bZ 6, sT 6 23 6 6])
  (.seq (.seq (.ops [lO 24 3])
  (.cond (.t 24) (.ops [fA 25 4 2, lA 26 25 4, fA 27 6 2, sT 27 26 1 6])
  (.skip)))
  (.seq (.ops [lF 28 6 6, sT 5 28 6 5])
  (.ret))))),
  [.cell 5 (some 6) (some 5)]⟩
/-- (*notary/scope.scope).fail -/
def F270 : IFunc := ⟨.fre, .seq (.ops [bF 4 1])
  (.seq (.ops [mV 6 0, nC 7 6, fA 8 7 9, lO 9 8, bK 10 .eql 9 0])
  (.cond (.t 10) (.ops [mV 11 0, mV 12 0, fA 13 4 4, lA 14 13 4, mV 15 2, nC 16 11, fA 17 16 8, g0 (.store (.t 17) (.t 14) 1 none), nC 18 12, fA 19 18 9, g0 (.store (.t 19) (.t 15) 1 none)])
  (.skip))),
  []⟩
def L271_0 : Ic := .seq (.seq (.ops [mV 20 6, bK 21 .geq 20 0])
  (.cond (.t 21) (.skip)
  (.exit 0)))
  (.seq (.block 1 (.seq (.ops [mV 24 0, nC 25 24, fA 26 25 7, lO 27 26, mV 28 6, g0 (.idxA 29 (.t 27) (.t 28) 1 none none), lO 30 29, fA 31 3 2, lA 32 31 3, bT 33 .eql 30 32])
  (.cond (.t 33) (.seq (.ops [mV 34 0, nC 35 34, fA 36 35 7, lO 37 36, lN 38 37, bK 39 .sub 38 1, mV 40 6, bT 41 .sub 39 40, fA 42 5 0, g0 (.store (.t 42) (kI 7) 1 (some 5)), fA 43 5 1, sT 43 41 1 5])
  (.seq (.ops [lF 44 5 5, sT 4 44 6 4])
  (.ret)))
  (.skip))))
  (.ops [mV 22 6, bK 23 .sub 22 1, mV 6 23]))
/-- (*notary/scope.scope).value -/
def F271 : IFunc := ⟨.fre, .seq (.ops [bF 3 1, bZ 4])
  (.seq (.ops [fA 9 3 4, lA 10 9 3, fA 11 3 5, lA 12 11 3, g0 (.build 13 zT [(4, 1, (.t 10)), (5, 1, (.t 12))]), bZ 5, sT 5 13 6 5])
  (.seq (.seq (.ops [mV 14 0, nC 15 14, fA 16 15 7, lO 17 16, lN 18 17, bK 19 .sub 18 1, mV 6 19])
  (.block 0 (.loop L271_0)))
  (.seq (.ops [mV 46 0, lF 47 3 3, g0 (.bsl 48 1 false [(kI 31), (kI 32)]), cA 49 272 [(.t 46), (.t 47), (.t 48)], mV 45 49, eX 50 45 0, eX 51 45 1, mV 7 50, mV 8 51])
  (.seq (.ops [mV 52 7, fA 53 5 0, g0 (.store (.t 53) (kI 9) 1 (some 5)), fA 54 5 1, sT 54 52 1 5])
  (.seq (.seq (.ops [mV 55 8, bK 56 .eql 55 31])
  (.cond (.t 56) (.ops [fA 57 5 0, g0 (.store (.t 57) (kI 8) 1 (some 5))])
  (.skip)))
  (.seq (.ops [lF 58 5 5, sT 4 58 6 4])
  (.ret))))))),
  [.cell 4 (some 6) (some 4)]⟩
def L272_0 : Ic := .seq (.ops [bT 26 .lss 25 24])
  (.seq (.cond (.t 26) (.skip)
  (.exit 0))
  (.seq (.block 1 (.seq (.ops [g0 (.idxA 27 (.t 23) (.t 25) 1 none none), lO 28 27, mV 11 28])
  (.seq (.ops [mV 29 0, nC 30 29, g0 (.fldA 31 (.t 30) 1 (some 6)), fA 32 31 3, lO 33 32, mV 34 8, iX 35 33 34, fA 36 35 0, lO 37 36, mV 38 11, bT 39 .eql 37 38])
  (.cond (.t 39) (.seq (.ops [mV 40 8, mV 41 11, mV 6 40, mV 7 41])
  (.ret))
  (.skip)))))
  (.ops [bK 42 .add 25 1, mV 25 42])))
/-- (*notary/scope.scope).find -/
def F272 : IFunc := ⟨.fre, .seq (.ops [bF 4 1, mK 6 0, mK 7 0])
  (.seq (.seq (.ops [mV 13 0, nC 14 13, fA 15 14 0, lO 16 15, fA 17 4 2, lA 18 17 4, g0 (.look 19 .str (.t 16) (.t 18) (.int .i64 0) true), mV 12 19, eX 20 12 0, eX 21 12 1, mV 8 20, mV 9 21])
  (.seq (.ops [mV 22 9])
  (.cond (.t 22) (.seq (.ops [mV 23 2, lN 24 23, mK 25 0])
  (.block 0 (.loop L272_0)))
  (.skip))))
  (.seq (.ops [mV 43 0, lF 44 4 4, cA 45 270 [(.t 43), (.t 44), (kI 8)]])
  (.seq (.ops [mK 6 0, mK 7 0])
  (.ret)))),
  [.t 6, .t 7]⟩
/-- (*notary/scope.scope).stmt -/
def F273 : IFunc := ⟨.fre, .seq (.ops [bF 3 1, bZ 4])
  (.seq (.seq (.ops [fA 6 3 0, lA 7 6 3])
  (.block 0 (.seq (.ops [bK 9 .eql 7 29, mV 8 9])
  (.cond (.t 8) (.seq (.ops [mV 10 0, lF 11 3 3, cA 12 230 [(.t 10), (.t 11)], sT 4 12 6 4])
  (.ret))
  (.seq (.seq (.ops [bK 14 .eql 7 20, mV 13 14])
  (.cond (.t 13) (.skip)
  (.ops [bK 15 .eql 7 21, mV 13 15])))
  (.cond (.t 13) (.seq (.ops [mV 16 0, lF 17 3 3, cA 18 229 [(.t 16), (.t 17)], bZ 5, sT 5 18 6 5])
  (.seq (.ops [mV 19 0, mV 20 0, nC 21 20, fA 22 21 7, lO 23 22, fA 24 3 2, lA 25 24 3, g0 (.bsl 26 1 false [(.t 25)]), g0 (.app 27 (.t 23) (.t 26) 1), nC 28 19, fA 29 28 7, g0 (.store (.t 29) (.t 27) 1 none)])
  (.seq (.ops [lF 30 5 5, sT 4 30 6 4])
  (.ret))))
  (.seq (.seq (.ops [bK 32 .eql 7 23, mV 31 32])
  (.cond (.t 31) (.skip)
  (.seq (.ops [bK 33 .eql 7 24, mV 31 33])
  (.cond (.t 31) (.skip)
  (.ops [bK 34 .eql 7 25, mV 31 34])))))
  (.cond (.t 31) (.seq (.ops [mV 35 0, lF 36 3 3, cA 37 292 [(.t 35), (.t 36)], sT 4 37 6 4])
  (.ret))
  (.skip)))))))))
  (.seq (.ops [mV 38 0, lF 39 3 3, cA 40 229 [(.t 38), (.t 39)], sT 4 40 6 4])
  (.ret))),
  [.cell 4 (some 6) (some 4)]⟩
def L274_0 : Ic := .seq (.seq (.ops [fA 3 1 0, lA 4 3 1, bK 5 .eql 4 12, mV 6 5, g1 6 false (.fldA 7 (.t 1) 0 none), g1 6 false (.load 8 (.t 7) none (some 1) false), g1 6 false (.bin 9 .eql (.t 8) (kI 13)), pO 10 6 9, mV 11 10, g1 11 true (.fldA 12 (.t 1) 3 none), g1 11 true (.load 13 (.t 12) none (some 1) false), g1 11 true (.len 14 .slice (.t 13) false), g1 11 true (.bin 15 .gtr (.t 14) (kI 0)), pA 16 11 15])
  (.cond (.t 16) (.skip)
  (.exit 0)))
  (.block 1 (.ops [fA 17 1 3, lA 18 17 1, g0 (.idxA 19 (.t 18) (kI 0) 6 (some 6) none), lP 20 19, sT 1 20 6 1]))
/-- notary/shift.Root -/
def F274 : IFunc := ⟨.pure, .seq (.ops [bF 1 0, bZ 2])
  (.seq (.block 0 (.loop L274_0))
  (.seq (.ops [lF 21 1 1, sT 2 21 6 2])
  (.ret))),
  [.cell 2 (some 6) (some 2)]⟩
/-- (*notary/right.looker).nested$1 -/
def F275 : IFunc := ⟨.fre, .seq (.ops [bF 4 0, bZ 5])
  (.seq (.seq (.ops [fA 6 4 0, lA 7 6 4, bK 8 .neq 7 29])
  (.cond (.t 8) (.seq (.ops [lO 9 1, lF 10 4 4, lO 11 2, g0 (.bsl 12 1 false [(.t 11)]), cA 13 234 [(.t 9), (.t 10), (.t 12)], sT 5 13 6 5])
  (.ret))
  (.skip)))
  (.seq (.seq (.ops [fA 14 3 0, lO 15 14, bK 16 .eql 15 25])
  (.cond (.t 16) (.amb 17 18 (.seq (.ops [lO 19 1, nC 20 19, fA 21 20 6, lO 22 21, g0 (.build 23 zT [(0, 1, (kI 1))]), lN 24 22, g0 (.bsl 25 6 true [(.c (.agg zT))]), g0 (.app 26 (.t 22) (.t 25) 6), nC 27 19, fA 28 27 6, g0 (.store (.t 28) (.t 26) 1 none)])
  (.ops [iX 29 26 24, g0 (.store (.t 29) (.t 23) 6 none)]))
  (.ops [g0 (.load 30 (.t 1) none none true), lO 31 1, nC 32 31, fA 33 32 6, lO 34 33, g0 (.build 35 zT [(0, 1, (kI 1))]), g0 (.bsl 36 6 true [(.t 35)]), g0 (.app 37 (.t 34) (.t 36) 6), nC 38 30, fA 39 38 6, g0 (.store (.t 39) (.t 37) 1 none)]))
  (.skip)))
  (.seq (.ops [lO 40 1, lF 41 4 4, cA 42 120 [(.t 40), (.t 41)], sT 5 42 6 5])
  (.ret)))),
  [.cell 5 (some 6) (some 5)]⟩
def L280_0 : Ic := .seq (.seq (.ops [mV 23 5, mV 24 3, bT 25 .lss 23 24])
  (.cond (.t 25) (.skip)
  (.exit 0)))
  (.seq (.block 1 (.seq (.ops [fA 28 1 3, lA 29 28 1, mV 30 5, iX 31 29 30, fA 32 31 0, lO 33 32, bK 34 .neq 33 29])
  (.cond (.t 34) (.seq (.ops [g0 (.mv 2 (.c (.bool false)))])
  (.ret))
  (.skip))))
  (.ops [mV 26 5, bK 27 .add 26 1, mV 5 27]))
/-- notary/notaryref16.Shape -/
def F280 : IFunc := ⟨.pure, .seq (.ops [bF 1 0, g0 (.mv 2 (.c (.bool false)))])
  (.seq (.seq (.ops [fA 6 1 0, lA 7 6 1, bK 8 .eql 7 29])
  (.cond (.t 8) (.seq (.ops [g0 (.mv 2 (.c (.bool true)))])
  (.ret))
  (.skip)))
  (.seq (.ops [fA 10 1 0, lA 11 10 1, cA 12 296 [(.t 11)], mV 9 12, eX 13 9 0, eX 14 9 1, mV 3 13, mV 4 14])
  (.seq (.seq (.ops [fA 15 1 3, lA 16 15 1, lN 17 16, mV 18 3, bT 19 .neq 17 18])
  (.cond (.t 19) (.seq (.ops [g0 (.mv 2 (.c (.bool false)))])
  (.ret))
  (.skip)))
  (.seq (.seq (.ops [mV 20 3, mV 21 4, bT 22 .sub 20 21, mV 5 22])
  (.block 0 (.loop L280_0)))
  (.seq (.ops [g0 (.mv 2 (.c (.bool true)))])
  (.ret)))))),
  [.t 2]⟩
/-- notary/notaryref16.Part -/
def F281 : IFunc := ⟨.pure, .seq (.ops [bF 5 0, bF 7 2, bF 8 3, g0 (.boxL 10 8 none [(.int .i64 0), (.int .i64 0), (.str []), .nils, (.int .i64 0), (.int .i64 0), (.int .i64 0), (.int .i64 0)])])
  (.seq (.ops [fA 15 8 3, lA 16 15 8, mV 17 4, iX 18 16 17, lP 19 18, bZ 11, sT 11 19 6 11])
  (.seq (.ops [fA 21 8 0, lA 22 21 8, cA 23 296 [(.t 22)], mV 20 23, eX 24 20 0, eX 25 20 1, mV 12 24, mV 13 25])
  (.seq (.seq (.ops [mV 26 4, mV 27 12, mV 28 13, bT 29 .sub 27 28, bT 30 .geq 26 29])
  (.cond (.t 30) (.seq (.seq (.ops [fA 31 8 0, lA 32 31 8, bK 33 .eql 32 25])
  (.cond (.t 33) (.ops [g0 (.bsl 34 6 true []), mV 35 1, g0 (.app 36 (.t 34) (.t 35) 6), g0 (.build 37 zT [(0, 1, (kI 1))]), g0 (.bsl 38 6 true [(.t 37)]), g0 (.app 39 (.t 36) (.t 38) 6), mV 1 39])
  (.skip)))
  (.seq (.ops [lF 40 5 5, mV 41 1, lF 42 7 7, lF 43 11 11, cA 44 195 [(.t 40), (.t 41), (.t 42), (.t 43)], sT 10 44 8 10])
  (.ret)))
  (.skip)))
  (.seq (.seq (.ops [fA 45 8 0, lA 46 45 8, bK 47 .eql 46 21])
  (.cond (.t 47) (.seq (.seq (.ops [lF 48 5 5, lF 49 11 11, cA 50 60 [(.t 48), (.t 49)], bK 51 .eql 50 0])
  (.cond (.t 51) (.seq (.ops [lF 52 11 11, cA 53 137 [(.t 52), (kI 11)], sT 10 53 8 10])
  (.ret))
  (.skip)))
  (.seq (.ops [lF 54 11 11, cA 55 139 [(.t 54)], g0 (.build 56 [(.int .i64 0), (.int .i64 0), (.str []), .nils, (.int .i64 0), (.int .i64 0), (.int .i64 0), (.int .i64 0)] [(0, 6, (.t 55))]), sT 10 56 8 10])
  (.ret)))
  (.skip)))
  (.seq (.seq (.ops [fA 57 8 0, lA 58 57 8, bK 59 .eql 58 23, mV 60 59, g1 60 false (.fldA 61 (.t 8) 0 none), g1 60 false (.load 62 (.t 61) none (some 8) false), g1 60 false (.bin 63 .eql (.t 62) (kI 24)), pO 64 60 63])
  (.cond (.t 64) (.seq (.ops [lF 65 5 5, mV 66 1, lF 67 11 11, cA 68 297 [(.t 65), (.t 66), (.t 67), (kI 2), (kI 2)], sT 10 68 8 10])
  (.ret))
  (.skip)))
  (.seq (.seq (.ops [fA 69 8 0, lA 70 69 8, bK 71 .eql 70 25])
  (.cond (.t 71) (.seq (.ops [lF 72 5 5, mV 73 1, lF 74 11 11, cA 75 297 [(.t 72), (.t 73), (.t 74), (kI 1), (kI 1)], sT 10 75 8 10])
  (.ret))
  (.skip)))
  (.seq (.seq (.ops [fA 76 8 0, lA 77 76 8, bK 78 .eql 77 26])
  (.cond (.t 78) (.seq (.ops [lF 79 5 5, mV 80 1, lF 81 11 11, cA 82 297 [(.t 79), (.t 80), (.t 81), (kI 1), (kI 2)], sT 10 82 8 10])
  (.ret))
  (.skip)))
  (.seq (.seq (.ops [fA 83 8 0, lA 84 83 8, bK 85 .eql 84 28, mV 86 85, g1 86 true (.fldA 87 (.t 11) 0 none), g1 86 true (.load 88 (.t 87) none (some 11) false), g1 86 true (.bin 89 .neq (.t 88) (kI 16)), pA 90 86 89])
  (.cond (.t 90) (.seq (.ops [lF 91 11 11, cA 92 137 [(.t 91), (kI 12)], sT 10 92 8 10])
  (.ret))
  (.skip)))
  (.seq (.ops [lF 93 5 5, mV 94 1, lF 95 11 11, cA 96 65 [(.t 93), (.t 94), (.t 95)], g0 (.boxL 14 14 none [(.int .i64 0), (.int .i64 0), (.str []), .nils, (.int .i64 0), (.int .i64 0), (.int .i64 0), (.int .i64 0), (.str []), .nils, (.int .i64 0), (.int .i64 0), (.int .i64 0), (.int .i64 0)]), sT 14 96 14 14])
  (.seq (.seq (.ops [fA 97 8 0, lA 98 97 8, bK 99 .eql 98 27, mV 100 99, g1 100 true (.fldA 101 (.t 14) 13 none), g1 100 true (.load 102 (.t 101) none (some 14) false), g1 100 true (.bin 103 .eql (.t 102) (kI 0)), pA 104 100 103, mV 105 104, g1 105 true (.fldA 106 (.t 14) 0 (some 6)), g1 105 true (.load 107 (.t 106) (some 6) (some 14) false), g1 105 true (.load 108 (.t 7) (some 6) (some 7) false), g1 105 true (.call (some 109) 160 [(.t 108)]), g1 105 true (.call (some 110) 74 [(.t 107), (.t 109)]), g1 105 true (.un 111 .not (.t 110)), pA 112 105 111])
  (.cond (.t 112) (.seq (.ops [lF 113 11 11, cA 114 137 [(.t 113), (kI 10)], sT 10 114 8 10])
  (.ret))
  (.skip)))
  (.seq (.ops [g0 (.load 115 (.t 14) (some 14) (some 14) false), cA 116 298 [(.t 115)], sT 10 116 8 10])
  (.ret)))))))))))),
  [.cell 10 (some 8) (some 10)]⟩

theorem L204_0_w : L204_0.wr = [80, 81, 82, 10, 83, 84, 85, 86, 87, 88, 89, 90, 91, 92, 7, 93, 79] := by kernel_rfl
theorem L204_0_p : L204_0.plain = true := by kernel_rfl
theorem L209_0_w : L209_0.wr = [55, 56, 57, 58, 14, 13, 59, 60, 61, 62, 63, 64, 65, 66, 67, 68, 69, 70, 71, 72, 73, 74, 75, 76, 77, 6, 8, 78, 54] := by kernel_rfl
theorem L209_0_p : L209_0.plain = true := by kernel_rfl
theorem L210_0_w : L210_0.wr = [12, 13, 14, 7, 15, 16, 17, 18, 19, 20, 21, 5, 22, 11] := by kernel_rfl
theorem L210_0_p : L210_0.plain = true := by kernel_rfl
theorem L211_0_w : L211_0.wr = [15, 16, 17, 18, 6, 5, 19, 20, 21, 22, 23, 24, 25, 26, 27, 28, 29, 30, 31, 32, 33, 34, 35, 4, 36, 14] := by kernel_rfl
theorem L211_0_p : L211_0.plain = true := by kernel_rfl
theorem L212_0_w : L212_0.wr = [26, 27, 28, 29, 5, 4, 30, 31, 32, 33, 34, 35, 36, 25] := by kernel_rfl
theorem L212_0_p : L212_0.plain = true := by kernel_rfl
theorem L218_0_w : L218_0.wr = [3, 4, 5, 6, 7, 8, 9, 10, 11, 12, 13, 14, 15, 16, 17, 18, 19, 20, 21, 2, 23, 24, 25, 26, 27, 28, 29, 30, 31, 32, 33, 34, 35, 36, 22, 37, 38, 39, 40, 41, 42, 43, 45, 46, 47, 48, 49, 50, 51, 44, 52, 53, 54, 55] := by kernel_rfl
theorem L218_0_p : L218_0.plain = true := by kernel_rfl
theorem L226_0_w : L226_0.wr = [16, 17, 18, 19, 7, 6, 20, 21, 22, 23, 24, 25, 26, 27, 28, 29, 30, 31, 32, 15] := by kernel_rfl
theorem L226_0_p : L226_0.plain = true := by kernel_rfl
theorem L231_0_w : L231_0.wr = [38, 39, 40, 6, 41, 42, 43, 2, 44, 37] := by kernel_rfl
theorem L231_0_p : L231_0.plain = true := by kernel_rfl
theorem L234_0_w : L234_0.wr = [26, 27, 28, 10, 29, 30, 31, 32, 33, 34, 35, 36, 37, 38, 39, 40, 25] := by kernel_rfl
theorem L234_0_p : L234_0.plain = true := by kernel_rfl
theorem L241_0_w : L241_0.wr = [7, 8, 9, 10, 11, 14, 15, 16, 17, 18, 19, 20, 2, 12, 13, 3] := by kernel_rfl
theorem L241_0_p : L241_0.plain = true := by kernel_rfl
theorem L242_0_w : L242_0.wr = [32, 33, 34, 35, 36, 39, 40, 41, 42, 43, 44, 11, 45, 46, 47, 48, 49, 50, 51, 52, 53, 54, 55, 37, 38, 10] := by kernel_rfl
theorem L242_0_p : L242_0.plain = true := by kernel_rfl
theorem L250_0_w : L250_0.wr = [10, 11, 12, 13, 14, 15, 16, 17, 18, 19, 20, 21, 22, 23, 24, 25, 26, 27, 28, 29, 30, 31, 32, 33, 34, 35, 36, 37, 38, 39] := by kernel_rfl
theorem L250_0_p : L250_0.plain = true := by kernel_rfl
theorem L255_0_w : L255_0.wr = [31, 32, 6, 33, 34, 35, 36, 37, 38, 39, 40, 5, 41, 30] := by kernel_rfl
theorem L255_0_p : L255_0.plain = true := by kernel_rfl
theorem L259_0_w : L259_0.wr = [11, 12, 13, 14, 15, 16, 17, 18, 19, 20, 21, 22, 23, 24, 7] := by kernel_rfl
theorem L259_0_p : L259_0.plain = true := by kernel_rfl
theorem L271_0_w : L271_0.wr = [20, 21, 24, 25, 26, 27, 28, 29, 30, 31, 32, 33, 34, 35, 36, 37, 38, 39, 40, 41, 42, 43, 44, 22, 23, 6] := by kernel_rfl
theorem L271_0_p : L271_0.plain = true := by kernel_rfl
theorem L272_0_w : L272_0.wr = [26, 27, 28, 11, 29, 30, 31, 32, 33, 34, 35, 36, 37, 38, 39, 40, 41, 6, 7, 42, 25] := by kernel_rfl
theorem L272_0_p : L272_0.plain = true := by kernel_rfl
theorem L274_0_w : L274_0.wr = [3, 4, 5, 6, 7, 8, 9, 10, 11, 12, 13, 14, 15, 16, 17, 18, 19, 20] := by kernel_rfl
theorem L274_0_p : L274_0.plain = true := by kernel_rfl
theorem L280_0_w : L280_0.wr = [23, 24, 25, 28, 29, 30, 31, 32, 33, 34, 2, 26, 27, 5] := by kernel_rfl
theorem L280_0_p : L280_0.plain = true := by kernel_rfl

end Go.Nt.Ty

/-
  THE FUNCTIONS OF THE SEAT as the abstract machine reads them (printed by a program of ours), and that they are the program's ('ok': FuncOK, by the kernel).
  No condition.
-/
namespace Go.Nt.Ty
open Go Go.Nt

/-- notary/notaryref14.Root -/
def F282 : IFunc := ⟨.pure, .seq (.ops [bF 1 0, bZ 2])
  (.seq (.seq (.ops [fA 3 1 0, lA 4 3 1, bK 5 .eql 4 12, mV 6 5, g1 6 false (.fldA 7 (.t 1) 0 none), g1 6 false (.load 8 (.t 7) none (some 1) false), g1 6 false (.bin 9 .eql (.t 8) (kI 13)), pO 10 6 9, mV 11 10, g1 11 true (.fldA 12 (.t 1) 3 none), g1 11 true (.load 13 (.t 12) none (some 1) false), g1 11 true (.len 14 .slice (.t 13) false), g1 11 true (.bin 15 .gtr (.t 14) (kI 0)), pA 16 11 15])
  (.cond (.t 16) (.seq (.ops [fA 17 1 3, lA 18 17 1, g0 (.idxA 19 (.t 18) (kI 0) 6 (some 6) none), lP 20 19, cA 21 282 [(.t 20)], sT 2 21 6 2])
  (.ret))
  (.skip)))
  (.seq (.ops [lF 22 1 1, sT 2 22 6 2])
  (.ret))),
  [.cell 2 (some 6) (some 2)]⟩
/-- (*notary/lex.reader).isMore -/
def F283 : IFunc := ⟨.raw, .seq (.ops [g0 (.mv 4 (.c (.bool false)))])
  (.seq (.ops [mV 5 0, mV 6 1, cA 7 252 [(.t 5), (.t 6)], mV 8 7, g1 8 false (.mv 9 (.t 0)), g1 8 false (.mv 10 (.t 1)), g1 8 false (.call (some 11) 254 [(.t 9), (.t 10)]), pO 12 8 11, mV 4 12])
  (.ret)),
  [.t 4]⟩
/-- notary/lex.isWord -/
def F284 : IFunc := ⟨.pure, .seq (.ops [g0 (.mv 2 (.c (.bool false)))])
  (.seq (.seq (.ops [mV 3 0])
  (.block 0 (.seq (.seq (.ops [g0 (.bin 5 .eql (.t 3) (.c (.str [114, 101, 99]))), mV 4 5])
  (.cond (.t 4) (.skip)
  (.seq (.ops [g0 (.bin 6 .eql (.t 3) (.c (.str [99, 111, 110, 115, 116]))), mV 4 6])
  (.cond (.t 4) (.skip)
  (.seq (.ops [g0 (.bin 7 .eql (.t 3) (.c (.str [118, 97, 114]))), mV 4 7])
  (.cond (.t 4) (.skip)
  (.seq (.ops [g0 (.bin 8 .eql (.t 3) (.c (.str [112, 117, 98]))), mV 4 8])
  (.cond (.t 4) (.skip)
  (.seq (.ops [g0 (.bin 9 .eql (.t 3) (.c (.str [102, 110]))), mV 4 9])
  (.cond (.t 4) (.skip)
  (.seq (.ops [g0 (.bin 10 .eql (.t 3) (.c (.str [105, 110, 116]))), mV 4 10])
  (.cond (.t 4) (.skip)
  (.seq (.ops [g0 (.bin 11 .eql (.t 3) (.c (.str [98, 111, 111, 108]))), mV 4 11])
  (.cond (.t 4) (.skip)
  (.seq (.ops [g0 (.bin 12 .eql (.t 3) (.c (.str [108, 101, 116]))), mV 4 12])
  (.cond (.t 4) (.skip)
  (.seq (.ops [g0 (.bin 13 .eql (.t 3) (.c (.str [105, 102]))), mV 4 13])
  (.cond (.t 4) (.skip)
  (.seq (.ops [g0 (.bin 14 .eql (.t 3) (.c (.str [101, 108, 115, 101]))), mV 4 14])
  (.cond (.t 4) (.skip)
  (.seq (.ops [g0 (.bin 15 .eql (.t 3) (.c (.str [119, 104, 105, 108, 101]))), mV 4 15])
  (.cond (.t 4) (.skip)
  (.seq (.ops [g0 (.bin 16 .eql (.t 3) (.c (.str [102, 111, 114]))), mV 4 16])
  (.cond (.t 4) (.skip)
  (.seq (.ops [g0 (.bin 17 .eql (.t 3) (.c (.str [116, 111]))), mV 4 17])
  (.cond (.t 4) (.skip)
  (.seq (.ops [g0 (.bin 18 .eql (.t 3) (.c (.str [112, 114, 105, 110, 116]))), mV 4 18])
  (.cond (.t 4) (.skip)
  (.seq (.ops [g0 (.bin 19 .eql (.t 3) (.c (.str [114, 101, 116, 117, 114, 110]))), mV 4 19])
  (.cond (.t 4) (.skip)
  (.seq (.ops [g0 (.bin 20 .eql (.t 3) (.c (.str [100, 111]))), mV 4 20])
  (.cond (.t 4) (.skip)
  (.seq (.ops [g0 (.bin 21 .eql (.t 3) (.c (.str [116, 114, 117, 101]))), mV 4 21])
  (.cond (.t 4) (.skip)
  (.seq (.ops [g0 (.bin 22 .eql (.t 3) (.c (.str [102, 97, 108, 115, 101]))), mV 4 22])
  (.cond (.t 4) (.skip)
  (.seq (.ops [g0 (.bin 23 .eql (.t 3) (.c (.str [114, 101, 97, 100]))), mV 4 23])
  (.cond (.t 4) (.skip)
  (.ops [g0 (.bin 24 .eql (.t 3) (.c (.str [110, 101, 119]))), mV 4 24])))))))))))))))))))))))))))))))))))))))
  (.cond (.t 4) (.seq (.ops [g0 (.mv 2 (.c (.bool true)))])
  (.ret))
  (.skip)))))
  (.seq (.ops [g0 (.mv 2 (.c (.bool false)))])
  (.ret))),
  [.t 2]⟩
/-- (*notary/unit.reader).part -/
def F285 : IFunc := ⟨.fre, .seq (.ops [bZ 2])
  (.seq (.ops [mV 6 0, nC 7 6, fA 8 7 1, lO 9 8, mV 3 9])
  (.seq (.ops [mV 10 0, cA 11 257 [(.t 10)], mV 4 11])
  (.seq (.ops [mV 12 0, g0 (.call (some 13) 258 [(.t 12), (kI 4), (.c (.str [58]))])])
  (.seq (.ops [mV 14 0, cA 15 264 [(.t 14), (.f 265)], bZ 5, sT 5 15 6 5])
  (.seq (.ops [mV 16 0, mV 17 4, mV 18 3, lF 19 5 5, g0 (.bsl 20 6 true [(.t 19)]), cA 21 262 [(.t 16), (kI 34), (kI 0), (.t 17), (.t 18), (.t 20)], sT 2 21 6 2])
  (.ret)))))),
  [.cell 2 (some 6) (some 2)]⟩
/-- notary/expr.Parse -/
def F286 : IFunc := ⟨.pure, .seq (.ops [bZ 4, mK 5 0, mK 6 0])
  (.seq (.ops [mV 7 0, mV 8 1, cA 9 287 [(.t 7), (.t 8), (.f 299)], eX 10 9 0, eX 11 9 1, eX 12 9 2, sT 4 10 6 4, mV 5 11, mV 6 12])
  (.ret)),
  [.cell 4 (some 6) (some 4), .t 5, .t 6]⟩
/-- notary/expr.start -/
def F287 : IFunc := ⟨.pure, .seq (.ops [bZ 6, mK 7 0, mK 8 0])
  (.seq (.seq (.ops [mV 11 1, bK 12 .lss 11 0, mV 13 12, g1 13 false (.mv 14 (.t 1)), g1 13 false (.mv 15 (.t 0)), g1 13 false (.len 16 .slice (.t 15) false), g1 13 false (.bin 17 .gtr (.t 14) (.t 16)), pO 18 13 17])
  (.cond (.t 18) (.seq (.ops [g0 (.build 19 zT []), sT 6 19 6 6, mK 7 0, mK 8 13])
  (.ret))
  (.skip)))
  (.seq (.ops [mV 20 0, mV 21 1, g0 (.build 22 [.nils, (.int .i64 0), (.int .i64 0)] [(0, 1, (.t 20)), (1, 1, (.t 21))]), g0 (.boxH 23 (some 3) (.t 22)), mV 9 23])
  (.seq (.ops [mV 24 2, mV 25 9, g0 (.callV (some 26) (.t 24) [(.t 25)]), bZ 10, sT 10 26 6 10])
  (.seq (.seq (.ops [mV 27 9, nC 28 27, fA 29 28 2, lO 30 29, bK 31 .neq 30 0])
  (.cond (.t 31) (.seq (.ops [g0 (.build 32 zT []), mV 33 9, nC 34 33, fA 35 34 1, lO 36 35, mV 37 9, nC 38 37, fA 39 38 2, lO 40 39, sT 6 32 6 6, mV 7 36, mV 8 40])
  (.ret))
  (.skip)))
  (.seq (.ops [lF 41 10 10, mV 42 9, nC 43 42, fA 44 43 1, lO 45 44, sT 6 41 6 6, mV 7 45, mK 8 0])
  (.ret)))))),
  [.cell 6 (some 6) (some 6), .t 7, .t 8]⟩
/-- (*notary/expr.parser).kind -/
def F288 : IFunc := ⟨.fre, .seq (.ops [bZ 2])
  (.seq (.seq (.ops [mV 7 0, nC 8 7, fA 9 8 2, lO 10 9, bK 11 .neq 10 0])
  (.cond (.t 11) (.seq (.ops [g0 (.build 12 zT []), sT 2 12 6 2])
  (.ret))
  (.skip)))
  (.seq (.ops [mV 13 0, nC 14 13, fA 15 14 1, lO 16 15, mV 17 0, g0 (.callR (some 18) 300 [(.t 17)]), g0 (.boxL 4 5 none [(.int .i64 0), (.int .i64 0), (.str []), (.int .i64 0), (.int .i64 0)]), mV 3 16, sT 4 18 5 4])
  (.seq (.block 0 (.seq (.ops [fA 20 4 0, lA 21 20 4, bK 22 .eql 21 3, mV 23 22, g1 23 true (.fldA 24 (.t 4) 2 none), g1 23 true (.load 25 (.t 24) none (some 4) false), g1 23 true (.bin 26 .eql (.t 25) (.c (.str [105, 110, 116]))), pA 27 23 26, mV 19 27])
  (.cond (.t 19) (.seq (.ops [mV 28 0, nC 29 28, fA 30 29 1, lO 31 30, bK 32 .add 31 1, nC 33 28, fA 34 33 1, g0 (.store (.t 34) (.t 32) 1 none)])
  (.seq (.ops [mV 35 0, g0 (.build 36 zT [(0, 1, (kI 1))]), mV 37 3, cA 38 301 [(.t 35), (.t 36), (.t 37)], sT 2 38 6 2])
  (.ret)))
  (.seq (.ops [fA 40 4 0, lA 41 40 4, bK 42 .eql 41 3, mV 43 42, g1 43 true (.fldA 44 (.t 4) 2 none), g1 43 true (.load 45 (.t 44) none (some 4) false), g1 43 true (.bin 46 .eql (.t 45) (.c (.str [98, 111, 111, 108]))), pA 47 43 46, mV 39 47])
  (.cond (.t 39) (.seq (.ops [mV 48 0, nC 49 48, fA 50 49 1, lO 51 50, bK 52 .add 51 1, nC 53 48, fA 54 53 1, g0 (.store (.t 54) (.t 52) 1 none)])
  (.seq (.ops [mV 55 0, g0 (.build 56 zT [(0, 1, (kI 2))]), mV 57 3, cA 58 301 [(.t 55), (.t 56), (.t 57)], sT 2 58 6 2])
  (.ret)))
  (.seq (.ops [fA 60 4 0, lA 61 60 4, bK 62 .eql 61 1, mV 59 62])
  (.cond (.t 59) (.seq (.ops [mV 63 0, nC 64 63, fA 65 64 1, lO 66 65, bK 67 .add 66 1, nC 68 63, fA 69 68 1, g0 (.store (.t 69) (.t 67) 1 none)])
  (.seq (.ops [mV 70 0, fA 71 4 2, lA 72 71 4, g0 (.build 73 zT [(0, 1, (kI 4)), (2, 1, (.t 72))]), mV 74 3, cA 75 301 [(.t 70), (.t 73), (.t 74)], sT 2 75 6 2])
  (.ret)))
  (.seq (.ops [mV 77 0, g0 (.callR (some 78) 302 [(.t 77), (.c (.str [91]))]), mV 76 78])
  (.cond (.t 76) (.seq (.ops [mV 79 0, nC 80 79, fA 81 80 1, lO 82 81, bK 83 .add 82 1, nC 84 79, fA 85 84 1, g0 (.store (.t 85) (.t 83) 1 none)])
  (.seq (.ops [mV 86 0, g0 (.callR (some 87) 300 [(.t 86)]), g0 (.boxL 5 5 none [(.int .i64 0), (.int .i64 0), (.str []), (.int .i64 0), (.int .i64 0)]), sT 5 87 5 5])
  (.seq (.seq (.ops [fA 88 5 0, lA 89 88 5, bK 90 .neq 89 2])
  (.cond (.t 90) (.seq (.ops [mV 91 0, cA 92 303 [(.t 91)]])
  (.seq (.ops [g0 (.build 93 zT []), sT 2 93 6 2])
  (.ret)))
  (.skip)))
  (.seq (.ops [mV 94 0, nC 95 94, fA 96 95 1, lO 97 96, bK 98 .add 97 1, nC 99 94, fA 100 99 1, g0 (.store (.t 100) (.t 98) 1 none)])
  (.seq (.ops [mV 101 0, g0 (.call (some 102) 304 [(.t 101), (.c (.str [93]))])])
  (.seq (.ops [mV 103 0, cA 104 288 [(.t 103)], bZ 6, sT 6 104 6 6])
  (.seq (.ops [mV 105 0, fA 106 5 1, lA 107 106 5, lF 108 6 6, g0 (.bsl 109 6 true [(.t 108)]), g0 (.build 110 zT [(0, 1, (kI 3)), (1, 1, (.t 107)), (3, 1, (.t 109))]), mV 111 3, cA 112 301 [(.t 105), (.t 110), (.t 111)], sT 2 112 6 2])
  (.ret))))))))
  (.skip))))))))))
  (.seq (.ops [mV 113 0, cA 114 303 [(.t 113)]])
  (.seq (.ops [g0 (.build 115 zT []), sT 2 115 6 2])
  (.ret)))))),
  [.cell 2 (some 6) (some 2)]⟩
/-- (*notary/unit.reader).comma -/
def F289 : IFunc := ⟨.fre, .seq (.ops [g0 (.mv 2 (.c (.bool false)))])
  (.seq (.ops [mV 3 0, g0 (.call (some 4) 266 [(.t 3), (kI 4), (.c (.str [44]))]), mV 2 4])
  (.ret)),
  [.t 2]⟩
/-- notary/stmt.start -/
def F290 : IFunc := ⟨.pure, .seq (.ops [bZ 6, mK 7 0, mK 8 0])
  (.seq (.seq (.ops [mV 11 1, bK 12 .lss 11 0, mV 13 12, g1 13 false (.mv 14 (.t 1)), g1 13 false (.mv 15 (.t 0)), g1 13 false (.len 16 .slice (.t 15) false), g1 13 false (.bin 17 .gtr (.t 14) (.t 16)), pO 18 13 17])
  (.cond (.t 18) (.seq (.ops [g0 (.build 19 zT []), sT 6 19 6 6, mK 7 0, mK 8 13])
  (.ret))
  (.skip)))
  (.seq (.ops [mV 20 0, mV 21 1, g0 (.build 22 [.nils, (.int .i64 0), (.int .i64 0)] [(0, 1, (.t 20)), (1, 1, (.t 21))]), g0 (.boxH 23 (some 3) (.t 22)), mV 9 23])
  (.seq (.ops [mV 24 2, mV 25 9, g0 (.callV (some 26) (.t 24) [(.t 25)]), bZ 10, sT 10 26 6 10])
  (.seq (.seq (.ops [mV 27 9, nC 28 27, fA 29 28 2, lO 30 29, bK 31 .neq 30 0])
  (.cond (.t 31) (.seq (.ops [g0 (.build 32 zT []), mV 33 9, nC 34 33, fA 35 34 1, lO 36 35, mV 37 9, nC 38 37, fA 39 38 2, lO 40 39, sT 6 32 6 6, mV 7 36, mV 8 40])
  (.ret))
  (.skip)))
  (.seq (.ops [lF 41 10 10, mV 42 9, nC 43 42, fA 44 43 1, lO 45 44, sT 6 41 6 6, mV 7 45, mK 8 0])
  (.ret)))))),
  [.cell 6 (some 6) (some 6), .t 7, .t 8]⟩
def L291_0 : Ic := .seq (.seq (.ops [mV 11 0, nC 12 11, fA 13 12 2, lO 14 13, bK 15 .eql 14 0, mV 16 15, g1 16 true (.mv 17 (.t 0)), g1 16 true (.callR (some 18) 306 [(.t 17), (kI 4), (.c (.str [125]))]), g1 16 true (.un 19 .not (.t 18)), pA 20 16 19])
  (.cond (.t 20) (.skip)
  (.exit 0)))
  (.block 1 (.ops [mV 21 4, mV 22 0, cA 23 307 [(.t 22)], g0 (.bsl 24 6 true [(.t 23)]), g0 (.app 25 (.t 21) (.t 24) 6), mV 4 25]))
/-- (*notary/stmt.reader).block -/
def F291 : IFunc := ⟨.fre, .seq (.ops [bZ 2])
  (.seq (.ops [mV 5 0, nC 6 5, fA 7 6 1, lO 8 7, mV 3 8])
  (.seq (.ops [mV 9 0, g0 (.call (some 10) 305 [(.t 9), (kI 4), (.c (.str [123]))])])
  (.seq (.ops [g0 (.mv 4 (.c .nils))])
  (.seq (.block 0 (.loop L291_0))
  (.seq (.ops [mV 26 0, g0 (.call (some 27) 305 [(.t 26), (kI 4), (.c (.str [125]))])])
  (.seq (.ops [mV 28 0, mV 29 3, mV 30 4, g0 (.call (some 31) 308 [(.t 28), (kI 29), (.c (.str [])), (.t 29), (.t 30)]), sT 2 31 6 2])
  (.ret))))))),
  [.cell 2 (some 6) (some 2)]⟩
/-- (*notary/scope.scope).nested -/
def F292 : IFunc := ⟨.fre, .seq (.ops [g0 (.boxI 2 none (.t 0)), g0 (.boxH 3 (some 6) (.t 1)), bZ 4])
  (.seq (.ops [fA 7 3 2, lO 8 7, g0 (.boxH 5 none (.c (.str []))), g0 (.store (.t 5) (.t 8) 1 none)])
  (.seq (.ops [lO 9 2, nC 10 9, fA 11 10 7, lO 12 11, lN 13 12, mV 6 13])
  (.seq (.ops [fA 14 3 2, g0 (.store (.t 14) (.c (.str [])) 1 none)])
  (.seq (.ops [lO 15 2, fA 16 3 3, lO 17 16, g0 (.mkfn 18 309 [] [(.t 2), (.t 3), (.t 5)]), cA 19 172 [(.t 15), (.t 17), (.t 18)], fA 20 3 3, g0 (.store (.t 20) (.t 19) 1 none)])
  (.seq (.ops [lO 21 2, lO 22 2, nC 23 22, fA 24 23 7, lO 25 24, mV 26 6, g0 (.slc 27 (some 1) (.t 25) none (some (.t 26)) none), nC 28 21, fA 29 28 7, g0 (.store (.t 29) (.t 27) 1 none)])
  (.seq (.ops [lP 30 3, sT 4 30 6 4])
  (.ret))))))),
  [.cell 4 (some 6) (some 4)]⟩
/-- notary/notaryref16.Parts -/
def F296 : IFunc := ⟨.pure, .seq (.ops [mK 2 0, mK 3 0])
  (.seq (.seq (.ops [mV 4 0, bK 5 .eql 4 20, mV 6 5, g1 6 false (.mv 7 (.t 0)), g1 6 false (.bin 8 .eql (.t 7) (kI 21)), pO 9 6 8, mV 10 9, g1 10 false (.mv 11 (.t 0)), g1 10 false (.bin 12 .eql (.t 11) (kI 26)), pO 13 10 12, mV 14 13, g1 14 false (.mv 15 (.t 0)), g1 14 false (.bin 16 .eql (.t 15) (kI 27)), pO 17 14 16, mV 18 17, g1 18 false (.mv 19 (.t 0)), g1 18 false (.bin 20 .eql (.t 19) (kI 28)), pO 21 18 20])
  (.cond (.t 21) (.seq (.ops [mK 2 1, mK 3 0])
  (.ret))
  (.skip)))
  (.seq (.seq (.ops [mV 22 0, bK 23 .eql 22 22])
  (.cond (.t 23) (.seq (.ops [mK 2 2, mK 3 0])
  (.ret))
  (.skip)))
  (.seq (.seq (.ops [mV 24 0, bK 25 .eql 24 23])
  (.cond (.t 25) (.seq (.ops [mK 2 3, mK 3 2])
  (.ret))
  (.skip)))
  (.seq (.seq (.ops [mV 26 0, bK 27 .eql 26 24])
  (.cond (.t 27) (.seq (.ops [mK 2 2, mK 3 1])
  (.ret))
  (.skip)))
  (.seq (.seq (.ops [mV 28 0, bK 29 .eql 28 25])
  (.cond (.t 29) (.seq (.ops [mK 2 3, mK 3 1])
  (.ret))
  (.skip)))
  (.seq (.ops [g0 (.mv 2 (.c (.int .i64 (-1)))), mK 3 0])
  (.ret))))))),
  [.t 2, .t 3]⟩
/-- notary/notaryref16.Only -/
def F297 : IFunc := ⟨.pure, .seq (.ops [bF 5 0, bF 7 2, g0 (.boxL 10 8 none [(.int .i64 0), (.int .i64 0), (.str []), .nils, (.int .i64 0), (.int .i64 0), (.int .i64 0), (.int .i64 0)])])
  (.seq (.ops [lF 12 5 5, mV 13 1, lF 14 7 7, cA 15 65 [(.t 12), (.t 13), (.t 14)], g0 (.boxL 11 14 none [(.int .i64 0), (.int .i64 0), (.str []), .nils, (.int .i64 0), (.int .i64 0), (.int .i64 0), (.int .i64 0), (.str []), .nils, (.int .i64 0), (.int .i64 0), (.int .i64 0), (.int .i64 0)]), sT 11 15 14 11])
  (.seq (.seq (.ops [fA 16 11 13, lA 17 16 11, bK 18 .eql 17 0, mV 19 18, g1 19 true (.fldA 20 (.t 11) 0 (some 6)), g1 19 true (.load 21 (.t 20) (some 6) (some 11) false), g1 19 true (.mv 22 (.t 3)), g1 19 true (.call (some 23) 163 [(.t 21), (.t 22)]), g1 19 true (.un 24 .not (.t 23)), pA 25 19 24, mV 26 25, g1 26 true (.fldA 27 (.t 11) 0 (some 6)), g1 26 true (.load 28 (.t 27) (some 6) (some 11) false), g1 26 true (.mv 29 (.t 4)), g1 26 true (.call (some 30) 163 [(.t 28), (.t 29)]), g1 26 true (.un 31 .not (.t 30)), pA 32 26 31])
  (.cond (.t 32) (.seq (.ops [lF 33 7 7, cA 34 137 [(.t 33), (kI 10)], sT 10 34 8 10])
  (.ret))
  (.skip)))
  (.seq (.ops [g0 (.load 35 (.t 11) (some 14) (some 11) false), cA 36 298 [(.t 35)], sT 10 36 8 10])
  (.ret)))),
  [.cell 10 (some 8) (some 10)]⟩
/-- notary/notaryref16.From -/
def F298 : IFunc := ⟨.pure, .seq (.ops [g0 (.boxL 1 14 (some (.t 0)) []), g0 (.boxL 2 8 none [(.int .i64 0), (.int .i64 0), (.str []), .nils, (.int .i64 0), (.int .i64 0), (.int .i64 0), (.int .i64 0)])])
  (.seq (.ops [g0 (.fldA 3 (.t 1) 6 (some 6)), lF 4 3 1, fA 5 1 12, lA 6 5 1, fA 7 1 13, lA 8 7 1, g0 (.build 9 [(.int .i64 0), (.int .i64 0), (.str []), .nils, (.int .i64 0), (.int .i64 0), (.int .i64 0), (.int .i64 0)] [(0, 6, (.t 4)), (6, 1, (.t 6)), (7, 1, (.t 8))]), sT 2 9 8 2])
  (.ret)),
  [.cell 2 (some 8) (some 2)]⟩
/-- (*notary/expr.parser).expr -/
def F299 : IFunc := ⟨.fre, .seq (.ops [bZ 2])
  (.seq (.ops [mV 3 0, cA 4 312 [(.t 3), (kI 1)], sT 2 4 6 2])
  (.ret)),
  [.cell 2 (some 6) (some 2)]⟩
/-- (*notary/expr.parser).now -/
def F300 : IFunc := ⟨.pop, .seq (.ops [g0 (.boxL 2 5 none [(.int .i64 0), (.int .i64 0), (.str []), (.int .i64 0), (.int .i64 0)])])
  (.seq (.seq (.ops [mV 3 0, nC 4 3, fA 5 4 1, lO 6 5, mV 7 0, nC 8 7, fA 9 8 0, lO 10 9, lN 11 10, bT 12 .lss 6 11])
  (.cond (.t 12) (.seq (.ops [mV 13 0, nC 14 13, fA 15 14 0, lO 16 15, mV 17 0, nC 18 17, fA 19 18 1, lO 20 19, g0 (.idxA 21 (.t 16) (.t 20) 5 (some 5) none), g0 (.load 22 (.t 21) (some 5) none false), sT 2 22 5 2])
  (.ret))
  (.skip)))
  (.seq (.ops [g0 (.build 23 [(.int .i64 0), (.int .i64 0), (.str []), (.int .i64 0), (.int .i64 0)] [(0, 1, (kI 5))]), sT 2 23 5 2])
  (.ret))),
  [.cell 2 (some 5) (some 2)]⟩
/-- (*notary/expr.parser).made -/
def F301 : IFunc := ⟨.fre, .seq (.ops [bF 4 1, bZ 6])
  (.seq (.seq (.ops [mV 7 0, nC 8 7, fA 9 8 2, lO 10 9, bK 11 .eql 10 0])
  (.cond (.t 11) (.ops [mV 12 0, nC 13 12, fA 14 13 0, lO 15 14, mV 16 2, g0 (.idxA 17 (.t 15) (.t 16) 5 (some 5) none), fA 18 17 3, lO 19 18, mV 20 0, nC 21 20, fA 22 21 0, lO 23 22, mV 24 0, nC 25 24, fA 26 25 1, lO 27 26, bK 28 .sub 27 1, g0 (.idxA 29 (.t 23) (.t 28) 5 (some 5) none), fA 30 29 4, lO 31 30, fA 32 4 4, sT 32 19 1 4, fA 33 4 5, sT 33 31 1 4])
  (.skip)))
  (.seq (.ops [lF 34 4 4, sT 6 34 6 6])
  (.ret))),
  [.cell 6 (some 6) (some 6)]⟩
/-- (*notary/expr.parser).sign -/
def F302 : IFunc := ⟨.pop, .seq (.ops [g0 (.mv 4 (.c (.bool false)))])
  (.seq (.ops [mV 6 0, g0 (.callR (some 7) 300 [(.t 6)]), g0 (.boxL 5 5 none [(.int .i64 0), (.int .i64 0), (.str []), (.int .i64 0), (.int .i64 0)]), sT 5 7 5 5])
  (.seq (.ops [fA 8 5 0, lA 9 8 5, bK 10 .eql 9 4, mV 11 10, g1 11 true (.fldA 12 (.t 5) 2 none), g1 11 true (.load 13 (.t 12) none (some 5) false), g1 11 true (.mv 14 (.t 1)), g1 11 true (.bin 15 .eql (.t 13) (.t 14)), pA 16 11 15, mV 4 16])
  (.ret))),
  [.t 4]⟩
/-- (*notary/expr.parser).fail -/
def F303 : IFunc := ⟨.fre, .seq (.ops [mV 2 0, nC 3 2, fA 4 3 2, lO 5 4, bK 6 .eql 5 0])
  (.cond (.t 6) (.ops [mV 7 0, nC 8 7, fA 9 8 2, g0 (.store (.t 9) (kI 6) 1 none)])
  (.skip)),
  []⟩
/-- (*notary/expr.parser).need -/
def F304 : IFunc := ⟨.fre, .seq (.seq (.ops [mV 4 0, nC 5 4, fA 6 5 2, lO 7 6, bK 8 .neq 7 0])
  (.cond (.t 8) (.ret)
  (.skip)))
  (.seq (.seq (.ops [mV 9 0, mV 10 1, g0 (.callR (some 11) 302 [(.t 9), (.t 10)]), g0 (.un 12 .not (.t 11))])
  (.cond (.t 12) (.seq (.ops [mV 13 0, cA 14 303 [(.t 13)]])
  (.ret))
  (.skip)))
  (.ops [mV 15 0, nC 16 15, fA 17 16 1, lO 18 17, bK 19 .add 18 1, nC 20 15, fA 21 20 1, g0 (.store (.t 21) (.t 19) 1 none)])),
  []⟩
/-- (*notary/stmt.reader).need -/
def F305 : IFunc := ⟨.fre, .seq (.seq (.ops [mV 6 0, nC 7 6, fA 8 7 2, lO 9 8, bK 10 .neq 9 0])
  (.cond (.t 10) (.ret)
  (.skip)))
  (.seq (.seq (.ops [mV 11 0, mV 12 1, mV 13 2, g0 (.callR (some 14) 306 [(.t 11), (.t 12), (.t 13)]), g0 (.un 15 .not (.t 14))])
  (.cond (.t 15) (.seq (.ops [mV 16 0, nC 17 16, fA 18 17 2, g0 (.store (.t 18) (kI 6) 1 none)])
  (.ret))
  (.skip)))
  (.ops [mV 19 0, nC 20 19, fA 21 20 1, lO 22 21, bK 23 .add 22 1, nC 24 19, fA 25 24 1, g0 (.store (.t 25) (.t 23) 1 none)])),
  []⟩
/-- (*notary/stmt.reader).is -/
def F306 : IFunc := ⟨.pop, .seq (.ops [g0 (.mv 6 (.c (.bool false)))])
  (.seq (.ops [mV 8 0, g0 (.callR (some 9) 313 [(.t 8)]), g0 (.boxL 7 5 none [(.int .i64 0), (.int .i64 0), (.str []), (.int .i64 0), (.int .i64 0)]), sT 7 9 5 7])
  (.seq (.ops [fA 10 7 0, lA 11 10 7, mV 12 1, bT 13 .eql 11 12, mV 14 13, g1 14 true (.fldA 15 (.t 7) 2 none), g1 14 true (.load 16 (.t 15) none (some 7) false), g1 14 true (.mv 17 (.t 2)), g1 14 true (.bin 18 .eql (.t 16) (.t 17)), pA 19 14 18, mV 6 19])
  (.ret))),
  [.t 6]⟩
/-- (*notary/stmt.reader).stmt -/
def F307 : IFunc := ⟨.fre, .seq (.ops [bZ 2])
  (.seq (.ops [mV 4 0, g0 (.callR (some 5) 313 [(.t 4)]), cA 6 314 [(.t 5)], mV 3 6])
  (.seq (.ops [mV 7 3, mV 8 0, g0 (.callV (some 9) (.t 7) [(.t 8)]), sT 2 9 6 2])
  (.ret))),
  [.cell 2 (some 6) (some 2)]⟩
/-- (*notary/stmt.reader).made -/
def F308 : IFunc := ⟨.fre, .seq (.ops [bZ 10])
  (.seq (.seq (.ops [mV 11 0, nC 12 11, fA 13 12 2, lO 14 13, bK 15 .neq 14 0])
  (.cond (.t 15) (.seq (.ops [g0 (.build 16 zT []), sT 10 16 6 10])
  (.ret))
  (.skip)))
  (.seq (.ops [mV 17 1, mV 18 2, mV 19 4, mV 20 0, nC 21 20, fA 22 21 0, lO 23 22, mV 24 3, g0 (.idxA 25 (.t 23) (.t 24) 5 (some 5) none), fA 26 25 3, lO 27 26, mV 28 0, nC 29 28, fA 30 29 0, lO 31 30, mV 32 0, nC 33 32, fA 34 33 1, lO 35 34, bK 36 .sub 35 1, g0 (.idxA 37 (.t 31) (.t 36) 5 (some 5) none), fA 38 37 4, lO 39 38, g0 (.build 40 zT [(0, 1, (.t 17)), (2, 1, (.t 18)), (3, 1, (.t 19)), (4, 1, (.t 27)), (5, 1, (.t 39))]), sT 10 40 6 10])
  (.ret))),
  [.cell 10 (some 6) (some 10)]⟩
/-- (*notary/scope.scope).nested$1 -/
def F309 : IFunc := ⟨.fre, .seq (.ops [bF 4 0, bZ 5])
  (.seq (.seq (.ops [fA 6 4 0, lA 7 6 4, bK 8 .neq 7 29])
  (.cond (.t 8) (.seq (.ops [lO 9 1, lF 10 4 4, cA 11 229 [(.t 9), (.t 10)], sT 5 11 6 5])
  (.ret))
  (.skip)))
  (.seq (.seq (.ops [fA 12 2 0, lO 13 12, bK 14 .eql 13 25])
  (.cond (.t 14) (.ops [g0 (.load 15 (.t 1) none none true), lO 16 1, nC 17 16, fA 18 17 7, lO 19 18, lO 20 3, g0 (.bsl 21 1 false [(.t 20)]), g0 (.app 22 (.t 19) (.t 21) 1), nC 23 15, fA 24 23 7, g0 (.store (.t 24) (.t 22) 1 none)])
  (.skip)))
  (.seq (.ops [lO 25 1, lF 26 4 4, cA 27 230 [(.t 25), (.t 26)], sT 5 27 6 5])
  (.ret)))),
  [.cell 5 (some 6) (some 5)]⟩
def L312_0 : Ic := .seq (.seq (.ops [mV 17 0, nC 18 17, fA 19 18 2, lO 20 19, bK 21 .eql 20 0])
  (.cond (.t 21) (.skip)
  (.exit 0)))
  (.block 1 (.seq (.ops [mV 23 0, g0 (.callR (some 24) 300 [(.t 23)]), cA 25 316 [(.t 24)], mV 22 25, eX 26 22 0, eX 27 22 1, mV 8 26, mV 9 27])
  (.seq (.seq (.ops [mV 28 9, mV 29 1, bT 30 .lss 28 29, mV 31 30, g1 31 false (.mv 32 (.t 9)), g1 31 false (.bin 33 .eql (.t 32) (kI 0)), pO 34 31 33, mV 35 34, g1 35 false (.mv 36 (.t 9)), g1 35 false (.mv 37 (.t 7)), g1 35 false (.bin 38 .gtr (.t 36) (.t 37)), pO 39 35 38])
  (.cond (.t 39) (.exit 0)
  (.skip)))
  (.seq (.ops [mV 40 0, nC 41 40, fA 42 41 1, lO 43 42, bK 44 .add 43 1, nC 45 40, fA 46 45 1, g0 (.store (.t 46) (.t 44) 1 none)])
  (.seq (.ops [mV 47 0, mV 48 9, bK 49 .add 48 1, cA 50 312 [(.t 47), (.t 49)], bZ 10, sT 10 50 6 10])
  (.seq (.ops [mV 51 0, mV 52 8, lF 53 6 6, lF 54 10 10, g0 (.bsl 55 6 true [(.t 53), (.t 54)]), g0 (.build 56 zT [(0, 1, (kI 10)), (1, 1, (.t 52)), (3, 1, (.t 55))]), mV 57 5, cA 58 301 [(.t 51), (.t 56), (.t 57)], sT 6 58 6 6])
  (.seq (.ops [mV 59 9, mV 7 59])
  (.seq (.ops [mV 60 9, bK 61 .eql 60 3])
  (.cond (.t 61) (.ops [mK 7 2])
  (.skip))))))))))
/-- (*notary/expr.parser).level -/
def F312 : IFunc := ⟨.fre, .seq (.ops [bZ 4])
  (.seq (.ops [mV 11 0, nC 12 11, fA 13 12 1, lO 14 13, mV 5 14])
  (.seq (.ops [mV 15 0, cA 16 315 [(.t 15)], bZ 6, sT 6 16 6 6])
  (.seq (.ops [mK 7 6])
  (.seq (.block 0 (.loop L312_0))
  (.seq (.ops [lF 62 6 6, sT 4 62 6 4])
  (.ret)))))),
  [.cell 4 (some 6) (some 4)]⟩
/-- (*notary/stmt.reader).now -/
def F313 : IFunc := ⟨.pop, .seq (.ops [g0 (.boxL 2 5 none [(.int .i64 0), (.int .i64 0), (.str []), (.int .i64 0), (.int .i64 0)])])
  (.seq (.seq (.ops [mV 3 0, nC 4 3, fA 5 4 1, lO 6 5, mV 7 0, nC 8 7, fA 9 8 0, lO 10 9, lN 11 10, bT 12 .lss 6 11])
  (.cond (.t 12) (.seq (.ops [mV 13 0, nC 14 13, fA 15 14 0, lO 16 15, mV 17 0, nC 18 17, fA 19 18 1, lO 20 19, g0 (.idxA 21 (.t 16) (.t 20) 5 (some 5) none), g0 (.load 22 (.t 21) (some 5) none false), sT 2 22 5 2])
  (.ret))
  (.skip)))
  (.seq (.ops [g0 (.build 23 [(.int .i64 0), (.int .i64 0), (.str []), (.int .i64 0), (.int .i64 0)] [(0, 1, (kI 5))]), sT 2 23 5 2])
  (.ret))),
  [.cell 2 (some 5) (some 2)]⟩
/-- notary/stmt.kind -/
def F314 : IFunc := ⟨.pure, .seq (.ops [g0 (.boxL 1 5 (some (.t 0)) []), g0 (.mv 2 (.c .nilf))])
  (.seq (.seq (.ops [fA 3 1 0, lA 4 3 1, bK 5 .eql 4 4, mV 6 5, g1 6 true (.fldA 7 (.t 1) 2 none), g1 6 true (.load 8 (.t 7) none (some 1) false), g1 6 true (.bin 9 .eql (.t 8) (.c (.str [123]))), pA 10 6 9])
  (.cond (.t 10) (.seq (.ops [g0 (.mv 2 (.f 291))])
  (.ret))
  (.skip)))
  (.seq (.seq (.ops [fA 11 1 0, lA 12 11 1, bK 13 .neq 12 3])
  (.cond (.t 13) (.seq (.ops [g0 (.mv 2 (.f 317))])
  (.ret))
  (.skip)))
  (.seq (.seq (.ops [fA 14 1 2, lA 15 14 1])
  (.block 0 (.seq (.ops [g0 (.bin 17 .eql (.t 15) (.c (.str [108, 101, 116]))), mV 16 17])
  (.cond (.t 16) (.seq (.ops [g0 (.mv 2 (.f 318))])
  (.ret))
  (.seq (.ops [g0 (.bin 19 .eql (.t 15) (.c (.str [105, 102]))), mV 18 19])
  (.cond (.t 18) (.seq (.ops [g0 (.mv 2 (.f 319))])
  (.ret))
  (.seq (.ops [g0 (.bin 21 .eql (.t 15) (.c (.str [119, 104, 105, 108, 101]))), mV 20 21])
  (.cond (.t 20) (.seq (.ops [g0 (.mv 2 (.f 320))])
  (.ret))
  (.seq (.ops [g0 (.bin 23 .eql (.t 15) (.c (.str [102, 111, 114]))), mV 22 23])
  (.cond (.t 22) (.seq (.ops [g0 (.mv 2 (.f 321))])
  (.ret))
  (.seq (.ops [g0 (.bin 25 .eql (.t 15) (.c (.str [112, 114, 105, 110, 116]))), mV 24 25])
  (.cond (.t 24) (.seq (.ops [g0 (.mv 2 (.f 322))])
  (.ret))
  (.seq (.ops [g0 (.bin 27 .eql (.t 15) (.c (.str [114, 101, 116, 117, 114, 110]))), mV 26 27])
  (.cond (.t 26) (.seq (.ops [g0 (.mv 2 (.f 323))])
  (.ret))
  (.seq (.ops [g0 (.bin 29 .eql (.t 15) (.c (.str [100, 111]))), mV 28 29])
  (.cond (.t 28) (.seq (.ops [g0 (.mv 2 (.f 324))])
  (.ret))
  (.skip)))))))))))))))))
  (.seq (.ops [g0 (.mv 2 (.f 317))])
  (.ret))))),
  [.t 2]⟩
/-- (*notary/expr.parser).un -/
def F315 : IFunc := ⟨.fre, .seq (.ops [bZ 2])
  (.seq (.seq (.ops [mV 6 0, nC 7 6, fA 8 7 2, lO 9 8, bK 10 .neq 9 0])
  (.cond (.t 10) (.seq (.ops [g0 (.build 11 zT []), sT 2 11 6 2])
  (.ret))
  (.skip)))
  (.seq (.ops [mV 12 0, nC 13 12, fA 14 13 1, lO 15 14, mV 3 15])
  (.seq (.ops [mK 4 0])
  (.seq (.seq (.ops [mV 16 0, g0 (.callR (some 17) 302 [(.t 16), (.c (.str [45]))])])
  (.cond (.t 17) (.ops [mK 4 1])
  (.seq (.ops [mV 18 0, g0 (.callR (some 19) 302 [(.t 18), (.c (.str [33]))])])
  (.cond (.t 19) (.ops [mK 4 2])
  (.skip)))))
  (.seq (.seq (.ops [mV 20 4, bK 21 .eql 20 0])
  (.cond (.t 21) (.seq (.ops [mV 22 0, cA 23 325 [(.t 22)], sT 2 23 6 2])
  (.ret))
  (.skip)))
  (.seq (.ops [mV 24 0, nC 25 24, fA 26 25 1, lO 27 26, bK 28 .add 27 1, nC 29 24, fA 30 29 1, g0 (.store (.t 30) (.t 28) 1 none)])
  (.seq (.ops [mV 31 0, cA 32 315 [(.t 31)], bZ 5, sT 5 32 6 5])
  (.seq (.ops [mV 33 0, mV 34 4, lF 35 5 5, g0 (.bsl 36 6 true [(.t 35)]), g0 (.build 37 zT [(0, 1, (kI 11)), (1, 1, (.t 34)), (3, 1, (.t 36))]), mV 38 3, cA 39 301 [(.t 33), (.t 37), (.t 38)], sT 2 39 6 2])
  (.ret))))))))),
  [.cell 2 (some 6) (some 2)]⟩
/-- notary/expr.operator -/
def F316 : IFunc := ⟨.pure, .seq (.ops [g0 (.boxL 1 5 (some (.t 0)) []), mK 2 0, mK 3 0])
  (.seq (.seq (.ops [fA 4 1 0, lA 5 4 1, bK 6 .neq 5 4])
  (.cond (.t 6) (.seq (.ops [mK 2 0, mK 3 0])
  (.ret))
  (.skip)))
  (.seq (.seq (.ops [fA 7 1 2, lA 8 7 1])
  (.block 0 (.seq (.ops [g0 (.bin 10 .eql (.t 8) (.c (.str [124, 124]))), mV 9 10])
  (.cond (.t 9) (.seq (.ops [mK 2 1, mK 3 1])
  (.ret))
  (.seq (.ops [g0 (.bin 12 .eql (.t 8) (.c (.str [38, 38]))), mV 11 12])
  (.cond (.t 11) (.seq (.ops [mK 2 2, mK 3 2])
  (.ret))
  (.seq (.ops [g0 (.bin 14 .eql (.t 8) (.c (.str [61, 61]))), mV 13 14])
  (.cond (.t 13) (.seq (.ops [mK 2 3, mK 3 3])
  (.ret))
  (.seq (.ops [g0 (.bin 16 .eql (.t 8) (.c (.str [33, 61]))), mV 15 16])
  (.cond (.t 15) (.seq (.ops [mK 2 4, mK 3 3])
  (.ret))
  (.seq (.ops [g0 (.bin 18 .eql (.t 8) (.c (.str [60]))), mV 17 18])
  (.cond (.t 17) (.seq (.ops [mK 2 5, mK 3 3])
  (.ret))
  (.seq (.ops [g0 (.bin 20 .eql (.t 8) (.c (.str [60, 61]))), mV 19 20])
  (.cond (.t 19) (.seq (.ops [mK 2 6, mK 3 3])
  (.ret))
  (.seq (.ops [g0 (.bin 22 .eql (.t 8) (.c (.str [62]))), mV 21 22])
  (.cond (.t 21) (.seq (.ops [mK 2 7, mK 3 3])
  (.ret))
  (.seq (.ops [g0 (.bin 24 .eql (.t 8) (.c (.str [62, 61]))), mV 23 24])
  (.cond (.t 23) (.seq (.ops [mK 2 8, mK 3 3])
  (.ret))
  (.seq (.ops [g0 (.bin 26 .eql (.t 8) (.c (.str [43]))), mV 25 26])
  (.cond (.t 25) (.seq (.ops [mK 2 9, mK 3 4])
  (.ret))
  (.seq (.ops [g0 (.bin 28 .eql (.t 8) (.c (.str [45]))), mV 27 28])
  (.cond (.t 27) (.seq (.ops [mK 2 10, mK 3 4])
  (.ret))
  (.seq (.ops [g0 (.bin 30 .eql (.t 8) (.c (.str [42]))), mV 29 30])
  (.cond (.t 29) (.seq (.ops [mK 2 11, mK 3 5])
  (.ret))
  (.seq (.ops [g0 (.bin 32 .eql (.t 8) (.c (.str [47]))), mV 31 32])
  (.cond (.t 31) (.seq (.ops [mK 2 12, mK 3 5])
  (.ret))
  (.seq (.ops [g0 (.bin 34 .eql (.t 8) (.c (.str [37]))), mV 33 34])
  (.cond (.t 33) (.seq (.ops [mK 2 13, mK 3 5])
  (.ret))
  (.skip)))))))))))))))))))))))))))))
  (.seq (.ops [mK 2 0, mK 3 0])
  (.ret)))),
  [.t 2, .t 3]⟩
/-- (*notary/stmt.reader).set -/
def F317 : IFunc := ⟨.fre, .seq (.ops [bZ 2])
  (.seq (.ops [mV 6 0, nC 7 6, fA 8 7 1, lO 9 8, mV 3 9])
  (.seq (.ops [mV 10 0, cA 11 326 [(.t 10)], bZ 4, sT 4 11 6 4])
  (.seq (.ops [mV 12 0, g0 (.call (some 13) 305 [(.t 12), (kI 4), (.c (.str [61]))])])
  (.seq (.ops [mV 14 0, cA 15 326 [(.t 14)], bZ 5, sT 5 15 6 5])
  (.seq (.ops [mV 16 0, g0 (.call (some 17) 305 [(.t 16), (kI 4), (.c (.str [59]))])])
  (.seq (.ops [mV 18 0, mV 19 3, lF 20 4 4, lF 21 5 5, g0 (.bsl 22 6 true [(.t 20), (.t 21)]), g0 (.call (some 23) 308 [(.t 18), (kI 22), (.c (.str [])), (.t 19), (.t 22)]), sT 2 23 6 2])
  (.ret))))))),
  [.cell 2 (some 6) (some 2)]⟩
/-- (*notary/stmt.reader).let -/
def F318 : IFunc := ⟨.fre, .seq (.ops [bZ 2])
  (.seq (.ops [mV 7 0, nC 8 7, fA 9 8 1, lO 10 9, mV 3 10])
  (.seq (.ops [mV 11 0, nC 12 11, fA 13 12 1, lO 14 13, bK 15 .add 14 1, nC 16 11, fA 17 16 1, g0 (.store (.t 17) (.t 15) 1 none)])
  (.seq (.ops [mV 18 0, cA 19 327 [(.t 18)], mV 4 19])
  (.seq (.ops [mK 5 20])
  (.seq (.ops [bZ 6])
  (.seq (.seq (.ops [mV 20 0, nC 21 20, fA 22 21 2, lO 23 22, bK 24 .eql 23 0, mV 25 24, g1 25 true (.mv 26 (.t 0)), g1 25 true (.callR (some 27) 306 [(.t 26), (kI 4), (.c (.str [58]))]), pA 28 25 27])
  (.cond (.t 28) (.seq (.ops [mV 29 0, nC 30 29, fA 31 30 1, lO 32 31, bK 33 .add 32 1, nC 34 29, fA 35 34 1, g0 (.store (.t 35) (.t 33) 1 none)])
  (.seq (.ops [mK 5 21])
  (.ops [mV 36 0, cA 37 328 [(.t 36), (.f 265)], sT 6 37 6 6])))
  (.seq (.ops [mV 38 0, g0 (.call (some 39) 305 [(.t 38), (kI 4), (.c (.str [61]))])])
  (.ops [mV 40 0, cA 41 326 [(.t 40)], sT 6 41 6 6]))))
  (.seq (.ops [mV 42 0, g0 (.call (some 43) 305 [(.t 42), (kI 4), (.c (.str [59]))])])
  (.seq (.ops [mV 44 0, mV 45 5, mV 46 4, mV 47 3, lF 48 6 6, g0 (.bsl 49 6 true [(.t 48)]), cA 50 308 [(.t 44), (.t 45), (.t 46), (.t 47), (.t 49)], sT 2 50 6 2])
  (.ret))))))))),
  [.cell 2 (some 6) (some 2)]⟩
/-- (*notary/stmt.reader).cond -/
def F319 : IFunc := ⟨.fre, .seq (.ops [bZ 2])
  (.seq (.ops [mV 7 0, nC 8 7, fA 9 8 1, lO 10 9, mV 3 10])
  (.seq (.ops [mV 11 0, nC 12 11, fA 13 12 1, lO 14 13, bK 15 .add 14 1, nC 16 11, fA 17 16 1, g0 (.store (.t 17) (.t 15) 1 none)])
  (.seq (.ops [mV 18 0, cA 19 326 [(.t 18)], bZ 4, sT 4 19 6 4])
  (.seq (.ops [mV 20 0, cA 21 291 [(.t 20)], bZ 5, sT 5 21 6 5])
  (.seq (.ops [fA 22 5 5, lA 23 22 5, fA 24 5 5, lA 25 24 5, g0 (.build 26 zT [(0, 1, (kI 29)), (4, 1, (.t 23)), (5, 1, (.t 25))]), bZ 6, sT 6 26 6 6])
  (.seq (.seq (.ops [mV 27 0, nC 28 27, fA 29 28 2, lO 30 29, bK 31 .eql 30 0, mV 32 31, g1 32 true (.mv 33 (.t 0)), g1 32 true (.callR (some 34) 306 [(.t 33), (kI 3), (.c (.str [101, 108, 115, 101]))]), pA 35 32 34])
  (.cond (.t 35) (.seq (.ops [mV 36 0, nC 37 36, fA 38 37 1, lO 39 38, bK 40 .add 39 1, nC 41 36, fA 42 41 1, g0 (.store (.t 42) (.t 40) 1 none)])
  (.ops [mV 43 0, cA 44 291 [(.t 43)], sT 6 44 6 6]))
  (.skip)))
  (.seq (.ops [mV 45 0, mV 46 3, lF 47 4 4, lF 48 5 5, lF 49 6 6, g0 (.bsl 50 6 true [(.t 47), (.t 48), (.t 49)]), g0 (.call (some 51) 308 [(.t 45), (kI 23), (.c (.str [])), (.t 46), (.t 50)]), sT 2 51 6 2])
  (.ret)))))))),
  [.cell 2 (some 6) (some 2)]⟩
/-- (*notary/stmt.reader).while -/
def F320 : IFunc := ⟨.fre, .seq (.ops [bZ 2])
  (.seq (.ops [mV 6 0, nC 7 6, fA 8 7 1, lO 9 8, mV 3 9])
  (.seq (.ops [mV 10 0, nC 11 10, fA 12 11 1, lO 13 12, bK 14 .add 13 1, nC 15 10, fA 16 15 1, g0 (.store (.t 16) (.t 14) 1 none)])
  (.seq (.ops [mV 17 0, cA 18 326 [(.t 17)], bZ 4, sT 4 18 6 4])
  (.seq (.ops [mV 19 0, cA 20 291 [(.t 19)], bZ 5, sT 5 20 6 5])
  (.seq (.ops [mV 21 0, mV 22 3, lF 23 4 4, lF 24 5 5, g0 (.bsl 25 6 true [(.t 23), (.t 24)]), g0 (.call (some 26) 308 [(.t 21), (kI 24), (.c (.str [])), (.t 22), (.t 25)]), sT 2 26 6 2])
  (.ret)))))),
  [.cell 2 (some 6) (some 2)]⟩
/-- (*notary/stmt.reader).count -/
def F321 : IFunc := ⟨.fre, .seq (.ops [bZ 2])
  (.seq (.ops [mV 8 0, nC 9 8, fA 10 9 1, lO 11 10, mV 3 11])
  (.seq (.ops [mV 12 0, nC 13 12, fA 14 13 1, lO 15 14, bK 16 .add 15 1, nC 17 12, fA 18 17 1, g0 (.store (.t 18) (.t 16) 1 none)])
  (.seq (.ops [mV 19 0, cA 20 327 [(.t 19)], mV 4 20])
  (.seq (.ops [mV 21 0, g0 (.call (some 22) 305 [(.t 21), (kI 4), (.c (.str [61]))])])
  (.seq (.ops [mV 23 0, cA 24 326 [(.t 23)], bZ 5, sT 5 24 6 5])
  (.seq (.ops [mV 25 0, g0 (.call (some 26) 305 [(.t 25), (kI 3), (.c (.str [116, 111]))])])
  (.seq (.ops [mV 27 0, cA 28 326 [(.t 27)], bZ 6, sT 6 28 6 6])
  (.seq (.ops [mV 29 0, cA 30 291 [(.t 29)], bZ 7, sT 7 30 6 7])
  (.seq (.ops [mV 31 0, mV 32 4, mV 33 3, lF 34 5 5, lF 35 6 6, lF 36 7 7, g0 (.bsl 37 6 true [(.t 34), (.t 35), (.t 36)]), cA 38 308 [(.t 31), (kI 25), (.t 32), (.t 33), (.t 37)], sT 2 38 6 2])
  (.ret)))))))))),
  [.cell 2 (some 6) (some 2)]⟩
/-- (*notary/stmt.reader).show -/
def F322 : IFunc := ⟨.fre, .seq (.ops [bZ 2])
  (.seq (.ops [mV 3 0, cA 4 329 [(.t 3), (kI 26)], sT 2 4 6 2])
  (.ret)),
  [.cell 2 (some 6) (some 2)]⟩
/-- (*notary/stmt.reader).back -/
def F323 : IFunc := ⟨.fre, .seq (.ops [bZ 2])
  (.seq (.ops [mV 3 0, cA 4 329 [(.t 3), (kI 27)], sT 2 4 6 2])
  (.ret)),
  [.cell 2 (some 6) (some 2)]⟩
/-- (*notary/stmt.reader).call -/
def F324 : IFunc := ⟨.fre, .seq (.ops [bZ 2])
  (.seq (.ops [mV 3 0, cA 4 329 [(.t 3), (kI 28)], sT 2 4 6 2])
  (.ret)),
  [.cell 2 (some 6) (some 2)]⟩
def L325_0 : Ic := .seq (.seq (.ops [mV 13 0, nC 14 13, fA 15 14 2, lO 16 15, bK 17 .eql 16 0])
  (.cond (.t 17) (.skip)
  (.exit 0)))
  (.block 1 (.seq (.ops [mV 18 0, g0 (.callR (some 19) 302 [(.t 18), (.c (.str [91]))])])
  (.cond (.t 19) (.seq (.ops [mV 20 0, nC 21 20, fA 22 21 1, lO 23 22, bK 24 .add 23 1, nC 25 20, fA 26 25 1, g0 (.store (.t 26) (.t 24) 1 none)])
  (.seq (.ops [mV 27 0, cA 28 299 [(.t 27)], bZ 5, sT 5 28 6 5])
  (.seq (.ops [mV 29 0, g0 (.call (some 30) 304 [(.t 29), (.c (.str [93]))])])
  (.ops [mV 31 0, lF 32 4 4, lF 33 5 5, g0 (.bsl 34 6 true [(.t 32), (.t 33)]), g0 (.build 35 zT [(0, 1, (kI 12)), (3, 1, (.t 34))]), mV 36 3, cA 37 301 [(.t 31), (.t 35), (.t 36)], sT 4 37 6 4]))))
  (.seq (.ops [mV 38 0, g0 (.callR (some 39) 302 [(.t 38), (.c (.str [46]))])])
  (.cond (.t 39) (.seq (.ops [mV 40 0, nC 41 40, fA 42 41 1, lO 43 42, bK 44 .add 43 1, nC 45 40, fA 46 45 1, g0 (.store (.t 46) (.t 44) 1 none)])
  (.seq (.ops [mV 47 0, cA 48 331 [(.t 47)], mV 6 48])
  (.ops [mV 49 0, mV 50 6, lF 51 4 4, g0 (.bsl 52 6 true [(.t 51)]), g0 (.build 53 zT [(0, 1, (kI 13)), (2, 1, (.t 50)), (3, 1, (.t 52))]), mV 54 3, cA 55 301 [(.t 49), (.t 53), (.t 54)], sT 4 55 6 4])))
  (.exit 0))))))
/-- (*notary/expr.parser).post -/
def F325 : IFunc := ⟨.fre, .seq (.ops [bZ 2])
  (.seq (.ops [mV 7 0, nC 8 7, fA 9 8 1, lO 10 9, mV 3 10])
  (.seq (.ops [mV 11 0, cA 12 330 [(.t 11)], bZ 4, sT 4 12 6 4])
  (.seq (.block 0 (.loop L325_0))
  (.seq (.ops [lF 56 4 4, sT 2 56 6 2])
  (.ret))))),
  [.cell 2 (some 6) (some 2)]⟩
/-- (*notary/stmt.reader).expr -/
def F326 : IFunc := ⟨.fre, .seq (.ops [bZ 2])
  (.seq (.ops [mV 3 0, cA 4 328 [(.t 3), (.f 286)], sT 2 4 6 2])
  (.ret)),
  [.cell 2 (some 6) (some 2)]⟩
/-- (*notary/stmt.reader).name -/
def F327 : IFunc := ⟨.fre, .seq (.ops [g0 (.mv 2 (.c (.str [])))])
  (.seq (.seq (.ops [mV 4 0, nC 5 4, fA 6 5 2, lO 7 6, bK 8 .neq 7 0])
  (.cond (.t 8) (.seq (.ops [g0 (.mv 2 (.c (.str [])))])
  (.ret))
  (.skip)))
  (.seq (.ops [mV 9 0, g0 (.callR (some 10) 313 [(.t 9)]), g0 (.boxL 3 5 none [(.int .i64 0), (.int .i64 0), (.str []), (.int .i64 0), (.int .i64 0)]), sT 3 10 5 3])
  (.seq (.seq (.ops [fA 11 3 0, lA 12 11 3, bK 13 .neq 12 1])
  (.cond (.t 13) (.seq (.ops [mV 14 0, nC 15 14, fA 16 15 2, g0 (.store (.t 16) (kI 6) 1 none)])
  (.seq (.ops [g0 (.mv 2 (.c (.str [])))])
  (.ret)))
  (.skip)))
  (.seq (.ops [mV 17 0, nC 18 17, fA 19 18 1, lO 20 19, bK 21 .add 20 1, nC 22 17, fA 23 22 1, g0 (.store (.t 23) (.t 21) 1 none)])
  (.seq (.ops [fA 24 3 2, lA 25 24 3, mV 2 25])
  (.ret)))))),
  [.t 2]⟩
/-- (*notary/stmt.reader).other -/
def F328 : IFunc := ⟨.fre, .seq (.ops [bZ 4])
  (.seq (.seq (.ops [mV 8 0, nC 9 8, fA 10 9 2, lO 11 10, bK 12 .neq 11 0])
  (.cond (.t 12) (.seq (.ops [g0 (.build 13 zT []), sT 4 13 6 4])
  (.ret))
  (.skip)))
  (.seq (.seq (.ops [mV 14 0, nC 15 14, fA 16 15 1, lO 17 16, mV 18 0, nC 19 18, fA 20 19 0, lO 21 20, lN 22 21, bT 23 .gtr 17 22])
  (.cond (.t 23) (.seq (.ops [mV 24 0, nC 25 24, fA 26 25 2, g0 (.store (.t 26) (kI 6) 1 none)])
  (.seq (.ops [g0 (.build 27 zT []), sT 4 27 6 4])
  (.ret)))
  (.skip)))
  (.seq (.ops [mV 29 1, mV 30 0, nC 31 30, fA 32 31 0, lO 33 32, mV 34 0, nC 35 34, fA 36 35 1, lO 37 36, g0 (.callV (some 38) (.t 29) [(.t 33), (.t 37)]), mV 28 38, eX 39 28 0, eX 40 28 1, eX 41 28 2, bZ 5, sT 5 39 6 5, mV 6 40, mV 7 41])
  (.seq (.ops [mV 42 0, mV 43 0, mV 44 6, mV 45 7, nC 46 42, fA 47 46 1, g0 (.store (.t 47) (.t 44) 1 none), nC 48 43, fA 49 48 2, g0 (.store (.t 49) (.t 45) 1 none)])
  (.seq (.ops [lF 50 5 5, sT 4 50 6 4])
  (.ret)))))),
  [.cell 4 (some 6) (some 4)]⟩
/-- (*notary/stmt.reader).single -/
def F329 : IFunc := ⟨.fre, .seq (.ops [bZ 4])
  (.seq (.ops [mV 7 0, nC 8 7, fA 9 8 1, lO 10 9, mV 5 10])
  (.seq (.ops [mV 11 0, nC 12 11, fA 13 12 1, lO 14 13, bK 15 .add 14 1, nC 16 11, fA 17 16 1, g0 (.store (.t 17) (.t 15) 1 none)])
  (.seq (.ops [mV 18 0, cA 19 326 [(.t 18)], bZ 6, sT 6 19 6 6])
  (.seq (.ops [mV 20 0, g0 (.call (some 21) 305 [(.t 20), (kI 4), (.c (.str [59]))])])
  (.seq (.ops [mV 22 0, mV 23 1, mV 24 5, lF 25 6 6, g0 (.bsl 26 6 true [(.t 25)]), g0 (.call (some 27) 308 [(.t 22), (.t 23), (.c (.str [])), (.t 24), (.t 26)]), sT 4 27 6 4])
  (.ret)))))),
  [.cell 4 (some 6) (some 4)]⟩
/-- (*notary/expr.parser).atom -/
def F330 : IFunc := ⟨.fre, .seq (.ops [bZ 2])
  (.seq (.seq (.ops [mV 6 0, nC 7 6, fA 8 7 2, lO 9 8, bK 10 .neq 9 0])
  (.cond (.t 10) (.seq (.ops [g0 (.build 11 zT []), sT 2 11 6 2])
  (.ret))
  (.skip)))
  (.seq (.ops [mV 12 0, nC 13 12, fA 14 13 1, lO 15 14, mV 16 0, g0 (.callR (some 17) 300 [(.t 16)]), g0 (.boxL 4 5 none [(.int .i64 0), (.int .i64 0), (.str []), (.int .i64 0), (.int .i64 0)]), mV 3 15, sT 4 17 5 4])
  (.seq (.seq (.ops [fA 18 4 0, lA 19 18 4])
  (.block 0 (.seq (.ops [bK 21 .eql 19 2, mV 20 21])
  (.cond (.t 20) (.seq (.ops [mV 22 0, nC 23 22, fA 24 23 1, lO 25 24, bK 26 .add 25 1, nC 27 22, fA 28 27 1, g0 (.store (.t 28) (.t 26) 1 none)])
  (.seq (.ops [mV 29 0, fA 30 4 1, lA 31 30 4, g0 (.build 32 zT [(0, 1, (kI 5)), (1, 1, (.t 31))]), mV 33 3, cA 34 301 [(.t 29), (.t 32), (.t 33)], sT 2 34 6 2])
  (.ret)))
  (.seq (.ops [bK 36 .eql 19 1, mV 35 36])
  (.cond (.t 35) (.seq (.ops [mV 37 0, nC 38 37, fA 39 38 1, lO 40 39, bK 41 .add 40 1, nC 42 37, fA 43 42 1, g0 (.store (.t 43) (.t 41) 1 none)])
  (.seq (.seq (.ops [mV 44 0, g0 (.callR (some 45) 302 [(.t 44), (.c (.str [40]))])])
  (.cond (.t 45) (.seq (.ops [mV 46 0, cA 47 332 [(.t 46), (.c (.bool true))], mV 5 47])
  (.seq (.ops [mV 48 0, fA 49 4 2, lA 50 49 4, mV 51 5, g0 (.build 52 zT [(0, 1, (kI 16)), (2, 1, (.t 50)), (3, 1, (.t 51))]), mV 53 3, cA 54 301 [(.t 48), (.t 52), (.t 53)], sT 2 54 6 2])
  (.ret)))
  (.skip)))
  (.seq (.ops [mV 55 0, fA 56 4 2, lA 57 56 4, g0 (.build 58 zT [(0, 1, (kI 19)), (2, 1, (.t 57))]), mV 59 3, cA 60 301 [(.t 55), (.t 58), (.t 59)], sT 2 60 6 2])
  (.ret))))
  (.seq (.ops [bK 62 .eql 19 3, mV 61 62])
  (.cond (.t 61) (.seq (.ops [mV 63 0, fA 64 4 2, lA 65 64 4, mV 66 3, cA 67 333 [(.t 63), (.t 65), (.t 66)], sT 2 67 6 2])
  (.ret))
  (.seq (.ops [bK 69 .eql 19 4, mV 68 69])
  (.cond (.t 68) (.seq (.ops [mV 70 0, fA 71 4 2, lA 72 71 4, mV 73 3, cA 74 334 [(.t 70), (.t 72), (.t 73)], sT 2 74 6 2])
  (.ret))
  (.skip)))))))))))
  (.seq (.ops [mV 75 0, cA 76 303 [(.t 75)]])
  (.seq (.ops [g0 (.build 77 zT []), sT 2 77 6 2])
  (.ret)))))),
  [.cell 2 (some 6) (some 2)]⟩
/-- (*notary/expr.parser).name -/
def F331 : IFunc := ⟨.fre, .seq (.ops [g0 (.mv 2 (.c (.str [])))])
  (.seq (.seq (.ops [mV 4 0, nC 5 4, fA 6 5 2, lO 7 6, bK 8 .neq 7 0])
  (.cond (.t 8) (.seq (.ops [g0 (.mv 2 (.c (.str [])))])
  (.ret))
  (.skip)))
  (.seq (.ops [mV 9 0, g0 (.callR (some 10) 300 [(.t 9)]), g0 (.boxL 3 5 none [(.int .i64 0), (.int .i64 0), (.str []), (.int .i64 0), (.int .i64 0)]), sT 3 10 5 3])
  (.seq (.seq (.ops [fA 11 3 0, lA 12 11 3, bK 13 .neq 12 1])
  (.cond (.t 13) (.seq (.ops [mV 14 0, cA 15 303 [(.t 14)]])
  (.seq (.ops [g0 (.mv 2 (.c (.str [])))])
  (.ret)))
  (.skip)))
  (.seq (.ops [mV 16 0, nC 17 16, fA 18 17 1, lO 19 18, bK 20 .add 19 1, nC 21 16, fA 22 21 1, g0 (.store (.t 22) (.t 20) 1 none)])
  (.seq (.ops [fA 23 3 2, lA 24 23 3, mV 2 24])
  (.ret)))))),
  [.t 2]⟩
/-- (*notary/expr.parser).args -/
def F332 : IFunc := ⟨.fre, .seq (.ops [g0 (.mv 4 (.c .nils))])
  (.seq (.ops [mV 6 0, g0 (.call (some 7) 304 [(.t 6), (.c (.str [40]))])])
  (.seq (.seq (.ops [mV 8 0, nC 9 8, fA 10 9 2, lO 11 10, bK 12 .eql 11 0, mV 13 12, g1 13 true (.mv 14 (.t 1)), pA 15 13 14, mV 16 15, g1 16 true (.mv 17 (.t 0)), g1 16 true (.callR (some 18) 302 [(.t 17), (.c (.str [41]))]), pA 19 16 18])
  (.cond (.t 19) (.seq (.ops [mV 20 0, nC 21 20, fA 22 21 1, lO 23 22, bK 24 .add 23 1, nC 25 20, fA 26 25 1, g0 (.store (.t 26) (.t 24) 1 none)])
  (.seq (.ops [g0 (.mv 4 (.c .nils))])
  (.ret)))
  (.skip)))
  (.seq (.ops [mV 27 0, mV 28 0, g0 (.mkfn 29 299 [(.t 28)] []), cA 30 335 [(.t 27), (.t 29)], mV 5 30])
  (.seq (.ops [mV 31 0, g0 (.call (some 32) 304 [(.t 31), (.c (.str [41]))])])
  (.seq (.ops [mV 33 5, mV 4 33])
  (.ret)))))),
  [.t 4]⟩
/-- (*notary/expr.parser).word -/
def F333 : IFunc := ⟨.fre, .seq (.ops [bZ 6])
  (.seq (.ops [mV 9 0, nC 10 9, fA 11 10 1, lO 12 11, bK 13 .add 12 1, nC 14 9, fA 15 14 1, g0 (.store (.t 15) (.t 13) 1 none)])
  (.seq (.seq (.ops [mV 16 1])
  (.block 0 (.seq (.ops [g0 (.bin 18 .eql (.t 16) (.c (.str [116, 114, 117, 101]))), mV 17 18])
  (.cond (.t 17) (.seq (.ops [mV 19 0, g0 (.build 20 zT [(0, 1, (kI 6)), (1, 1, (kI 1))]), mV 21 2, cA 22 301 [(.t 19), (.t 20), (.t 21)], sT 6 22 6 6])
  (.ret))
  (.seq (.ops [g0 (.bin 24 .eql (.t 16) (.c (.str [102, 97, 108, 115, 101]))), mV 23 24])
  (.cond (.t 23) (.seq (.ops [mV 25 0, g0 (.build 26 zT [(0, 1, (kI 6))]), mV 27 2, cA 28 301 [(.t 25), (.t 26), (.t 27)], sT 6 28 6 6])
  (.ret))
  (.seq (.ops [g0 (.bin 30 .eql (.t 16) (.c (.str [114, 101, 97, 100]))), mV 29 30])
  (.cond (.t 29) (.seq (.ops [mV 31 0, g0 (.build 32 zT [(0, 1, (kI 18))]), mV 33 2, cA 34 301 [(.t 31), (.t 32), (.t 33)], sT 6 34 6 6])
  (.ret))
  (.seq (.ops [g0 (.bin 36 .eql (.t 16) (.c (.str [110, 101, 119]))), mV 35 36])
  (.cond (.t 35) (.seq (.ops [mV 37 0, cA 38 331 [(.t 37)], mV 7 38])
  (.seq (.ops [mV 39 0, cA 40 332 [(.t 39), (.c (.bool false))], mV 8 40])
  (.seq (.ops [mV 41 0, mV 42 7, mV 43 8, g0 (.build 44 zT [(0, 1, (kI 15)), (2, 1, (.t 42)), (3, 1, (.t 43))]), mV 45 2, cA 46 301 [(.t 41), (.t 44), (.t 45)], sT 6 46 6 6])
  (.ret))))
  (.skip)))))))))))
  (.seq (.ops [mV 47 0, nC 48 47, fA 49 48 1, lO 50 49, bK 51 .sub 50 1, nC 52 47, fA 53 52 1, g0 (.store (.t 53) (.t 51) 1 none)])
  (.seq (.ops [mV 54 0, cA 55 303 [(.t 54)]])
  (.seq (.ops [g0 (.build 56 zT []), sT 6 56 6 6])
  (.ret)))))),
  [.cell 6 (some 6) (some 6)]⟩
/-- (*notary/expr.parser).bracket -/
def F334 : IFunc := ⟨.fre, .seq (.ops [bZ 6])
  (.seq (.ops [mV 11 0, nC 12 11, fA 13 12 1, lO 14 13, bK 15 .add 14 1, nC 16 11, fA 17 16 1, g0 (.store (.t 17) (.t 15) 1 none)])
  (.seq (.seq (.ops [mV 18 1])
  (.block 0 (.seq (.ops [g0 (.bin 20 .eql (.t 18) (.c (.str [40]))), mV 19 20])
  (.cond (.t 19) (.seq (.ops [mV 21 0, cA 22 299 [(.t 21)], bZ 7, sT 7 22 6 7])
  (.seq (.ops [mV 23 0, g0 (.call (some 24) 304 [(.t 23), (.c (.str [41]))])])
  (.seq (.ops [lF 25 7 7, sT 6 25 6 6])
  (.ret))))
  (.seq (.ops [g0 (.bin 27 .eql (.t 18) (.c (.str [91]))), mV 26 27])
  (.cond (.t 26) (.seq (.ops [mV 28 0, mV 29 0, g0 (.mkfn 30 299 [(.t 29)] []), cA 31 335 [(.t 28), (.t 30)], mV 8 31])
  (.seq (.ops [mV 32 0, g0 (.call (some 33) 304 [(.t 32), (.c (.str [93]))])])
  (.seq (.ops [mV 34 0, mV 35 8, g0 (.build 36 zT [(0, 1, (kI 14)), (3, 1, (.t 35))]), mV 37 2, cA 38 301 [(.t 34), (.t 36), (.t 37)], sT 6 38 6 6])
  (.ret))))
  (.seq (.ops [g0 (.bin 40 .eql (.t 18) (.c (.str [64]))), mV 39 40])
  (.cond (.t 39) (.seq (.ops [mV 41 0, cA 42 331 [(.t 41)], mV 9 42])
  (.seq (.ops [mV 43 0, cA 44 332 [(.t 43), (.c (.bool true))], mV 10 44])
  (.seq (.ops [mV 45 0, mV 46 9, mV 47 10, g0 (.build 48 zT [(0, 1, (kI 17)), (2, 1, (.t 46)), (3, 1, (.t 47))]), mV 49 2, cA 50 301 [(.t 45), (.t 48), (.t 49)], sT 6 50 6 6])
  (.ret))))
  (.skip)))))))))
  (.seq (.ops [mV 51 0, nC 52 51, fA 53 52 1, lO 54 53, bK 55 .sub 54 1, nC 56 51, fA 57 56 1, g0 (.store (.t 57) (.t 55) 1 none)])
  (.seq (.ops [mV 58 0, cA 59 303 [(.t 58)]])
  (.seq (.ops [g0 (.build 60 zT []), sT 6 60 6 6])
  (.ret)))))),
  [.cell 6 (some 6) (some 6)]⟩
def L335_0 : Ic := .seq (.seq (.ops [mV 9 0, nC 10 9, fA 11 10 2, lO 12 11, bK 13 .eql 12 0, mV 14 13, g1 14 true (.mv 15 (.t 0)), g1 14 true (.callR (some 16) 302 [(.t 15), (.c (.str [44]))]), pA 17 14 16])
  (.cond (.t 17) (.skip)
  (.exit 0)))
  (.block 1 (.seq (.ops [mV 18 0, nC 19 18, fA 20 19 1, lO 21 20, bK 22 .add 21 1, nC 23 18, fA 24 23 1, g0 (.store (.t 24) (.t 22) 1 none)])
  (.ops [mV 25 5, mV 26 1, g0 (.callV (some 27) (.t 26) []), g0 (.bsl 28 6 true [(.t 27)]), g0 (.app 29 (.t 25) (.t 28) 6), mV 5 29])))
/-- (*notary/expr.parser).list -/
def F335 : IFunc := ⟨.fre, .seq (.ops [g0 (.mv 4 (.c .nils))])
  (.seq (.ops [mV 6 1, g0 (.callV (some 7) (.t 6) []), g0 (.bsl 8 6 true [(.t 7)]), mV 5 8])
  (.seq (.block 0 (.loop L335_0))
  (.seq (.ops [mV 30 5, mV 4 30])
  (.ret)))),
  [.t 4]⟩

def tab : FTree := .n (.n (.n (.n (.n (.n (.n (.n .e 8 F8 .e) 9 F9 .e) 18 F18 (.n (.n .e 29 F29 .e) 30 F30 .e)) 31 F31 (.n (.n (.n .e 32 F32 .e) 33 F33 .e) 34 F34 (.n (.n .e 35 F35 .e) 36 F36 .e))) 37 F37 (.n (.n (.n (.n .e 40 F40 .e) 46 F46 .e) 49 F49 (.n (.n .e 50 F50 .e) 59 F59 .e)) 60 F60 (.n (.n (.n .e 62 F62 .e) 65 F65 .e) 66 F66 (.n (.n .e 68 F68 .e) 69 F69 .e)))) 70 F70 (.n (.n (.n (.n (.n .e 71 F71 .e) 72 F72 .e) 73 F73 (.n (.n .e 74 F74 .e) 75 F75 .e)) 81 F81 (.n (.n (.n .e 84 F84 .e) 92 F92 .e) 93 F93 (.n (.n .e 94 F94 .e) 103 F103 .e))) 104 F104 (.n (.n (.n (.n .e 105 F105 .e) 106 F106 .e) 107 F107 (.n (.n .e 114 F114 .e) 115 F115 .e)) 116 F116 (.n (.n (.n .e 117 F117 .e) 118 F118 .e) 119 F119 (.n (.n .e 120 F120 .e) 121 F121 .e))))) 122 F122 (.n (.n (.n (.n (.n (.n .e 135 F135 .e) 136 F136 .e) 137 F137 (.n (.n .e 138 F138 .e) 139 F139 .e)) 145 F145 (.n (.n (.n .e 146 F146 .e) 151 F151 .e) 152 F152 (.n (.n .e 153 F153 .e) 154 F154 .e))) 155 F155 (.n (.n (.n (.n .e 159 F159 .e) 160 F160 .e) 161 F161 (.n (.n .e 162 F162 .e) 163 F163 .e)) 164 F164 (.n (.n (.n .e 165 F165 .e) 166 F166 .e) 169 F169 (.n (.n .e 170 F170 .e) 171 F171 .e)))) 172 F172 (.n (.n (.n (.n (.n .e 173 F173 .e) 174 F174 .e) 175 F175 (.n (.n .e 193 F193 .e) 194 F194 .e)) 195 F195 (.n (.n (.n .e 196 F196 .e) 204 F204 .e) 205 F205 (.n (.n .e 206 F206 .e) 207 F207 .e))) 208 F208 (.n (.n (.n (.n .e 209 F209 .e) 210 F210 .e) 211 F211 (.n (.n .e 212 F212 .e) 218 F218 .e)) 219 F219 (.n (.n (.n .e 220 F220 .e) 221 F221 .e) 222 F222 (.n .e 223 F223 .e)))))) 224 F224 (.n (.n (.n (.n (.n (.n (.n .e 225 F225 .e) 226 F226 .e) 227 F227 (.n (.n .e 228 F228 .e) 229 F229 .e)) 230 F230 (.n (.n (.n .e 231 F231 .e) 232 F232 .e) 233 F233 (.n (.n .e 234 F234 .e) 235 F235 .e))) 236 F236 (.n (.n (.n (.n .e 241 F241 .e) 242 F242 .e) 246 F246 (.n (.n .e 249 F249 .e) 250 F250 .e)) 251 F251 (.n (.n (.n .e 252 F252 .e) 253 F253 .e) 254 F254 (.n (.n .e 255 F255 .e) 256 F256 .e)))) 257 F257 (.n (.n (.n (.n (.n .e 258 F258 .e) 259 F259 .e) 260 F260 (.n (.n .e 261 F261 .e) 262 F262 .e)) 263 F263 (.n (.n (.n .e 264 F264 .e) 265 F265 .e) 266 F266 (.n (.n .e 267 F267 .e) 268 F268 .e))) 269 F269 (.n (.n (.n (.n .e 270 F270 .e) 271 F271 .e) 272 F272 (.n (.n .e 273 F273 .e) 274 F274 .e)) 275 F275 (.n (.n (.n .e 280 F280 .e) 281 F281 .e) 282 F282 (.n .e 283 F283 .e))))) 284 F284 (.n (.n (.n (.n (.n (.n .e 285 F285 .e) 286 F286 .e) 287 F287 (.n (.n .e 288 F288 .e) 289 F289 .e)) 290 F290 (.n (.n (.n .e 291 F291 .e) 292 F292 .e) 296 F296 (.n (.n .e 297 F297 .e) 298 F298 .e))) 299 F299 (.n (.n (.n (.n .e 300 F300 .e) 301 F301 .e) 302 F302 (.n (.n .e 303 F303 .e) 304 F304 .e)) 305 F305 (.n (.n (.n .e 306 F306 .e) 307 F307 .e) 308 F308 (.n (.n .e 309 F309 .e) 312 F312 .e)))) 313 F313 (.n (.n (.n (.n (.n .e 314 F314 .e) 315 F315 .e) 316 F316 (.n (.n .e 317 F317 .e) 318 F318 .e)) 319 F319 (.n (.n (.n .e 320 F320 .e) 321 F321 .e) 322 F322 (.n (.n .e 323 F323 .e) 324 F324 .e))) 325 F325 (.n (.n (.n (.n .e 326 F326 .e) 327 F327 .e) 328 F328 (.n (.n .e 329 F329 .e) 330 F330 .e)) 331 F331 (.n (.n (.n .e 332 F332 .e) 333 F333 .e) 334 F334 (.n .e 335 F335 .e))))))
def T (f : Nat) : Option IFunc := lookT f tab

theorem L291_0_w : L291_0.wr = [11, 12, 13, 14, 15, 16, 17, 18, 19, 20, 21, 22, 23, 24, 25, 4] := by kernel_rfl
theorem L291_0_p : L291_0.plain = true := by kernel_rfl
theorem L312_0_w : L312_0.wr = [17, 18, 19, 20, 21, 23, 24, 25, 22, 26, 27, 8, 9, 28, 29, 30, 31, 32, 33, 34, 35, 36, 37, 38, 39, 40, 41, 42, 43, 44, 45, 46, 47, 48, 49, 50, 10, 51, 52, 53, 54, 55, 56, 57, 58, 59, 7, 60, 61, 7] := by kernel_rfl
theorem L312_0_p : L312_0.plain = true := by kernel_rfl
theorem L325_0_w : L325_0.wr = [13, 14, 15, 16, 17, 18, 19, 20, 21, 22, 23, 24, 25, 26, 27, 28, 5, 29, 30, 31, 32, 33, 34, 35, 36, 37, 38, 39, 40, 41, 42, 43, 44, 45, 46, 47, 48, 6, 49, 50, 51, 52, 53, 54, 55] := by kernel_rfl
theorem L325_0_p : L325_0.plain = true := by kernel_rfl
theorem L335_0_w : L335_0.wr = [9, 10, 11, 12, 13, 14, 15, 16, 17, 18, 19, 20, 21, 22, 23, 24, 25, 26, 27, 28, 29, 5] := by kernel_rfl
theorem L335_0_p : L335_0.plain = true := by kernel_rfl

end Go.Nt.Ty

/-
  COUNTING A TERM's PARTS: the walks of 'Count', 'Named', 'Large'.
-/
set_option linter.unusedSimpArgs false
namespace Go.Nt.Ty
open Go Go.Nt

theorem l49 (v : Tm) (hv : v.l.length ≤ 9223372036854775807) (ml : Int) (hm : 0 < ml ∧ ml ≤ 1000)
    (ih : ∀ u, u ∈ v.l → ∀ (left lv : Int) (st : St), 0 ≤ left ∧ left ≤ 1000 → 0 ≤ lv ∧ lv ≤ 1000 → ∃ r, callD T (ev T) 49 [encT u, .int .i64 left, .int .i64 lv] st = some (.int .i64 r, st) ∧ -1 ≤ r ∧ r ≤ left ∧ (0 ≤ r → r = left - cntT u)) :
    ∀ (r i : Nat) (left : Int) (s : List D) (bx : List (Nat × List D)), r = v.l.length - i → i ≤ v.l.length → -1 ≤ left ∧ left ≤ 1000 → get s 1 = .int .i64 left → get s 2 = .int .i64 ml → get s 3 = .lp 3 1 0 → getB bx 3 = (1, clT v) → get s 7 = .int .i64 i →
    Stops (lp T L49_0 ⟨⟨s, bx⟩, []⟩) fun e s' _ st' => st' = [] ∧ e = .exit 0 ∧ ∃ q, get s' 1 = .int .i64 q ∧ -1 ≤ q ∧ q ≤ left ∧ (0 ≤ q → q = left - cntTs (v.l.drop i)) := by
  intro r
  induction r with
  | zero =>
    intro i left s bx hr hi hl h1 h2 h3 b3 h7
    have e : i = v.l.length := by omega
    subst e
    rw [lp_kL, L49_0, List.drop_length]
    simp [h1, h2, h3, b3, h7, cntTs]
    omega
  | succ r ihr =>
    intro i left s bx hr hi hl h1 h2 h3 b3 h7
    rw [lp_kL, L49_0]
    have hlt : i < v.l.length := by omega
    have hw : IntKind.wrap .i64 ((i : Int) + 1) = i + 1 := by rw [wrap64] <;> omega
    have hw2 : IntKind.wrap .i64 (ml - 1) = ml - 1 := by rw [wrap64] <;> omega
    have hmem : v.l[i] ∈ v.l := List.getElem_mem hlt
    rw [List.drop_eq_getElem_cons hlt, cntTs]
    by_cases hn : 0 ≤ left
    · obtain ⟨q, hq, hq1, hq2, hq3⟩ := ih _ hmem left (ml - 1) [] ⟨hn, hl.2⟩ (by omega)
      simp [h1, h2, h3, b3, h7, hlt, hn, hw, hw2, hq]
      rw [← L49_0]
      refine (ihr (i + 1) q _ _ (by omega) (by omega) (by omega) ?_ ?_ ?_ b3 ?_).mono ?_
      iterate 4 simp [h2, h3]
      rintro e s' b' st ⟨rfl, rfl, q2, g1, g2, g3, g4⟩
      refine ⟨rfl, rfl, q2, g1, g2, by omega, fun g => ?_⟩
      have := g4 g
      have := hq3 (by omega)
      omega
    · simp [h1, h2, h3, b3, h7, hlt, hn]
      omega

theorem c49 (v : Tm) : v.ok → ∀ (left lv : Int) (st : St), 0 ≤ left ∧ left ≤ 1000 → 0 ≤ lv ∧ lv ≤ 1000 → ∃ r, callD T (ev T) 49 [encT v, .int .i64 left, .int .i64 lv] st = some (.int .i64 r, st) ∧ -1 ≤ r ∧ r ≤ left ∧ (0 ≤ r → r = left - cntT v) := by
  induction v using Tm.ind with
  | h v ih =>
    intro hv left lv st hl hm
    obtain ⟨k1, k2, k4, k5, k6, k7, k3⟩ := (Tm.ok_iff v).1 hv
    have go : ∃ r, ev T 49 [encT v, .int .i64 left, .int .i64 lv] [] = some (.int .i64 r, []) ∧ -1 ≤ r ∧ r ≤ left ∧ (0 ≤ r → r = left - cntT v) := by
      rw [ev_eq 49 F49 rfl, F49]
      by_cases h0 : lv ≤ 0
      · refine ⟨-1, ?_, by omega, by omega, by omega⟩
        simp [h0]
      · have hw : IntKind.wrap .i64 (left - 1) = left - 1 := by rw [wrap64] <;> omega
        simp [h0, hw]
        refine (l49 v k7 lv (by omega) (fun u hu => ih u hu (k3 u hu)) _ 0 (left - 1) _ _ rfl (by omega) (by omega) ?_ ?_ ?_ ?_ ?_).use (fun r => ∃ x, kfin _ (kseq _ (kblock 0 r)) = some (.int .i64 x, []) ∧ -1 ≤ x ∧ x ≤ left ∧ (0 ≤ x → x = left - cntT v)) ?_
        iterate 5 simp
        rintro e s' b' st ⟨rfl, rfl, q, g1, g2, g3, g4⟩
        refine ⟨q, by simp [g1], g2, by omega, fun g => ?_⟩
        have := g4 g
        rw [cntT_eq]
        simp at this
        omega
    obtain ⟨r, h1, h2, h3, h4⟩ := go
    exact ⟨r, callD_pure (fn := F49) (st2 := []) rfl rfl (by simp) h1 (by simp) (by simp), h2, h3, h4⟩

theorem l50 (v : Tm) (hv : v.l.length ≤ 9223372036854775807) (ih : ∀ u, u ∈ v.l → ∀ (st : St), ∃ r, callD T (ev T) 50 [encT u] st = some (.bool r, st)) :
    ∀ (r i : Nat) (s : List D) (bx : List (Nat × List D)), r = v.l.length - i → i ≤ v.l.length → get s 1 = .lp 1 1 0 → getB bx 1 = (1, clT v) → get s 3 = .int .i64 i →
    Stops (lp T L50_0 ⟨⟨s, bx⟩, []⟩) fun e s' _ st' => st' = [] ∧ (e = .exit 0 ∨ e = .ret ∧ get s' 2 = .bool true) := by
  intro r
  induction r with
  | zero =>
    intro i s bx hr hi h1 b1 h3
    have e : i = v.l.length := by omega
    subst e
    rw [lp_kL, L50_0]
    simp [h1, b1, h3]
  | succ r ihr =>
    intro i s bx hr hi h1 b1 h3
    rw [lp_kL, L50_0]
    have hlt : i < v.l.length := by omega
    have hw : IntKind.wrap .i64 ((i : Int) + 1) = i + 1 := by rw [wrap64] <;> omega
    obtain ⟨q, hq⟩ := ih _ (List.getElem_mem hlt) []
    cases q with
    | true => simp [h1, b1, h3, hlt, hw, hq]
    | false =>
      simp [h1, b1, h3, hlt, hw, hq]
      rw [← L50_0]
      refine ihr (i + 1) _ _ (by omega) (by omega) ?_ b1 ?_
      iterate 2 simp [h1]

theorem c50 (v : Tm) : v.ok → ∀ (st : St), ∃ r, callD T (ev T) 50 [encT v] st = some (.bool r, st) := by
  induction v using Tm.ind with
  | h v ih =>
    intro hv st
    obtain ⟨k1, k2, k4, k5, k6, k7, k3⟩ := (Tm.ok_iff v).1 hv
    have go : ∃ r, ev T 50 [encT v] [] = some (.bool r, []) := by
      rw [ev_eq 50 F50 rfl, F50]
      by_cases h0 : (40 : Int) < v.s.length
      · exact ⟨true, by simp [h0]⟩
      · simp [h0, -Bool.exists_bool]
        refine (l50 v k7 (fun u hu => ih u hu (k3 u hu)) _ 0 _ _ rfl (by omega) ?_ ?_ ?_).use (fun r => ∃ x, kfin _ (kseq _ (kblock 0 r)) = some (.bool x, [])) ?_
        iterate 3 simp
        rintro e s' b' st ⟨rfl, rfl | ⟨rfl, h⟩⟩
        · exact ⟨false, by simp⟩
        · exact ⟨true, by simp [h]⟩
    obtain ⟨r, h1⟩ := go
    exact ⟨r, callD_pure (fn := F50) (st2 := []) rfl rfl (by simp) h1 (by simp) (by simp)⟩

theorem c18 (v : Tm) (hv : v.ok) (st : St) : ∃ b, callD T (ev T) 18 [encT v] st = some (.bool b, st) ∧ (b = false → cntT v ≤ 400) := by
  obtain ⟨r, h1, h2, h3, h4⟩ := c49 v hv 400 70 [] (by omega) (by omega)
  obtain ⟨q, hq⟩ := c50 v hv []
  refine ⟨decide (r < 0) || q, callD_pure (fn := F18) rfl rfl (by simp) (r := .bool (decide (r < 0) || q)) (st1 := []) (st2 := []) ?_ (by simp) (by simp), fun h => ?_⟩
  · rw [ev_eq 18 F18 rfl, F18]
    by_cases g : r < 0
    · simp [← encT_eq, h1, g]
    · simp [← encT_eq, h1, g, hq]
  · simp at h
    have := h4 h.1
    omega

end Go.Nt.Ty

/-
  THE CELLS OF TYPES, both ways: the walk of package typ's meter, and of layer 12's reference.
-/
set_option linter.unusedSimpArgs false
namespace Go.Nt.Ty
open Go Go.Nt

/-- An array's cells. -/
def prod (n c : Int) : Int := if n < 1 ∨ 16 < n ∨ 64 < n * c then 0 else n * c

/-- A type's cells, given a record's. -/
def arrM (rec : Int → Int) : Tm → Int
  | .mk k n _ _ l _ _ => if (k = 1 ∨ k = 2) ∧ l = [] then 1 else if k = 3 then (match l with | [x] => prod n (arrM rec x) | _ => 0) else if k = 4 ∧ l = [] then rec n else 0

/-- A record's parts' cells. -/
def sumM (f : Tm → Int) : List Tm → Int → Int
  | [], acc => acc
  | p :: ps, acc => match p.l with
    | [x] => if p.k = 34 then (if f x = 0 ∨ 64 < acc + f x then 0 else sumM f ps (acc + f x)) else 0
    | _ => 0

def recM (m : Tm) : Nat → Int → Int
  | 0, _ => 0
  | r + 1, n => if h : 0 ≤ n ∧ n < m.l.length then (if (m.l[n.toNat]'(by omega)).k = 30 then sumM (arrM (recM m r)) (m.l[n.toNat]'(by omega)).l 0 else 0) else 0

theorem arrM_eq (rec : Int → Int) (t : Tm) : arrM rec t = if (t.k = 1 ∨ t.k = 2) ∧ t.l = [] then 1 else if t.k = 3 then (match t.l with | [x] => prod t.n (arrM rec x) | _ => 0) else if t.k = 4 ∧ t.l = [] then rec t.n else 0 := by
  cases t with
  | mk k n s fl l a b =>
    match l with
    | [] => simp [arrM, Tm.k, Tm.n, Tm.l]
    | [x] => simp [arrM, Tm.k, Tm.n, Tm.l]
    | x :: y :: l => simp [arrM, Tm.k, Tm.n, Tm.l]

theorem prod_in (n c : Int) (hc : 0 ≤ c) : 0 ≤ prod n c ∧ prod n c ≤ 64 := by
  unfold prod
  split
  · omega
  · next h =>
    have : 0 ≤ n * c := Int.mul_nonneg (by omega) hc
    omega

theorem arrM_in (rec : Int → Int) (h : ∀ n, 0 ≤ rec n ∧ rec n ≤ 64) (t : Tm) : 0 ≤ arrM rec t ∧ arrM rec t ≤ 64 := by
  induction t using Tm.ind with
  | h t ih =>
    rw [arrM_eq]
    split
    · omega
    · split
      · split
        · next x hx => exact prod_in _ _ (ih x (by rw [hx]; simp)).1
        · omega
      · split
        · exact h _
        · omega

theorem sumM_in (f : Tm → Int) (h : ∀ t, 0 ≤ f t ∧ f t ≤ 64) (l : List Tm) (acc : Int) (ha : 0 ≤ acc ∧ acc ≤ 64) : 0 ≤ sumM f l acc ∧ sumM f l acc ≤ 64 := by
  induction l generalizing acc with
  | nil => exact ha
  | cons p l ih =>
    rw [sumM]
    split
    · next x hx =>
      have := h x
      split
      · split
        · omega
        · exact ih _ (by omega)
      · omega
    · omega

theorem recM_in (m : Tm) (r : Nat) (n : Int) : 0 ≤ recM m r n ∧ recM m r n ≤ 64 := by
  induction r generalizing n with
  | zero => simp [recM]
  | succ r ih =>
    rw [recM]
    split
    · split
      · exact sumM_in _ (arrM_in _ ih) _ _ (by omega)
      · omega
    · omega

theorem c145 (n c : Int) (hc : 0 ≤ c ∧ c ≤ 64) (st : St) : callD T (ev T) 145 [.int .i64 n, .int .i64 c] st = some (.int .i64 (prod n c), st) := by
  refine callD_pure (fn := F145) rfl rfl (by simp) (r := .int .i64 (prod n c)) (st1 := []) (st2 := []) ?_ (by simp) (by simp)
  rw [ev_eq 145 F145 rfl, F145]
  unfold prod
  by_cases h1 : n < 1
  · simp [h1]
  · by_cases h2 : 16 < n
    · simp [h1, h2]
    · have hb : n * c ≤ 16 * 64 := Int.mul_le_mul (by omega) hc.2 hc.1 (by omega)
      have hb0 : 0 ≤ n * c := Int.mul_nonneg (by omega) hc.1
      have hw : IntKind.wrap .i64 (n * c) = n * c := by rw [wrap64] <;> omega
      by_cases h3 : 64 < n * c
      · simp [h1, h2, h3, hw]
      · simp [h1, h2, h3, hw]

/-- The meter's cells. -/
abbrev clM (m : Tm) (d : Int) : List D := [.int .i64 m.k, .int .i64 m.n, .str m.s, slE 6 m.fl (encTs m.l), .int .i64 m.a, .int .i64 m.b, .int .i64 d]

theorem clM_pure (m : Tm) (d : Int) (st : St) (args : List D) (h : pureArgs st args = some (args, st)) : pureArgs st (.agg (clM m d) :: args) = some (.agg (clM m d) :: args, st) := by simp [h]

theorem c84 (m : Tm) (d : Int) (r : Nat) (hrec : ∀ n st, in64 n → callD T (ev T) 146 [.agg (clM m d), .int .i64 n] st = some (.int .i64 (recM m r n), st)) (t : Tm) :
    t.ok → ∀ st, callD T (ev T) 84 [.agg (clM m d), encT t] st = some (.int .i64 (arrM (recM m r) t), st) := by
  induction t using Tm.ind with
  | h t ih =>
    intro ht st
    obtain ⟨k1, k2, k4, k5, k6, k7, k3⟩ := (Tm.ok_iff t).1 ht
    refine callD_pure (fn := F84) rfl rfl (by simp) (r := .int .i64 (arrM (recM m r) t)) (st1 := []) (st2 := []) ?_ (by simp) (by simp)
    rw [ev_eq 84 F84 rfl, F84, arrM_eq]
    have hr := hrec t.n [] k2
    cases hl : t.l with
    | nil =>
      by_cases h1 : t.k = 1
      · simp [h1, hl]
      · by_cases h2 : t.k = 2
        · simp [h1, h2, hl]
        · by_cases h3 : t.k = 3
          · simp [h1, h2, h3, hl]
          · by_cases h4 : t.k = 4
            · simp [h1, h2, h3, h4, hl, hr]
            · simp [h1, h2, h3, h4, hl]
    | cons x l =>
      by_cases h3 : t.k = 3
      · cases l with
        | nil =>
          have hx := ih x (by rw [hl]; simp) (k3 x (by rw [hl]; simp)) []
          have hp := c145 t.n (arrM (recM m r) x) (arrM_in _ (recM_in m r) x) []
          simp [h3, hl, ← encT_eq, hx, hp]
        | cons y l =>
          have e : ¬ ((l.length : Int) + 1 + 1 = 1) := by omega
          simp [h3, hl, e]
      · by_cases h1 : t.k = 1
        · simp [h1, hl]
        · by_cases h2 : t.k = 2
          · simp [h1, h2, hl]
          · by_cases h4 : t.k = 4
            · simp [h1, h2, h3, h4, hl]
            · simp [h1, h2, h3, h4, hl]


theorem l146 (m dd : Tm) (d : Int) (f : Tm → Int) (hf : ∀ t, 0 ≤ f t ∧ f t ≤ 64) (hdd : dd.ok) (hc : ∀ t st, t.ok → callD T (ev T) 84 [.agg (clM m d), encT t] st = some (.int .i64 (f t), st)) :
    ∀ (r i : Nat) (acc : Int) (s : List D) (bx : List (Nat × List D)), r = dd.l.length - i → i ≤ dd.l.length → 0 ≤ acc ∧ acc ≤ 64 → get s 2 = .lp 2 1 0 → getB bx 2 = (1, clM m d) → get s 5 = .lp 5 1 0 → getB bx 5 = (1, clT dd) → get s 44 = .i dd.l.length → get s 45 = .int .i64 i → get s 6 = .int .i64 acc →
    Stops (lp T L146_0 ⟨⟨s, bx⟩, []⟩) fun e s' _ st' => st' = [] ∧ (e = .exit 0 ∧ get s' 6 = .int .i64 (sumM f (dd.l.drop i) acc) ∨ e = .ret ∧ get s' 4 = .int .i64 0 ∧ sumM f (dd.l.drop i) acc = 0) := by
  obtain ⟨k1, k2, k4, k5, k6, k7, k3⟩ := (Tm.ok_iff dd).1 hdd
  intro r
  induction r with
  | zero =>
    intro i acc s bx hr hi ha h2 b2 h5 b5 h44 h45 h6
    have e : i = dd.l.length := by omega
    subst e
    rw [lp_kL, L146_0, List.drop_length]
    simp [h2, b2, h5, b5, h44, h45, h6, sumM]
  | succ r ihr =>
    intro i acc s bx hr hi ha h2 b2 h5 b5 h44 h45 h6
    have hlt : i < dd.l.length := by omega
    have hw : IntKind.wrap .i64 ((i : Int) + 1) = i + 1 := by rw [wrap64] <;> omega
    rw [lp_kL, L146_0, List.drop_eq_getElem_cons hlt, sumM]
    have hok := k3 _ (List.getElem_mem hlt)
    by_cases hk : dd.l[i].k = 34
    · match hl : dd.l[i].l with
      | [] => simp [h2, b2, h5, b5, h44, h45, h6, hlt, hk, hl]
      | [x] =>
        have hx := hc x [] (((Tm.ok_iff _).1 hok).2.2.2.2.2.2 x (by rw [hl]; simp))
        have hfx := hf x
        have hw2 : IntKind.wrap .i64 (acc + f x) = acc + f x := by rw [wrap64] <;> omega
        by_cases h0 : f x = 0
        · have hw3 : IntKind.wrap .i64 acc = acc := by rw [wrap64] <;> omega
          simp [h2, b2, h5, b5, h44, h45, h6, hlt, hk, hl, ← encT_eq, hx, h0, hw3]
        · by_cases h1 : 64 < acc + f x
          · simp [h2, b2, h5, b5, h44, h45, h6, hlt, hk, hl, ← encT_eq, hx, h0, h1, hw2]
          · simp [h2, b2, h5, b5, h44, h45, h6, hlt, hk, hl, ← encT_eq, hx, h0, h1, hw2, hw]
            rw [← L146_0]
            refine ihr (i + 1) (acc + f x) _ _ (by omega) (by omega) (by omega) ?_ ?_ ?_ ?_ ?_ ?_ ?_
            iterate 7 simp [h2, b2, h5, b5, h44]
      | x :: y :: l =>
        have e : ¬ ((l.length : Int) + 1 + 1 = 1) := by omega
        simp [h2, b2, h5, b5, h44, h45, h6, hlt, hk, hl, e]
    · simp [h2, b2, h5, b5, h44, h45, h6, hlt, hk]
      split <;> rfl

theorem c146 (m : Tm) (hm : m.ok) (hb : m.l.length ≤ 1000000) : ∀ (r : Nat) (d : Nat) (n : Int) (st : St), d + r = m.l.length + 1 → in64 n → callD T (ev T) 146 [.agg (clM m d), .int .i64 n] st = some (.int .i64 (recM m r n), st) := by
  obtain ⟨k1, k2, k4, k5, k6, k7, k3⟩ := (Tm.ok_iff m).1 hm
  intro r
  induction r with
  | zero =>
    intro d n st hd hn
    refine callD_pure (fn := F146) rfl rfl (by simp) (r := .int .i64 0) (st1 := []) (st2 := []) ?_ (by simp [recM]) (by simp)
    rw [ev_eq 146 F146 rfl, F146]
    by_cases h1 : n < 0
    · simp [h1]
    · by_cases h2 : (m.l.length : Int) ≤ n
      · simp [h1, h2]
      · have h3 : m.l.length < d := by omega
        simp [h1, h2, h3]
  | succ r ih =>
    intro d n st hd hn
    have hc : ∀ t st, t.ok → callD T (ev T) 84 [.agg (clM m (d + 1 : Nat)), encT t] st = some (.int .i64 (arrM (recM m r) t), st) :=
      fun t st ht => c84 m _ r (fun n st hn => ih (d + 1) n st (by omega) hn) t ht st
    refine callD_pure (fn := F146) rfl rfl (by simp) (r := .int .i64 (recM m (r + 1) n)) (st1 := []) (st2 := []) ?_ (by simp) (by simp)
    rw [ev_eq 146 F146 rfl, F146, recM]
    by_cases h1 : n < 0
    · have e : ¬ (0 ≤ n ∧ n < m.l.length) := by omega
      rw [dif_neg e]
      simp [h1]
    · by_cases h2 : (m.l.length : Int) ≤ n
      · have e : ¬ (0 ≤ n ∧ n < m.l.length) := by omega
        rw [dif_neg e]
        simp [h1, h2]
      · have e : 0 ≤ n ∧ n < m.l.length := by omega
        have h3 : ¬ m.l.length < d := by omega
        have h4 : n.toNat < m.l.length := by omega
        have hw : IntKind.wrap .i64 ((d : Int) + 1) = d + 1 := by rw [wrap64] <;> omega
        rw [dif_pos e]
        by_cases h5 : m.l[n.toNat].k = 30
        · rw [if_pos h5]
          simp [h1, h2, h3, h4, h5, hw]
          refine (l146 m m.l[n.toNat] (d + 1 : Nat) (arrM (recM m r)) (arrM_in _ (recM_in m r)) (k3 _ (List.getElem_mem h4)) hc _ 0 0 _ _ rfl (by omega) (by omega) ?_ ?_ ?_ ?_ ?_ ?_ ?_).use (fun r => kfin _ (kseq _ (kblock 0 r)) = _) ?_
          iterate 7 simp [h5]
          rintro e s' b' st ⟨rfl, ⟨rfl, g⟩ | ⟨rfl, g, g'⟩⟩
          · simp [g]
          · simp at g'
            simp [g, g']
        · rw [if_neg h5]
          simp [h1, h2, h3, h4, h5]

/-- A type's cells. -/
def cellsV (m t : Tm) : Int := arrM (recM m (m.l.length + 1)) t

theorem c46 (m t : Tm) (hm : m.ok) (hb : m.l.length ≤ 1000000) (ht : t.ok) (st : St) : callD T (ev T) 46 [encT m, encT t] st = some (.int .i64 (cellsV m t), st) := by
  refine callD_pure (fn := F46) rfl rfl (by simp) (r := .int .i64 (cellsV m t)) (st1 := []) (st2 := []) ?_ (by simp) (by simp)
  have h := c84 m (0 : Nat) (m.l.length + 1) (fun n st hn => c146 m hm hb _ 0 n st (by omega) hn) t ht []
  rw [ev_eq 46 F46 rfl, F46]
  simp at h
  simp [fillD, ← encT_eq, h, cellsV]

end Go.Nt.Ty

/-
  TYPES OF EXPRESSIONS, as plain functions on terms.
  No condition.
-/
set_option linter.unusedSimpArgs false
namespace Go.Nt.Ty
open Go Go.Nt

@[simp] theorem cast1 (m : Nat) : ((m : Int) = 1) = (m = 1) := propext (by omega)
@[simp] theorem cast2 (m : Nat) : ((m : Int) = 2) = (m = 2) := propext (by omega)
@[simp] theorem cast3 (m : Nat) : ((m : Int) = 3) = (m = 3) := propext (by omega)
@[simp] theorem cast_ss1 (m : Nat) : ((m : Int) + 1 + 1 = 1) = False := eq_false (by omega)
@[simp] theorem cast_sss1 (m : Nat) : ((m : Int) + 1 + 1 + 1 = 1) = False := eq_false (by omega)
@[simp] theorem cast_sss2 (m : Nat) : ((m : Int) + 1 + 1 + 1 = 2) = False := eq_false (by omega)
@[simp] theorem cast_pos (m : Nat) : ((0 : Int) < m) = (0 < m) := propext (by omega)

abbrev tK (k : Int) : Tm := .mk k 0 [] .nil [] 0 0
abbrev T0 : Tm := tK 0
theorem encT_K (k : Int) : encT (tK k) = .agg [.int .i64 k, .int .i64 0, .str [], .nils, .int .i64 0, .int .i64 0] := by simp [encT, slE]
theorem encT_0 : encT T0 = .agg [.int .i64 0, .int .i64 0, .str [], .nils, .int .i64 0, .int .i64 0] := encT_K 0

@[simp] theorem k_mk (k n : Int) (s : List UInt8) (fl : Fl) (l : List Tm) (a b : Int) : (Tm.mk k n s fl l a b).k = k := rfl
@[simp] theorem n_mk (k n : Int) (s : List UInt8) (fl : Fl) (l : List Tm) (a b : Int) : (Tm.mk k n s fl l a b).n = n := rfl
@[simp] theorem s_mk (k n : Int) (s : List UInt8) (fl : Fl) (l : List Tm) (a b : Int) : (Tm.mk k n s fl l a b).s = s := rfl
@[simp] theorem fl_mk (k n : Int) (s : List UInt8) (fl : Fl) (l : List Tm) (a b : Int) : (Tm.mk k n s fl l a b).fl = fl := rfl
@[simp] theorem l_mk (k n : Int) (s : List UInt8) (fl : Fl) (l : List Tm) (a b : Int) : (Tm.mk k n s fl l a b).l = l := rfl
@[simp] theorem a_mk (k n : Int) (s : List UInt8) (fl : Fl) (l : List Tm) (a b : Int) : (Tm.mk k n s fl l a b).a = a := rfl
@[simp] theorem b_mk (k n : Int) (s : List UInt8) (fl : Fl) (l : List Tm) (a b : Int) : (Tm.mk k n s fl l a b).b = b := rfl

mutual
  /-- A right term, none of whose lists is long. -/
  def good : Tm → Prop
    | .mk k n s _ l a b => in64 k ∧ in64 n ∧ s.length ≤ 9223372036854775807 ∧ in64 a ∧ in64 b ∧ l.length ≤ 1000000 ∧ goods l
  def goods : List Tm → Prop
    | [] => True
    | v :: l => good v ∧ goods l
end
theorem goods_iff (l : List Tm) : goods l ↔ ∀ v, v ∈ l → good v := by
  induction l with
  | nil => simp [goods]
  | cons v l ih => simp [goods, ih]
theorem good_iff (v : Tm) : good v ↔ in64 v.k ∧ in64 v.n ∧ v.s.length ≤ 9223372036854775807 ∧ in64 v.a ∧ in64 v.b ∧ v.l.length ≤ 1000000 ∧ ∀ u, u ∈ v.l → good u := by
  cases v; simp [good, goods_iff]
theorem good_of (t : Tm) : t.ok → cntT t ≤ 1000000 → good t := by
  induction t using Tm.ind with
  | h t ih =>
    intro h hc
    obtain ⟨k1, k2, k4, k5, k6, k7, k3⟩ := (Tm.ok_iff t).1 h
    rw [cntT_eq] at hc
    have := cntTs_len t.l
    exact (good_iff t).2 ⟨k1, k2, k4, k5, k6, by omega, fun u hu => ih u hu (k3 u hu) (by have := cntTs_mem hu; omega)⟩
theorem good_ok (t : Tm) : good t → t.ok := by
  induction t using Tm.ind with
  | h t ih =>
    intro h
    obtain ⟨k1, k2, k4, k5, k6, k7, k3⟩ := (good_iff t).1 h
    exact (Tm.ok_iff t).2 ⟨k1, k2, k4, k5, k6, by omega, fun u hu => ih u hu (k3 u hu)⟩
theorem good_K (k : Int) (h : in64 k) : good (tK k) := (good_iff _).2 ⟨h, by simp [in64], by simp, by simp [in64], by simp [in64], by simp, fun u hu => by cases hu⟩

def litT (t : Tm) : Tm := if t.k = 5 then tK 1 else if t.k = 6 then tK 2 else T0
def isT (t : Tm) (k : Int) : Bool := decide (t.k = k) && t.l.isEmpty
def shapedT (t : Tm) : Bool :=
  if t.k = 5 ∨ t.k = 7 ∨ t.k = 8 ∨ t.k = 9 ∨ t.k = 18 then decide (t.l.length = 0) else
  if t.k = 6 then decide (t.l.length = 0) && (decide (t.n = 0) || decide (t.n = 1)) else
  if t.k = 11 then decide (t.l.length = 1) && (decide (t.n = 1) || decide (t.n = 2)) else
  if t.k = 10 then decide (t.l.length = 2) && (decide (1 ≤ t.n) && decide (t.n ≤ 13)) else
  if t.k = 13 then decide (t.l.length = 1) else
  if t.k = 12 then decide (t.l.length = 2) else
  if t.k = 14 ∨ t.k = 15 then decide (0 < t.l.length) else
  decide (t.k = 16) || decide (t.k = 17)

def bfl : List Tm → Fl
  | [] => .nil
  | _ :: _ => .full
/-- A term without places. -/
def bareT : Tm → Tm
  | .mk k n s _ l _ _ => .mk k n s (bfl l) (l.map bareT) 0 0
theorem bareT_eq (t : Tm) : bareT t = .mk t.k t.n t.s (bfl t.l) (t.l.map bareT) 0 0 := by cases t; simp [bareT]

/-- Alike, but for places. -/
def sameT : Tm → Tm → Bool
  | .mk k n s _ l _ _, u => k == u.k && (n == u.n && (s == u.s && sameTs l u.l))
where sameTs : List Tm → List Tm → Bool
  | [], [] => true
  | a :: l, b :: k => sameT a b && sameTs l k
  | _, _ => false
theorem sameT_eq (a b : Tm) : sameT a b = (a.k == b.k && (a.n == b.n && (a.s == b.s && sameT.sameTs a.l b.l))) := by cases a; simp [sameT]

def badPart (p : Tm) : Bool := decide (p.k ≠ 34) || decide (p.l.length ≠ 1)
def declT (m : Tm) (n : Int) (kind : Int) : Tm × Bool :=
  if h : 0 ≤ n ∧ n < m.l.length then
    (if (m.l[n.toNat]'(by omega)).k = kind then
      (if kind = 31 then (m.l[n.toNat]'(by omega), decide ((m.l[n.toNat]'(by omega)).l.length = 1) && decide ((litT ((m.l[n.toNat]'(by omega)).l.headD T0)).k ≠ 0)) else
       if kind = 32 then (m.l[n.toNat]'(by omega), decide ((m.l[n.toNat]'(by omega)).l.length = 1)) else
       if kind = 33 then (m.l[n.toNat]'(by omega), decide ((m.l[n.toNat]'(by omega)).l.length = 3)) else
       if (m.l[n.toNat]'(by omega)).l.any badPart then (T0, false) else (m.l[n.toNat]'(by omega), decide (0 < (m.l[n.toNat]'(by omega)).l.length)))
     else (T0, false))
  else (T0, false)

/-- The last locals come first. -/
def localT (locs : List Tm) (n : Int) : Option Tm := if 0 ≤ n ∧ n < locs.length then locs[locs.length - 1 - n.toNat]? else none

def namedT (m : Tm) (locs : List Tm) (t : Tm) : Tm × Bool :=
  if t.k = 7 then (match localT locs t.n with | some d => (d, true) | none => (T0, false)) else
  if t.k = 8 then (if (declT m t.n 31).2 then (litT ((declT m t.n 31).1.l.headD T0), true) else (T0, false)) else
  if t.k = 9 then (if (declT m t.n 32).2 then ((declT m t.n 32).1.l.headD T0, true) else (T0, false)) else
  if t.k = 15 then declT m t.n 30 else
  if t.k = 16 then declT m t.n 33 else
  if t.k = 17 then (T0, false) else (T0, true)

def binT (op : Int) (a b : Tm) : Tm :=
  if (op ≤ 2 ∧ (isT a 2 && isT b 2) = true) ∨ ((3 ≤ op ∧ op ≤ 4) ∧ ((isT a 1 && isT b 1) || (isT a 2 && isT b 2)) = true) ∨ ((5 ≤ op ∧ op ≤ 8) ∧ (isT a 1 && isT b 1) = true) then tK 2
  else if 9 ≤ op ∧ (isT a 1 && isT b 1) = true then tK 1 else T0

def leafT (k : Int) (d : Tm) : Tm := if k = 5 ∨ k = 18 then tK 1 else if k = 6 then tK 2 else bareT d

def typField (m : Tm) (n : Int) : Tm × Bool :=
  if h : 0 ≤ n ∧ n.tdiv 64 < m.l.length then
    (match (m.l[(n.tdiv 64).toNat]'(by have := Int.tdiv_nonneg h.1 (by omega : (0:Int) ≤ 64); omega)).l[(n.tmod 64).toNat]? with
     | some p => if (m.l[(n.tdiv 64).toNat]'(by have := Int.tdiv_nonneg h.1 (by omega : (0:Int) ≤ 64); omega)).k = 30 ∧ p.k = 34 ∧ p.l.length = 1 then (p.l.headD T0, true) else (T0, false)
     | none => (T0, false))
  else (T0, false)

/-- A field by its name: its place among so many. -/
def byName (s : List UInt8) : Nat → List Tm → Option (Nat × Tm)
  | _, [] => none
  | i, p :: l => if p.s = s ∧ i < 64 then some (i, p.l.headD T0) else byName s (i + 1) l

def fieldT (m : Tm) (n : Int) (s : List UInt8) (of : Tm) : Int × Tm × Bool :=
  if (declT m of.n 30).2 then
    (if s = [] then (n, bareT (typField m n).1, (typField m n).2 && decide (n.tdiv 64 = of.n)) else
     match byName s 0 (declT m of.n 30).1.l with
     | some (i, f) => (of.n * 64 + i, bareT f, true)
     | none => (0, T0, false))
  else (0, T0, false)

def allT : List Tm → List Tm → Bool
  | [], [] => true
  | t :: ts, p :: ps => (decide (p.l.length = 1) && sameT t (bareT (p.l.headD T0))) && allT ts ps
  | _, _ => false

def listT (m : Tm) (p0 : Tm) (ts : List Tm) : Tm × Int :=
  if ts.all (fun t => sameT t p0) then
    (if cellsV m (.mk 3 ts.length [] .full [p0] 0 0) = 0 then (T0, 11) else (.mk 3 ts.length [] .full [p0] 0 0, 0))
  else (T0, 10)

/-- A rule's answer: the type, the error (0: none), the number. -/
def ruleT (m : Tm) (k n : Int) (s : List UInt8) (d : Tm) (p : List Tm) : Tm × Int × Int :=
  if k = 5 ∨ k = 18 ∨ k = 6 ∨ k = 7 ∨ k = 8 ∨ k = 9 then (leafT k d, 0, n) else
  if k = 10 then (match p with | [a, b] => (binT n a b, if (binT n a b).k = 0 then 10 else 0, n) | _ => (T0, 10, n)) else
  if k = 11 then (match p with | [a] => if (n = 1 ∧ isT a 1 = true) ∨ (n = 2 ∧ isT a 2 = true) then (a, 0, n) else (T0, 10, n) | _ => (T0, 10, n)) else
  if k = 12 then (match p with | [a, b] => if (a.k = 3 ∧ a.l.length = 1) ∧ isT b 1 = true then (a.l.headD T0, 0, n) else (T0, 10, n) | _ => (T0, 10, n)) else
  if k = 13 then (match p with | [a] => if a.k = 4 ∧ a.l = [] then (if (fieldT m n s a).2.2 then ((fieldT m n s a).2.1, 0, (fieldT m n s a).1) else (T0, 8, n)) else (T0, 10, n) | _ => (T0, 10, n)) else
  if k = 14 then ((listT m (p.headD T0) p).1, (listT m (p.headD T0) p).2, n) else
  if k = 15 then (if allT p d.l then (.mk 4 n [] .nil [] 0 0, 0, n) else (T0, 10, n)) else
  if k = 16 then (if allT p (d.l.headD T0).l then (bareT ((d.l.tail).headD T0), 0, n) else (T0, 10, n)) else (T0, 10, n)

mutual
  /-- An expression's type and settled form; or the place and what is wrong. -/
  def ofT (m : Tm) (locs : List Tm) : Tm → Except (Int × Int) (Tm × Tm)
    | .mk k n s fl l a b =>
      if shapedT (.mk k n s fl l a b) = false then .error (a, 12) else
      if (namedT m locs (.mk k n s fl l a b)).2 = false then .error (a, 8) else
      match ofTs m locs l with
      | .error e => .error e
      | .ok (ts, ss) =>
        if (ruleT m k n s (namedT m locs (.mk k n s fl l a b)).1 ts).2.1 = 0 then .ok ((ruleT m k n s (namedT m locs (.mk k n s fl l a b)).1 ts).1, .mk k (ruleT m k n s (namedT m locs (.mk k n s fl l a b)).1 ts).2.2 [] .nil ss 0 0)
        else .error (a, (ruleT m k n s (namedT m locs (.mk k n s fl l a b)).1 ts).2.1)
  def ofTs (m : Tm) (locs : List Tm) : List Tm → Except (Int × Int) (List Tm × List Tm)
    | [] => .ok ([], [])
    | t :: l => match ofT m locs t with
      | .error e => .error e
      | .ok (a, s) => match ofTs m locs l with
        | .error e => .error e
        | .ok (ts, ss) => .ok (a :: ts, s :: ss)
end
theorem ofT_eq (m : Tm) (locs : List Tm) (t : Tm) : ofT m locs t = if shapedT t = false then .error (t.a, 12) else
      if (namedT m locs t).2 = false then .error (t.a, 8) else
      match ofTs m locs t.l with
      | .error e => .error e
      | .ok (ts, ss) =>
        if (ruleT m t.k t.n t.s (namedT m locs t).1 ts).2.1 = 0 then .ok ((ruleT m t.k t.n t.s (namedT m locs t).1 ts).1, .mk t.k (ruleT m t.k t.n t.s (namedT m locs t).1 ts).2.2 [] .nil ss 0 0)
        else .error (t.a, (ruleT m t.k t.n t.s (namedT m locs t).1 ts).2.1) := by
  cases t; simp only [ofT, k_mk, n_mk, s_mk, a_mk, l_mk] <;> rfl

/-- An element of a slice written. -/
theorem kHs_encT {st : St} {i v sz m x' : Nat} {es : List D} {y z : Tm} (hat : St.at st i = .cells false sz v m false es) (hz : es[x']? = some (encT z)) :
    kHs st i v sz x' 0 (encT y) (.cells false sz v m false es) = some (.undef, none, some (List.set st i (.cells false sz v (m + 1) false (es.set x' (encT y))))) := by
  simp [kHs, hat, hz, splice, ← encT_eq]

end Go.Nt.Ty

/-
  RIGHT MODULES, as plain functions on terms: statements, declarations, a module's settled form.
  No condition.
-/
set_option linter.unusedSimpArgs false
namespace Go.Nt.Ty
open Go Go.Nt

/-- A grown list's flag. -/
def pfl : List Tm → Fl
  | [] => .nil
  | _ :: _ => .part

/-- A term without names and places. -/
def cleanT : Tm → Tm
  | .mk k n _ _ l _ _ => .mk k n [] (pfl l) (l.map cleanT) 0 0
theorem cleanT_eq (t : Tm) : cleanT t = .mk t.k t.n [] (pfl t.l) (t.l.map cleanT) 0 0 := by cases t; simp [cleanT]

/-- Has a statement the parts that its kind asks for? -/
def partsN (k : Int) : Nat × Nat := if k = 22 then (2, 0) else if k = 23 then (3, 2) else if k = 24 then (2, 1) else if k = 25 then (3, 1) else (1, 0)
def isStmt (k : Int) : Bool := decide (k = 20) || decide (k = 21) || decide (k = 22) || decide (k = 23) || decide (k = 24) || decide (k = 25) || decide (k = 26) || decide (k = 27) || decide (k = 28)
def shapeT (t : Tm) : Bool :=
  if t.k = 29 then true else isStmt t.k && (decide (t.l.length = (partsN t.k).1) && (t.l.drop ((partsN t.k).1 - (partsN t.k).2)).all fun x => decide (x.k = 29))

/-- The root of a place. -/
def rootT : Tm → Tm
  | .mk k n s fl l a b => if k = 12 ∨ k = 13 then (match l with | [] => .mk k n s fl l a b | x :: _ => rootT x) else .mk k n s fl l a b

theorem rootT_eq (t : Tm) : rootT t = if t.k = 12 ∨ t.k = 13 then (match t.l with | [] => t | x :: _ => rootT x) else t := by
  cases t with
  | mk k n s fl l a b => rw [rootT.eq_def] <;> rfl
theorem root_in {t : Tm} (h : t.k = 12 ∨ t.k = 13) : rootT t = (match t.l with | [] => t | x :: _ => rootT x) := by rw [rootT_eq, if_pos h]
theorem root_out {t : Tm} (h : ¬ (t.k = 12 ∨ t.k = 13)) : rootT t = t := by rw [rootT_eq, if_neg h]

abbrev Er (α : Type) : Type := Except (Int × Int) α

/-- An expression of one of two kinds of types. -/
def onlyT (m : Tm) (locs : List Tm) (t : Tm) (k1 k2 : Int) : Er Tm :=
  match ofT m locs t with
  | .error e => .error e
  | .ok (a, s) => if (isT a k1 || isT a k2) = true then .ok s else .error (t.a, 10)

/-- A type that may stand. -/
def kindT (m t : Tm) : Er Tm := if cellsV m t = 0 then .error (t.a, 11) else .ok (cleanT t)

/-- What a statement without blocks settles to, and the local that it brings. -/
def leafS (m ret : Tm) (locs : List Tm) (k : Int) (a0 : Int) (l : List Tm) : Er (List Tm × List Tm) :=
  match l with
  | [t] =>
    if k = 20 then (match ofT m locs t with | .error e => .error e | .ok (a, s) => .ok ([s], locs ++ [a])) else
    if k = 21 then (match kindT m t with | .error e => .error e | .ok s => .ok ([s], locs ++ [t])) else
    if k = 26 then (match onlyT m locs t 1 2 with | .error e => .error e | .ok s => .ok ([s], locs)) else
    if k = 27 then (match ofT m locs t with | .error e => .error e | .ok (a, s) => if sameT a (bareT ret) = true then .ok ([s], locs) else .error (t.a, 10)) else
    if t.k ≠ 16 then .error (t.a, 12) else (match ofT m locs t with | .error e => .error e | .ok (_, s) => .ok ([s], locs))
  | [t, u] => (match ofT m locs t with
    | .error e => .error e
    | .ok (a, s) => match ofT m locs u with
      | .error e => .error e
      | .ok (b, v) => if (rootT t).k ≠ 7 ∧ (rootT t).k ≠ 9 then .error (t.a, 12) else if sameT a b = true then .ok ([s, v], locs) else .error (a0, 10))
  | _ => .error (a0, 12)

mutual
  /-- A statement's settled form, and the locals behind it. -/
  def stmtT (m ret : Tm) : List Tm → Tm → Er (Tm × List Tm)
    | locs, .mk k n s fl l a b =>
      if shapeT (.mk k n s fl l a b) = false then .error (a, 12) else
      if k = 29 then (match blkT m ret locs l with | .error e => .error e | .ok ss => .ok (.mk 29 n [] (pfl ss) ss 0 0, locs)) else
      if k = 23 ∨ k = 24 ∨ k = 25 then (match nesT m ret k (if k = 25 then 1 else 2) locs l with | .error e => .error e | .ok ss => .ok (.mk k n [] (pfl ss) ss 0 0, locs)) else
      match leafS m ret locs k a l with
      | .error e => .error e
      | .ok (ss, locs') => .ok (.mk k n [] .full ss 0 0, locs')
  /-- A block's statements. -/
  def blkT (m ret : Tm) : List Tm → List Tm → Er (List Tm)
    | _, [] => .ok []
    | locs, t :: l => match stmtT m ret locs t with
      | .error e => .error e
      | .ok (s, locs') => match blkT m ret locs' l with
        | .error e => .error e
        | .ok ss => .ok (s :: ss)
  /-- The parts of a statement with blocks. -/
  def nesT (m ret : Tm) (k want : Int) : List Tm → List Tm → Er (List Tm)
    | _, [] => .ok []
    | locs, .mk xk xn xs xfl xl xa xb :: l =>
      match (if xk ≠ 29 then onlyT m locs (.mk xk xn xs xfl xl xa xb) want want else
        match blkT m ret (if k = 25 then locs ++ [tK 1] else locs) xl with
        | .error e => .error e
        | .ok ss => .ok (.mk 29 xn [] (pfl ss) ss 0 0)) with
      | .error e => .error e
      | .ok s => match nesT m ret k want (if xk = 29 ∧ k = 25 then locs ++ [tK 1] else locs) l with
        | .error e => .error e
        | .ok ss => .ok (s :: ss)
end

def partedT (l : List Tm) : Bool := l.all fun p => decide (p.k = 34) && decide (p.l.length = 1)

/-- Is a type whose cells are known without records? -/
def plainT : Tm → Bool
  | .mk k _ _ _ l _ _ => if k = 3 then (match l with | x :: _ => plainT x | [] => true) else decide (k ≠ 4)

def kindsT (m : Tm) : List Tm → Er Unit
  | [] => .ok ()
  | t :: l => if cellsV m t = 0 then .error (t.a, 11) else kindsT m l
def plainsT (m : Tm) : List Tm → Er Unit
  | [] => .ok ()
  | t :: l => if plainT t = false then .error (t.a, 12) else plainsT m l

/-- A function's parameters' types, if its head is right. -/
def headT (m t : Tm) : Er (List Tm) :=
  match t.l with
  | [p, r, b] =>
    if (t.n ≠ 0 ∧ t.n ≠ 1) ∨ p.k ≠ 35 ∨ partedT p.l = false ∨ b.k ≠ 29 then .error (t.a, 12) else
    (match kindsT m (p.l.map (fun x => x.l.headD T0) ++ [r]) with
      | .error e => .error e
      | .ok () => match (if t.n = 1 then plainsT m (p.l.map (fun x => x.l.headD T0) ++ [r]) else .ok ()) with
        | .error e => .error e
        | .ok () => .ok (p.l.map (fun x => x.l.headD T0)))
  | _ => .error (t.a, 12)

def litOK (d : Tm) : Bool :=
  match d.l with
  | [x] => x.l.isEmpty && (decide (x.k = 5) || (decide (x.k = 6) && (decide (x.n = 0) || decide (x.n = 1))))
  | _ => false

/-- A declaration's settled form. -/
def declR (m : Tm) (i : Nat) (t : Tm) : Er Tm :=
  if t.k = 30 then (if t.l = [] ∨ partedT t.l = false then .error (t.a, 12) else if cellsV m (.mk 4 i [] .nil [] 0 0) = 0 then .error (t.a, 11) else .ok (cleanT t)) else
  if t.k = 31 then (if litOK t = false then .error (t.a, 12) else .ok (cleanT t)) else
  if t.k = 32 ∧ t.l.length = 1 then (if cellsV m (t.l.headD T0) = 0 then .error ((t.l.headD T0).a, 11) else .ok (cleanT t)) else
  if t.k = 33 then (match headT m t with
    | .error e => .error e
    | .ok tys => match blkT m (t.l.tail.headD T0) tys (t.l.tail.tail.headD T0).l with
      | .error e => .error e
      | .ok ss => .ok (.mk 33 t.n [] .part [cleanT (t.l.headD T0), cleanT (t.l.tail.headD T0), .mk 29 (t.l.tail.tail.headD T0).n [] (pfl ss) ss 0 0] 0 0)) else
  .error (t.a, 12)

def declsR (m : Tm) : Nat → List Tm → Er (List Tm)
  | _, [] => .ok []
  | i, d :: l => match declR m i d with
    | .error e => .error e
    | .ok s => match declsR m (i + 1) l with
      | .error e => .error e
      | .ok ss => .ok (s :: ss)

/-- A module's settled form. -/
def moduleT (m : Tm) : Er Tm := if m.k ≠ 36 then .error (m.a, 12) else
  match declsR m 0 m.l with
  | .error e => .error e
  | .ok ss => .ok (.mk 36 m.n [] (pfl ss) ss 0 0)

/-- Alike, and the second one without names and places. -/
def sameR : Tm → Tm → Bool
  | .mk k n _ _ l _ _, u => k == u.k && (n == u.n && (u.s == [] && (u.a == 0 && (u.b == 0 && sameRs l u.l))))
where sameRs : List Tm → List Tm → Bool
  | [], [] => true
  | a :: l, b :: k => sameR a b && sameRs l k
  | _, _ => false

theorem sameR_eq (t u : Tm) : sameR t u = (t.k == u.k && (t.n == u.n && (u.s == [] && (u.a == 0 && (u.b == 0 && sameR.sameRs t.l u.l))))) := by cases t; simp [sameR]

def rightT (m : Tm) : Bool := match moduleT m with
  | .error _ => false
  | .ok s => sameR s m
end Go.Nt.Ty

/-
  RIGHT MODULES BY THE REFERENCE, as plain functions on terms: types of expressions, statements, declarations.
  No condition.
-/
set_option linter.unusedSimpArgs false
namespace Go.Nt.Ty
open Go Go.Nt

/-- A term without places, as the reference makes it. -/
def bareE : Tm → Tm
  | .mk k n s _ l _ _ => .mk k n s .emp (l.map bareE) 0 0
theorem bareE_eq (t : Tm) : bareE t = .mk t.k t.n t.s .emp (t.l.map bareE) 0 0 := by cases t; simp [bareE]
/-- A term without names and places. -/
def nlE : Tm → Tm
  | .mk k n _ _ l _ _ => .mk k n [] .nil (l.map nlE) 0 0
theorem nlE_eq (t : Tm) : nlE t = .mk t.k t.n [] .nil (t.l.map nlE) 0 0 := by cases t; simp [nlE]

/-- Alike, places too. -/
def placedT : Tm → Tm → Bool
  | .mk k n s _ l a b, u => k == u.k && (n == u.n && (s == u.s && (a == u.a && (b == u.b && placedTs l u.l))))
where placedTs : List Tm → List Tm → Bool
  | [], [] => true
  | a :: l, b :: k => placedT a b && placedTs l k
  | _, _ => false
theorem placedT_eq (a b : Tm) : placedT a b = (a.k == b.k && (a.n == b.n && (a.s == b.s && (a.a == b.a && (a.b == b.b && placedT.placedTs a.l b.l))))) := by cases a; simp [placedT]
theorem placedTs_len : ∀ (l k : List Tm), l.length ≠ k.length → placedT.placedTs l k = false
  | [], [], h => absurd rfl h
  | [], _ :: _, _ => rfl
  | _ :: _, [], _ => rfl
  | a :: l, b :: k, h => by simp only [placedT.placedTs, placedTs_len l k (by simpa using h), Bool.and_false]

/-- Is neither a term nor a part of it a record's type? -/
def freeT : Tm → Bool
  | .mk k _ _ _ l _ _ => !decide (k = 4) && (l.map freeT).all id
theorem freeT_eq (t : Tm) : freeT t = (!decide (t.k = 4) && t.l.all freeT) := by cases t; simp [freeT, List.all_map] <;> rfl

/-- What a way leads to. -/
def atT : Tm → List Int → Tm × Bool
  | t, [] => (t, true)
  | t, i :: w => if h : 0 ≤ i ∧ i < t.l.length then atT (t.l[i.toNat]'(by omega)) w else (T0, false)

abbrev encW (w : List Int) : List D := w.map (.int .i64)

/-- A rule's answer by the reference: the type and the number, or what is wrong. -/
def ruleE (m : Tm) (k n : Int) (s : List UInt8) (d : Tm) (p : List Tm) : Except Int (Tm × Int) :=
  if k = 13 then (match p with
    | [a] => if a.k = 4 ∧ a.l = [] then (if (fieldT m n s a).2.2 then .ok (bareE (typField m (fieldT m n s a).1).1, (fieldT m n s a).1) else .error 8) else .error 10
    | _ => .error 10) else
  if k = 16 then (if allT p (d.l.headD T0).l then .ok (bareE (d.l.tail.headD T0), n) else .error 10) else
  if (ruleT m k n s d p).2.1 = 0 then .ok ((ruleT m k n s d p).1, n) else .error (ruleT m k n s d p).2.1

/-- The type of what has no parts. -/
def aloneE (m : Tm) (locs : List Tm) (t : Tm) : Tm :=
  if t.k = 7 ∨ t.k = 9 then bareE (namedT m locs t).1 else if t.k = 8 then (namedT m locs t).1 else if t.k = 18 then tK 1 else litT t

mutual
  /-- An expression's type and settled form by the reference. -/
  def ofE (m : Tm) (locs : List Tm) : Tm → Er (Tm × Tm)
    | .mk k n s fl l a b =>
      if shapedT (.mk k n s fl l a b) = false then .error (a, 12) else
      if (namedT m locs (.mk k n s fl l a b)).2 = false then .error (a, 8) else
      if l = [] ∧ k ≠ 16 then .ok (aloneE m locs (.mk k n s fl l a b), .mk k n [] .nil [] 0 0) else
      match ofsE m locs l with
      | .error e => .error e
      | .ok (ts, ss) => match ruleE m k n s (namedT m locs (.mk k n s fl l a b)).1 ts with
        | .error e => .error (a, e)
        | .ok (ty, n') => .ok (ty, .mk k n' [] .emp ss 0 0)
  def ofsE (m : Tm) (locs : List Tm) : List Tm → Er (List Tm × List Tm)
    | [] => .ok ([], [])
    | t :: l => match ofE m locs t with
      | .error e => .error e
      | .ok (a, s) => match ofsE m locs l with
        | .error e => .error e
        | .ok (ts, ss) => .ok (a :: ts, s :: ss)
end
theorem ofE_eq (m : Tm) (locs : List Tm) (t : Tm) : ofE m locs t = if shapedT t = false then .error (t.a, 12) else
      if (namedT m locs t).2 = false then .error (t.a, 8) else
      if t.l = [] ∧ t.k ≠ 16 then .ok (aloneE m locs t, .mk t.k t.n [] .nil [] 0 0) else
      match ofsE m locs t.l with
      | .error e => .error e
      | .ok (ts, ss) => match ruleE m t.k t.n t.s (namedT m locs t).1 ts with
        | .error e => .error (t.a, e)
        | .ok (ty, n') => .ok (ty, .mk t.k n' [] .emp ss 0 0) := by
  cases t; simp only [ofE, k_mk, n_mk, s_mk, a_mk, l_mk] <;> rfl

/-- The locals behind a statement that is right. -/
def bringsE (m : Tm) (locs : List Tm) (t : Tm) : List Tm :=
  if t.k = 20 ∧ t.l.length = 1 then locs ++ [match ofE m locs (t.l.headD T0) with | .ok (a, _) => a | .error _ => T0] else
  if t.k = 21 ∧ t.l.length = 1 then locs ++ [t.l.headD T0] else locs

/-- An expression that must be of one of two kinds of types. -/
def onlyE (m : Tm) (locs : List Tm) (t : Tm) (a b : Int) : Er Tm :=
  match ofE m locs t with
  | .error e => .error e
  | .ok (ty, s) => if (isT ty a || isT ty b) = true then .ok s else .error (t.a, 10)

/-- A statement's parts' number, and how many of them are blocks. -/
def partsE (k : Int) : Int × Int := if k = 20 ∨ k = 21 ∨ k = 26 ∨ k = 27 ∨ k = 28 then (1, 0) else if k = 22 then (2, 0) else if k = 23 then (3, 2) else if k = 24 then (2, 1) else if k = 25 then (3, 1) else (-1, 0)
def shapeE (t : Tm) : Bool := if t.k = 29 then true else decide ((t.l.length : Int) = (partsE t.k).1) && (t.l.drop ((partsE t.k).1 - (partsE t.k).2).toNat).all fun x => decide (x.k = 29)

/-- An expression's part of a statement. -/
def exprE (m ret : Tm) (locs : List Tm) (k : Int) (x : Tm) : Er Tm :=
  if k = 21 then (if cellsV m x = 0 then .error (x.a, 11) else .ok (nlE x)) else
  if k = 23 ∨ k = 24 then onlyE m locs x 2 2 else
  if k = 25 then onlyE m locs x 1 1 else
  if k = 26 then onlyE m locs x 1 2 else
  if k = 28 ∧ x.k ≠ 16 then .error (x.a, 12) else
  match ofE m locs x with
  | .error e => .error e
  | .ok (a, s) => if k = 27 ∧ sameT a (bareE ret) = false then .error (x.a, 10) else .ok s

def tyE (m : Tm) (locs : List Tm) (t : Tm) : Tm := match ofE m locs t with | .ok (a, _) => a | .error _ => T0

mutual
  /-- A statement's settled form. -/
  def stmtE (m ret : Tm) (locs : List Tm) : Tm → Er Tm
    | .mk k n s fl l a b =>
      if shapeE (.mk k n s fl l a b) = false then .error (a, 12) else
      if k = 29 then (match blkE m ret locs l with | .error e => .error e | .ok ss => .ok (.mk 29 n [] .emp ss 0 0)) else
      match prtsE m ret locs k ((partsE k).1 - (partsE k).2) 0 l with
      | .error e => .error e
      | .ok ss =>
        if k = 22 ∧ ((rootT (l.headD T0)).k ≠ 7 ∧ (rootT (l.headD T0)).k ≠ 9) then .error ((l.headD T0).a, 12) else
        if k = 22 ∧ sameT (tyE m locs (l.headD T0)) (tyE m locs (l.tail.headD T0)) = false then .error (a, 10) else
        .ok (.mk k n [] .emp ss 0 0)
  /-- A block's statements. -/
  def blkE (m ret : Tm) : List Tm → List Tm → Er (List Tm)
    | _, [] => .ok []
    | locs, t :: l => match stmtE m ret locs t with
      | .error e => .error e
      | .ok s => match blkE m ret (bringsE m locs t) l with
        | .error e => .error e
        | .ok ss => .ok (s :: ss)
  /-- A statement's parts, from the part i on. -/
  def prtsE (m ret : Tm) (locs : List Tm) (k from0 : Int) : Int → List Tm → Er (List Tm)
    | _, [] => .ok []
    | i, .mk xk xn xs xfl xl xa xb :: l =>
      match (if i ≥ from0 then (match blkE m ret (if k = 25 then locs ++ [tK 1] else locs) xl with
        | .error e => .error e
        | .ok ss => .ok (.mk xk xn [] .emp ss 0 0)) else exprE m ret locs k (.mk xk xn xs xfl xl xa xb)) with
      | .error e => .error e
      | .ok s => match prtsE m ret locs k from0 (i + 1) l with
        | .error e => .error e
        | .ok ss => .ok (s :: ss)
end

/-- A function. -/
def fnE (m t : Tm) : Er Tm :=
  match t.l with
  | [p, r, b] =>
    if (t.n ≠ 0 ∧ t.n ≠ 1) ∨ p.k ≠ 35 ∨ partedT p.l = false ∨ b.k ≠ 29 then .error (t.a, 12) else
    (match kindsT m (p.l.map (fun x => x.l.headD T0) ++ [r]) with
      | .error e => .error e
      | .ok () => match (if t.n = 1 then plainsT m (p.l.map (fun x => x.l.headD T0) ++ [r]) else .ok ()) with
        | .error e => .error e
        | .ok () => match blkE m r (p.l.map (fun x => x.l.headD T0)) b.l with
          | .error e => .error e
          | .ok ss => .ok (.mk t.k t.n [] .nil [nlE p, nlE r, .mk b.k b.n [] .emp ss 0 0] 0 0))
  | _ => .error (t.a, 12)

/-- A declaration. -/
def declE (m : Tm) (i : Nat) (t : Tm) : Er Tm :=
  if t.k = 33 then fnE m t else
  if t.k = 30 then (if t.l = [] ∨ partedT t.l = false then .error (t.a, 12) else if cellsV m (.mk 4 i [] .nil [] 0 0) = 0 then .error (t.a, 11) else .ok (nlE t)) else
  if t.k = 32 ∧ t.l.length = 1 then (if cellsV m (t.l.headD T0) = 0 then .error ((t.l.headD T0).a, 11) else .ok (nlE t)) else
  if t.k = 31 ∧ litOK t = true then .ok (nlE t) else .error (t.a, 12)

def declsE (m : Tm) : Nat → List Tm → Er (List Tm)
  | _, [] => .ok []
  | i, d :: l => match declE m i d with
    | .error e => .error e
    | .ok s => match declsE m (i + 1) l with
      | .error e => .error e
      | .ok ss => .ok (s :: ss)

def moduleE (m : Tm) : Er Tm := if m.k ≠ 36 then .error (m.a, 12) else
  match declsE m 0 m.l with
  | .error e => .error e
  | .ok ss => .ok (.mk 36 m.n [] .emp ss 0 0)

def rightE (m : Tm) : Bool := match moduleE m with
  | .error _ => false
  | .ok s => placedT s m
end Go.Nt.Ty

/-
  RIGHT MODULES: terms that are alike but for the flags of their rows; the types of expressions do not tell them apart.
  No condition.
-/
set_option linter.unusedSimpArgs false
namespace Go.Nt.Ty
open Go Go.Nt

/-- A term without its rows' flags. -/
def ufT : Tm → Tm
  | .mk k n s _ l a b => .mk k n s .nil (l.map ufT) a b
theorem ufT_eq (t : Tm) : ufT t = .mk t.k t.n t.s .nil (t.l.map ufT) t.a t.b := by cases t; simp [ufT]
@[simp] theorem uf_k (t : Tm) : (ufT t).k = t.k := by rw [ufT_eq] <;> rfl
@[simp] theorem uf_n (t : Tm) : (ufT t).n = t.n := by rw [ufT_eq] <;> rfl
@[simp] theorem uf_s (t : Tm) : (ufT t).s = t.s := by rw [ufT_eq] <;> rfl
@[simp] theorem uf_a (t : Tm) : (ufT t).a = t.a := by rw [ufT_eq] <;> rfl
@[simp] theorem uf_b (t : Tm) : (ufT t).b = t.b := by rw [ufT_eq] <;> rfl
@[simp] theorem uf_l (t : Tm) : (ufT t).l = t.l.map ufT := by rw [ufT_eq] <;> rfl
@[simp] theorem uf_fl (t : Tm) : (ufT t).fl = .nil := by rw [ufT_eq] <;> rfl
theorem uf_idem (t : Tm) : ufT (ufT t) = ufT t := by
  induction t using Tm.ind with
  | h t ih =>
    rw [ufT_eq (ufT t), ufT_eq t]
    simp only [k_mk, n_mk, s_mk, l_mk, a_mk, b_mk, List.map_map, Tm.mk.injEq, true_and, and_true]
    refine List.map_congr_left fun u hu => ?_
    exact ih u hu
theorem uf_map (l : List Tm) : (l.map ufT).map ufT = l.map ufT := by
  rw [List.map_map]; exact List.map_congr_left fun u _ => uf_idem u

theorem uf_bare (t : Tm) : ufT (bareE t) = ufT (bareT t) := by
  induction t using Tm.ind with
  | h t ih =>
    rw [ufT_eq, ufT_eq (bareT t), bareE_eq, bareT_eq]
    simp only [k_mk, n_mk, s_mk, l_mk, a_mk, b_mk, List.map_map, Tm.mk.injEq, true_and, and_true]
    exact List.map_congr_left fun u hu => ih u hu
theorem uf_bareT (t : Tm) : ufT (bareT (ufT t)) = ufT (bareT t) := by
  induction t using Tm.ind with
  | h t ih =>
    rw [ufT_eq, ufT_eq (bareT t), bareT_eq, bareT_eq t]
    simp only [k_mk, n_mk, s_mk, l_mk, a_mk, b_mk, uf_k, uf_n, uf_s, uf_l, List.map_map, Tm.mk.injEq, true_and, and_true]
    exact List.map_congr_left fun u hu => ih u hu
theorem bare_uf {t u : Tm} (h : ufT t = ufT u) : ufT (bareT t) = ufT (bareT u) := by rw [← uf_bareT t, h, uf_bareT]

theorem sameTs_uf : ∀ (l k : List Tm), (∀ a, a ∈ l → ∀ b, sameT (ufT a) (ufT b) = sameT a b) → sameT.sameTs (l.map ufT) (k.map ufT) = sameT.sameTs l k
  | [], [], _ => rfl
  | [], _ :: _, _ => rfl
  | _ :: _, [], _ => rfl
  | a :: l, b :: k, h => by
    simp only [List.map_cons, sameT.sameTs]
    rw [h a (by simp) b, sameTs_uf l k fun x hx => h x (by simp [hx])]
theorem sameT_uf (a : Tm) : ∀ b, sameT (ufT a) (ufT b) = sameT a b := by
  induction a using Tm.ind with
  | h a ih =>
    intro b
    rw [sameT_eq, sameT_eq a b]
    simp only [uf_k, uf_n, uf_s, uf_l]
    rw [sameTs_uf _ _ ih]
theorem sameT_uf1 (a b : Tm) : sameT (ufT a) b = sameT a b := by rw [← sameT_uf (ufT a) b, uf_idem, sameT_uf]
theorem sameTs_self : ∀ (l : List Tm), (∀ a, a ∈ l → sameT a a = true) → sameT.sameTs l l = true
  | [], _ => rfl
  | a :: l, h => by simp only [sameT.sameTs]; rw [h a (by simp), sameTs_self l fun x hx => h x (by simp [hx])] <;> rfl
theorem sameT_self (a : Tm) : sameT a a = true := by
  induction a using Tm.ind with
  | h a ih => rw [sameT_eq]; simp [sameTs_self _ ih]
theorem same_of_uf {a b : Tm} (h : ufT a = ufT b) : sameT a b = true := by rw [← sameT_uf, h, sameT_self]

theorem isT_uf (t : Tm) (k : Int) : isT (ufT t) k = isT t k := by simp [isT]
theorem arrM_uf (rec : Int → Int) (t : Tm) : arrM rec (ufT t) = arrM rec t := by
  induction t using Tm.ind with
  | h t ih =>
    rw [arrM_eq, arrM_eq rec t]
    simp only [uf_k, uf_n, uf_l, List.map_eq_nil_iff]
    congr 1
    congr 1
    match hl : t.l with
    | [] => rfl
    | [x] => simp only [List.map_cons, List.map_nil]; rw [ih x (by rw [hl]; simp)]
    | _ :: _ :: _ => rfl
theorem cells_uf (m t : Tm) : cellsV m (ufT t) = cellsV m t := arrM_uf _ t

theorem binT_uf (op : Int) (a b : Tm) : binT op (ufT a) (ufT b) = binT op a b := by simp only [binT, isT_uf]
theorem allT_uf : ∀ (p ps : List Tm), allT (p.map ufT) ps = allT p ps
  | [], [] => rfl
  | [], _ :: _ => rfl
  | _ :: _, [] => rfl
  | a :: p, b :: ps => by simp only [List.map_cons, allT]; rw [allT_uf p ps, sameT_uf1]
theorem headD_uf (l : List Tm) : (l.map ufT).headD T0 = ufT (l.headD T0) := by cases l <;> simp [ufT]
theorem listT_uf (m : Tm) (p : List Tm) : (listT m ((p.map ufT).headD T0) (p.map ufT)).2 = (listT m (p.headD T0) p).2 ∧ ufT (listT m ((p.map ufT).headD T0) (p.map ufT)).1 = ufT (listT m (p.headD T0) p).1 := by
  rw [headD_uf]
  unfold listT
  have e1 : (p.map ufT).all (fun t => sameT t (ufT (p.headD T0))) = p.all fun t => sameT t (p.headD T0) := by
    rw [List.all_map]
    congr 1
    funext t
    exact sameT_uf _ _
  have e2 : cellsV m (.mk 3 (p.map ufT).length [] .full [ufT (p.headD T0)] 0 0) = cellsV m (.mk 3 p.length [] .full [p.headD T0] 0 0) := by
    rw [← cells_uf m (.mk 3 p.length [] .full [p.headD T0] 0 0), ← cells_uf m (.mk 3 (p.map ufT).length [] .full [ufT (p.headD T0)] 0 0)]
    rw [ufT_eq, ufT_eq (.mk 3 p.length [] .full [p.headD T0] 0 0)]
    simp [uf_idem]
  rw [e1, e2]
  split
  · split
    · exact ⟨rfl, rfl⟩
    · refine ⟨rfl, ?_⟩
      rw [ufT_eq, ufT_eq (.mk 3 p.length [] .full [p.headD T0] 0 0)]
      simp [uf_idem]
  · exact ⟨rfl, rfl⟩
theorem fieldT_uf (m : Tm) (n : Int) (s : List UInt8) (a : Tm) : fieldT m n s (ufT a) = fieldT m n s a := by simp only [fieldT, uf_n]

theorem ruleT_uf (m : Tm) (k n : Int) (s : List UInt8) (d : Tm) (p : List Tm) : (ruleT m k n s d (p.map ufT)).2 = (ruleT m k n s d p).2 ∧ ufT (ruleT m k n s d (p.map ufT)).1 = ufT (ruleT m k n s d p).1 := by
  unfold ruleT
  by_cases h0 : k = 5 ∨ k = 18 ∨ k = 6 ∨ k = 7 ∨ k = 8 ∨ k = 9
  · rw [if_pos h0, if_pos h0]; exact ⟨rfl, rfl⟩
  rw [if_neg h0, if_neg h0]
  by_cases h10 : k = 10
  · rw [if_pos h10, if_pos h10]
    match p with
    | [] => exact ⟨rfl, rfl⟩
    | [_] => exact ⟨rfl, rfl⟩
    | [a, b] => simp [binT_uf]
    | _ :: _ :: _ :: _ => exact ⟨rfl, rfl⟩
  rw [if_neg h10, if_neg h10]
  by_cases h11 : k = 11
  · rw [if_pos h11, if_pos h11]
    match p with
    | [] => exact ⟨rfl, rfl⟩
    | [a] => simp only [List.map_cons, List.map_nil, isT_uf]; split <;> simp [uf_idem]
    | _ :: _ :: _ => exact ⟨rfl, rfl⟩
  rw [if_neg h11, if_neg h11]
  by_cases h12 : k = 12
  · rw [if_pos h12, if_pos h12]
    match p with
    | [] => exact ⟨rfl, rfl⟩
    | [_] => exact ⟨rfl, rfl⟩
    | [a, b] => simp only [List.map_cons, List.map_nil, isT_uf, uf_k, uf_l, List.length_map, headD_uf]; split <;> simp [uf_idem]
    | _ :: _ :: _ :: _ => exact ⟨rfl, rfl⟩
  rw [if_neg h12, if_neg h12]
  by_cases h13 : k = 13
  · rw [if_pos h13, if_pos h13]
    match p with
    | [] => exact ⟨rfl, rfl⟩
    | [a] => simp [fieldT_uf]
    | _ :: _ :: _ => exact ⟨rfl, rfl⟩
  rw [if_neg h13, if_neg h13]
  by_cases h14 : k = 14
  · rw [if_pos h14, if_pos h14]
    obtain ⟨a, b⟩ := listT_uf m p
    exact ⟨by simp only [a], b⟩
  rw [if_neg h14, if_neg h14]
  by_cases h15 : k = 15
  · rw [if_pos h15, if_pos h15, allT_uf]; exact ⟨rfl, rfl⟩
  rw [if_neg h15, if_neg h15]
  by_cases h16 : k = 16
  · rw [if_pos h16, if_pos h16, allT_uf]; exact ⟨rfl, rfl⟩
  rw [if_neg h16, if_neg h16]
  exact ⟨rfl, rfl⟩
end Go.Nt.Ty
