/-
  THE LEXERS, WALKED (4): words, signs, numbers.
  No condition.
-/
import Derived.Test.YtpfdoelhoiohdaaLkLex3
set_option linter.unusedSimpArgs false
namespace Go.Nt.Lk
open Go Go.Nt

theorem c145 (s : List UInt8) (st : St) : callD T (ev T) 145 [.str s] st = some (.bool (isWordB s), st) := by
  refine callD_pure (fn := F145) rfl rfl (by simp) (r := .bool (isWordB s)) (st1 := []) (st2 := []) ?_ (by simp) (by simp)
  rw [ev_eq 145 F145 rfl, F145]
  unfold isWordB
  by_cases h0 : s = [114, 101, 99]
  · simp [h0]
  by_cases h1 : s = [99, 111, 110, 115, 116]
  · simp [h1]
  by_cases h2 : s = [118, 97, 114]
  · simp [h2]
  by_cases h3 : s = [112, 117, 98]
  · simp [h3]
  by_cases h4 : s = [102, 110]
  · simp [h4]
  by_cases h5 : s = [105, 110, 116]
  · simp [h5]
  by_cases h6 : s = [98, 111, 111, 108]
  · simp [h6]
  by_cases h7 : s = [108, 101, 116]
  · simp [h7]
  by_cases h8 : s = [105, 102]
  · simp [h8]
  by_cases h9 : s = [101, 108, 115, 101]
  · simp [h9]
  by_cases h10 : s = [119, 104, 105, 108, 101]
  · simp [h10]
  by_cases h11 : s = [102, 111, 114]
  · simp [h11]
  by_cases h12 : s = [116, 111]
  · simp [h12]
  by_cases h13 : s = [112, 114, 105, 110, 116]
  · simp [h13]
  by_cases h14 : s = [114, 101, 116, 117, 114, 110]
  · simp [h14]
  by_cases h15 : s = [100, 111]
  · simp [h15]
  by_cases h16 : s = [116, 114, 117, 101]
  · simp [h16]
  by_cases h17 : s = [102, 97, 108, 115, 101]
  · simp [h17]
  by_cases h18 : s = [114, 101, 97, 100]
  · simp [h18]
  by_cases h19 : s = [110, 101, 119]
  · simp [h19]
  simp [h0, h1, h2, h3, h4, h5, h6, h7, h8, h9, h10, h11, h12, h13, h14, h15, h16, h17, h18, h19]

theorem c131 (c d : Int) (st : St) : callD T (ev T) 131 [.int .u8 c, .int .u8 d] st = some (.int .i64 (signN c d), st) := by
  refine callD_pure (fn := F131) rfl rfl (by simp) (r := .int .i64 (signN c d)) (st1 := []) (st2 := []) ?_ (by simp) (by simp)
  rw [ev_eq 131 F131 rfl, F131]
  unfold signN
  by_cases h61 : c = 61
  · by_cases q : d = 61 <;> simp [h61, q]
  by_cases h33 : c = 33
  · by_cases q : d = 61 <;> simp [h33, q]
  by_cases h60 : c = 60
  · by_cases q : d = 61 <;> simp [h60, q]
  by_cases h62 : c = 62
  · by_cases q : d = 61 <;> simp [h62, q]
  by_cases h38 : c = 38
  · by_cases q : d = 38 <;> simp [h38, q]
  by_cases h124 : c = 124
  · by_cases q : d = 124 <;> simp [h124, q]
  by_cases h123 : c = 123
  · simp [h123]
  by_cases h125 : c = 125
  · simp [h125]
  by_cases h40 : c = 40
  · simp [h40]
  by_cases h41 : c = 41
  · simp [h41]
  by_cases h91 : c = 91
  · simp [h91]
  by_cases h93 : c = 93
  · simp [h93]
  by_cases h44 : c = 44
  · simp [h44]
  by_cases h59 : c = 59
  · simp [h59]
  by_cases h58 : c = 58
  · simp [h58]
  by_cases h46 : c = 46
  · simp [h46]
  by_cases h43 : c = 43
  · simp [h43]
  by_cases h45 : c = 45
  · simp [h45]
  by_cases h42 : c = 42
  · simp [h42]
  by_cases h47 : c = 47
  · simp [h47]
  by_cases h37 : c = 37
  · simp [h37]
  by_cases h64 : c = 64
  · simp [h64]
  simp [h61, h33, h60, h62, h38, h124, h123, h125, h40, h41, h91, h93, h44, h59, h58, h46, h43, h45, h42, h47, h37, h64]

end Go.Nt.Lk
