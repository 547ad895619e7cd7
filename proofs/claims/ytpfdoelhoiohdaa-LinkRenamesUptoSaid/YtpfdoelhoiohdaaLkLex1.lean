/-
  THE LEXERS, WALKED (1): bytes; blanks and comments.
  No condition.
-/
import Derived.Test.YtpfdoelhoiohdaaLkIr
import Derived.Test.YtpfdoelhoiohdaaLkLex0
set_option linter.unusedSimpArgs false
namespace Go.Nt.Lk
open Go Go.Nt

theorem callD_raw {f : Nat} {fn : IFunc} (hT : T f = some fn) (hm : fn.mode = .raw) {args : List D} {st : St} (hargs : args.all D.okv = true) : callD T (ev T) f args st = ev T f args st := by
  simp only [callD, hT, hm, hargs, if_true]

theorem c79 (n : Int) (c : UInt8) (h : n = ch c) (st : St) : callD T (ev T) 79 [.int .u8 n] st = some (.bool (letterB c), st) := by
  subst h
  refine callD_pure (fn := F79) rfl rfl (by simp) (r := .bool (letterB c)) (st1 := []) (st2 := []) ?_ (by simp) (by simp)
  rw [ev_eq 79 F79 rfl, F79]
  unfold letterB
  generalize ch c = n
  by_cases h1 : 97 ≤ n
  · by_cases h2 : n ≤ 122
    · simp [h1, h2]
    · have h3 : ¬ n ≤ 90 := by omega
      have h4 : 65 ≤ n := by omega
      simp [h1, h2, h3, h4]
  · by_cases h3 : 65 ≤ n
    · by_cases h4 : n ≤ 90
      · simp [h1, h3, h4]
      · simp [h1, h3, h4]
    · simp [h1, h3]

theorem e127 (r : D) (n : Int) (c : UInt8) (h : n = ch c) (st : St) : ev T 127 [r, .int .u8 n] st = some (.bool (letterB c), st) := by
  subst h
  rw [ev_eq 127 F127 rfl, F127]
  unfold letterB
  generalize ch c = n
  by_cases h1 : 97 ≤ n
  · by_cases h2 : n ≤ 122
    · simp [h1, h2]
    · have h3 : ¬ n ≤ 90 := by omega
      have h4 : 65 ≤ n := by omega
      simp [h1, h2, h3, h4]
  · by_cases h3 : 65 ≤ n
    · by_cases h4 : n ≤ 90
      · simp [h1, h3, h4]
      · simp [h1, h3, h4]
    · simp [h1, h3]

theorem c80 (n : Int) (c : UInt8) (h : n = ch c) (st : St) : callD T (ev T) 80 [.int .u8 n] st = some (.bool (digitB c), st) := by
  subst h
  refine callD_pure (fn := F80) rfl rfl (by simp) (r := .bool (digitB c)) (st1 := []) (st2 := []) ?_ (by simp) (by simp)
  rw [ev_eq 80 F80 rfl, F80]
  unfold digitB
  by_cases h1 : 48 ≤ ch c <;> simp [h1]

theorem e129 (r : D) (n : Int) (c : UInt8) (h : n = ch c) (st : St) : ev T 129 [r, .int .u8 n] st = some (.bool (digitB c), st) := by
  subst h
  rw [ev_eq 129 F129 rfl, F129]
  unfold digitB
  by_cases h1 : 48 ≤ ch c <;> simp [h1]

theorem e126 (r : D) (n : Int) (c : UInt8) (h : n = ch c) (st : St) : ev T 126 [r, .int .u8 n] st = some (.bool (lineB c), st) := by
  subst h
  rw [ev_eq 126 F126 rfl, F126]
  simp [lineB]

theorem e144 (i v z x o : Nat) (n : Int) (c : UInt8) (h : n = ch c) (st : St) : ev T 144 [.hp i v z x o, .int .u8 n] st = some (.bool (moreB c), st) := by
  rw [ev_eq 144 F144 rfl, F144]
  have q1 : callD T (ev T) 127 [.hp i v z x o, .int .u8 n] st = some (.bool (letterB c), st) := by rw [callD_raw (fn := F127) rfl rfl (by simp), e127 _ n c h]
  have q2 : callD T (ev T) 129 [.hp i v z x o, .int .u8 n] st = some (.bool (digitB c), st) := by rw [callD_raw (fn := F129) rfl rfl (by simp), e129 _ n c h]
  unfold moreB
  cases h1 : letterB c <;> simp [q1, q2, h1]

theorem c77 (n : Int) (c : UInt8) (h : n = ch c) (st : St) : callD T (ev T) 77 [.int .u8 n] st = some (.bool (blankB c), st) := by
  subst h
  refine callD_pure (fn := F77) rfl rfl (by simp) (r := .bool (blankB c)) (st1 := []) (st2 := []) ?_ (by simp) (by simp)
  rw [ev_eq 77 F77 rfl, F77]
  unfold blankB
  by_cases h1 : ch c = 32
  · simp [h1]
  · by_cases h2 : ch c = 9
    · simp [h1, h2]
    · by_cases h3 : ch c = 10 <;> simp [h1, h2, h3]

theorem str_slice (s : List UInt8) (k k' : IntKind) (a b : Nat) (hab : a ≤ b) (hb : b ≤ s.length) : sliceD (.str s) (some (.int k a)) (some (.int k' b)) none = some (.str (seg s a b)) := by
  have h1 : (0 : Int) ≤ b := by omega
  have h2 : (b : Int) ≤ s.length := by omega
  have h3 : (0 : Int) ≤ a := by omega
  simp [sliceD, h1, h2, h3, hab, seg]

theorem c78 (s p : List UInt8) (a : Nat) (ha : a ≤ s.length) (hs : s.length ≤ 8192) (hp : p.length ≤ 8192) (st : St) :
    callD T (ev T) 78 [.str s, .int .i64 a, .str p] st = some (.bool (decide (a + p.length ≤ s.length) && decide (seg s a (a + p.length) = p)), st) := by
  refine callD_pure (fn := F78) rfl rfl (by simp) (r := .bool (decide (a + p.length ≤ s.length) && decide (seg s a (a + p.length) = p))) (st1 := []) (st2 := []) ?_ (by simp) (by simp)
  rw [ev_eq 78 F78 rfl, F78]
  have w1 : IntKind.wrap .i64 ((s.length : Int) - a) = ((s.length - a : Nat) : Int) := by rw [wrap64] <;> omega
  have w2 : IntKind.wrap .i64 ((a : Int) + p.length) = ((a + p.length : Nat) : Int) := by rw [wrap64] <;> omega
  by_cases h : a + p.length ≤ s.length
  · have h' : p.length ≤ s.length - a := by omega
    have q := str_slice s .i64 .i64 a (a + p.length) (by omega) h
    simp [w1, w2, h, h', q, -Int.natCast_add]
  · have h' : ¬ p.length ≤ s.length - a := by omega
    simp [w1, h, h']

end Go.Nt.Lk
