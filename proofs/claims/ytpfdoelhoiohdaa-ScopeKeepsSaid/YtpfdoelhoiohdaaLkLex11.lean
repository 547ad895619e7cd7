/-
  THE LEXERS, WALKED (1): bytes; blanks and comments.
  No condition.
-/
import Derived.Test.YtpfdoelhoiohdaaLkIrOk
import Derived.Test.YtpfdoelhoiohdaaLkLex0
set_option linter.unusedSimpArgs false
namespace Go.Nt.Lk
open Go Go.Nt

theorem callD_raw {f : Nat} {fn : IFunc} (hT : T f = some fn) (hm : fn.mode = .raw) {args : List D} {st : St} (hargs : args.all D.okv = true) : callD T (ev T) f args st = ev T f args st := by
  simp only [callD, hT, hm, hargs, if_true]

theorem c79 (n : Int) (c : UInt8) (h : n = ch c) (st : St) : callD T (ev T) 79 [.int .u8 n] st = some (.bool (letterB c), st) := by
  subst h
  refine callD_pure (fn := F79) rfl rfl (by simp) (r := .bool (letterB c)) (st1 := []) (st2 := []) ?_ (by simp) (by simp)
  rw [ev_eq 79 F79 rfl, F79]
  unfold letterB
  generalize ch c = n
  by_cases h1 : 97 ≤ n
  · by_cases h2 : n ≤ 122
    · simp [h1, h2]
    · have h3 : ¬ n ≤ 90 := by omega
      have h4 : 65 ≤ n := by omega
      simp [h1, h2, h3, h4]
  · by_cases h3 : 65 ≤ n
    · by_cases h4 : n ≤ 90
      · simp [h1, h3, h4]
      · simp [h1, h3, h4]
    · simp [h1, h3]

theorem e127 (r : D) (n : Int) (c : UInt8) (h : n = ch c) (st : St) : ev T 127 [r, .int .u8 n] st = some (.bool (letterB c), st) := by
  subst h
  rw [ev_eq 127 F127 rfl, F127]
  unfold letterB
  generalize ch c = n
  by_cases h1 : 97 ≤ n
  · by_cases h2 : n ≤ 122
    · simp [h1, h2]
    · have h3 : ¬ n ≤ 90 := by omega
      have h4 : 65 ≤ n := by omega
      simp [h1, h2, h3, h4]
  · by_cases h3 : 65 ≤ n
    · by_cases h4 : n ≤ 90
      · simp [h1, h3, h4]
      · simp [h1, h3, h4]
    · simp [h1, h3]

theorem c80 (n : Int) (c : UInt8) (h : n = ch c) (st : St) : callD T (ev T) 80 [.int .u8 n] st = some (.bool (digitB c), st) := by
  subst h
  refine callD_pure (fn := F80) rfl rfl (by simp) (r := .bool (digitB c)) (st1 := []) (st2 := []) ?_ (by simp) (by simp)
  rw [ev_eq 80 F80 rfl, F80]
  unfold digitB
  by_cases h1 : 48 ≤ ch c <;> simp [h1]

theorem e129 (r : D) (n : Int) (c : UInt8) (h : n = ch c) (st : St) : ev T 129 [r, .int .u8 n] st = some (.bool (digitB c), st) := by
  subst h
  rw [ev_eq 129 F129 rfl, F129]
  unfold digitB
  by_cases h1 : 48 ≤ ch c <;> simp [h1]

theorem e126 (r : D) (n : Int) (c : UInt8) (h : n = ch c) (st : St) : ev T 126 [r, .int .u8 n] st = some (.bool (lineB c), st) := by
  subst h
  rw [ev_eq 126 F126 rfl, F126]
  simp [lineB]

theorem e144 (i v z x o : Nat) (n : Int) (c : UInt8) (h : n = ch c) (st : St) : ev T 144 [.hp i v z x o, .int .u8 n] st = some (.bool (moreB c), st) := by
  rw [ev_eq 144 F144 rfl, F144]
  have q1 : callD T (ev T) 127 [.hp i v z x o, .int .u8 n] st = some (.bool (letterB c), st) := by rw [callD_raw (fn := F127) rfl rfl (by simp), e127 _ n c h]
  have q2 : callD T (ev T) 129 [.hp i v z x o, .int .u8 n] st = some (.bool (digitB c), st) := by rw [callD_raw (fn := F129) rfl rfl (by simp), e129 _ n c h]
  unfold moreB
  cases h1 : letterB c <;> simp [q1, q2, h1]

theorem c77 (n : Int) (c : UInt8) (h : n = ch c) (st : St) : callD T (ev T) 77 [.int .u8 n] st = some (.bool (blankB c), st) := by
  subst h
  refine callD_pure (fn := F77) rfl rfl (by simp) (r := .bool (blankB c)) (st1 := []) (st2 := []) ?_ (by simp) (by simp)
  rw [ev_eq 77 F77 rfl, F77]
  unfold blankB
  by_cases h1 : ch c = 32
  · simp [h1]
  · by_cases h2 : ch c = 9
    · simp [h1, h2]
    · by_cases h3 : ch c = 10 <;> simp [h1, h2, h3]

theorem str_slice (s : List UInt8) (k k' : IntKind) (a b : Nat) (hab : a ≤ b) (hb : b ≤ s.length) : sliceD (.str s) (some (.int k a)) (some (.int k' b)) none = some (.str (seg s a b)) := by
  have h1 : (0 : Int) ≤ b := by omega
  have h2 : (b : Int) ≤ s.length := by omega
  have h3 : (0 : Int) ≤ a := by omega
  simp [sliceD, h1, h2, h3, hab, seg]

theorem c78 (s p : List UInt8) (a : Nat) (ha : a ≤ s.length) (hs : s.length ≤ 8192) (hp : p.length ≤ 8192) (st : St) :
    callD T (ev T) 78 [.str s, .int .i64 a, .str p] st = some (.bool (decide (a + p.length ≤ s.length) && decide (seg s a (a + p.length) = p)), st) := by
  refine callD_pure (fn := F78) rfl rfl (by simp) (r := .bool (decide (a + p.length ≤ s.length) && decide (seg s a (a + p.length) = p))) (st1 := []) (st2 := []) ?_ (by simp) (by simp)
  rw [ev_eq 78 F78 rfl, F78]
  have w1 : IntKind.wrap .i64 ((s.length : Int) - a) = ((s.length - a : Nat) : Int) := by rw [wrap64] <;> omega
  have w2 : IntKind.wrap .i64 ((a : Int) + p.length) = ((a + p.length : Nat) : Int) := by rw [wrap64] <;> omega
  by_cases h : a + p.length ≤ s.length
  · have h' : p.length ≤ s.length - a := by omega
    have q := str_slice s .i64 .i64 a (a + p.length) (by omega) h
    simp [w1, w2, h, h', q, -Int.natCast_add]
  · have h' : ¬ p.length ≤ s.length - a := by omega
    simp [w1, h, h']

end Go.Nt.Lk

/-
  THE LEXERS, WALKED (2): the reader; blanks and comments.
  No condition.
-/
set_option linter.unusedSimpArgs false
namespace Go.Nt.Lk
open Go Go.Nt

/-- The reader. -/
def rsO (m : Nat) (s : List UInt8) (a : Nat) (out : D) : Ob := .cells true 3 0 m false [.agg [.str s, .int .i64 a, out]]
abbrev rp : D := .hp 0 0 3 0 0

theorem wrap_add {a n : Nat} (h : a ≤ 8192) (hn : n ≤ 8192) : IntKind.wrap .i64 ((a : Int) + n) = ((a + n : Nat) : Int) := by rw [wrap64] <;> omega

theorem e124 (m : Nat) (s : List UInt8) (a : Nat) (out : D) (R : St) (ha : a ≤ s.length) (hs : s.length ≤ 8192) :
    ev T 124 [rp, .int .i64 1] (rsO m s a out :: R) = some (.int .u8 (chAt s (a + 1)), rsO m s a out :: R) := by
  rw [ev_eq 124 F124 rfl, F124]
  have w : IntKind.wrap .i64 ((a : Int) + 1) = ((a + 1 : Nat) : Int) := wrap_add (n := 1) (by omega) (by omega)
  unfold chAt
  by_cases h : a + 1 < s.length
  · simp [rsO, w, h, -Int.natCast_add, byteD]
  · simp [rsO, w, h, -Int.natCast_add]

theorem l125 (p : UInt8 → Bool) (g : Nat) (hg : ∀ (c : UInt8) (st : St), callD T (ev T) g [rp, .int .u8 (ch c)] st = some (.bool (p c), st)) (s : List UInt8) (hs : s.length ≤ 8192) (out : D) (R : St) :
    ∀ (r a m : Nat) (sl : List D) (bx : List (Nat × List D)), r = s.length - a → a ≤ s.length → get sl 0 = rp → get sl 1 = .fn g [rp] [] →
    Stops (lp T L125_0 ⟨⟨sl, bx⟩, rsO m s a out :: R⟩) fun e s' _ st' => e = .exit 0 ∧ ∃ m', st' = rsO m' s (runEnd p s a) out :: R ∧ get s' 0 = rp ∧ get s' 5 = get sl 5 := by
  intro r
  induction r with
  | zero =>
    intro a m sl bx hr ha h0 h1
    have e : a = s.length := by omega
    subst e
    rw [lp_kL, L125_0, runEnd_end (Nat.le_refl _)]
    simp [rsO, h0, h1]
  | succ r ih =>
    intro a m sl bx hr ha h0 h1
    have hlt : a < s.length := by omega
    rw [lp_kL, L125_0]
    have w : IntKind.wrap .i64 ((a : Int) + 1) = ((a + 1 : Nat) : Int) := wrap_add (n := 1) (by omega) (by omega)
    cases hp : p s[a] with
    | true =>
      rw [runEnd_go hlt hp]
      simp [rsO, h0, h1, hlt, byteD, hg, hp, w, -Int.natCast_add, splice, rewrap]
      rw [← L125_0]
      refine (ih (a + 1) (m + 1) _ _ (by omega) (by omega) ?_ ?_).mono ?_
      · simp [h0]
      · simp [h1]
      · rintro e s' b' st' ⟨rfl, m', q1, q2, q3⟩
        refine ⟨rfl, ⟨m', q1⟩, q2, ?_⟩
        rw [q3]; simp
    | false =>
      rw [runEnd_stop hlt hp]
      simp [rsO, h0, h1, hlt, byteD, hg, hp, w]

theorem e125 (p : UInt8 → Bool) (g : Nat) (hg : ∀ (c : UInt8) (st : St), callD T (ev T) g [rp, .int .u8 (ch c)] st = some (.bool (p c), st)) (s : List UInt8) (hs : s.length ≤ 8192) (out : D) (R : St)
    (a m : Nat) (ha : a ≤ s.length) : ∃ m', ev T 125 [rp, .fn g [rp] []] (rsO m s a out :: R) = some (.str (seg s a (runEnd p s a)), rsO m' s (runEnd p s a) out :: R) := by
  suffices h : Ret (ev T 125 [rp, .fn g [rp] []] (rsO m s a out :: R)) fun r st => ∃ m', r = .str (seg s a (runEnd p s a)) ∧ st = rsO m' s (runEnd p s a) out :: R by
    obtain ⟨r, st, h1, m', rfl, rfl⟩ := h
    exact ⟨m', h1⟩
  rw [ev_eq 125 F125 rfl, F125]
  simp [rsO]
  rw [← rsO]
  refine (l125 p g hg s hs out R _ a m _ _ rfl ha ?_ ?_).use (fun r => Ret (kfin _ (kseq _ (kblock 0 r))) _) ?_
  · simp
  · simp
  · rintro e s' b' st' ⟨rfl, m', rfl, h0, h5⟩
    have q := str_slice s .i64 .i64 a (runEnd p s a) (le_runEnd _ _ _) (runEnd_le _ _ ha)
    have h5' : get s' 5 = .int .i64 a := by rw [h5]; simp
    simp [rsO, h0, h5', q]

theorem c126 (c : UInt8) (st : St) : callD T (ev T) 126 [rp, .int .u8 (ch c)] st = some (.bool (lineB c), st) := by
  rw [callD_raw (fn := F126) rfl rfl (by simp), e126 _ _ c rfl]
theorem c144 (c : UInt8) (st : St) : callD T (ev T) 144 [rp, .int .u8 (ch c)] st = some (.bool (moreB c), st) := by
  rw [callD_raw (fn := F144) rfl rfl (by simp), e144 _ _ _ _ _ _ c rfl]
theorem c129 (c : UInt8) (st : St) : callD T (ev T) 129 [rp, .int .u8 (ch c)] st = some (.bool (digitB c), st) := by
  rw [callD_raw (fn := F129) rfl rfl (by simp), e129 _ _ c rfl]
theorem c127 (c : UInt8) (st : St) : callD T (ev T) 127 [rp, .int .u8 (ch c)] st = some (.bool (letterB c), st) := by
  rw [callD_raw (fn := F127) rfl rfl (by simp), e127 _ _ c rfl]

theorem slash_iff (s : List UInt8) (a : Nat) (h : a < s.length) : slashB s a = (decide (ch s[a] = 47) && decide (chAt s (a + 1) = 47)) := by
  have e : ∀ c : UInt8, (ch c = 47) = (c = 47) := by
    intro c
    apply propext
    constructor
    · intro h
      have : c.toNat = (47 : UInt8).toNat := by show c.toNat = 47; have h' : (c.toNat : Int) = 47 := h; omega
      exact UInt8.toNat_inj.1 this
    · rintro rfl; rfl
  unfold slashB chAt
  rw [List.getElem?_eq_getElem h]
  simp only [Option.some.injEq, e]
  cases hq : s[a + 1]? with
  | none => simp
  | some c => simp [e]

theorem l85 (s : List UInt8) (hs : s.length ≤ 8192) (out : D) (R : St) :
    ∀ (r a m : Nat) (sl : List D) (bx : List (Nat × List D)), r = s.length - a → a ≤ s.length → get sl 0 = rp →
    Stops (lp T L85_0 ⟨⟨sl, bx⟩, rsO m s a out :: R⟩) fun e _ _ st' => (e = .exit 0 ∨ e = .ret) ∧ ∃ m', st' = rsO m' s (nextP s a) out :: R := by
  intro r
  induction r using Nat.strongRecOn with
  | ind r ih =>
    intro a m sl bx hr ha h0
    rw [lp_kL, L85_0]
    by_cases hlt : a < s.length
    · have w : IntKind.wrap .i64 ((a : Int) + 1) = ((a + 1 : Nat) : Int) := wrap_add (n := 1) (by omega) (by omega)
      rw [nextP, dif_pos hlt]
      have hB : blankB s[a] = (decide (ch s[a] = 32) || decide (ch s[a] = 9) || decide (ch s[a] = 10) || decide (ch s[a] = 13)) := rfl
      have hS := slash_iff s a hlt
      have next : ∀ (m : Nat) (sl : List D) (bx : List (Nat × List D)), get sl 0 = rp → Stops (lp T L85_0 ⟨⟨sl, bx⟩, rsO m s (a + 1) out :: R⟩) fun e _ _ st' => (e = .exit 0 ∨ e = .ret) ∧ ∃ m', st' = rsO m' s (nextP s (a + 1)) out :: R :=
        fun m sl bx h => ih (s.length - (a + 1)) (by omega) (a + 1) m sl bx rfl (by omega) h
      by_cases h1 : ch s[a] = 32
      · simp [hB, rsO, h0, hlt, byteD, h1, w, -Int.natCast_add, splice]
        rw [← L85_0]
        exact next (m + 1) _ _ (by simp [h0])
      by_cases h2 : ch s[a] = 9
      · simp [hB, rsO, h0, hlt, byteD, h1, h2, w, -Int.natCast_add, splice]
        rw [← L85_0]
        exact next (m + 1) _ _ (by simp [h0])
      by_cases h3 : ch s[a] = 10
      · simp [hB, rsO, h0, hlt, byteD, h1, h2, h3, w, -Int.natCast_add, splice]
        rw [← L85_0]
        exact next (m + 1) _ _ (by simp [h0])
      by_cases h4 : ch s[a] = 13
      · simp [hB, rsO, h0, hlt, byteD, h1, h2, h3, h4, w, -Int.natCast_add, splice]
        rw [← L85_0]
        exact next (m + 1) _ _ (by simp [h0])
      by_cases h5 : ch s[a] = 47
      · have q1 : callD T (ev T) 124 [rp, .int .i64 1] (rsO m s a out :: R) = some (.int .u8 (chAt s (a + 1)), rsO m s a out :: R) := by
          rw [callD_raw (fn := F124) rfl rfl (by simp)]; exact e124 m s a out R (by omega) hs
        by_cases h6 : chAt s (a + 1) = 47
        · obtain ⟨m', q2⟩ := e125 lineB 126 c126 s hs out R a m ha
          have q2' : callD T (ev T) 125 [rp, .fn 126 [rp] []] (rsO m s a out :: R) = some (.str (seg s a (runEnd lineB s a)), rsO m' s (runEnd lineB s a) out :: R) := by
            rw [callD_raw (fn := F125) rfl rfl (by simp)]; exact q2
          have hsl : slashB s a = true := by rw [hS, decide_eq_true h5, decide_eq_true h6]; rfl
          have := runEnd_slash hsl
          have := runEnd_le lineB s ha
          simp only [rsO] at q1 q2'
          simp [hB, hsl, rsO, h0, hlt, byteD, h1, h2, h3, h4, h5, h6, q1, q2']
          rw [← L85_0]
          exact ih (s.length - runEnd lineB s a) (by omega) (runEnd lineB s a) m' _ _ rfl (by omega) (by simp [h0])
        · have hsl : slashB s a = false := by rw [hS, decide_eq_false h6, Bool.and_false]
          simp only [rsO] at q1
          simp [hB, hsl, rsO, h0, hlt, byteD, h1, h2, h3, h4, h5, h6, q1]
      · have hsl : slashB s a = false := by rw [hS, decide_eq_false h5, Bool.false_and]
        simp [hB, hsl, rsO, h0, hlt, byteD, h1, h2, h3, h4, h5]
    · have e : a = s.length := by omega
      subst e
      rw [nextP, dif_neg (by omega)]
      simp [rsO, h0]

theorem e85 (s : List UInt8) (hs : s.length ≤ 8192) (out : D) (R : St) (a m : Nat) (ha : a ≤ s.length) : ∃ m', ev T 85 [rp] (rsO m s a out :: R) = some (.tup [], rsO m' s (nextP s a) out :: R) := by
  suffices h : Ret (ev T 85 [rp] (rsO m s a out :: R)) fun r st => ∃ m', r = .tup [] ∧ st = rsO m' s (nextP s a) out :: R by
    obtain ⟨r, st, h1, m', rfl, rfl⟩ := h
    exact ⟨m', h1⟩
  rw [ev_eq 85 F85 rfl, F85]
  simp
  refine (l85 s hs out R _ a m _ _ rfl ha (by simp)).use (fun r => Ret (kfin _ (kblock 0 r)) _) ?_
  rintro e s' b' st' ⟨rfl | rfl, m', rfl⟩
  · simp
    exact ⟨m', rfl⟩
  · simp
    exact ⟨m', rfl⟩

end Go.Nt.Lk

/-
  THE LEXERS, WALKED (3): the reference: blanks and comments.
  No condition.
-/
set_option linter.unusedSimpArgs false
namespace Go.Nt.Lk
open Go Go.Nt

theorem l41i (s : List UInt8) (hs : s.length ≤ 8192) :
    ∀ (r a : Nat) (sl : List D) (bx : List (Nat × List D)), r = s.length - a → a ≤ s.length → get sl 0 = .str s → get sl 1 = .int .i64 a →
    Stops (lp T L41_1 ⟨⟨sl, bx⟩, []⟩) fun e s' _ st' => st' = [] ∧ e = .exit 2 ∧ get s' 0 = .str s ∧ get s' 1 = .int .i64 (runEnd lineB s a) := by
  intro r
  induction r with
  | zero =>
    intro a sl bx hr ha h0 h1
    have e : a = s.length := by omega
    subst e
    rw [lp_kL, L41_1, runEnd_end (Nat.le_refl _)]
    simp [h0, h1]
  | succ r ih =>
    intro a sl bx hr ha h0 h1
    have hlt : a < s.length := by omega
    rw [lp_kL, L41_1]
    have w : IntKind.wrap .i64 ((a : Int) + 1) = ((a + 1 : Nat) : Int) := wrap_add (n := 1) (by omega) (by omega)
    have hB : lineB s[a] = !decide (ch s[a] = 10) := rfl
    by_cases hp : ch s[a] = 10
    · rw [runEnd_stop hlt (by simp [hB, hp])]
      simp [h0, h1, hlt, byteD, hp]
    · rw [runEnd_go hlt (by simp [hB, hp])]
      simp [h0, h1, hlt, byteD, hp, w, -Int.natCast_add]
      rw [← L41_1]
      exact ih (a + 1) _ _ (by omega) (by omega) (by simp [h0]) (by simp)

theorem l41 (s : List UInt8) (hs : s.length ≤ 8192) :
    ∀ (r a : Nat) (sl : List D) (bx : List (Nat × List D)), r = s.length - a → a ≤ s.length → get sl 0 = .str s → get sl 1 = .int .i64 a →
    Stops (lp T L41_0 ⟨⟨sl, bx⟩, []⟩) fun e s' _ st' => st' = [] ∧ ((e = .exit 0 ∧ get s' 1 = .int .i64 (nextP s a)) ∨ (e = .ret ∧ get s' 4 = .int .i64 (nextP s a))) := by
  intro r
  induction r using Nat.strongRecOn with
  | ind r ih =>
    intro a sl bx hr ha h0 h1
    rw [lp_kL, L41_0]
    by_cases hlt : a < s.length
    · have w : IntKind.wrap .i64 ((a : Int) + 1) = ((a + 1 : Nat) : Int) := wrap_add (n := 1) (by omega) (by omega)
      rw [nextP, dif_pos hlt]
      have q1 := c77 (ch s[a]) s[a] rfl []
      have q2 := c78 s [47, 47] a ha hs (by simp) []
      have e2 : (decide (a + 2 ≤ s.length) && decide (seg s a (a + 2) = [47, 47])) = slashB s a := by
        unfold slashB seg
        by_cases g : a + 2 ≤ s.length
        · have g1 : a + 1 < s.length := by omega
          have : (s.take (a + 2)).drop a = [s[a], s[a + 1]] := by
            rw [List.drop_take, show a + 2 - a = 2 by omega, List.drop_eq_getElem_cons hlt, List.drop_eq_getElem_cons g1]
            rfl
          rw [this, List.getElem?_eq_getElem hlt, List.getElem?_eq_getElem g1]
          by_cases k1 : s[a] = 47 <;> by_cases k2 : s[a + 1] = 47 <;> simp [g, k1, k2]
        · have g1 : s.length ≤ a + 1 := by omega
          rw [List.getElem?_eq_none g1]
          simp [g]
      simp only [List.length_cons, List.length_nil, Nat.zero_add, Nat.reduceAdd] at q2
      rw [e2] at q2
      cases hb : blankB s[a] with
      | true =>
        rw [hb] at q1
        simp [h0, h1, hlt, byteD, q1, w, -Int.natCast_add]
        rw [← L41_0]
        exact ih (s.length - (a + 1)) (by omega) (a + 1) _ _ rfl (by omega) (by simp [h0]) (by simp)
      | false =>
        rw [hb] at q1
        cases hsl : slashB s a with
        | true =>
          rw [hsl] at q2
          have := runEnd_slash hsl
          have := runEnd_le lineB s ha
          simp [h0, h1, hlt, byteD, q1, q2]
          refine (l41i s hs _ a _ _ rfl ha ?_ ?_).use (fun r => Stops (kL T _ (kblock 1 (kblock 2 r))) _) ?_
          · simp [h0]
          · simp [h1]
          · rintro e s' b' st' ⟨rfl, rfl, k0, k1⟩
            simp
            rw [← L41_0]
            exact ih (s.length - runEnd lineB s a) (by omega) (runEnd lineB s a) _ _ rfl (by omega) k0 k1
        | false =>
          rw [hsl] at q2
          simp [h0, h1, hlt, byteD, q1, q2]
    · have e : a = s.length := by omega
      subst e
      rw [nextP, dif_neg (by omega)]
      simp [h0, h1]

theorem c41 (s : List UInt8) (hs : s.length ≤ 8192) (a : Nat) (ha : a ≤ s.length) (st : St) : callD T (ev T) 41 [.str s, .int .i64 a] st = some (.int .i64 (nextP s a), st) := by
  refine callD_pure (fn := F41) rfl rfl (by simp) (r := .int .i64 (nextP s a)) (st1 := []) (st2 := []) ?_ (by simp) (by simp)
  rw [ev_eq 41 F41 rfl, F41]
  simp
  refine (l41 s hs _ a _ _ rfl ha (by simp) (by simp)).use (fun r => kfin _ (kseq _ (kblock 0 r)) = _) ?_
  rintro e s' b' st' ⟨rfl, ⟨rfl, h⟩ | ⟨rfl, h⟩⟩
  · simp [h]
  · simp [h]

end Go.Nt.Lk

/-
  THE LEXERS, WALKED (4): words, signs, numbers.
  No condition.
-/
set_option linter.unusedSimpArgs false
namespace Go.Nt.Lk
open Go Go.Nt

theorem c145 (s : List UInt8) (st : St) : callD T (ev T) 145 [.str s] st = some (.bool (isWordB s), st) := by
  refine callD_pure (fn := F145) rfl rfl (by simp) (r := .bool (isWordB s)) (st1 := []) (st2 := []) ?_ (by simp) (by simp)
  rw [ev_eq 145 F145 rfl, F145]
  unfold isWordB
  by_cases h0 : s = [114, 101, 99]
  · simp [h0]
  by_cases h1 : s = [99, 111, 110, 115, 116]
  · simp [h1]
  by_cases h2 : s = [118, 97, 114]
  · simp [h2]
  by_cases h3 : s = [112, 117, 98]
  · simp [h3]
  by_cases h4 : s = [102, 110]
  · simp [h4]
  by_cases h5 : s = [105, 110, 116]
  · simp [h5]
  by_cases h6 : s = [98, 111, 111, 108]
  · simp [h6]
  by_cases h7 : s = [108, 101, 116]
  · simp [h7]
  by_cases h8 : s = [105, 102]
  · simp [h8]
  by_cases h9 : s = [101, 108, 115, 101]
  · simp [h9]
  by_cases h10 : s = [119, 104, 105, 108, 101]
  · simp [h10]
  by_cases h11 : s = [102, 111, 114]
  · simp [h11]
  by_cases h12 : s = [116, 111]
  · simp [h12]
  by_cases h13 : s = [112, 114, 105, 110, 116]
  · simp [h13]
  by_cases h14 : s = [114, 101, 116, 117, 114, 110]
  · simp [h14]
  by_cases h15 : s = [100, 111]
  · simp [h15]
  by_cases h16 : s = [116, 114, 117, 101]
  · simp [h16]
  by_cases h17 : s = [102, 97, 108, 115, 101]
  · simp [h17]
  by_cases h18 : s = [114, 101, 97, 100]
  · simp [h18]
  by_cases h19 : s = [110, 101, 119]
  · simp [h19]
  simp [h0, h1, h2, h3, h4, h5, h6, h7, h8, h9, h10, h11, h12, h13, h14, h15, h16, h17, h18, h19]

theorem c131 (c d : Int) (st : St) : callD T (ev T) 131 [.int .u8 c, .int .u8 d] st = some (.int .i64 (signN c d), st) := by
  refine callD_pure (fn := F131) rfl rfl (by simp) (r := .int .i64 (signN c d)) (st1 := []) (st2 := []) ?_ (by simp) (by simp)
  rw [ev_eq 131 F131 rfl, F131]
  unfold signN
  by_cases h61 : c = 61
  · by_cases q : d = 61 <;> simp [h61, q]
  by_cases h33 : c = 33
  · by_cases q : d = 61 <;> simp [h33, q]
  by_cases h60 : c = 60
  · by_cases q : d = 61 <;> simp [h60, q]
  by_cases h62 : c = 62
  · by_cases q : d = 61 <;> simp [h62, q]
  by_cases h38 : c = 38
  · by_cases q : d = 38 <;> simp [h38, q]
  by_cases h124 : c = 124
  · by_cases q : d = 124 <;> simp [h124, q]
  by_cases h123 : c = 123
  · simp [h123]
  by_cases h125 : c = 125
  · simp [h125]
  by_cases h40 : c = 40
  · simp [h40]
  by_cases h41 : c = 41
  · simp [h41]
  by_cases h91 : c = 91
  · simp [h91]
  by_cases h93 : c = 93
  · simp [h93]
  by_cases h44 : c = 44
  · simp [h44]
  by_cases h59 : c = 59
  · simp [h59]
  by_cases h58 : c = 58
  · simp [h58]
  by_cases h46 : c = 46
  · simp [h46]
  by_cases h43 : c = 43
  · simp [h43]
  by_cases h45 : c = 45
  · simp [h45]
  by_cases h42 : c = 42
  · simp [h42]
  by_cases h47 : c = 47
  · simp [h47]
  by_cases h37 : c = 37
  · simp [h37]
  by_cases h64 : c = 64
  · simp [h64]
  simp [h61, h33, h60, h62, h38, h124, h123, h125, h40, h41, h91, h93, h44, h59, h58, h46, h43, h45, h42, h47, h37, h64]

end Go.Nt.Lk

/-
  THE LEXERS, WALKED (5): the values of digits.
  No condition.
-/
set_option linter.unusedSimpArgs false
namespace Go.Nt.Lk
open Go Go.Nt

def digits (l : List UInt8) : Prop := ∀ c, c ∈ l → 48 ≤ ch c ∧ ch c ≤ 57

theorem take_tw (p : UInt8 → Bool) : ∀ l : List UInt8, l.take (l.takeWhile p).length = l.takeWhile p
  | [] => rfl
  | c :: l => by
    cases h : p c with
    | true => rw [List.takeWhile_cons_of_pos h, List.length_cons, List.take_succ_cons, take_tw p l]
    | false => rw [List.takeWhile_cons_of_neg (by simp [h])]; rfl
theorem mem_tw (p : UInt8 → Bool) {c : UInt8} : ∀ {l : List UInt8}, c ∈ l.takeWhile p → p c = true
  | [], h => by simp at h
  | x :: l, h => by
    cases hx : p x with
    | true =>
      rw [List.takeWhile_cons_of_pos hx, List.mem_cons] at h
      rcases h with rfl | h
      · exact hx
      · exact mem_tw p h
    | false => rw [List.takeWhile_cons_of_neg (by simp [hx])] at h; simp at h

theorem seg_run (p : UInt8 → Bool) (s : List UInt8) (a : Nat) : seg s a (runEnd p s a) = (s.drop a).takeWhile p := by
  unfold seg runEnd
  rw [List.drop_take, Nat.add_sub_cancel_left, take_tw]

theorem digits_take (s : List UInt8) (a : Nat) : digits (seg s a (runEnd digitB s a)) := by
  rw [seg_run]
  intro c hc
  have := mem_tw digitB hc
  simpa [digitB] using this

theorem numV_cons (c : UInt8) (l : List UInt8) (v : Int) : numV (c :: l) v = numV l (v * 10 + (ch c - 48)) := rfl
theorem le_numV : ∀ (l : List UInt8) (v : Int), digits l → 0 ≤ v → v ≤ numV l v
  | [], v, _, _ => Int.le_refl v
  | c :: l, v, h, hv => by
    have hc := h c (by simp)
    have := le_numV l (v * 10 + (ch c - 48)) (fun x hx => h x (by simp [hx])) (by omega)
    rw [numV_cons]
    omega
theorem numV_lt : ∀ (l : List UInt8) (v : Int), digits l → 0 ≤ v → numV l v < (v + 1) * 10 ^ l.length
  | [], v, _, _ => by simp [numV]; omega
  | c :: l, v, h, hv => by
    have hc := h c (by simp)
    have := numV_lt l (v * 10 + (ch c - 48)) (fun x hx => h x (by simp [hx])) (by omega)
    rw [numV_cons, List.length_cons, Int.pow_succ]
    have h10 : (0 : Int) < 10 ^ l.length := Int.pow_pos (by omega)
    have h2 : (v * 10 + (ch c - 48) + 1) * 10 ^ l.length ≤ ((v + 1) * 10) * 10 ^ l.length := Int.mul_le_mul_of_nonneg_right (by omega) (by omega)
    have h3 : (v + 1) * (10 ^ l.length * 10) = ((v + 1) * 10) * 10 ^ l.length := by rw [Int.mul_comm (10 ^ l.length), Int.mul_assoc]
    omega

theorem wrapU8 (n : Int) (h : 0 ≤ n) (h' : n < 256) : IntKind.wrap .u8 n = n := by
  simp [IntKind.wrap, IntKind.bits, IntKind.signed]; omega
theorem wrapU64 (n : Int) (h : 0 ≤ n) (h' : n < 18446744073709551616) : IntKind.wrap .u64 n = n := by
  simp [IntKind.wrap, IntKind.bits, IntKind.signed]; omega

theorem l130 (d : List UInt8) (hd : digits d) (hl : d.length ≤ 8192) (st : St) :
    ∀ (r i : Nat) (v : Int) (sl : List D) (bx : List (Nat × List D)), r = d.length - i → i ≤ d.length → 0 ≤ v → numV (d.drop i) v < 18446744073709551616 → get sl 4 = .str d → get sl 29 = .i d.length → get sl 30 = .int .i64 i → get sl 5 = .int .u64 v →
    Stops (lp T L130_0 ⟨⟨sl, bx⟩, st⟩) fun e s' _ st' => st' = st ∧ e = .exit 0 ∧ get s' 5 = .int .u64 (numV (d.drop i) v) ∧ get s' 0 = get sl 0 ∧ get s' 3 = get sl 3 := by
  intro r
  induction r with
  | zero =>
    intro i v sl bx hr hi hv hb h4 h29 h30 h5
    have e : i = d.length := by omega
    subst e
    rw [lp_kL, L130_0, List.drop_length]
    simp [h4, h29, h30, h5, numV]
  | succ r ih =>
    intro i v sl bx hr hi hv hb h4 h29 h30 h5
    have hlt : i < d.length := by omega
    rw [lp_kL, L130_0]
    have w : IntKind.wrap .i64 ((i : Int) + 1) = ((i + 1 : Nat) : Int) := wrap_add (n := 1) (by omega) (by omega)
    have hc := hd d[i] (List.getElem_mem hlt)
    rw [List.drop_eq_getElem_cons hlt, numV_cons] at hb ⊢
    have hle := le_numV (d.drop (i + 1)) (v * 10 + (ch d[i] - 48)) (fun x hx => hd x (List.mem_of_mem_drop hx)) (by omega)
    have w1 : IntKind.wrap .u64 (v * 10) = v * 10 := wrapU64 _ (by omega) (by omega)
    have w2 : IntKind.wrap .u8 (ch d[i] - 48) = ch d[i] - 48 := wrapU8 _ (by omega) (by omega)
    have w3 : IntKind.wrap .u64 (ch d[i] - 48) = ch d[i] - 48 := wrapU64 _ (by omega) (by omega)
    have w4 : IntKind.wrap .u64 (v * 10 + (ch d[i] - 48)) = v * 10 + (ch d[i] - 48) := wrapU64 _ (by omega) (by omega)
    simp [h4, h29, h30, h5, hlt, byteD, w, w1, w2, w3, w4, -Int.natCast_add]
    rw [← L130_0]
    refine (ih (i + 1) _ _ _ (by omega) (by omega) (by omega) hb ?_ ?_ ?_ ?_).mono ?_
    · simp [h4]
    · simp [h29]
    · simp
    · simp
    · rintro e s' b' st' ⟨rfl, rfl, k5, k0, k3⟩
      refine ⟨rfl, rfl, k5, ?_, ?_⟩
      · rw [k0]; simp
      · rw [k3]; simp

end Go.Nt.Lk

/-
  THE LEXERS, WALKED (6): numbers, the reader's tokens.
  No condition.
-/
set_option linter.unusedSimpArgs false
namespace Go.Nt.Lk
open Go Go.Nt

theorem l83 (d : List UInt8) (hd : digits d) (hl : d.length ≤ 8192) :
    ∀ (r i : Nat) (v : Int) (sl : List D) (bx : List (Nat × List D)), r = d.length - i → i ≤ d.length → 0 ≤ v → v ≤ 9223372036854775807 → get sl 0 = .str d → get sl 5 = .int .i64 i → get sl 4 = .int .i64 v →
    Stops (lp T L83_0 ⟨⟨sl, bx⟩, []⟩) fun e s' _ st' => st' = [] ∧ ((e = .exit 0 ∧ numV (d.drop i) v ≤ 9223372036854775807 ∧ get s' 4 = .int .i64 (numV (d.drop i) v)) ∨ (e = .ret ∧ 9223372036854775807 < numV (d.drop i) v ∧ get s' 2 = .i 0 ∧ get s' 3 = .bool false)) := by
  intro r
  induction r with
  | zero =>
    intro i v sl bx hr hi hv hv2 h0 h5 h4
    have e : i = d.length := by omega
    subst e
    rw [lp_kL, L83_0, List.drop_length]
    simp [h4, h0, h5, numV, hv2]
  | succ r ih =>
    intro i v sl bx hr hi hv hv2 h0 h5 h4
    have hlt : i < d.length := by omega
    rw [lp_kL, L83_0]
    have w : IntKind.wrap .i64 ((i : Int) + 1) = ((i + 1 : Nat) : Int) := wrap_add (n := 1) (by omega) (by omega)
    have hc := hd d[i] (List.getElem_mem hlt)
    rw [List.drop_eq_getElem_cons hlt, numV_cons]
    have w2 : IntKind.wrap .u8 (ch d[i] - 48) = ch d[i] - 48 := wrapU8 _ (by omega) (by omega)
    have w3 : IntKind.wrap .i64 (ch d[i] - 48) = ch d[i] - 48 := wrap64 _ (by omega) (by omega)
    have w4 : IntKind.wrap .i64 (9223372036854775807 - (ch d[i] - 48)) = 9223372036854775807 - (ch d[i] - 48) := wrap64 _ (by omega) (by omega)
    have w5 : (9223372036854775807 - (ch d[i] - 48)).tdiv 10 = (9223372036854775807 - (ch d[i] - 48)) / 10 := Int.tdiv_eq_ediv_of_nonneg (by omega)
    have w6 : IntKind.wrap .i64 ((9223372036854775807 - (ch d[i] - 48)) / 10) = (9223372036854775807 - (ch d[i] - 48)) / 10 := wrap64 _ (by omega) (by omega)
    by_cases hq : (9223372036854775807 - (ch d[i] - 48)) / 10 < v
    · have hle := le_numV (d.drop (i + 1)) (v * 10 + (ch d[i] - 48)) (fun x hx => hd x (List.mem_of_mem_drop hx)) (by omega)
      have hgt : 9223372036854775807 < numV (d.drop (i + 1)) (v * 10 + (ch d[i] - 48)) := by omega
      simp [h4, h0, h5, hlt, byteD, w, w2, w3, w4, w5, w6, hq, hgt, -Int.natCast_add]
    · have w7 : IntKind.wrap .i64 (v * 10) = v * 10 := wrap64 _ (by omega) (by omega)
      have w8 : IntKind.wrap .i64 (v * 10 + (ch d[i] - 48)) = v * 10 + (ch d[i] - 48) := wrap64 _ (by omega) (by omega)
      simp [h4, h0, h5, hlt, byteD, w, w2, w3, w4, w5, w6, w7, w8, hq, -Int.natCast_add]
      rw [← L83_0]
      refine (ih (i + 1) _ _ _ (by omega) (by omega) (by omega) (by omega) ?_ ?_ ?_).mono fun e s' b' st' h => h
      · simp [h0]
      · simp
      · simp

def numOK (d : List UInt8) : Bool := !(decide (1 < d.length) && decide (chAt d 0 = 48)) && decide (numV d 0 ≤ 9223372036854775807)

theorem c83 (d : List UInt8) (hd : digits d) (hn : d ≠ []) (hl : d.length ≤ 8192) (st : St) : callD T (ev T) 83 [.str d] st = some (.tup [.i (if numOK d then numV d 0 else 0), .bool (numOK d)], st) := by
  refine callD_pure (fn := F83) rfl rfl (by simp) (r := .tup [.i (if numOK d then numV d 0 else 0), .bool (numOK d)]) (st1 := []) (st2 := []) ?_ (by simp [fz, fzL]) (by simp [D.pureT])
  rw [ev_eq 83 F83 rfl, F83]
  obtain ⟨c, t, rfl⟩ := List.exists_cons_of_ne_nil hn
  have hch : chAt (c :: t) 0 = ch c := rfl
  have c1 : ((1 : Int) < (t.length : Int) + 1) = (0 < t.length) := propext (by omega)
  have step : ∀ (sl : List D) (bx : List (Nat × List D)), get sl 0 = .str (c :: t) → get sl 5 = .i 0 → get sl 4 = .i 0 → _ := fun sl bx h0 h5 h4 => l83 (c :: t) hd hl _ 0 0 sl bx rfl (by simp) (by omega) (by omega) h0 h5 h4
  by_cases h1 : 0 < t.length
  · by_cases h2 : ch c = 48
    · simp [c1, h1, h2, byteD, numOK, hch]
    · simp [c1, h1, h2, byteD]
      refine (step _ _ ?_ ?_ ?_).use (fun r => kfin _ (kseq _ (kblock 0 r)) = _) ?_
      · simp
      · simp
      · simp
      · rintro e s' b' st ⟨rfl, ⟨rfl, g1, g2⟩ | ⟨rfl, g1, g2, g3⟩⟩
        · rw [List.drop_zero] at g1 g2
          simp [g2, numOK, hch, h2, g1]
        · rw [List.drop_zero] at g1
          have : ¬ numV (c :: t) 0 ≤ 9223372036854775807 := by omega
          simp [g2, g3, numOK, hch, h2, this]
  · simp [c1, h1, byteD]
    refine (step _ _ ?_ ?_ ?_).use (fun r => kfin _ (kseq _ (kblock 0 r)) = _) ?_
    · simp
    · simp
    · simp
    · rintro e s' b' st ⟨rfl, ⟨rfl, g1, g2⟩ | ⟨rfl, g1, g2, g3⟩⟩
      · rw [List.drop_zero] at g1 g2
        simp [g2, numOK, hch, h1, g1]
      · rw [List.drop_zero] at g1
        have : ¬ numV (c :: t) 0 ≤ 9223372036854775807 := by omega
        simp [g2, g3, numOK, hch, this]

end Go.Nt.Lk

/-
  THE LEXERS, WALKED (7): the reader's tokens; the program's lexer.
  No condition.
-/
set_option linter.unusedSimpArgs false
namespace Go.Nt.Lk
open Go Go.Nt

def outD : List Tok → D
  | [] => .nils
  | _ :: r => .rs 1 r.length 5 0 (r.length + 1) false
def outS : List Tok → St
  | [] => []
  | t :: r => [.cells false 5 r.length r.length false ((t :: r).map Tok.enc)]
def rs (m : Nat) (s : List UInt8) (a : Nat) (ts : List Tok) : St := rsO m s a (outD ts) :: outS ts

theorem grow1 (ob : Ob) (ts : List Tok) (t : Tok) (h : ts.length ≤ 10000) : appendD (ob :: outS ts) (outD ts) [t.enc] 5 = some (outD (ts ++ [t]), ob :: outS (ts ++ [t])) := by
  cases ts with
  | nil => simp [appendD, outD, outS, most]
  | cons u r =>
    simp only [List.length_cons] at h
    have h' : r.length + 1 ≤ most := by unfold most; omega
    have ht : r.length + 1 < tagB := by unfold tagB; omega
    simp [appendD, outD, outS, most] at h' ⊢
    simp [h', ht]
    exact List.take_of_length_le (by simp)

@[simp] theorem outD_okv (ts : List Tok) : (outD ts).okv = true := by cases ts <;> rfl
@[simp] theorem outD_cells (ts : List Tok) : (outD ts).cells = [outD ts] := by cases ts <;> rfl
@[simp] theorem outD_fits (ts : List Tok) : (outD ts).fits none = true := by cases ts <;> rfl

theorem e87 (m : Nat) (s : List UInt8) (a : Nat) (ts : List Tok) (k n : Int) (sg : List UInt8) (f : Nat) (h : ts.length ≤ 10000) :
    callD T (ev T) 87 [rp, .int .i64 k, .int .i64 n, .str sg, .int .i64 f] (rs m s a ts) = some (.tup [], rs (m + 1) s a (ts ++ [⟨k, n, sg, f, a⟩])) := by
  rw [callD_raw (fn := F87) rfl rfl (by simp), ev_eq 87 F87 rfl, F87]
  have q := fun ob => grow1 ob ts ⟨k, n, sg, f, a⟩ h
  simp only [Tok.enc] at q
  have e : (⟨k, n, sg, f, a⟩ : Tok).enc = .agg [.int .i64 k, .int .i64 n, .str sg, .int .i64 f, .int .i64 a] := rfl
  simp [rs, rsO, q, splice, srcD, listD, kHs]

theorem chAt_drop (s : List UInt8) (a b : Nat) (h : a < b) : chAt (seg s a b) 0 = chAt s a := by
  unfold chAt seg
  rw [List.getElem?_drop, Nat.add_zero, List.getElem?_take_of_lt h]

theorem seg_len (s : List UInt8) (a b : Nat) (hb : b ≤ s.length) : (seg s a b).length = b - a := by
  unfold seg; rw [List.length_drop, List.length_take, Nat.min_eq_left hb]

/-- What a reader comes to at one token. -/
def After (s : List UInt8) (a : Nat) (ts : List Tok) (e : Int) (st' : St) : Prop :=
  match oneT s a with
  | .inl t => e = 0 ∧ ∃ m', st' = rs m' s t.t (ts ++ [t])
  | .inr e' => e = e' ∧ e' ≠ 0 ∧ ∃ m' a' ts', st' = rs m' s a' ts'

theorem e128 (m : Nat) (s : List UInt8) (hs : s.length ≤ 8192) (a : Nat) (ha : a < s.length) (ts : List Tok) (h : ts.length ≤ 10000) (hl : letterB s[a] = true) :
    Ret (ev T 128 [rp] (rs m s a ts)) fun r st => ∃ e, r = .int .i64 e ∧ After s a ts e st := by
  have hO : oneT s a = if 16 < runEnd moreB s a - a then .inr 3 else .inl ⟨if isWordB (seg s a (runEnd moreB s a)) then 3 else 1, 0, seg s a (runEnd moreB s a), a, runEnd moreB s a⟩ := by
    unfold oneT; rw [List.getElem?_eq_getElem ha]; simp [hl]
  obtain ⟨m', q⟩ := e125 moreB 144 c144 s hs (outD ts) (outS ts) a m (by omega)
  have q' : callD T (ev T) 125 [rp, .fn 144 [rp] []] (rs m s a ts) = some (.str (seg s a (runEnd moreB s a)), rs m' s (runEnd moreB s a) ts) := by
    rw [callD_raw (fn := F125) rfl rfl (by simp)]; exact q
  have hlen := seg_len s a (runEnd moreB s a) (runEnd_le _ _ (by omega))
  have c16 : ∀ k : Nat, ((16 : Int) < k) = (16 < k) := fun k => propext (by omega)
  rw [ev_eq 128 F128 rfl, F128]
  unfold After
  rw [hO]
  have g0 : ∀ M A, rs M s A ts = Ob.cells true 3 0 M false [.agg [.str s, .int .i64 A, outD ts]] :: outS ts := fun _ _ => rfl
  by_cases h16 : 16 < runEnd moreB s a - a
  · rw [g0 m a] at q' ⊢
    simp [q', hlen, c16, h16]
    exact ⟨_, _, _, rfl⟩
  · have q2 := c145 (seg s a (runEnd moreB s a)) (rs m' s (runEnd moreB s a) ts)
    have q3 := fun k => e87 m' s (runEnd moreB s a) ts k 0 (seg s a (runEnd moreB s a)) a h
    rw [g0 m a] at q' ⊢
    cases hw : isWordB (seg s a (runEnd moreB s a)) with
    | true =>
      rw [hw] at q2
      simp [q', hlen, c16, h16, q2, q3]
      exact ⟨_, rfl⟩
    | false =>
      rw [hw] at q2
      simp [q', hlen, c16, h16, q2, q3]
      exact ⟨_, rfl⟩

theorem num_long (c : UInt8) (t : List UInt8) (hd : digits (c :: t)) (hc : ch c ≠ 48) (hl : 19 ≤ t.length) : 9223372036854775807 < numV (c :: t) 0 := by
  have hge : ∀ (l : List UInt8) (v : Int), digits l → 0 ≤ v → v * 10 ^ l.length ≤ numV l v := by
    intro l
    induction l with
    | nil => intro v _ _; simp [numV]
    | cons x l ih =>
      intro v h hv
      have hx := h x (by simp)
      have := ih (v * 10 + (ch x - 48)) (fun y hy => h y (by simp [hy])) (by omega)
      rw [numV_cons, List.length_cons, Int.pow_succ]
      have h10 : (0 : Int) < 10 ^ l.length := Int.pow_pos (by omega)
      have h2 : (v * 10) * 10 ^ l.length ≤ (v * 10 + (ch x - 48)) * 10 ^ l.length := Int.mul_le_mul_of_nonneg_right (by omega) (by omega)
      have h3 : v * (10 ^ l.length * 10) = (v * 10) * 10 ^ l.length := by rw [Int.mul_comm (10 ^ l.length), Int.mul_assoc]
      omega
  have hx := hd c (by simp)
  have h1 := hge t (ch c - 48) (fun y hy => hd y (by simp [hy])) (by omega)
  rw [numV_cons]
  have e : (0 * 10 + (ch c - 48) : Int) = ch c - 48 := by omega
  rw [e]
  obtain ⟨k, hk⟩ : ∃ k, t.length = 19 + k := ⟨t.length - 19, by omega⟩
  rw [hk, Int.pow_add] at h1
  have h10 : (0 : Int) < 10 ^ k := Int.pow_pos (by omega)
  have h2 : (10 : Int) ^ 19 * 1 ≤ 10 ^ 19 * 10 ^ k := Int.mul_le_mul_of_nonneg_left (by omega) (by decide)
  have h3 : 1 * (10 ^ 19 * 10 ^ k) ≤ (ch c - 48) * (10 ^ 19 * 10 ^ k) := Int.mul_le_mul_of_nonneg_right (by omega) (by omega)
  have h4 : (10 : Int) ^ 19 = 10000000000000000000 := by decide
  omega

theorem e130 (m : Nat) (s : List UInt8) (hs : s.length ≤ 8192) (a : Nat) (ha : a < s.length) (ts : List Tok) (h : ts.length ≤ 10000) (hl : letterB s[a] = false) (hd : digitB s[a] = true) :
    Ret (ev T 130 [rp] (rs m s a ts)) fun r st => ∃ e, r = .int .i64 e ∧ After s a ts e st := by
  have hO : oneT s a = if (1 < runEnd digitB s a - a ∧ ch s[a] = 48) ∨ 9223372036854775807 < numV (seg s a (runEnd digitB s a)) 0 then .inr 5 else .inl ⟨2, numV (seg s a (runEnd digitB s a)) 0, [], a, runEnd digitB s a⟩ := by
    unfold oneT; rw [List.getElem?_eq_getElem ha]; simp [hl, hd]
  obtain ⟨m', q⟩ := e125 digitB 129 c129 s hs (outD ts) (outS ts) a m (by omega)
  have q' : callD T (ev T) 125 [rp, .fn 129 [rp] []] (rs m s a ts) = some (.str (seg s a (runEnd digitB s a)), rs m' s (runEnd digitB s a) ts) := by
    rw [callD_raw (fn := F125) rfl rfl (by simp)]; exact q
  have hlen := seg_len s a (runEnd digitB s a) (runEnd_le _ _ (by omega))
  have hgo : a < runEnd digitB s a := by rw [runEnd_go ha hd]; exact le_runEnd _ _ _
  have hend := runEnd_le digitB s (Nat.le_of_lt ha)
  have hch := chAt_drop s a (runEnd digitB s a) hgo
  have hdg := digits_take s a
  have hca : chAt s a = ch s[a] := by unfold chAt; rw [List.getElem?_eq_getElem ha]
  rw [hca] at hch
  have q3 := fun n => e87 m' s (runEnd digitB s a) ts 2 n [] a h
  rw [ev_eq 130 F130 rfl, F130]
  unfold After
  rw [hO]
  clear hO q hca
  generalize hB : runEnd digitB s a = b at *
  generalize hD : seg s a b = d at *
  have c19 : ∀ k : Nat, ((19 : Int) < k) = (19 < k) := fun k => propext (by omega)
  have c1 : ∀ k : Nat, ((1 : Int) < k) = (1 < k) := fun k => propext (by omega)
  have hne : d ≠ [] := by intro e; rw [e] at hlen; simp at hlen; omega
  obtain ⟨c, t, rfl⟩ := List.exists_cons_of_ne_nil hne
  have hc : ch c = ch s[a] := hch
  have g0 : ∀ M A, rs M s A ts = Ob.cells true 3 0 M false [.agg [.str s, .int .i64 A, outD ts]] :: outS ts := fun _ _ => rfl
  rw [g0 m a] at q' ⊢
  simp only [List.length_cons] at hlen
  have c19' : ((19 : Int) < (t.length : Int) + 1) = (18 < t.length) := propext (by omega)
  have c1' : ((1 : Int) < (t.length : Int) + 1) = (0 < t.length) := propext (by omega)
  have l1 : (1 < b - a) = (0 < t.length) := propext (by omega)
  simp only [l1, ← hc]
  by_cases h19 : 18 < t.length
  · have h0 : 0 < t.length := by omega
    have bad : (0 < t.length ∧ ch c = 48) ∨ 9223372036854775807 < numV (c :: t) 0 := by
      by_cases hz : ch c = 48
      · exact .inl ⟨h0, hz⟩
      · exact .inr (num_long c t hdg hz (by omega))
    rw [if_pos bad]
    simp [q', c19', h19]
    exact ⟨_, _, _, rfl⟩
  · by_cases hz : 0 < t.length ∧ ch c = 48
    · rw [if_pos (.inl hz)]
      simp [q', c19', c1', h19, hz.1, hz.2, byteD]
      exact ⟨_, _, _, rfl⟩
    · have hlt := numV_lt (c :: t) 0 hdg (by omega)
      have h64 : numV (c :: t) 0 < 18446744073709551616 := by
        have h5 : (10 : Nat) ^ (c :: t).length ≤ 10 ^ 19 := Nat.pow_le_pow_right (by omega) (by rw [List.length_cons]; omega)
        have h6 : ((10 : Int) ^ (c :: t).length) = ((10 ^ (c :: t).length : Nat) : Int) := by rw [Int.natCast_pow]; rfl
        have h4 : (10 : Int) ^ 19 = 10000000000000000000 := by decide
        rw [Int.zero_add, Int.one_mul] at hlt
        omega
      have hnn := le_numV (c :: t) 0 hdg (by omega)
      have fin : ∀ (sl : List D) (bx : List (Nat × List D)), get sl 4 = .str (c :: t) → get sl 29 = .i (c :: t).length → get sl 30 = .int .i64 (0 : Nat) → get sl 5 = .int .u64 0 → _ :=
        fun sl bx h4 h29 h30 h5 => l130 (c :: t) hdg (by rw [List.length_cons]; omega) (rs m' s b ts) _ 0 0 sl bx rfl (by simp) (by omega) h64 h4 h29 h30 h5
      have hz' : ¬ (0 < t.length ∧ ch c = 48) := hz
      rw [List.drop_zero] at fin
      by_cases h0 : 0 < t.length
      · have hz2 : ¬ ch c = 48 := fun e => hz ⟨h0, e⟩
        simp [q', c19', c1', h19, h0, hz2, byteD]
        refine (fin _ _ ?_ ?_ ?_ ?_).use (fun r => Ret (kfin _ (kseq _ (kblock 0 r))) _) ?_
        · simp
        · simp
        · simp
        · simp
        · rintro e s' b' st' ⟨rfl, rfl, k5, k0, k3⟩
          simp at k0 k3
          by_cases hbig : 9223372036854775807 < numV (c :: t) 0
          · simp [k5, hbig]
            exact ⟨_, _, _, rfl⟩
          · have w : IntKind.wrap .i64 (numV (c :: t) 0) = numV (c :: t) 0 := wrap64 _ (by omega) (by omega)
            simp [k5, hbig, w, q3, k0, k3, hz2]
            exact ⟨_, rfl⟩
      · simp [q', c19', c1', h19, h0, byteD]
        refine (fin _ _ ?_ ?_ ?_ ?_).use (fun r => Ret (kfin _ (kseq _ (kblock 0 r))) _) ?_
        · simp
        · simp
        · simp
        · simp
        · rintro e s' b' st' ⟨rfl, rfl, k5, k0, k3⟩
          simp at k0 k3
          by_cases hbig : 9223372036854775807 < numV (c :: t) 0
          · simp [k5, hbig]
            exact ⟨_, _, _, rfl⟩
          · have w : IntKind.wrap .i64 (numV (c :: t) 0) = numV (c :: t) 0 := wrap64 _ (by omega) (by omega)
            simp [k5, hbig, w, q3, k0, k3, h0]
            exact ⟨_, rfl⟩

end Go.Nt.Lk

/-
  THE LEXERS, WALKED (8): the program's lexer.
  No condition.
-/
set_option linter.unusedSimpArgs false
namespace Go.Nt.Lk
open Go Go.Nt

theorem sign_le (s : List UInt8) (a : Nat) (ha : a < s.length) : a + signN (ch s[a]) (chAt s (a + 1)) ≤ s.length := by
  rcases Nat.lt_or_ge (a + 1) s.length with g | g
  · have : signN (ch s[a]) (chAt s (a + 1)) ≤ 2 := by unfold signN; split <;> (try split) <;> (try split) <;> omega
    omega
  · have e : chAt s (a + 1) = 0 := by unfold chAt; rw [List.getElem?_eq_none g]
    have : signN (ch s[a]) (chAt s (a + 1)) ≤ 1 := by
      rw [e]
      unfold signN
      split
      · simp
      · split
        · next hc => rcases hc with hc | hc <;> rw [hc] <;> simp
        · split <;> omega
    omega

theorem e86 (m : Nat) (s : List UInt8) (hs : s.length ≤ 8192) (a : Nat) (ha : a < s.length) (ts : List Tok) (h : ts.length ≤ 10000) :
    Ret (ev T 86 [rp] (rs m s a ts)) fun r st => ∃ e, r = .int .i64 e ∧ After s a ts e st := by
  rw [ev_eq 86 F86 rfl, F86]
  have g0 : ∀ M A, rs M s A ts = Ob.cells true 3 0 M false [.agg [.str s, .int .i64 A, outD ts]] :: outS ts := fun _ _ => rfl
  have q1 := c127 s[a] (rs m s a ts)
  cases hl : letterB s[a] with
  | true =>
    rw [hl] at q1
    obtain ⟨r, st, q2, e, rfl, q3⟩ := e128 m s hs a ha ts h hl
    have q2' : callD T (ev T) 128 [rp] (rs m s a ts) = some (.int .i64 e, st) := by rw [callD_raw (fn := F128) rfl rfl (by simp)]; exact q2
    rw [g0 m a] at q1 q2' ⊢
    simp [ha, byteD, q1, q2']
    exact q3
  | false =>
    rw [hl] at q1
    have q4 := c129 s[a] (rs m s a ts)
    cases hd : digitB s[a] with
    | true =>
      rw [hd] at q4
      obtain ⟨r, st, q2, e, rfl, q3⟩ := e130 m s hs a ha ts h hl hd
      have q2' : callD T (ev T) 130 [rp] (rs m s a ts) = some (.int .i64 e, st) := by rw [callD_raw (fn := F130) rfl rfl (by simp)]; exact q2
      rw [g0 m a] at q1 q2' q4 ⊢
      simp [ha, byteD, q1, q2', q4]
      exact q3
    | false =>
      rw [hd] at q4
      have hO : oneT s a = if signN (ch s[a]) (chAt s (a + 1)) = 0 then .inr 4 else .inl ⟨4, 0, seg s a (a + signN (ch s[a]) (chAt s (a + 1))), a, a + signN (ch s[a]) (chAt s (a + 1))⟩ := by
        unfold oneT; rw [List.getElem?_eq_getElem ha]; simp [hl, hd]
      have q5 : callD T (ev T) 124 [rp, .int .i64 1] (rs m s a ts) = some (.int .u8 (chAt s (a + 1)), rs m s a ts) := by
        rw [callD_raw (fn := F124) rfl rfl (by simp)]; exact e124 m s a (outD ts) (outS ts) (by omega) hs
      have q6 := c131 (ch s[a]) (chAt s (a + 1)) (rs m s a ts)
      have hle := sign_le s a ha
      unfold After
      rw [hO]
      generalize signN (ch s[a]) (chAt s (a + 1)) = n at *
      by_cases hn : n = 0
      · rw [g0 m a] at q1 q4 q5 q6 ⊢
        simp [ha, byteD, q1, q4, q5, q6, hn]
        exact ⟨_, _, _, rfl⟩
      · have w : IntKind.wrap .i64 ((a : Int) + n) = ((a + n : Nat) : Int) := wrap_add (by omega) (by omega)
        have q7 := str_slice s .i64 .i64 a (a + n) (by omega) hle
        have q8 := e87 (m + 1) s (a + n) ts 4 0 (seg s a (a + n)) a h
        rw [g0 m a] at q1 q4 q5 q6 ⊢
        rw [g0 (m + 1) (a + n)] at q8
        simp [ha, byteD, q1, q4, q5, q6, hn, w, q7, q8, -Int.natCast_add, kHs, splice]
        exact ⟨_, rfl⟩

/-- What a text's tokens come to. -/
def toksR (s : List UInt8) : (List Tok) ⊕ (Nat × Int) := if 8192 < s.length then .inr (0, 3) else toksF s (nextP s 0) []

theorem toksF_len (s : List UInt8) : ∀ (r a : Nat) (ts : List Tok), r = s.length - a → ∀ l, toksF s a ts = .inl l → l.length ≤ ts.length + r + 1 := by
  intro r
  induction r using Nat.strongRecOn with
  | ind r ih =>
    intro a ts hr l h
    rw [toksF] at h
    split at h
    · next ha =>
      split at h
      · next t ht =>
        have h1 := oneT_to ha ht
        have h2 := le_nextP s t.t
        have := ih (s.length - nextP s t.t) (by omega) _ _ rfl l h
        simp at this
        omega
      · cases h
    · cases h; simp

theorem l44 (s : List UInt8) (hs : s.length ≤ 8192) :
    ∀ (r a m : Nat) (ts : List Tok) (sl : List D) (bx : List (Nat × List D)), r = s.length - a → a ≤ s.length → ts.length ≤ a → get sl 0 = .str s → get sl 5 = rp →
    Stops (lp T L44_0 ⟨⟨sl, bx⟩, rs m s a ts⟩) fun e s' _ st' => (∃ l, toksF s a ts = .inl (l ++ [⟨5, 0, [], s.length, s.length⟩]) ∧ e = .exit 0 ∧ (∃ m', st' = rs m' s s.length l) ∧ l.length ≤ s.length ∧ get s' 5 = rp) ∨
      (∃ at_ er, toksF s a ts = .inr (at_, er) ∧ e = .ret ∧ get s' 2 = .nils ∧ get s' 3 = .i at_ ∧ get s' 4 = .i er) := by
  intro r
  induction r using Nat.strongRecOn with
  | ind r ih =>
    intro a m ts sl bx hr ha hlen h0 h5
    rw [lp_kL, L44_0, toksF]
    have g0 : ∀ M A, rs M s A ts = Ob.cells true 3 0 M false [.agg [.str s, .int .i64 A, outD ts]] :: outS ts := fun _ _ => rfl
    by_cases hlt : a < s.length
    · obtain ⟨rr, st, q2, e, rfl, q3⟩ := e86 m s hs a hlt ts (by omega)
      have q2' : callD T (ev T) 86 [rp] (rs m s a ts) = some (.int .i64 e, st) := by rw [callD_raw (fn := F86) rfl rfl (by simp)]; exact q2
      rw [dif_pos hlt]
      unfold After at q3
      split at q3
      · next t ht =>
        obtain ⟨rfl, m', rfl⟩ := q3
        have h1 := oneT_to hlt ht
        have h2 := le_nextP s t.t
        have h3 := nextP_le s t.t h1.2.1
        obtain ⟨m2, q4⟩ := e85 s hs (outD (ts ++ [t])) (outS (ts ++ [t])) t.t m' h1.2.1
        have q4' : callD T (ev T) 85 [rp] (rs m' s t.t (ts ++ [t])) = some (.tup [], rs m2 s (nextP s t.t) (ts ++ [t])) := by rw [callD_raw (fn := F85) rfl rfl (by simp)]; exact q4
        rw [g0 m a] at q2' ⊢
        simp [h0, h5, hlt, q2', q4']
        rw [← L44_0]
        split
        · next t' ht' =>
          rw [ht] at ht'
          cases ht'
          refine ih (s.length - nextP s t.t) (by omega) _ m2 (ts ++ [t]) _ _ rfl h3 (by simp; omega) ?_ ?_
          · simp [h0]
          · simp [h5]
        · next e' ht' => rw [ht] at ht'; cases ht'
      · next er ht =>
        obtain ⟨rfl, hne, m', a', ts', rfl⟩ := q3
        rw [g0 m a] at q2' ⊢
        split
        · next t' ht' => rw [ht] at ht'; cases ht'
        · next e' ht' =>
          rw [ht] at ht'
          cases ht'
          simp [h0, h5, hlt, q2', hne]
    · have e : a = s.length := by omega
      subst e
      rw [dif_neg (by omega), g0 m s.length]
      simp [h0, h5]
      exact ⟨⟨_, g0 m s.length⟩, hlen⟩

/-- What a lexer tells: the tokens, or where and what is wrong. -/
def lexD (x : (List Tok) ⊕ (Nat × Int)) (d0 : D) (l0 : List Tok → D) : D :=
  match x with
  | .inl l => .tup [l0 l, .i 0, .i 0]
  | .inr (a, e) => .tup [d0, .i a, .i e]

theorem fz_out (m : Nat) (s : List UInt8) (a : Nat) (ts : List Tok) (t : Tok) : ∃ st2, fz (rs m s a (ts ++ [t])) (.tup [outD (ts ++ [t]), .i 0, .i 0]) = some (.tup [.sl 5 false ((ts ++ [t]).map Tok.enc), .i 0, .i 0], st2) := by
  cases ts with
  | nil => exact ⟨_, rfl⟩
  | cons u r =>
    refine ⟨rsO m s a (outD (u :: (r ++ [t]))) :: [.cells false 5 (r ++ [t]).length ((r ++ [t]).length + 1) true ((u :: (r ++ [t])).map Tok.enc)], ?_⟩
    simp [fz, fzL, fz1, outD, outS, rs, kFz]
    exact List.take_of_length_le (by simp)

theorem c44 (s : List UInt8) (st : St) : callD T (ev T) 44 [.str s] st = some (lexD (toksR s) .nils fun l => .sl 5 false (l.map Tok.enc), st) := by
  suffices h : Ret (ev T 44 [.str s] []) fun r st' => ∃ st2, fz st' r = some (lexD (toksR s) .nils fun l => .sl 5 false (l.map Tok.enc), st2) by
    obtain ⟨r, st', h1, st2, h2⟩ := h
    refine callD_pure (fn := F44) rfl rfl (by simp) h1 h2 ?_
    unfold lexD
    split <;> simp [D.pureT, D.pure, D.pure1, D.pure0]
  rw [ev_eq 44 F44 rfl, F44]
  have c8192 : ∀ k : Nat, ((8192 : Int) < k) = (8192 < k) := fun k => propext (by omega)
  unfold toksR
  by_cases h : 8192 < s.length
  · simp [c8192, h, lexD, fz, fzL]
  · have hs : s.length ≤ 8192 := by omega
    obtain ⟨m1, q1⟩ := e85 s hs .nils [] 0 0 (by omega)
    have q1' : callD T (ev T) 85 [rp] [rsO 0 s 0 .nils] = some (.tup [], [rsO m1 s (nextP s 0) .nils]) := by rw [callD_raw (fn := F85) rfl rfl (by simp)]; exact q1
    have z0 : rsO 0 s 0 .nils = Ob.cells true 3 0 0 false [.agg [.str s, .int .i64 0, .nils]] := rfl
    rw [z0] at q1'
    simp [c8192, h, splice, q1']
    refine (l44 s hs _ (nextP s 0) m1 [] _ _ rfl (nextP_le s 0 (by omega)) (by simp) ?_ ?_).use (fun r => Ret (kfin _ (kseq _ (kblock 0 r))) _) ?_
    · simp
    · simp
    · rintro e s' b' st' (⟨l, h1, rfl, ⟨m', rfl⟩, hl, h5⟩ | ⟨a', e', h1, rfl, h2, h3, h4⟩)
      · rw [h1]
        have q2 := e87 m' s s.length l 5 0 [] s.length (by omega)
        have g0 : ∀ M A, rs M s A l = Ob.cells true 3 0 M false [.agg [.str s, .int .i64 A, outD l]] :: outS l := fun _ _ => rfl
        have g1 : ∀ M A k, rs M s A k = Ob.cells true 3 0 M false [.agg [.str s, .int .i64 A, outD k]] :: outS k := fun _ _ _ => rfl
        obtain ⟨st2, q3⟩ := fz_out (m' + 1) s s.length l ⟨5, 0, [], s.length, s.length⟩
        rw [g0] at q2 ⊢
        rw [g1] at q2 q3
        simp [h5, q2, lexD]
        exact ⟨st2, by simpa using q3⟩
      · rw [h1]
        simp [h2, h3, h4, lexD, fz, fzL]

end Go.Nt.Lk

/-
  THE LEXERS, WALKED (9): the reference.
  No condition.
-/
set_option linter.unusedSimpArgs false
namespace Go.Nt.Lk
open Go Go.Nt

def WD : List (List UInt8) := [[114, 101, 99], [99, 111, 110, 115, 116], [118, 97, 114], [112, 117, 98], [102, 110], [105, 110, 116], [98, 111, 111, 108], [108, 101, 116], [105, 102], [101, 108, 115, 101], [119, 104, 105, 108, 101], [102, 111, 114], [116, 111], [112, 114, 105, 110, 116], [114, 101, 116, 117, 114, 110], [100, 111], [116, 114, 117, 101], [102, 97, 108, 115, 101], [114, 101, 97, 100], [110, 101, 119]]
def SG : List (List UInt8) := [[61, 61], [33, 61], [60, 61], [62, 61], [38, 38], [124, 124], [123], [125], [40], [41], [91], [93], [44], [59], [58], [46], [61], [60], [62], [43], [45], [42], [47], [37], [33], [64]]

theorem e82 : evT T 10 82 [] [] = some (slE 1 .full (WD.map .str), []) := by kernel_rfl
theorem e84 : evT T 10 84 [] [] = some (slE 1 .full (SG.map .str), []) := by kernel_rfl
theorem c82 (st : St) : callD T (ev T) 82 [] st = some (slE 1 .full (WD.map .str), st) :=
  callD_pure (fn := F82) rfl rfl (by simp) (r := slE 1 .full (WD.map .str)) (st1 := []) (st2 := []) (lim_le (ev_mono 82 [] []) 10 _ e82) (by simp) (by simp)
theorem c84 (st : St) : callD T (ev T) 84 [] st = some (slE 1 .full (SG.map .str), st) :=
  callD_pure (fn := F84) rfl rfl (by simp) (r := slE 1 .full (SG.map .str)) (st1 := []) (st2 := []) (lim_le (ev_mono 84 [] []) 10 _ e84) (by simp) (by simp)

theorem l81 (w : List UInt8) (ws : List (List UInt8)) (hl : ws.length ≤ 8192) :
    ∀ (r i : Nat) (sl : List D) (bx : List (Nat × List D)), r = ws.length - i → i ≤ ws.length → get sl 0 = .str w → get sl 1 = slE 1 .full (ws.map .str) → get sl 5 = .int .i64 i →
    Stops (lp T L81_0 ⟨⟨sl, bx⟩, []⟩) fun e s' _ st' => st' = [] ∧ e = (if w ∈ ws.drop i then .ret else .exit 0) ∧ (w ∈ ws.drop i → get s' 4 = .bool true) := by
  intro r
  induction r with
  | zero =>
    intro i sl bx hr hi h0 h1 h5
    have e : i = ws.length := by omega
    subst e
    rw [lp_kL, L81_0, List.drop_length]
    simp [h0, h1, h5]
  | succ r ih =>
    intro i sl bx hr hi h0 h1 h5
    have hlt : i < ws.length := by omega
    rw [lp_kL, L81_0]
    have w1 : IntKind.wrap .i64 ((i : Int) + 1) = ((i + 1 : Nat) : Int) := wrap_add (n := 1) (by omega) (by omega)
    by_cases hq : ws[i] = w
    · have q : w ∈ ws.drop i := by rw [List.drop_eq_getElem_cons hlt, hq]; simp
      rw [if_pos q]
      simp [h0, h1, h5, hlt, hq, q]
    · have hq' : ¬ w = ws[i] := fun e => hq e.symm
      have q : (w ∈ ws.drop i) = (w ∈ ws.drop (i + 1)) := by rw [List.drop_eq_getElem_cons hlt, List.mem_cons]; simp [hq']
      simp only [q]
      simp [h0, h1, h5, hlt, hq, w1, -Int.natCast_add]
      rw [← L81_0]
      refine (ih (i + 1) _ _ (by omega) (by omega) ?_ ?_ ?_) <;> simp [h0, h1]

theorem word_mem (s : List UInt8) : isWordB s = decide (s ∈ WD) := by
  simp [isWordB, WD, Bool.or_assoc]

theorem c81 (s : List UInt8) (st : St) : callD T (ev T) 81 [.str s, slE 1 .full (WD.map .str)] st = some (.bool (isWordB s), st) := by
  refine callD_pure (fn := F81) rfl rfl (by simp [WD]) (r := .bool (isWordB s)) (st1 := []) (st2 := []) ?_ (by simp) (by simp)
  rw [ev_eq 81 F81 rfl, F81]
  simp
  refine (l81 s WD (by decide) _ 0 _ _ rfl (by omega) ?_ ?_ ?_).use (fun r => kfin _ (kseq _ (kblock 0 r)) = _) ?_
  · simp
  · simp
  · simp
  · rintro e s' b' st' ⟨rfl, rfl, h⟩
    rw [List.drop_zero] at h ⊢
    rw [word_mem]
    by_cases hm : s ∈ WD
    · simp [hm, h hm]
    · simp [hm]

def beginsB (s : List UInt8) (a : Nat) (p : List UInt8) : Bool := decide (a + p.length ≤ s.length) && decide (seg s a (a + p.length) = p)

def Q42 (a : Nat) (cs : List D) (g : Nat) (o : Option (List UInt8)) (e : Ex) (s' : List D) (b' : List (Nat × List D)) (st' : St) : Prop :=
  st' = [] ∧ get s' 4 = .lp 4 g 0 ∧ match o with
    | some p => e = .ret ∧ get s' 5 = .i 0 ∧ getB b' 4 = (g, (Tok.enc ⟨4, 0, p, a, a + p.length⟩).cells)
    | none => e = .exit 4 ∧ getB b' 4 = (g, cs)

theorem l42_2 (s : List UInt8) (hs : s.length ≤ 8192) (a : Nat) (ha : a < s.length) (ws : List (List UInt8)) (hl : ws.length ≤ 8192) (hw : ∀ p, p ∈ ws → p.length ≤ 8192) (cs : List D) (hcs : cs.length = 5) (g : Nat) (hg : g ≠ 0) :
    ∀ (r i : Nat) (sl : List D) (bx : List (Nat × List D)), r = ws.length - i → i ≤ ws.length → get sl 0 = .str s → get sl 1 = .int .i64 a → get sl 11 = slE 1 .full (ws.map .str) → get sl 12 = .int .i64 i → get sl 4 = .lp 4 g 0 → getB bx 4 = (g, cs) →
    Stops (lp T L42_2 ⟨⟨sl, bx⟩, []⟩) (Q42 a cs g ((ws.drop i).find? (beginsB s a))) := by
  intro r
  induction r with
  | zero =>
    intro i sl bx hr hi h0 h1 h11 h12 h4 hb
    have e : i = ws.length := by omega
    subst e
    rw [lp_kL, L42_2, List.drop_length, List.find?_nil]
    simp [h0, h1, h11, h12, h4]
    exact ⟨rfl, by simp [h4], rfl, hb⟩
  | succ r ih =>
    intro i sl bx hr hi h0 h1 h11 h12 h4 hb
    have hlt : i < ws.length := by omega
    rw [lp_kL, L42_2, List.drop_eq_getElem_cons hlt]
    have w1 : IntKind.wrap .i64 ((i : Int) + 1) = ((i + 1 : Nat) : Int) := wrap_add (n := 1) (by omega) (by omega)
    have hp := hw ws[i] (List.getElem_mem hlt)
    have q1 := c78 s ws[i] a (by omega) hs hp []
    have e1 : beginsB s a ws[i] = (decide (a + ws[i].length ≤ s.length) && decide (seg s a (a + ws[i].length) = ws[i])) := rfl
    rw [← e1] at q1
    have w2 : IntKind.wrap .i64 ((a : Int) + ws[i].length) = ((a + ws[i].length : Nat) : Int) := wrap_add (by omega) (by omega)
    cases hq : beginsB s a ws[i] with
    | true =>
      rw [hq] at q1
      rw [List.find?_cons_of_pos hq]
      have hcs' : 5 ≤ cs.length := by omega
      simp [h0, h1, h11, h12, h4, hb, hlt, q1, w1, w2, hcs', hg, -Int.natCast_add, splice, kSt]
      refine ⟨rfl, by simp [h4], rfl, by simp, ?_⟩
      simp [hcs, List.drop_of_length_le]
    | false =>
      rw [hq] at q1
      rw [List.find?_cons_of_neg (by simp [hq])]
      simp [h0, h1, h11, h12, h4, hb, hlt, q1, w1, -Int.natCast_add]
      rw [← L42_2]
      refine ih (i + 1) _ _ (by omega) (by omega) ?_ ?_ ?_ ?_ ?_ hb <;> simp [h0, h1, h11, h4]

theorem seg_one (s : List UInt8) (a : Nat) (h : a < s.length) : seg s a (a + 1) = [s[a]] := by
  unfold seg
  rw [List.drop_take, show a + 1 - a = 1 by omega, List.drop_eq_getElem_cons h]
  rfl

theorem ch_inj {c d : UInt8} : (ch c = ch d) = (c = d) := propext ⟨fun h => UInt8.toNat_inj.1 (by have h' : (c.toNat : Int) = d.toNat := h; omega), fun h => by rw [h]⟩

theorem begins1 (s : List UInt8) (a : Nat) (h : a < s.length) (x : UInt8) : beginsB s a [x] = decide (ch s[a] = ch x) := by
  unfold beginsB
  rw [List.length_singleton, seg_one s a h, decide_eq_true (show a + 1 ≤ s.length by omega), Bool.true_and]
  simp only [ch_inj]
  simp

theorem begins2 (s : List UInt8) (a : Nat) (h : a < s.length) (x y : UInt8) (hy : ch y ≠ 0) : beginsB s a [x, y] = (decide (ch s[a] = ch x) && decide (chAt s (a + 1) = ch y)) := by
  unfold beginsB chAt
  rcases Nat.lt_or_ge (a + 1) s.length with g | g
  · have e : seg s a (a + 2) = [s[a], s[a + 1]] := by
      unfold seg
      rw [List.drop_take, show a + 2 - a = 2 by omega, List.drop_eq_getElem_cons h, List.drop_eq_getElem_cons g]
      rfl
    rw [List.getElem?_eq_getElem g]
    simp only [List.length_cons, List.length_nil, Nat.zero_add, Nat.reduceAdd, e, ch_inj]
    have : a + 2 ≤ s.length := by omega
    simp [this, Bool.decide_and]
  · rw [List.getElem?_eq_none g]
    have : ¬ a + 2 ≤ s.length := by omega
    have hy' : ¬ 0 = ch y := fun e => hy e.symm
    simp [this, hy']

theorem find_len (s : List UInt8) (a : Nat) (h : a < s.length) :
    (match SG.find? (beginsB s a) with | some p => p.length | none => 0) = signN (ch s[a]) (chAt s (a + 1)) ∧ ∀ p, SG.find? (beginsB s a) = some p → p ≠ [] ∧ p = seg s a (a + p.length) := by
  constructor
  · unfold SG
    simp only [List.find?_cons, List.find?_nil, begins1 s a h, begins2 s a h _ 61 (by decide), begins2 s a h _ 38 (by decide), begins2 s a h _ 124 (by decide)]
    generalize ch s[a] = c
    generalize chAt s (a + 1) = d
    have hch : ch 61 = 61 ∧ ch 33 = 33 ∧ ch 60 = 60 ∧ ch 62 = 62 ∧ ch 38 = 38 ∧ ch 124 = 124 ∧ ch 123 = 123 ∧ ch 125 = 125 ∧ ch 40 = 40 ∧ ch 41 = 41 ∧ ch 91 = 91 ∧ ch 93 = 93 ∧ ch 44 = 44 ∧ ch 59 = 59 ∧ ch 58 = 58 ∧ ch 46 = 46 ∧ ch 43 = 43 ∧ ch 45 = 45 ∧ ch 42 = 42 ∧ ch 47 = 47 ∧ ch 37 = 37 ∧ ch 64 = 64 := by decide
    simp only [hch]
    unfold signN
    clear hch
    by_cases h61 : c = 61
    · by_cases q : d = 61 <;> simp [h61, q]
    by_cases h33 : c = 33
    · by_cases q : d = 61 <;> simp [h33, q]
    by_cases h60 : c = 60
    · by_cases q : d = 61 <;> simp [h60, q]
    by_cases h62 : c = 62
    · by_cases q : d = 61 <;> simp [h62, q]
    by_cases h38 : c = 38
    · by_cases q : d = 38 <;> simp [h38, q]
    by_cases h124 : c = 124
    · by_cases q : d = 124 <;> simp [h124, q]
    by_cases h123 : c = 123
    · simp [h123]
    by_cases h125 : c = 125
    · simp [h125]
    by_cases h40 : c = 40
    · simp [h40]
    by_cases h41 : c = 41
    · simp [h41]
    by_cases h91 : c = 91
    · simp [h91]
    by_cases h93 : c = 93
    · simp [h93]
    by_cases h44 : c = 44
    · simp [h44]
    by_cases h59 : c = 59
    · simp [h59]
    by_cases h58 : c = 58
    · simp [h58]
    by_cases h46 : c = 46
    · simp [h46]
    by_cases h43 : c = 43
    · simp [h43]
    by_cases h45 : c = 45
    · simp [h45]
    by_cases h42 : c = 42
    · simp [h42]
    by_cases h47 : c = 47
    · simp [h47]
    by_cases h37 : c = 37
    · simp [h37]
    by_cases h64 : c = 64
    · simp [h64]
    simp [h61, h33, h60, h62, h38, h124, h123, h125, h40, h41, h91, h93, h44, h59, h58, h46, h43, h45, h42, h47, h37, h64]
  · intro p hp
    have h1 := List.find?_some hp
    have h2 := List.mem_of_find?_eq_some hp
    constructor
    · intro e; subst e; revert h2; decide
    · simp only [beginsB, Bool.and_eq_true, decide_eq_true_eq] at h1
      exact h1.2.symm

end Go.Nt.Lk

/-
  THE LEXERS, WALKED (10): the reference's tokens.
  No condition.
-/
set_option linter.unusedSimpArgs false
namespace Go.Nt.Lk
open Go Go.Nt

theorem c79' (c : UInt8) (st : St) : callD T (ev T) 79 [.int .u8 (ch c)] st = some (.bool (letterB c), st) := c79 _ c rfl st
theorem c80' (c : UInt8) (st : St) : callD T (ev T) 80 [.int .u8 (ch c)] st = some (.bool (digitB c), st) := c80 _ c rfl st

def Q42r (p : UInt8 → Bool) (s : List UInt8) (a : Nat) (id : Nat) (sl : List D) (bx : List (Nat × List D)) (e : Ex) (s' : List D) (b' : List (Nat × List D)) (st' : St) : Prop :=
  st' = [] ∧ e = .exit id ∧ b' = bx ∧ get s' 7 = .int .i64 (runEnd p s a) ∧ get s' 0 = get sl 0 ∧ get s' 1 = get sl 1 ∧ get s' 4 = get sl 4

theorem l42_0 (s : List UInt8) (hs : s.length ≤ 8192) :
    ∀ (r a : Nat) (sl : List D) (bx : List (Nat × List D)), r = s.length - a → a ≤ s.length → get sl 0 = .str s → get sl 7 = .int .i64 a →
    Stops (lp T L42_0 ⟨⟨sl, bx⟩, []⟩) (Q42r moreB s a 0 sl bx) := by
  intro r
  induction r with
  | zero =>
    intro a sl bx hr ha h0 h7
    have e : a = s.length := by omega
    subst e
    rw [lp_kL, L42_0]
    simp [h0, h7]
    exact ⟨rfl, rfl, rfl, by rw [runEnd_end (Nat.le_refl _)]; simp [h7], by simp, by simp, by simp⟩
  | succ r ih =>
    intro a sl bx hr ha h0 h7
    have hlt : a < s.length := by omega
    rw [lp_kL, L42_0]
    have w : IntKind.wrap .i64 ((a : Int) + 1) = ((a + 1 : Nat) : Int) := wrap_add (n := 1) (by omega) (by omega)
    have q1 := c79' s[a] []
    have q2 := c80' s[a] []
    have hm : moreB s[a] = (letterB s[a] || digitB s[a]) := rfl
    have go : ∀ sl', get sl' 0 = get sl 0 → get sl' 1 = get sl 1 → get sl' 4 = get sl 4 → get sl' 7 = .int .i64 ((a + 1 : Nat) : Int) → moreB s[a] = true → Stops (lp T L42_0 ⟨⟨sl', bx⟩, []⟩) (Q42r moreB s a 0 sl bx) := by
      intro sl' k0 k1 k4 k7 hp
      refine (ih (a + 1) sl' bx (by omega) (by omega) (by rw [k0, h0]) k7).mono ?_
      rintro e s' b' st' ⟨r1, r2, r3, r4, r5, r6, r7⟩
      exact ⟨r1, r2, r3, by rw [r4, runEnd_go hlt hp], by rw [r5, k0], by rw [r6, k1], by rw [r7, k4]⟩
    cases hl : letterB s[a] with
    | true =>
      rw [hl] at q1 hm
      simp [h0, h7, hlt, byteD, q1, w, -Int.natCast_add]
      rw [← L42_0]
      apply go _ _ _ _ _ hm <;> simp
    | false =>
      rw [hl] at q1 hm
      cases hd : digitB s[a] with
      | true =>
        rw [hd] at q2 hm
        simp [h0, h7, hlt, byteD, q1, q2, w, -Int.natCast_add]
        rw [← L42_0]
        apply go _ _ _ _ _ hm <;> simp
      | false =>
        rw [hd] at q2 hm
        simp [h0, h7, hlt, byteD, q1, q2, w, -Int.natCast_add]
        exact ⟨rfl, rfl, rfl, by rw [runEnd_stop hlt hm]; simp [h7], by simp, by simp, by simp⟩

theorem l42_1 (s : List UInt8) (hs : s.length ≤ 8192) :
    ∀ (r a : Nat) (sl : List D) (bx : List (Nat × List D)), r = s.length - a → a ≤ s.length → get sl 0 = .str s → get sl 7 = .int .i64 a →
    Stops (lp T L42_1 ⟨⟨sl, bx⟩, []⟩) (Q42r digitB s a 2 sl bx) := by
  intro r
  induction r with
  | zero =>
    intro a sl bx hr ha h0 h7
    have e : a = s.length := by omega
    subst e
    rw [lp_kL, L42_1]
    simp [h0, h7]
    exact ⟨rfl, rfl, rfl, by rw [runEnd_end (Nat.le_refl _)]; simp [h7], by simp, by simp, by simp⟩
  | succ r ih =>
    intro a sl bx hr ha h0 h7
    have hlt : a < s.length := by omega
    rw [lp_kL, L42_1]
    have w : IntKind.wrap .i64 ((a : Int) + 1) = ((a + 1 : Nat) : Int) := wrap_add (n := 1) (by omega) (by omega)
    have q2 := c80' s[a] []
    cases hd : digitB s[a] with
    | true =>
      rw [hd] at q2
      simp [h0, h7, hlt, byteD, q2, w, -Int.natCast_add]
      rw [← L42_1]
      refine (ih (a + 1) _ bx (by omega) (by omega) ?_ ?_).mono ?_
      · simp [h0]
      · simp
      · rintro e s' b' st' ⟨r1, r2, r3, r4, r5, r6, r7⟩
        refine ⟨r1, r2, r3, by rw [r4, runEnd_go hlt hd], ?_, ?_, ?_⟩
        · rw [r5]; simp
        · rw [r6]; simp
        · rw [r7]; simp
    | false =>
      rw [hd] at q2
      simp [h0, h7, hlt, byteD, q2, w, -Int.natCast_add]
      exact ⟨rfl, rfl, rfl, by rw [runEnd_stop hlt hd]; simp [h7], by simp, by simp, by simp⟩

def tok0 : Tok := ⟨0, 0, [], 0, 0⟩
def oneD : Tok ⊕ Int → D
  | .inl t => .tup [t.enc, .i 0]
  | .inr e => .tup [tok0.enc, .i e]

theorem oneD_fz (x : Tok ⊕ Int) : fz [] (oneD x) = some (oneD x, []) := by cases x <;> simp [oneD, fz, fzL]
theorem oneD_pure (x : Tok ⊕ Int) : (oneD x).pureT = true := by cases x <;> simp [oneD, D.pureT]

theorem c42 (s : List UInt8) (hs : s.length ≤ 8192) (a : Nat) (ha : a < s.length) (st : St) : callD T (ev T) 42 [.str s, .int .i64 a] st = some (oneD (oneT s a), st) := by
  refine callD_pure (fn := F42) rfl rfl (by simp) (r := oneD (oneT s a)) (st1 := []) (st2 := []) ?_ (oneD_fz _) (oneD_pure _)
  rw [ev_eq 42 F42 rfl, F42]
  have q1 := c79' s[a] []
  have q2 := c80' s[a] []
  cases hl : letterB s[a] with
  | true =>
    have hO : oneT s a = if 16 < runEnd moreB s a - a then .inr 3 else .inl ⟨if isWordB (seg s a (runEnd moreB s a)) then 3 else 1, 0, seg s a (runEnd moreB s a), a, runEnd moreB s a⟩ := by
      unfold oneT; rw [List.getElem?_eq_getElem ha]; simp [hl]
    rw [hl] at q1
    rw [hO]
    simp [ha, byteD, q1, splice, kSt]
    refine (l42_0 s hs _ a _ _ rfl (by omega) ?_ ?_).use (fun r => kfin _ (kseq _ (kseq _ (kblock 0 r))) = _) ?_
    · simp
    · simp
    · rintro e s' b' st' ⟨rfl, rfl, rfl, h7, h0, h1, h4⟩
      simp at h0 h1 h4
      have hr := le_runEnd moreB s a
      have hr2 := runEnd_le moreB s (Nat.le_of_lt ha)
      have w : IntKind.wrap .i64 ((runEnd moreB s a : Int) - a) = ((runEnd moreB s a - a : Nat) : Int) := by rw [wrap64] <;> omega
      have c16 : ∀ k : Nat, ((16 : Int) < k) = (16 < k) := fun k => propext (by omega)
      by_cases h16 : 16 < runEnd moreB s a - a
      · simp [h7, h0, h1, h4, w, c16, h16, splice, kSt, oneD, tok0, Tok.enc]
      · have q3 := str_slice s .i64 .i64 a (runEnd moreB s a) hr hr2
        have q4 := c82 []
        have q5 := c81 (seg s a (runEnd moreB s a)) []
        cases hw : isWordB (seg s a (runEnd moreB s a)) with
        | true =>
          rw [hw] at q5
          simp [h7, h0, h1, h4, w, c16, h16, q3, q4, q5, splice, kSt, oneD, tok0, Tok.enc]
        | false =>
          rw [hw] at q5
          simp [h7, h0, h1, h4, w, c16, h16, q3, q4, q5, splice, kSt, oneD, tok0, Tok.enc]
  | false =>
    rw [hl] at q1
    cases hd : digitB s[a] with
    | true =>
      have hO : oneT s a = if (1 < runEnd digitB s a - a ∧ ch s[a] = 48) ∨ 9223372036854775807 < numV (seg s a (runEnd digitB s a)) 0 then .inr 5 else .inl ⟨2, numV (seg s a (runEnd digitB s a)) 0, [], a, runEnd digitB s a⟩ := by
        unfold oneT; rw [List.getElem?_eq_getElem ha]; simp [hl, hd]
      rw [hd] at q2
      rw [hO]
      simp [ha, byteD, q1, q2, splice, kSt]
      refine (l42_1 s hs _ a _ _ rfl (by omega) ?_ ?_).use (fun r => kfin _ (kseq _ (kseq _ (kblock 2 r))) = _) ?_
      · simp
      · simp
      · rintro e s' b' st' ⟨rfl, rfl, rfl, h7, h0, h1, h4⟩
        simp at h0 h1 h4
        have hr : a < runEnd digitB s a := by rw [runEnd_go ha hd]; exact le_runEnd _ _ _
        have hr2 := runEnd_le digitB s (Nat.le_of_lt ha)
        have q3 := str_slice s .i64 .i64 a (runEnd digitB s a) (Nat.le_of_lt hr) hr2
        have hlen := seg_len s a (runEnd digitB s a) hr2
        have hne : seg s a (runEnd digitB s a) ≠ [] := by intro e; rw [e] at hlen; simp at hlen; omega
        have q4 := c83 (seg s a (runEnd digitB s a)) (digits_take s a) hne (by omega) []
        have hch := chAt_drop s a (runEnd digitB s a) hr
        have hca : chAt s a = ch s[a] := by unfold chAt; rw [List.getElem?_eq_getElem ha]
        have hok : numOK (seg s a (runEnd digitB s a)) = !decide ((1 < runEnd digitB s a - a ∧ ch s[a] = 48) ∨ 9223372036854775807 < numV (seg s a (runEnd digitB s a)) 0) := by
          unfold numOK
          rw [hlen, hch, hca, Bool.decide_or, Bool.decide_and, Bool.not_or]
          congr 1
          by_cases hx : numV (seg s a (runEnd digitB s a)) 0 ≤ 9223372036854775807
          · have : ¬ 9223372036854775807 < numV (seg s a (runEnd digitB s a)) 0 := by omega
            simp [hx, this]
          · have : 9223372036854775807 < numV (seg s a (runEnd digitB s a)) 0 := by omega
            simp [hx, this]
        by_cases hbad : (1 < runEnd digitB s a - a ∧ ch s[a] = 48) ∨ 9223372036854775807 < numV (seg s a (runEnd digitB s a)) 0
        · rw [decide_eq_true hbad] at hok
          rw [hok] at q4
          rw [if_pos hbad]
          simp [h7, h0, h1, h4, q3, q4, splice, kSt, oneD, tok0, Tok.enc]
        · rw [decide_eq_false hbad] at hok
          rw [hok] at q4
          rw [if_neg hbad]
          simp [h7, h0, h1, h4, q3, q4, splice, kSt, oneD, tok0, Tok.enc]
    | false =>
      have hO : oneT s a = if signN (ch s[a]) (chAt s (a + 1)) = 0 then .inr 4 else .inl ⟨4, 0, seg s a (a + signN (ch s[a]) (chAt s (a + 1))), a, a + signN (ch s[a]) (chAt s (a + 1))⟩ := by
        unfold oneT; rw [List.getElem?_eq_getElem ha]; simp [hl, hd]
      rw [hd] at q2
      obtain ⟨f1, f2⟩ := find_len s a ha
      have q3 := c84 []
      rw [hO, ← f1]
      clear hO f1
      simp [ha, byteD, q1, q2, q3, splice, kSt]
      refine (l42_2 s hs a ha SG (by decide) (by decide) [.i 0, .i 0, .str [], .i 0, .i 0] rfl 1 (by decide) _ 0 _ _ rfl (by decide) ?_ ?_ ?_ ?_ ?_ ?_).use (fun r => kfin _ (kseq _ (kblock 4 r)) = _) ?_
      iterate 6 simp
      rintro e s' b' st' ⟨rfl, h4, hq⟩
      rw [List.drop_zero] at hq
      cases hf : SG.find? (beginsB s a) with
      | some p =>
        rw [hf] at hq
        obtain ⟨rfl, h5, hb⟩ := hq
        obtain ⟨g1, g2⟩ := f2 p hf
        have hn : p.length ≠ 0 := fun e => g1 (List.eq_nil_of_length_eq_zero e)
        simp only [if_neg hn, ← g2]
        simp [h4, h5, hb, oneD, Tok.enc]
      | none =>
        rw [hf] at hq
        obtain ⟨rfl, hb⟩ := hq
        simp [h4, hb, splice, kSt, oneD, tok0, Tok.enc]

end Go.Nt.Lk

/-
  THE LEXERS, WALKED (11): the reference's tokens of a text.
  No condition.
-/
set_option linter.unusedSimpArgs false
namespace Go.Nt.Lk
open Go Go.Nt

abbrev gt (ts : List Tok) : D × St := grown (seed 5 .emp) 5 (ts.map Tok.enc)

theorem gt_app (ts : List Tok) (t : Tok) (h : ts.length ≤ 8192) : appendD (gt ts).2 (gt ts).1 [t.enc] 5 = some (gt (ts ++ [t])) := by
  have := grow .emp 5 (ts.map Tok.enc) t.enc (by simp; omega)
  rw [this]
  simp [gt]

theorem gt_fz (l : List Tok) (t : Tok) : fz (gt (l ++ [t])).2 (.tup [(gt (l ++ [t])).1, .i 0, .i 0]) = some (.tup [.sl 5 false ((l ++ [t]).map Tok.enc), .i 0, .i 0], grownZ 5 ((l ++ [t]).map Tok.enc)) := by
  have hk : slE 5 Fl.emp.grew ((l ++ [t]).map Tok.enc) = .sl 5 false ((l ++ [t]).map Tok.enc) := by cases l <;> rfl
  rw [← hk]
  simp [fz, fzL, gt, -List.map_append]

def Q16 (s : List UInt8) (a : Nat) (ts : List Tok) (e : Ex) (s' : List D) (st' : St) : Prop :=
  (∃ l, toksF s a ts = .inl (l ++ [⟨5, 0, [], s.length, s.length⟩]) ∧ e = .exit 0 ∧ st' = (gt l).2 ∧ get s' 5 = (gt l).1 ∧ l.length ≤ s.length ∧ get s' 0 = .str s) ∨
      (∃ at_ er, toksF s a ts = .inr (at_, er) ∧ e = .ret ∧ get s' 2 = .sl 5 true [] ∧ get s' 3 = .i at_ ∧ get s' 4 = .i er)

theorem l16 (s : List UInt8) (hs : s.length ≤ 8192) :
    ∀ (r a : Nat) (ts : List Tok) (sl : List D) (bx : List (Nat × List D)), r = s.length - a → a ≤ s.length → ts.length ≤ a → get sl 0 = .str s → get sl 5 = (gt ts).1 → get sl 6 = .int .i64 a →
    Stops (lp T L16_0 ⟨⟨sl, bx⟩, (gt ts).2⟩) fun e s' _ st' => Q16 s a ts e s' st' := by
  intro r
  induction r using Nat.strongRecOn with
  | ind r ih =>
    intro a ts sl bx hr ha hlen h0 h5 h6
    rw [lp_kL, L16_0]
    by_cases hlt : a < s.length
    · have q1 := c42 s hs a hlt (gt ts).2
      cases ht : oneT s a with
      | inl t =>
        have h1 := oneT_to hlt ht
        have h2 := le_nextP s t.t
        have h3 := nextP_le s t.t h1.2.1
        have q2 := gt_app ts t (by omega)
        have q3 := c41 s hs t.t h1.2.1 (gt (ts ++ [t])).2
        have hF : toksF s a ts = toksF s (nextP s t.t) (ts ++ [t]) := by
          rw [toksF, dif_pos hlt]
          split
          · next t' ht' => rw [ht] at ht'; cases ht'; rfl
          · next e' ht' => rw [ht] at ht'; cases ht'
        rw [ht] at q1
        simp only [oneD, Tok.enc] at q1 q2
        unfold Q16
        rw [hF]
        have go := ih (s.length - nextP s t.t) (by omega) (nextP s t.t) (ts ++ [t])
        unfold Q16 at go
        generalize gt (ts ++ [t]) = g2 at *
        have hp5 := h5
        generalize gt ts = g1 at *
        simp [h0, h5, h6, hlt, q1, splice, kSt, srcD, listD, q2, q3]
        rw [← L16_0]
        refine go _ _ rfl h3 (by simp; omega) ?_ ?_ ?_
        · simp [h0]
        · simp
        · simp
      | inr er =>
        rw [ht] at q1
        simp only [oneD, tok0, Tok.enc] at q1
        have hF : toksF s a ts = .inr (a, er) := by
          rw [toksF, dif_pos hlt]
          split
          · next t' ht' => rw [ht] at ht'; cases ht'
          · next e' ht' => rw [ht] at ht'; cases ht'; rfl
        have hne : er ≠ 0 := by
          unfold oneT at ht
          rw [List.getElem?_eq_getElem hlt] at ht
          simp only at ht
          split at ht
          · split at ht <;> cases ht; decide
          · split at ht
            · split at ht <;> cases ht; decide
            · split at ht <;> cases ht; decide
        simp [h0, h5, h6, hlt, q1, splice, kSt, hne]
        exact .inr ⟨a, er, hF, rfl, by simp, by simp, by simp⟩
    · have e : a = s.length := by omega
      subst e
      have hF : toksF s s.length ts = .inl (ts ++ [⟨5, 0, [], s.length, s.length⟩]) := by rw [toksF, dif_neg (by omega)]
      simp [h0, h5, h6]
      exact .inl ⟨ts, hF, rfl, rfl, by simp [h5], hlen, by simp [h0]⟩

theorem c16 (s : List UInt8) (st : St) : callD T (ev T) 16 [.str s] st = some (lexD (toksR s) (.sl 5 true []) fun l => .sl 5 false (l.map Tok.enc), st) := by
  suffices h : Ret (ev T 16 [.str s] []) fun r st' => ∃ st2, fz st' r = some (lexD (toksR s) (.sl 5 true []) fun l => .sl 5 false (l.map Tok.enc), st2) by
    obtain ⟨r, st', h1, st2, h2⟩ := h
    refine callD_pure (fn := F16) rfl rfl (by simp) h1 h2 ?_
    unfold lexD
    split <;> simp [D.pureT, D.pure, D.pure1, D.pure0]
  rw [ev_eq 16 F16 rfl, F16]
  have c8192 : ∀ k : Nat, ((8192 : Int) < k) = (8192 < k) := fun k => propext (by omega)
  unfold toksR
  by_cases h : 8192 < s.length
  · simp [c8192, h, lexD, fz, fzL]
  · have hs : s.length ≤ 8192 := by omega
    have q1 := c41 s hs 0 (by omega) []
    have q1' : callD T (ev T) 41 [.str s, .i 0] [] = some (.i (nextP s 0), []) := q1
    simp [c8192, h, q1']
    refine (l16 s hs _ (nextP s 0) [] _ _ rfl (nextP_le s 0 (by omega)) (by simp) ?_ ?_ ?_).use (fun r => Ret (kfin _ (kseq _ (kblock 0 r))) _) ?_
    · simp
    · simp; rfl
    · simp
    · rintro e s' b' st' (⟨l, h1, rfl, rfl, h5, hl, h0⟩ | ⟨a', e', h1, rfl, h2, h3, h4⟩)
      · rw [h1]
        have q2 := gt_app l ⟨5, 0, [], s.length, s.length⟩ (by omega)
        simp only [Tok.enc] at q2
        have hz := gt_fz l ⟨5, 0, [], s.length, s.length⟩
        have hok : (gt (l ++ [(⟨5, 0, [], s.length, s.length⟩ : Tok)])).1.okv = true := grown_okv _ _ _
        generalize gt (l ++ [(⟨5, 0, [], s.length, s.length⟩ : Tok)]) = g2 at *
        generalize hg : gt l = g1 at *
        simp [h5, h0, srcD, listD, q2, lexD, hok]
        exact ⟨_, by simpa using hz⟩
      · rw [h1]
        simp [h2, h3, h4, lexD, fz, fzL]

end Go.Nt.Lk
