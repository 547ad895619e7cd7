/-
  THE LEXERS, WALKED (2): the reader; blanks and comments.
  No condition.
-/
import Derived.Test.YtpfdoelhoiohdaaLkLex1
set_option linter.unusedSimpArgs false
namespace Go.Nt.Lk
open Go Go.Nt

/-- The reader. -/
def rsO (m : Nat) (s : List UInt8) (a : Nat) (out : D) : Ob := .cells true 3 0 m false [.agg [.str s, .int .i64 a, out]]
abbrev rp : D := .hp 0 0 3 0 0

/-- It comes to something such. -/
def Ret (x : Option (D × St)) (Q : D → St → Prop) : Prop := ∃ r st, x = some (r, st) ∧ Q r st
@[simp] theorem Ret_some (r : D) (st : St) (Q : D → St → Prop) : Ret (some (r, st)) Q ↔ Q r st := by
  constructor
  · rintro ⟨r', st', h, q⟩; cases h; exact q
  · exact fun h => ⟨r, st, rfl, h⟩

theorem wrap_add {a n : Nat} (h : a ≤ 8192) (hn : n ≤ 8192) : IntKind.wrap .i64 ((a : Int) + n) = ((a + n : Nat) : Int) := by rw [wrap64] <;> omega

theorem e124 (m : Nat) (s : List UInt8) (a : Nat) (out : D) (R : St) (ha : a ≤ s.length) (hs : s.length ≤ 8192) :
    ev T 124 [rp, .int .i64 1] (rsO m s a out :: R) = some (.int .u8 (chAt s (a + 1)), rsO m s a out :: R) := by
  rw [ev_eq 124 F124 rfl, F124]
  have w : IntKind.wrap .i64 ((a : Int) + 1) = ((a + 1 : Nat) : Int) := wrap_add (n := 1) (by omega) (by omega)
  unfold chAt
  by_cases h : a + 1 < s.length
  · simp [rsO, w, h, -Int.natCast_add, byteD]
  · simp [rsO, w, h, -Int.natCast_add]

theorem l125 (p : UInt8 → Bool) (g : Nat) (hg : ∀ (c : UInt8) (st : St), callD T (ev T) g [rp, .int .u8 (ch c)] st = some (.bool (p c), st)) (s : List UInt8) (hs : s.length ≤ 8192) (out : D) (R : St) :
    ∀ (r a m : Nat) (sl : List D) (bx : List (Nat × List D)), r = s.length - a → a ≤ s.length → get sl 0 = rp → get sl 1 = .fn g [rp] [] →
    Stops (lp T L125_0 ⟨⟨sl, bx⟩, rsO m s a out :: R⟩) fun e s' _ st' => e = .exit 0 ∧ ∃ m', st' = rsO m' s (runEnd p s a) out :: R ∧ get s' 0 = rp ∧ get s' 5 = get sl 5 := by
  intro r
  induction r with
  | zero =>
    intro a m sl bx hr ha h0 h1
    have e : a = s.length := by omega
    subst e
    rw [lp_kL, L125_0, runEnd_end (Nat.le_refl _)]
    simp [rsO, h0, h1]
  | succ r ih =>
    intro a m sl bx hr ha h0 h1
    have hlt : a < s.length := by omega
    rw [lp_kL, L125_0]
    have w : IntKind.wrap .i64 ((a : Int) + 1) = ((a + 1 : Nat) : Int) := wrap_add (n := 1) (by omega) (by omega)
    cases hp : p s[a] with
    | true =>
      rw [runEnd_go hlt hp]
      simp [rsO, h0, h1, hlt, byteD, hg, hp, w, -Int.natCast_add, splice, rewrap]
      rw [← L125_0]
      refine (ih (a + 1) (m + 1) _ _ (by omega) (by omega) ?_ ?_).mono ?_
      · simp [h0]
      · simp [h1]
      · rintro e s' b' st' ⟨rfl, m', q1, q2, q3⟩
        refine ⟨rfl, ⟨m', q1⟩, q2, ?_⟩
        rw [q3]; simp
    | false =>
      rw [runEnd_stop hlt hp]
      simp [rsO, h0, h1, hlt, byteD, hg, hp, w]

theorem e125 (p : UInt8 → Bool) (g : Nat) (hg : ∀ (c : UInt8) (st : St), callD T (ev T) g [rp, .int .u8 (ch c)] st = some (.bool (p c), st)) (s : List UInt8) (hs : s.length ≤ 8192) (out : D) (R : St)
    (a m : Nat) (ha : a ≤ s.length) : ∃ m', ev T 125 [rp, .fn g [rp] []] (rsO m s a out :: R) = some (.str (seg s a (runEnd p s a)), rsO m' s (runEnd p s a) out :: R) := by
  suffices h : Ret (ev T 125 [rp, .fn g [rp] []] (rsO m s a out :: R)) fun r st => ∃ m', r = .str (seg s a (runEnd p s a)) ∧ st = rsO m' s (runEnd p s a) out :: R by
    obtain ⟨r, st, h1, m', rfl, rfl⟩ := h
    exact ⟨m', h1⟩
  rw [ev_eq 125 F125 rfl, F125]
  simp [rsO]
  rw [← rsO]
  refine (l125 p g hg s hs out R _ a m _ _ rfl ha ?_ ?_).use (fun r => Ret (kfin _ (kseq _ (kblock 0 r))) _) ?_
  · simp
  · simp
  · rintro e s' b' st' ⟨rfl, m', rfl, h0, h5⟩
    have q := str_slice s .i64 .i64 a (runEnd p s a) (le_runEnd _ _ _) (runEnd_le _ _ ha)
    have h5' : get s' 5 = .int .i64 a := by rw [h5]; simp
    simp [rsO, h0, h5', q]

theorem c126 (c : UInt8) (st : St) : callD T (ev T) 126 [rp, .int .u8 (ch c)] st = some (.bool (lineB c), st) := by
  rw [callD_raw (fn := F126) rfl rfl (by simp), e126 _ _ c rfl]
theorem c144 (c : UInt8) (st : St) : callD T (ev T) 144 [rp, .int .u8 (ch c)] st = some (.bool (moreB c), st) := by
  rw [callD_raw (fn := F144) rfl rfl (by simp), e144 _ _ _ _ _ _ c rfl]
theorem c129 (c : UInt8) (st : St) : callD T (ev T) 129 [rp, .int .u8 (ch c)] st = some (.bool (digitB c), st) := by
  rw [callD_raw (fn := F129) rfl rfl (by simp), e129 _ _ c rfl]
theorem c127 (c : UInt8) (st : St) : callD T (ev T) 127 [rp, .int .u8 (ch c)] st = some (.bool (letterB c), st) := by
  rw [callD_raw (fn := F127) rfl rfl (by simp), e127 _ _ c rfl]

theorem slash_iff (s : List UInt8) (a : Nat) (h : a < s.length) : slashB s a = (decide (ch s[a] = 47) && decide (chAt s (a + 1) = 47)) := by
  have e : ∀ c : UInt8, (ch c = 47) = (c = 47) := by
    intro c
    apply propext
    constructor
    · intro h
      have : c.toNat = (47 : UInt8).toNat := by show c.toNat = 47; have h' : (c.toNat : Int) = 47 := h; omega
      exact UInt8.toNat_inj.1 this
    · rintro rfl; rfl
  unfold slashB chAt
  rw [List.getElem?_eq_getElem h]
  simp only [Option.some.injEq, e]
  cases hq : s[a + 1]? with
  | none => simp
  | some c => simp [e]

theorem l85 (s : List UInt8) (hs : s.length ≤ 8192) (out : D) (R : St) :
    ∀ (r a m : Nat) (sl : List D) (bx : List (Nat × List D)), r = s.length - a → a ≤ s.length → get sl 0 = rp →
    Stops (lp T L85_0 ⟨⟨sl, bx⟩, rsO m s a out :: R⟩) fun e _ _ st' => (e = .exit 0 ∨ e = .ret) ∧ ∃ m', st' = rsO m' s (nextP s a) out :: R := by
  intro r
  induction r using Nat.strongRecOn with
  | ind r ih =>
    intro a m sl bx hr ha h0
    rw [lp_kL, L85_0]
    by_cases hlt : a < s.length
    · have w : IntKind.wrap .i64 ((a : Int) + 1) = ((a + 1 : Nat) : Int) := wrap_add (n := 1) (by omega) (by omega)
      rw [nextP, dif_pos hlt]
      have hB : blankB s[a] = (decide (ch s[a] = 32) || decide (ch s[a] = 9) || decide (ch s[a] = 10) || decide (ch s[a] = 13)) := rfl
      have hS := slash_iff s a hlt
      have next : ∀ (m : Nat) (sl : List D) (bx : List (Nat × List D)), get sl 0 = rp → Stops (lp T L85_0 ⟨⟨sl, bx⟩, rsO m s (a + 1) out :: R⟩) fun e _ _ st' => (e = .exit 0 ∨ e = .ret) ∧ ∃ m', st' = rsO m' s (nextP s (a + 1)) out :: R :=
        fun m sl bx h => ih (s.length - (a + 1)) (by omega) (a + 1) m sl bx rfl (by omega) h
      by_cases h1 : ch s[a] = 32
      · simp [hB, rsO, h0, hlt, byteD, h1, w, -Int.natCast_add, splice]
        rw [← L85_0]
        exact next (m + 1) _ _ (by simp [h0])
      by_cases h2 : ch s[a] = 9
      · simp [hB, rsO, h0, hlt, byteD, h1, h2, w, -Int.natCast_add, splice]
        rw [← L85_0]
        exact next (m + 1) _ _ (by simp [h0])
      by_cases h3 : ch s[a] = 10
      · simp [hB, rsO, h0, hlt, byteD, h1, h2, h3, w, -Int.natCast_add, splice]
        rw [← L85_0]
        exact next (m + 1) _ _ (by simp [h0])
      by_cases h4 : ch s[a] = 13
      · simp [hB, rsO, h0, hlt, byteD, h1, h2, h3, h4, w, -Int.natCast_add, splice]
        rw [← L85_0]
        exact next (m + 1) _ _ (by simp [h0])
      by_cases h5 : ch s[a] = 47
      · have q1 : callD T (ev T) 124 [rp, .int .i64 1] (rsO m s a out :: R) = some (.int .u8 (chAt s (a + 1)), rsO m s a out :: R) := by
          rw [callD_raw (fn := F124) rfl rfl (by simp)]; exact e124 m s a out R (by omega) hs
        by_cases h6 : chAt s (a + 1) = 47
        · obtain ⟨m', q2⟩ := e125 lineB 126 c126 s hs out R a m ha
          have q2' : callD T (ev T) 125 [rp, .fn 126 [rp] []] (rsO m s a out :: R) = some (.str (seg s a (runEnd lineB s a)), rsO m' s (runEnd lineB s a) out :: R) := by
            rw [callD_raw (fn := F125) rfl rfl (by simp)]; exact q2
          have hsl : slashB s a = true := by rw [hS, decide_eq_true h5, decide_eq_true h6]; rfl
          have := runEnd_slash hsl
          have := runEnd_le lineB s ha
          simp only [rsO] at q1 q2'
          simp [hB, hsl, rsO, h0, hlt, byteD, h1, h2, h3, h4, h5, h6, q1, q2']
          rw [← L85_0]
          exact ih (s.length - runEnd lineB s a) (by omega) (runEnd lineB s a) m' _ _ rfl (by omega) (by simp [h0])
        · have hsl : slashB s a = false := by rw [hS, decide_eq_false h6, Bool.and_false]
          simp only [rsO] at q1
          simp [hB, hsl, rsO, h0, hlt, byteD, h1, h2, h3, h4, h5, h6, q1]
      · have hsl : slashB s a = false := by rw [hS, decide_eq_false h5, Bool.false_and]
        simp [hB, hsl, rsO, h0, hlt, byteD, h1, h2, h3, h4, h5]
    · have e : a = s.length := by omega
      subst e
      rw [nextP, dif_neg (by omega)]
      simp [rsO, h0]

theorem e85 (s : List UInt8) (hs : s.length ≤ 8192) (out : D) (R : St) (a m : Nat) (ha : a ≤ s.length) : ∃ m', ev T 85 [rp] (rsO m s a out :: R) = some (.tup [], rsO m' s (nextP s a) out :: R) := by
  suffices h : Ret (ev T 85 [rp] (rsO m s a out :: R)) fun r st => ∃ m', r = .tup [] ∧ st = rsO m' s (nextP s a) out :: R by
    obtain ⟨r, st, h1, m', rfl, rfl⟩ := h
    exact ⟨m', h1⟩
  rw [ev_eq 85 F85 rfl, F85]
  simp
  refine (l85 s hs out R _ a m _ _ rfl ha (by simp)).use (fun r => Ret (kfin _ (kblock 0 r)) _) ?_
  rintro e s' b' st' ⟨rfl | rfl, m', rfl⟩
  · simp
    exact ⟨m', rfl⟩
  · simp
    exact ⟨m', rfl⟩

end Go.Nt.Lk
