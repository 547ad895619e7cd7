/-
  A TEXT's TOKENS, plainly.
  No condition.
-/
import Derived.Test.YtpfdoelhoiohdaaNtSim
namespace Go.Nt.Lk
open Go Go.Nt

abbrev ch (c : UInt8) : Int := c.toNat

def blankB (c : UInt8) : Bool := decide (ch c = 32) || decide (ch c = 9) || decide (ch c = 10) || decide (ch c = 13)
def letterB (c : UInt8) : Bool := (decide (97 ≤ ch c) && decide (ch c ≤ 122)) || (decide (65 ≤ ch c) && decide (ch c ≤ 90)) || decide (ch c = 95)
def digitB (c : UInt8) : Bool := decide (48 ≤ ch c) && decide (ch c ≤ 57)
def moreB (c : UInt8) : Bool := letterB c || digitB c
def lineB (c : UInt8) : Bool := !decide (ch c = 10)

def runEnd (p : UInt8 → Bool) (s : List UInt8) (a : Nat) : Nat := a + ((s.drop a).takeWhile p).length

theorem runEnd_le (p : UInt8 → Bool) (s : List UInt8) {a : Nat} (h : a ≤ s.length) : runEnd p s a ≤ s.length := by
  have : ((s.drop a).takeWhile p).length ≤ (s.drop a).length := by
    have := congrArg List.length (List.takeWhile_append_dropWhile (p := p) (l := s.drop a))
    rw [List.length_append] at this
    omega
  unfold runEnd
  rw [List.length_drop] at this
  omega
theorem le_runEnd (p : UInt8 → Bool) (s : List UInt8) (a : Nat) : a ≤ runEnd p s a := Nat.le_add_right _ _
theorem runEnd_go {p : UInt8 → Bool} {s : List UInt8} {a : Nat} (h : a < s.length) (hp : p s[a] = true) : runEnd p s a = runEnd p s (a + 1) := by
  unfold runEnd
  rw [List.drop_eq_getElem_cons h, List.takeWhile_cons_of_pos hp, List.length_cons]
  omega
theorem runEnd_stop {p : UInt8 → Bool} {s : List UInt8} {a : Nat} (h : a < s.length) (hp : p s[a] = false) : runEnd p s a = a := by
  unfold runEnd
  rw [List.drop_eq_getElem_cons h, List.takeWhile_cons_of_neg (by simp [hp])]
  rfl
theorem runEnd_end {p : UInt8 → Bool} {s : List UInt8} {a : Nat} (h : s.length ≤ a) : runEnd p s a = a := by
  unfold runEnd
  rw [List.drop_eq_nil_of_le h]
  rfl

/-- Do two bytes stand there that begin a comment? -/
def slashB (s : List UInt8) (a : Nat) : Bool := decide (s[a]? = some 47) && decide (s[a + 1]? = some 47)

theorem runEnd_slash {s : List UInt8} {a : Nat} (h : slashB s a = true) : a < runEnd lineB s a := by
  simp only [slashB, Bool.and_eq_true, decide_eq_true_eq] at h
  obtain ⟨hl, hs⟩ := List.getElem?_eq_some_iff.1 h.1
  rw [runEnd_go hl (by rw [hs]; decide)]
  exact le_runEnd _ _ _

/-- The place of the next token. -/
def nextP (s : List UInt8) (a : Nat) : Nat :=
  if h : a < s.length then
    if blankB s[a] then nextP s (a + 1)
    else if hs : slashB s a = true then nextP s (runEnd lineB s a)
    else a
  else a
termination_by s.length - a
decreasing_by
  · omega
  · have := runEnd_slash hs; omega

theorem nextP_le (s : List UInt8) (a : Nat) : a ≤ s.length → nextP s a ≤ s.length := by
  intro h
  induction hn : s.length - a using Nat.strongRecOn generalizing a with
  | ind n ih =>
    rw [nextP]
    split
    · next hl =>
      split
      · exact ih _ (by omega) (a + 1) (by omega) rfl
      · split
        · next hs => exact ih _ (by have := runEnd_slash hs; omega) _ (runEnd_le _ _ (by omega)) rfl
        · omega
    · omega

theorem le_nextP (s : List UInt8) (a : Nat) : a ≤ nextP s a := by
  induction hn : s.length - a using Nat.strongRecOn generalizing a with
  | ind n ih =>
    rw [nextP]
    split
    · next hl =>
      split
      · exact Nat.le_trans (Nat.le_succ a) (ih _ (by omega) (a + 1) rfl)
      · split
        · next hs =>
          have := runEnd_slash hs
          exact Nat.le_trans (Nat.le_of_lt this) (ih _ (by omega) _ rfl)
        · exact Nat.le_refl _
    · exact Nat.le_refl _

/-- A token. -/
structure Tok where
  k : Int
  n : Int
  s : List UInt8
  f : Nat
  t : Nat

def Tok.enc (t : Tok) : D := .agg [.int .i64 t.k, .int .i64 t.n, .str t.s, .int .i64 t.f, .int .i64 t.t]
@[simp] theorem Tok.enc_pure (o : Tok) : o.enc.pure = true := by simp [Tok.enc]
@[simp] theorem Tok.enc_okv (o : Tok) : o.enc.okv = true := by simp [Tok.enc]
@[simp] theorem Tok.enc_cells (o : Tok) : o.enc.cells = [.int .i64 o.k, .int .i64 o.n, .str o.s, .int .i64 o.f, .int .i64 o.t] := (rfl)
@[simp] theorem Tok.enc_fz1 (o : Tok) (st : St) : fz1 st o.enc = some (o.enc, st) := by simp [Tok.enc, fz1, fzL]

/-- The value of digits. -/
def numV (l : List UInt8) (v : Int) : Int := l.foldl (fun v c => v * 10 + (ch c - 48)) v

def isWordB (s : List UInt8) : Bool :=
  decide (s = [114, 101, 99]) || decide (s = [99, 111, 110, 115, 116]) || decide (s = [118, 97, 114]) || decide (s = [112, 117, 98]) || decide (s = [102, 110]) || decide (s = [105, 110, 116]) || decide (s = [98, 111, 111, 108]) || decide (s = [108, 101, 116]) || decide (s = [105, 102]) || decide (s = [101, 108, 115, 101]) || decide (s = [119, 104, 105, 108, 101]) || decide (s = [102, 111, 114]) || decide (s = [116, 111]) || decide (s = [112, 114, 105, 110, 116]) || decide (s = [114, 101, 116, 117, 114, 110]) || decide (s = [100, 111]) || decide (s = [116, 114, 117, 101]) || decide (s = [102, 97, 108, 115, 101]) || decide (s = [114, 101, 97, 100]) || decide (s = [110, 101, 119])

/-- How long the sign is that begins with these two bytes. -/
def signN (c d : Int) : Nat :=
  if c = 61 ∨ c = 33 ∨ c = 60 ∨ c = 62 then (if d = 61 then 2 else 1)
  else if c = 38 ∨ c = 124 then (if d = c then 2 else 0)
  else if c = 123 ∨ c = 125 ∨ c = 40 ∨ c = 41 ∨ c = 91 ∨ c = 93 ∨ c = 44 ∨ c = 59 ∨ c = 58 ∨ c = 46 ∨ c = 43 ∨ c = 45 ∨ c = 42 ∨ c = 47 ∨ c = 37 ∨ c = 64 then 1
  else 0

def chAt (s : List UInt8) (a : Nat) : Int := match s[a]? with
  | some c => ch c
  | none => 0

def seg (s : List UInt8) (a b : Nat) : List UInt8 := (s.take b).drop a

/-- The token at a place, or what is wrong. -/
def oneT (s : List UInt8) (a : Nat) : Tok ⊕ Int :=
  match s[a]? with
  | none => .inr 4
  | some c =>
    if letterB c then
      let b := runEnd moreB s a
      if 16 < b - a then .inr 3
      else .inl ⟨if isWordB (seg s a b) then 3 else 1, 0, seg s a b, a, b⟩
    else if digitB c then
      let b := runEnd digitB s a
      if (1 < b - a ∧ ch c = 48) ∨ 9223372036854775807 < numV (seg s a b) 0 then .inr 5
      else .inl ⟨2, numV (seg s a b) 0, [], a, b⟩
    else
      let n := signN (ch c) (chAt s (a + 1))
      if n = 0 then .inr 4 else .inl ⟨4, 0, seg s a (a + n), a, a + n⟩

theorem oneT_to {s : List UInt8} {a : Nat} {t : Tok} (ha : a < s.length) (h : oneT s a = .inl t) : a < t.t ∧ t.t ≤ s.length ∧ t.f = a := by
  unfold oneT at h
  rw [List.getElem?_eq_getElem ha] at h
  simp only at h
  split at h
  · next hl =>
    have hm : moreB s[a] = true := by simp [moreB, hl]
    split at h
    · cases h
    · cases h
      have h1 := le_runEnd moreB s (a + 1)
      have h2 : a < runEnd moreB s a := by rw [runEnd_go ha hm]; omega
      exact ⟨h2, runEnd_le _ _ (by omega), rfl⟩
  · split at h
    · next hd =>
      split at h
      · cases h
      · cases h
        have h1 := le_runEnd digitB s (a + 1)
        have h2 : a < runEnd digitB s a := by rw [runEnd_go ha hd]; omega
        exact ⟨h2, runEnd_le _ _ (by omega), rfl⟩
    · split at h
      · cases h
      · next hn =>
        cases h
        refine ⟨by simp only; omega, ?_, rfl⟩
        simp only
        rcases Nat.lt_or_ge (a + 1) s.length with g | g
        · have : signN (ch s[a]) (chAt s (a + 1)) ≤ 2 := by unfold signN; split <;> (try split) <;> (try split) <;> omega
          omega
        · have e : chAt s (a + 1) = 0 := by unfold chAt; rw [List.getElem?_eq_none g]
          have : signN (ch s[a]) (chAt s (a + 1)) ≤ 1 := by
            rw [e]
            unfold signN
            split
            · simp
            · split
              · next hc => rcases hc with hc | hc <;> rw [hc] <;> simp
              · split <;> omega
          omega

/-- The tokens from a place on (one at which neither a blank nor a comment is), behind others. -/
def toksF (s : List UInt8) (a : Nat) (ts : List Tok) : (List Tok) ⊕ (Nat × Int) :=
  if ha : a < s.length then
    match h : oneT s a with
    | .inl t => toksF s (nextP s t.t) (ts ++ [t])
    | .inr e => .inr (a, e)
  else .inl (ts ++ [⟨5, 0, [], s.length, s.length⟩])
termination_by s.length - a
decreasing_by
  have h1 := oneT_to ha h
  have : t.t ≤ nextP s t.t := by
    exact (le_nextP s t.t)
  omega

end Go.Nt.Lk
