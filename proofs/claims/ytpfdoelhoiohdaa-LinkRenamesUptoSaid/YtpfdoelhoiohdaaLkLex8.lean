/-
  THE LEXERS, WALKED (8): the program's lexer.
  No condition.
-/
import Derived.Test.YtpfdoelhoiohdaaLkLex7
set_option linter.unusedSimpArgs false
namespace Go.Nt.Lk
open Go Go.Nt

theorem sign_le (s : List UInt8) (a : Nat) (ha : a < s.length) : a + signN (ch s[a]) (chAt s (a + 1)) ≤ s.length := by
  rcases Nat.lt_or_ge (a + 1) s.length with g | g
  · have : signN (ch s[a]) (chAt s (a + 1)) ≤ 2 := by unfold signN; split <;> (try split) <;> (try split) <;> omega
    omega
  · have e : chAt s (a + 1) = 0 := by unfold chAt; rw [List.getElem?_eq_none g]
    have : signN (ch s[a]) (chAt s (a + 1)) ≤ 1 := by
      rw [e]
      unfold signN
      split
      · simp
      · split
        · next hc => rcases hc with hc | hc <;> rw [hc] <;> simp
        · split <;> omega
    omega

theorem e86 (m : Nat) (s : List UInt8) (hs : s.length ≤ 8192) (a : Nat) (ha : a < s.length) (ts : List Tok) (h : ts.length ≤ 10000) :
    Ret (ev T 86 [rp] (rs m s a ts)) fun r st => ∃ e, r = .int .i64 e ∧ After s a ts e st := by
  rw [ev_eq 86 F86 rfl, F86]
  have g0 : ∀ M A, rs M s A ts = Ob.cells true 3 0 M false [.agg [.str s, .int .i64 A, outD ts]] :: outS ts := fun _ _ => rfl
  have q1 := c127 s[a] (rs m s a ts)
  cases hl : letterB s[a] with
  | true =>
    rw [hl] at q1
    obtain ⟨r, st, q2, e, rfl, q3⟩ := e128 m s hs a ha ts h hl
    have q2' : callD T (ev T) 128 [rp] (rs m s a ts) = some (.int .i64 e, st) := by rw [callD_raw (fn := F128) rfl rfl (by simp)]; exact q2
    rw [g0 m a] at q1 q2' ⊢
    simp [ha, byteD, q1, q2']
    exact q3
  | false =>
    rw [hl] at q1
    have q4 := c129 s[a] (rs m s a ts)
    cases hd : digitB s[a] with
    | true =>
      rw [hd] at q4
      obtain ⟨r, st, q2, e, rfl, q3⟩ := e130 m s hs a ha ts h hl hd
      have q2' : callD T (ev T) 130 [rp] (rs m s a ts) = some (.int .i64 e, st) := by rw [callD_raw (fn := F130) rfl rfl (by simp)]; exact q2
      rw [g0 m a] at q1 q2' q4 ⊢
      simp [ha, byteD, q1, q2', q4]
      exact q3
    | false =>
      rw [hd] at q4
      have hO : oneT s a = if signN (ch s[a]) (chAt s (a + 1)) = 0 then .inr 4 else .inl ⟨4, 0, seg s a (a + signN (ch s[a]) (chAt s (a + 1))), a, a + signN (ch s[a]) (chAt s (a + 1))⟩ := by
        unfold oneT; rw [List.getElem?_eq_getElem ha]; simp [hl, hd]
      have q5 : callD T (ev T) 124 [rp, .int .i64 1] (rs m s a ts) = some (.int .u8 (chAt s (a + 1)), rs m s a ts) := by
        rw [callD_raw (fn := F124) rfl rfl (by simp)]; exact e124 m s a (outD ts) (outS ts) (by omega) hs
      have q6 := c131 (ch s[a]) (chAt s (a + 1)) (rs m s a ts)
      have hle := sign_le s a ha
      unfold After
      rw [hO]
      generalize signN (ch s[a]) (chAt s (a + 1)) = n at *
      by_cases hn : n = 0
      · rw [g0 m a] at q1 q4 q5 q6 ⊢
        simp [ha, byteD, q1, q4, q5, q6, hn]
        exact ⟨_, _, _, rfl⟩
      · have w : IntKind.wrap .i64 ((a : Int) + n) = ((a + n : Nat) : Int) := wrap_add (by omega) (by omega)
        have q7 := str_slice s .i64 .i64 a (a + n) (by omega) hle
        have q8 := e87 (m + 1) s (a + n) ts 4 0 (seg s a (a + n)) a h
        rw [g0 m a] at q1 q4 q5 q6 ⊢
        rw [g0 (m + 1) (a + n)] at q8
        simp [ha, byteD, q1, q4, q5, q6, hn, w, q7, q8, -Int.natCast_add, kHs, splice]
        exact ⟨_, rfl⟩

/-- What a text's tokens come to. -/
def toksR (s : List UInt8) : (List Tok) ⊕ (Nat × Int) := if 8192 < s.length then .inr (0, 3) else toksF s (nextP s 0) []

theorem toksF_len (s : List UInt8) : ∀ (r a : Nat) (ts : List Tok), r = s.length - a → ∀ l, toksF s a ts = .inl l → l.length ≤ ts.length + r + 1 := by
  intro r
  induction r using Nat.strongRecOn with
  | ind r ih =>
    intro a ts hr l h
    rw [toksF] at h
    split at h
    · next ha =>
      split at h
      · next t ht =>
        have h1 := oneT_to ha ht
        have h2 := le_nextP s t.t
        have := ih (s.length - nextP s t.t) (by omega) _ _ rfl l h
        simp at this
        omega
      · cases h
    · cases h; simp

theorem l44 (s : List UInt8) (hs : s.length ≤ 8192) :
    ∀ (r a m : Nat) (ts : List Tok) (sl : List D) (bx : List (Nat × List D)), r = s.length - a → a ≤ s.length → ts.length ≤ a → get sl 0 = .str s → get sl 5 = rp →
    Stops (lp T L44_0 ⟨⟨sl, bx⟩, rs m s a ts⟩) fun e s' _ st' => (∃ l, toksF s a ts = .inl (l ++ [⟨5, 0, [], s.length, s.length⟩]) ∧ e = .exit 0 ∧ (∃ m', st' = rs m' s s.length l) ∧ l.length ≤ s.length ∧ get s' 5 = rp) ∨
      (∃ at_ er, toksF s a ts = .inr (at_, er) ∧ e = .ret ∧ get s' 2 = .nils ∧ get s' 3 = .i at_ ∧ get s' 4 = .i er) := by
  intro r
  induction r using Nat.strongRecOn with
  | ind r ih =>
    intro a m ts sl bx hr ha hlen h0 h5
    rw [lp_kL, L44_0, toksF]
    have g0 : ∀ M A, rs M s A ts = Ob.cells true 3 0 M false [.agg [.str s, .int .i64 A, outD ts]] :: outS ts := fun _ _ => rfl
    by_cases hlt : a < s.length
    · obtain ⟨rr, st, q2, e, rfl, q3⟩ := e86 m s hs a hlt ts (by omega)
      have q2' : callD T (ev T) 86 [rp] (rs m s a ts) = some (.int .i64 e, st) := by rw [callD_raw (fn := F86) rfl rfl (by simp)]; exact q2
      rw [dif_pos hlt]
      unfold After at q3
      split at q3
      · next t ht =>
        obtain ⟨rfl, m', rfl⟩ := q3
        have h1 := oneT_to hlt ht
        have h2 := le_nextP s t.t
        have h3 := nextP_le s t.t h1.2.1
        obtain ⟨m2, q4⟩ := e85 s hs (outD (ts ++ [t])) (outS (ts ++ [t])) t.t m' h1.2.1
        have q4' : callD T (ev T) 85 [rp] (rs m' s t.t (ts ++ [t])) = some (.tup [], rs m2 s (nextP s t.t) (ts ++ [t])) := by rw [callD_raw (fn := F85) rfl rfl (by simp)]; exact q4
        rw [g0 m a] at q2' ⊢
        simp [h0, h5, hlt, q2', q4']
        rw [← L44_0]
        split
        · next t' ht' =>
          rw [ht] at ht'
          cases ht'
          refine ih (s.length - nextP s t.t) (by omega) _ m2 (ts ++ [t]) _ _ rfl h3 (by simp; omega) ?_ ?_
          · simp [h0]
          · simp [h5]
        · next e' ht' => rw [ht] at ht'; cases ht'
      · next er ht =>
        obtain ⟨rfl, hne, m', a', ts', rfl⟩ := q3
        rw [g0 m a] at q2' ⊢
        split
        · next t' ht' => rw [ht] at ht'; cases ht'
        · next e' ht' =>
          rw [ht] at ht'
          cases ht'
          simp [h0, h5, hlt, q2', hne]
    · have e : a = s.length := by omega
      subst e
      rw [dif_neg (by omega), g0 m s.length]
      simp [h0, h5]
      exact ⟨⟨_, g0 m s.length⟩, hlen⟩

/-- What a lexer tells: the tokens, or where and what is wrong. -/
def lexD (x : (List Tok) ⊕ (Nat × Int)) (d0 : D) (l0 : List Tok → D) : D :=
  match x with
  | .inl l => .tup [l0 l, .i 0, .i 0]
  | .inr (a, e) => .tup [d0, .i a, .i e]

theorem fz_out (m : Nat) (s : List UInt8) (a : Nat) (ts : List Tok) (t : Tok) : ∃ st2, fz (rs m s a (ts ++ [t])) (.tup [outD (ts ++ [t]), .i 0, .i 0]) = some (.tup [.sl 5 false ((ts ++ [t]).map Tok.enc), .i 0, .i 0], st2) := by
  cases ts with
  | nil => exact ⟨_, rfl⟩
  | cons u r =>
    refine ⟨rsO m s a (outD (u :: (r ++ [t]))) :: [.cells false 5 (r ++ [t]).length ((r ++ [t]).length + 1) true ((u :: (r ++ [t])).map Tok.enc)], ?_⟩
    simp [fz, fzL, fz1, outD, outS, rs, kFz]
    exact List.take_of_length_le (by simp)

theorem c44 (s : List UInt8) (st : St) : callD T (ev T) 44 [.str s] st = some (lexD (toksR s) .nils fun l => .sl 5 false (l.map Tok.enc), st) := by
  suffices h : Ret (ev T 44 [.str s] []) fun r st' => ∃ st2, fz st' r = some (lexD (toksR s) .nils fun l => .sl 5 false (l.map Tok.enc), st2) by
    obtain ⟨r, st', h1, st2, h2⟩ := h
    refine callD_pure (fn := F44) rfl rfl (by simp) h1 h2 ?_
    unfold lexD
    split <;> simp [D.pureT, D.pure, D.pure1, D.pure0]
  rw [ev_eq 44 F44 rfl, F44]
  have c8192 : ∀ k : Nat, ((8192 : Int) < k) = (8192 < k) := fun k => propext (by omega)
  unfold toksR
  by_cases h : 8192 < s.length
  · simp [c8192, h, lexD, fz, fzL]
  · have hs : s.length ≤ 8192 := by omega
    obtain ⟨m1, q1⟩ := e85 s hs .nils [] 0 0 (by omega)
    have q1' : callD T (ev T) 85 [rp] [rsO 0 s 0 .nils] = some (.tup [], [rsO m1 s (nextP s 0) .nils]) := by rw [callD_raw (fn := F85) rfl rfl (by simp)]; exact q1
    have z0 : rsO 0 s 0 .nils = Ob.cells true 3 0 0 false [.agg [.str s, .int .i64 0, .nils]] := rfl
    rw [z0] at q1'
    simp [c8192, h, splice, q1']
    refine (l44 s hs _ (nextP s 0) m1 [] _ _ rfl (nextP_le s 0 (by omega)) (by simp) ?_ ?_).use (fun r => Ret (kfin _ (kseq _ (kblock 0 r))) _) ?_
    · simp
    · simp
    · rintro e s' b' st' (⟨l, h1, rfl, ⟨m', rfl⟩, hl, h5⟩ | ⟨a', e', h1, rfl, h2, h3, h4⟩)
      · rw [h1]
        have q2 := e87 m' s s.length l 5 0 [] s.length (by omega)
        have g0 : ∀ M A, rs M s A l = Ob.cells true 3 0 M false [.agg [.str s, .int .i64 A, outD l]] :: outS l := fun _ _ => rfl
        have g1 : ∀ M A k, rs M s A k = Ob.cells true 3 0 M false [.agg [.str s, .int .i64 A, outD k]] :: outS k := fun _ _ _ => rfl
        obtain ⟨st2, q3⟩ := fz_out (m' + 1) s s.length l ⟨5, 0, [], s.length, s.length⟩
        rw [g0] at q2 ⊢
        rw [g1] at q2 q3
        simp [h5, q2, lexD]
        exact ⟨st2, by simpa using q3⟩
      · rw [h1]
        simp [h2, h3, h4, lexD, fz, fzL]

end Go.Nt.Lk
