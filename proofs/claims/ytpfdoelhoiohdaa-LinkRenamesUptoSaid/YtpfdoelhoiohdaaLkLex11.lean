/-
  THE LEXERS, WALKED (11): the reference's tokens of a text.
  No condition.
-/
import Derived.Test.YtpfdoelhoiohdaaLkLex10
set_option linter.unusedSimpArgs false
namespace Go.Nt.Lk
open Go Go.Nt

abbrev gt (ts : List Tok) : D × St := grown (seed 5 .emp) 5 (ts.map Tok.enc)

theorem gt_app (ts : List Tok) (t : Tok) (h : ts.length ≤ 8192) : appendD (gt ts).2 (gt ts).1 [t.enc] 5 = some (gt (ts ++ [t])) := by
  have := grow .emp 5 (ts.map Tok.enc) t.enc (by simp; omega)
  rw [this]
  simp [gt]

theorem gt_fz (l : List Tok) (t : Tok) : fz (gt (l ++ [t])).2 (.tup [(gt (l ++ [t])).1, .i 0, .i 0]) = some (.tup [.sl 5 false ((l ++ [t]).map Tok.enc), .i 0, .i 0], grownZ 5 ((l ++ [t]).map Tok.enc)) := by
  have hk : slE 5 Fl.emp.grew ((l ++ [t]).map Tok.enc) = .sl 5 false ((l ++ [t]).map Tok.enc) := by cases l <;> rfl
  rw [← hk]
  simp [fz, fzL, gt, -List.map_append]

def Q16 (s : List UInt8) (a : Nat) (ts : List Tok) (e : Ex) (s' : List D) (st' : St) : Prop :=
  (∃ l, toksF s a ts = .inl (l ++ [⟨5, 0, [], s.length, s.length⟩]) ∧ e = .exit 0 ∧ st' = (gt l).2 ∧ get s' 5 = (gt l).1 ∧ l.length ≤ s.length ∧ get s' 0 = .str s) ∨
      (∃ at_ er, toksF s a ts = .inr (at_, er) ∧ e = .ret ∧ get s' 2 = .sl 5 true [] ∧ get s' 3 = .i at_ ∧ get s' 4 = .i er)

theorem l16 (s : List UInt8) (hs : s.length ≤ 8192) :
    ∀ (r a : Nat) (ts : List Tok) (sl : List D) (bx : List (Nat × List D)), r = s.length - a → a ≤ s.length → ts.length ≤ a → get sl 0 = .str s → get sl 5 = (gt ts).1 → get sl 6 = .int .i64 a →
    Stops (lp T L16_0 ⟨⟨sl, bx⟩, (gt ts).2⟩) fun e s' _ st' => Q16 s a ts e s' st' := by
  intro r
  induction r using Nat.strongRecOn with
  | ind r ih =>
    intro a ts sl bx hr ha hlen h0 h5 h6
    rw [lp_kL, L16_0]
    by_cases hlt : a < s.length
    · have q1 := c42 s hs a hlt (gt ts).2
      cases ht : oneT s a with
      | inl t =>
        have h1 := oneT_to hlt ht
        have h2 := le_nextP s t.t
        have h3 := nextP_le s t.t h1.2.1
        have q2 := gt_app ts t (by omega)
        have q3 := c41 s hs t.t h1.2.1 (gt (ts ++ [t])).2
        have hF : toksF s a ts = toksF s (nextP s t.t) (ts ++ [t]) := by
          rw [toksF, dif_pos hlt]
          split
          · next t' ht' => rw [ht] at ht'; cases ht'; rfl
          · next e' ht' => rw [ht] at ht'; cases ht'
        rw [ht] at q1
        simp only [oneD, Tok.enc] at q1 q2
        unfold Q16
        rw [hF]
        have go := ih (s.length - nextP s t.t) (by omega) (nextP s t.t) (ts ++ [t])
        unfold Q16 at go
        generalize gt (ts ++ [t]) = g2 at *
        have hp5 := h5
        generalize gt ts = g1 at *
        simp [h0, h5, h6, hlt, q1, splice, kSt, srcD, listD, q2, q3]
        rw [← L16_0]
        refine go _ _ rfl h3 (by simp; omega) ?_ ?_ ?_
        · simp [h0]
        · simp
        · simp
      | inr er =>
        rw [ht] at q1
        simp only [oneD, tok0, Tok.enc] at q1
        have hF : toksF s a ts = .inr (a, er) := by
          rw [toksF, dif_pos hlt]
          split
          · next t' ht' => rw [ht] at ht'; cases ht'
          · next e' ht' => rw [ht] at ht'; cases ht'; rfl
        have hne : er ≠ 0 := by
          unfold oneT at ht
          rw [List.getElem?_eq_getElem hlt] at ht
          simp only at ht
          split at ht
          · split at ht <;> cases ht; decide
          · split at ht
            · split at ht <;> cases ht; decide
            · split at ht <;> cases ht; decide
        simp [h0, h5, h6, hlt, q1, splice, kSt, hne]
        exact .inr ⟨a, er, hF, rfl, by simp, by simp, by simp⟩
    · have e : a = s.length := by omega
      subst e
      have hF : toksF s s.length ts = .inl (ts ++ [⟨5, 0, [], s.length, s.length⟩]) := by rw [toksF, dif_neg (by omega)]
      simp [h0, h5, h6]
      exact .inl ⟨ts, hF, rfl, rfl, by simp [h5], hlen, by simp [h0]⟩

theorem c16 (s : List UInt8) (st : St) : callD T (ev T) 16 [.str s] st = some (lexD (toksR s) (.sl 5 true []) fun l => .sl 5 false (l.map Tok.enc), st) := by
  suffices h : Ret (ev T 16 [.str s] []) fun r st' => ∃ st2, fz st' r = some (lexD (toksR s) (.sl 5 true []) fun l => .sl 5 false (l.map Tok.enc), st2) by
    obtain ⟨r, st', h1, st2, h2⟩ := h
    refine callD_pure (fn := F16) rfl rfl (by simp) h1 h2 ?_
    unfold lexD
    split <;> simp [D.pureT, D.pure, D.pure1, D.pure0]
  rw [ev_eq 16 F16 rfl, F16]
  have c8192 : ∀ k : Nat, ((8192 : Int) < k) = (8192 < k) := fun k => propext (by omega)
  unfold toksR
  by_cases h : 8192 < s.length
  · simp [c8192, h, lexD, fz, fzL]
  · have hs : s.length ≤ 8192 := by omega
    have q1 := c41 s hs 0 (by omega) []
    have q1' : callD T (ev T) 41 [.str s, .i 0] [] = some (.i (nextP s 0), []) := q1
    simp [c8192, h, q1']
    refine (l16 s hs _ (nextP s 0) [] _ _ rfl (nextP_le s 0 (by omega)) (by simp) ?_ ?_ ?_).use (fun r => Ret (kfin _ (kseq _ (kblock 0 r))) _) ?_
    · simp
    · simp; rfl
    · simp
    · rintro e s' b' st' (⟨l, h1, rfl, rfl, h5, hl, h0⟩ | ⟨a', e', h1, rfl, h2, h3, h4⟩)
      · rw [h1]
        have q2 := gt_app l ⟨5, 0, [], s.length, s.length⟩ (by omega)
        simp only [Tok.enc] at q2
        have hz := gt_fz l ⟨5, 0, [], s.length, s.length⟩
        have hok : (gt (l ++ [(⟨5, 0, [], s.length, s.length⟩ : Tok)])).1.okv = true := grown_okv _ _ _
        generalize gt (l ++ [(⟨5, 0, [], s.length, s.length⟩ : Tok)]) = g2 at *
        generalize hg : gt l = g1 at *
        simp [h5, h0, srcD, listD, q2, lexD, hok]
        exact ⟨_, by simpa using hz⟩
      · rw [h1]
        simp [h2, h3, h4, lexD, fz, fzL]

end Go.Nt.Lk
