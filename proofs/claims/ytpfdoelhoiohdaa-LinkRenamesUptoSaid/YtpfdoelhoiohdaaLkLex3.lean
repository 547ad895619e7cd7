/-
  THE LEXERS, WALKED (3): the reference: blanks and comments.
  No condition.
-/
import Derived.Test.YtpfdoelhoiohdaaLkLex2
set_option linter.unusedSimpArgs false
namespace Go.Nt.Lk
open Go Go.Nt

theorem l41i (s : List UInt8) (hs : s.length ≤ 8192) :
    ∀ (r a : Nat) (sl : List D) (bx : List (Nat × List D)), r = s.length - a → a ≤ s.length → get sl 0 = .str s → get sl 1 = .int .i64 a →
    Stops (lp T L41_1 ⟨⟨sl, bx⟩, []⟩) fun e s' _ st' => st' = [] ∧ e = .exit 2 ∧ get s' 0 = .str s ∧ get s' 1 = .int .i64 (runEnd lineB s a) := by
  intro r
  induction r with
  | zero =>
    intro a sl bx hr ha h0 h1
    have e : a = s.length := by omega
    subst e
    rw [lp_kL, L41_1, runEnd_end (Nat.le_refl _)]
    simp [h0, h1]
  | succ r ih =>
    intro a sl bx hr ha h0 h1
    have hlt : a < s.length := by omega
    rw [lp_kL, L41_1]
    have w : IntKind.wrap .i64 ((a : Int) + 1) = ((a + 1 : Nat) : Int) := wrap_add (n := 1) (by omega) (by omega)
    have hB : lineB s[a] = !decide (ch s[a] = 10) := rfl
    by_cases hp : ch s[a] = 10
    · rw [runEnd_stop hlt (by simp [hB, hp])]
      simp [h0, h1, hlt, byteD, hp]
    · rw [runEnd_go hlt (by simp [hB, hp])]
      simp [h0, h1, hlt, byteD, hp, w, -Int.natCast_add]
      rw [← L41_1]
      exact ih (a + 1) _ _ (by omega) (by omega) (by simp [h0]) (by simp)

theorem l41 (s : List UInt8) (hs : s.length ≤ 8192) :
    ∀ (r a : Nat) (sl : List D) (bx : List (Nat × List D)), r = s.length - a → a ≤ s.length → get sl 0 = .str s → get sl 1 = .int .i64 a →
    Stops (lp T L41_0 ⟨⟨sl, bx⟩, []⟩) fun e s' _ st' => st' = [] ∧ ((e = .exit 0 ∧ get s' 1 = .int .i64 (nextP s a)) ∨ (e = .ret ∧ get s' 4 = .int .i64 (nextP s a))) := by
  intro r
  induction r using Nat.strongRecOn with
  | ind r ih =>
    intro a sl bx hr ha h0 h1
    rw [lp_kL, L41_0]
    by_cases hlt : a < s.length
    · have w : IntKind.wrap .i64 ((a : Int) + 1) = ((a + 1 : Nat) : Int) := wrap_add (n := 1) (by omega) (by omega)
      rw [nextP, dif_pos hlt]
      have q1 := c77 (ch s[a]) s[a] rfl []
      have q2 := c78 s [47, 47] a ha hs (by simp) []
      have e2 : (decide (a + 2 ≤ s.length) && decide (seg s a (a + 2) = [47, 47])) = slashB s a := by
        unfold slashB seg
        by_cases g : a + 2 ≤ s.length
        · have g1 : a + 1 < s.length := by omega
          have : (s.take (a + 2)).drop a = [s[a], s[a + 1]] := by
            rw [List.drop_take, show a + 2 - a = 2 by omega, List.drop_eq_getElem_cons hlt, List.drop_eq_getElem_cons g1]
            rfl
          rw [this, List.getElem?_eq_getElem hlt, List.getElem?_eq_getElem g1]
          by_cases k1 : s[a] = 47 <;> by_cases k2 : s[a + 1] = 47 <;> simp [g, k1, k2]
        · have g1 : s.length ≤ a + 1 := by omega
          rw [List.getElem?_eq_none g1]
          simp [g]
      simp only [List.length_cons, List.length_nil, Nat.zero_add, Nat.reduceAdd] at q2
      rw [e2] at q2
      cases hb : blankB s[a] with
      | true =>
        rw [hb] at q1
        simp [h0, h1, hlt, byteD, q1, w, -Int.natCast_add]
        rw [← L41_0]
        exact ih (s.length - (a + 1)) (by omega) (a + 1) _ _ rfl (by omega) (by simp [h0]) (by simp)
      | false =>
        rw [hb] at q1
        cases hsl : slashB s a with
        | true =>
          rw [hsl] at q2
          have := runEnd_slash hsl
          have := runEnd_le lineB s ha
          simp [h0, h1, hlt, byteD, q1, q2]
          refine (l41i s hs _ a _ _ rfl ha ?_ ?_).use (fun r => Stops (kL T _ (kblock 1 (kblock 2 r))) _) ?_
          · simp [h0]
          · simp [h1]
          · rintro e s' b' st' ⟨rfl, rfl, k0, k1⟩
            simp
            rw [← L41_0]
            exact ih (s.length - runEnd lineB s a) (by omega) (runEnd lineB s a) _ _ rfl (by omega) k0 k1
        | false =>
          rw [hsl] at q2
          simp [h0, h1, hlt, byteD, q1, q2]
    · have e : a = s.length := by omega
      subst e
      rw [nextP, dif_neg (by omega)]
      simp [h0, h1]

theorem c41 (s : List UInt8) (hs : s.length ≤ 8192) (a : Nat) (ha : a ≤ s.length) (st : St) : callD T (ev T) 41 [.str s, .int .i64 a] st = some (.int .i64 (nextP s a), st) := by
  refine callD_pure (fn := F41) rfl rfl (by simp) (r := .int .i64 (nextP s a)) (st1 := []) (st2 := []) ?_ (by simp) (by simp)
  rw [ev_eq 41 F41 rfl, F41]
  simp
  refine (l41 s hs _ a _ _ rfl ha (by simp) (by simp)).use (fun r => kfin _ (kseq _ (kblock 0 r)) = _) ?_
  rintro e s' b' st' ⟨rfl, ⟨rfl, h⟩ | ⟨rfl, h⟩⟩
  · simp [h]
  · simp [h]

end Go.Nt.Lk
