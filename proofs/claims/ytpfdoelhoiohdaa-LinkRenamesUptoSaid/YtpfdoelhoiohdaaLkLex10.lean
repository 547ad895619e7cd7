/-
  THE LEXERS, WALKED (10): the reference's tokens.
  No condition.
-/
import Derived.Test.YtpfdoelhoiohdaaLkLex9
set_option linter.unusedSimpArgs false
namespace Go.Nt.Lk
open Go Go.Nt

theorem c79' (c : UInt8) (st : St) : callD T (ev T) 79 [.int .u8 (ch c)] st = some (.bool (letterB c), st) := c79 _ c rfl st
theorem c80' (c : UInt8) (st : St) : callD T (ev T) 80 [.int .u8 (ch c)] st = some (.bool (digitB c), st) := c80 _ c rfl st

def Q42r (p : UInt8 → Bool) (s : List UInt8) (a : Nat) (id : Nat) (sl : List D) (bx : List (Nat × List D)) (e : Ex) (s' : List D) (b' : List (Nat × List D)) (st' : St) : Prop :=
  st' = [] ∧ e = .exit id ∧ b' = bx ∧ get s' 7 = .int .i64 (runEnd p s a) ∧ get s' 0 = get sl 0 ∧ get s' 1 = get sl 1 ∧ get s' 4 = get sl 4

theorem l42_0 (s : List UInt8) (hs : s.length ≤ 8192) :
    ∀ (r a : Nat) (sl : List D) (bx : List (Nat × List D)), r = s.length - a → a ≤ s.length → get sl 0 = .str s → get sl 7 = .int .i64 a →
    Stops (lp T L42_0 ⟨⟨sl, bx⟩, []⟩) (Q42r moreB s a 0 sl bx) := by
  intro r
  induction r with
  | zero =>
    intro a sl bx hr ha h0 h7
    have e : a = s.length := by omega
    subst e
    rw [lp_kL, L42_0]
    simp [h0, h7]
    exact ⟨rfl, rfl, rfl, by rw [runEnd_end (Nat.le_refl _)]; simp [h7], by simp, by simp, by simp⟩
  | succ r ih =>
    intro a sl bx hr ha h0 h7
    have hlt : a < s.length := by omega
    rw [lp_kL, L42_0]
    have w : IntKind.wrap .i64 ((a : Int) + 1) = ((a + 1 : Nat) : Int) := wrap_add (n := 1) (by omega) (by omega)
    have q1 := c79' s[a] []
    have q2 := c80' s[a] []
    have hm : moreB s[a] = (letterB s[a] || digitB s[a]) := rfl
    have go : ∀ sl', get sl' 0 = get sl 0 → get sl' 1 = get sl 1 → get sl' 4 = get sl 4 → get sl' 7 = .int .i64 ((a + 1 : Nat) : Int) → moreB s[a] = true → Stops (lp T L42_0 ⟨⟨sl', bx⟩, []⟩) (Q42r moreB s a 0 sl bx) := by
      intro sl' k0 k1 k4 k7 hp
      refine (ih (a + 1) sl' bx (by omega) (by omega) (by rw [k0, h0]) k7).mono ?_
      rintro e s' b' st' ⟨r1, r2, r3, r4, r5, r6, r7⟩
      exact ⟨r1, r2, r3, by rw [r4, runEnd_go hlt hp], by rw [r5, k0], by rw [r6, k1], by rw [r7, k4]⟩
    cases hl : letterB s[a] with
    | true =>
      rw [hl] at q1 hm
      simp [h0, h7, hlt, byteD, q1, w, -Int.natCast_add]
      rw [← L42_0]
      apply go _ _ _ _ _ hm <;> simp
    | false =>
      rw [hl] at q1 hm
      cases hd : digitB s[a] with
      | true =>
        rw [hd] at q2 hm
        simp [h0, h7, hlt, byteD, q1, q2, w, -Int.natCast_add]
        rw [← L42_0]
        apply go _ _ _ _ _ hm <;> simp
      | false =>
        rw [hd] at q2 hm
        simp [h0, h7, hlt, byteD, q1, q2, w, -Int.natCast_add]
        exact ⟨rfl, rfl, rfl, by rw [runEnd_stop hlt hm]; simp [h7], by simp, by simp, by simp⟩

theorem l42_1 (s : List UInt8) (hs : s.length ≤ 8192) :
    ∀ (r a : Nat) (sl : List D) (bx : List (Nat × List D)), r = s.length - a → a ≤ s.length → get sl 0 = .str s → get sl 7 = .int .i64 a →
    Stops (lp T L42_1 ⟨⟨sl, bx⟩, []⟩) (Q42r digitB s a 2 sl bx) := by
  intro r
  induction r with
  | zero =>
    intro a sl bx hr ha h0 h7
    have e : a = s.length := by omega
    subst e
    rw [lp_kL, L42_1]
    simp [h0, h7]
    exact ⟨rfl, rfl, rfl, by rw [runEnd_end (Nat.le_refl _)]; simp [h7], by simp, by simp, by simp⟩
  | succ r ih =>
    intro a sl bx hr ha h0 h7
    have hlt : a < s.length := by omega
    rw [lp_kL, L42_1]
    have w : IntKind.wrap .i64 ((a : Int) + 1) = ((a + 1 : Nat) : Int) := wrap_add (n := 1) (by omega) (by omega)
    have q2 := c80' s[a] []
    cases hd : digitB s[a] with
    | true =>
      rw [hd] at q2
      simp [h0, h7, hlt, byteD, q2, w, -Int.natCast_add]
      rw [← L42_1]
      refine (ih (a + 1) _ bx (by omega) (by omega) ?_ ?_).mono ?_
      · simp [h0]
      · simp
      · rintro e s' b' st' ⟨r1, r2, r3, r4, r5, r6, r7⟩
        refine ⟨r1, r2, r3, by rw [r4, runEnd_go hlt hd], ?_, ?_, ?_⟩
        · rw [r5]; simp
        · rw [r6]; simp
        · rw [r7]; simp
    | false =>
      rw [hd] at q2
      simp [h0, h7, hlt, byteD, q2, w, -Int.natCast_add]
      exact ⟨rfl, rfl, rfl, by rw [runEnd_stop hlt hd]; simp [h7], by simp, by simp, by simp⟩

def tok0 : Tok := ⟨0, 0, [], 0, 0⟩
def oneD : Tok ⊕ Int → D
  | .inl t => .tup [t.enc, .i 0]
  | .inr e => .tup [tok0.enc, .i e]

theorem oneD_fz (x : Tok ⊕ Int) : fz [] (oneD x) = some (oneD x, []) := by cases x <;> simp [oneD, fz, fzL]
theorem oneD_pure (x : Tok ⊕ Int) : (oneD x).pureT = true := by cases x <;> simp [oneD, D.pureT]

theorem c42 (s : List UInt8) (hs : s.length ≤ 8192) (a : Nat) (ha : a < s.length) (st : St) : callD T (ev T) 42 [.str s, .int .i64 a] st = some (oneD (oneT s a), st) := by
  refine callD_pure (fn := F42) rfl rfl (by simp) (r := oneD (oneT s a)) (st1 := []) (st2 := []) ?_ (oneD_fz _) (oneD_pure _)
  rw [ev_eq 42 F42 rfl, F42]
  have q1 := c79' s[a] []
  have q2 := c80' s[a] []
  cases hl : letterB s[a] with
  | true =>
    have hO : oneT s a = if 16 < runEnd moreB s a - a then .inr 3 else .inl ⟨if isWordB (seg s a (runEnd moreB s a)) then 3 else 1, 0, seg s a (runEnd moreB s a), a, runEnd moreB s a⟩ := by
      unfold oneT; rw [List.getElem?_eq_getElem ha]; simp [hl]
    rw [hl] at q1
    rw [hO]
    simp [ha, byteD, q1, splice, kSt]
    refine (l42_0 s hs _ a _ _ rfl (by omega) ?_ ?_).use (fun r => kfin _ (kseq _ (kseq _ (kblock 0 r))) = _) ?_
    · simp
    · simp
    · rintro e s' b' st' ⟨rfl, rfl, rfl, h7, h0, h1, h4⟩
      simp at h0 h1 h4
      have hr := le_runEnd moreB s a
      have hr2 := runEnd_le moreB s (Nat.le_of_lt ha)
      have w : IntKind.wrap .i64 ((runEnd moreB s a : Int) - a) = ((runEnd moreB s a - a : Nat) : Int) := by rw [wrap64] <;> omega
      have c16 : ∀ k : Nat, ((16 : Int) < k) = (16 < k) := fun k => propext (by omega)
      by_cases h16 : 16 < runEnd moreB s a - a
      · simp [h7, h0, h1, h4, w, c16, h16, splice, kSt, oneD, tok0, Tok.enc]
      · have q3 := str_slice s .i64 .i64 a (runEnd moreB s a) hr hr2
        have q4 := c82 []
        have q5 := c81 (seg s a (runEnd moreB s a)) []
        cases hw : isWordB (seg s a (runEnd moreB s a)) with
        | true =>
          rw [hw] at q5
          simp [h7, h0, h1, h4, w, c16, h16, q3, q4, q5, splice, kSt, oneD, tok0, Tok.enc]
        | false =>
          rw [hw] at q5
          simp [h7, h0, h1, h4, w, c16, h16, q3, q4, q5, splice, kSt, oneD, tok0, Tok.enc]
  | false =>
    rw [hl] at q1
    cases hd : digitB s[a] with
    | true =>
      have hO : oneT s a = if (1 < runEnd digitB s a - a ∧ ch s[a] = 48) ∨ 9223372036854775807 < numV (seg s a (runEnd digitB s a)) 0 then .inr 5 else .inl ⟨2, numV (seg s a (runEnd digitB s a)) 0, [], a, runEnd digitB s a⟩ := by
        unfold oneT; rw [List.getElem?_eq_getElem ha]; simp [hl, hd]
      rw [hd] at q2
      rw [hO]
      simp [ha, byteD, q1, q2, splice, kSt]
      refine (l42_1 s hs _ a _ _ rfl (by omega) ?_ ?_).use (fun r => kfin _ (kseq _ (kseq _ (kblock 2 r))) = _) ?_
      · simp
      · simp
      · rintro e s' b' st' ⟨rfl, rfl, rfl, h7, h0, h1, h4⟩
        simp at h0 h1 h4
        have hr : a < runEnd digitB s a := by rw [runEnd_go ha hd]; exact le_runEnd _ _ _
        have hr2 := runEnd_le digitB s (Nat.le_of_lt ha)
        have q3 := str_slice s .i64 .i64 a (runEnd digitB s a) (Nat.le_of_lt hr) hr2
        have hlen := seg_len s a (runEnd digitB s a) hr2
        have hne : seg s a (runEnd digitB s a) ≠ [] := by intro e; rw [e] at hlen; simp at hlen; omega
        have q4 := c83 (seg s a (runEnd digitB s a)) (digits_take s a) hne (by omega) []
        have hch := chAt_drop s a (runEnd digitB s a) hr
        have hca : chAt s a = ch s[a] := by unfold chAt; rw [List.getElem?_eq_getElem ha]
        have hok : numOK (seg s a (runEnd digitB s a)) = !decide ((1 < runEnd digitB s a - a ∧ ch s[a] = 48) ∨ 9223372036854775807 < numV (seg s a (runEnd digitB s a)) 0) := by
          unfold numOK
          rw [hlen, hch, hca, Bool.decide_or, Bool.decide_and, Bool.not_or]
          congr 1
          by_cases hx : numV (seg s a (runEnd digitB s a)) 0 ≤ 9223372036854775807
          · have : ¬ 9223372036854775807 < numV (seg s a (runEnd digitB s a)) 0 := by omega
            simp [hx, this]
          · have : 9223372036854775807 < numV (seg s a (runEnd digitB s a)) 0 := by omega
            simp [hx, this]
        by_cases hbad : (1 < runEnd digitB s a - a ∧ ch s[a] = 48) ∨ 9223372036854775807 < numV (seg s a (runEnd digitB s a)) 0
        · rw [decide_eq_true hbad] at hok
          rw [hok] at q4
          rw [if_pos hbad]
          simp [h7, h0, h1, h4, q3, q4, splice, kSt, oneD, tok0, Tok.enc]
        · rw [decide_eq_false hbad] at hok
          rw [hok] at q4
          rw [if_neg hbad]
          simp [h7, h0, h1, h4, q3, q4, splice, kSt, oneD, tok0, Tok.enc]
    | false =>
      have hO : oneT s a = if signN (ch s[a]) (chAt s (a + 1)) = 0 then .inr 4 else .inl ⟨4, 0, seg s a (a + signN (ch s[a]) (chAt s (a + 1))), a, a + signN (ch s[a]) (chAt s (a + 1))⟩ := by
        unfold oneT; rw [List.getElem?_eq_getElem ha]; simp [hl, hd]
      rw [hd] at q2
      obtain ⟨f1, f2⟩ := find_len s a ha
      have q3 := c84 []
      rw [hO, ← f1]
      clear hO f1
      simp [ha, byteD, q1, q2, q3, splice, kSt]
      refine (l42_2 s hs a ha SG (by decide) (by decide) [.i 0, .i 0, .str [], .i 0, .i 0] rfl 1 _ 0 _ _ rfl (by decide) ?_ ?_ ?_ ?_ ?_ ?_).use (fun r => kfin _ (kseq _ (kblock 4 r)) = _) ?_
      iterate 6 simp
      rintro e s' b' st' ⟨rfl, h4, hq⟩
      rw [List.drop_zero] at hq
      cases hf : SG.find? (beginsB s a) with
      | some p =>
        rw [hf] at hq
        obtain ⟨rfl, h5, hb⟩ := hq
        obtain ⟨g1, g2⟩ := f2 p hf
        have hn : p.length ≠ 0 := fun e => g1 (List.eq_nil_of_length_eq_zero e)
        simp only [if_neg hn, ← g2]
        simp [h4, h5, hb, oneD, Tok.enc]
      | none =>
        rw [hf] at hq
        obtain ⟨rfl, hb⟩ := hq
        simp [h4, hb, splice, kSt, oneD, tok0, Tok.enc]

end Go.Nt.Lk
