/-
  A TEXT's TOKENS: the last one is an end, and no other one.
  No condition.
-/
import Derived.Test.YtpfdoelhoiohdaaSpKept
import Derived.Test.YtpfdoelhoiohdaaLkLex11
set_option linter.unusedSimpArgs false
namespace Go.Nt.Lk
open Go Go.Nt

theorem oneT_k {s : List UInt8} {a : Nat} {t : Tok} (h : oneT s a = .inl t) : t.k ≠ 5 := by
  unfold oneT at h
  split at h
  · cases h
  · simp only at h
    split at h
    · split at h
      · cases h
      · cases h
        simp only
        split <;> decide
    · split at h
      · split at h
        · cases h
        · cases h; simp
      · split at h
        · cases h
        · cases h; simp

theorem toksF_end (s : List UInt8) : ∀ (r a : Nat) (ts : List Tok), r = s.length - a → (∀ t, t ∈ ts → t.k ≠ 5) → ∀ l, toksF s a ts = .inl l → ∃ us, l = us ++ [⟨5, 0, [], s.length, s.length⟩] ∧ ∀ t, t ∈ us → t.k ≠ 5 := by
  intro r
  induction r using Nat.strongRecOn with
  | ind r ih =>
    intro a ts hr hts l h
    rw [toksF] at h
    split at h
    · next ha =>
      split at h
      · next t ht =>
        have h1 := oneT_to ha ht
        have h2 := le_nextP s t.t
        refine ih (s.length - nextP s t.t) (by omega) _ _ rfl (fun u hu => ?_) l h
        rcases List.mem_append.1 hu with q | q
        · exact hts u q
        · rw [List.mem_singleton] at q; subst q; exact oneT_k ht
      · cases h
    · cases h; exact ⟨ts, rfl, hts⟩

theorem toks_ended {s : List UInt8} {l : List Tok} (h : toksR s = .inl l) : Ended l ∧ 0 < l.length ∧ l.length ≤ 8193 := by
  unfold toksR at h
  split at h
  · cases h
  next hs =>
  obtain ⟨us, rfl, hus⟩ := toksF_end s _ _ _ rfl (fun t ht => by cases ht) l h
  have hlen := toksF_len s _ _ _ rfl _ h
  refine ⟨fun a ha => ?_, by simp, by simp at hlen ⊢; omega⟩
  simp only [List.length_append, List.length_singleton]
  rcases Nat.lt_or_ge a us.length with q | q
  · omega
  · exfalso
    apply ha
    unfold nowT
    rw [List.getD_eq_getElem?_getD, List.getElem?_append_right q]
    rcases Nat.eq_or_lt_of_le q with e | e
    · subst e; simp
    · rw [List.getElem?_eq_none (by simp; omega)] <;> rfl
theorem oneT_err {s : List UInt8} {a : Nat} {e : Int} (h : oneT s a = .inr e) : e ≠ 0 := by
  unfold oneT at h
  split at h
  · cases h; decide
  · split at h
    · simp only at h
      split at h <;> cases h; decide
    · split at h
      · simp only at h
        split at h <;> cases h; decide
      · simp only at h
        split at h <;> cases h; decide

theorem toksF_err (s : List UInt8) : ∀ (r a : Nat) (ts : List Tok), r = s.length - a → ∀ x, toksF s a ts = .inr x → x.2 ≠ 0 := by
  intro r
  induction r using Nat.strongRecOn with
  | ind r ih =>
    intro a ts hr x h
    rw [toksF] at h
    split at h
    · next ha =>
      split at h
      · next t ht =>
        have h1 := oneT_to ha ht
        have h2 := le_nextP s t.t
        exact ih (s.length - nextP s t.t) (by omega) _ _ rfl x h
      · next e he => cases h; exact oneT_err he
    · cases h

theorem toksR_err {s : List UInt8} {a : Nat} {e : Int} (h : toksR s = .inr (a, e)) : e ≠ 0 := by
  unfold toksR at h
  split at h
  · cases h; decide
  · exact toksF_err s _ _ _ rfl _ h
end Go.Nt.Lk
