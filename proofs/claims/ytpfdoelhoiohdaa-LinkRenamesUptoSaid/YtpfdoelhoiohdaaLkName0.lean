/-
  NAMING ANEW, plainly: what the program and the reference come to is the same.
  No condition.
-/
import Derived.Test.YtpfdoelhoiohdaaLkLex0
namespace Go.Nt.Lk
open Go Go.Nt

/-- An old name and a new one. -/
abbrev Nm : Type := List UInt8 × List UInt8

def newOf (ns : List Nm) (s : List UInt8) : Option (List UInt8) := (ns.find? fun n => decide (n.1 = s)).map (·.2)

def called (p : Option Tok) (t : Tok) : Bool := match p with
  | none => false
  | some q => decide (t.k = 1) && (decide (q.k = 4) && decide (q.s = [64]))

def refGo (s : List UInt8) (ns : List Nm) : Option Tok → List Tok → List UInt8 → Nat → Option (List UInt8 × Nat)
  | _, [], out, done => some (out, done)
  | p, t :: r, out, done =>
    if called p t then
      if 8192 < (out ++ seg s done t.f ++ (newOf ns t.s).getD t.s).length then none
      else refGo s ns (some t) r (out ++ seg s done t.f ++ (newOf ns t.s).getD t.s) t.t
    else refGo s ns (some t) r out done

def linkGo (s : List UInt8) (ns : List Nm) : Option Tok → List Tok → List UInt8 → Nat → Option (List UInt8 × Nat)
  | _, [], out, done => some (out, done)
  | p, t :: r, out, done =>
    if called p t then
      match newOf ns t.s with
      | none => linkGo s ns (some t) r out done
      | some w => if 8192 < (out ++ seg s done t.f ++ w).length then none else linkGo s ns (some t) r (out ++ seg s done t.f ++ w) t.t
    else linkGo s ns (some t) r out done

/-- What the whole comes to; none: it is too long. -/
def fin (s : List UInt8) : Option (List UInt8 × Nat) → Option (List UInt8)
  | none => none
  | some (out, done) => if 8192 < (out ++ s.drop done).length then none else some (out ++ s.drop done)

/-- Tokens one behind the other, from a place on. -/
def Chain (s : List UInt8) : Nat → List Tok → Prop
  | _, [] => True
  | a, t :: r => a ≤ t.f ∧ t.f ≤ t.t ∧ t.t ≤ s.length ∧ (t.k = 1 → t.s = seg s t.f t.t) ∧ Chain s t.t r

theorem seg_app (s : List UInt8) (a b c : Nat) (h : a ≤ b) (h' : b ≤ c) : seg s a b ++ seg s b c = seg s a c := by
  unfold seg
  rw [List.drop_take, List.drop_take, List.drop_take]
  obtain ⟨x, rfl⟩ : ∃ x, b = a + x := ⟨b - a, by omega⟩
  obtain ⟨y, rfl⟩ : ∃ y, c = a + x + y := ⟨c - (a + x), by omega⟩
  rw [show a + x - a = x by omega, show a + x + y - (a + x) = y by omega, show a + x + y - a = x + y by omega, List.take_add, List.drop_drop]

theorem seg_drop (s : List UInt8) (a b : Nat) (h : a ≤ b) : seg s a b ++ s.drop b = s.drop a := by
  unfold seg
  rw [List.drop_take]
  obtain ⟨x, rfl⟩ : ∃ x, b = a + x := ⟨b - a, by omega⟩
  rw [show a + x - a = x by omega, ← List.drop_drop, List.take_append_drop]

theorem seg_self (s : List UInt8) (a : Nat) : seg s a a = [] := by
  unfold seg; rw [List.drop_take]; simp

/-- Too long already: too long at the end. -/
theorem link_long (s : List UInt8) (ns : List Nm) : ∀ (l : List Tok) (p : Option Tok) (a d : Nat) (out : List UInt8), Chain s a l → d ≤ a → 8192 < (out ++ seg s d a).length → fin s (linkGo s ns p l out d) = none
  | [], p, a, d, out, _, hd, h => by
    unfold linkGo fin
    simp only
    rw [if_pos]
    rw [← seg_drop s d a hd, ← List.append_assoc, List.length_append]
    omega
  | t :: r, p, a, d, out, hc, hd, h => by
    obtain ⟨h1, h2, h3, h4, h5⟩ := hc
    have hl : 8192 < (out ++ seg s d t.t).length := by
      rw [← seg_app s d a t.t hd (by omega), ← List.append_assoc, List.length_append]; omega
    have hl2 : 8192 < (out ++ seg s d t.f).length := by
      rw [← seg_app s d a t.f hd h1, ← List.append_assoc, List.length_append]; omega
    unfold linkGo
    split
    · split
      · exact link_long s ns r _ t.t d out h5 (by omega) hl
      · next w _ =>
        rw [if_pos (by rw [List.length_append]; omega)]
        rfl
    · exact link_long s ns r _ t.t d out h5 (by omega) hl

theorem link_ref (s : List UInt8) (ns : List Nm) : ∀ (l : List Tok) (p : Option Tok) (a d e : Nat) (out : List UInt8), Chain s a l → d ≤ e → e ≤ a → fin s (refGo s ns p l (out ++ seg s d e) e) = fin s (linkGo s ns p l out d)
  | [], p, a, d, e, out, _, hd, h => by
    unfold refGo linkGo fin
    simp only [List.append_assoc, seg_drop s d e hd]
  | t :: r, p, a, d, e, out, hc, hd, h => by
    obtain ⟨h1, h2, h3, h4, h5⟩ := hc
    unfold refGo linkGo
    have e1 : out ++ seg s d e ++ seg s e t.f = out ++ seg s d t.f := by rw [List.append_assoc, seg_app s d e t.f hd (by omega)]
    rw [e1]
    split
    · next hcall =>
      have hk : t.k = 1 := by
        unfold called at hcall
        split at hcall
        · cases hcall
        · simp only [Bool.and_eq_true, decide_eq_true_eq] at hcall; exact hcall.1
      cases hn : newOf ns t.s with
      | none =>
        simp only [Option.getD_none]
        rw [h4 hk, List.append_assoc, seg_app s d t.f t.t (by omega) h2]
        split
        · next hl => exact (link_long s ns r _ t.t d out h5 (by omega) hl).symm
        · exact link_ref s ns r _ t.t d t.t out h5 (by omega) (Nat.le_refl _)
      | some w =>
        simp only [Option.getD_some]
        split
        · rfl
        · have := link_ref s ns r (some t) t.t t.t t.t (out ++ seg s d t.f ++ w) h5 (Nat.le_refl _) (Nat.le_refl _)
          rw [seg_self, List.append_nil] at this
          exact this
    · exact link_ref s ns r _ t.t d e out h5 hd (by omega)

theorem oneT_s {s : List UInt8} {a : Nat} {t : Tok} (h : oneT s a = .inl t) (hk : t.k = 1) : t.s = seg s t.f t.t := by
  unfold oneT at h
  split at h
  · cases h
  · split at h
    · simp only at h
      split at h
      · cases h
      · cases h; rfl
    · split at h
      · simp only at h
        split at h
        · cases h
        · cases h; simp at hk
      · simp only at h
        split at h
        · cases h
        · cases h; simp at hk

theorem toksF_chain (s : List UInt8) : ∀ (r a : Nat) (ts l : List Tok), r = s.length - a → a ≤ s.length → toksF s a ts = .inl l → ∃ k, l = ts ++ k ∧ Chain s a k := by
  intro r
  induction r using Nat.strongRecOn with
  | ind r ih =>
    intro a ts l hr ha h
    rw [toksF] at h
    split at h
    · next hlt =>
      split at h
      · next t ht =>
        have h1 := oneT_to hlt ht
        have h2 := le_nextP s t.t
        have h3 := nextP_le s t.t h1.2.1
        obtain ⟨k, rfl, hk⟩ := ih (s.length - nextP s t.t) (by omega) _ _ l rfl h3 h
        refine ⟨t :: k, by simp, by omega, by omega, h1.2.1, oneT_s ht, ?_⟩
        cases k with
        | nil => trivial
        | cons u k => exact ⟨by have := hk.1; omega, hk.2⟩
      · cases h
    · cases h
      exact ⟨_, rfl, by simpa using ha, Nat.le_refl _, Nat.le_refl _, by simp, trivial⟩

end Go.Nt.Lk
