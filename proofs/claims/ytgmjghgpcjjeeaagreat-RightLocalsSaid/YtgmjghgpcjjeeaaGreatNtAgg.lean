/-
  COMPOUND DATA of compound parts.
  No condition.
-/
import Derived.Test.YtgmjghgpcjjeeaaGreatNtRead
namespace Go.Nt
open Go

variable {w : World} {N : Nat → Prop} {st : St} {bl : Bl}

/-- A list of cells reads as a list of data, one by one. -/
def Reps (w : World) (N : Nat → Prop) (st : St) (bl : Bl) (cs : List Value) (ds : List D) : Prop := Rep w N st bl (.agg cs.toArray) (.agg ds)

theorem Reps.of {cs : List Value} {ds : List D} (h : Rep w N st bl (.agg cs.toArray) (.agg ds)) : Reps w N st bl cs ds := h

theorem reps_iff {cs : List Value} {ds : List D} : Reps w N st bl cs ds ↔ cs.length = ds.length ∧ (∀ (i : Nat) (d : D), ds[i]? = some d → d.cell = true) ∧ ∀ (i : Nat) (v : Value) (d : D), cs[i]? = some v → ds[i]? = some d → Rep w N st bl v d := by
  constructor
  · intro h
    cases h with
    | agg _ _ hl hc h => exact ⟨by simpa using hl, hc, fun i v d hv hd => h i v d (by simpa using hv) hd⟩
  · intro ⟨hl, hc, h⟩
    exact .agg _ _ (by simpa using hl) hc fun i v d hv hd => h i v d (by simpa using hv) hd

theorem reps_nil : Reps w N st bl [] [] := reps_iff.2 ⟨rfl, fun i d h => by simp at h, fun i v d h => by simp at h⟩

theorem reps_app {a b : List Value} {ds es : List D} (h1 : Reps w N st bl a ds) (h2 : Reps w N st bl b es) : Reps w N st bl (a ++ b) (ds ++ es) := by
  obtain ⟨l1, c1, r1⟩ := reps_iff.1 h1
  obtain ⟨l2, c2, r2⟩ := reps_iff.1 h2
  refine reps_iff.2 ⟨by simp [l1, l2], ?_, ?_⟩
  · intro i d h
    by_cases hi : i < ds.length
    · rw [List.getElem?_append_left hi] at h; exact c1 _ _ h
    · rw [List.getElem?_append_right (by omega)] at h; exact c2 _ _ h
  · intro i v d hv hd
    by_cases hi : i < a.length
    · rw [List.getElem?_append_left hi] at hv
      rw [List.getElem?_append_left (by omega)] at hd
      exact r1 i v d hv hd
    · rw [List.getElem?_append_right (by omega)] at hv
      rw [List.getElem?_append_right (by omega)] at hd
      exact r2 (i - a.length) v d hv (by rw [l1]; exact hd)

theorem reps_one {v : Value} {d : D} (hc : d.cell = true) (h : Rep w N st bl v d) : Reps w N st bl [v] [d] := by
  refine reps_iff.2 ⟨rfl, ?_, ?_⟩
  · intro i e he
    match i, he with
    | 0, he => simp at he; subst he; exact hc
  · intro i x e hx he
    match i, hx, he with
    | 0, hx, he => simp at hx he; subst hx; subst he; exact h

end Go.Nt
