/-
  BOTH WAYS OF TELLING A TYPE's CELLS AGREE: plain; no program in sight.
-/
import Derived.Test.YtknicjakdopilaaTmWithin
set_option linter.unusedSimpArgs false
namespace Go.Nt.Va
open Go Go.Nt

/-- What stands within arrays: the record's place, if it is one. -/
def baseT : Tm → Option Int
  | .mk k n _ _ l _ _ => if (k = 1 ∨ k = 2) ∧ l = [] then none else if k = 3 then (match l with | [x] => baseT x | _ => none) else if k = 4 ∧ l = [] then some n else none

theorem baseT_eq (t : Tm) : baseT t = if (t.k = 1 ∨ t.k = 2) ∧ t.l = [] then none else if t.k = 3 then (match t.l with | [x] => baseT x | _ => none) else if t.k = 4 ∧ t.l = [] then some t.n else none := by
  cases t with
  | mk k n s fl l a b =>
    match l with
    | [] => simp [baseT, Tm.k, Tm.n, Tm.l]
    | [x] => simp [baseT, Tm.k, Tm.n, Tm.l]
    | x :: y :: l => simp [baseT, Tm.k, Tm.n, Tm.l]

theorem prod0 (n : Int) : prod n 0 = 0 := by unfold prod; split <;> simp

/-- An array's cells depend on its record's alone. -/
theorem arrM_congr (f g : Int → Int) (t : Tm) (h : ∀ n, baseT t = some n → f n = g n) : arrM f t = arrM g t := by
  induction t using Tm.ind with
  | h t ih =>
    rw [baseT_eq] at h
    rw [arrM_eq, arrM_eq]
    split
    · rfl
    · next h1 =>
      rw [if_neg h1] at h
      split
      · next h2 =>
        rw [if_pos h2] at h
        split
        · next x hx => rw [hx] at h; rw [ih x (by rw [hx]; simp) h]
        · rfl
      · next h2 =>
        rw [if_neg h2] at h
        split
        · next h3 => rw [if_pos h3] at h; exact h _ rfl
        · rfl

theorem arrM_ne (f : Int → Int) (t : Tm) (n : Int) (hb : baseT t = some n) (h : arrM f t ≠ 0) : f n ≠ 0 := by
  induction t using Tm.ind with
  | h t ih =>
    rw [baseT_eq] at hb
    rw [arrM_eq] at h
    split at hb
    · cases hb
    · next h1 =>
      rw [if_neg h1] at h
      split at hb
      · next h2 =>
        rw [if_pos h2] at h
        split at hb
        · next x hx =>
          rw [hx] at h
          refine ih x (by rw [hx]; simp) hb fun e => h ?_
          simp only [e, prod0]
        · cases hb
      · next h2 =>
        rw [if_neg h2] at h
        split at hb
        · next h3 => cases hb; rw [if_pos h3] at h; exact h
        · cases hb

/-- One record's part is of another one. -/
def Uses (m : Tm) (a b : Int) : Prop := ∃ (_ : 0 ≤ a ∧ a < m.l.length) (p x : Tm), p ∈ (m.l[a.toNat]'(by omega)).l ∧ p.l = [x] ∧ baseT x = some b

theorem sumM_ne (f : Tm → Int) (l : List Tm) (acc : Int) (h : sumM f l acc ≠ 0) (p x : Tm) (hp : p ∈ l) (hx : p.l = [x]) : f x ≠ 0 := by
  induction l generalizing acc with
  | nil => cases hp
  | cons q l ih =>
    rw [sumM] at h
    split at h
    · next y hy =>
      split at h
      · split at h
        · exact absurd rfl h
        · next g =>
          cases hp with
          | head => rw [hx] at hy; cases hy; exact fun e => g (.inl e)
          | tail _ hp => exact ih _ h hp
      · exact absurd rfl h
    · exact absurd rfl h

theorem uses_ne (m : Tm) (r : Nat) (a b : Int) (hu : Uses m a b) (h : recM m (r + 1) a ≠ 0) : recM m r b ≠ 0 := by
  obtain ⟨ha, p, x, hp, hx, hb⟩ := hu
  rw [recM, dif_pos ha] at h
  split at h
  · exact arrM_ne _ x b hb (sumM_ne _ _ _ h p x hp hx)
  · exact absurd rfl h

inductive Path (m : Tm) : Int → Nat → Int → Prop
  | one (a b : Int) (h : Uses m a b) : Path m a 1 b
  | more (a b c : Int) (j : Nat) (h : Path m a j b) (k : Uses m b c) : Path m a (j + 1) c

theorem path_ne (m : Tm) {a b : Int} {j : Nat} (h : Path m a j b) : ∀ r, recM m r a ≠ 0 → j < r ∧ recM m (r - j) b ≠ 0 := by
  induction h with
  | one b h =>
    intro r hr
    match r, hr with
    | 0, hr => simp [recM] at hr
    | r + 1, hr =>
      have q := uses_ne m r _ _ h hr
      have : r ≠ 0 := by rintro rfl; simp [recM] at q
      exact ⟨by omega, q⟩
  | more b c j h k ih =>
    intro r hr
    obtain ⟨h1, h2⟩ := ih r hr
    obtain ⟨q, hq⟩ : ∃ q, r - j = q + 1 := ⟨r - j - 1, by omega⟩
    rw [hq] at h2
    have e := uses_ne m q _ _ k h2
    have : q ≠ 0 := by rintro rfl; simp [recM] at e
    exact ⟨by omega, by rw [show r - (j + 1) = q by omega]; exact e⟩

theorem path_pos (m : Tm) {a b : Int} {j : Nat} (h : Path m a j b) : 0 < j := by cases h <;> omega

theorem cycle (m : Tm) (a : Int) (j : Nat) (h : Path m a j a) : ∀ r, recM m r a = 0 := by
  intro r
  induction r using Nat.strongRecOn with
  | ind r ih =>
    refine Classical.byContradiction fun hr => ?_
    obtain ⟨h1, h2⟩ := path_ne m h r hr
    have := path_pos m h
    exact h2 (ih (r - j) (by omega))

theorem sumM_bad (f : Tm → Int) (l : List Tm) (acc : Int) (h : l.all shapedP = false) : sumM f l acc = 0 := by
  induction l generalizing acc with
  | nil => simp at h
  | cons p l ih =>
    rw [sumM]
    split
    · next x hx =>
      split
      · next hk =>
        split
        · rfl
        · refine ih _ ?_
          have : shapedP p = true := by simp [shapedP, hk, hx]
          simpa [this] using h
      · rfl
    · rfl

theorem sumM_congr (f g : Tm → Int) (l : List Tm) (h : ∀ p x, p ∈ l → p.l = [x] → f x = g x) (acc : Int) : sumM f l acc = sumM g l acc := by
  induction l generalizing acc with
  | nil => rfl
  | cons p l ih =>
    rw [sumM, sumM]
    split
    · next x hx =>
      rw [h p x (List.mem_cons_self ..) hx, ih fun p x hp => h p x (List.mem_cons_of_mem _ hp)]
    · rfl

theorem rec_eq (m : Tm) : ∀ (r : Nat) (w : List Int) (n : Int), (∀ a, a ∈ w → ∃ j, Path m a j n) → recW m r w n = recM m r n := by
  intro r
  induction r with
  | zero => intro w n _; rfl
  | succ r ih =>
    intro w n hw
    by_cases hin : n ∈ w
    · obtain ⟨j, hj⟩ := hw n hin
      rw [cycle m n j hj, recW]
      split
      · rfl
      · rfl
    · rw [recW, recM]
      split
      · next hn =>
        cases hs : (m.l[n.toNat]'(by omega)).l.all shapedP with
        | true =>
          by_cases hk : (m.l[n.toNat]'(by omega)).k = 30
          · rw [if_pos hk]
            by_cases hl : (m.l[n.toNat]'(by omega)).l = []
            · simp [shaped, hl, sumM]
            · have : shaped (m.l[n.toNat]'(by omega)) = true := by simp only [shaped, hs, hk]; simp [hl]
              rw [if_pos this]
              refine sumM_congr _ _ _ (fun p x hp hx => arrM_congr _ _ x fun b hb => ih _ b ?_) 0
              intro a ha
              have u : Uses m n b := ⟨hn, p, x, hp, hx, hb⟩
              rcases List.mem_append.1 ha with ha | ha
              · obtain ⟨j, hj⟩ := hw a ha
                exact ⟨j + 1, .more _ _ _ _ hj u⟩
              · simp at ha; subst ha; exact ⟨1, .one _ _ u⟩
          · have : shaped (m.l[n.toNat]'(by omega)) = false := by simp [shaped, hk]
            rw [if_neg hk, this]; rfl
        | false =>
          have : shaped (m.l[n.toNat]'(by omega)) = false := by simp only [shaped, hs]; simp
          rw [this, sumM_bad (arrM (recM m r)) _ _ hs]
          simp
      · rfl

theorem cells_eq (m t : Tm) : cellsW m t = cellsV m t := arrM_congr _ _ t fun n _ => rec_eq m _ [] n fun a ha => by cases ha

end Go.Nt.Va
