/-
  THE PLAIN LAW OF ValueSets, and the law's own walk.
-/
import Derived.Test.YtknicjakdopilaaVaSets
set_option linter.unusedSimpArgs false
namespace Go.Nt.Va
open Go Go.Nt

@[simp] theorem l_mk (n : Int) (fl : Fl) (l : List V) : (V.mk n fl l).l = l := rfl
@[simp] theorem n_mk (n : Int) (fl : Fl) (l : List V) : (V.mk n fl l).n = n := rfl

theorem sames_refl_of (l : List V) (h : ∀ u, u ∈ l → same u u = true) : sames l l = true := by
  induction l with
  | nil => rfl
  | cons v l ih => simp only [sames, h v (List.mem_cons_self ..), Bool.true_and]; exact ih fun u hu => h u (List.mem_cons_of_mem _ hu)
@[simp] theorem same_refl (v : V) : same v v = true := by
  induction v using V.ind with
  | h v ih => rw [same_eq]; simp [sames_refl_of v.l ih]
@[simp] theorem sames_refl (l : List V) : sames l l = true := sames_refl_of l fun u _ => same_refl u

theorem sames_set_both (l : List V) (k : Nat) (a b : V) (h : same a b = true) : sames (l.set k a) (l.set k b) = true := by
  induction l generalizing k with
  | nil => rfl
  | cons v l ih =>
    cases k with
    | zero => simp [sames, h]
    | succ k => simp [sames, ih]
theorem sames_set (l : List V) (k : Nat) (a : V) (h : k < l.length) : sames (l.set k a) l = same a l[k] := by
  induction l generalizing k with
  | nil => simp at h
  | cons v l ih =>
    cases k with
    | zero => simp [sames]
    | succ k => simp [sames]; exact ih k (by simpa using h)

theorem set_ok (x : V) : ∀ (w : List Int) (v : V), (setV v w x).2 = (getV v w).2
  | [], v => rfl
  | i :: w, v => by
    rw [setV, getV]
    split
    · next h =>
      rw [← set_ok x w]
      split
      · next h => exact h.symm
      · next h => simp at h; exact h.symm
    · rfl
theorem set_bad (x : V) : ∀ (w : List Int) (v : V), (getV v w).2 = false → (setV v w x).1 = V0
  | [], v, h => by cases h
  | i :: w, v, h => by
    rw [setV]
    rw [getV] at h
    split
    · next g =>
      rw [dif_pos g] at h
      rw [if_neg (by rw [set_ok, h]; simp)]
    · rfl
theorem get_bad : ∀ (w : List Int) (v : V), (getV v w).2 = false → (getV v w).1 = V0
  | [], v, h => by cases h
  | i :: w, v, h => by
    rw [getV] at h ⊢
    split
    · next g => rw [dif_pos g] at h; exact get_bad w _ h
    · rfl
theorem get_set (x : V) : ∀ (w : List Int) (v : V), (getV v w).2 = true → getV (setV v w x).1 w = (x, true)
  | [], v, _ => rfl
  | i :: w, v, h => by
    rw [getV] at h
    split at h
    · next g =>
      rw [setV, dif_pos g, if_pos (by rw [set_ok]; exact h), getV]
      have q : 0 ≤ i ∧ i < ((V.mk v.n .part (v.l.set i.toNat (setV (v.l[i.toNat]'(by omega)) w x).1)).l.length : Int) := by simpa using g
      rw [dif_pos q]
      have e : (V.mk v.n .part (v.l.set i.toNat (setV (v.l[i.toNat]'(by omega)) w x).1)).l[i.toNat]'(by simp; omega) = (setV (v.l[i.toNat]'(by omega)) w x).1 := by simp
      rw [e]
      exact get_set x w _ h
    · cases h
theorem set_same (x : V) : ∀ (w : List Int) (v : V), (getV v w).2 = true → same (setV v w x).1 (setR v w x) = true
  | [], v, _ => by simp [setV, setR]
  | i :: w, v, h => by
    rw [getV] at h
    split at h
    · next g =>
      rw [setV, dif_pos g, if_pos (by rw [set_ok]; exact h), setR, dif_pos g, same_eq]
      have := sames_set_both v.l i.toNat _ _ (set_same x w _ h)
      simp [this]
    · cases h
theorem set_was (x : V) : ∀ (w : List Int) (v : V), (getV v w).2 = true → same (setV v w x).1 v = same x (getV v w).1
  | [], v, _ => by simp [setV, getV]
  | i :: w, v, h => by
    rw [getV] at h
    split at h
    · next g =>
      rw [setV, dif_pos g, if_pos (by rw [set_ok]; exact h), getV, dif_pos g, same_eq]
      have q : i.toNat < v.l.length := by omega
      have := sames_set v.l i.toNat (setV v.l[i.toNat] w x).1 q
      have r := set_was x w _ h
      simp only [n_mk, l_mk, beq_self_eq_true, Bool.true_and]
      exact this.trans r
    · cases h

theorem V0_ok : V0.ok := by rw [V.ok_iff]; simp [in64]
theorem get_good : ∀ (w : List Int) (v : V), v.ok → (getV v w).1.ok
  | [], v, h => h
  | i :: w, v, h => by
    rw [getV]
    split
    · exact get_good w _ (((V.ok_iff v).1 h).2.2 _ (List.getElem_mem _))
    · exact V0_ok
theorem set_good (x : V) (hx : x.ok) : ∀ (w : List Int) (v : V), v.ok → (setV v w x).1.ok
  | [], v, h => hx
  | i :: w, v, h => by
    rw [setV]
    split
    · next g =>
      split
      · obtain ⟨h1, h2, h3⟩ := (V.ok_iff v).1 h
        refine (V.ok_iff _).2 ⟨h1, by simpa using h2, ?_⟩
        intro u hu
        rcases List.mem_or_eq_of_mem_set hu with hu | rfl
        · exact h3 u hu
        · exact set_good x hx w _ (h3 _ (List.getElem_mem _))
      · exact V0_ok
    · exact V0_ok

theorem ev3 (v x : V) (fl : Fl) (w : List Int) (hv : v.ok) (hx : x.ok) : ev T 3 [encV v, slE 1 fl (encW w), encV x] [] = some (.bool true, []) := by
  obtain ⟨bv, l1, m1⟩ := c6 v hv []
  obtain ⟨bx, l2, m2⟩ := c6 x hx []
  have a7 := c7 []
  rw [ev_eq 3 F3 rfl, F3]
  cases bv with
  | true => simp [← encV_eq, l1, a7]
  | false =>
    cases bx with
    | true => simp [← encV_eq, l1, l2, a7]
    | false =>
      by_cases hw : (100 : Int) < w.length
      · simp [← encV_eq, l1, l2, a7, hw]
      · have hl : w.length ≤ 1000000 := by omega
        have hc : cnt v ≤ 1000000 := by have := m1 rfl; omega
        have k8 := c8 w hl fl v []
        have k9 := c9 x w v fl [] hc
        have k10 := c10 v w fl []
        have e9 := set_ok x w v
        cases hg : (getV v w).2 with
        | false =>
          have e1 := get_bad w v hg
          have e2 := set_bad x w v hg
          have s1 := c11 V0 V0_ok V0 []
          simp [← encV_eq, encV_V0] at s1
          simp [← encV_eq, encV_V0, l1, l2, a7, hw, k8, k9, k10, e9, hg, e1, e2, s1]
        | true =>
          have k8' := c8 w hl fl (setV v w x).1 []
          have k12 := c12 v w fl [] hg
          have k13 := c13 x w v fl [] hc hg
          have gy := set_good x hx w v hv
          have gw := get_good w v hv
          have s1 := c11 (getV v w).1 gw (getV v w).1 []
          have s2 := c11 x hx x []
          have s3 := c11 (setV v w x).1 gy (setR v w x) []
          have s4 := c14 (setV v w x).1 gy v []
          have s5 := c11 x hx (getV v w).1 []
          simp [← encV_eq, l1, l2, a7, hw, k8, k9, k10, e9, hg, k8', get_set x w v hg, k12, k13, s1, s2, s3, s4, s5, set_same x w v hg, set_was x w v hg]

end Go.Nt.Va
