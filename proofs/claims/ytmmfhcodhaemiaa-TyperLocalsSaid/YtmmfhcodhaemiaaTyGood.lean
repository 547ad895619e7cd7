/-
  WHAT IS SAID OF TYPES AND SETTLED FORMS IS RIGHT.
-/
import Derived.Test.YtmmfhcodhaemiaaTyField
set_option linter.unusedSimpArgs false
namespace Go.Nt.Ty
open Go Go.Nt

theorem good_0 : good T0 := good_K 0 (by simp [in64])
theorem good_head {l : List Tm} (h : ∀ t, t ∈ l → good t) : good (l.headD T0) := by
  cases l with
  | nil => exact good_0
  | cons a l => exact h a (by simp)

theorem bareT_good (t : Tm) : good t → good (bareT t) := by
  induction t using Tm.ind with
  | h t ih =>
    intro h
    obtain ⟨k1, k2, k3, k4, k5, k6, k7⟩ := (good_iff t).1 h
    rw [bareT_eq]
    refine (good_iff _).2 ⟨k1, k2, k3, by simp [in64], by simp [in64], by simpa using k6, fun u hu => ?_⟩
    simp only [l_mk] at hu
    obtain ⟨v, hv, rfl⟩ := List.mem_map.1 hu
    exact ih v hv (k7 v hv)

theorem litT_good (t : Tm) : good (litT t) := by
  unfold litT; split
  · exact good_K 1 (by simp [in64])
  · split
    · exact good_K 2 (by simp [in64])
    · exact good_0

theorem declT_good {m : Tm} (hm : good m) (n k : Int) : good (declT m n k).1 := by
  unfold declT
  split
  · have gd := good_mem hm (List.getElem_mem (by omega : n.toNat < m.l.length))
    repeat' split
    all_goals first | exact gd | exact good_0
  · exact good_0

theorem namedT_good {m : Tm} (hm : good m) {locs : List Tm} (hl : ∀ t, t ∈ locs → good t) (t : Tm) : good (namedT m locs t).1 := by
  unfold namedT
  split
  · split
    · next d hd =>
      unfold localT at hd
      split at hd
      · exact hl d (List.mem_of_getElem? hd)
      · cases hd
    · exact good_0
  · split
    · split
      · exact litT_good _
      · exact good_0
    · split
      · split
        · exact good_head fun u hu => good_mem (declT_good hm _ _) hu
        · exact good_0
      · split
        · exact declT_good hm _ _
        · split
          · exact declT_good hm _ _
          · split <;> exact good_0

theorem byName_mem {s : List UInt8} : ∀ {l : List Tm} {i j : Nat} {f : Tm}, byName s i l = some (j, f) → j < 64 ∧ ∃ p, p ∈ l ∧ f = p.l.headD T0
  | [], _, _, _, h => by cases h
  | p :: l, i, j, f, h => by
    rw [byName] at h
    split at h
    · next hc =>
      simp only [Option.some.injEq, Prod.mk.injEq] at h
      exact ⟨by omega, p, by simp, h.2.symm⟩
    · obtain ⟨h1, q, hq, e⟩ := byName_mem h
      exact ⟨h1, q, by simp [hq], e⟩

theorem fieldT_good {m : Tm} (hm : good m) {n : Int} (hn : in64 n) (s : List UInt8) (of : Tm) : good (fieldT m n s of).2.1 ∧ in64 (fieldT m n s of).1 := by
  have i0 : in64 0 := by simp [in64]
  unfold fieldT
  split
  · next hd =>
    obtain ⟨g, hmem, _⟩ := declT_rec hd
    have := good_len hm
    split
    · exact ⟨bareT_good _ (typField_good hm n), hn⟩
    · split
      · next j f hb =>
        obtain ⟨h1, p, hp, e⟩ := byName_mem hb
        refine ⟨bareT_good _ ?_, by unfold in64; simp only; omega⟩
        rw [e]
        exact good_head fun u hu => good_mem (good_mem (good_mem hm hmem) hp) hu
      · exact ⟨good_0, i0⟩
  · exact ⟨good_0, i0⟩

theorem ruleT_good {m : Tm} (hm : good m) {k n : Int} (hn : in64 n) (s : List UInt8) {d : Tm} (hd : good d) {p : List Tm} (hp : ∀ t, t ∈ p → good t) (hl : p.length ≤ 1000000) : good (ruleT m k n s d p).1 ∧ in64 (ruleT m k n s d p).2.2 := by
  have g1 : good (tK 1) := good_K 1 (by simp [in64])
  have g2 : good (tK 2) := good_K 2 (by simp [in64])
  unfold ruleT
  split
  · refine ⟨?_, hn⟩
    simp only [leafT]
    repeat' split
    all_goals first | exact g1 | exact g2 | exact bareT_good _ hd
  · split
    · split
      · refine ⟨?_, hn⟩
        simp only [binT]
        repeat' split
        all_goals first | exact g1 | exact g2 | exact good_0
      · exact ⟨good_0, hn⟩
    · split
      · split
        · next a =>
          split
          · exact ⟨hp a (by simp), hn⟩
          · exact ⟨good_0, hn⟩
        · exact ⟨good_0, hn⟩
      · split
        · split
          · next a b =>
            split
            · exact ⟨good_head fun u hu => good_mem (hp a (by simp)) hu, hn⟩
            · exact ⟨good_0, hn⟩
          · exact ⟨good_0, hn⟩
        · split
          · split
            · next a =>
              split
              · split
                · exact fieldT_good hm hn s a
                · exact ⟨good_0, hn⟩
              · exact ⟨good_0, hn⟩
            · exact ⟨good_0, hn⟩
          · split
            · refine ⟨?_, hn⟩
              simp only [listT]
              split
              · split
                · exact good_0
                · refine (good_iff _).2 ⟨by simp [in64], by simp [in64]; omega, by simp, by simp [in64], by simp [in64], by simp, fun u hu => ?_⟩
                  simp only [l_mk, List.mem_singleton] at hu
                  subst hu
                  exact good_head hp
              · exact good_0
            · split
              · split
                · exact ⟨(good_iff _).2 ⟨by simp [in64], hn, by simp, by simp [in64], by simp [in64], by simp, fun u hu => by cases hu⟩, hn⟩
                · exact ⟨good_0, hn⟩
              · split
                · split
                  · refine ⟨bareT_good _ (good_head fun u hu => good_mem hd (List.mem_of_mem_tail hu)), hn⟩
                  · exact ⟨good_0, hn⟩
                · exact ⟨good_0, hn⟩

theorem ofT_good {m : Tm} (hm : good m) {locs : List Tm} (hl : ∀ t, t ∈ locs → good t) (t : Tm) : good t → ∀ a s, ofT m locs t = .ok (a, s) → good a ∧ good s := by
  induction t using Tm.ind with
  | h t ih =>
    intro h a s ho
    obtain ⟨k1, k2, k3, k4, k5, k6, k7⟩ := (good_iff t).1 h
    have key : ∀ l : List Tm, (∀ u, u ∈ l → ∀ a s, ofT m locs u = .ok (a, s) → good a ∧ good s) → ∀ ts ss, ofTs m locs l = .ok (ts, ss) → (∀ x, x ∈ ts → good x) ∧ (∀ x, x ∈ ss → good x) ∧ ts.length = l.length ∧ ss.length = l.length := by
      intro l
      induction l with
      | nil =>
        intro _ ts ss h
        simp only [ofTs, Except.ok.injEq, Prod.mk.injEq] at h
        rw [← h.1, ← h.2]; simp
      | cons u l ihl =>
        intro hu ts ss h
        rw [ofTs] at h
        cases hq : ofT m locs u with
        | error x => rw [hq] at h; cases h
        | ok x =>
          obtain ⟨a, s⟩ := x
          rw [hq] at h
          cases hr : ofTs m locs l with
          | error y => rw [hr] at h; cases h
          | ok y =>
            obtain ⟨b, c⟩ := y
            rw [hr] at h
            simp only [Except.ok.injEq, Prod.mk.injEq] at h
            obtain ⟨g1, g2⟩ := hu u (by simp) a s hq
            obtain ⟨q1, q2, q3, q4⟩ := ihl (fun v hv => hu v (by simp [hv])) b c hr
            rw [← h.1, ← h.2]
            refine ⟨fun x hx => ?_, fun x hx => ?_, by simp [q3], by simp [q4]⟩
            · rcases List.mem_cons.1 hx with rfl | hx
              · exact g1
              · exact q1 x hx
            · rcases List.mem_cons.1 hx with rfl | hx
              · exact g2
              · exact q2 x hx
    rw [ofT_eq] at ho
    split at ho
    · cases ho
    · split at ho
      · cases ho
      · cases hq : ofTs m locs t.l with
        | error x => rw [hq] at ho; cases ho
        | ok x =>
          obtain ⟨ts, ss⟩ := x
          rw [hq] at ho
          simp only at ho
          obtain ⟨q1, q2, q3, q4⟩ := key t.l (fun u hu => ih u hu (k7 u hu)) ts ss hq
          split at ho
          · simp only [Except.ok.injEq, Prod.mk.injEq] at ho
            obtain ⟨r1, r2⟩ := ruleT_good hm (k := t.k) k2 t.s (namedT_good hm hl t) q1 (by omega)
            rw [← ho.1, ← ho.2]
            refine ⟨r1, (good_iff _).2 ⟨k1, r2, by simp, by simp [in64], by simp [in64], by simp only [l_mk]; omega, fun u hu => q2 u hu⟩⟩
          · cases ho

theorem ofTs_good {m : Tm} (hm : good m) {locs : List Tm} (hl : ∀ t, t ∈ locs → good t) : ∀ (l ts ss : List Tm), (∀ u, u ∈ l → good u) → ofTs m locs l = .ok (ts, ss) → (∀ x, x ∈ ts → good x)
  | [], ts, ss, _, h => by
    simp only [ofTs, Except.ok.injEq, Prod.mk.injEq] at h
    rw [← h.1]; simp
  | u :: l, ts, ss, hu, h => by
    rw [ofTs] at h
    cases hq : ofT m locs u with
    | error x => rw [hq] at h; cases h
    | ok x =>
      obtain ⟨a, s⟩ := x
      rw [hq] at h
      cases hr : ofTs m locs l with
      | error y => rw [hr] at h; cases h
      | ok y =>
        obtain ⟨b, c⟩ := y
        rw [hr] at h
        simp only [Except.ok.injEq, Prod.mk.injEq] at h
        have g1 := (ofT_good hm hl u (hu u (by simp)) a s hq).1
        have g2 := ofTs_good hm hl l b c (fun v hv => hu v (by simp [hv])) hr
        rw [← h.1]
        intro x hx
        rcases List.mem_cons.1 hx with rfl | hx
        · exact g1
        · exact g2 x hx

end Go.Nt.Ty
