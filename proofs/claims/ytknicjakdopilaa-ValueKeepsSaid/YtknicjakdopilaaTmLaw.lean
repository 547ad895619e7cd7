/-
  ZERO VALUES FIT, and the walk of the law ValueZeroes.
-/
import Derived.Test.YtknicjakdopilaaTmFitsR
import Derived.Test.YtknicjakdopilaaVaLaw
set_option linter.unusedSimpArgs false
namespace Go.Nt.Va
open Go Go.Nt

theorem zipF_map (f : Tm → V → Bool) (z : Tm → V) (ps : List Tm) (h : ∀ p, p ∈ ps → f (partT p) (z p) = true) : zipF f ps (ps.map z) = true := by
  induction ps with
  | nil => rfl
  | cons p ps ih =>
    rw [List.map_cons, zipF, h p (by simp), ih fun q hq => h q (by simp [hq])]; rfl

/-- What is said of zero values: they fit, and they are right. -/
theorem zArr_good (rec : Int → Int) (zr : Int → V) (fr : Int → V → Bool)
    (hR : ∀ t : Tm, t.k = 4 → t.l = [] → rec t.n ≠ 0 → fr t.n (zr t.n) = true ∧ (zr t.n).ok) (t : Tm) :
    arrM rec t ≠ 0 → fArr fr t (zArr zr t) = true ∧ (zArr zr t).ok := by
  induction t using Tm.ind with
  | h t ih =>
    intro hne
    rw [arrM_eq] at hne
    rw [zArr_eq, fArr_eq]
    by_cases h3 : t.k = 3
    · rw [if_neg (by simp [h3]), if_pos h3] at hne
      match hx : t.l with
      | [] => rw [hx] at hne; exact absurd rfl hne
      | x :: y :: l => rw [hx] at hne; exact absurd rfl hne
      | [x] =>
        rw [hx] at hne
        simp only at hne
        have hax : arrM rec x ≠ 0 := fun e => hne (by rw [e, prod0])
        have hn : 1 ≤ t.n ∧ t.n ≤ 16 := by
          unfold prod at hne
          refine Classical.byContradiction fun g => hne (if_pos ?_)
          omega
        obtain ⟨i1, i2⟩ := ih x (by rw [hx]; simp) hax
        rw [if_neg (by omega), if_neg (by omega), if_pos h3, if_pos h3]
        simp only [l_mk, n_mk, List.length_replicate]
        refine ⟨?_, (V.ok_iff _).2 ⟨?_, ?_, ?_⟩⟩
        · have : ((t.n.toNat : Nat) : Int) = t.n := by omega
          simp [this]
          exact Or.inr i1
        · simp [in64]
        · simp; omega
        · intro u hu
          rw [l_mk] at hu
          rw [(List.mem_replicate.1 hu).2]; exact i2
    · by_cases h4 : t.k = 4
      · have hx : t.l = [] := by
          refine Classical.byContradiction fun g => hne ?_
          rw [if_neg (by simp [h4]), if_neg h3, if_neg (by simp [g])]
        rw [if_neg (by simp [h4]), if_neg h3, if_pos ⟨h4, hx⟩] at hne
        rw [if_neg (by omega), if_neg (by omega), if_neg h3, if_pos h4, if_neg h3, if_pos h4]
        exact hR t h4 hx hne
      · have hk : t.k = 1 ∨ t.k = 2 := by
          refine Classical.byContradiction fun g => hne ?_
          rw [if_neg (fun q => g q.1), if_neg h3, if_neg (fun q => h4 q.1)]
        rw [if_neg h3, if_neg h4]
        refine ⟨?_, V0_ok⟩
        rcases hk with h1 | h1 <;> simp [h1]

theorem zRec_good (m : Tm) (hb2 : ∀ d, d ∈ m.l → d.l.length ≤ 1000000) : ∀ (r : Nat) (t : Tm), arrM (recM m r) t ≠ 0 → fArr (fRec m r) t (zArr (zRec m r) t) = true ∧ (zArr (zRec m r) t).ok := by
  intro r
  induction r with
  | zero => exact fun t => zArr_good _ _ _ (fun t _ _ hne => absurd rfl hne) t
  | succ r ihr =>
    refine fun t => zArr_good _ _ _ (fun t h4 hx hne => ?_) t
    rw [recM] at hne
    split at hne
    · next g =>
      have g3 : t.n.toNat < m.l.length := by omega
      split at hne
      · have hd := hb2 _ (List.getElem_mem g3)
        have all : ∀ p, p ∈ m.l[t.n.toNat].l → fArr (fRec m r) (partT p) (zArr (zRec m r) (partT p)) = true ∧ (zArr (zRec m r) (partT p)).ok := by
          intro p hp
          obtain ⟨x, hpx, hax⟩ := sumM_all _ _ _ hne p hp
          have ep : partT p = x := by simp [partT, hpx]
          rw [ep]; exact ihr x hax
        rw [fRec, dif_pos g, zRec, dif_pos g]
        refine ⟨?_, (V.ok_iff _).2 ⟨?_, ?_, ?_⟩⟩
        · rw [l_mk, n_mk, zipF_map _ _ _ fun p hp => (all p hp).1, List.length_map]
          simp
        · simp [in64]
        · rw [l_mk, List.length_map]; omega
        · intro u hu
          rw [l_mk] at hu
          obtain ⟨p, hp, rfl⟩ := List.mem_map.1 hu
          exact (all p hp).2
      · exact absurd rfl hne
    · exact absurd rfl hne

theorem zero_fits (m t : Tm) (hb2 : ∀ d, d ∈ m.l → d.l.length ≤ 1000000) : fitsV m t (zeroV m t) = decide (0 < cellsV m t) := by
  have := cellsV_in m t
  unfold fitsV zeroV
  by_cases h : cellsV m t = 0
  · simp [h]
  · rw [if_neg h, if_neg h, (zRec_good m hb2 _ t h).1]
    exact (decide_eq_true (by omega)).symm

theorem zero_ok (m t : Tm) (hb2 : ∀ d, d ∈ m.l → d.l.length ≤ 1000000) : (zeroV m t).ok := by
  unfold zeroV
  by_cases h : cellsV m t = 0
  · rw [if_pos h]; exact V0_ok
  · rw [if_neg h]; exact (zRec_good m hb2 _ t h).2

theorem d17 (m t : Tm) (hm : m.ok) (ht : t.ok) (hb : m.l.length ≤ 1000) (hb2 : ∀ d, d ∈ m.l → d.l.length ≤ 1000000) (st : St) : callD T (ev T) 17 [encT m, encT t] st = some (encV (zeroV m t), st) := by
  unfold zeroV
  by_cases h : cellsV m t = 0
  · rw [if_pos h]
    have h19 := c19 m t hm hb ht []
    rw [cells_eq, h] at h19
    refine callD_pure (fn := F17) (r := encV V0) (st1 := []) (st2 := []) rfl rfl (by simp) ?_ (by simp) (by simp)
    rw [ev_eq 17 F17 rfl, F17]
    simp [← encT_eq, h19, encV_V0, fillD]
  · rw [if_neg h]
    exact c17 m hm hb hb2 (m.l.length + 1) (by omega) t ht h st

theorem d20 (m t : Tm) (v : V) (hm : m.ok) (ht : t.ok) (hv : v.ok) (hb : m.l.length ≤ 1000) (hb2 : ∀ d, d ∈ m.l → d.l.length ≤ 1000000) (st : St) : callD T (ev T) 20 [encT m, encT t, encV v] st = some (.bool (fitsV m t v), st) := by
  unfold fitsV
  by_cases h : cellsV m t = 0
  · rw [if_pos h]
    have h19 := c19 m t hm hb ht []
    rw [cells_eq, h] at h19
    refine callD_pure (fn := F20) (r := .bool false) (st1 := []) (st2 := []) rfl rfl (by simp) ?_ (by simp) (by simp)
    rw [ev_eq 20 F20 rfl, F20]
    simp [← encT_eq, h19]
  · rw [if_neg h]
    exact c20 m hm hb hb2 (m.l.length + 1) (by omega) t ht h v hv st

theorem ev4 (m t : Tm) (v : V) (hm : m.ok) (ht : t.ok) (hv : v.ok) : ev T 4 [encT m, encT t, encV v] [] = some (.bool true, []) := by
  obtain ⟨bm, l1, m1⟩ := c15 m hm []
  obtain ⟨bt, l2, m2⟩ := c15 t ht []
  obtain ⟨bv, l3, m3⟩ := c6 v hv []
  have a7 := c7 []
  rw [ev_eq 4 F4 rfl, F4]
  cases bm with
  | true => simp [← encV_eq, ← encT_eq, l1, a7]
  | false =>
    cases bt with
    | true => simp [← encV_eq, ← encT_eq, l1, l2, a7]
    | false =>
      cases bv with
      | true => simp [← encV_eq, ← encT_eq, l1, l2, l3, a7]
      | false =>
        have hc := m1 rfl
        rw [cntT_eq] at hc
        have hb : m.l.length ≤ 1000 := by have := cntTs_len m.l; omega
        have hb2 : ∀ d, d ∈ m.l → d.l.length ≤ 1000000 := fun d hd => by have := cntTs_mem hd; have := cntT_eq d; have := cntTs_len d.l; omega
        have k16 := c16 m t hm ht (by omega) hb2 []
        have k17 := d17 m t hm ht hb hb2 []
        have zo := zero_ok m t hb2
        have k11 := c11 (zeroV m t) zo (zeroV m t) []
        have k18 := c18 m t (zeroV m t) hm ht zo (by omega) hb2 []
        have k18' := c18 m t v hm ht hv (by omega) hb2 []
        have k20 := d20 m t v hm ht hv hb hb2 []
        have k19 := c19 m t hm hb ht []
        rw [cells_eq] at k19
        rw [zero_fits m t hb2] at k18
        simp [← encV_eq, ← encT_eq, l1, l2, l3, a7, k16, k17, k11, k18, k18', k20, k19]

end Go.Nt.Va
