/-
  PARTS' TYPES, AND ZERO VALUES BY THE REFERENCE.
-/
import Derived.Test.YtknicjakdopilaaTmZero
set_option linter.unusedSimpArgs false
namespace Go.Nt.Va
open Go Go.Nt

def partsV (m t : Tm) : List Tm :=
  if t.k = 3 then (match t.l with | [x] => List.replicate t.n.toNat x | _ => []) else if t.k = 4 then (if h : 0 ≤ t.n ∧ t.n < m.l.length then (m.l[t.n.toNat]'(by omega)).l.map partT else []) else []

theorem l28a (t x : Tm) (hx : t.l = [x]) (hn : 1 ≤ t.n ∧ t.n ≤ 16) :
    ∀ (r i : Nat) (s : List D) (bx : List (Nat × List D)), (r : Int) = t.n - i → (i : Int) ≤ t.n → get s 2 = .lp 2 1 0 → get s 3 = .lp 3 1 0 → getB bx 3 = (1, clT t) → get s 5 = (grown (seed 6 .emp) 6 (List.replicate i (encT x))).1 → get s 6 = .int .i64 i →
    Stops (lp T L28_0 ⟨⟨s, bx⟩, (grown (seed 6 .emp) 6 (List.replicate i (encT x))).2⟩) fun e s' b' st' => e = .exit 0 ∧ st' = (grown (seed 6 .emp) 6 (List.replicate t.n.toNat (encT x))).2 ∧ b' = bx ∧ get s' 2 = .lp 2 1 0 ∧ get s' 3 = .lp 3 1 0 ∧
      get s' 5 = (grown (seed 6 .emp) 6 (List.replicate t.n.toNat (encT x))).1 := by
  intro r
  induction r with
  | zero =>
    intro i s bx hr hi h2 h3 b3 h5 h6
    have e : t.n = i := by omega
    have e2 : t.n.toNat = i := by omega
    rw [lp_kL, L28_0, e2]
    simp [h2, h3, b3, h5, h6, e]
  | succ r ihr =>
    intro i s bx hr hi h2 h3 b3 h5 h6
    have hlt : (i : Int) < t.n := by omega
    have hw : IntKind.wrap .i64 ((i : Int) + 1) = i + 1 := by rw [wrap64] <;> omega
    have gr := grow .emp 6 (List.replicate i (encT x)) (encT x) (by simp; omega)
    have nx := ihr (i + 1)
    rw [List.replicate_succ'] at nx
    rw [lp_kL, L28_0]
    simp [h2, h3, b3, h5, h6, hlt, hw, hx, srcD, listD, ← encT_eq, gr]
    rw [← L28_0]
    refine nx _ _ (by omega) (by omega) ?_ ?_ ?_ ?_ ?_
    iterate 5 simp [h2, h3, b3]

theorem l28b (d : Tm) (hd : d.l.length ≤ 1000000) (hp : ∀ p, p ∈ d.l → ∃ x, p.l = [x]) :
    ∀ (r i : Nat) (s : List D) (bx : List (Nat × List D)), r = d.l.length - i → i ≤ d.l.length → get s 7 = slE 6 d.fl (encTs d.l) → get s 5 = (grown (seed 6 .emp) 6 (encTs ((d.l.map partT).take i))).1 → get s 8 = .int .i64 i →
    Stops (lp T L28_1 ⟨⟨s, bx⟩, (grown (seed 6 .emp) 6 (encTs ((d.l.map partT).take i))).2⟩) fun e s' _ st' => e = .exit 2 ∧ st' = (grown (seed 6 .emp) 6 (encTs (d.l.map partT))).2 ∧
      get s' 5 = (grown (seed 6 .emp) 6 (encTs (d.l.map partT))).1 := by
  intro r
  induction r with
  | zero =>
    intro i s bx hr hi h7 h5 h8
    have e : i = d.l.length := by omega
    subst e
    have q : (d.l.map partT).take d.l.length = d.l.map partT := List.take_of_length_le (by simp)
    rw [q] at h5 ⊢
    rw [lp_kL, L28_1]
    simp [h7, h5, h8]
  | succ r ihr =>
    intro i s bx hr hi h7 h5 h8
    have hlt : i < d.l.length := by omega
    have hw : IntKind.wrap .i64 ((i : Int) + 1) = i + 1 := by rw [wrap64] <;> omega
    obtain ⟨x, hx⟩ := hp _ (List.getElem_mem hlt)
    have ep : partT d.l[i] = x := by simp [partT, hx]
    have gr := grow .emp 6 (encTs ((d.l.map partT).take i)) (encT x) (by simp; omega)
    have nx := ihr (i + 1)
    have q : encTs ((d.l.map partT).take (i + 1)) = encTs ((d.l.map partT).take i) ++ [encT x] := by
      rw [List.take_succ_eq_append_getElem (by simpa using hlt), encTs_append]; simp [ep]
    rw [q] at nx
    rw [lp_kL, L28_1]
    simp [h7, h5, h8, hlt, hw, hx, srcD, listD, ← encT_eq, gr]
    rw [← L28_1]
    refine nx _ _ (by omega) (by omega) ?_ ?_ ?_
    iterate 3 simp [h7]


theorem arrM_up (f g : Int → Int) (h : ∀ n, f n ≠ 0 → g n = f n) (t : Tm) (hne : arrM f t ≠ 0) : arrM g t = arrM f t := by
  refine arrM_congr g f t fun n hb => h n ?_
  exact arrM_ne f t n hb hne

theorem sumM_up (f g : Tm → Int) (l : List Tm) (h : ∀ t, f t ≠ 0 → g t = f t) (acc : Int) (hne : sumM f l acc ≠ 0) : sumM g l acc = sumM f l acc :=
  sumM_congr g f l (fun p x hp hx => h x (sumM_ne f l acc hne p x hp hx)) acc

theorem recM_up (m : Tm) : ∀ (r : Nat) (n : Int), recM m r n ≠ 0 → recM m (r + 1) n = recM m r n := by
  intro r
  induction r with
  | zero => intro n h; exact absurd rfl h
  | succ r ih =>
    intro n h
    rw [recM] at h
    rw [recM, recM]
    split
    · next g =>
      rw [dif_pos g] at h
      split
      · next hk =>
        rw [if_pos hk] at h
        exact sumM_up _ _ _ (fun t ht => arrM_up _ _ ih t ht) 0 h
      · rfl
    · rfl

/-- What a type is that has cells. -/
theorem cells_arr (m t : Tm) (h : cellsV m t ≠ 0) (h3 : t.k = 3) : ∃ x, t.l = [x] ∧ 1 ≤ t.n ∧ t.n ≤ 16 ∧ cellsV m x ≠ 0 := by
  unfold cellsV at h ⊢
  rw [arrM_eq, if_neg (by simp [h3]), if_pos h3] at h
  split at h
  · next x hx =>
    refine ⟨x, hx, ?_⟩
    have hax : arrM (recM m (m.l.length + 1)) x ≠ 0 := fun e => h (by rw [e, prod0])
    have hn : 1 ≤ t.n ∧ t.n ≤ 16 := by
      unfold prod at h
      refine Classical.byContradiction fun g => h (if_pos ?_)
      omega
    exact ⟨hn.1, hn.2, hax⟩
  · exact absurd rfl h

theorem cells_rec (m t : Tm) (h : cellsV m t ≠ 0) (h4 : t.k = 4) : t.l = [] ∧ ∃ g : 0 ≤ t.n ∧ t.n < m.l.length, ∀ p, p ∈ (m.l[t.n.toNat]'(by omega)).l → ∃ x, p.l = [x] ∧ cellsV m x ≠ 0 := by
  unfold cellsV at h ⊢
  rw [arrM_eq, if_neg (by simp [h4]), if_neg (by simp [h4])] at h
  split at h
  · next h5 =>
    rw [recM] at h
    split at h
    · next g =>
      split at h
      · refine ⟨h5.2, g, fun p hp => ?_⟩
        obtain ⟨x, hx, hax⟩ := sumM_all _ _ _ h p hp
        exact ⟨x, hx, by rw [arrM_up _ _ (recM_up m _) x hax]; exact hax⟩
      · exact absurd rfl h
    · exact absurd rfl h
  · exact absurd rfl h

theorem c28 (m t : Tm) (hc : cellsV m t ≠ 0) (hb2 : ∀ d, d ∈ m.l → d.l.length ≤ 1000000) (st : St) : callD T (ev T) 28 [encT m, encT t] st = some (slE 6 .emp (encTs (partsV m t)), st) := by
  unfold partsV
  by_cases h3 : t.k = 3
  · obtain ⟨x, hx, hn1, hn2, _⟩ := cells_arr m t hc h3
    have er : encTs (List.replicate t.n.toNat x) = List.replicate t.n.toNat (encT x) := by rw [encTs_map, List.map_replicate]
    simp only [if_pos h3, hx, er]
    refine callD_pure (fn := F28) (r := (grown (seed 6 .emp) 6 (List.replicate t.n.toNat (encT x))).1) (st1 := (grown (seed 6 .emp) 6 (List.replicate t.n.toNat (encT x))).2) rfl rfl (by simp) ?_ (fz_grown .emp 6 _) (by simp [Fl.grew])
    rw [ev_eq 28 F28 rfl, F28]
    simp [h3, hx]
    refine (l28a t x hx ⟨hn1, hn2⟩ t.n.toNat 0 _ _ (by omega) (by omega) ?_ ?_ ?_ ?_ ?_).use (fun r => kfin _ (kseq _ (kblock 0 r)) = _) ?_
    iterate 5 simp [h3, hx, seed]
    rintro e s' b' st ⟨rfl, rfl, rfl, q2, q3, q5⟩
    simp [q2, q3, q5, h3]
  · by_cases h4 : t.k = 4
    · obtain ⟨hx, g, hp⟩ := cells_rec m t hc h4
      have g3 : t.n.toNat < m.l.length := by omega
      have g1 : ¬ t.n < 0 := by omega
      rw [if_neg h3, if_pos h4, dif_pos g]
      refine callD_pure (fn := F28) (r := (grown (seed 6 .emp) 6 (encTs (m.l[t.n.toNat].l.map partT))).1) (st1 := (grown (seed 6 .emp) 6 (encTs (m.l[t.n.toNat].l.map partT))).2) rfl rfl (by simp) ?_ (fz_grown .emp 6 _) (by simp [Fl.grew])
      rw [ev_eq 28 F28 rfl, F28]
      simp [h3, h4, g1, g3]
      refine (l28b m.l[t.n.toNat] (hb2 _ (List.getElem_mem g3)) (fun p hpp => ⟨_, (hp p hpp).choose_spec.1⟩) _ 0 _ _ rfl (by omega) ?_ ?_ ?_).use (fun r => kfin _ (kseq _ (kblock 2 r)) = _) ?_
      iterate 3 simp [seed]
      rintro e s' b' st ⟨rfl, rfl, q5⟩
      simp [q5]
    · rw [if_neg h3, if_neg h4]
      refine callD_pure (fn := F28) (r := .sl 6 true []) (st1 := []) (st2 := []) rfl rfl (by simp) ?_ (by simp [slE]) (by simp)
      rw [ev_eq 28 F28 rfl, F28]
      simp [h3, h4]

end Go.Nt.Va
