/-
  ZERO VALUES BY THE REFERENCE: the walk of notaryref19.Zero.
-/
import Derived.Test.YtknicjakdopilaaTmParts
set_option linter.unusedSimpArgs false
namespace Go.Nt.Va
open Go Go.Nt

theorem l17 (m : Tm) (ps : List Tm) (fl : Fl) (z : Tm → V) (hl : ps.length ≤ 1000000) (hc : ∀ p, p ∈ ps → ∀ st, callD T (ev T) 17 [encT m, encT p] st = some (encV (z p), st)) :
    ∀ (r i : Nat) (s : List D) (bx : List (Nat × List D)), r = ps.length - i → i ≤ ps.length → get s 2 = .lp 2 1 0 → getB bx 2 = (1, clT m) → get s 4 = .lp 4 1 0 → getB bx 4 = (1, [.int .i64 0, .nils]) → get s 5 = .lp 5 1 0 →
    getB bx 5 = (1, [.int .i64 0, (grown (seed 2 .nil) 2 (encVs ((ps.map z).take i))).1]) → get s 6 = slE 6 fl (encTs ps) → get s 7 = .int .i64 i →
    Stops (lp T L17_0 ⟨⟨s, bx⟩, (grown (seed 2 .nil) 2 (encVs ((ps.map z).take i))).2⟩) fun e s' b' st' => e = .exit 0 ∧ st' = (grown (seed 2 .nil) 2 (encVs (ps.map z))).2 ∧ get s' 4 = .lp 4 1 0 ∧ get s' 5 = .lp 5 1 0 ∧
      getB b' 4 = (1, [.int .i64 0, .nils]) ∧ getB b' 5 = (1, [.int .i64 0, (grown (seed 2 .nil) 2 (encVs (ps.map z))).1]) := by
  intro r
  induction r with
  | zero =>
    intro i s bx hr hi h2 b2 h4 b4 h5 b5 h6 h7
    have e : i = ps.length := by omega
    subst e
    have q : (ps.map z).take ps.length = ps.map z := List.take_of_length_le (by simp)
    rw [q] at b5 ⊢
    rw [lp_kL, L17_0]
    simp [h2, b2, h4, b4, h5, b5, h6, h7]
  | succ r ihr =>
    intro i s bx hr hi h2 b2 h4 b4 h5 b5 h6 h7
    have hlt : i < ps.length := by omega
    have hw : IntKind.wrap .i64 ((i : Int) + 1) = i + 1 := by rw [wrap64] <;> omega
    have c0 := hc _ (List.getElem_mem hlt)
    have gr := grow .nil 2 (encVs ((ps.map z).take i)) (encV (z ps[i])) (by simp; omega)
    have nx := ihr (i + 1)
    have q : encVs ((ps.map z).take (i + 1)) = encVs ((ps.map z).take i) ++ [encV (z ps[i])] := by
      rw [List.take_succ_eq_append_getElem (by simpa using hlt), encVs_append]; simp
    rw [q] at nx
    rw [lp_kL, L17_0]
    simp [h2, b2, h4, b4, h5, b5, h6, h7, hlt, hw, srcD, listD, ← encT_eq, ← encV_eq, c0, gr]
    rw [← L17_0]
    refine nx _ _ (by omega) (by omega) ?_ ?_ ?_ ?_ ?_ ?_ ?_ ?_
    iterate 8 simp [h2, b2, h4, b4, h5, h6]

theorem arrM_lift (m t : Tm) (r : Nat) : ∀ k, arrM (recM m r) t ≠ 0 → arrM (recM m (r + k)) t ≠ 0 := by
  intro k
  induction k with
  | zero => exact id
  | succ k ih => intro h; rw [← Nat.add_assoc, arrM_up _ _ (recM_up m _) t (ih h)]; exact ih h

theorem fzV' (l : List V) : fz (grown (seed 2 .nil) 2 (encVs l)).2 (.agg [.int .i64 0, (grown (seed 2 .nil) 2 (encVs l)).1]) = some (encV (.mk 0 .nil l), grownZ 2 (encVs l)) := by
  simp [encV, Fl.grew]

theorem c17s (m : Tm) (hm : m.ok) (hb : m.l.length ≤ 1000) (hb2 : ∀ d, d ∈ m.l → d.l.length ≤ 1000000) (t : Tm) (ht : t.ok) (hc : cellsV m t ≠ 0) (hpl : (partsV m t).length ≤ 1000000) (z : Tm → V)
    (h : ∀ p, p ∈ partsV m t → ∀ st, callD T (ev T) 17 [encT m, encT p] st = some (encV (z p), st)) (st : St) :
    callD T (ev T) 17 [encT m, encT t] st = some (encV (.mk 0 .nil ((partsV m t).map z)), st) := by
  have h19 := c19 m t hm hb ht []
  rw [cells_eq] at h19
  have h28 := c28 m t hc hb2 []
  refine callD_pure (fn := F17) rfl rfl (by simp) ?_ (fzV' _) (by simp)
  rw [ev_eq 17 F17 rfl, F17]
  simp [← encT_eq, h19, hc, h28, fillD]
  refine (l17 m (partsV m t) .emp z hpl h _ 0 _ _ rfl (by omega) ?_ ?_ ?_ ?_ ?_ ?_ ?_ ?_).use (fun r => kfin _ (kseq _ (kblock 0 r)) = _) ?_
  iterate 8 simp [seed]
  rintro e s' b' st ⟨rfl, rfl, q4, q5, p4, p5⟩
  simp [q4, q5, p4, p5]


theorem c17 (m : Tm) (hm : m.ok) (hb : m.l.length ≤ 1000) (hb2 : ∀ d, d ∈ m.l → d.l.length ≤ 1000000) : ∀ (r : Nat), r ≤ m.l.length + 1 → ∀ (t : Tm), t.ok → arrM (recM m r) t ≠ 0 → ∀ st,
    callD T (ev T) 17 [encT m, encT t] st = some (encV (zArr (zRec m r) t), st) := by
  obtain ⟨m1, m2, m4, m5, m6, m7, m3⟩ := (Tm.ok_iff m).1 hm
  intro r
  induction r with
  | zero =>
    intro hr t
    induction t using Tm.ind with
    | h t ih =>
      intro ht hne st
      have hc : cellsV m t ≠ 0 := by
        have := arrM_lift m t 0 (m.l.length + 1) hne
        rw [Nat.zero_add] at this
        exact this
      obtain ⟨k1, k2, k4, k5, k6, k7, k3⟩ := (Tm.ok_iff t).1 ht
      by_cases h3 : t.k = 3
      · obtain ⟨x, hx, hn1, hn2, _⟩ := cells_arr m t hc h3
        have hp : partsV m t = List.replicate t.n.toNat x := by simp only [partsV, if_pos h3, hx]
        have hax : arrM (recM m 0) x ≠ 0 := by
          rw [arrM_eq, if_neg (by simp [h3]), if_pos h3, hx] at hne
          exact fun e => hne (by simp only [e, prod0])
        have := c17s m hm hb hb2 t ht hc (by rw [hp, List.length_replicate]; omega) (zArr (zRec m 0)) (fun p hpp st => by
          rw [hp] at hpp
          rw [(List.mem_replicate.1 hpp).2]
          exact ih x (by rw [hx]; simp) (k3 x (by rw [hx]; simp)) hax st) st
        rw [this, zArr_eq, if_pos h3, hx, hp, List.map_replicate]
      · by_cases h4 : t.k = 4
        · rw [arrM_eq, if_neg (by simp [h4]), if_neg h3] at hne
          split at hne
          · exact absurd rfl hne
          · exact absurd rfl hne
        · have hp : partsV m t = [] := by simp only [partsV, if_neg h3, if_neg h4]
          have := c17s m hm hb hb2 t ht hc (by rw [hp]; simp) (zArr (zRec m 0)) (fun p hpp => by rw [hp] at hpp; cases hpp) st
          rw [this, zArr_eq, if_neg h3, if_neg h4, hp, List.map_nil]
  | succ r ihr =>
    intro hr t
    induction t using Tm.ind with
    | h t ih =>
      intro ht hne st
      have hc : cellsV m t ≠ 0 := by
        have := arrM_lift m t (r + 1) (m.l.length - r) hne
        rw [show r + 1 + (m.l.length - r) = m.l.length + 1 by omega] at this
        exact this
      obtain ⟨k1, k2, k4, k5, k6, k7, k3⟩ := (Tm.ok_iff t).1 ht
      by_cases h3 : t.k = 3
      · obtain ⟨x, hx, hn1, hn2, _⟩ := cells_arr m t hc h3
        have hp : partsV m t = List.replicate t.n.toNat x := by simp only [partsV, if_pos h3, hx]
        have hax : arrM (recM m (r + 1)) x ≠ 0 := by
          rw [arrM_eq, if_neg (by simp [h3]), if_pos h3, hx] at hne
          exact fun e => hne (by simp only [e, prod0])
        have := c17s m hm hb hb2 t ht hc (by rw [hp, List.length_replicate]; omega) (zArr (zRec m (r + 1))) (fun p hpp st => by
          rw [hp] at hpp
          rw [(List.mem_replicate.1 hpp).2]
          exact ih x (by rw [hx]; simp) (k3 x (by rw [hx]; simp)) hax st) st
        rw [this, zArr_eq, if_pos h3, hx, hp, List.map_replicate]
      · by_cases h4 : t.k = 4
        · obtain ⟨hx, g, _⟩ := cells_rec m t hc h4
          have g3 : t.n.toNat < m.l.length := by omega
          have hp : partsV m t = m.l[t.n.toNat].l.map partT := by rw [partsV, if_neg h3, if_pos h4, dif_pos g]
          rw [arrM_eq, if_neg (by simp [h4]), if_neg h3, if_pos ⟨h4, hx⟩, recM, dif_pos g] at hne
          split at hne
          · have hdok := (Tm.ok_iff _).1 (m3 _ (List.getElem_mem g3))
            have := c17s m hm hb hb2 t ht hc (by rw [hp, List.length_map]; exact hb2 _ (List.getElem_mem g3)) (zArr (zRec m r)) (fun p hpp st => by
              rw [hp] at hpp
              obtain ⟨p', hp', rfl⟩ := List.mem_map.1 hpp
              obtain ⟨x, hpx, hax⟩ := sumM_all _ _ _ hne p' hp'
              have hpo := (Tm.ok_iff _).1 (hdok.2.2.2.2.2.2 p' hp')
              have ep : partT p' = x := by simp [partT, hpx]
              rw [ep]
              exact ihr (by omega) x (hpo.2.2.2.2.2.2 x (by rw [hpx]; simp)) hax st) st
            rw [this, zArr_eq, if_neg h3, if_pos h4, zRec, dif_pos g, hp, List.map_map]; rfl
          · exact absurd rfl hne
        · have hp : partsV m t = [] := by simp only [partsV, if_neg h3, if_neg h4]
          have := c17s m hm hb hb2 t ht hc (by rw [hp]; simp) (zArr (zRec m r)) (fun p hpp => by rw [hp] at hpp; cases hpp) st
          rw [this, zArr_eq, if_neg h3, if_neg h4, hp, List.map_nil]

end Go.Nt.Va
