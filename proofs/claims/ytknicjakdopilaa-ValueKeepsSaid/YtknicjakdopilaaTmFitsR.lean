/-
  DOES A VALUE FIT A TYPE: the reference's answer.
-/
import Derived.Test.YtknicjakdopilaaTmFitsB
set_option linter.unusedSimpArgs false
namespace Go.Nt.Va
open Go Go.Nt

def zipG (f : Tm → V → Bool) : List Tm → List V → Bool
  | p :: ps, v :: vs => f p v && zipG f ps vs
  | _, _ => true

theorem zipG_map (f : Tm → V → Bool) (ps : List Tm) : ∀ vs, zipG f (ps.map partT) vs = zipF f ps vs := by
  induction ps with
  | nil => intro vs; rfl
  | cons p ps ih => intro vs; cases vs <;> simp [zipG, zipF, ih]

theorem zipG_rep (f : Tm → V → Bool) (x : Tm) : ∀ (vs : List V) (n : Nat), vs.length = n → zipG f (List.replicate n x) vs = vs.all (f x) := by
  intro vs
  induction vs with
  | nil => intro n h; simp at h; subst h; rfl
  | cons v vs ih => intro n h; simp at h; subst h; simp [List.replicate_succ, zipG, ih]

theorem l20 (m : Tm) (ps : List Tm) (fl : Fl) (v : V) (f : Tm → V → Bool) (hl : ps.length ≤ 1000000) (hlen : v.l.length = ps.length) (hc : ∀ p, p ∈ ps → ∀ u, u ∈ v.l → ∀ st, callD T (ev T) 20 [encT m, encT p, encV u] st = some (.bool (f p u), st)) :
    ∀ (r i : Nat) (s : List D) (bx : List (Nat × List D)) (st : St), r = ps.length - i → i ≤ ps.length → get s 3 = .lp 3 1 0 → getB bx 3 = (1, clT m) → get s 5 = .lp 5 1 0 → getB bx 5 = (1, cl v) → get s 7 = slE 6 fl (encTs ps) → get s 8 = .int .i64 i →
    Stops (lp T L20_0 ⟨⟨s, bx⟩, st⟩) fun e s' _ st' => st' = st ∧ (if zipG f (ps.drop i) (v.l.drop i) then e = .exit 0 else e = .ret ∧ get s' 6 = .bool false) := by
  intro r
  induction r with
  | zero =>
    intro i s bx st hr hi h3 b3 h5 b5 h7 h8
    have e : i = ps.length := by omega
    subst e
    rw [lp_kL, L20_0, List.drop_length]
    simp [h3, b3, h5, b5, h7, h8, zipG]
  | succ r ihr =>
    intro i s bx st hr hi h3 b3 h5 b5 h7 h8
    have hlt : i < ps.length := by omega
    have hlt' : i < v.l.length := by omega
    have hw : IntKind.wrap .i64 ((i : Int) + 1) = i + 1 := by rw [wrap64] <;> omega
    have c0 := hc _ (List.getElem_mem hlt) _ (List.getElem_mem hlt') st
    have q : zipG f (ps.drop i) (v.l.drop i) = (f ps[i] v.l[i] && zipG f (ps.drop (i + 1)) (v.l.drop (i + 1))) := by
      rw [List.drop_eq_getElem_cons hlt, List.drop_eq_getElem_cons hlt', zipG]
    rw [q]
    rw [lp_kL, L20_0]
    cases hg : f ps[i] v.l[i] with
    | true =>
      rw [hg] at c0
      rw [Bool.true_and]
      have nx := ihr (i + 1)
      simp [h3, b3, h5, b5, h7, h8, hlt, hlt', hw, ← encV_eq, ← encT_eq, c0]
      rw [← L20_0]
      refine nx _ _ _ (by omega) (by omega) ?_ ?_ ?_ ?_ ?_ ?_
      iterate 6 simp [h3, b3, h5, b5, h7]
    | false =>
      rw [hg] at c0
      simp [h3, b3, h5, b5, h7, h8, hlt, hlt', hw, ← encV_eq, ← encT_eq, c0]


def gate (t : Tm) (v : V) : Bool := if t.k = 1 then true else if t.k = 2 then decide (v.n = 0) || decide (v.n = 1) else decide (v.n = 0)

theorem c20s (m : Tm) (hm : m.ok) (hb : m.l.length ≤ 1000) (hb2 : ∀ d, d ∈ m.l → d.l.length ≤ 1000000) (t : Tm) (ht : t.ok) (hc : cellsV m t ≠ 0) (hpl : (partsV m t).length ≤ 1000000) (v : V) (f : Tm → V → Bool)
    (h : ∀ p, p ∈ partsV m t → ∀ u, u ∈ v.l → ∀ st, callD T (ev T) 20 [encT m, encT p, encV u] st = some (.bool (f p u), st)) (st : St) :
    callD T (ev T) 20 [encT m, encT t, encV v] st = some (.bool (gate t v && (decide (v.l.length = (partsV m t).length) && zipG f (partsV m t) v.l)), st) := by
  have h19 := c19 m t hm hb ht []
  rw [cells_eq] at h19
  have h28 := c28 m t hc hb2 []
  refine callD_pure (fn := F20) (st1 := []) (st2 := []) (r := .bool (gate t v && (decide (v.l.length = (partsV m t).length) && zipG f (partsV m t) v.l))) rfl rfl (by simp) ?_ (by simp) (by simp)
  rw [ev_eq 20 F20 rfl, F20]
  unfold gate
  by_cases h1 : t.k = 1
  · rw [if_pos h1]
    have e1 : (t.k = 1) = True := eq_true h1
    have e2 : (t.k = 2) = False := eq_false (by omega)
    by_cases nl : v.l.length = (partsV m t).length
    · have nl' : ¬ ((partsV m t).length ≠ v.l.length) := fun g => g nl.symm
      simp [← encT_eq, h19, hc, h28, e1, e2, nl]
      refine (l20 m (partsV m t) .emp v f hpl nl h _ 0 _ _ [] rfl (by omega) ?_ ?_ ?_ ?_ ?_ ?_).use (fun r => kfin _ (kseq _ (kblock 0 r)) = _) ?_
      iterate 6 simp [e1, e2, nl]
      rintro e s' b' st ⟨rfl, h⟩
      cases hz : zipG f (partsV m t) v.l with
      | true => simp [hz] at h; simp [h]
      | false => simp [hz] at h; simp [h.1, h.2]
    · have nl' : ¬ (partsV m t).length = v.l.length := fun g => nl g.symm
      simp [← encT_eq, h19, hc, h28, e1, e2, nl, nl']
  · rw [if_neg h1]
    by_cases h2 : t.k = 2
    · rw [if_pos h2]
      have e1 : (t.k = 1) = False := eq_false h1
      have e2 : (t.k = 2) = True := eq_true h2
      by_cases n0 : v.n = 0
      · by_cases nl : v.l.length = (partsV m t).length
        · have nl' : ¬ ((partsV m t).length ≠ v.l.length) := fun g => g nl.symm
          simp [← encT_eq, h19, hc, h28, e1, e2, n0, nl]
          refine (l20 m (partsV m t) .emp v f hpl nl h _ 0 _ _ [] rfl (by omega) ?_ ?_ ?_ ?_ ?_ ?_).use (fun r => kfin _ (kseq _ (kblock 0 r)) = _) ?_
          iterate 6 simp [e1, e2, n0, nl]
          rintro e s' b' st ⟨rfl, h⟩
          cases hz : zipG f (partsV m t) v.l with
          | true => simp [hz] at h; simp [h]
          | false => simp [hz] at h; simp [h.1, h.2]
        · have nl' : ¬ (partsV m t).length = v.l.length := fun g => nl g.symm
          simp [← encT_eq, h19, hc, h28, e1, e2, n0, nl, nl']
      · by_cases n1 : v.n = 1
        · by_cases nl : v.l.length = (partsV m t).length
          · have nl' : ¬ ((partsV m t).length ≠ v.l.length) := fun g => g nl.symm
            simp [← encT_eq, h19, hc, h28, e1, e2, n1, nl]
            refine (l20 m (partsV m t) .emp v f hpl nl h _ 0 _ _ [] rfl (by omega) ?_ ?_ ?_ ?_ ?_ ?_).use (fun r => kfin _ (kseq _ (kblock 0 r)) = _) ?_
            iterate 6 simp [e1, e2, n1, nl]
            rintro e s' b' st ⟨rfl, h⟩
            cases hz : zipG f (partsV m t) v.l with
            | true => simp [hz] at h; simp [h]
            | false => simp [hz] at h; simp [h.1, h.2]
          · have nl' : ¬ (partsV m t).length = v.l.length := fun g => nl g.symm
            simp [← encT_eq, h19, hc, h28, e1, e2, n1, nl, nl']
        · simp [← encT_eq, h19, hc, h28, e1, e2, n0, n1]
    · rw [if_neg h2]
      have e1 : (t.k = 1) = False := eq_false h1
      have e2 : (t.k = 2) = False := eq_false h2
      by_cases n0 : v.n = 0
      · by_cases nl : v.l.length = (partsV m t).length
        · have nl' : ¬ ((partsV m t).length ≠ v.l.length) := fun g => g nl.symm
          simp [← encT_eq, h19, hc, h28, e1, e2, n0, nl]
          refine (l20 m (partsV m t) .emp v f hpl nl h _ 0 _ _ [] rfl (by omega) ?_ ?_ ?_ ?_ ?_ ?_).use (fun r => kfin _ (kseq _ (kblock 0 r)) = _) ?_
          iterate 6 simp [e1, e2, n0, nl]
          rintro e s' b' st ⟨rfl, h⟩
          cases hz : zipG f (partsV m t) v.l with
          | true => simp [hz] at h; simp [h]
          | false => simp [hz] at h; simp [h.1, h.2]
        · have nl' : ¬ (partsV m t).length = v.l.length := fun g => nl g.symm
          simp [← encT_eq, h19, hc, h28, e1, e2, n0, nl, nl']
      · simp [← encT_eq, h19, hc, h28, e1, e2, n0]


theorem c20 (m : Tm) (hm : m.ok) (hb : m.l.length ≤ 1000) (hb2 : ∀ d, d ∈ m.l → d.l.length ≤ 1000000) : ∀ (r : Nat), r ≤ m.l.length + 1 → ∀ (t : Tm), t.ok → arrM (recM m r) t ≠ 0 → ∀ v, v.ok → ∀ st,
    callD T (ev T) 20 [encT m, encT t, encV v] st = some (.bool (fArr (fRec m r) t v), st) := by
  obtain ⟨m1, m2, m4, m5, m6, m7, m3⟩ := (Tm.ok_iff m).1 hm
  intro r
  induction r with
  | zero =>
    intro hr t
    induction t using Tm.ind with
    | h t ih =>
      intro ht hne v hv st
      have hc : cellsV m t ≠ 0 := by
        have := arrM_lift m t 0 (m.l.length + 1 - 0) hne
        rw [show 0 + (m.l.length + 1 - 0) = m.l.length + 1 by omega] at this
        exact this
      obtain ⟨k1, k2, k4, k5, k6, k7, k3⟩ := (Tm.ok_iff t).1 ht
      obtain ⟨v1, v2, v3⟩ := (V.ok_iff v).1 hv
      by_cases h3 : t.k = 3
      · obtain ⟨x, hx, hn1, hn2, _⟩ := cells_arr m t hc h3
        have hp : partsV m t = List.replicate t.n.toNat x := by simp only [partsV, if_pos h3, hx]
        have hax : arrM (recM m 0) x ≠ 0 := by
          rw [arrM_eq, if_neg (by simp [h3]), if_pos h3, hx] at hne
          exact fun e => hne (by simp only [e, prod0])
        have := c20s m hm hb hb2 t ht hc (by rw [hp, List.length_replicate]; omega) v (fArr (fRec m 0)) (fun p hpp u hu st => by
          rw [hp] at hpp
          rw [(List.mem_replicate.1 hpp).2]
          exact ih x (by rw [hx]; simp) (k3 x (by rw [hx]; simp)) hax u (v3 u hu) st) st
        rw [this, fArr_eq, if_neg (by omega), if_neg (by omega), if_pos h3, hx, hp, gate, if_neg (by omega), if_neg (by omega), List.length_replicate]
        simp only
        by_cases nl : v.l.length = t.n.toNat
        · have nl' : (v.l.length : Int) = t.n := by omega
          rw [zipG_rep _ x v.l _ nl, decide_eq_true nl, decide_eq_true nl']
        · have nl' : ¬ (v.l.length : Int) = t.n := by omega
          rw [decide_eq_false nl, decide_eq_false nl']; rfl
      · by_cases h4 : t.k = 4
        · rw [arrM_eq, if_neg (by simp [h4]), if_neg h3] at hne
          split at hne
          · exact absurd rfl hne
          · exact absurd rfl hne
        · have hp : partsV m t = [] := by simp only [partsV, if_neg h3, if_neg h4]
          have := c20s m hm hb hb2 t ht hc (by rw [hp]; simp) v (fArr (fRec m 0)) (fun p hpp => by rw [hp] at hpp; cases hpp) st
          rw [this, fArr_eq, hp, gate, if_neg h3, if_neg h4]
          have hk : t.k = 1 ∨ t.k = 2 := by
            refine Classical.byContradiction fun g => hne ?_
            rw [arrM_eq, if_neg (fun q => g q.1), if_neg h3, if_neg (fun q => h4 q.1)]
          rcases hk with h1 | h1
          · cases v.l <;> simp [h1, zipG]
          · cases v.l <;> simp [h1, zipG]
  | succ r ihr =>
    intro hr t
    induction t using Tm.ind with
    | h t ih =>
      intro ht hne v hv st
      have hc : cellsV m t ≠ 0 := by
        have := arrM_lift m t (r + 1) (m.l.length + 1 - (r + 1)) hne
        rw [show (r + 1) + (m.l.length + 1 - (r + 1)) = m.l.length + 1 by omega] at this
        exact this
      obtain ⟨k1, k2, k4, k5, k6, k7, k3⟩ := (Tm.ok_iff t).1 ht
      obtain ⟨v1, v2, v3⟩ := (V.ok_iff v).1 hv
      by_cases h3 : t.k = 3
      · obtain ⟨x, hx, hn1, hn2, _⟩ := cells_arr m t hc h3
        have hp : partsV m t = List.replicate t.n.toNat x := by simp only [partsV, if_pos h3, hx]
        have hax : arrM (recM m (r + 1)) x ≠ 0 := by
          rw [arrM_eq, if_neg (by simp [h3]), if_pos h3, hx] at hne
          exact fun e => hne (by simp only [e, prod0])
        have := c20s m hm hb hb2 t ht hc (by rw [hp, List.length_replicate]; omega) v (fArr (fRec m (r + 1))) (fun p hpp u hu st => by
          rw [hp] at hpp
          rw [(List.mem_replicate.1 hpp).2]
          exact ih x (by rw [hx]; simp) (k3 x (by rw [hx]; simp)) hax u (v3 u hu) st) st
        rw [this, fArr_eq, if_neg (by omega), if_neg (by omega), if_pos h3, hx, hp, gate, if_neg (by omega), if_neg (by omega), List.length_replicate]
        simp only
        by_cases nl : v.l.length = t.n.toNat
        · have nl' : (v.l.length : Int) = t.n := by omega
          rw [zipG_rep _ x v.l _ nl, decide_eq_true nl, decide_eq_true nl']
        · have nl' : ¬ (v.l.length : Int) = t.n := by omega
          rw [decide_eq_false nl, decide_eq_false nl']; rfl
      · by_cases h4 : t.k = 4
        · obtain ⟨hx, g, _⟩ := cells_rec m t hc h4
          have g3 : t.n.toNat < m.l.length := by omega
          have hp : partsV m t = m.l[t.n.toNat].l.map partT := by rw [partsV, if_neg h3, if_pos h4, dif_pos g]
          rw [arrM_eq, if_neg (by simp [h4]), if_neg h3, if_pos ⟨h4, hx⟩, recM, dif_pos g] at hne
          split at hne
          · have hdok := (Tm.ok_iff _).1 (m3 _ (List.getElem_mem g3))
            have := c20s m hm hb hb2 t ht hc (by rw [hp, List.length_map]; exact hb2 _ (List.getElem_mem g3)) v (fArr (fRec m r)) (fun p hpp u hu st => by
              rw [hp] at hpp
              obtain ⟨p', hp', rfl⟩ := List.mem_map.1 hpp
              obtain ⟨x, hpx, hax⟩ := sumM_all _ _ _ hne p' hp'
              have hpo := (Tm.ok_iff _).1 (hdok.2.2.2.2.2.2 p' hp')
              have ep : partT p' = x := by simp [partT, hpx]
              rw [ep]
              exact ihr (by omega) x (hpo.2.2.2.2.2.2 x (by rw [hpx]; simp)) hax u (v3 u hu) st) st
            rw [this, fArr_eq, if_neg (by omega), if_neg (by omega), if_neg h3, if_pos h4, fRec, dif_pos g, hp, gate, if_neg (by omega), if_neg (by omega), List.length_map, zipG_map]
          · exact absurd rfl hne
        · have hp : partsV m t = [] := by simp only [partsV, if_neg h3, if_neg h4]
          have := c20s m hm hb hb2 t ht hc (by rw [hp]; simp) v (fArr (fRec m (r + 1))) (fun p hpp => by rw [hp] at hpp; cases hpp) st
          rw [this, fArr_eq, hp, gate, if_neg h3, if_neg h4]
          have hk : t.k = 1 ∨ t.k = 2 := by
            refine Classical.byContradiction fun g => hne ?_
            rw [arrM_eq, if_neg (fun q => g q.1), if_neg h3, if_neg (fun q => h4 q.1)]
          rcases hk with h1 | h1
          · cases v.l <;> simp [h1, zipG]
          · cases v.l <;> simp [h1, zipG]

end Go.Nt.Va
