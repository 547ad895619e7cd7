/-
  PARTS OF ZERO VALUES, SET: the walk of the law ValueKeeps.
-/
import Derived.Test.YtknicjakdopilaaTmLaw
set_option linter.unusedSimpArgs false
namespace Go.Nt.Va
open Go Go.Nt

@[simp] theorem slim_nil (v : V) : slim v [] := by cases v; trivial
theorem slim_cons (v : V) (i : Int) (w : List Int) : slim v (i :: w) ↔ v.l.length ≤ 1000000 ∧ ∀ u, u ∈ v.l → slim u w := Iff.rfl

theorem slim_V0 : ∀ w, slim V0 w
  | [] => slim_nil _
  | _ :: _ => ⟨by simp, fun u hu => by cases hu⟩

/-- What is said of a part of a type's zero value: it is 0 itself, and a number of that type may stand there. -/
def KeepP (f : V → Bool) (z : V) : Prop := ∀ w : List Int, slim z w ∧ ((getV z w).2 = true → (getV z w).1.l = [] → (getV z w).1.n = 0 ∧ ∀ n : Int, n = 0 ∨ n = 1 → f (setV z w (.mk n .nil [])).1 = true)

theorem zipF_set (f : Tm → V → Bool) (ps : List Tm) (vs : List V) (i : Nat) (y : V) (hl : vs.length = ps.length) (hi : i < ps.length) (h : zipF f ps vs = true) (hy : f (partT (ps[i]'hi)) y = true) : zipF f ps (vs.set i y) = true := by
  induction ps generalizing vs i with
  | nil => simp at hi
  | cons p ps ih =>
    match vs, hl with
    | v :: vs, hl =>
      rw [zipF, Bool.and_eq_true] at h
      match i, hi with
      | 0, _ => rw [List.set_cons_zero, zipF, h.2, Bool.and_true]; exact hy
      | i + 1, hi =>
        rw [List.set_cons_succ, zipF, h.1, Bool.true_and]
        exact ih vs i (by simpa using hl) (by simpa using hi) h.2 hy

theorem keepArr (rec : Int → Int) (zr : Int → V) (fr : Int → V → Bool)
    (hR : ∀ t : Tm, t.k = 4 → t.l = [] → rec t.n ≠ 0 → KeepP (fr t.n) (zr t.n)) (hG : ∀ t, arrM rec t ≠ 0 → fArr fr t (zArr zr t) = true) (t : Tm) :
    arrM rec t ≠ 0 → KeepP (fArr fr t) (zArr zr t) := by
  induction t using Tm.ind with
  | h t ih =>
    intro hne
    have hg := hG t hne
    rw [arrM_eq] at hne
    by_cases h3 : t.k = 3
    · rw [if_neg (by simp [h3]), if_pos h3] at hne
      match hx : t.l with
      | [] => rw [hx] at hne; exact absurd rfl hne
      | x :: y :: l => rw [hx] at hne; exact absurd rfl hne
      | [x] =>
        rw [hx] at hne
        simp only at hne
        have hax : arrM rec x ≠ 0 := fun e => hne (by rw [e, prod0])
        have hn : 1 ≤ t.n ∧ t.n ≤ 16 := by
          unfold prod at hne
          refine Classical.byContradiction fun g => hne (if_pos ?_)
          omega
        have ihx := ih x (by rw [hx]; simp) hax
        have e : zArr zr t = .mk 0 .nil (List.replicate t.n.toNat (zArr zr x)) := by rw [zArr_eq, if_pos h3, hx]
        intro w
        rw [e]
        match w with
        | [] =>
          refine ⟨slim_nil _, fun _ h => ?_⟩
          rw [getV, l_mk] at h
          have := congrArg List.length h
          rw [List.length_replicate] at this
          simp at this
          omega
        | i :: w =>
          refine ⟨(slim_cons _ _ _).2 ⟨by rw [l_mk, List.length_replicate]; omega, fun u hu => by rw [l_mk] at hu; rw [(List.mem_replicate.1 hu).2]; exact (ihx w).1⟩, ?_⟩
          intro h1 h2
          by_cases g : 0 ≤ i ∧ i < (V.mk 0 .nil (List.replicate t.n.toNat (zArr zr x))).l.length
          · rw [getV, dif_pos g] at h1 h2 ⊢
            simp only [l_mk, List.getElem_replicate] at h1 h2 ⊢
            obtain ⟨k1, k2⟩ := (ihx w).2 h1 h2
            refine ⟨k1, fun n hn01 => ?_⟩
            rw [setV, dif_pos g]
            simp only [l_mk, List.getElem_replicate]
            rw [if_pos (by rw [set_ok]; exact h1), fArr_eq, if_neg (by omega), if_neg (by omega), if_pos h3, hx]
            have : ((t.n.toNat : Nat) : Int) = t.n := by omega
            simp only [l_mk, n_mk, List.length_set, List.length_replicate, this, decide_true, Bool.true_and]
            refine List.all_eq_true.2 fun u hu => ?_
            rcases List.mem_or_eq_of_mem_set hu with hu | rfl
            · rw [(List.mem_replicate.1 hu).2]; exact hG x hax
            · exact k2 n hn01
          · rw [getV, dif_neg g] at h1; cases h1
    · by_cases h4 : t.k = 4
      · have hx : t.l = [] := by
          refine Classical.byContradiction fun g => hne ?_
          rw [if_neg (by simp [h4]), if_neg h3, if_neg (by simp [g])]
        rw [if_neg (by simp [h4]), if_neg h3, if_pos ⟨h4, hx⟩] at hne
        have e1 : fArr fr t = fr t.n := by funext v; rw [fArr_eq, if_neg (by omega), if_neg (by omega), if_neg h3, if_pos h4]
        have e2 : zArr zr t = zr t.n := by rw [zArr_eq, if_neg h3, if_pos h4]
        rw [e1, e2]
        exact hR t h4 hx hne
      · have hk : t.k = 1 ∨ t.k = 2 := by
          refine Classical.byContradiction fun g => hne ?_
          rw [if_neg (fun q => g q.1), if_neg h3, if_neg (fun q => h4 q.1)]
        have e2 : zArr zr t = V0 := by rw [zArr_eq, if_neg h3, if_neg h4]
        rw [e2]
        intro w
        refine ⟨slim_V0 w, fun h1 h2 => ?_⟩
        match w with
        | [] =>
          refine ⟨rfl, fun n hn => ?_⟩
          rw [setV, fArr_eq]
          rcases hk with hk | hk
          · simp [hk]
          · rcases hn with rfl | rfl <;> simp [hk]
        | i :: w =>
          rw [getV, dif_neg (by simp)] at h1
          cases h1

theorem keepRec (m : Tm) (hb2 : ∀ d, d ∈ m.l → d.l.length ≤ 1000000) : ∀ (r : Nat) (t : Tm), arrM (recM m r) t ≠ 0 → KeepP (fArr (fRec m r) t) (zArr (zRec m r) t) := by
  intro r
  induction r with
  | zero => exact fun t => keepArr _ _ _ (fun t _ _ hne => absurd rfl hne) (fun t h => (zRec_good m hb2 _ t h).1) t
  | succ r ihr =>
    refine fun t => keepArr _ _ _ (fun t h4 hx hne => ?_) (fun t h => (zRec_good m hb2 _ t h).1) t
    rw [recM] at hne
    split at hne
    · next g =>
      have g3 : t.n.toNat < m.l.length := by omega
      split at hne
      · have hd := hb2 _ (List.getElem_mem g3)
        have all : ∀ p, p ∈ m.l[t.n.toNat].l → fArr (fRec m r) (partT p) (zArr (zRec m r) (partT p)) = true ∧ KeepP (fArr (fRec m r) (partT p)) (zArr (zRec m r) (partT p)) := by
          intro p hp
          obtain ⟨x, hpx, hax⟩ := sumM_all _ _ _ hne p hp
          have ep : partT p = x := by simp [partT, hpx]
          rw [ep]; exact ⟨(zRec_good m hb2 r x hax).1, ihr x hax⟩
        have h0 : m.l[t.n.toNat].l ≠ [] := fun e => hne (by rw [e]; rfl)
        have e1 : fRec m (r + 1) t.n = fun v => decide (v.n = 0) && (decide (v.l.length = m.l[t.n.toNat].l.length) && zipF (fArr (fRec m r)) m.l[t.n.toNat].l v.l) := by funext v; rw [fRec, dif_pos g]
        have e2 : zRec m (r + 1) t.n = .mk 0 .nil (m.l[t.n.toNat].l.map fun p => zArr (zRec m r) (partT p)) := by rw [zRec, dif_pos g]
        rw [e1, e2]
        generalize m.l[t.n.toNat].l = ps at all h0 hd
        intro w
        match w with
        | [] =>
          refine ⟨slim_nil _, fun _ h => ?_⟩
          rw [getV, l_mk] at h
          exact absurd (List.map_eq_nil_iff.1 h) h0
        | i :: w =>
          refine ⟨(slim_cons _ _ _).2 ⟨by rw [l_mk, List.length_map]; exact hd, fun u hu => ?_⟩, ?_⟩
          · rw [l_mk] at hu
            obtain ⟨p, hp, rfl⟩ := List.mem_map.1 hu
            exact ((all p hp).2 w).1
          intro h1 h2
          by_cases gi : 0 ≤ i ∧ i < (V.mk 0 .nil (ps.map fun p => zArr (zRec m r) (partT p))).l.length
          · have gi' : i.toNat < ps.length := by have := gi.2; rw [l_mk, List.length_map] at this; omega
            rw [getV, dif_pos gi] at h1 h2 ⊢
            simp only [l_mk, List.getElem_map] at h1 h2 ⊢
            obtain ⟨k1, k2⟩ := ((all _ (List.getElem_mem gi')).2 w).2 h1 h2
            refine ⟨k1, fun n hn01 => ?_⟩
            rw [setV, dif_pos gi]
            simp only [l_mk, List.getElem_map]
            rw [if_pos (by rw [set_ok]; exact h1)]
            simp only [l_mk, n_mk, List.length_set, List.length_map, decide_true, Bool.true_and]
            exact zipF_set _ _ _ _ _ (by rw [List.length_map]) gi' (zipF_map _ _ _ fun p hp => (all p hp).1) (k2 n hn01)
          · rw [getV, dif_neg gi] at h1; cases h1
      · exact absurd rfl hne
    · exact absurd rfl hne

theorem keep_law (m t : Tm) (hb2 : ∀ d, d ∈ m.l → d.l.length ≤ 1000000) (w : List Int) : slim (zeroV m t) w ∧
    (cellsV m t ≠ 0 → (getV (zeroV m t) w).2 = true → (getV (zeroV m t) w).1.l = [] → (getV (zeroV m t) w).1.n = 0 ∧ ∀ n : Int, n = 0 ∨ n = 1 → fitsV m t (setV (zeroV m t) w (.mk n .nil [])).1 = true) := by
  unfold zeroV fitsV
  by_cases h : cellsV m t = 0
  · rw [if_pos h]
    exact ⟨slim_V0 w, fun g => absurd h g⟩
  · simp only [if_neg h]
    obtain ⟨a, b⟩ := keepRec m hb2 (m.l.length + 1) t h w
    exact ⟨a, fun _ => b⟩

theorem ev5 (m t : Tm) (fl : Fl) (w : List Int) (n : Int) (hm : m.ok) (ht : t.ok) (hn : in64 n) : ev T 5 [.agg (clT m ++ clT t ++ [slE 1 fl (encW w), .int .i64 n])] [] = some (.bool true, []) := by
  obtain ⟨bm, l1, m1⟩ := c15 m hm []
  obtain ⟨bt, l2, m2⟩ := c15 t ht []
  have a7 := c7 []
  rw [ev_eq 5 F5 rfl, F5]
  cases bm with
  | true => simp [← encV_eq, ← encT_eq, l1, a7]
  | false =>
    cases bt with
    | true => simp [← encV_eq, ← encT_eq, l1, l2, a7]
    | false =>
      by_cases hw : (100 : Int) < w.length
      · simp [← encV_eq, ← encT_eq, l1, l2, a7, hw]
      · have hc := m1 rfl
        rw [cntT_eq] at hc
        have hb : m.l.length ≤ 1000 := by have := cntTs_len m.l; omega
        have hb2 : ∀ d, d ∈ m.l → d.l.length ≤ 1000000 := fun d hd => by have := cntTs_mem hd; have := cntT_eq d; have := cntTs_len d.l; omega
        have k16 := c16 m t hm ht (by omega) hb2 []
        have zo := zero_ok m t hb2
        have k8 := c8 w (by omega) fl (zeroV m t) []
        have k19 := c19 m t hm hb ht []
        rw [cells_eq] at k19
        obtain ⟨sl, law⟩ := keep_law m t hb2 w
        cases hg : (getV (zeroV m t) w).2 with
        | false => simp [← encV_eq, ← encT_eq, l1, l2, a7, hw, k16, k8, hg]
        | true =>
          cases hl : (getV (zeroV m t) w).1.l with
          | cons u l => simp [← encV_eq, ← encT_eq, l1, l2, a7, hw, k16, k8, hg, hl]
          | nil =>
            by_cases hz : cellsV m t = 0
            · simp [← encV_eq, ← encT_eq, l1, l2, a7, hw, k16, k8, hg, hl, k19, hz]
            · obtain ⟨w0, wf⟩ := law hz hg hl
              have yo := set_good (.mk n .nil []) ((V.ok_iff _).2 ⟨hn, by simp, fun u hu => by cases hu⟩) w _ zo
              have k9 := c9s (.mk n .nil []) w (zeroV m t) fl [] sl
              have e0 : encV (.mk n .nil []) = .agg [.int .i64 n, .nils] := by simp [encV, slE]
              rw [e0] at k9
              have k18 := c18 m t _ hm ht yo (by omega) hb2 []
              have k20 := d20 m t _ hm ht yo hb hb2 []
              have k14 := c14 _ yo (zeroV m t) []
              have es : same (setV (zeroV m t) w (.mk n .nil [])).1 (zeroV m t) = decide (n = 0) := by
                rw [set_was _ w _ hg, same_eq, hl, w0]
                simp only [n_mk, l_mk, sames_refl, Bool.and_true]
                rfl
              rw [es] at k14
              by_cases n0 : n = 0
              · rw [wf n (Or.inl n0)] at k18
                subst n0
                simp [← encV_eq, ← encT_eq, l1, l2, a7, hw, k16, k8, hg, hl, k19, hz, k9, k18, k20, k14]
              · by_cases n1 : n = 1
                · rw [wf n (Or.inr n1)] at k18
                  subst n1
                  simp [← encV_eq, ← encT_eq, l1, l2, a7, hw, k16, k8, hg, hl, k19, hz, k9, k18, k20, k14, n0]
                · cases hf : fitsV m t (setV (zeroV m t) w (.mk n .nil [])).1 with
                  | true =>
                    rw [hf] at k18
                    simp [← encV_eq, ← encT_eq, l1, l2, a7, hw, k16, k8, hg, hl, k19, hz, k9, k18, k20, k14, n0]
                  | false =>
                    rw [hf] at k18 k20
                    simp [← encV_eq, ← encT_eq, l1, l2, a7, hw, k16, k8, hg, hl, k19, hz, k9, k18, k20, k14, n0, n1]

end Go.Nt.Va
