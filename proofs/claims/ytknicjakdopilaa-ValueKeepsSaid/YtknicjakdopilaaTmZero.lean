/-
  ZERO VALUES: the walks of 'Zero' (package value), of its closure, and of the reference's.
-/
import Derived.Test.YtknicjakdopilaaTmEq
import Derived.Test.YtknicjakdopilaaVaLaw
set_option linter.unusedSimpArgs false
namespace Go.Nt.Va
open Go Go.Nt

/-- The zero value of an array, given those of records. -/
def zArr (rec : Int → V) : Tm → V
  | .mk k n _ _ l _ _ => if k = 3 then (match l with | [x] => .mk 0 .nil (List.replicate n.toNat (zArr rec x)) | _ => V0) else if k = 4 then rec n else V0

theorem zArr_eq (rec : Int → V) (t : Tm) : zArr rec t = if t.k = 3 then (match t.l with | [x] => .mk 0 .nil (List.replicate t.n.toNat (zArr rec x)) | _ => V0) else if t.k = 4 then rec t.n else V0 := by
  cases t with
  | mk k n s fl l a b =>
    match l with
    | [] => simp [zArr, Tm.k, Tm.n, Tm.l]; rfl
    | [x] => simp [zArr, Tm.k, Tm.n, Tm.l]; rfl
    | x :: y :: l => simp [zArr, Tm.k, Tm.n, Tm.l]; rfl

def partT (p : Tm) : Tm := p.l.headD default

def zRec (m : Tm) : Nat → Int → V
  | 0, _ => V0
  | r + 1, n => if h : 0 ≤ n ∧ n < m.l.length then .mk 0 .nil ((m.l[n.toNat]'(by omega)).l.map fun p => zArr (zRec m r) (partT p)) else V0

/-- The closure's own box. -/
abbrev zOb (m : Tm) : Ob := .cells true 1 0 1 false [.fn 27 [] [.hp 0 0 1 0 0, .iptr (encT m)]]

theorem l27a (m t x : Tm) (z : V) (st : St) (hst : St.at st 0 = zOb m) (hl : 0 < st.length) (hx : t.l = [x]) (hn : 1 ≤ t.n ∧ t.n ≤ 16)
    (hc : ∀ st', St.at st' 0 = zOb m → 0 < st'.length → callD T (ev T) 27 [encT x, .hp 0 0 1 0 0, .iptr (encT m)] st' = some (encV z, st')) :
    ∀ (r i : Nat) (s : List D) (bx : List (Nat × List D)), (r : Int) = t.n - i → (i : Int) ≤ t.n → get s 1 = .hp 0 0 1 0 0 → get s 3 = .lp 3 1 0 → getB bx 3 = (1, clT t) → get s 4 = .lp 4 1 0 → getB bx 4 = (1, [.int .i64 0, .nils]) → get s 5 = .lp 5 1 0 →
    getB bx 5 = (1, [.int .i64 0, (grownA st (seed 2 .nil) 2 (List.replicate i (encV z))).1]) → get s 13 = .int .i64 t.n → get s 14 = .int .i64 i →
    Stops (lp T L27_0 ⟨⟨s, bx⟩, (grownA st (seed 2 .nil) 2 (List.replicate i (encV z))).2⟩) fun e s' b' st' => e = .exit 1 ∧ st' = (grownA st (seed 2 .nil) 2 (List.replicate t.n.toNat (encV z))).2 ∧ get s' 4 = .lp 4 1 0 ∧ get s' 5 = .lp 5 1 0 ∧
      getB b' 4 = (1, [.int .i64 0, .nils]) ∧ getB b' 5 = (1, [.int .i64 0, (grownA st (seed 2 .nil) 2 (List.replicate t.n.toNat (encV z))).1]) := by
  intro r
  induction r with
  | zero =>
    intro i s bx hr hi h1 h3 b3 h4 b4 h5 b5 h13 h14
    have e : t.n = i := by omega
    have e2 : t.n.toNat = i := by omega
    rw [lp_kL, L27_0, e2]
    simp [h1, h3, b3, h4, b4, h5, b5, h13, h14, e]
  | succ r ihr =>
    intro i s bx hr hi h1 h3 b3 h4 b4 h5 b5 h13 h14
    have hlt : (i : Int) < t.n := by omega
    have hw : IntKind.wrap .i64 ((i : Int) + 1) = i + 1 := by rw [wrap64] <;> omega
    have a0 : St.at (grownA st (seed 2 .nil) 2 (List.replicate i (encV z))).2 0 = zOb m := by rw [at_grownA _ _ _ _ _ hl, hst]
    have c0 := hc (grownA st (seed 2 .nil) 2 (List.replicate i (encV z))).2 a0 (by cases i <;> simp [grownA, List.replicate_succ, hl])
    have gr := growA st .nil 2 (List.replicate i (encV z)) (encV z) (by simp; omega)
    have nx := ihr (i + 1)
    rw [List.replicate_succ'] at nx
    rw [lp_kL, L27_0]
    simp [h1, h3, b3, h4, b4, h5, b5, h13, h14, hlt, hw, hx, a0, srcD, listD, ← encT_eq, ← encV_eq, c0, gr]
    rw [← L27_0]
    refine nx _ _ (by omega) (by omega) ?_ ?_ ?_ ?_ ?_ ?_ ?_ ?_ ?_
    iterate 9 simp [h1, h3, b3, h4, b4, h5, h13]


theorem l27b (m d : Tm) (z : Tm → V) (st : St) (hst : St.at st 0 = zOb m) (hl : 0 < st.length) (hd : d.l.length ≤ 1000000)
    (hc : ∀ p, p ∈ d.l → ∃ x, p.l = [x] ∧ ∀ st', St.at st' 0 = zOb m → 0 < st'.length → callD T (ev T) 27 [encT x, .hp 0 0 1 0 0, .iptr (encT m)] st' = some (encV (z p), st')) :
    ∀ (r i : Nat) (s : List D) (bx : List (Nat × List D)), r = d.l.length - i → i ≤ d.l.length → get s 1 = .hp 0 0 1 0 0 → get s 4 = .lp 4 1 0 → getB bx 4 = (1, [.int .i64 0, .nils]) → get s 5 = .lp 5 1 0 →
    getB bx 5 = (1, [.int .i64 0, (grownA st (seed 2 .nil) 2 (encVs ((d.l.map z).take i))).1]) → get s 36 = slE 6 d.fl (encTs d.l) → get s 37 = .i d.l.length → get s 38 = .int .i64 i →
    Stops (lp T L27_1 ⟨⟨s, bx⟩, (grownA st (seed 2 .nil) 2 (encVs ((d.l.map z).take i))).2⟩) fun e s' b' st' => e = .exit 3 ∧ st' = (grownA st (seed 2 .nil) 2 (encVs (d.l.map z))).2 ∧ get s' 4 = .lp 4 1 0 ∧ get s' 5 = .lp 5 1 0 ∧
      getB b' 4 = (1, [.int .i64 0, .nils]) ∧ getB b' 5 = (1, [.int .i64 0, (grownA st (seed 2 .nil) 2 (encVs (d.l.map z))).1]) := by
  intro r
  induction r with
  | zero =>
    intro i s bx hr hi h1 h4 b4 h5 b5 h36 h37 h38
    have e : i = d.l.length := by omega
    subst e
    have q : (d.l.map z).take d.l.length = d.l.map z := List.take_of_length_le (by simp)
    rw [q] at b5 ⊢
    rw [lp_kL, L27_1]
    simp [h1, h4, b4, h5, b5, h36, h37, h38]
  | succ r ihr =>
    intro i s bx hr hi h1 h4 b4 h5 b5 h36 h37 h38
    have hlt : i < d.l.length := by omega
    have hw : IntKind.wrap .i64 ((i : Int) + 1) = i + 1 := by rw [wrap64] <;> omega
    obtain ⟨x, hx, hcx⟩ := hc _ (List.getElem_mem hlt)
    have a0 : St.at (grownA st (seed 2 .nil) 2 (encVs ((d.l.map z).take i))).2 0 = zOb m := by rw [at_grownA _ _ _ _ _ hl, hst]
    have c0 := hcx (grownA st (seed 2 .nil) 2 (encVs ((d.l.map z).take i))).2 a0 (by
      cases encVs ((d.l.map z).take i) <;> simp [grownA, hl])
    have gr := growA st .nil 2 (encVs ((d.l.map z).take i)) (encV (z d.l[i])) (by simp; omega)
    have nx := ihr (i + 1)
    have q : encVs ((d.l.map z).take (i + 1)) = encVs ((d.l.map z).take i) ++ [encV (z d.l[i])] := by
      rw [List.take_succ_eq_append_getElem (by simpa using hlt), encVs_append]; simp
    rw [q] at nx
    rw [lp_kL, L27_1]
    simp [h1, h4, b4, h5, b5, h36, h37, h38, hlt, hw, hx, a0, srcD, listD, ← encT_eq, ← encV_eq, c0, gr]
    rw [← L27_1]
    refine nx _ _ (by omega) (by omega) ?_ ?_ ?_ ?_ ?_ ?_ ?_ ?_
    iterate 8 simp [h1, h4, b4, h5, h36, h37]


theorem fzV (st : St) (l : List V) : fz (grownA st (seed 2 .nil) 2 (encVs l)).2 (.agg [.int .i64 0, (grownA st (seed 2 .nil) 2 (encVs l)).1]) = some (encV (.mk 0 .nil l), grownAZ st 2 (encVs l)) := by
  simp [encV, Fl.grew]

theorem c27a (m : Tm) (rec : Int → Int) (zr : Int → V)
    (hR : ∀ t, t.ok → t.k = 4 → t.l = [] → rec t.n ≠ 0 → ∀ st, St.at st 0 = zOb m → 0 < st.length → callD T (ev T) 27 [encT t, .hp 0 0 1 0 0, .iptr (encT m)] st = some (encV (zr t.n), st)) (t : Tm) :
    t.ok → arrM rec t ≠ 0 → ∀ st, St.at st 0 = zOb m → 0 < st.length → callD T (ev T) 27 [encT t, .hp 0 0 1 0 0, .iptr (encT m)] st = some (encV (zArr zr t), st) := by
  induction t using Tm.ind with
  | h t ih =>
    intro ht hne st hst hl
    obtain ⟨k1, k2, k4, k5, k6, k7, k3⟩ := (Tm.ok_iff t).1 ht
    rw [arrM_eq] at hne
    by_cases h3 : t.k = 3
    · rw [if_neg (by simp [h3]), if_pos h3] at hne
      match hx : t.l with
      | [] => rw [hx] at hne; exact absurd rfl hne
      | x :: y :: l => rw [hx] at hne; exact absurd rfl hne
      | [x] =>
        rw [hx] at hne
        simp only at hne
        have hax : arrM rec x ≠ 0 := fun e => hne (by rw [e, prod0])
        have hn : 1 ≤ t.n ∧ t.n ≤ 16 := by
          unfold prod at hne
          refine Classical.byContradiction fun g => hne (if_pos ?_)
          omega
        have e : zArr zr t = .mk 0 .nil (List.replicate t.n.toNat (zArr zr x)) := by rw [zArr_eq, if_pos h3, hx]
        have er : encVs (List.replicate t.n.toNat (zArr zr x)) = List.replicate t.n.toNat (encV (zArr zr x)) := by rw [encVs_map, List.map_replicate]
        rw [e]
        refine callD_pop (fn := F27) rfl rfl (by simp) ?_ (fzV st _) (by simp) (by simp)
        rw [ev_eq 27 F27 rfl, F27, er]
        simp [h3, hx]
        refine (l27a m t x (zArr zr x) st hst hl hx hn (fun st' g1 g2 => ih x (by rw [hx]; simp) (k3 x (by rw [hx]; simp)) hax st' g1 g2) t.n.toNat 0 _ _ (by omega) (by omega) ?_ ?_ ?_ ?_ ?_ ?_ ?_ ?_ ?_).use (fun r => kfin _ (kseq _ (kblock 0 (kblock 1 r))) = _) ?_
        iterate 9 simp [h3, hx, seed]
        rintro e s' b' st ⟨rfl, rfl, q4, q5, p4, p5⟩
        simp [q4, q5, p4, p5]
    · by_cases h4 : t.k = 4
      · have hx : t.l = [] := by
          refine Classical.byContradiction fun g => hne ?_
          rw [if_neg (by simp [h4]), if_neg h3, if_neg (by simp [g])]
        rw [if_neg (by simp [h4]), if_neg h3, if_pos ⟨h4, hx⟩] at hne
        rw [zArr_eq, if_neg h3, if_pos h4]
        exact hR t ht h4 hx hne st hst hl
      · rw [zArr_eq, if_neg h3, if_neg h4]
        refine callD_pop (fn := F27) (r := encV V0) (st1 := st) (st2 := st) rfl rfl (by simp) ?_ (by simp) (by simp) (by simp)
        rw [ev_eq 27 F27 rfl, F27]
        simp [h3, h4, encV_V0]


theorem sumM_all (f : Tm → Int) (l : List Tm) (acc : Int) (h : sumM f l acc ≠ 0) (p : Tm) (hp : p ∈ l) : ∃ x, p.l = [x] ∧ f x ≠ 0 := by
  have : ∃ x, p.l = [x] := by
    have hs : l.all shapedP = true := by
      cases g : l.all shapedP with
      | true => rfl
      | false => exact absurd (sumM_bad f l acc g) h
    have := List.all_eq_true.1 hs p hp
    simp [shapedP] at this
    exact List.length_eq_one_iff.1 this.2
  obtain ⟨x, hx⟩ := this
  exact ⟨x, hx, sumM_ne f l acc h p x hp hx⟩

theorem c27 (m : Tm) (hm : m.ok) (hb2 : ∀ d, d ∈ m.l → d.l.length ≤ 1000000) : ∀ (r : Nat) (t : Tm), t.ok → arrM (recM m r) t ≠ 0 → ∀ st, St.at st 0 = zOb m → 0 < st.length →
    callD T (ev T) 27 [encT t, .hp 0 0 1 0 0, .iptr (encT m)] st = some (encV (zArr (zRec m r) t), st) := by
  obtain ⟨m1, m2, m4, m5, m6, m7, m3⟩ := (Tm.ok_iff m).1 hm
  intro r
  induction r with
  | zero => exact fun t => c27a m _ _ (fun t _ _ _ hne => absurd rfl hne) t
  | succ r ihr =>
    refine fun t => c27a m _ _ (fun t ht h4 hx hne st hst hl => ?_) t
    rw [recM] at hne
    split at hne
    · next g =>
      have g3 : t.n.toNat < m.l.length := by omega
      have g1 : ¬ t.n < 0 := by omega
      split at hne
      · next hk =>
        have hdok := (Tm.ok_iff _).1 (m3 _ (List.getElem_mem g3))
        have e : zRec m (r + 1) t.n = .mk 0 .nil (m.l[t.n.toNat].l.map fun p => zArr (zRec m r) (partT p)) := by rw [zRec, dif_pos g]
        rw [e]
        refine callD_pop (fn := F27) rfl rfl (by simp) ?_ (fzV st _) (by simp) (by simp)
        rw [ev_eq 27 F27 rfl, F27]
        simp [h4, hx, g1, g3]
        refine (l27b m m.l[t.n.toNat] (fun p => zArr (zRec m r) (partT p)) st hst hl (hb2 _ (List.getElem_mem g3)) (fun p hp => ?_) _ 0 _ _ rfl (by omega) ?_ ?_ ?_ ?_ ?_ ?_ ?_ ?_).use (fun r => kfin _ (kseq _ (kblock 0 (kblock 3 r))) = _) ?_
        · obtain ⟨x, hpx, hax⟩ := sumM_all _ _ _ hne p hp
          have hpo := (Tm.ok_iff _).1 (hdok.2.2.2.2.2.2 p hp)
          have ep : partT p = x := by simp [partT, hpx]
          exact ⟨x, hpx, fun st' g1 g2 => by rw [ep]; exact ihr x (hpo.2.2.2.2.2.2 x (by rw [hpx]; simp)) hax st' g1 g2⟩
        iterate 8 simp [h4, hx, seed]
        rintro e s' b' st ⟨rfl, rfl, q4, q5, p4, p5⟩
        simp [q4, q5, p4, p5]
      · exact absurd rfl hne
    · exact absurd rfl hne

/-- A type's zero value. -/
def zeroV (m t : Tm) : V := if cellsV m t = 0 then V0 else zArr (zRec m (m.l.length + 1)) t

theorem c16 (m t : Tm) (hm : m.ok) (ht : t.ok) (hb : m.l.length ≤ 1000000) (hb2 : ∀ d, d ∈ m.l → d.l.length ≤ 1000000) (st : St) : callD T (ev T) 16 [encT m, encT t] st = some (encV (zeroV m t), st) := by
  have h26 := c26 m t hm hb ht []
  unfold zeroV
  by_cases h : cellsV m t = 0
  · rw [if_pos h]
    refine callD_pure (fn := F16) (r := encV V0) (st1 := []) (st2 := []) rfl rfl (by simp) ?_ (by simp) (by simp)
    rw [ev_eq 16 F16 rfl, F16]
    simp [← encT_eq, h26, h, encV_V0]
  · rw [if_neg h]
    have h27 := c27 m hm hb2 (m.l.length + 1) t ht h [zOb m] rfl (by simp)
    refine callD_pure (fn := F16) (r := encV (zArr (zRec m (m.l.length + 1)) t)) (st1 := [zOb m]) (st2 := [zOb m]) rfl rfl (by simp) ?_ (by simp) (by simp)
    rw [ev_eq 16 F16 rfl, F16]
    simp [← encT_eq, ← encV_eq, h26, h, h27, kHs, rewrap]

end Go.Nt.Va
