/-
  RIGHT MODULES BY THE REFERENCE, walked (11): blocks, parts.
  No condition.
-/
import Derived.Test.YtgmjghgpcjjeeaaGreatRlWa
set_option linter.unusedSimpArgs false
set_option maxRecDepth 20000
namespace Go.Nt.Ty
open Go Go.Nt

variable {m ret : Tm} {locs : List Tm}

theorem onlyE_err {t : Tm} {a b x y : Int} (h : onlyE m locs t a b = .error (x, y)) : y ≠ 0 := by
  unfold onlyE at h
  split at h
  · next e => cases h; exact ofE_err _ _ _ e
  · split at h <;> cases h; simp
theorem exprE_err {k : Int} {t : Tm} {x y : Int} (h : exprE m ret locs k t = .error (x, y)) : y ≠ 0 := by
  unfold exprE at h
  split at h
  · split at h <;> cases h; simp
  split at h
  · exact onlyE_err h
  split at h
  · exact onlyE_err h
  split at h
  · exact onlyE_err h
  split at h
  · cases h; simp
  split at h
  · next e => cases h; exact ofE_err _ _ _ e
  · split at h <;> cases h; simp

mutual
  theorem stmtE_err : ∀ (t : Tm) (locs : List Tm) (x y : Int), stmtE m ret locs t = .error (x, y) → y ≠ 0
    | .mk k n s fl l a b, locs, x, y, h => by
      rw [stmtE] at h
      split at h
      · cases h; simp
      split at h
      · split at h
        · next e => cases h; exact blkE_err l _ _ _ e
        · cases h
      split at h
      · next e => cases h; exact prtsE_err l _ _ _ _ _ _ e
      split at h
      · cases h; simp
      split at h
      · cases h; simp
      · cases h
  theorem blkE_err : ∀ (l : List Tm) (locs : List Tm) (x y : Int), blkE m ret locs l = .error (x, y) → y ≠ 0
    | [], locs, x, y, h => by rw [blkE] at h; cases h
    | t :: l, locs, x, y, h => by
      rw [blkE] at h
      split at h
      · next e => cases h; exact stmtE_err t _ _ _ e
      split at h
      · next e => cases h; exact blkE_err l _ _ _ e
      · cases h
  theorem prtsE_err : ∀ (l : List Tm) (locs : List Tm) (k f i : Int) (x y : Int), prtsE m ret locs k f i l = .error (x, y) → y ≠ 0
    | [], locs, k, f, i, x, y, h => by rw [prtsE] at h; cases h
    | .mk xk xn xs xfl xl xa xb :: l, locs, k, f, i, x, y, h => by
      rw [prtsE] at h
      split at h
      · next e =>
        cases h
        split at e
        · split at e
          · next e2 => cases e; exact blkE_err xl _ _ _ e2
          · cases e
        · exact exprE_err e
      split at h
      · next e => cases h; exact prtsE_err l _ _ _ _ _ _ e
      · cases h
end

/-- A block's settled form. -/
def blockE (m ret : Tm) (locs : List Tm) (t : Tm) : Er Tm := match blkE m ret locs t.l with
  | .error e => .error e
  | .ok ss => .ok (.mk t.k t.n [] .emp ss 0 0)

def z8 : List D := [.int .i64 0, .int .i64 0, .str [], .nils, .int .i64 0, .int .i64 0, .int .i64 0, .int .i64 0]
def Q195 (t : Tm) (R : Er (List Tm)) (ss : List Tm) (e : Ex) (_ : List D) (b' : List (Nat × List D)) (st' : St) : Prop :=
  match R with
  | .error (x, y) => e = .ret ∧ getB b' 8 = (1, [.int .i64 0, .int .i64 0, .str [], .nils, .int .i64 0, .int .i64 0, .int .i64 x, .int .i64 y])
  | .ok ss' => e = .exit 0 ∧ getB b' 8 = (1, z8) ∧ ∃ L, getB b' 9 = (1, [.int .i64 t.k, .int .i64 t.n, .str [], L, .int .i64 0, .int .i64 0]) ∧ RawE st' L (ss ++ ss')

theorem brings_good (gm : good m) (gl : ∀ t, t ∈ locs → good t) (t : Tm) (gt : good t) : (∀ u, u ∈ bringsE m locs t → good u) ∧ (bringsE m locs t).length ≤ locs.length + 1 := by
  unfold bringsE
  have gh : good (t.l.headD T0) := good_head fun u hu => good_mem gt hu
  split
  · refine ⟨fun u hu => ?_, by simp⟩
    rcases List.mem_append.1 hu with q | q
    · exact gl u q
    · rw [List.mem_singleton] at q
      subst q
      split
      · next e => exact (ofE_good gm gl _ gh _ _ e).1
      · exact good_0
  split
  · refine ⟨fun u hu => ?_, by simp⟩
    rcases List.mem_append.1 hu with q | q
    · exact gl u q
    · rw [List.mem_singleton] at q; subst q; exact gh
  · exact ⟨gl, by omega⟩

theorem l195 (gm : good m) (hb : m.l.length ≤ 1000) (t : Tm) (gt : good t) (hct : cntT t < 900000)
    (hc : ∀ u, u ∈ t.l → ∀ (locs : List Tm) (fl : Fl) (st : St), (∀ v, v ∈ locs → good v) → locs.length + cntT u ≤ 900000 → callD T (ev T) 242 [encT m, slE 6 fl (encTs locs), encT ret, encT u] st = some (got8 (stmtE m ret locs u), st)) :
    ∀ (r i : Nat) (s : List D) (bx : List (Nat × List D)) (st : St) (locs : List Tm) (fl : Fl) (L : D) (ss : List Tm), r = t.l.length - i → i ≤ t.l.length → (∀ v, v ∈ locs → good v) → locs.length + cntTs (t.l.drop i) ≤ 900000 → RawE st L ss → ss.length = i →
      get s 4 = .lp 4 1 0 → getB bx 4 = (1, clT m) → get s 1 = slE 6 fl (encTs locs) → get s 6 = .lp 6 1 0 → getB bx 6 = (1, clT ret) → get s 7 = .lp 7 1 0 → getB bx 7 = (1, clT t) → get s 8 = .lp 8 1 0 → getB bx 8 = (1, z8) → get s 9 = .lp 9 1 0 →
      getB bx 9 = (1, [.int .i64 t.k, .int .i64 t.n, .str [], L, .int .i64 0, .int .i64 0]) → get s 10 = .int .i64 i →
    Stops (lp T L195_0 ⟨⟨s, bx⟩, st⟩) fun e s' b' st' => Q195 t (blkE m ret locs (t.l.drop i)) ss e s' b' st' := by
  intro r
  induction r with
  | zero =>
    intro i s bx st locs fl L ss hr hi gl hl R n h4 b4 h1 h6 b6 h7 b7 h8 b8 h9 b9 h10
    have e : i = t.l.length := by omega
    refine Stops_wp L195_0.eq_1 ?_
    rw [e, List.drop_length, blkE]
    simp [h7, b7, h10, e, Q195, b8]
    exact ⟨L, b9, R⟩
  | succ r ihr =>
    intro i s bx st locs fl L ss hr hi gl hl R n h4 b4 h1 h6 b6 h7 b7 h8 b8 h9 b9 h10
    have hlt : i < t.l.length := by omega
    have htl := good_len gt
    have hw : IntKind.wrap .i64 ((i : Int) + 1) = ((i + 1 : Nat) : Int) := by rw [wrap64] <;> omega
    have gti := good_mem gt (List.getElem_mem hlt)
    have hcm := cntTs_mem (List.getElem_mem hlt)
    have hct' := cntT_eq t
    have ed : t.l.drop i = t.l[i] :: t.l.drop (i + 1) := List.drop_eq_getElem_cons hlt
    rw [ed, cntTs] at hl
    have q := hc _ (List.getElem_mem hlt) locs fl st gl (by omega)
    rw [ed, blkE]
    refine Stops_wp L195_0.eq_1 ?_
    cases hO : stmtE m ret locs t.l[i] with
    | error v =>
      obtain ⟨x, y⟩ := v
      have hy := stmtE_err _ _ _ _ hO
      rw [hO] at q
      simp [got8] at q
      simp [h4, b4, h1, h6, b6, h7, b7, h8, b8, h9, b9, h10, hlt, ← encT_eq m, ← encT_eq ret, ← encT_eq t.l[i], q, hy, Q195, splice, z8, -Int.natCast_add]
    | ok sf =>
      rw [hO] at q
      simp [got8] at q
      obtain ⟨M, st1, p1, S, g1, o1, d1⟩ := R.app (by omega) sf
      obtain ⟨fl', q2⟩ := c122 gm hb gl (by omega) fl t.l[i] gti (by omega) st1
      obtain ⟨gl', hl'⟩ := brings_good gm gl t.l[i] gti
      have hc1 : 1 ≤ cntT t.l[i] := by have := cntT_eq t.l[i]; omega
      have nx := fun s' bx' => ihr (i + 1) s' bx' st1 (bringsE m locs t.l[i]) fl' M (ss ++ [sf]) (by omega) (by omega) gl' (by omega) S (by simp; omega)
      obtain ⟨x1, x2, x3, x4⟩ := R.facts
      obtain ⟨y1, y2, y3, y4⟩ := S.facts
      have cv : ∀ e s' b' st', Q195 t (blkE m ret (bringsE m locs t.l[i]) (t.l.drop (i + 1))) (ss ++ [sf]) e s' b' st' → Q195 t (match blkE m ret (bringsE m locs t.l[i]) (t.l.drop (i + 1)) with
          | .error e => .error e
          | .ok ss => .ok (sf :: ss)) ss e s' b' st' := by
        intro e s' b' st' h
        cases hR : blkE m ret (bringsE m locs t.l[i]) (t.l.drop (i + 1)) with
        | error v => rw [hR] at h; exact h
        | ok v => rw [hR] at h; obtain ⟨h1, h1', L', h2, h3⟩ := h; exact ⟨h1, h1', L', h2, by simpa using h3⟩
      simp only
      generalize hG : Q195 t (match blkE m ret (bringsE m locs t.l[i]) (t.l.drop (i + 1)) with
          | .error e => .error e
          | .ok ss => .ok (sf :: ss)) ss = G at *
      simp [h4, b4, h1, h6, b6, h7, b7, h8, b8, h9, b9, h10, hlt, hw, ← encT_eq m, ← encT_eq ret, ← encT_eq t.l[i], ← encT_eq sf, q, p1, q2, x1, x2, x3, y1, y2, y3, splice, -Int.natCast_add]
      refine Stops.mono (nx _ _ ?_ ?_ ?_ ?_ ?_ ?_ ?_ ?_ ?_ ?_ ?_ ?_) (fun e s' b' st' h => cv e s' b' st' h)
      all_goals simp [h4, b4, h1, h6, b6, h7, b7, h8, b8, h9]

theorem c195 (gm : good m) (hb : m.l.length ≤ 1000) (t : Tm) (gt : good t) (hct : cntT t < 900000)
    (hc : ∀ u, u ∈ t.l → ∀ (locs : List Tm) (fl : Fl) (st : St), (∀ v, v ∈ locs → good v) → locs.length + cntT u ≤ 900000 → callD T (ev T) 242 [encT m, slE 6 fl (encTs locs), encT ret, encT u] st = some (got8 (stmtE m ret locs u), st))
    (fl : Fl) (gl : ∀ v, v ∈ locs → good v) (hl : locs.length + cntT t ≤ 900000) (st : St) : callD T (ev T) 195 [encT m, slE 6 fl (encTs locs), encT ret, encT t] st = some (got8 (blockE m ret locs t), st) := by
  refine callD_pureR (fn := F195) rfl rfl (by simp) (got8_pure _) ?_
  refine Ret_wp (fn := F195) rfl ?_
  rw [F195]
  unfold blockE
  have lo := fun s bx st => l195 (ret := ret) gm hb t gt hct hc t.l.length 0 s bx st locs fl (.sl 6 true []) [] (by omega) (by omega) gl (by rw [List.drop_zero]; have := cntT_eq t; omega) (RawE.nil _) rfl
  rw [List.drop_zero] at lo
  simp [splice, fillD]
  refine WL.useB L195_0_p L195_0_w (WB := L195_0.wrB) rfl (lo _ _ _ ?_ ?_ ?_ ?_ ?_ ?_ ?_ ?_ ?_ ?_ ?_ ?_) ?_
  iterate 12 simp [z8]
  rintro e s' b' st' h hf hbx
  have e8 := hf 8 rfl
  have e9 := hf 9 rfl
  simp at e8 e9
  cases hO : blkE m ret locs t.l with
  | error v =>
    obtain ⟨x, y⟩ := v
    rw [hO] at h
    obtain ⟨rfl, b8⟩ := h
    simp [e8, b8, got8]
  | ok ss =>
    rw [hO] at h
    obtain ⟨rfl, b8, L, b9, R⟩ := h
    rw [List.nil_append] at R
    obtain ⟨x1, x2, x3, x4⟩ := R.facts
    obtain ⟨st3, f4, f5, f6⟩ := R.fz
    simp [e8, e9, b8, b9, z8, x1, x2, x3, f4, splice, fillD, got8]
end Go.Nt.Ty

/-
  RIGHT MODULES BY THE REFERENCE, walked (12): parts, statements.
  No condition.
-/
set_option linter.unusedSimpArgs false
set_option maxRecDepth 20000
namespace Go.Nt.Ty
open Go Go.Nt

variable {m ret : Tm} {locs : List Tm}

/-- A statement's part. -/
def partE (m ret : Tm) (locs : List Tm) (k from0 i : Int) (x : Tm) : Er Tm := if i ≥ from0 then blockE m ret (if k = 25 then locs ++ [tK 1] else locs) x else exprE m ret locs k x
theorem prtsE_cons (k f i : Int) (x : Tm) (l : List Tm) : prtsE m ret locs k f i (x :: l) = match partE m ret locs k f i x with
    | .error e => .error e
    | .ok s => match prtsE m ret locs k f (i + 1) l with
      | .error e => .error e
      | .ok ss => .ok (s :: ss) := by
  cases x; rw [prtsE]; unfold partE blockE; simp only [k_mk, n_mk, l_mk] <;> rfl
/-- What is asked of an assignment at last. -/
def endE (m : Tm) (locs : List Tm) (t : Tm) (ss : List Tm) : Er Tm :=
  if t.k = 22 ∧ ((rootT (t.l.headD T0)).k ≠ 7 ∧ (rootT (t.l.headD T0)).k ≠ 9) then .error ((t.l.headD T0).a, 12) else
  if t.k = 22 ∧ sameT (tyE m locs (t.l.headD T0)) (tyE m locs (t.l.tail.headD T0)) = false then .error (t.a, 10) else
  .ok (.mk t.k t.n [] .emp ss 0 0)
theorem endE_n {t : Tm} (h : t.k ≠ 22) (ss : List Tm) : endE m locs t ss = .ok (.mk t.k t.n [] .emp ss 0 0) := by
  unfold endE; rw [if_neg (fun q => h q.1), if_neg (fun q => h q.1)]
theorem endE_s {t x y : Tm} (h : t.k = 22) (hl : t.l = [x, y]) (ss : List Tm) : endE m locs t ss = if (rootT x).k ≠ 7 ∧ (rootT x).k ≠ 9 then .error (x.a, 12) else if sameT (tyE m locs x) (tyE m locs y) = false then .error (t.a, 10) else .ok (.mk t.k t.n [] .emp ss 0 0) := by
  unfold endE; rw [hl, h]; simp
/-- A statement that is no block. -/
def thenE (m : Tm) (locs : List Tm) (t : Tm) : Er (List Tm) → Er Tm
  | .error e => .error e
  | .ok ss => endE m locs t ss
def restE (m ret : Tm) (locs : List Tm) (t : Tm) : Er Tm := thenE m locs t (prtsE m ret locs t.k ((partsE t.k).1 - (partsE t.k).2) 0 t.l)
theorem stmtE_eq (t : Tm) : stmtE m ret locs t = if shapeE t = false then .error (t.a, 12) else if t.k = 29 then blockE m ret locs t else restE m ret locs t := by
  cases t with
  | mk k n s fl l a b =>
    rw [stmtE]
    by_cases h : k = 29
    · subst h; unfold blockE; simp only [k_mk, n_mk, l_mk, a_mk] <;> rfl
    · rw [if_neg h, if_neg (show ¬ (Tm.mk k n s fl l a b).k = 29 from h)]; unfold restE; simp only [k_mk, n_mk, l_mk, a_mk]; split; rfl; cases prtsE m ret locs k ((partsE k).1 - (partsE k).2) 0 l <;> rfl

theorem same_bare' (a x : Tm) : sameT a (bareE x) = sameT a (bareT x) := same_bare x a

theorem c281 (gm : good m) (hb : m.l.length ≤ 1000) (gr : good ret) (t : Tm) (gt : good t) (i : Nat) (x : Tm) (hx : t.l[i]? = some x) (gl : ∀ v, v ∈ locs → good v) (hl : locs.length + cntT x < 900000)
    (hc : ∀ (locs : List Tm) (fl : Fl) (st : St), (∀ v, v ∈ locs → good v) → locs.length + cntT x ≤ 900000 → callD T (ev T) 195 [encT m, slE 6 fl (encTs locs), encT ret, encT x] st = some (got8 (blockE m ret locs x), st))
    (fl : Fl) (st : St) : callD T (ev T) 281 [encT m, slE 6 fl (encTs locs), encT ret, encT t, .int .i64 i] st = some (got8 (partE m ret locs t.k ((partsE t.k).1 - (partsE t.k).2) i x), st) := by
  have hlt : i < t.l.length := by
    by_cases c : i < t.l.length
    · exact c
    · rw [List.getElem?_eq_none (by omega)] at hx; cases hx
  have hxi : t.l[i] = x := by rw [List.getElem?_eq_getElem hlt] at hx; simpa using hx
  have gx : good x := by rw [← hxi]; exact good_mem gt (List.getElem_mem hlt)
  have hcx : cntT x < 1000000 := by omega
  refine callD_pureR (fn := F281) rfl rfl (by simp) (got8_pure _) ?_
  refine Ret_wp (fn := F281) rfl ?_
  rw [F281]
  have qp := c296 t.k
  obtain ⟨p1, p2, p3, p4, p5, p6⟩ := partsE_in t.k
  have hw : IntKind.wrap .i64 ((partsE t.k).1 - (partsE t.k).2) = (partsE t.k).1 - (partsE t.k).2 := by rw [wrap64] <;> omega
  unfold partE
  generalize (partsE t.k).1 = n at *
  generalize (partsE t.k).2 = b at *
  by_cases hi : (i : Int) ≥ n - b
  · rw [if_pos hi]
    have hi' : n - b ≤ (i : Int) := hi
    by_cases h25 : t.k = 25
    · rw [if_pos h25]
      obtain ⟨r1, s1, r2, s2, s3, p1, p2, ⟨p3, p4, p5⟩, p6, p7⟩ := app2T [] locs (encT (tK 1)) (by omega)
      have q : callD T (ev T) 195 [encT m, r2, encT ret, encT x] s2 = some (got8 (blockE m ret (locs ++ [tK 1]) x), s3) := by
        refine callD_free (fn := F195) rfl rfl (args' := [encT m, slE 6 .emp (encTs (locs ++ [tK 1])), encT ret, encT x]) ?_ (by simp) (hc (locs ++ [tK 1]) .emp s3 ?_ (by simp; omega))
        · rw [encTs_append]; simp only [encTs_cons, encTs_nil]; simp [p6]
        · intro v hv
          rcases List.mem_append.1 hv with h | h
          · exact gl v h
          · rw [List.mem_singleton] at h; subst h; exact good_K 1 (by simp [in64])
      rw [encT_K] at p2
      rw [h25] at qp
      cases hO : blockE m ret (locs ++ [tK 1]) x with
      | error v => obtain ⟨a1, a2⟩ := v; rw [hO] at q; simp [got8] at q; simp [h25, hlt, hxi, qp, hw, hi', p1, p2, ← encT_eq m, ← encT_eq ret, ← encT_eq x, q, splice, fillD, got8]
      | ok sf => rw [hO] at q; simp [got8] at q; simp [h25, hlt, hxi, qp, hw, hi', p1, p2, ← encT_eq m, ← encT_eq ret, ← encT_eq x, q, splice, fillD, got8]
    · rw [if_neg h25]
      have q := hc locs fl [] gl (by omega)
      cases hO : blockE m ret locs x with
      | error v => obtain ⟨a1, a2⟩ := v; rw [hO] at q; simp [got8] at q; simp [h25, hlt, hxi, qp, hw, hi', ← encT_eq m, ← encT_eq ret, ← encT_eq x, q, splice, fillD, got8]
      | ok sf => rw [hO] at q; simp [got8] at q; simp [h25, hlt, hxi, qp, hw, hi', ← encT_eq m, ← encT_eq ret, ← encT_eq x, q, splice, fillD, got8]
  rw [if_neg hi]
  have hi' : ¬ n - b ≤ (i : Int) := hi
  clear p1 p2 p3 p4 p5 p6 hc
  unfold exprE
  by_cases h21 : t.k = 21
  · rw [if_pos h21]
    rw [h21] at qp
    have q1 := fun st => c60 m x (good_ok _ gm) hb (good_ok _ gx) st
    rw [cells_eq] at q1
    have q3 := c137 x 11
    simp [got8] at q3
    by_cases h0 : cellsV m x = 0
    · simp [h21, hlt, hxi, qp, hw, hi', ← encT_eq m, ← encT_eq x, q1, q3, h0, splice, fillD, got8]
    · obtain ⟨L, st2, q2, R, g⟩ := c139 x gx []
      obtain ⟨x1, x2, x3, _⟩ := R.facts
      obtain ⟨st3, f, _⟩ := R.fz
      rw [outR] at q2
      rw [slE_pfl] at f
      simp [h21, hlt, hxi, qp, hw, hi', ← encT_eq m, ← encT_eq x, q1, q2, h0, x1, x2, x3, f, splice, fillD, got8, nlE_k, nlE_n, nlE_s, nlE_fl, nlE_l, nlE_a, nlE_b]
  rw [if_neg h21]
  have only : ∀ a b : Int, ∃ l8 : List D, l8.length = 8 ∧ got8 (onlyE m locs x a b) = .agg l8 ∧ (∀ st, callD T (ev T) 297 [encT m, slE 6 fl (encTs locs), encT x, .int .i64 a, .int .i64 b] st = some (.agg l8, st)) ∧ l8.all D.okv = true ∧ (∀ st, fz st (.agg l8) = some (.agg l8, st)) := by
    intro a b
    have q := fun st => c297 gm hb gl (by omega) fl x gx hcx a b st
    cases hO : onlyE m locs x a b with
    | error v => obtain ⟨a1, a2⟩ := v; rw [hO] at q; exact ⟨_, rfl, rfl, q, by simp, by simp⟩
    | ok sf => rw [hO] at q; exact ⟨_, rfl, rfl, q, by simp, by simp⟩
  by_cases h23 : t.k = 23 ∨ t.k = 24
  · rw [if_pos h23]
    obtain ⟨l8, e8, e9, q, e10, e11⟩ := only 2 2
    rw [e9]
    match l8, e8 with
    | [a1, a2, a3, a4, a5, a6, a7, a8], _ =>
      rcases h23 with h | h
      · rw [h] at qp; simp at e10; simp [h, hlt, hxi, qp, hw, hi', ← encT_eq m, ← encT_eq x, q, e10, e11, splice, fillD]
      · rw [h] at qp; simp at e10; simp [h, hlt, hxi, qp, hw, hi', ← encT_eq m, ← encT_eq x, q, e10, e11, splice, fillD]
  rw [if_neg h23]
  simp only [not_or] at h23
  by_cases h25 : t.k = 25
  · rw [if_pos h25]
    obtain ⟨l8, e8, e9, q, e10, e11⟩ := only 1 1
    rw [e9]
    rw [h25] at qp
    match l8, e8 with
    | [a1, a2, a3, a4, a5, a6, a7, a8], _ => simp at e10; simp [h25, hlt, hxi, qp, hw, hi', ← encT_eq m, ← encT_eq x, q, e10, e11, splice, fillD]
  rw [if_neg h25]
  by_cases h26 : t.k = 26
  · rw [if_pos h26]
    obtain ⟨l8, e8, e9, q, e10, e11⟩ := only 1 2
    rw [e9]
    rw [h26] at qp
    match l8, e8 with
    | [a1, a2, a3, a4, a5, a6, a7, a8], _ => simp at e10; simp [h26, hlt, hxi, qp, hw, hi', ← encT_eq m, ← encT_eq x, q, e10, e11, splice, fillD]
  rw [if_neg h26]
  clear only
  by_cases h28 : t.k = 28 ∧ x.k ≠ 16
  · rw [if_pos h28]
    have q3 := c137 x 12
    simp [got8] at q3
    have qp' := qp
    rw [h28.1] at qp'
    simp [h28.1, h28.2, hlt, hxi, qp', hw, hi', ← encT_eq m, ← encT_eq x, q3, splice, fillD, got8]
  rw [if_neg h28]
  have q := fun st => c65 gm hb gl (by omega) fl x gx hcx st
  cases hO : ofE m locs x with
  | error v =>
    obtain ⟨a1, a2⟩ := v
    have hy := ofE_err _ _ _ hO
    rw [hO] at q
    have q2 := c298 (.error (a1, a2))
    simp [gotE, badG, formE, got8] at q q2
    by_cases k28 : t.k = 28
    · have k16 : x.k = 16 := Classical.byContradiction fun h' => h28 ⟨k28, h'⟩
      rw [k28] at qp
      rw [encT_eq x, k16] at q
      simp [k28, k16, hlt, hxi, qp, hw, hi', ← encT_eq m, q, q2, hy, splice, fillD, got8]
    · by_cases k27 : t.k = 27
      · rw [k27] at qp
        simp [k27, hlt, hxi, qp, hw, hi', ← encT_eq m, ← encT_eq x, q, q2, hy, splice, fillD, got8]
      · simp [k28, k27, h21, h23.1, h23.2, h25, h26, hlt, hxi, qp, hw, hi', ← encT_eq m, ← encT_eq x, q, q2, hy, splice, fillD, got8]
  | ok v =>
    obtain ⟨ty, sf⟩ := v
    rw [hO] at q
    have q2 := c298 (.ok (ty, sf))
    simp [gotE, formE, got8] at q q2
    by_cases k28 : t.k = 28
    · have k16 : x.k = 16 := Classical.byContradiction fun h' => h28 ⟨k28, h'⟩
      rw [k28] at qp
      rw [encT_eq x, k16] at q
      simp [k28, k16, hlt, hxi, qp, hw, hi', ← encT_eq m, q, q2, splice, fillD, got8]
    · by_cases k27 : t.k = 27
      · rw [k27] at qp
        have gty := (ofE_good gm gl x gx _ _ hO).1
        have q3 := c160 ret gr
        have q4 := c74 ty gty (bareE ret)
        have q5 := c137 x 10
        simp [got8] at q5
        cases hs : sameT ty (bareE ret) with
        | true =>
          rw [hs] at q4
          simp [k27, hlt, hxi, qp, hw, hi', ← encT_eq m, ← encT_eq x, ← encT_eq ret, q, ← encT_eq ty, q3, q4, splice, fillD, got8]
          simp [encT_eq ty, q2, hs]
        | false =>
          rw [hs] at q4
          simp [k27, hlt, hxi, qp, hw, hi', ← encT_eq m, ← encT_eq x, ← encT_eq ret, q, ← encT_eq ty, q3, q4, q5, splice, fillD, got8]
          simp [hs]
      · simp [k28, k27, h21, h23.1, h23.2, h25, h26, hlt, hxi, qp, hw, hi', ← encT_eq m, ← encT_eq x, q, q2, splice, fillD, got8]

def Q242 (t : Tm) (R : Er (List Tm)) (ss : List Tm) (e : Ex) (_ : List D) (b' : List (Nat × List D)) (st' : St) : Prop :=
  match R with
  | .error (x, y) => e = .ret ∧ getB b' 8 = (1, [.int .i64 0, .int .i64 0, .str [], .nils, .int .i64 0, .int .i64 0, .int .i64 x, .int .i64 y])
  | .ok ss' => e = .exit 0 ∧ getB b' 8 = (1, z8) ∧ ∃ L, getB b' 9 = (1, [.int .i64 t.k, .int .i64 t.n, .str [], L, .int .i64 0, .int .i64 0]) ∧ RawE st' L (ss ++ ss')

theorem partE_err {k f i : Int} {t : Tm} {x y : Int} (h : partE m ret locs k f i t = .error (x, y)) : y ≠ 0 := by
  unfold partE at h
  split at h
  · unfold blockE at h
    split at h
    · next e => cases h; exact blkE_err _ _ _ _ e
    · cases h
  · exact exprE_err h

theorem l242 (t : Tm) (gt : good t) (f : Int) (fl : Fl)
    (hc : ∀ (i : Nat) (x : Tm) (st : St), t.l[i]? = some x → callD T (ev T) 281 [encT m, slE 6 fl (encTs locs), encT ret, encT t, .int .i64 i] st = some (got8 (partE m ret locs t.k f i x), st)) :
    ∀ (r i : Nat) (s : List D) (bx : List (Nat × List D)) (st : St) (L : D) (ss : List Tm), r = t.l.length - i → i ≤ t.l.length → RawE st L ss → ss.length = i →
      get s 4 = .lp 4 1 0 → getB bx 4 = (1, clT m) → get s 1 = slE 6 fl (encTs locs) → get s 6 = .lp 6 1 0 → getB bx 6 = (1, clT ret) → get s 7 = .lp 7 1 0 → getB bx 7 = (1, clT t) → get s 8 = .lp 8 1 0 → getB bx 8 = (1, z8) → get s 9 = .lp 9 1 0 →
      getB bx 9 = (1, [.int .i64 t.k, .int .i64 t.n, .str [], L, .int .i64 0, .int .i64 0]) → get s 10 = .int .i64 i →
    Stops (lp T L242_0 ⟨⟨s, bx⟩, st⟩) fun e s' b' st' => Q242 t (prtsE m ret locs t.k f i (t.l.drop i)) ss e s' b' st' := by
  intro r
  induction r with
  | zero =>
    intro i s bx st L ss hr hi R n h4 b4 h1 h6 b6 h7 b7 h8 b8 h9 b9 h10
    have e : i = t.l.length := by omega
    refine Stops_wp L242_0.eq_1 ?_
    rw [e, List.drop_length, prtsE]
    simp [h7, b7, h10, e, Q242, b8]
    exact ⟨L, b9, R⟩
  | succ r ihr =>
    intro i s bx st L ss hr hi R n h4 b4 h1 h6 b6 h7 b7 h8 b8 h9 b9 h10
    have hlt : i < t.l.length := by omega
    have htl := good_len gt
    have hw : IntKind.wrap .i64 ((i : Int) + 1) = ((i + 1 : Nat) : Int) := by rw [wrap64] <;> omega
    have q := hc i _ st (List.getElem?_eq_getElem hlt)
    have ed : t.l.drop i = t.l[i] :: t.l.drop (i + 1) := List.drop_eq_getElem_cons hlt
    rw [ed, prtsE_cons]
    refine Stops_wp L242_0.eq_1 ?_
    cases hO : partE m ret locs t.k f i t.l[i] with
    | error v =>
      obtain ⟨x, y⟩ := v
      have hy := partE_err hO
      rw [hO] at q
      simp [got8] at q
      simp [h4, b4, h1, h6, b6, h7, b7, h8, b8, h9, b9, h10, hlt, ← encT_eq m, ← encT_eq ret, ← encT_eq t, q, hy, Q242, splice, z8, -Int.natCast_add]
    | ok sf =>
      rw [hO] at q
      simp [got8] at q
      obtain ⟨M, st1, p1, S, g1, o1, d1⟩ := R.app (by omega) sf
      have nx := fun s' bx' => ihr (i + 1) s' bx' st1 M (ss ++ [sf]) (by omega) (by omega) S (by simp; omega)
      obtain ⟨x1, x2, x3, x4⟩ := R.facts
      obtain ⟨y1, y2, y3, y4⟩ := S.facts
      have ec : ((i + 1 : Nat) : Int) = (i : Int) + 1 := by omega
      have cv : ∀ e s' b' st', Q242 t (prtsE m ret locs t.k f ((i + 1 : Nat) : Int) (t.l.drop (i + 1))) (ss ++ [sf]) e s' b' st' → Q242 t (match prtsE m ret locs t.k f ((i : Int) + 1) (t.l.drop (i + 1)) with
          | .error e => .error e
          | .ok ss => .ok (sf :: ss)) ss e s' b' st' := by
        rw [ec]
        intro e s' b' st' h
        cases hR : prtsE m ret locs t.k f ((i : Int) + 1) (t.l.drop (i + 1)) with
        | error v => rw [hR] at h; exact h
        | ok v => rw [hR] at h; obtain ⟨h1, h1', L', h2, h3⟩ := h; exact ⟨h1, h1', L', h2, by simpa using h3⟩
      simp only
      generalize hG : Q242 t (match prtsE m ret locs t.k f ((i : Int) + 1) (t.l.drop (i + 1)) with
          | .error e => .error e
          | .ok ss => .ok (sf :: ss)) ss = G at *
      simp [h4, b4, h1, h6, b6, h7, b7, h8, b8, h9, b9, h10, hlt, hw, ← encT_eq m, ← encT_eq ret, ← encT_eq t, ← encT_eq sf, q, p1, x1, x2, x3, y1, y2, y3, splice, -Int.natCast_add]
      refine Stops.mono (nx _ _ ?_ ?_ ?_ ?_ ?_ ?_ ?_ ?_ ?_ ?_ ?_ ?_) (fun e s' b' st' h => cv e s' b' st' h)
      all_goals simp [h4, b4, h1, h6, b6, h7, b7, h8, b8, h9]
end Go.Nt.Ty

/-
  RIGHT MODULES BY THE REFERENCE, walked (13): statements.
  No condition.
-/
set_option linter.unusedSimpArgs false
set_option maxRecDepth 20000
namespace Go.Nt.Ty
open Go Go.Nt

variable {m ret : Tm} {locs : List Tm}

theorem callQ_pure {f : Nat} {fn : IFunc} (hT : T f = some fn) (hm : fn.mode = .pure) {args : List D} {q : D} (hargs : args.all D.pure = true) (hp : pureArgs [] args = some (args, [])) (h : callD T (ev T) f args [] = some (q, [])) : callQD T (ev T) f args = some q := by
  simp only [callD, callQD, hT, hm, hp, hargs, if_true, Option.bind_some] at h ⊢
  cases h1 : ev T f args [] with
  | none => rw [h1] at h; cases h
  | some r =>
    rw [h1] at h
    obtain ⟨a, b⟩ := r
    simp only [Option.bind_some] at h ⊢
    cases h2 : fz b a with
    | none => rw [h2] at h; cases h
    | some c =>
      rw [h2] at h
      obtain ⟨c1, c2⟩ := c
      simp only [Option.bind_some] at h ⊢
      split at h
      · next hp => rw [if_pos hp]; cases h; rfl
      · cases h

def PS (m ret t : Tm) : Prop := ∀ (locs : List Tm) (fl : Fl) (st : St), (∀ v, v ∈ locs → good v) → locs.length + cntT t ≤ 900000 → callD T (ev T) 242 [encT m, slE 6 fl (encTs locs), encT ret, encT t] st = some (got8 (stmtE m ret locs t), st)

theorem tyE_got (t : Tm) : ∃ rest : List D, rest.length = 8 ∧ gotE (ofE m locs t) = .agg ([.int .i64 (tyE m locs t).k, .int .i64 (tyE m locs t).n, .str (tyE m locs t).s, slE 6 (tyE m locs t).fl (encTs (tyE m locs t).l), .int .i64 (tyE m locs t).a, .int .i64 (tyE m locs t).b] ++ rest) := by
  unfold tyE
  cases h : ofE m locs t with
  | error v => obtain ⟨a, b⟩ := v; exact ⟨_, rfl, by simp [gotE, badG, slE]; rfl⟩
  | ok v => obtain ⟨a, b⟩ := v; exact ⟨_, rfl, by simp [gotE]; rfl⟩

theorem tyE_good (gm : good m) (gl : ∀ v, v ∈ locs → good v) (t : Tm) (gt : good t) : good (tyE m locs t) := by
  unfold tyE
  split
  · next e => exact (ofE_good gm gl t gt _ _ e).1
  · exact good_0

theorem c242s (gm : good m) (hb : m.l.length ≤ 1000) (gr : good ret) (t : Tm) (gt : good t) (hct : cntT t < 900000) (h1 : ∀ u, u ∈ t.l → PS m ret u) (h2 : ∀ u, u ∈ t.l → ∀ w, w ∈ u.l → PS m ret w) : PS m ret t := by
  intro locs fl st gl hl
  have hct' := cntT_eq t
  have qs := c280 t
  have qb := fun st => c195 gm hb t gt hct (fun u hu locs fl st gl hl => h1 u hu locs fl st gl hl) fl gl hl st
  have q12 := c137 t 12
  have q10 := c137 t 10
  simp [got8] at q12 q10
  refine callD_pureR (fn := F242) rfl rfl (by simp) (got8_pure _) ?_
  refine Ret_wp (fn := F242) rfl ?_
  rw [F242, stmtE_eq]
  by_cases hs : shapeE t = false
  · rw [if_pos hs]
    rw [hs] at qs
    simp [← encT_eq t, qs, q12, splice, got8]
  rw [if_neg hs]
  have hs' : shapeE t = true := by simpa using hs
  rw [hs'] at qs
  by_cases h29 : t.k = 29
  · rw [if_pos h29]
    rw [encT_eq t, h29] at qs qb
    cases hO : blockE m ret locs t with
    | error v => obtain ⟨a1, a2⟩ := v; rw [hO] at qb; simp [got8] at qb; simp [h29, ← encT_eq m, ← encT_eq ret, qs, qb, splice, got8]
    | ok sf => rw [hO] at qb; simp [got8] at qb; simp [h29, ← encT_eq m, ← encT_eq ret, qs, qb, splice, got8]
  rw [if_neg h29]
  clear qb
  have hp : ∀ (i : Nat) (x : Tm) (st : St), t.l[i]? = some x → callD T (ev T) 281 [encT m, slE 6 fl (encTs locs), encT ret, encT t, .int .i64 i] st = some (got8 (partE m ret locs t.k ((partsE t.k).1 - (partsE t.k).2) i x), st) := by
    intro i x st hx
    have hm : x ∈ t.l := List.mem_of_getElem? hx
    have hcx := cntTs_mem hm
    exact c281 gm hb gr t gt i x hx gl (by omega) (fun locs fl st gl hl => c195 gm hb x (good_mem gt hm) (by omega) (fun w hw => h2 x hm w hw) fl gl hl st) fl st
  have lo := fun s bx st => l242 (m := m) (ret := ret) (locs := locs) t gt _ fl hp t.l.length 0 s bx st (.sl 6 true []) [] (by omega) (by omega) (RawE.nil _) rfl
  rw [List.drop_zero] at lo
  simp only [Int.natCast_zero] at lo
  unfold restE
  generalize hR : prtsE m ret locs t.k ((partsE t.k).1 - (partsE t.k).2) 0 t.l = R at *
  simp [h29, ← encT_eq t, qs, splice, fillD]
  refine WL.useB L242_0_p L242_0_w (WB := L242_0.wrB) rfl (lo _ _ _ ?_ ?_ ?_ ?_ ?_ ?_ ?_ ?_ ?_ ?_ ?_ ?_) ?_
  iterate 12 simp [z8]
  rintro e s' b' st' h hf hbx
  have e1 := hf 1 rfl
  have e4 := hf 4 rfl
  have e6 := hf 6 rfl
  have e7 := hf 7 rfl
  have e8 := hf 8 rfl
  have e9 := hf 9 rfl
  have b4 := hbx 4 rfl
  have b6 := hbx 6 rfl
  have b7 := hbx 7 rfl
  have b12 := hbx 12 rfl
  simp at e1 e4 e6 e7 e8 e9 b4 b6 b7 b12
  cases R with
  | error v =>
    obtain ⟨x, y⟩ := v
    obtain ⟨rfl, b8⟩ := h
    rw [thenE]
    simp [e8, b8, got8]
  | ok ss =>
    obtain ⟨rfl, b8, L, b9, R⟩ := h
    rw [thenE]
    rw [List.nil_append] at R
    obtain ⟨x1, x2, x3, x4⟩ := R.facts
    obtain ⟨st3, f4, f5, f6⟩ := R.fz
    by_cases h22 : t.k = 22
    · have hl2 : t.l.length = 2 := by
        unfold shapeE at hs'
        rw [if_neg h29] at hs'
        simp only [Bool.and_eq_true, decide_eq_true_eq] at hs'
        have := hs'.1
        unfold partsE at this
        simp [h22] at this
        omega
      match hll : t.l, hl2 with
      | [x, y], _ =>
        have gx := good_mem gt (by rw [hll]; simp : x ∈ t.l)
        have gy := good_mem gt (by rw [hll]; simp : y ∈ t.l)
        have hcs : cntT x + cntT y < cntT t := by rw [hct', hll]; simp [cntTs]
        have qr := c282 x gx
        have qx := c65 gm hb gl (by omega) fl x gx (by omega) []
        have qx := callQ_pure (fn := F65) rfl rfl (by simp) (by simp) qx
        have qy := fun st => c65 gm hb gl (by omega) fl y gy (by omega) st
        obtain ⟨r1, n1, er1⟩ := tyE_got (m := m) (locs := locs) x
        obtain ⟨r2, n2, er2⟩ := tyE_got (m := m) (locs := locs) y
        have q74 := c74 (tyE m locs x) (tyE_good gm gl x gx) (tyE m locs y)
        have qb12 := c137 x 12
        simp [got8] at qb12
        rw [er1] at qx
        rw [er2] at qy
        rw [encT_eq (rootT x)] at qr
        rw [endE_s h22 hll, h22]
        rw [encT_eq t, h22, hll] at q10
        simp only [encTs_cons, encTs_nil] at q10
        match r1, n1, r2, n2 with
        | [a1, a2, a3, a4, a5, a6, a7, a8], _, [c1, c2, c3, c4, c5, c6, c7, c8], _ =>
        simp at qx qy
        by_cases hr : (rootT x).k ≠ 7 ∧ (rootT x).k ≠ 9
        · rw [if_pos hr]
          simp [h22, hll, e1, e4, e6, e7, e8, e9, b4, b6, b7, b8, b9, b12, z8, ← encT_eq m, ← encT_eq x, qr, hr.1, hr.2, qb12, splice, fillD, got8]
        · rw [if_neg hr]
          cases hsm : sameT (tyE m locs x) (tyE m locs y) with
          | true =>
            rw [hsm] at q74
            rw [if_neg (by simp)]
            by_cases h7 : (rootT x).k = 7
            · simp [h22, hll, e1, e4, e6, e7, e8, e9, b4, b6, b7, b8, b9, b12, z8, ← encT_eq m, ← encT_eq x, ← encT_eq y, qr, h7, qx, qy, ← encT_eq (tyE m locs x), ← encT_eq (tyE m locs y), q74, x1, x2, x3, f4, splice, fillD, got8]
            · have h9 : (rootT x).k = 9 := Classical.byContradiction fun q => hr ⟨h7, q⟩
              simp [h22, hll, e1, e4, e6, e7, e8, e9, b4, b6, b7, b8, b9, b12, z8, ← encT_eq m, ← encT_eq x, ← encT_eq y, qr, h9, qx, qy, ← encT_eq (tyE m locs x), ← encT_eq (tyE m locs y), q74, x1, x2, x3, f4, splice, fillD, got8]
          | false =>
            rw [hsm] at q74
            rw [if_pos rfl]
            by_cases h7 : (rootT x).k = 7
            · simp [h22, hll, e1, e4, e6, e7, e8, e9, b4, b6, b7, b8, b9, b12, z8, ← encT_eq m, ← encT_eq x, ← encT_eq y, qr, h7, qx, qy, ← encT_eq (tyE m locs x), ← encT_eq (tyE m locs y), q74, q10, splice, fillD, got8]
            · have h9 : (rootT x).k = 9 := Classical.byContradiction fun q => hr ⟨h7, q⟩
              simp [h22, hll, e1, e4, e6, e7, e8, e9, b4, b6, b7, b8, b9, b12, z8, ← encT_eq m, ← encT_eq x, ← encT_eq y, qr, h9, qx, qy, ← encT_eq (tyE m locs x), ← encT_eq (tyE m locs y), q74, q10, splice, fillD, got8]
    · rw [endE_n h22]
      simp [h22, e1, e4, e6, e7, e8, e9, b4, b6, b7, b8, b9, z8, x1, x2, x3, f4, splice, fillD, got8]

theorem c242 (gm : good m) (hb : m.l.length ≤ 1000) (gr : good ret) (t : Tm) : good t → cntT t < 900000 → PS m ret t ∧ ∀ u, u ∈ t.l → PS m ret u := by
  induction t using Tm.ind with
  | h t ih =>
    intro gt hct
    have hi : ∀ u, u ∈ t.l → PS m ret u ∧ ∀ w, w ∈ u.l → PS m ret w := fun u hu => ih u hu (good_mem gt hu) (by have := cntTs_mem hu; have := cntT_eq t; omega)
    exact ⟨c242s gm hb gr t gt hct (fun u hu => (hi u hu).1) fun u hu => (hi u hu).2, fun u hu => (hi u hu).1⟩
end Go.Nt.Ty
