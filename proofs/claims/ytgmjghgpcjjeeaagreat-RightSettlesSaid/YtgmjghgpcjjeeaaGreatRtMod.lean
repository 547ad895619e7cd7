/-
  RIGHT MODULES: a settled form is no larger than what was settled.
  No condition.
-/
import Derived.Test.YtgmjghgpcjjeeaaGreatTzTop
import Derived.Test.YtgmjghgpcjjeeaaGreatRtDefs
import Derived.Test.YtgmjghgpcjjeeaaGreatTzOf
import Derived.Test.YtgmjghgpcjjeeaaGreatRtDec
import Derived.KernelRfl
set_option linter.unusedSimpArgs false
namespace Go.Nt.Ty
open Go Go.Nt

/-- As good, and no larger. -/
def Fit (s t : Tm) : Prop := good s ∧ cntT s ≤ cntT t
def Fits (ss l : List Tm) : Prop := (∀ u, u ∈ ss → good u) ∧ ss.length = l.length ∧ cntTs ss ≤ cntTs l
theorem Fits.nil : Fits [] [] := ⟨(fun u hu => by cases hu), rfl, Nat.le_refl _⟩
theorem Fits.cons {s t : Tm} {ss l : List Tm} (h : Fit s t) (k : Fits ss l) : Fits (s :: ss) (t :: l) := by
  refine ⟨fun u hu => ?_, by simp [k.2.1], ?_⟩
  · rcases List.mem_cons.1 hu with rfl | q
    · exact h.1
    · exact k.1 u q
  · rw [cntTs, cntTs]
    have := h.2
    have := k.2.2
    omega
theorem Fits.mk {ss l : List Tm} (h : Fits ss l) {k n : Int} (fl : Fl) (hk : in64 k) (hn : in64 n) (hl : l.length ≤ 1000000) {t : Tm} (ht : t.l = l) : Fit (.mk k n [] fl ss 0 0) t := by
  refine ⟨(good_iff _).2 ⟨hk, hn, by simp, by simp [in64], by simp [in64], by rw [l_mk, h.2.1]; exact hl, h.1⟩, ?_⟩
  rw [cntT_eq, cntT_eq t, ht, l_mk]
  have := h.2.2
  omega

theorem fit_clean (t : Tm) : good t → Fit (cleanT t) t := by
  induction t using Tm.ind with
  | h t ih =>
    intro gt
    have h : ∀ l : List Tm, (∀ u, u ∈ l → Fit (cleanT u) u) → Fits (l.map cleanT) l := by
      intro l
      induction l with
      | nil => intro _; exact .nil
      | cons a l ihl => intro h; exact .cons (h a (by simp)) (ihl fun u hu => h u (by simp [hu]))
    obtain ⟨k1, k2, _⟩ := (good_iff t).1 gt
    rw [cleanT_eq]
    exact (h t.l fun u hu => ih u hu (good_mem gt hu)).mk _ k1 k2 (good_len gt) rfl

variable {m ret : Tm} {locs : List Tm}

theorem fit_of (gm : good m) (G : ∀ t, t ∈ locs → good t) (t : Tm) : good t → ∀ a s, ofT m locs t = .ok (a, s) → Fit s t := by
  induction t using Tm.ind with
  | h t ih =>
    intro gt a s ho
    refine ⟨(ofT_good gm G t gt a s ho).2, ?_⟩
    have key : ∀ l : List Tm, (∀ u, u ∈ l → ∀ a s, ofT m locs u = .ok (a, s) → Fit s u) → ∀ ts ss, ofTs m locs l = .ok (ts, ss) → cntTs ss ≤ cntTs l := by
      intro l
      induction l with
      | nil =>
        intro _ ts ss h
        simp only [ofTs, Except.ok.injEq, Prod.mk.injEq] at h
        rw [← h.2]; exact Nat.le_refl _
      | cons u l ihl =>
        intro hu ts ss h
        rw [ofTs] at h
        cases hq : ofT m locs u with
        | error x => rw [hq] at h; cases h
        | ok x =>
          obtain ⟨a, s⟩ := x
          rw [hq] at h
          cases hr : ofTs m locs l with
          | error y => rw [hr] at h; cases h
          | ok y =>
            obtain ⟨b, c⟩ := y
            rw [hr] at h
            simp only [Except.ok.injEq, Prod.mk.injEq] at h
            rw [← h.2, cntTs, cntTs]
            have := (hu u (by simp) a s hq).2
            have := ihl (fun v hv => hu v (by simp [hv])) b c hr
            omega
    rw [ofT_eq] at ho
    split at ho
    · cases ho
    · split at ho
      · cases ho
      · cases hq : ofTs m locs t.l with
        | error x => rw [hq] at ho; cases ho
        | ok x =>
          obtain ⟨ts, ss⟩ := x
          rw [hq] at ho
          simp only at ho
          split at ho
          · simp only [Except.ok.injEq, Prod.mk.injEq] at ho
            rw [← ho.2, cntT_eq, cntT_eq t, l_mk]
            have := key t.l (fun u hu a s h => ih u hu (good_mem gt hu) a s h) ts ss hq
            omega
          · cases ho

theorem fit_only (gm : good m) (G : ∀ t, t ∈ locs → good t) {t s : Tm} (gt : good t) {k1 k2 : Int} (h : onlyT m locs t k1 k2 = .ok s) : Fit s t := by
  unfold onlyT at h
  cases hq : ofT m locs t with
  | error x => rw [hq] at h; cases h
  | ok x =>
    obtain ⟨a, y⟩ := x
    rw [hq] at h
    simp only at h
    split at h
    · simp only [Except.ok.injEq] at h
      subst h
      exact fit_of gm G t gt _ _ hq
    · cases h
theorem fit_kind {t s : Tm} (gt : good t) (h : kindT m t = .ok s) : Fit s t := by
  unfold kindT at h
  split at h
  · cases h
  · simp only [Except.ok.injEq] at h
    subst h
    exact fit_clean t gt

theorem fit_leaf (gm : good m) (G : ∀ t, t ∈ locs → good t) {k a0 : Int} {l ss l1 : List Tm} (gl : ∀ u, u ∈ l → good u) (h : leafS m ret locs k a0 l = .ok (ss, l1)) : Fits ss l ∧ ∀ t, t ∈ l1 → good t := by
  have app : ∀ a, good a → ∀ t, t ∈ locs ++ [a] → good t := fun a ga t ht => by
    rcases List.mem_append.1 ht with h | h
    · exact G t h
    · simp only [List.mem_cons, List.not_mem_nil, or_false] at h
      rw [h]; exact ga
  unfold leafS at h
  match l, h with
  | [], h => cases h
  | [x], h =>
    have gx := gl x (by simp)
    simp only at h
    split at h
    · cases ho : ofT m locs x with
      | error e => rw [ho] at h; cases h
      | ok w =>
        obtain ⟨w1, w2⟩ := w
        rw [ho] at h
        simp only [Except.ok.injEq, Prod.mk.injEq] at h
        rw [← h.1, ← h.2]
        exact ⟨.cons (fit_of gm G x gx _ _ ho) .nil, app _ (ofT_good gm G x gx _ _ ho).1⟩
    · split at h
      · cases ho : kindT m x with
        | error e => rw [ho] at h; cases h
        | ok w =>
          rw [ho] at h
          simp only [Except.ok.injEq, Prod.mk.injEq] at h
          rw [← h.1, ← h.2]
          exact ⟨.cons (fit_kind gx ho) .nil, app _ gx⟩
      · split at h
        · cases ho : onlyT m locs x 1 2 with
          | error e => rw [ho] at h; cases h
          | ok w =>
            rw [ho] at h
            simp only [Except.ok.injEq, Prod.mk.injEq] at h
            rw [← h.1, ← h.2]
            exact ⟨.cons (fit_only gm G gx ho) .nil, G⟩
        · split at h
          · cases ho : ofT m locs x with
            | error e => rw [ho] at h; cases h
            | ok w =>
              obtain ⟨w1, w2⟩ := w
              rw [ho] at h
              simp only at h
              split at h
              · simp only [Except.ok.injEq, Prod.mk.injEq] at h
                rw [← h.1, ← h.2]
                exact ⟨.cons (fit_of gm G x gx _ _ ho) .nil, G⟩
              · cases h
          · split at h
            · cases h
            · cases ho : ofT m locs x with
              | error e => rw [ho] at h; cases h
              | ok w =>
                obtain ⟨w1, w2⟩ := w
                rw [ho] at h
                simp only [Except.ok.injEq, Prod.mk.injEq] at h
                rw [← h.1, ← h.2]
                exact ⟨.cons (fit_of gm G x gx _ _ ho) .nil, G⟩
  | [x, y], h =>
    have gx := gl x (by simp)
    have gy := gl y (by simp)
    simp only at h
    cases ho : ofT m locs x with
    | error e => rw [ho] at h; cases h
    | ok w =>
      obtain ⟨w1, w2⟩ := w
      rw [ho] at h
      simp only at h
      cases hp : ofT m locs y with
      | error e => rw [hp] at h; cases h
      | ok u =>
        obtain ⟨u1, u2⟩ := u
        rw [hp] at h
        simp only at h
        split at h
        · cases h
        · split at h
          · simp only [Except.ok.injEq, Prod.mk.injEq] at h
            rw [← h.1, ← h.2]
            exact ⟨.cons (fit_of gm G x gx _ _ ho) (.cons (fit_of gm G y gy _ _ hp) .nil), G⟩
          · cases h
  | _ :: _ :: _ :: _, h => cases h

mutual
  theorem fit_stmt (gm : good m) : ∀ (t : Tm) (locs : List Tm) (s : Tm) (l1 : List Tm), good t → (∀ u, u ∈ locs → good u) → stmtT m ret locs t = .ok (s, l1) → Fit s t ∧ ∀ u, u ∈ l1 → good u
    | .mk k n sx fl l a b, locs, s, l1, gt, G, h => by
      obtain ⟨k1, k2, _, _, _, k5, k6⟩ := (good_iff _).1 gt
      simp only [k_mk, n_mk, l_mk] at k1 k2 k5 k6
      rw [stmtT] at h
      split at h
      · cases h
      · split at h
        · cases hq : blkT m ret locs l with
          | error e => rw [hq] at h; cases h
          | ok ss =>
            rw [hq] at h
            simp only [Except.ok.injEq, Prod.mk.injEq] at h
            rw [← h.1, ← h.2]
            exact ⟨(fit_blk gm l locs ss k6 G hq).mk _ (by simp [in64]) k2 k5 rfl, G⟩
        · split at h
          · cases hq : nesT m ret k (if k = 25 then 1 else 2) locs l with
            | error e => rw [hq] at h; cases h
            | ok ss =>
              rw [hq] at h
              simp only [Except.ok.injEq, Prod.mk.injEq] at h
              rw [← h.1, ← h.2]
              exact ⟨(fit_nes gm k _ l locs ss k6 G hq).mk _ k1 k2 k5 rfl, G⟩
          · cases hq : leafS m ret locs k a l with
            | error e => rw [hq] at h; cases h
            | ok v =>
              obtain ⟨v1, v2⟩ := v
              rw [hq] at h
              simp only [Except.ok.injEq, Prod.mk.injEq] at h
              rw [← h.1, ← h.2]
              obtain ⟨f, g⟩ := fit_leaf gm G k6 hq
              exact ⟨f.mk _ k1 k2 k5 rfl, g⟩
  theorem fit_blk (gm : good m) : ∀ (l : List Tm) (locs ss : List Tm), (∀ u, u ∈ l → good u) → (∀ u, u ∈ locs → good u) → blkT m ret locs l = .ok ss → Fits ss l
    | [], locs, ss, _, _, h => by
      rw [blkT] at h
      simp only [Except.ok.injEq] at h
      subst h
      exact .nil
    | t :: l, locs, ss, gl, G, h => by
      rw [blkT] at h
      cases hq : stmtT m ret locs t with
      | error e => rw [hq] at h; cases h
      | ok v =>
        obtain ⟨s, l1⟩ := v
        rw [hq] at h
        simp only at h
        cases hb : blkT m ret l1 l with
        | error e => rw [hb] at h; cases h
        | ok r =>
          rw [hb] at h
          simp only [Except.ok.injEq] at h
          subst h
          obtain ⟨f, g⟩ := fit_stmt gm t locs s l1 (gl t (by simp)) G hq
          exact .cons f (fit_blk gm l l1 r (fun u hu => gl u (by simp [hu])) g hb)
  theorem fit_nes (gm : good m) (k want : Int) : ∀ (l : List Tm) (locs ss : List Tm), (∀ u, u ∈ l → good u) → (∀ u, u ∈ locs → good u) → nesT m ret k want locs l = .ok ss → Fits ss l
    | [], locs, ss, _, _, h => by
      rw [nesT] at h
      simp only [Except.ok.injEq] at h
      subst h
      exact .nil
    | .mk xk xn xs xfl xl xa xb :: l, locs, ss, gl, G, h => by
      have gx := gl _ (List.mem_cons_self)
      have gi : ∀ u, u ∈ locs ++ [tK 1] → good u := fun u hu => by
        rcases List.mem_append.1 hu with h | h
        · exact G u h
        · simp only [List.mem_cons, List.not_mem_nil, or_false] at h
          rw [h]; exact good_K 1 (by simp [in64])
      obtain ⟨k1, k2, _, _, _, k5, k6⟩ := (good_iff _).1 gx
      simp only [k_mk, n_mk, l_mk] at k1 k2 k5 k6
      have hR : ∀ s, (if xk ≠ 29 then onlyT m locs (.mk xk xn xs xfl xl xa xb) want want else
        match blkT m ret (if k = 25 then locs ++ [tK 1] else locs) xl with
        | .error e => (.error e : Er Tm)
        | .ok ss => .ok (.mk 29 xn [] (pfl ss) ss 0 0)) = .ok s → Fit s (.mk xk xn xs xfl xl xa xb) := by
        intro s hs
        split at hs
        · exact fit_only gm G gx hs
        · cases hq : blkT m ret (if k = 25 then locs ++ [tK 1] else locs) xl with
          | error e => rw [hq] at hs; cases hs
          | ok r =>
            rw [hq] at hs
            simp only [Except.ok.injEq] at hs
            subst hs
            exact (fit_blk gm xl _ r k6 (by split; exact gi; exact G) hq).mk _ (by simp [in64]) k2 k5 rfl
      rw [nesT] at h
      split at h
      · cases h
      · next s hs =>
        cases hb : nesT m ret k want (if xk = 29 ∧ k = 25 then locs ++ [tK 1] else locs) l with
        | error e => rw [hb] at h; cases h
        | ok r =>
          rw [hb] at h
          simp only [Except.ok.injEq] at h
          subst h
          exact .cons (hR s hs) (fit_nes gm k want l _ r (fun u hu => gl u (by simp [hu])) (by split; exact gi; exact G) hb)
end

theorem fit_decl (gm : good m) {i : Nat} {t s : Tm} (gt : good t) (h : declR m i t = .ok s) : Fit s t := by
  unfold declR at h
  split at h
  · split at h
    · cases h
    · split at h
      · cases h
      · simp only [Except.ok.injEq] at h; subst h; exact fit_clean t gt
  · split at h
    · split at h
      · cases h
      · simp only [Except.ok.injEq] at h; subst h; exact fit_clean t gt
    · split at h
      · split at h
        · cases h
        · simp only [Except.ok.injEq] at h; subst h; exact fit_clean t gt
      · split at h
        · cases hh : headT m t with
          | error e => rw [hh] at h; cases h
          | ok tys =>
            rw [hh] at h
            simp only at h
            unfold headT at hh
            match hl : t.l with
            | [p, r, b] =>
              rw [hl] at h hh
              simp only [List.headD_cons, List.tail_cons] at h hh
              have gp : good p := good_mem gt (by rw [hl]; simp)
              have gr : good r := good_mem gt (by rw [hl]; simp)
              have gb : good b := good_mem gt (by rw [hl]; simp)
              split at hh
              · cases hh
              · next hc =>
                simp only [not_or, not_and, Classical.not_not] at hc
                have hp : partedT p.l = true := by simpa using hc.2.2.1
                have Gt : ∀ u, u ∈ tys → good u := by
                  cases hk : kindsT m (p.l.map (fun x => x.l.headD T0) ++ [r]) with
                  | error v => rw [hk] at hh; cases hh
                  | ok u =>
                    rw [hk] at hh
                    simp only at hh
                    cases hq : (if t.n = 1 then plainsT m (p.l.map (fun x => x.l.headD T0) ++ [r]) else .ok ()) with
                    | error v => rw [hq] at hh; cases hh
                    | ok u =>
                      rw [hq] at hh
                      simp only [Except.ok.injEq] at hh
                      intro u hu
                      rw [← hh] at hu
                      obtain ⟨w, hw, rfl⟩ := List.mem_map.1 hu
                      unfold partedT at hp
                      rw [List.all_eq_true] at hp
                      have := hp w hw
                      simp only [Bool.and_eq_true, decide_eq_true_eq] at this
                      obtain ⟨x, hx⟩ := List.length_eq_one_iff.1 this.2
                      rw [hx]
                      exact good_mem (good_mem gp hw) (by rw [hx]; simp)
                cases hb : blkT m r tys b.l with
                | error e => rw [hb] at h; cases h
                | ok ss =>
                  rw [hb] at h
                  simp only [Except.ok.injEq] at h
                  subst h
                  obtain ⟨b1, b2, _⟩ := (good_iff b).1 gb
                  obtain ⟨t1, t2, _⟩ := (good_iff t).1 gt
                  have fb : Fit (.mk 29 b.n [] (pfl ss) ss 0 0) b := (fit_blk gm b.l tys ss (fun u hu => good_mem gb hu) Gt hb).mk _ (by simp [in64]) b2 (good_len gb) rfl
                  exact (Fits.cons (fit_clean p gp) (.cons (fit_clean r gr) (.cons fb .nil))).mk _ (by simp [in64]) t2 (by simp) hl
            | [] => rw [hl] at hh; cases hh
            | [_] => rw [hl] at hh; cases hh
            | [_, _] => rw [hl] at hh; cases hh
            | _ :: _ :: _ :: _ :: _ => rw [hl] at hh; cases hh
        · cases h

theorem fit_decls (gm : good m) : ∀ (l ss : List Tm) (i : Nat), (∀ u, u ∈ l → good u) → declsR m i l = .ok ss → Fits ss l
  | [], ss, i, _, h => by
    rw [declsR] at h
    simp only [Except.ok.injEq] at h
    subst h
    exact .nil
  | t :: l, ss, i, gl, h => by
    rw [declsR] at h
    cases hq : declR m i t with
    | error e => rw [hq] at h; cases h
    | ok s =>
      rw [hq] at h
      simp only at h
      cases hb : declsR m (i + 1) l with
      | error e => rw [hb] at h; cases h
      | ok r =>
        rw [hb] at h
        simp only [Except.ok.injEq] at h
        subst h
        exact .cons (fit_decl gm (gl t (by simp)) hq) (fit_decls gm l r (i + 1) (fun u hu => gl u (by simp [hu])) hb)

theorem fit_module (gm : good m) {S : Tm} (h : moduleT m = .ok S) : Fit S m := by
  unfold moduleT at h
  split at h
  · cases h
  · cases hq : declsR m 0 m.l with
    | error e => rw [hq] at h; cases h
    | ok ss =>
      rw [hq] at h
      simp only [Except.ok.injEq] at h
      subst h
      obtain ⟨_, m2, _⟩ := (good_iff m).1 gm
      exact (fit_decls gm m.l ss 0 (fun u hu => good_mem gm hu) hq).mk _ (by simp [in64]) m2 (good_len gm) rfl
end Go.Nt.Ty

/-
  RIGHT MODULES, walked (14): modules; the law RightSettles.
  No condition.
-/
set_option linter.unusedSimpArgs false
namespace Go.Nt.Ty
open Go Go.Nt

variable {m ret : Tm} {st : St} {lv : D} {locs : List Tm} {at0 e : Int}

/-- How the loop over the declarations ends. -/
def Q30 (m : Tm) (st0 : St) (k n : Int) (rs : List Tm) (R : Er (List Tm)) (e : Ex) (s' : List D) (b' : List (Nat × List D)) (st' : St) : Prop :=
  match R with
  | .ok ss => e = .exit 0 ∧ getB b' 2 = (1, [.int .i64 0, .int .i64 0, .str [], .nils, .int .i64 0, .int .i64 0]) ∧ ∃ L', getB b' 6 = (1, [.int .i64 k, .int .i64 n, .str [], L', .int .i64 0, .int .i64 0]) ∧ RawT st0 st' L' (rs ++ ss)
  | .error (x, y) => e = .ret ∧ getB b' 2 = (1, [.int .i64 0, .int .i64 0, .str [], .nils, .int .i64 0, .int .i64 0]) ∧ get s' 3 = .int .i64 x ∧ get s' 4 = .int .i64 y

theorem l30 (gm : good m) (hcnt : cntT m ≤ 1000000) (st0 : St) (h00 : 0 < st0.length) :
    ∀ (r i : Nat) (s : List D) (bx : List (Nat × List D)) (st : St) (ret : Tm) (L : D) (rs : List Tm), r = m.l.length - i → i ≤ m.l.length → Lk m ret st .nils [] 0 0 → st0.length ≤ st.length → RawT st0 st L rs → rs.length = i →
      get s 24 = slE 6 m.fl (encTs m.l) → get s 25 = .i m.l.length → get s 26 = .int .i64 i → get s 5 = .hp 0 0 15 0 0 → get s 6 = .lp 6 1 0 → getB bx 6 = (1, [.int .i64 m.k, .int .i64 m.n, .str [], L, .int .i64 0, .int .i64 0]) →
      get s 2 = .lp 2 1 0 → getB bx 2 = (1, [.int .i64 0, .int .i64 0, .str [], .nils, .int .i64 0, .int .i64 0]) →
    Stops (lp T L30_0 ⟨⟨s, bx⟩, st⟩) fun e s' b' st' => Q30 m st0 m.k m.n rs (declsR m i (m.l.drop i)) e s' b' st' := by
  intro r
  induction r with
  | zero =>
    intro i s bx st ret L rs hr hi K hle R hrs h24 h25 h26 h5 h6 b6 h2 b2
    have e : i = m.l.length := by omega
    refine Stops_wp L30_0.eq_1 ?_
    rw [e, List.drop_length]
    simp [h24, h25, h26, h5, e]
    exact ⟨rfl, b2, L, b6, by rw [List.append_nil]; exact R⟩
  | succ r ihr =>
    intro i s bx st ret L rs hr hi K hle R hrs h24 h25 h26 h5 h6 b6 h2 b2
    have hlt : i < m.l.length := by omega
    have hml := good_len gm
    have hw : IntKind.wrap .i64 ((i : Int) + 1) = ((i + 1 : Nat) : Int) := by rw [wrap64] <;> omega
    have gd := good_mem gm (List.getElem_mem hlt)
    have hcd : cntT m.l[i] ≤ 1000000 := by
      have h1 := cnt_l m
      have h2 := cntTs_mem (List.getElem_mem hlt)
      omega
    obtain ⟨d, st1, q, W1, ret1, E⟩ := c69 gm m.l[i] gd hcd i (by omega) K
    have hl1 : 0 < st1.length := by have := W1.1; omega
    have R1 : RawT st0 st1 L rs := R.keep W1.1 fun hne => by
      rcases R.lid with h | ⟨h, h'⟩
      · exact absurd h hne
      · exact W1.2.2 _ h' (by omega) (by show lidOf L ≠ 0; omega)
    obtain ⟨L2, st2, a1, R2, hl2, a3, a4⟩ := R1.app (by omega) (by have := W1.1; omega) d
    have hold : ∀ j, j < st1.length → (j = 0 ∨ j = lidOf D.nils) → St.at st2 j = St.at st1 j := by
      intro j hj hj0
      have : j = 0 := by rcases hj0 with h | h; exact h; exact h
      refine a3 j hj ?_
      rcases R.lid with h | ⟨h, _⟩
      · exact .inl h
      · exact .inr (by omega)
    obtain ⟨x1, x2, x3, x4⟩ := R.facts
    obtain ⟨z1, z2, z3, z4⟩ := R2.facts
    rw [List.drop_eq_getElem_cons hlt, declsR]
    refine Stops_wp L30_0.eq_1 ?_
    cases hD : declR m i m.l[i] with
    | ok w =>
      rw [hD] at E
      obtain ⟨rfl, K1⟩ := E
      have K2 : Lk m ret1 st2 .nils [] 0 0 := K1.keep hl2 hold
      obtain ⟨md2, k2⟩ := K2.h0
      have nx := fun s' bx' => ihr (i + 1) s' bx' st2 ret1 L2 (rs ++ [w]) (by omega) (by omega) K2 (by have := W1.1; omega) R2 (by simp; omega)
      simp only
      have cv : ∀ e s' b' st', Q30 m st0 m.k m.n (rs ++ [w]) (declsR m (i + 1) (m.l.drop (i + 1))) e s' b' st' → Q30 m st0 m.k m.n rs (match declsR m (i + 1) (m.l.drop (i + 1)) with
          | .error e => .error e
          | .ok ss => .ok (w :: ss)) e s' b' st' := by
        intro e s' b' st' h
        cases hR : declsR m (i + 1) (m.l.drop (i + 1)) with
        | ok ss => rw [hR] at h; obtain ⟨h1, h1', L', h2, h3⟩ := h; exact ⟨h1, h1', L', h2, by simpa using h3⟩
        | error v => rw [hR] at h; exact h
      generalize hG : Q30 m st0 m.k m.n rs (match declsR m (i + 1) (m.l.drop (i + 1)) with
          | .error e => .error e
          | .ok ss => .ok (w :: ss)) = G at *
      simp [h24, h25, h26, h5, h6, b6, h2, hlt, hw, ← encT_eq m.l[i], q, a1, x1, x2, x3, x4, z1, z2, z3, k2, lkO, kHs, splice, -Int.natCast_add]
      refine Stops.mono (nx _ _ ?_ ?_ ?_ ?_ ?_ ?_ ?_ ?_) (fun e s' b' st' h => cv e s' b' st' h)
      all_goals simp [h24, h25, h5, h6, h2, b2]
    | error v =>
      obtain ⟨v1, v2⟩ := v
      rw [hD] at E
      obtain ⟨hy, K1⟩ := E
      have K2 : Lk m ret1 st2 .nils [] v1 v2 := K1.keep hl2 hold
      obtain ⟨md2, k2⟩ := K2.h0
      simp only
      unfold Q30
      simp [h24, h25, h26, h5, h6, b6, h2, b2, hlt, hw, ← encT_eq m.l[i], q, a1, x1, x2, x3, x4, z1, z2, z3, k2, lkO, kHs, hy, splice, fillD, -Int.natCast_add]

/-- What 'Module' tells. -/
def tellsM (R : Er Tm) : D := match R with
  | .ok s => .tup [encT s, .int .i64 0, .int .i64 0]
  | .error (x, y) => .tup [encT T0, .int .i64 x, .int .i64 y]

theorem c30 (gm : good m) (hcnt : cntT m ≤ 1000000) (st : St) : callD T (ev T) 30 [encT m] st = some (tellsM (moduleT m), st) := by
  have h0 : ∀ s bx L, _ := fun s bx (L : D) => l30 gm hcnt [lkO m .nils T0 0 0 0] (by simp) m.l.length 0 s bx [lkO m .nils T0 0 0 0] T0 .nils [] (by omega) (by omega) ⟨by simp, ⟨0, rfl⟩, .inl ⟨rfl, rfl⟩⟩ (Nat.le_refl _) (RawT.nil _ _) rfl
  rw [List.drop_zero] at h0
  have hp : (tellsM (moduleT m)).pureT = true := by unfold tellsM; split <;> simp
  refine callD_pureR (fn := F30) rfl rfl (by simp) hp ?_
  refine Ret_wp (fn := F30) rfl ?_
  rw [F30]
  by_cases hk : m.k = 36
  · have e0 : lkO m .nils T0 0 0 0 = .cells true 15 0 0 false [.agg [.int .i64 36, .int .i64 m.n, .str m.s, slE 6 m.fl (encTs m.l), .int .i64 m.a, .int .i64 m.b, .nils, .int .i64 0, .int .i64 0, .str [], .nils, .int .i64 0, .int .i64 0, .int .i64 0, .int .i64 0]] := by rw [lkO, hk]; simp [slE]
    rw [e0, hk] at h0
    simp [hk, splice, fillD]
    refine WL.useB L30_0_p L30_0_w (WB := L30_0.wrB) rfl (h0 _ _ .nils ?_ ?_ ?_ ?_ ?_ ?_ ?_ ?_) ?_
    iterate 8 simp
    rintro e s' b' st' h hf hb
    have e2 := hf 2 rfl
    have e6 := hf 6 rfl
    simp at e2 e6
    unfold moduleT
    rw [if_neg (by omega)]
    cases hD : declsR m 0 m.l with
    | ok ss =>
      rw [hD] at h
      obtain ⟨rfl, p2, L', p6, R⟩ := h
      rw [List.nil_append] at R
      obtain ⟨st2, f, _⟩ := R.fz
      obtain ⟨x1, x2, x3, _⟩ := R.facts
      simp [e2, e6, p2, p6, x1, x2, x3, splice, tellsM, f]
      rw [encT_eq] <;> rfl
    | error v =>
      obtain ⟨v1, v2⟩ := v
      rw [hD] at h
      obtain ⟨rfl, p2, p3, p4⟩ := h
      simp [e2, p2, p3, p4, tellsM]
      rw [encT_0]
  · unfold moduleT
    rw [if_pos hk]
    simp [hk, splice, fillD, tellsM]
    rw [encT_0]

theorem decls_err (gm : good m) : ∀ (l : List Tm) (i : Nat) (a b : Int), Good l → cntTs l ≤ 1000000 → i + l.length ≤ 2000000 → declsR m i l = .error (a, b) → b ≠ 0
  | [], i, a, b, _, _, _, h => by cases h
  | t :: l, i, a, b, G, hc, hi, h => by
    have K0 : Lk m T0 [lkO m .nils T0 0 0 0] .nils [] 0 0 := ⟨by simp, ⟨0, rfl⟩, .inl ⟨rfl, rfl⟩⟩
    have hct : cntT t + cntTs l ≤ 1000000 := by rw [cntTs] at hc; exact hc
    obtain ⟨r, st', _, _, ret1, E⟩ := c69 gm t (G t (by simp)) (by omega) i (by simp at hi; omega) K0
    rw [declsR] at h
    cases hD : declR m i t with
    | error v =>
      obtain ⟨v1, v2⟩ := v
      rw [hD] at h E
      simp only [Except.error.injEq, Prod.mk.injEq] at h
      rw [← h.2]; exact E.1
    | ok s =>
      rw [hD] at h
      simp only at h
      cases hR : declsR m (i + 1) l with
      | error v =>
        obtain ⟨v1, v2⟩ := v
        rw [hR] at h
        simp only [Except.error.injEq, Prod.mk.injEq] at h
        rw [← h.2]
        exact decls_err gm l (i + 1) v1 v2 (fun u hu => G u (by simp [hu])) (by omega) (by simp at hi; omega) hR
      | ok ss => rw [hR] at h; cases h
theorem module_err (gm : good m) (hcnt : cntT m ≤ 1000000) {a b : Int} (h : moduleT m = .error (a, b)) : b ≠ 0 := by
  unfold moduleT at h
  split at h
  · simp only [Except.error.injEq, Prod.mk.injEq] at h; omega
  · cases hR : declsR m 0 m.l with
    | error v =>
      obtain ⟨v1, v2⟩ := v
      rw [hR] at h
      simp only [Except.error.injEq, Prod.mk.injEq] at h
      rw [← h.2]
      exact decls_err gm m.l 0 v1 v2 (fun u hu => good_mem gm hu) (by have := cnt_l m; omega) (by have := good_len gm; omega) hR
    | ok ss => rw [hR] at h; cases h

theorem c31 (gm : good m) (hcnt : cntT m ≤ 1000000) (st : St) : callD T (ev T) 31 [encT m] st = some (.bool (rightT m), st) := by
  have q := fun st => c30 gm hcnt st
  refine callD_pureR (fn := F31) rfl rfl (by simp) (by simp) ?_
  refine Ret_wp (fn := F31) rfl ?_
  rw [F31]
  unfold rightT
  unfold tellsM at q
  cases hM : moduleT m with
  | ok S =>
    rw [hM] at q
    have q70 : ∀ st, callD T (ev T) 70 [encT S, encT m] st = some (.bool (sameR S m), st) := fun st => c70 S m gm st
    simp [← encT_eq, q, q70, splice]
  | error v =>
    obtain ⟨v1, v2⟩ := v
    rw [hM] at q
    have hy := module_err gm hcnt hM
    simp [← encT_eq, q, hy, splice]

theorem e29 : ∃ st', ev T 29 [] [] = some (.bool true, st') := by
  have h : (evT T 400 29 [] []).map (·.1) = some (.bool true) := by kernel_rfl
  obtain ⟨⟨r, st'⟩, h1, h2⟩ := Option.map_eq_some_iff.1 h
  simp only at h2
  subst h2
  exact ⟨st', evT_ev 400 29 [] [] _ h1⟩
theorem c29 (st : St) : callD T (ev T) 29 [] st = some (.bool true, st) := by
  obtain ⟨st', h⟩ := e29
  exact callD_pure (fn := F29) (st2 := st') rfl rfl (by simp) h (by simp) (by simp)

/-- THE LAW. -/
theorem ev8 (m : Tm) (hm : m.ok) : ev T 8 [encT m] [] = some (.bool true, []) := by
  have ha := c29
  obtain ⟨b, h1, h2⟩ := c18 m hm []
  have go : Ret (ev T 8 [encT m] []) fun r st' => (r, st') = (.bool true, []) := by
    refine Ret_wp (fn := F8) rfl ?_
    rw [F8]
    cases b with
    | true => simp [← encT_eq, h1, ha, splice]
    | false =>
      have hc := h2 rfl
      have gm := good_of m hm (by omega)
      have q := fun st => c30 gm (by omega) st
      unfold tellsM at q
      cases hM : moduleT m with
      | error v =>
        obtain ⟨v1, v2⟩ := v
        rw [hM] at q
        have hy := module_err gm (by omega) hM
        simp [← encT_eq, h1, ha, q, hy, splice]
      | ok S =>
        rw [hM] at q
        have f := fit_module gm hM
        have q31 : ∀ st, callD T (ev T) 31 [encT S] st = some (.bool (rightT S), st) := fun st => c31 f.1 (by have := f.2; omega) st
        simp [← encT_eq, h1, ha, q, q31, settles m hM, splice]
  obtain ⟨r, st', h1, h2⟩ := go
  rw [h1, h2]
end Go.Nt.Ty
