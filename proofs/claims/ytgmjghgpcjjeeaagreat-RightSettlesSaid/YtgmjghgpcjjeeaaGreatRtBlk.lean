/-
  THE LAWS OF LAYER 15, plain and walked.
-/
import Derived.Test.YtgmjghgpcjjeeaaGreatTzTop
import Derived.Test.YtgmjghgpcjjeeaaGreatRtDefs
import Derived.Test.YtgmjghgpcjjeeaaGreatRtPure
set_option linter.unusedSimpArgs false
namespace Go.Nt.Ty
open Go Go.Nt

variable {m : Tm} {locs : List Tm}

theorem field_again {n : Int} {s : List UInt8} {a : Tm} (h : (fieldT m n s a).2.2 = true) : fieldT m (fieldT m n s a).1 [] a = fieldT m n s a := by
  unfold fieldT at h ⊢
  split at h
  · next hd =>
    rw [if_pos hd]
    split at h
    · next hs =>
      rw [if_pos hs]
      simp [hd]
    · next hs =>
      rw [if_neg hs]
      obtain ⟨g, _, hp⟩ := declT_rec hd
      split at h
      · next i f hb =>
        simp only [hb]
        simp only [hd, if_true]
        rcases byName_up s (declT m a.n 30).1.l 0 with q | ⟨j, f', q1, _, q3, p, q4, q5, q6⟩
        · rw [q] at hb; cases hb
        · rw [q1] at hb
          simp only [Option.some.injEq, Prod.mk.injEq] at hb
          obtain ⟨rfl, rfl⟩ := hb
          have e1 : (a.n * 64 + (j : Int)).tdiv 64 = a.n := by
            rw [Int.tdiv_eq_ediv_of_nonneg (by omega)]; omega
          have e2 : (a.n * 64 + (j : Int)).tmod 64 = j := by
            rw [Int.tmod_eq_emod_of_nonneg (by omega)]; omega
          have hdec : (declT m a.n 30).1 = m.l[a.n.toNat]'(by omega) ∧ (m.l[a.n.toNat]'(by omega)).k = 30 := by
            unfold declT at hd ⊢
            rw [dif_pos g] at hd ⊢
            split at hd
            · next hk =>
              rw [if_pos hk, if_neg (by omega), if_neg (by omega), if_neg (by omega)] at *
              split at hd
              · cases hd
              · next ha => rw [if_neg ha]; exact ⟨rfl, hk⟩
            · cases hd
          rw [hdec.1] at q4 hp
          rw [Nat.sub_zero] at q4
          obtain ⟨pk, x, px⟩ := hp p (List.mem_of_getElem? q4)
          have et : typField m (a.n * 64 + (j : Int)) = (x, true) := by
            unfold typField
            rw [dif_pos (by rw [e1]; omega)]
            simp only [e1, e2, Int.toNat_natCast, q4]
            rw [if_pos ⟨hdec.2, pk, by rw [px]; rfl⟩, px] <;> rfl
          rw [et, q6, px]
          simp [e1]
      · cases h
  · cases h

theorem rule_again {k n : Int} {s : List UInt8} {d : Tm} {p : List Tm} (h : (ruleT m k n s d p).2.1 = 0) : ruleT m k (ruleT m k n s d p).2.2 [] d p = ruleT m k n s d p := by
  by_cases h13 : k = 13
  · subst h13
    unfold ruleT at h ⊢
    simp only [show ¬ ((13 : Int) = 5 ∨ (13 : Int) = 18 ∨ (13 : Int) = 6 ∨ (13 : Int) = 7 ∨ (13 : Int) = 8 ∨ (13 : Int) = 9) by decide, show ¬ (13 : Int) = 10 by decide, show ¬ (13 : Int) = 11 by decide, show ¬ (13 : Int) = 12 by decide, if_false, if_true] at h ⊢
    match p with
    | [] => rfl
    | a :: b :: l => rfl
    | [a] =>
      simp only at h ⊢
      split at h
      · next hc =>
        rw [if_pos hc]
        split at h
        · next hf =>
          rw [if_pos hf, if_pos hc]
          rw [field_again hf, if_pos hf]
        · cases h
      · cases h
  · rw [ruleT_n h13]
    unfold ruleT
    rw [if_neg (c := k = 13) h13, if_neg (c := k = 13) h13]

theorem shaped_again {t : Tm} (n : Int) (ss : List Tm) (hl : ss.length = t.l.length) (hn : t.k ≠ 13 → n = t.n) : shapedT (.mk t.k n [] .nil ss 0 0) = shapedT t := by
  by_cases h13 : t.k = 13
  · simp [shapedT, h13, hl]
  · rw [hn h13]; unfold shapedT; simp only [k_mk, n_mk, l_mk, hl] <;> rfl

theorem named_again {t : Tm} (n : Int) (ss : List Tm) (hn : t.k ≠ 13 → n = t.n) : namedT m locs (.mk t.k n [] .nil ss 0 0) = namedT m locs t := by
  by_cases h13 : t.k = 13
  · simp [namedT, h13]
  · rw [hn h13]; unfold namedT; simp only [k_mk, n_mk] <;> rfl

/-- What settles is settled. -/
theorem settle (t : Tm) : ∀ a s, ofT m locs t = .ok (a, s) → ofT m locs s = .ok (a, s) := by
  induction t using Tm.ind with
  | h t ih =>
    intro a s ho
    have key : ∀ l : List Tm, (∀ u, u ∈ l → ∀ a s, ofT m locs u = .ok (a, s) → ofT m locs s = .ok (a, s)) → ∀ ts ss, ofTs m locs l = .ok (ts, ss) → ofTs m locs ss = .ok (ts, ss) := by
      intro l
      induction l with
      | nil =>
        intro _ ts ss h
        simp only [ofTs, Except.ok.injEq, Prod.mk.injEq] at h
        rw [← h.1, ← h.2] <;> rfl
      | cons u l ihl =>
        intro hu ts ss h
        rw [ofTs] at h
        cases hq : ofT m locs u with
        | error x => rw [hq] at h; cases h
        | ok x =>
          obtain ⟨a, s⟩ := x
          rw [hq] at h
          cases hr : ofTs m locs l with
          | error y => rw [hr] at h; cases h
          | ok y =>
            obtain ⟨b, c⟩ := y
            rw [hr] at h
            simp only [Except.ok.injEq, Prod.mk.injEq] at h
            rw [← h.1, ← h.2, ofTs, hu u (by simp) a s hq]
            simp only
            rw [ihl (fun v hv => hu v (by simp [hv])) b c hr]
    rw [ofT_eq] at ho
    split at ho
    · cases ho
    · next hs =>
      split at ho
      · cases ho
      · next hn =>
        cases hq : ofTs m locs t.l with
        | error x => rw [hq] at ho; cases ho
        | ok x =>
          obtain ⟨ts, ss⟩ := x
          rw [hq] at ho
          simp only at ho
          split at ho
          · next he =>
            simp only [Except.ok.injEq, Prod.mk.injEq] at ho
            have hlen := (ofTs_len t.l ts ss hq).2
            have hss := key t.l ih ts ss hq
            rw [← ho.1, ← ho.2]
            have hnn : t.k ≠ 13 → (ruleT m t.k t.n t.s (namedT m locs t).1 ts).2.2 = t.n := fun h => ruleT_n h
            rw [ofT, shaped_again _ _ hlen hnn, named_again _ _ hnn, if_neg hs, if_neg hn, hss]
            simp only
            rw [rule_again he, if_pos he]
          · cases ho

theorem local_more {ahead : Tm} {n : Int} {d : Tm} (h : localT locs n = some d) : localT (ahead :: locs) n = some d := by
  unfold localT at h ⊢
  split at h
  · next g =>
    rw [if_pos ⟨g.1, by simp only [List.length_cons]; omega⟩]
    simp only [List.length_cons]
    rw [show locs.length + 1 - 1 - n.toNat = (locs.length - 1 - n.toNat) + 1 by omega, List.getElem?_cons_succ]
    exact h
  · cases h

theorem named_more {ahead t : Tm} (h : (namedT m locs t).2 = true) : namedT m (ahead :: locs) t = namedT m locs t := by
  unfold namedT at h ⊢
  split
  · next h7 =>
    rw [if_pos h7] at h
    split at h
    · next d hd => rw [local_more hd]
    · cases h
  · rfl

/-- Locals ahead of all do not matter. -/
theorem more (ahead t : Tm) : ∀ a s, ofT m locs t = .ok (a, s) → ofT m (ahead :: locs) t = .ok (a, s) := by
  induction t using Tm.ind with
  | h t ih =>
    intro a s ho
    have key : ∀ l : List Tm, (∀ u, u ∈ l → ∀ a s, ofT m locs u = .ok (a, s) → ofT m (ahead :: locs) u = .ok (a, s)) → ∀ ts ss, ofTs m locs l = .ok (ts, ss) → ofTs m (ahead :: locs) l = .ok (ts, ss) := by
      intro l
      induction l with
      | nil => intro _ ts ss h; simpa [ofTs] using h
      | cons u l ihl =>
        intro hu ts ss h
        rw [ofTs] at h ⊢
        cases hq : ofT m locs u with
        | error x => rw [hq] at h; cases h
        | ok x =>
          obtain ⟨a, s⟩ := x
          rw [hq] at h
          rw [hu u (by simp) a s hq]
          cases hr : ofTs m locs l with
          | error y => rw [hr] at h; cases h
          | ok y =>
            obtain ⟨b, c⟩ := y
            rw [hr] at h
            simp only
            rw [ihl (fun v hv => hu v (by simp [hv])) b c hr]
            exact h
    rw [ofT_eq] at ho ⊢
    split at ho
    · cases ho
    · next hs =>
      rw [if_neg hs]
      split at ho
      · cases ho
      · next hn =>
        have hn' : (namedT m locs t).2 = true := by simpa using hn
        rw [named_more hn', if_neg hn]
        cases hq : ofTs m locs t.l with
        | error x => rw [hq] at ho; cases ho
        | ok x =>
          obtain ⟨ts, ss⟩ := x
          rw [hq] at ho
          rw [key t.l ih ts ss hq]
          exact ho


end Go.Nt.Ty

/-
  THE SETTLED MODULE OF A MODULE THAT IS RIGHT SO FAR IS RIGHT, in plain Lean.
-/
set_option linter.unusedSimpArgs false
namespace Go.Nt.Ty
open Go Go.Nt

@[simp] theorem clean_k (t : Tm) : (cleanT t).k = t.k := by rw [cleanT_eq] <;> rfl
@[simp] theorem clean_n (t : Tm) : (cleanT t).n = t.n := by rw [cleanT_eq] <;> rfl
@[simp] theorem clean_l (t : Tm) : (cleanT t).l = t.l.map cleanT := by rw [cleanT_eq] <;> rfl
@[simp] theorem clean_s (t : Tm) : (cleanT t).s = [] := by rw [cleanT_eq] <;> rfl
@[simp] theorem clean_a (t : Tm) : (cleanT t).a = 0 := by rw [cleanT_eq] <;> rfl
@[simp] theorem clean_b (t : Tm) : (cleanT t).b = 0 := by rw [cleanT_eq] <;> rfl

theorem pfl_map (f : Tm → Tm) (l : List Tm) : pfl (l.map f) = pfl l := by cases l <;> rfl

/-- What is flat: without names and places, all the way. -/
theorem sameR_eq (t u : Tm) : sameR t u = (t.k == u.k && (t.n == u.n && (u.s == [] && (u.a == 0 && (u.b == 0 && sameR.sameRs t.l u.l))))) := by cases t; simp [sameR]
theorem sameR_mk (k n : Int) (f g : Fl) (l r : List Tm) (h : sameR.sameRs l r = true) : sameR (.mk k n [] f l 0 0) (.mk k n [] g r 0 0) = true := by
  simp [sameR, h]
theorem sameRs_map (l : List Tm) (h : ∀ u, u ∈ l → sameR (cleanT u) (cleanT u) = true) : sameR.sameRs (l.map cleanT) (l.map cleanT) = true := by
  induction l with
  | nil => rfl
  | cons v l ih =>
    simp only [List.map_cons, sameR.sameRs, Bool.and_eq_true]
    exact ⟨h v (by simp), ih fun u hu => h u (by simp [hu])⟩
theorem sameR_clean (t : Tm) : sameR (cleanT t) (cleanT t) = true := by
  induction t using Tm.ind with
  | h t ih => rw [cleanT_eq]; exact sameR_mk _ _ _ _ _ _ (sameRs_map t.l ih)

mutual
  theorem ofT_flat (m : Tm) (locs : List Tm) : ∀ (t a s : Tm), ofT m locs t = .ok (a, s) → sameR s s = true
    | .mk k n sx fl l x y, a, s, h => by
      rw [ofT_eq] at h
      split at h
      · cases h
      · split at h
        · cases h
        · split at h
          · cases h
          · next ts ss hq =>
            split at h
            · simp only [Except.ok.injEq, Prod.mk.injEq] at h
              rw [← h.2]
              exact sameR_mk _ _ _ _ _ _ (ofTs_flat m locs l ts ss hq)
            · cases h
  theorem ofTs_flat (m : Tm) (locs : List Tm) : ∀ (l ts ss : List Tm), ofTs m locs l = .ok (ts, ss) → sameR.sameRs ss ss = true
    | [], ts, ss, h => by
      simp only [ofTs, Except.ok.injEq, Prod.mk.injEq] at h
      rw [← h.2] <;> rfl
    | t :: l, ts, ss, h => by
      rw [ofTs] at h
      cases hq : ofT m locs t with
      | error x => rw [hq] at h; cases h
      | ok x =>
        obtain ⟨a, s⟩ := x
        rw [hq] at h
        cases hr : ofTs m locs l with
        | error y => rw [hr] at h; cases h
        | ok y =>
          obtain ⟨b, c⟩ := y
          rw [hr] at h
          simp only [Except.ok.injEq, Prod.mk.injEq] at h
          rw [← h.2]
          simp only [sameR.sameRs, Bool.and_eq_true]
          exact ⟨ofT_flat m locs t a s hq, ofTs_flat m locs l b c hr⟩
end

/-! ### Types, cleaned -/

/-- A term without flags and places; and without names. -/
def nfT : Tm → Tm
  | .mk k n s _ l _ _ => .mk k n s .nil (l.map nfT) 0 0
def cnT : Tm → Tm
  | .mk k n _ _ l _ _ => .mk k n [] .nil (l.map cnT) 0 0
theorem nfT_eq (t : Tm) : nfT t = .mk t.k t.n t.s .nil (t.l.map nfT) 0 0 := by cases t; simp [nfT]
theorem cnT_eq (t : Tm) : cnT t = .mk t.k t.n [] .nil (t.l.map cnT) 0 0 := by cases t; simp [cnT]

theorem map_eq_map {f g : Tm → Tm} : ∀ {l r : List Tm}, (∀ u, u ∈ l → ∀ v, f u = f v → g u = g v) → l.map f = r.map f → l.map g = r.map g
  | [], [], _, _ => rfl
  | [], _ :: _, _, h => by simp at h
  | _ :: _, [], _, h => by simp at h
  | u :: l, v :: r, ih, h => by
    simp only [List.map_cons, List.cons.injEq] at h ⊢
    exact ⟨ih u (by simp) v h.1, map_eq_map (fun x hx => ih x (by simp [hx])) h.2⟩
theorem cn_of_nf (a : Tm) : ∀ b, nfT a = nfT b → cnT a = cnT b := by
  induction a using Tm.ind with
  | h a ih =>
    intro b h
    rw [nfT_eq, nfT_eq b] at h
    simp only [Tm.mk.injEq, true_and, and_true] at h
    rw [cnT_eq, cnT_eq b, h.1, h.2.1, map_eq_map ih h.2.2.2]
theorem sameTs_iff : ∀ (l r : List Tm), (∀ u, u ∈ l → ∀ v, sameT u v = true ↔ nfT u = nfT v) → (sameT.sameTs l r = true ↔ l.map nfT = r.map nfT)
  | [], [], _ => by simp [sameT.sameTs]
  | [], _ :: _, _ => by simp [sameT.sameTs]
  | _ :: _, [], _ => by simp [sameT.sameTs]
  | u :: l, v :: r, ih => by
    simp only [sameT.sameTs, Bool.and_eq_true, List.map_cons, List.cons.injEq]
    rw [ih u (by simp) v, sameTs_iff l r fun x hx => ih x (by simp [hx])]
theorem sameT_iff (a : Tm) : ∀ b, sameT a b = true ↔ nfT a = nfT b := by
  induction a using Tm.ind with
  | h a ih =>
    intro b
    rw [sameT_eq, nfT_eq, nfT_eq b]
    simp only [Bool.and_eq_true, beq_iff_eq, Tm.mk.injEq, true_and, and_true]
    rw [sameTs_iff a.l b.l ih]
theorem nf_clean (t : Tm) : nfT (cleanT t) = cnT t := by
  induction t using Tm.ind with
  | h t ih =>
    rw [nfT_eq, cnT_eq]
    simp only [clean_k, clean_n, clean_s, clean_l, List.map_map]
    congr 1
    exact List.map_congr_left ih
theorem cn_clean (t : Tm) : cnT (cleanT t) = cnT t := by
  induction t using Tm.ind with
  | h t ih =>
    rw [cnT_eq, cnT_eq t]
    simp only [clean_k, clean_n, clean_l, List.map_map]
    congr 1
    exact List.map_congr_left ih
theorem nf_bare (t : Tm) : nfT (bareT t) = nfT t := by
  induction t using Tm.ind with
  | h t ih =>
    rw [nfT_eq, bareT_eq, nfT_eq t]
    simp only [k_mk, n_mk, s_mk, l_mk, List.map_map]
    congr 1
    exact List.map_congr_left ih
theorem cn_bare (t : Tm) : cnT (bareT t) = cnT t := cn_of_nf _ _ (nf_bare t)
theorem clean_clean (t : Tm) : cleanT (cleanT t) = cleanT t := by
  induction t using Tm.ind with
  | h t ih =>
    rw [cleanT_eq (cleanT t), clean_l, clean_k, clean_n, pfl_map, List.map_map, cleanT_eq t]
    congr 1
    exact List.map_congr_left ih

/-- A nameless type that is another one's. -/
def Tq (a' a : Tm) : Prop := nfT a' = cnT a
theorem Tq.k {a' a : Tm} (h : Tq a' a) : a'.k = a.k := by have := congrArg Tm.k h; rw [nfT_eq, cnT_eq] at this; exact this
theorem Tq.n {a' a : Tm} (h : Tq a' a) : a'.n = a.n := by have := congrArg Tm.n h; rw [nfT_eq, cnT_eq] at this; exact this
theorem Tq.l {a' a : Tm} (h : Tq a' a) : a'.l.map nfT = a.l.map cnT := by have := congrArg Tm.l h; rw [nfT_eq, cnT_eq] at this; exact this
theorem Tq.len {a' a : Tm} (h : Tq a' a) : a'.l.length = a.l.length := by have := congrArg List.length h.l; simpa using this
theorem Tq.clean (a : Tm) : Tq (cleanT a) a := nf_clean a
theorem Tq.bare {a' a : Tm} (h : Tq a' a) : Tq (bareT a') (bareT a) := by unfold Tq; rw [nf_bare, cn_bare]; exact h
theorem Tq.same {a' a b' b : Tm} (h : Tq a' a) (k : Tq b' b) (e : sameT a b = true) : sameT a' b' = true := by
  rw [sameT_iff] at e ⊢
  rw [h, k]; exact cn_of_nf _ _ e
theorem Tq.K (k : Int) : Tq (tK k) (tK k) := by simp [Tq, nfT, cnT]
theorem Tq.isT {a' a : Tm} (h : Tq a' a) (k : Int) : isT a' k = isT a k := by
  unfold Ty.isT
  rw [h.k]
  have := h.len
  cases ha : a'.l <;> cases hb : a.l <;> simp_all

def Lq (l' l : List Tm) : Prop := l'.map nfT = l.map cnT
theorem Lq.len {l' l : List Tm} (h : Lq l' l) : l'.length = l.length := by have := congrArg List.length h; simpa using this
theorem Lq.get {l' l : List Tm} (h : Lq l' l) {i : Nat} {d : Tm} (hd : l[i]? = some d) : ∃ d', l'[i]? = some d' ∧ Tq d' d := by
  have := congrArg (fun x => x[i]?) h
  simp only [List.getElem?_map, hd, Option.map_some, Option.map_eq_some_iff] at this
  obtain ⟨d', h1, h2⟩ := this
  exact ⟨d', h1, h2⟩
theorem Lq.app {l' l r' r : List Tm} (h : Lq l' l) (k : Lq r' r) : Lq (l' ++ r') (l ++ r) := by unfold Lq; rw [List.map_append, List.map_append, h, k]
theorem Lq.one {a' a : Tm} (h : Tq a' a) : Lq [a'] [a] := by unfold Lq; simp only [List.map_cons, List.map_nil]; rw [h]
theorem Lq.clean (l : List Tm) : Lq (l.map cleanT) l := by unfold Lq; rw [List.map_map]; exact List.map_congr_left fun t _ => nf_clean t

/-! ### Cells -/

theorem arrM_cn (rec : Int → Int) (t : Tm) : ∀ t', Tq t' t → arrM rec t' = arrM rec t := by
  induction t using Tm.ind with
  | h t ih =>
    intro t' h
    have hl := h.l
    rw [arrM_eq, arrM_eq rec t, h.k, h.n]
    cases ha : t'.l with
    | nil =>
      cases hb : t.l with
      | nil => rfl
      | cons y r => rw [ha, hb] at hl; simp at hl
    | cons x l =>
      cases hb : t.l with
      | nil => rw [ha, hb] at hl; simp at hl
      | cons y r =>
        rw [ha, hb] at hl
        simp only [List.map_cons, List.cons.injEq] at hl
        have := ih y (by rw [hb]; simp) x hl.1
        cases l with
        | nil =>
          cases r with
          | nil => simp [this]
          | cons z r => simp at hl
        | cons z l =>
          cases r with
          | nil => simp at hl
          | cons w r => simp

/-- A module's settled form, declaration by declaration. -/
structure Cln (m S : Tm) : Prop where
  len : S.l.length = m.l.length
  kind : ∀ (i : Nat) (d : Tm), m.l[i]? = some d → ∃ d', S.l[i]? = some d' ∧ d'.k = d.k ∧ (d.k ≠ 33 → d' = cleanT d) ∧ (d.k = 33 → ∃ p r b b', d.l = [p, r, b] ∧ d'.l = [cleanT p, cleanT r, b'])

theorem sumM_clean (f g : Tm → Int) (hf : ∀ t, f (cleanT t) = g t) : ∀ (l : List Tm) (acc : Int), sumM f (l.map cleanT) acc = sumM g l acc
  | [], acc => rfl
  | p :: l, acc => by
    rw [List.map_cons, sumM, sumM, clean_l, clean_k]
    cases hp : p.l with
    | nil => rfl
    | cons x r =>
      cases r with
      | nil => simp only [List.map_cons, List.map_nil, hf, sumM_clean f g hf l]
      | cons y r => rfl

theorem Cln.rcs {m S : Tm} (C : Cln m S) : ∀ (r : Nat) (n : Int), recM S r n = recM m r n
  | 0, n => rfl
  | r + 1, n => by
    unfold recM
    by_cases h : 0 ≤ n ∧ n < m.l.length
    · have h' : 0 ≤ n ∧ n < S.l.length := by rw [C.len]; exact h
      rw [dif_pos h, dif_pos h']
      have hlt : n.toNat < m.l.length := by omega
      obtain ⟨d', e1, e2, e3, _⟩ := C.kind n.toNat _ (List.getElem?_eq_getElem hlt)
      have hlt' : n.toNat < S.l.length := by rw [C.len]; exact hlt
      rw [List.getElem?_eq_getElem hlt'] at e1
      have e1 := Option.some.inj e1
      rw [e1, e2]
      split
      · next h30 =>
        rw [e3 (by rw [h30]; decide), clean_l]
        exact sumM_clean _ _ (fun t => by
          rw [arrM_cn _ t _ (Tq.clean t)]
          have : recM S r = recM m r := funext fun n => C.rcs r n
          rw [this]) _ _
      · rfl
    · rw [dif_neg h, dif_neg (by rw [C.len]; exact h)]

theorem Cln.cells {m S : Tm} (C : Cln m S) {t' t : Tm} (h : Tq t' t) : cellsV S t' = cellsV m t := by
  unfold cellsV
  rw [arrM_cn _ t t' h, C.len]
  have : recM S (m.l.length + 1) = recM m (m.l.length + 1) := funext fun n => C.rcs _ n
  rw [this]

/-! ### Declarations -/

theorem litT_clean (t : Tm) : litT (cleanT t) = litT t := by unfold litT; rw [clean_k]
theorem headD_clean (l : List Tm) (h : l ≠ []) : (l.map cleanT).headD T0 = cleanT (l.headD T0) := by cases l with
  | nil => exact absurd rfl h
  | cons x l => rfl

/-- What a declaration is in the settled module. -/
def Dq (k : Int) (d' d : Tm) : Prop := (k ≠ 33 → d' = cleanT d) ∧ (k = 33 → ∃ p r b b', d.l = [p, r, b] ∧ d'.l = [cleanT p, cleanT r, b'])

theorem Cln.decl {m S : Tm} (C : Cln m S) {n k : Int} (hk : k = 30 ∨ k = 31 ∨ k = 32 ∨ k = 33) (h : (declT m n k).2 = true) : (declT S n k).2 = true ∧ Dq k (declT S n k).1 (declT m n k).1 := by
  unfold declT at h ⊢
  by_cases hr : 0 ≤ n ∧ n < m.l.length
  · have hr' : 0 ≤ n ∧ n < S.l.length := by rw [C.len]; exact hr
    rw [dif_pos hr] at h ⊢
    rw [dif_pos hr']
    have hlt : n.toNat < m.l.length := by omega
    have hlt' : n.toNat < S.l.length := by omega
    obtain ⟨d', e1, e2, e3, e4⟩ := C.kind n.toNat _ (List.getElem?_eq_getElem hlt)
    rw [List.getElem?_eq_getElem hlt'] at e1
    have e1 := Option.some.inj e1
    rw [e1, e2]
    generalize m.l[n.toNat] = d at *
    split at h
    · next hd =>
      subst hd
      rw [if_pos rfl, if_pos rfl]
      rcases hk with hk | hk | hk | hk
      · rw [hk] at h ⊢
        have e3 := e3 (by rw [hk]; decide)
        simp only [show ¬ (30 : Int) = 31 by decide, show ¬ (30 : Int) = 32 by decide, show ¬ (30 : Int) = 33 by decide, if_false] at h ⊢
        have hb : (d'.l.any badPart) = (d.l.any badPart) := by
          rw [e3, clean_l, List.any_map]
          congr 1
          funext x
          simp [badPart]
        rw [hb]
        split at h
        · cases h
        · next hb2 =>
          rw [if_neg hb2, if_neg hb2]
          refine ⟨by rw [e3, clean_l, List.length_map]; exact h, fun _ => e3, fun q => by cases q⟩
      · rw [hk] at h ⊢
        have e3 := e3 (by rw [hk]; decide)
        simp only [if_true, Bool.and_eq_true, decide_eq_true_eq] at h ⊢
        have hne : d.l ≠ [] := by intro q; rw [q] at h; simp at h
        rw [e3, clean_l, List.length_map, headD_clean _ hne, litT_clean]
        exact ⟨h, fun _ => rfl, fun q => by cases q⟩
      · rw [hk] at h ⊢
        have e3 := e3 (by rw [hk]; decide)
        simp only [show ¬ (32 : Int) = 31 by decide, if_false, if_true, decide_eq_true_eq] at h ⊢
        rw [e3, clean_l, List.length_map]
        exact ⟨h, fun _ => rfl, fun q => by cases q⟩
      · rw [hk] at h ⊢
        obtain ⟨p, r, b, b', q1, q2⟩ := e4 hk
        simp only [show ¬ (33 : Int) = 31 by decide, show ¬ (33 : Int) = 32 by decide, if_false, if_true, decide_eq_true_eq] at h ⊢
        exact ⟨by rw [q2]; rfl, fun q => absurd rfl q, fun _ => ⟨p, r, b, b', q1, q2⟩⟩
    · cases h
  · rw [dif_neg hr] at h; cases h

/-- What an expression names in the settled module. -/
def Nq (k : Int) (d' d : Tm) : Prop := ((k = 7 ∨ k = 8 ∨ k = 9) → Tq d' d) ∧ (k = 15 → d' = cleanT d) ∧ (k = 16 → ∃ p r b b', d.l = [p, r, b] ∧ d'.l = [cleanT p, cleanT r, b'])

theorem Cln.named {m S : Tm} (C : Cln m S) {locs locs' : List Tm} (L : Lq locs' locs) {t t' : Tm} (hk : t'.k = t.k) (hn : t.k ≠ 13 → t'.n = t.n) (h : (namedT m locs t).2 = true) :
    (namedT S locs' t').2 = true ∧ Nq t.k (namedT S locs' t').1 (namedT m locs t).1 := by
  unfold namedT at h ⊢
  rw [hk]
  by_cases h7 : t.k = 7
  · rw [if_pos h7] at h ⊢
    rw [if_pos h7, hn (by rw [h7]; decide)]
    unfold localT at h ⊢
    rw [L.len]
    split at h
    · next d hd =>
      split at hd
      · next hr =>
        obtain ⟨d', e1, e2⟩ := L.get hd
        rw [if_pos hr, e1]
        exact ⟨rfl, fun _ => e2, fun q => by omega, fun q => by omega⟩
      · cases hd
    · cases h
  · rw [if_neg h7] at h ⊢
    rw [if_neg h7]
    by_cases h8 : t.k = 8
    · rw [if_pos h8] at h ⊢
      rw [if_pos h8, hn (by rw [h8]; decide)]
      split at h
      · next hd =>
        obtain ⟨e1, e2⟩ := C.decl (k := 31) (by simp) hd
        rw [if_pos e1, if_pos hd]
        refine ⟨rfl, fun _ => ?_, fun q => by omega, fun q => by omega⟩
        have e3 := e2.1 (by decide)
        have hne : (declT m t.n 31).1.l ≠ [] := by
          intro q
          unfold declT at hd q
          split at hd
          · next g =>
            rw [dif_pos g] at q
            split at hd
            · next g2 => rw [if_pos g2] at q; simp at q hd; rw [q] at hd; simp at hd
            · cases hd
          · cases hd
        simp only
        rw [e3, clean_l, headD_clean _ hne, litT_clean]
        unfold litT
        split
        · exact Tq.K 1
        · split
          · exact Tq.K 2
          · exact Tq.K 0
      · cases h
    · rw [if_neg h8] at h ⊢
      rw [if_neg h8]
      by_cases h9 : t.k = 9
      · rw [if_pos h9] at h ⊢
        rw [if_pos h9, hn (by rw [h9]; decide)]
        split at h
        · next hd =>
          obtain ⟨e1, e2⟩ := C.decl (k := 32) (by simp) hd
          rw [if_pos e1, if_pos hd]
          refine ⟨rfl, fun _ => ?_, fun q => by omega, fun q => by omega⟩
          have e3 := e2.1 (by decide)
          have hne : (declT m t.n 32).1.l ≠ [] := by
            intro q
            unfold declT at hd q
            split at hd
            · next g =>
              rw [dif_pos g] at q
              split at hd
              · next g2 => rw [if_pos g2] at q; simp at q hd; rw [q] at hd; simp at hd
              · cases hd
            · cases hd
          simp only
          rw [e3, clean_l, headD_clean _ hne]
          exact Tq.clean _
        · cases h
      · rw [if_neg h9] at h ⊢
        rw [if_neg h9]
        by_cases h15 : t.k = 15
        · rw [if_pos h15] at h ⊢
          rw [if_pos h15, hn (by rw [h15]; decide)]
          obtain ⟨e1, e2⟩ := C.decl (k := 30) (by simp) h
          exact ⟨e1, fun q => by omega, fun _ => e2.1 (by decide), fun q => by omega⟩
        · rw [if_neg h15] at h ⊢
          rw [if_neg h15]
          by_cases h16 : t.k = 16
          · rw [if_pos h16] at h ⊢
            rw [if_pos h16, hn (by rw [h16]; decide)]
            obtain ⟨e1, e2⟩ := C.decl (k := 33) (by simp) h
            exact ⟨e1, fun q => by omega, fun q => by omega, fun _ => e2.2 rfl⟩
          · rw [if_neg h16] at h ⊢
            rw [if_neg h16]
            split at h
            · cases h
            · next h17 =>
              rw [if_neg h17]
              exact ⟨rfl, fun q => by omega, fun q => by omega, fun q => by omega⟩

/-! ### Rules -/

theorem allT_clean : ∀ {ts ts' ps : List Tm}, Lq ts' ts → allT ts ps = true → allT ts' (ps.map cleanT) = true
  | [], ts', [], L, _ => by
    have := L.len
    cases ts' with
    | nil => rfl
    | cons x l => simp at this
  | [], _, _ :: _, _, h => by simp [allT] at h
  | _ :: _, _, [], _, h => by simp [allT] at h
  | t :: ts, [], p :: ps, L, _ => by have := L.len; simp at this
  | t :: ts, t' :: ts', p :: ps, L, h => by
    unfold Lq at L
    simp only [List.map_cons, List.cons.injEq] at L
    simp only [allT, Bool.and_eq_true, decide_eq_true_eq] at h
    simp only [List.map_cons, allT, Bool.and_eq_true, decide_eq_true_eq, clean_l, List.length_map]
    refine ⟨⟨h.1.1, ?_⟩, allT_clean L.2 h.2⟩
    have hne : p.l ≠ [] := by intro q; rw [q] at h; simp at h
    rw [headD_clean _ hne]
    exact Tq.same (a := t) (b := bareT (p.l.headD T0)) L.1 (by unfold Tq; rw [nf_bare, nf_clean, cn_bare]) h.1.2

theorem Cln.field {m S : Tm} (C : Cln m S) {n : Int} {s : List UInt8} {a a' : Tm} (ha : Tq a' a) (h : (fieldT m n s a).2.2 = true) :
    ∃ f', fieldT S (fieldT m n s a).1 [] a' = ((fieldT m n s a).1, f', true) ∧ Tq f' (fieldT m n s a).2.1 := by
  have ag := field_again h
  generalize hn : (fieldT m n s a).1 = n' at *
  rw [← ag] at h ⊢
  unfold fieldT at h ⊢
  rw [ha.n]
  split at h
  · next hd =>
    obtain ⟨e1, e2⟩ := C.decl (k := 30) (by simp) hd
    rw [if_pos e1, if_pos hd]
    simp only [if_true, Bool.and_eq_true, decide_eq_true_eq] at h ⊢
    obtain ⟨h1, h2⟩ := h
    unfold typField at h1 ⊢
    split at h1
    · next hr =>
      have hr' : 0 ≤ n' ∧ n'.tdiv 64 < S.l.length := by rw [C.len]; exact hr
      rw [dif_pos hr', dif_pos hr]
      have h0 := Int.tdiv_nonneg hr.1 (by omega : (0 : Int) ≤ 64)
      have hlt : (n'.tdiv 64).toNat < m.l.length := by omega
      have hlt' : (n'.tdiv 64).toNat < S.l.length := by omega
      obtain ⟨d', q1, q2, q3, q4⟩ := C.kind _ _ (List.getElem?_eq_getElem hlt)
      rw [List.getElem?_eq_getElem hlt'] at q1
      have q1 := Option.some.inj q1
      rw [q1]
      generalize m.l[(n'.tdiv 64).toNat] = d at *
      cases hp : d.l[(n'.tmod 64).toNat]? with
      | none => rw [hp] at h1; cases h1
      | some p =>
        rw [hp] at h1
        simp only at h1
        split at h1
        · next hc =>
          have q3 := q3 (by rw [hc.1]; decide)
          have hne : p.l ≠ [] := by intro q; rw [q] at hc; simp at hc
          refine ⟨bareT (cleanT (p.l.headD T0)), ?_, ?_⟩
          · rw [q3, clean_l, List.getElem?_map, hp]
            simp only [Option.map_some, clean_k, clean_l, List.length_map]
            rw [if_pos hc, headD_clean _ hne]
            simp [h2]
          · simp only
            rw [if_pos hc]
            exact (Tq.clean _).bare
        · cases h1
    · cases h1
  · cases h

theorem Cln.rule {m S : Tm} (C : Cln m S) {k n : Int} {s : List UInt8} {d d' : Tm} {p p' : List Tm} (hp : Lq p' p) (hd : Nq k d' d) (h : (ruleT m k n s d p).2.1 = 0) :
    ∃ a', ruleT S k (ruleT m k n s d p).2.2 [] d' p' = (a', 0, (ruleT m k n s d p).2.2) ∧ Tq a' (ruleT m k n s d p).1 := by
  by_cases h1 : k = 5 ∨ k = 18 ∨ k = 6 ∨ k = 7 ∨ k = 8 ∨ k = 9
  · unfold ruleT
    rw [if_pos h1, if_pos h1]
    refine ⟨_, rfl, ?_⟩
    unfold leafT
    by_cases a1 : k = 5 ∨ k = 18
    · rw [if_pos a1, if_pos a1]; exact Tq.K 1
    · rw [if_neg a1, if_neg a1]
      by_cases a2 : k = 6
      · rw [if_pos a2, if_pos a2]; exact Tq.K 2
      · rw [if_neg a2, if_neg a2]
        exact (hd.1 (by omega)).bare
  · have hl := hp.len
    unfold ruleT at h ⊢
    rw [if_neg h1] at h ⊢
    rw [if_neg h1]
    by_cases h10 : k = 10
    · rw [if_pos h10] at h ⊢
      rw [if_pos h10]
      match p, p', hp, hl, h with
      | [a, b], [a', b'], hp, _, h =>
        have ha : Tq a' a := by have := congrArg (fun l => l.headD T0) hp; exact this
        have hb : Tq b' b := by have := congrArg (fun l => l.tail.headD T0) hp; exact this
        have e : binT n a' b' = binT n a b := by unfold binT; rw [ha.isT, ha.isT, hb.isT, hb.isT]
        simp only at h ⊢
        rw [e]
        refine ⟨binT n a b, ?_, ?_⟩
        · rw [h]
        · unfold binT
          split
          · exact Tq.K 2
          · split
            · exact Tq.K 1
            · exact Tq.K 0
      | [], _, _, _, h => cases h
      | [_], _, _, _, h => cases h
      | _ :: _ :: _ :: _, _, _, _, h => cases h
    · rw [if_neg h10] at h ⊢
      rw [if_neg h10]
      by_cases h11 : k = 11
      · rw [if_pos h11] at h ⊢
        rw [if_pos h11]
        match p, p', hp, hl, h with
        | [a], [a'], hp, _, h =>
          have ha : Tq a' a := by have := congrArg (fun l => l.headD T0) hp; exact this
          simp only at h ⊢
          rw [ha.isT, ha.isT]
          split at h
          · next hc => rw [if_pos hc, if_pos hc]; exact ⟨a', rfl, ha⟩
          · cases h
        | [], _, _, _, h => cases h
        | _ :: _ :: _, _, _, _, h => cases h
      · rw [if_neg h11] at h ⊢
        rw [if_neg h11]
        by_cases h12 : k = 12
        · rw [if_pos h12] at h ⊢
          rw [if_pos h12]
          match p, p', hp, hl, h with
          | [a, b], [a', b'], hp, _, h =>
            have ha : Tq a' a := by have := congrArg (fun l => l.headD T0) hp; exact this
            have hb : Tq b' b := by have := congrArg (fun l => l.tail.headD T0) hp; exact this
            simp only at h ⊢
            rw [ha.k, ha.len, hb.isT]
            split at h
            · next hc =>
              rw [if_pos hc, if_pos hc]
              refine ⟨_, rfl, ?_⟩
              have := ha.l
              cases hx : a'.l with
              | nil => have := ha.len; rw [hx] at this; simp at this; omega
              | cons x r =>
                cases hy : a.l with
                | nil => rw [hy] at hc; simp at hc
                | cons y q =>
                  rw [hx, hy] at this
                  simp only [List.map_cons, List.cons.injEq] at this
                  exact this.1
            · cases h
          | [], _, _, _, h => cases h
          | [_], _, _, _, h => cases h
          | _ :: _ :: _ :: _, _, _, _, h => cases h
        · rw [if_neg h12] at h ⊢
          rw [if_neg h12]
          by_cases h13 : k = 13
          · rw [if_pos h13] at h ⊢
            rw [if_pos h13]
            match p, p', hp, hl, h with
            | [a], [a'], hp, _, h =>
              have ha : Tq a' a := by have := congrArg (fun l => l.headD T0) hp; exact this
              have hnil : (a'.l = []) = (a.l = []) := by
                have := ha.len
                cases hx : a'.l <;> cases hy : a.l <;> simp_all
              simp only at h ⊢
              simp only [ha.k, hnil]
              split at h
              · next hc =>
                rw [if_pos hc, if_pos hc]
                split at h
                · next hf =>
                  rw [if_pos hf]
                  obtain ⟨f', e1, e2⟩ := C.field ha hf
                  simp only
                  rw [e1]
                  simp only [if_true]
                  exact ⟨f', rfl, e2⟩
                · cases h
              · cases h
            | [], _, _, _, h => cases h
            | _ :: _ :: _, _, _, _, h => cases h
          · rw [if_neg h13] at h ⊢
            rw [if_neg h13]
            by_cases h14 : k = 14
            · rw [if_pos h14] at h ⊢
              rw [if_pos h14]
              simp only at h ⊢
              unfold listT at h ⊢
              have hh : Tq (p'.headD T0) (p.headD T0) := by
                cases hx : p' with
                | nil =>
                  cases hy : p with
                  | nil => exact Tq.K 0
                  | cons y q => rw [hx, hy] at hl; simp at hl
                | cons x r =>
                  cases hy : p with
                  | nil => rw [hx, hy] at hl; simp at hl
                  | cons y q =>
                    rw [hx, hy] at hp
                    have := congrArg (fun l => l.headD T0) hp
                    exact this
              have hc : Tq (.mk 3 p'.length [] .full [p'.headD T0] 0 0) (.mk 3 p.length [] .full [p.headD T0] 0 0) := by
                unfold Tq
                rw [nfT, cnT, hl]
                simp only [List.map_cons, List.map_nil]
                rw [hh]
              split at h
              · next ha =>
                rw [if_pos ha]
                have ha' : (p'.all fun t => sameT t (p'.headD T0)) = true := by
                  rw [List.all_eq_true] at ha ⊢
                  intro x hx
                  obtain ⟨i, hi, rfl⟩ := List.getElem_of_mem hx
                  have hi' : i < p.length := by rw [← hl]; exact hi
                  obtain ⟨x', e1, e2⟩ := hp.get (List.getElem?_eq_getElem hi')
                  rw [List.getElem?_eq_getElem hi] at e1
                  rw [Option.some.inj e1]
                  exact e2.same hh (ha _ (List.getElem_mem hi'))
                rw [if_pos ha', C.cells hc]
                split at h
                · cases h
                · next hz =>
                  rw [if_neg hz, if_neg hz]
                  exact ⟨_, rfl, hc⟩
              · cases h
            · rw [if_neg h14] at h ⊢
              rw [if_neg h14]
              by_cases h15 : k = 15
              · rw [if_pos h15] at h ⊢
                rw [if_pos h15]
                split at h
                · next ha =>
                  rw [if_pos ha, hd.2.1 h15, clean_l, if_pos (allT_clean hp ha)]
                  exact ⟨_, rfl, by simp [Tq, nfT, cnT]⟩
                · cases h
              · rw [if_neg h15] at h ⊢
                rw [if_neg h15]
                by_cases h16 : k = 16
                · rw [if_pos h16] at h ⊢
                  rw [if_pos h16]
                  obtain ⟨q, r, b, b', d1, d2⟩ := hd.2.2 h16
                  rw [d1] at h ⊢
                  rw [d2]
                  simp only [List.headD_cons, List.tail_cons] at h ⊢
                  by_cases ha : allT p q.l = true
                  · have hc : allT p' (cleanT q).l = true := by rw [clean_l]; exact allT_clean hp ha
                    simp only [ha, hc, if_true]
                    exact ⟨_, rfl, (Tq.clean r).bare⟩
                  · simp [ha] at h
                · rw [if_neg h16] at h; cases h

/-- An expression's settled form, in the settled module, is of the same type, and settled. -/
theorem Cln.ofq {m S : Tm} (C : Cln m S) {locs locs' : List Tm} (L : Lq locs' locs) (t : Tm) : ∀ a s, Ty.ofT m locs t = .ok (a, s) → s.k = t.k ∧ ∃ a', Ty.ofT S locs' s = .ok (a', s) ∧ Tq a' a := by
  induction t using Tm.ind with
  | h t ih =>
    intro a s ho
    have key : ∀ l : List Tm, (∀ u, u ∈ l → ∀ a s, Ty.ofT m locs u = .ok (a, s) → s.k = u.k ∧ ∃ a', Ty.ofT S locs' s = .ok (a', s) ∧ Tq a' a) → ∀ ts ss, ofTs m locs l = .ok (ts, ss) → ∃ ts', ofTs S locs' ss = .ok (ts', ss) ∧ Lq ts' ts := by
      intro l
      induction l with
      | nil =>
        intro _ ts ss h
        simp only [ofTs, Except.ok.injEq, Prod.mk.injEq] at h
        rw [← h.1, ← h.2]
        exact ⟨[], rfl, rfl⟩
      | cons u l ihl =>
        intro hu ts ss h
        rw [ofTs] at h
        cases hq : Ty.ofT m locs u with
        | error x => rw [hq] at h; cases h
        | ok x =>
          obtain ⟨a, s⟩ := x
          rw [hq] at h
          cases hr : ofTs m locs l with
          | error y => rw [hr] at h; cases h
          | ok y =>
            obtain ⟨b, c⟩ := y
            rw [hr] at h
            simp only [Except.ok.injEq, Prod.mk.injEq] at h
            obtain ⟨_, a', e1, e2⟩ := hu u (by simp) a s hq
            obtain ⟨ts', e3, e4⟩ := ihl (fun v hv => hu v (by simp [hv])) b c hr
            rw [← h.1, ← h.2]
            refine ⟨a' :: ts', by rw [ofTs, e1]; simp only; rw [e3], ?_⟩
            unfold Lq
            simp only [List.map_cons]
            rw [e2, e4]
    rw [ofT_eq] at ho
    split at ho
    · cases ho
    · next hs =>
      split at ho
      · cases ho
      · next hn =>
        cases hq : ofTs m locs t.l with
        | error x => rw [hq] at ho; cases ho
        | ok x =>
          obtain ⟨ts, ss⟩ := x
          rw [hq] at ho
          simp only at ho
          split at ho
          · next he =>
            simp only [Except.ok.injEq, Prod.mk.injEq] at ho
            have hlen := (ofTs_len t.l ts ss hq).2
            obtain ⟨ts', e1, e2⟩ := key t.l ih ts ss hq
            rw [← ho.1, ← ho.2]
            have hnn : t.k ≠ 13 → (ruleT m t.k t.n t.s (namedT m locs t).1 ts).2.2 = t.n := fun h => ruleT_n h
            obtain ⟨n1, n2⟩ := C.named L (t := t) (t' := .mk t.k (ruleT m t.k t.n t.s (namedT m locs t).1 ts).2.2 [] .nil ss 0 0) rfl hnn (by simpa using hn)
            obtain ⟨a', r1, r2⟩ := C.rule e2 n2 he
            refine ⟨rfl, a', ?_, r2⟩
            rw [Ty.ofT, shaped_again _ _ hlen hnn, if_neg hs, if_neg (by rw [n1]; simp), e1]
            simp only
            rw [r1]
            simp
          · cases ho
end Go.Nt.Ty

/-
  THE SETTLED MODULE OF A MODULE THAT IS RIGHT SO FAR IS RIGHT, in plain Lean (2): statements, declarations.
-/
set_option linter.unusedSimpArgs false
namespace Go.Nt.Ty
open Go Go.Nt

variable {m S : Tm}

theorem ofTs_head {locs : List Tm} : ∀ {l ts ss : List Tm}, ofTs m locs l = .ok (ts, ss) → ∀ (x : Tm) (r : List Tm), l = x :: r → ∃ a y q, ss = y :: q ∧ ofT m locs x = .ok (a, y)
  | [], _, _, _, x, r, h => by cases h
  | t :: l, ts, ss, h, x, r, e => by
    cases e
    rw [ofTs] at h
    cases hq : ofT m locs t with
    | error x => rw [hq] at h; cases h
    | ok x =>
      obtain ⟨a, s⟩ := x
      rw [hq] at h
      cases hr : ofTs m locs l with
      | error y => rw [hr] at h; cases h
      | ok y =>
        obtain ⟨b, c⟩ := y
        rw [hr] at h
        simp only [Except.ok.injEq, Prod.mk.injEq] at h
        exact ⟨a, s, c, h.2.symm, rfl⟩

theorem rootT_eq (t : Tm) : rootT t = if t.k = 12 ∨ t.k = 13 then (match t.l with | [] => t | x :: _ => rootT x) else t := by
  cases t with
  | mk k n s fl l a b => rw [rootT.eq_def] <;> rfl
theorem root_in {t : Tm} (h : t.k = 12 ∨ t.k = 13) : rootT t = (match t.l with | [] => t | x :: _ => rootT x) := by rw [rootT_eq, if_pos h]
theorem root_out {t : Tm} (h : ¬ (t.k = 12 ∨ t.k = 13)) : rootT t = t := by rw [rootT_eq, if_neg h]

/-- A settled place's root. -/
theorem root_settle {locs : List Tm} (t : Tm) : ∀ a s, ofT m locs t = .ok (a, s) → (rootT s).k = (rootT t).k := by
  induction t using Tm.ind with
  | h t ih =>
    intro a s ho
    rw [ofT_eq] at ho
    split at ho
    · cases ho
    · split at ho
      · cases ho
      · cases hq : ofTs m locs t.l with
        | error x => rw [hq] at ho; cases ho
        | ok x =>
          obtain ⟨ts, ss⟩ := x
          rw [hq] at ho
          simp only at ho
          split at ho
          · simp only [Except.ok.injEq, Prod.mk.injEq] at ho
            rw [← ho.2]
            by_cases hk : t.k = 12 ∨ t.k = 13
            · rw [root_in hk, root_in (t := .mk t.k _ [] .nil ss 0 0) hk, l_mk]
              cases hl : t.l with
              | nil =>
                rw [hl] at hq
                simp only [ofTs, Except.ok.injEq, Prod.mk.injEq] at hq
                rw [← hq.2]
                rfl
              | cons x r =>
                obtain ⟨a', y, q, e1, e2⟩ := ofTs_head hq x r hl
                rw [e1]
                exact ih x (by rw [hl]; simp) a' y e2
            · rw [root_out hk, root_out (t := .mk t.k _ [] .nil ss 0 0) hk] <;> rfl
          · cases ho

theorem Cln.only (C : Cln m S) {locs locs' : List Tm} (L : Lq locs' locs) {t s : Tm} {k1 k2 : Int} (h : onlyT m locs t k1 k2 = .ok s) : s.k = t.k ∧ onlyT S locs' s k1 k2 = .ok s ∧ sameR s s = true := by
  unfold onlyT at h ⊢
  cases hq : ofT m locs t with
  | error x => rw [hq] at h; cases h
  | ok x =>
    obtain ⟨a, y⟩ := x
    rw [hq] at h
    simp only at h
    split at h
    · next hc =>
      simp only [Except.ok.injEq] at h
      subst h
      obtain ⟨e1, a', e2, e3⟩ := C.ofq L t a y hq
      refine ⟨e1, ?_, ofT_flat m locs t a y hq⟩
      rw [e2]
      simp only
      rw [e3.isT, e3.isT, if_pos hc]
    · cases h

theorem Cln.kindq (C : Cln m S) {t s : Tm} (h : Ty.kindT m t = .ok s) : s = cleanT t ∧ Ty.kindT S s = .ok s := by
  unfold Ty.kindT at h ⊢
  split at h
  · cases h
  · next hz =>
    simp only [Except.ok.injEq] at h
    subst h
    rw [C.cells (Tq.clean t), if_neg hz, clean_clean]
    exact ⟨rfl, rfl⟩

theorem Cln.leafq (C : Cln m S) {ret ret' : Tm} (hr : Tq ret' ret) {locs locs' : List Tm} (L : Lq locs' locs) {k a0 : Int} {l ss l1 : List Tm} (h : Ty.leafS m ret locs k a0 l = .ok (ss, l1)) (a1 : Int) :
    ss.map Tm.k = l.map Tm.k ∧ ∃ l1', Ty.leafS S ret' locs' k a1 ss = .ok (ss, l1') ∧ Lq l1' l1 ∧ sameR.sameRs ss ss = true := by
  unfold Ty.leafS at h
  match l, h with
  | [], h => cases h
  | _ :: _ :: _ :: _, h => cases h
  | [t], h =>
    simp only at h
    split at h
    · next h20 =>
      cases hq : ofT m locs t with
      | error x => rw [hq] at h; cases h
      | ok x =>
        obtain ⟨a, y⟩ := x
        rw [hq] at h
        simp only [Except.ok.injEq, Prod.mk.injEq] at h
        obtain ⟨rfl, rfl⟩ := h
        obtain ⟨e1, a', e2, e3⟩ := C.ofq L t a y hq
        refine ⟨by simp [e1], locs' ++ [a'], ?_, L.app (Lq.one e3), by simp [sameR.sameRs, ofT_flat m locs t a y hq]⟩
        simp only [Ty.leafS]
        rw [if_pos h20, e2]
    · next h20 =>
      split at h
      · next h21 =>
        cases hq : Ty.kindT m t with
        | error x => rw [hq] at h; cases h
        | ok y =>
          rw [hq] at h
          simp only [Except.ok.injEq, Prod.mk.injEq] at h
          obtain ⟨rfl, rfl⟩ := h
          obtain ⟨e1, e2⟩ := C.kindq hq
          subst e1
          refine ⟨by simp, locs' ++ [cleanT t], ?_, L.app (Lq.one (Tq.clean t)), by simp [sameR.sameRs, sameR_clean]⟩
          simp only [Ty.leafS]
          rw [if_neg h20, if_pos h21, e2]
      · next h21 =>
        split at h
        · next h26 =>
          cases hq : onlyT m locs t 1 2 with
          | error x => rw [hq] at h; cases h
          | ok y =>
            rw [hq] at h
            simp only [Except.ok.injEq, Prod.mk.injEq] at h
            obtain ⟨rfl, rfl⟩ := h
            obtain ⟨e1, e2, e3⟩ := C.only L hq
            refine ⟨by simp [e1], locs', ?_, L, by simp [sameR.sameRs, e3]⟩
            simp only [Ty.leafS]
            rw [if_neg h20, if_neg h21, if_pos h26, e2]
        · next h26 =>
          split at h
          · next h27 =>
            cases hq : ofT m locs t with
            | error x => rw [hq] at h; cases h
            | ok x =>
              obtain ⟨a, y⟩ := x
              rw [hq] at h
              simp only at h
              split at h
              · next hs =>
                simp only [Except.ok.injEq, Prod.mk.injEq] at h
                obtain ⟨rfl, rfl⟩ := h
                obtain ⟨e1, a', e2, e3⟩ := C.ofq L t a y hq
                refine ⟨by simp [e1], locs', ?_, L, by simp [sameR.sameRs, ofT_flat m locs t a y hq]⟩
                simp only [Ty.leafS]
                rw [if_neg h20, if_neg h21, if_neg h26, if_pos h27, e2]
                simp only
                rw [if_pos (e3.same hr.bare hs)]
              · cases h
          · next h27 =>
            split at h
            · cases h
            · next h16 =>
              cases hq : ofT m locs t with
              | error x => rw [hq] at h; cases h
              | ok x =>
                obtain ⟨a, y⟩ := x
                rw [hq] at h
                simp only [Except.ok.injEq, Prod.mk.injEq] at h
                obtain ⟨rfl, rfl⟩ := h
                obtain ⟨e1, a', e2, e3⟩ := C.ofq L t a y hq
                refine ⟨by simp [e1], locs', ?_, L, by simp [sameR.sameRs, ofT_flat m locs t a y hq]⟩
                simp only [Ty.leafS]
                rw [if_neg h20, if_neg h21, if_neg h26, if_neg h27, e1, if_neg h16, e2]
  | [t, u], h =>
    simp only at h
    cases hq : ofT m locs t with
    | error x => rw [hq] at h; cases h
    | ok x =>
      obtain ⟨a, y⟩ := x
      rw [hq] at h
      simp only at h
      cases hu : ofT m locs u with
      | error x => rw [hu] at h; cases h
      | ok x =>
        obtain ⟨b, v⟩ := x
        rw [hu] at h
        simp only at h
        split at h
        · cases h
        · next hrt =>
          split at h
          · next hs =>
            simp only [Except.ok.injEq, Prod.mk.injEq] at h
            obtain ⟨rfl, rfl⟩ := h
            obtain ⟨e1, a', e2, e3⟩ := C.ofq L t a y hq
            obtain ⟨f1, b', f2, f3⟩ := C.ofq L u b v hu
            refine ⟨by simp [e1, f1], locs', ?_, L, by simp [sameR.sameRs, ofT_flat m locs t a y hq, ofT_flat m locs u b v hu]⟩
            simp only [Ty.leafS]
            rw [e2]
            simp only
            rw [f2]
            simp only
            rw [root_settle t a y hq, if_neg hrt, if_pos (e3.same f3 hs)]
          · cases h

/-- A statement's shape hangs on its kind and its parts' kinds. -/
theorem shape_kinds {k n n' a a' b b' : Int} {s s' : List UInt8} {f f' : Fl} {l l' : List Tm} (h : l'.map Tm.k = l.map Tm.k) : shapeT (.mk k n' s' f' l' a' b') = shapeT (.mk k n s f l a b) := by
  have hl : l'.length = l.length := by have := congrArg List.length h; simpa using this
  have ha : ∀ j, ((l'.drop j).all fun x => decide (x.k = 29)) = ((l.drop j).all fun x => decide (x.k = 29)) := by
    intro j
    have e : ∀ r : List Tm, (r.all fun x => decide (x.k = 29)) = ((r.map Tm.k).all fun x => decide (x = 29)) := fun r => by rw [List.all_map] <;> rfl
    rw [e, e, List.map_drop, List.map_drop, h]
  unfold shapeT
  simp only [k_mk, l_mk, hl, ha]
  rfl

mutual
  theorem stmt_again (C : Cln m S) {ret ret' : Tm} (hr : Tq ret' ret) : ∀ (t : Tm) (locs locs' : List Tm) (s : Tm) (l1 : List Tm), Lq locs' locs → stmtT m ret locs t = .ok (s, l1) →
      s.k = t.k ∧ ∃ s' l1', stmtT S ret' locs' s = .ok (s', l1') ∧ Lq l1' l1 ∧ sameR s' s = true
    | .mk k n sx fl l a b, locs, locs', s, l1, L, h => by
      rw [stmtT] at h
      split at h
      · cases h
      · next hs =>
        split at h
        · next h29 =>
          cases hq : blkT m ret locs l with
          | error e => rw [hq] at h; cases h
          | ok ss =>
            rw [hq] at h
            simp only [Except.ok.injEq, Prod.mk.injEq] at h
            obtain ⟨rfl, rfl⟩ := h
            obtain ⟨ss', e1, e2⟩ := blk_again C hr l locs locs' ss L hq
            refine ⟨h29.symm, .mk 29 n [] (pfl ss') ss' 0 0, locs', ?_, L, sameR_mk _ _ _ _ _ _ e2⟩
            rw [stmtT]
            rw [if_neg (by simp [shapeT]), if_pos rfl, e1]
        · next h29 =>
          split at h
          · next hn =>
            cases hq : nesT m ret k (if k = 25 then 1 else 2) locs l with
            | error e => rw [hq] at h; cases h
            | ok ss =>
              rw [hq] at h
              simp only [Except.ok.injEq, Prod.mk.injEq] at h
              obtain ⟨rfl, rfl⟩ := h
              obtain ⟨hk, ss', e1, e2⟩ := nes_again C hr k (if k = 25 then 1 else 2) l locs locs' ss L hq
              refine ⟨rfl, .mk k n [] (pfl ss') ss' 0 0, locs', ?_, L, sameR_mk _ _ _ _ _ _ e2⟩
              rw [stmtT]
              rw [shape_kinds (n := n) (a := a) (b := b) (s := sx) (f := fl) hk, if_neg hs, if_neg h29, if_pos hn, e1]
          · next hn =>
            cases hq : Ty.leafS m ret locs k a l with
            | error e => rw [hq] at h; cases h
            | ok x =>
              obtain ⟨ss, l2⟩ := x
              rw [hq] at h
              simp only [Except.ok.injEq, Prod.mk.injEq] at h
              obtain ⟨rfl, rfl⟩ := h
              obtain ⟨hk, l1', e1, e2, e3⟩ := C.leafq hr L hq 0
              refine ⟨rfl, .mk k n [] .full ss 0 0, l1', ?_, e2, sameR_mk _ _ _ _ _ _ e3⟩
              rw [stmtT]
              rw [shape_kinds (n := n) (a := a) (b := b) (s := sx) (f := fl) hk, if_neg hs, if_neg h29, if_neg hn, e1]
  theorem blk_again (C : Cln m S) {ret ret' : Tm} (hr : Tq ret' ret) : ∀ (l : List Tm) (locs locs' : List Tm) (ss : List Tm), Lq locs' locs → blkT m ret locs l = .ok ss → ∃ ss', blkT S ret' locs' ss = .ok ss' ∧ sameR.sameRs ss' ss = true
    | [], locs, locs', ss, L, h => by
      rw [blkT] at h
      simp only [Except.ok.injEq] at h
      subst h
      exact ⟨[], by rw [blkT], rfl⟩
    | t :: l, locs, locs', ss, L, h => by
      rw [blkT] at h
      cases hq : stmtT m ret locs t with
      | error e => rw [hq] at h; cases h
      | ok x =>
        obtain ⟨s, l1⟩ := x
        rw [hq] at h
        simp only at h
        cases hb : blkT m ret l1 l with
        | error e => rw [hb] at h; cases h
        | ok r =>
          rw [hb] at h
          simp only [Except.ok.injEq] at h
          subst h
          obtain ⟨_, s', l1', e1, e2, e3⟩ := stmt_again C hr t locs locs' s l1 L hq
          obtain ⟨r', f1, f2⟩ := blk_again C hr l l1 l1' r e2 hb
          refine ⟨s' :: r', ?_, by simp [sameR.sameRs, e3, f2]⟩
          rw [blkT, e1]
          simp only
          rw [f1]
  theorem nes_again (C : Cln m S) {ret ret' : Tm} (hr : Tq ret' ret) (k want : Int) : ∀ (l : List Tm) (locs locs' : List Tm) (ss : List Tm), Lq locs' locs → nesT m ret k want locs l = .ok ss →
      ss.map Tm.k = l.map Tm.k ∧ ∃ ss', nesT S ret' k want locs' ss = .ok ss' ∧ sameR.sameRs ss' ss = true
    | [], locs, locs', ss, L, h => by
      rw [nesT] at h
      simp only [Except.ok.injEq] at h
      subst h
      exact ⟨rfl, [], by rw [nesT], rfl⟩
    | .mk xk xn xs xfl xl xa xb :: l, locs, locs', ss, L, h => by
      rw [nesT] at h
      have L1 : Lq (if k = 25 then locs' ++ [tK 1] else locs') (if k = 25 then locs ++ [tK 1] else locs) := by
        split
        · exact L.app (Lq.one (Tq.K 1))
        · exact L
      have L2 : Lq (if xk = 29 ∧ k = 25 then locs' ++ [tK 1] else locs') (if xk = 29 ∧ k = 25 then locs ++ [tK 1] else locs) := by
        split
        · exact L.app (Lq.one (Tq.K 1))
        · exact L
      by_cases h29 : xk ≠ 29
      · rw [if_pos h29] at h
        cases hq : onlyT m locs (.mk xk xn xs xfl xl xa xb) want want with
        | error e => rw [hq] at h; cases h
        | ok s =>
          rw [hq] at h
          simp only at h
          cases hb : nesT m ret k want (if xk = 29 ∧ k = 25 then locs ++ [tK 1] else locs) l with
          | error e => rw [hb] at h; cases h
          | ok r =>
            rw [hb] at h
            simp only [Except.ok.injEq] at h
            subst h
            obtain ⟨e1, e2, e3⟩ := C.only L hq
            obtain ⟨f0, r', f1, f2⟩ := nes_again C hr k want l _ _ r L2 hb
            refine ⟨by simp [e1, f0], s :: r', ?_, by simp [sameR.sameRs, e3, f2]⟩
            cases s with
            | mk sk sn ssx sfl sl sa sb =>
              simp only [k_mk] at e1
              subst e1
              rw [nesT, if_pos h29, e2]
              simp only
              rw [f1]
      · rw [if_neg h29] at h
        have h29 : xk = 29 := by omega
        subst h29
        cases hq : blkT m ret (if k = 25 then locs ++ [tK 1] else locs) xl with
        | error e => rw [hq] at h; cases h
        | ok s =>
          rw [hq] at h
          dsimp only at h
          cases hb : nesT m ret k want (if (29 : Int) = 29 ∧ k = 25 then locs ++ [tK 1] else locs) l with
          | error e => rw [hb] at h; cases h
          | ok r =>
            rw [hb] at h
            simp only [Except.ok.injEq] at h
            subst h
            obtain ⟨s', e1, e2⟩ := blk_again C hr xl _ _ s L1 hq
            obtain ⟨f0, r', f1, f2⟩ := nes_again C hr k want l _ _ r L2 hb
            refine ⟨by simp [f0], .mk 29 xn [] (pfl s') s' 0 0 :: r', ?_, by simp only [sameR.sameRs, Bool.and_eq_true]; exact ⟨sameR_mk _ _ _ _ _ _ e2, f2⟩⟩
            rw [nesT, if_neg (by simp), e1]
            dsimp only
            rw [f1]
end

theorem parted_clean (l : List Tm) : partedT (l.map cleanT) = partedT l := by
  unfold partedT
  rw [List.all_map]
  congr 1
  funext p
  simp

theorem plain_clean (t : Tm) : plainT (cleanT t) = plainT t := by
  induction t using Tm.ind with
  | h t ih =>
    rw [cleanT_eq]
    cases t with
    | mk k n s fl l a b =>
      rw [plainT.eq_def, plainT.eq_def (.mk k n s fl l a b)]
      simp only [k_mk, l_mk]
      cases l with
      | nil => rfl
      | cons x r =>
        simp only [List.map_cons]
        rw [ih x (by simp [l_mk])]
        rfl

theorem Cln.kinds (C : Cln m S) : ∀ (l : List Tm), kindsT m l = .ok () → kindsT S (l.map cleanT) = .ok ()
  | [], _ => rfl
  | t :: l, h => by
    rw [kindsT] at h
    split at h
    · cases h
    · next hz =>
      rw [List.map_cons, kindsT, C.cells (Tq.clean t), if_neg hz]
      exact C.kinds l h
theorem plains_clean : ∀ (l : List Tm), plainsT m l = .ok () → plainsT S (l.map cleanT) = .ok ()
  | [], _ => rfl
  | t :: l, h => by
    rw [plainsT] at h
    split at h
    · cases h
    · next hz =>
      rw [List.map_cons, plainsT, plain_clean, if_neg hz]
      exact plains_clean l h

theorem heads_clean (l : List Tm) (h : partedT l = true) : (l.map cleanT).map (fun x => x.l.headD T0) = (l.map fun x => x.l.headD T0).map cleanT := by
  rw [List.map_map, List.map_map]
  refine List.map_congr_left fun p hp => ?_
  unfold partedT at h
  have := List.all_eq_true.1 h p hp
  simp only [Bool.and_eq_true, decide_eq_true_eq] at this
  simp only [Function.comp, clean_l]
  exact headD_clean _ (by intro q; rw [q] at this; simp at this)

/-- A function's head, in the settled module. -/
theorem Cln.head (C : Cln m S) {t t' : Tm} {tys : List Tm} {p r b b' : Tm} (h1 : t.l = [p, r, b]) (h2 : t'.l = [cleanT p, cleanT r, b']) (hn : t'.n = t.n) (hb : b'.k = 29) (h : headT m t = .ok tys) : headT S t' = .ok (tys.map cleanT) := by
  unfold headT at h ⊢
  rw [h1] at h
  rw [h2]
  simp only at h ⊢
  split at h
  · cases h
  · next hc =>
    have hpt : partedT p.l = true := by
      cases hq : partedT p.l with
      | true => rfl
      | false => exact absurd (.inr (.inr (.inl hq))) hc
    have hc' : ¬ ((t'.n ≠ 0 ∧ t'.n ≠ 1) ∨ (cleanT p).k ≠ 35 ∨ partedT (cleanT p).l = false ∨ b'.k ≠ 29) := by
      rw [hn, clean_k, clean_l, parted_clean]
      rintro (q | q | q | q)
      · exact hc (.inl q)
      · exact hc (.inr (.inl q))
      · exact hc (.inr (.inr (.inl q)))
      · exact q hb
    rw [if_neg hc']
    have hall : (cleanT p).l.map (fun x => x.l.headD T0) ++ [cleanT r] = (p.l.map (fun x => x.l.headD T0) ++ [r]).map cleanT := by
      rw [clean_l, heads_clean _ hpt, List.map_append] <;> rfl
    rw [hall, hn]
    cases hk : kindsT m (p.l.map (fun x => x.l.headD T0) ++ [r]) with
    | error e => rw [hk] at h; cases h
    | ok u =>
      rw [hk] at h
      simp only at h
      rw [C.kinds _ hk]
      simp only
      by_cases h1 : t.n = 1
      · rw [if_pos h1] at h ⊢
        cases hp : plainsT m (p.l.map (fun x => x.l.headD T0) ++ [r]) with
        | error e => rw [hp] at h; cases h
        | ok u =>
          rw [hp] at h
          simp only [Except.ok.injEq] at h
          rw [plains_clean (S := S) _ hp]
          simp only [Except.ok.injEq]
          rw [clean_l, heads_clean _ hpt, h]
      · rw [if_neg h1] at h ⊢
        simp only [Except.ok.injEq] at h ⊢
        rw [clean_l, heads_clean _ hpt, h]

/-- What a declaration settles to. -/
theorem declR_kind {i : Nat} {d s : Tm} (h : declR m i d = .ok s) : s.k = d.k ∧ (d.k ≠ 33 → s = cleanT d) ∧ (d.k = 33 → ∃ p r b b' tys, d.l = [p, r, b] ∧ s.l = [cleanT p, cleanT r, b'] ∧ s.n = d.n ∧ headT m d = .ok tys ∧ ∃ ss, blkT m r tys b.l = .ok ss ∧ s = .mk 33 d.n [] .part [cleanT p, cleanT r, .mk 29 b.n [] (pfl ss) ss 0 0] 0 0) := by
  unfold declR at h
  split at h
  · next hk =>
    split at h
    · cases h
    · split at h
      · cases h
      · simp only [Except.ok.injEq] at h; subst h
        exact ⟨clean_k d, fun _ => rfl, fun q => by omega⟩
  · split at h
    · split at h
      · cases h
      · simp only [Except.ok.injEq] at h; subst h
        exact ⟨clean_k d, fun _ => rfl, fun q => by omega⟩
    · split at h
      · split at h
        · cases h
        · simp only [Except.ok.injEq] at h; subst h
          exact ⟨clean_k d, fun _ => rfl, fun q => by omega⟩
      · split at h
        · next hk =>
          cases hh : headT m d with
          | error e => rw [hh] at h; cases h
          | ok tys =>
            rw [hh] at h
            simp only at h
            have hl : ∃ p r b, d.l = [p, r, b] := by
              unfold headT at hh
              split at hh
              · next p r b hl => exact ⟨p, r, b, hl⟩
              · cases hh
            obtain ⟨p, r, b, hl⟩ := hl
            rw [hl] at h
            simp only [List.headD_cons, List.tail_cons] at h
            cases hb : blkT m r tys b.l with
            | error e => rw [hb] at h; cases h
            | ok ss =>
              rw [hb] at h
              simp only [Except.ok.injEq] at h
              subst h
              exact ⟨hk.symm, fun q => absurd hk q, fun _ => ⟨p, r, b, _, tys, hl, rfl, rfl, rfl, ss, hb, rfl⟩⟩
        · cases h

theorem declsR_get : ∀ {l ss : List Tm} {i : Nat}, declsR m i l = .ok ss → ss.length = l.length ∧ ∀ (j : Nat) (d : Tm), l[j]? = some d → ∃ s, ss[j]? = some s ∧ declR m (i + j) d = .ok s
  | [], ss, i, h => by
    rw [declsR] at h
    simp only [Except.ok.injEq] at h
    subst h
    exact ⟨rfl, fun j d hd => by simp at hd⟩
  | d :: l, ss, i, h => by
    rw [declsR] at h
    cases hq : declR m i d with
    | error e => rw [hq] at h; cases h
    | ok s =>
      rw [hq] at h
      simp only at h
      cases hr : declsR m (i + 1) l with
      | error e => rw [hr] at h; cases h
      | ok r =>
        rw [hr] at h
        simp only [Except.ok.injEq] at h
        subst h
        obtain ⟨h1, h2⟩ := declsR_get hr
        refine ⟨by simp [h1], fun j x hx => ?_⟩
        cases j with
        | zero => simp at hx; subst hx; exact ⟨s, rfl, hq⟩
        | succ j =>
          obtain ⟨y, e1, e2⟩ := h2 j x (by simpa using hx)
          exact ⟨y, by simpa using e1, by rw [show i + (j + 1) = i + 1 + j by omega]; exact e2⟩

theorem cln_of {n : Int} {ss : List Tm} (h : declsR m 0 m.l = .ok ss) : Cln m (.mk 36 n [] (pfl ss) ss 0 0) := by
  obtain ⟨h1, h2⟩ := declsR_get h
  refine ⟨h1, fun i d hd => ?_⟩
  obtain ⟨s, e1, e2⟩ := h2 i d hd
  obtain ⟨k1, k2, k3⟩ := declR_kind e2
  refine ⟨s, e1, k1, k2, fun q => ?_⟩
  obtain ⟨p, r, b, b', tys, q1, q2, _⟩ := k3 q
  exact ⟨p, r, b, b', q1, q2⟩

theorem litOK_clean (d : Tm) : litOK (cleanT d) = litOK d := by
  unfold litOK
  rw [clean_l]
  cases hd : d.l with
  | nil => rfl
  | cons x r =>
    cases r with
    | nil =>
      simp only [List.map_cons, List.map_nil, clean_k, clean_n, clean_l]
      cases x.l <;> rfl
    | cons y q => rfl

theorem declR_33 {m t : Tm} {i : Nat} {tys ss : List Tm} (h : t.k = 33) (hh : headT m t = .ok tys) (hb : blkT m (t.l.tail.headD T0) tys (t.l.tail.tail.headD T0).l = .ok ss) :
    Ty.declR m i t = .ok (.mk 33 t.n [] .part [cleanT (t.l.headD T0), cleanT (t.l.tail.headD T0), .mk 29 (t.l.tail.tail.headD T0).n [] (pfl ss) ss 0 0] 0 0) := by
  unfold Ty.declR
  rw [if_neg (by omega), if_neg (by omega), if_neg (by omega), if_pos h, hh]
  simp only
  rw [hb]
theorem moduleT_ok {m : Tm} {ss : List Tm} (h : m.k = 36) (hq : Ty.declsR m 0 m.l = .ok ss) : moduleT m = .ok (.mk 36 m.n [] (pfl ss) ss 0 0) := by
  unfold moduleT
  rw [if_neg (by omega), hq]

theorem Cln.declq (C : Cln m S) {i : Nat} {d s : Tm} (h : Ty.declR m i d = .ok s) : ∃ s', Ty.declR S i s = .ok s' ∧ sameR s' s = true := by
  obtain ⟨k1, k2, k3⟩ := declR_kind h
  by_cases h33 : d.k = 33
  · obtain ⟨p, r, b, b', tys, hl, _, _, hh, ss, hb, rfl⟩ := k3 h33
    have hh' := C.head (t' := .mk 33 d.n [] .part [cleanT p, cleanT r, .mk 29 b.n [] (pfl ss) ss 0 0] 0 0) (b' := .mk 29 b.n [] (pfl ss) ss 0 0) hl rfl rfl rfl hh
    obtain ⟨ss', e1, e2⟩ := blk_again C (Tq.clean r) b.l tys (tys.map cleanT) ss (Lq.clean tys) hb
    refine ⟨.mk 33 d.n [] .part [cleanT (cleanT p), cleanT (cleanT r), .mk 29 b.n [] (pfl ss') ss' 0 0] 0 0, ?_, ?_⟩
    · exact declR_33 rfl hh' e1
    · refine sameR_mk _ _ _ _ _ _ ?_
      simp only [sameR.sameRs, Bool.and_eq_true, clean_clean]
      exact ⟨sameR_clean p, sameR_clean r, sameR_mk _ _ _ _ _ _ e2, trivial⟩
  · have e := k2 h33
    subst e
    refine ⟨cleanT d, ?_, sameR_clean d⟩
    unfold Ty.declR at h ⊢
    rw [clean_k, clean_l, parted_clean, litOK_clean, List.length_map, clean_clean]
    have hne : (d.l.map cleanT = []) = (d.l = []) := by cases d.l <;> simp
    simp only [hne]
    split at h
    · next h30 =>
      rw [if_pos h30]
      split at h
      · cases h
      · next hc =>
        rw [if_neg hc]
        split at h
        · cases h
        · next hz =>
          rw [C.cells (t' := .mk 4 i [] .nil [] 0 0) (t := .mk 4 i [] .nil [] 0 0) (by simp [Tq, nfT, cnT]), if_neg hz]
    · next h30 =>
      rw [if_neg h30]
      split at h
      · next h31 =>
        rw [if_pos h31]
        split at h
        · cases h
        · next hc => rw [if_neg hc]
      · next h31 =>
        rw [if_neg h31]
        split at h
        · next h32 =>
          rw [if_pos h32]
          have hn : d.l ≠ [] := by intro q; rw [q] at h32; simp at h32
          rw [headD_clean _ hn]
          split at h
          · cases h
          · next hz => rw [C.cells (Tq.clean _), if_neg hz]
        · next h32 => first | (rw [if_neg h33] at h; cases h) | cases h

theorem Cln.declsq (C : Cln m S) : ∀ {l ss : List Tm} {i : Nat}, Ty.declsR m i l = .ok ss → ∃ ss', Ty.declsR S i ss = .ok ss' ∧ sameR.sameRs ss' ss = true
  | [], ss, i, h => by
    rw [Ty.declsR] at h
    simp only [Except.ok.injEq] at h
    subst h
    exact ⟨[], by rw [Ty.declsR], rfl⟩
  | d :: l, ss, i, h => by
    rw [Ty.declsR] at h
    cases hq : Ty.declR m i d with
    | error e => rw [hq] at h; cases h
    | ok s =>
      rw [hq] at h
      simp only at h
      cases hr : Ty.declsR m (i + 1) l with
      | error e => rw [hr] at h; cases h
      | ok r =>
        rw [hr] at h
        simp only [Except.ok.injEq] at h
        subst h
        obtain ⟨s', e1, e2⟩ := C.declq hq
        obtain ⟨r', f1, f2⟩ := C.declsq hr
        refine ⟨s' :: r', ?_, by simp [sameR.sameRs, e2, f2]⟩
        rw [Ty.declsR, e1]
        simp only
        rw [f1]

/-- The settled module is right. -/
theorem settles (m : Tm) {S : Tm} (h : moduleT m = .ok S) : rightT S = true := by
  unfold moduleT at h
  split at h
  · cases h
  · cases hq : Ty.declsR m 0 m.l with
    | error e => rw [hq] at h; cases h
    | ok ss =>
      rw [hq] at h
      simp only [Except.ok.injEq] at h
      subst h
      obtain ⟨ss', e1, e2⟩ := (cln_of (n := m.n) hq).declsq hq
      unfold rightT
      rw [moduleT_ok rfl e1]
      exact sameR_mk _ _ _ _ _ _ e2
end Go.Nt.Ty

/-
  RIGHT MODULES, walked (4): roots, plain types, alike modules.
  No condition.
-/
set_option linter.unusedSimpArgs false
namespace Go.Nt.Ty
open Go Go.Nt

theorem l274 (t : Tm) : good t → ∀ (s : List D) (bx : List (Nat × List D)) (st : St), get s 1 = .lp 1 1 0 → getB bx 1 = (1, clT t) →
    Stops (lp T L274_0 ⟨⟨s, bx⟩, st⟩) fun e _ b' st' => e = .exit 0 ∧ st' = st ∧ getB b' 1 = (1, clT (rootT t)) := by
  induction t using Tm.ind with
  | h t ih =>
    intro gt s bx st h1 b1
    refine Stops_wp L274_0.eq_1 ?_
    by_cases hk : t.k = 12 ∨ t.k = 13
    · cases hl : t.l with
      | nil =>
        rw [root_in hk, hl]
        rcases hk with hk | hk <;> simp [h1, b1, hk, hl]
      | cons x r =>
        rw [root_in hk, hl]
        have nx := fun s' bx' => ih x (by rw [hl]; simp) (good_mem gt (by rw [hl]; simp)) s' bx' st
        rcases hk with hk | hk
        · simp [h1, b1, hk, hl, splice]
          refine nx _ _ ?_ ?_ <;> simp [h1]
        · simp [h1, b1, hk, hl, splice]
          refine nx _ _ ?_ ?_ <;> simp [h1]
    · rw [root_out hk]
      have h12 : ¬ t.k = 12 := fun h => hk (.inl h)
      have h13 : ¬ t.k = 13 := fun h => hk (.inr h)
      simp [h1, b1, h12, h13]

theorem c274 (t : Tm) (gt : good t) (st : St) : callD T (ev T) 274 [encT t] st = some (encT (rootT t), st) := by
  refine callD_pureR (fn := F274) rfl rfl (by simp) (by simp) ?_
  refine Ret_wp (fn := F274) rfl ?_
  rw [F274]
  have lo := fun s bx st => l274 t gt s bx st
  simp
  refine WL.useB L274_0_p L274_0_w (WB := L274_0.wrB) rfl (lo _ _ _ ?_ ?_) ?_
  iterate 2 simp
  rintro e s' b' st' ⟨rfl, rfl, p1⟩ hf hb
  have e1 := hf 1 rfl
  have e2 := hf 2 rfl
  have b2 := hb 2 rfl
  simp at e1 e2 b2
  simp [p1, e1, e2, b2, splice, ← encT_eq]

theorem plain_3 {t x : Tm} {r : List Tm} (hk : t.k = 3) (hl : t.l = x :: r) : plainT t = plainT x := by
  cases t; simp only [Tm.k, Tm.l] at hk hl; subst hk; subst hl; rw [plainT.eq_def]; simp
theorem plain_n {t : Tm} (hk : t.k ≠ 3) : plainT t = !decide (t.k = 4) := by
  cases t; simp only [Tm.k] at hk; rw [plainT.eq_def]; simp [hk, Tm.k] <;> rfl

theorem cells_part {m t : Tm} (hk : t.k = 3) (h : cellsV m t ≠ 0) : ∃ x r, t.l = x :: r ∧ cellsV m x ≠ 0 := by
  unfold cellsV at h ⊢
  rw [arrM_eq, if_neg (by omega), if_pos hk] at h
  split at h
  · next x hx =>
    refine ⟨x, [], hx, fun q => h ?_⟩
    rw [q]
    simp [prod]
  · exact absurd rfl h

theorem l121 {m : Tm} (t : Tm) : cellsV m t ≠ 0 → ∀ (s : List D) (bx : List (Nat × List D)) (st : St), get s 3 = .lp 3 1 0 → getB bx 3 = (1, clT t) →
    Stops (lp T L121_0 ⟨⟨s, bx⟩, st⟩) fun e _ b' st' => e = .exit 0 ∧ st' = st ∧ ∃ u : Tm, getB b' 3 = (1, clT u) ∧ plainT t = !decide (u.k = 4) := by
  induction t using Tm.ind with
  | h t ih =>
    intro hc s bx st h3 b3
    refine Stops_wp L121_0.eq_1 ?_
    by_cases hk : t.k = 3
    · obtain ⟨x, r, hl, hx⟩ := cells_part hk hc
      have nx := fun s' bx' => ih x (by rw [hl]; simp) hx s' bx' st
      rw [plain_3 hk hl]
      generalize plainT x = p at *
      simp [h3, b3, hk, hl, splice, -ne_eq, -decide_not]
      refine nx _ _ ?_ ?_ <;> simp [h3]
    · rw [plain_n hk]
      simp [h3, b3, hk, -ne_eq, -decide_not]
      exact ⟨t, ⟨rfl, rfl, rfl, rfl, rfl, rfl⟩, Iff.rfl⟩

theorem c121 {m : Tm} (gm : good m) (t : Tm) (gt : good t) (hc : cellsV m t ≠ 0) (st : St) : callD T (ev T) 121 [encT m, encT t] st = some (.bool (plainT t), st) := by
  have q := fun st => c46 m t (good_ok _ gm) (good_len gm) (good_ok _ gt) st
  refine callD_pureR (fn := F121) rfl rfl (by simp) (by simp) ?_
  refine Ret_wp (fn := F121) rfl ?_
  rw [F121]
  have lo := fun s bx st => l121 t hc s bx st
  simp [← encT_eq, q, hc]
  refine WL.useB L121_0_p L121_0_w (WB := L121_0.wrB) rfl (lo _ _ _ ?_ ?_) ?_
  iterate 2 simp
  rintro e s' b' st' ⟨rfl, rfl, u, p3, hp⟩ hf hb
  have e3 := hf 3 rfl
  simp at e3
  simp [p3, e3, hp]

/-- Alike, and the second one without names and places. -/
theorem l70 (a b : Tm) (gb : good b) (hl : a.l.length ≤ 1000000) (hlen : a.l.length = b.l.length) (ih : ∀ u, u ∈ a.l → ∀ v, good v → ∀ st, callD T (ev T) 70 [encT u, encT v] st = some (.bool (sameR u v), st)) :
    ∀ (r i : Nat) (s : List D) (bx : List (Nat × List D)), r = a.l.length - i → i ≤ a.l.length → get s 44 = slE 6 a.fl (encTs a.l) → get s 45 = .i a.l.length → get s 46 = .int .i64 i → get s 3 = .lp 3 1 0 → getB bx 3 = (1, clT b) →
    Stops (lp T L70_0 ⟨⟨s, bx⟩, []⟩) fun e s' _ _ => if sameR.sameRs (a.l.drop i) (b.l.drop i) then e = .exit 0 else e = .ret ∧ get s' 4 = .bool false := by
  intro r
  induction r with
  | zero =>
    intro i s bx hr hi h44 h45 h46 h3 b3
    have e : i = a.l.length := by omega
    subst e
    refine Stops_wp L70_0.eq_1 ?_
    rw [List.drop_length, hlen, List.drop_length]
    simp [h44, h45, h46, sameR.sameRs]
  | succ r ihr =>
    intro i s bx hr hi h44 h45 h46 h3 b3
    have hlt : i < a.l.length := by omega
    have hlt' : i < b.l.length := by omega
    have hw : IntKind.wrap .i64 ((i : Int) + 1) = ((i + 1 : Nat) : Int) := by rw [wrap64] <;> omega
    have nx := fun s' bx' => ihr (i + 1) s' bx' (by omega) (by omega)
    have q := ih a.l[i] (List.getElem_mem hlt) b.l[i] (good_mem gb (List.getElem_mem hlt')) []
    rw [List.drop_eq_getElem_cons hlt, List.drop_eq_getElem_cons hlt', sameR.sameRs]
    refine Stops_wp L70_0.eq_1 ?_
    cases hs : sameR a.l[i] b.l[i] with
    | true =>
      rw [hs] at q
      rw [Bool.true_and]
      simp [h44, h45, h46, h3, b3, hlt, hlt', hw, ← encT_eq, q, -Int.natCast_add]
      refine nx _ _ ?_ ?_ ?_ ?_ ?_ <;> simp [h44, h45, h3, b3]
    | false =>
      rw [hs] at q
      simp [h44, h45, h46, h3, b3, hlt, hlt', hw, ← encT_eq, q, -Int.natCast_add]

theorem c70 (a : Tm) : ∀ (b : Tm), good b → ∀ (st : St), callD T (ev T) 70 [encT a, encT b] st = some (.bool (sameR a b), st) := by
  induction a using Tm.ind with
  | h a ih =>
    intro b gb st
    refine callD_pureR (fn := F70) rfl rfl (by simp) (by simp) ?_
    refine Ret_wp (fn := F70) rfl ?_
    rw [F70, encT_eq a, encT_eq b]
    rw [show sameR a b = (a.k == b.k && (a.n == b.n && (b.s == [] && (b.a == 0 && (b.b == 0 && sameR.sameRs a.l b.l))))) from sameR_eq a b]
    by_cases hk : a.k = b.k
    case neg => simp [hk]
    by_cases hn : a.n = b.n
    case neg => simp [hk, hn]
    by_cases hs : b.s = []
    case neg => simp [hk, hn, hs]
    by_cases ha : b.a = 0
    case neg => simp [hk, hn, hs, ha]
    by_cases hb : b.b = 0
    case neg => simp [hk, hn, hs, ha, hb]
    by_cases hl : a.l.length = b.l.length
    · have lo := fun s bx => l70 a b gb (by have := good_len gb; omega) hl (fun u hu v gv st => ih u hu v gv st) a.l.length 0 s bx (by omega) (by omega)
      rw [List.drop_zero, List.drop_zero] at lo
      have hl' : ((a.l.length : Int) = b.l.length) = True := eq_true (by omega)
      generalize sameR.sameRs a.l b.l = q at *
      simp [hk, hn, hs, ha, hb, hl]
      refine WL.use L70_0_p L70_0_w (lo _ _ ?_ ?_ ?_ ?_ ?_) ?_
      iterate 5 simp [hl, ha, hb, hs]
      rintro e s' b' st' h hf
      cases q with
      | true => simp at h; subst h; simp
      | false => simp at h; obtain ⟨rfl, q2⟩ := h; simp [q2]
    · have hl' : ((a.l.length : Int) = b.l.length) = False := eq_false (by omega)
      have hq : sameR.sameRs a.l b.l = false := by
        have : ∀ (l r : List Tm), sameR.sameRs l r = true → l.length = r.length := by
          intro l
          induction l with
          | nil => intro r h; cases r with | nil => rfl | cons x r => simp [sameR.sameRs] at h
          | cons y l ihl => intro r h; cases r with | nil => simp [sameR.sameRs] at h | cons x r => simp [sameR.sameRs] at h; simp [ihl r h.2]
        cases hq : sameR.sameRs a.l b.l with
        | false => rfl
        | true => exact absurd (this _ _ hq) hl
      simp [hk, hn, hs, ha, hb, hl, hq]
end Go.Nt.Ty

/-
  RIGHT MODULES, walked (5): one thing behind the other; a local comes.
  No condition.
-/
set_option linter.unusedSimpArgs false
namespace Go.Nt.Ty
open Go Go.Nt

variable {m ret : Tm} {st : St} {lv : D} {locs : List Tm} {at0 e : Int}

/-- The row, not written any more. -/
theorem RawT.fzX {st0 st : St} {L : D} {l : List Tm} (h : RawT st0 st L l) : ∃ st', fz0 st L = some (slE 6 (pfl l) (encTs l), st') ∧ st'.length = st.length ∧ ∀ i, (l = [] ∨ i ≠ lidOf L) → St.at st' i = St.at st i := by
  rcases h with ⟨rfl, rfl⟩ | ⟨id, md, h0, rfl, h1, h2, h3⟩
  · exact ⟨st, rfl, rfl, fun _ _ => rfl⟩
  · refine ⟨List.set st id (.cells false 6 (l.length - 1) (md + 1) true (encTs l)), ?_, by simp, fun i hi => by rw [at_set _ _ _ _ h3, if_neg (by rcases hi with q | q; exact absurd q h0; exact q)]⟩
    have e2 : List.take l.length (encTs l) = encTs l := List.take_of_length_le (by simp)
    have e3 : slE 6 (pfl l) (encTs l) = .sl 6 false (encTs l) := by cases l with | nil => exact absurd rfl h0 | cons a b => rfl
    rw [fz0_rs, h1, e3]
    simp [e2]
theorem RawT.lid {st0 st : St} {L : D} {l : List Tm} (h : RawT st0 st L l) : l = [] ∨ st0.length ≤ lidOf L ∧ lidOf L < st.length := by
  rcases h with ⟨rfl, rfl⟩ | ⟨id, md, h0, rfl, h1, h2, h3⟩
  · exact .inl rfl
  · exact .inr ⟨h2, h3⟩

theorem Lk.keep {st' : St} (K : Lk m ret st lv locs at0 e) (hl : st.length ≤ st'.length) (h : ∀ i, i < st.length → (i = 0 ∨ i = lidOf lv) → St.at st' i = St.at st i) : Lk m ret st' lv locs at0 e := by
  obtain ⟨hl0, ⟨md, h0⟩, hw⟩ := K
  exact ⟨by omega, ⟨md, by rw [h 0 hl0 (.inl rfl)]; exact h0⟩, hw.keep hl fun _ => h _ (hw.lt hl0) (.inr rfl)⟩

/-- One thing behind the other. -/
def eachT (F : List Tm → Tm → Er (Tm × List Tm)) : List Tm → List Tm → Er (List Tm × List Tm)
  | locs, [] => .ok ([], locs)
  | locs, t :: l => match F locs t with
    | .error e => .error e
    | .ok (s, l1) => match eachT F l1 l with
      | .error e => .error e
      | .ok (ss, l2) => .ok (s :: ss, l2)

/-- How a method that may bring a local ends. -/
def Sok (m ret : Tm) (st : St) (lv : D) (locs : List Tm) (at0 : Int) (R : Er (Tm × List Tm)) (r : Tm) (st' : St) : Prop :=
  ∃ lv' locs', Went st lv st' lv' ∧ match R with
    | .ok (s, l1) => s = r ∧ locs' = l1 ∧ Lk m ret st' lv' l1 at0 0
    | .error (x, y) => y ≠ 0 ∧ locs.length ≤ locs'.length ∧ Lk m ret st' lv' locs' x y

def Good (l : List Tm) : Prop := ∀ t, t ∈ l → good t

/-- How the loop ends. -/
def Q174 (m ret : Tm) (at0 : Int) (F : List Tm → Tm → Er (Tm × List Tm)) (st0 : St) (lv0 : D) (n0 : Nat) (locs : List Tm) (l : List Tm) (rs : List Tm) (e : Ex) (s' : List D) (st' : St) : Prop :=
  ∃ lv' locs', Went st0 lv0 st' lv' ∧
      match eachT F locs l with
      | .ok (ss, l1) => e = .exit 0 ∧ ∃ L', get s' 7 = L' ∧ RawT st0 st' L' (rs ++ ss) ∧ (rs ++ ss = [] ∨ lidOf L' ≠ lidOf lv') ∧ locs' = l1 ∧ Lk m ret st' lv' l1 at0 0
      | .error (x, y) => y ≠ 0 ∧ n0 ≤ locs'.length ∧ Lk m ret st' lv' locs' x y ∧ ((e = .ret ∧ get s' 6 = .nils) ∨ e = .exit 0 ∧ ∃ L' rs', get s' 7 = L' ∧ RawT st0 st' L' rs' ∧ (rs' = [] ∨ lidOf L' ≠ lidOf lv'))

theorem l174 (F : List Tm → Tm → Er (Tm × List Tm)) (hF : ∀ locs x s l1, F locs x = .ok (s, l1) → Good locs → good x → Good l1 ∧ locs.length ≤ l1.length ∧ l1.length ≤ locs.length + cntT x)
    (g : Nat) (first cap : List D) (fl : Fl) (l : List Tm) (hg : Good l) (hl : l.length ≤ 1000000) (st0 : St) (lv0 : D) (n0 : Nat)
    (hone : ∀ x, x ∈ l → ∀ st lv locs, Went st0 lv0 st lv → Lk m ret st lv locs at0 0 → Good locs → locs.length + cntT x ≤ 1000000 → ∃ r st', callD T (ev T) g (first ++ [encT x] ++ cap) st = some (encT r, st') ∧ Sok m ret st lv locs at0 (F locs x) r st') :
    ∀ (r i : Nat) (s : List D) (bx : List (Nat × List D)) (st : St) (lv : D) (locs : List Tm) (L : D) (rs : List Tm), r = l.length - i → i ≤ l.length → Went st0 lv0 st lv → Lk m ret st lv locs at0 0 → Good locs → locs.length + cntTs (l.drop i) ≤ 1000000 → n0 ≤ locs.length →
      0 < st0.length → RawT st0 st L rs → rs.length = i → (rs = [] ∨ lidOf L ≠ lidOf lv) →
      get s 0 = .hp 0 0 15 0 0 → get s 2 = .fn g first cap → get s 7 = L → get s 10 = slE 6 fl (encTs l) → get s 11 = .i l.length → get s 12 = .int .i64 i →
    Stops (lp T L174_0 ⟨⟨s, bx⟩, st⟩) fun e s' _ st' => Q174 m ret at0 F st0 lv0 n0 locs (l.drop i) rs e s' st' := by
  intro r
  induction r with
  | zero =>
    intro i s bx st lv locs L rs hr hi W K G hb hn h00 R hrs hid h0 h2 h7 h10 h11 h12
    have e : i = l.length := by omega
    refine Stops_wp L174_0.eq_1 ?_
    rw [e, List.drop_length]
    simp [h0, h2, h7, h10, h11, h12, e]
    refine ⟨lv, locs, W, ?_⟩
    rw [eachT]
    exact ⟨rfl, L, by simp [h7], by rw [List.append_nil]; exact R, by rw [List.append_nil]; exact hid, rfl, K⟩
  | succ r ihr =>
    intro i s bx st lv locs L rs hr hi W K G hb hn h00 R hrs hid h0 h2 h7 h10 h11 h12
    have hlt : i < l.length := by omega
    have hw : IntKind.wrap .i64 ((i : Int) + 1) = ((i + 1 : Nat) : Int) := by rw [wrap64] <;> omega
    have hd := List.drop_eq_getElem_cons hlt
    have hc : cntTs (l.drop i) = cntT l[i] + cntTs (l.drop (i + 1)) := by rw [hd, cntTs]
    obtain ⟨q, st1, q1, lv1, locs1, W1, E⟩ := hone l[i] (List.getElem_mem hlt) st lv locs W K G (by omega)
    have hgx := hg _ (List.getElem_mem hlt)
    obtain ⟨md, k0⟩ := K.h0
    obtain ⟨x1, x2, x3, _⟩ := K.hw.facts
    obtain ⟨y1, y2, y3, _⟩ := R.facts
    -- the row is as it was
    have R1 : RawT st0 st1 L rs := R.keep W1.1 fun hne => by
      rcases R.lid with h | ⟨h, h'⟩
      · exact absurd h hne
      · rcases hid with h'' | h''
        · exact absurd h'' hne
        · exact W1.2.2 _ h' (by omega) h''
    have hL1 : lidOf lv1 < st1.length ∧ 0 < st1.length := by
      cases hR : F locs l[i] with
      | ok v => obtain ⟨v1, v2⟩ := v; rw [hR] at E; exact ⟨E.2.2.hw.lt E.2.2.hl, E.2.2.hl⟩
      | error v => obtain ⟨v1, v2⟩ := v; rw [hR] at E; exact ⟨E.2.2.hw.lt E.2.2.hl, E.2.2.hl⟩
    obtain ⟨L2, st2, a1, R2, hl2, a3, a4⟩ := R1.app (by omega) (by have := W.1; have := W1.1; omega) q
    have hne1 : rs = [] ∨ lidOf L ≠ lidOf lv1 := by
      rcases R.lid with h | ⟨h, h'⟩
      · exact .inl h
      · rcases hid with h'' | h''
        · exact .inl h''
        · right
          rcases W1.2.1 with v | v | v <;> omega
    have hne2 : rs ++ [q] = [] ∨ lidOf L2 ≠ lidOf lv1 := by
      right
      rcases a4 with ⟨v1, v2⟩ | ⟨v1, v2⟩
      · rcases hne1 with v | v
        · exact absurd v v2
        · omega
      · omega
    have hold : ∀ i, i < st1.length → (i = 0 ∨ i = lidOf lv1) → St.at st2 i = St.at st1 i := by
      intro j hj hj'
      refine a3 j hj ?_
      rcases R.lid with h | ⟨h, h'⟩
      · exact .inl h
      · rcases hne1 with v | v
        · exact .inl v
        · right; rcases hj' with w | w <;> omega
    have W2 : Went st0 lv0 st2 lv1 := by
      obtain ⟨w1, w2, w3⟩ := W.trans W1
      refine ⟨by omega, w2, fun j hj hj0 hjl => ?_⟩
      rw [a3 j (by omega) ?_, w3 j hj hj0 hjl]
      rcases R.lid with h | ⟨h, h'⟩
      · exact .inl h
      · right; omega
    obtain ⟨z1, z2, z3, _⟩ := R2.facts
    have nx := fun s' bx' locs' => ihr (i + 1) s' bx' st2 lv1 locs' L2 (rs ++ [q]) (by omega) (by omega) W2
    rw [encT_eq] at q1
    simp only [List.append_assoc, List.singleton_append] at q1
    refine Stops_wp L174_0.eq_1 ?_
    cases hR : F locs l[i] with
    | ok v =>
      obtain ⟨v1, v2⟩ := v
      rw [hR] at E
      obtain ⟨rfl, rfl, K1⟩ := E
      obtain ⟨f1, f2, f3⟩ := hF _ _ _ _ hR G hgx
      have nx := fun s' bx' => nx s' bx' locs1 (K1.keep hl2 hold) f1 (by omega) (by omega) h00 R2 (by simp; omega) hne2
      simp [h0, h2, h7, h10, h11, h12, hlt, hw, k0, lkO, kHs, splice, x1, x2, x3, y1, y2, y3, z1, z2, z3, q1, a1, -Int.natCast_add]
      refine Stops.mono (nx _ _ ?_ ?_ ?_ ?_ ?_ ?_) ?_
      iterate 6 simp [h0, h2, h10, h11]
      rintro e s' b' st' ⟨lv', locs', V, E'⟩
      refine ⟨lv', locs', V, ?_⟩
      rw [hd, eachT, hR]
      simp only
      cases hE : eachT F locs1 (l.drop (i + 1)) with
      | ok w =>
        obtain ⟨w1, w2⟩ := w
        rw [hE] at E'
        simpa using E'
      | error w =>
        rw [hE] at E'
        exact E'
    | error v =>
      obtain ⟨v1, v2⟩ := v
      rw [hR] at E
      obtain ⟨hv, hlen, K1⟩ := E
      simp [h0, h2, h7, h10, h11, h12, hlt, hw, k0, lkO, kHs, splice, x1, x2, x3, y1, y2, y3, z1, z2, z3, q1, a1, -Int.natCast_add]
      have K2 : Lk m ret st2 lv1 locs1 v1 v2 := K1.keep hl2 hold
      obtain ⟨md2, k2⟩ := K2.h0
      obtain ⟨u1, u2, u3, _⟩ := K2.hw.facts
      have fin : ∀ e s', ((e = .ret ∧ get s' 6 = .nils) ∨ e = .exit 0 ∧ ∃ L' rs', get s' 7 = L' ∧ RawT st0 st2 L' rs' ∧ (rs' = [] ∨ lidOf L' ≠ lidOf lv1)) → Q174 m ret at0 F st0 lv0 n0 locs (l.drop i) rs e s' st2 := by
        intro e s' h
        refine ⟨lv1, locs1, W2, ?_⟩
        rw [hd, eachT, hR]
        exact ⟨hv, by omega, K2, h⟩
      generalize Q174 m ret at0 F st0 lv0 n0 locs (l.drop i) rs = Q at *
      refine Stops_wp L174_0.eq_1 ?_
      by_cases hlast : i + 1 < l.length
      · have hlast' : ((i + 1 : Nat) : Int) < l.length := by omega
        simp [h0, h2, h7, h10, h11, h12, hlast, hlast', k2, lkO, kHs, splice, u1, u2, u3, hv, -Int.natCast_add]
        exact fin _ _ (.inl ⟨rfl, by simp⟩)
      · have hlast' : ¬ ((i + 1 : Nat) : Int) < l.length := by omega
        simp [h0, h2, h7, h10, h11, h12, hlast, hlast', k2, lkO, kHs, splice, u1, u2, u3, hv, -Int.natCast_add]
        exact fin _ _ (.inr ⟨rfl, L2, rs ++ [q], by simp, R2, hne2⟩)

/-- How 'each' ends. -/
def Eok (m ret : Tm) (st : St) (lv : D) (n0 : Nat) (at0 : Int) (R : Er (List Tm × List Tm)) (rs : List Tm) (st' : St) : Prop :=
  ∃ lv' locs', Went st lv st' lv' ∧ match R with
    | .ok (ss, l1) => ss = rs ∧ locs' = l1 ∧ Lk m ret st' lv' l1 at0 0
    | .error (x, y) => y ≠ 0 ∧ n0 ≤ locs'.length ∧ Lk m ret st' lv' locs' x y

def P174 (m ret : Tm) (st : St) (lv : D) (n0 : Nat) (at0 : Int) (R : Er (List Tm × List Tm)) (r : D) (st1 : St) : Prop :=
  ∃ rs lv' locs', RawT st st1 r rs ∧ (rs = [] ∨ lidOf r ≠ lidOf lv') ∧ Went st lv st1 lv' ∧ match R with
    | .ok (ss, l1) => ss = rs ∧ locs' = l1 ∧ Lk m ret st1 lv' l1 at0 0
    | .error (x, y) => y ≠ 0 ∧ n0 ≤ locs'.length ∧ Lk m ret st1 lv' locs' x y

theorem c174 (F : List Tm → Tm → Er (Tm × List Tm)) (hF : ∀ locs x s l1, F locs x = .ok (s, l1) → Good locs → good x → Good l1 ∧ locs.length ≤ l1.length ∧ l1.length ≤ locs.length + cntT x)
    (g : Nat) (first cap : List D) (hfc : (D.fn g first cap).okv = true) (fl : Fl) (l : List Tm) (hg : Good l) (hl : l.length ≤ 1000000) (st : St) (lv : D)
    (hone : ∀ x, x ∈ l → ∀ st' lv' locs, Went st lv st' lv' → Lk m ret st' lv' locs at0 0 → Good locs → locs.length + cntT x ≤ 1000000 → ∃ r st'', callD T (ev T) g (first ++ [encT x] ++ cap) st' = some (encT r, st'') ∧ Sok m ret st' lv' locs at0 (F locs x) r st'')
    (locs : List Tm) (K : Lk m ret st lv locs at0 0) (G : Good locs) (hb : locs.length + cntTs l ≤ 1000000) :
    ∃ rs st', callD T (ev T) 174 [.hp 0 0 15 0 0, slE 6 fl (encTs l), .fn g first cap] st = some (slE 6 (pfl rs) (encTs rs), st') ∧ Eok m ret st lv locs.length at0 (eachT F locs l) rs st' := by
  have lo := fun s bx => l174 F hF g first cap fl l hg hl st lv locs.length hone l.length 0 s bx st lv locs .nils [] (by omega) (by omega) (.refl _ _) K G (by simpa using hb) (Nat.le_refl _) K.hl (RawT.nil _ _) rfl (.inl rfl)
  rw [List.drop_zero] at lo
  have go : Ret (ev T 174 [.hp 0 0 15 0 0, slE 6 fl (encTs l), .fn g first cap] st) (P174 m ret st lv locs.length at0 (eachT F locs l)) := by
    refine Ret_wp (fn := F174) rfl ?_
    rw [F174]
    simp
    refine WL.use L174_0_p L174_0_w (lo _ _ ?_ ?_ ?_ ?_ ?_ ?_) ?_
    iterate 6 simp
    rintro e s' b' st' ⟨lv', locs', W, h⟩ hf
    cases hE : eachT F locs l with
    | ok w =>
      obtain ⟨ss, l1⟩ := w
      rw [hE] at h
      simp only [List.nil_append] at h
      obtain ⟨rfl, L', h7, R, hne, hlo, K1⟩ := h
      simp [h7, R.facts.1]
      exact ⟨ss, lv', locs', R, hne, W, rfl, hlo, K1⟩
    | error w =>
      obtain ⟨x, y⟩ := w
      rw [hE] at h
      obtain ⟨hy, hn, K1, h⟩ := h
      rcases h with ⟨rfl, h6⟩ | ⟨rfl, L', rs', h7, R, hne⟩
      · simp [h6]
        exact ⟨[], lv', locs', RawT.nil _ _, .inl rfl, W, hy, hn, K1⟩
      · simp [h7, R.facts.1]
        exact ⟨rs', lv', locs', R, hne, W, hy, hn, K1⟩
  obtain ⟨r, st1, h1, rs, lv', locs', R, hne, W, E⟩ := go
  obtain ⟨st2, f, hl2, hat⟩ := R.fzX
  have hz : fz st1 r = some (slE 6 (pfl rs) (encTs rs), st2) := by
    rw [← f]
    rcases R with ⟨_, rfl⟩ | ⟨_, _, _, rfl, _⟩ <;> rfl
  refine ⟨rs, st2, callD_freE (fn := F174) rfl rfl (by simp [hfc]) h1 hz (by simp), lv', locs', ?_, ?_⟩
  · obtain ⟨w1, w2, w3⟩ := W
    refine ⟨by omega, w2, fun i hi h0 hn => ?_⟩
    rw [hat i ?_, w3 i hi h0 hn]
    rcases R.lid with h | ⟨h, _⟩
    · exact .inl h
    · right; omega
  · have hk : ∀ i, i < st1.length → (i = 0 ∨ i = lidOf lv') → St.at st2 i = St.at st1 i := by
      intro i _ hi
      refine hat i ?_
      rcases R.lid with h | ⟨h, _⟩
      · exact .inl h
      · rcases hne with h' | h'
        · exact .inl h'
        · have := K.hl
          right; rcases hi with q | q <;> omega
    cases hE : eachT F locs l with
    | ok w =>
      obtain ⟨ss, l1⟩ := w
      rw [hE] at E
      exact ⟨E.1, E.2.1, E.2.2.keep (by omega) hk⟩
    | error w =>
      obtain ⟨x, y⟩ := w
      rw [hE] at E
      exact ⟨E.1, E.2.1, E.2.2.keep (by omega) hk⟩
end Go.Nt.Ty

/-
  RIGHT MODULES, walked (6): locals come and are forgotten; what is assigned.
  No condition.
-/
set_option linter.unusedSimpArgs false
namespace Go.Nt.Ty
open Go Go.Nt

variable {m ret : Tm} {st : St} {lv : D} {locs : List Tm} {at0 e : Int}

/-- The locals' row, one longer. -/
theorem Lk.push (K : Lk m ret st lv locs at0 e) (hb : locs.length ≤ 1000000) :
    ∃ (id ver md N : Nat) (base : Tm → St), 0 < id ∧ id < N ∧ st.length ≤ N ∧ (id = lidOf lv ∨ st.length ≤ id) ∧ ver ≤ locs.length + 1 ∧ (∀ i, i < N → i ≠ id → i < st.length) ∧
      ∀ z, appendD st lv [encT z] 6 = some (.rs id ver 6 0 (locs.length + 1) false, base z) ∧ (base z).length = N ∧ St.at (base z) id = .cells false 6 ver md false (encTs (locs ++ [z])) ∧ ∀ i, i < st.length → i ≠ id → St.at (base z) i = St.at st i := by
  have hl := K.hl
  rcases K.hw with ⟨rfl, rfl⟩ | ⟨id, ver, md, full, more, rfl, h1, h2, h3, h4, h5, h6⟩
  · refine ⟨st.length, 0, 0, st.length + 1, fun z => st ++ [.cells false 6 0 0 false [encT z]], hl, by omega, by omega, .inr (Nat.le_refl _), by omega, fun i _ _ => by omega, fun z => ⟨by simp [appendD, most], by simp, by simp [at_last], fun i hi _ => at_lt _ _ hi⟩⟩
  · have hm : (locs ++ more).length ≤ most := by unfold most; omega
    have hm2 : locs.length + more.length ≤ most := by simpa using hm
    have hm3 : locs.length + more.length ≤ 134217728 := hm2
    cases full with
    | true =>
      refine ⟨st.length, 0, 0, st.length + 1, fun z => st ++ [.cells false 6 0 0 false (encTs locs ++ [encT z])], hl, by omega, by omega, .inr (Nat.le_refl _), by omega, fun i _ _ => by omega, fun z => ⟨?_, by simp, by simp [at_last, encTs_append], fun i hi _ => at_lt _ _ hi⟩⟩
      have e2 : List.take locs.length (encTs (locs ++ more)) = encTs locs := by rw [encTs_append, List.take_append_of_le_length (by simp), List.take_of_length_le (by simp)]
      simp [appendD, h1, hm3, most, e2]
    | false =>
      have := h4 rfl
      subst this
      rw [List.append_nil] at h1 h5
      have ht : ver + 1 < tagB := by unfold tagB; omega
      have hm4 : locs.length ≤ 134217728 := by omega
      refine ⟨id, ver + 1, md + 1, st.length, fun z => List.set st id (.cells false 6 (ver + 1) (md + 1) false (encTs locs ++ [encT z])), h2, h3, Nat.le_refl _, .inl rfl, by omega, fun i hi _ => hi, fun z => ⟨?_, by simp, by rw [at_set _ _ _ _ h3, if_pos rfl, encTs_append]; simp, fun i hi hn => by rw [at_set _ _ _ _ h3, if_neg hn]⟩⟩
      have e2 : List.take locs.length (encTs locs) = encTs locs := List.take_of_length_le (by simp)
      simp [appendD, h1, hm4, most, e2, ht]

theorem Lk.pushed (K : Lk m ret st lv locs at0 e) (hb : locs.length ≤ 1000000) {id ver N : Nat} (h0 : 0 < id) (hN : id < N) (hle : st.length ≤ N) (hid : id = lidOf lv ∨ st.length ≤ id) (hv : ver ≤ locs.length + 1) {st3 : St} {x : Tm} {mo mi : Nat}
    (hl3 : st3.length = N) (a0 : St.at st3 0 = lkO m (.rs id ver 6 0 (locs.length + 1) false) ret at0 e mo) (a1 : St.at st3 id = .cells false 6 ver mi false (encTs (locs ++ [x]))) (a2 : ∀ i, i < st.length → i ≠ 0 → i ≠ id → St.at st3 i = St.at st i) :
    Lk m ret st3 (.rs id ver 6 0 (locs.length + 1) false) (locs ++ [x]) at0 e ∧ Went st lv st3 (.rs id ver 6 0 (locs.length + 1) false) := by
  have hl := K.hl
  refine ⟨⟨by omega, ⟨mo, a0⟩, .inr ⟨id, ver, mi, false, [], by simp, by rw [List.append_nil]; exact a1, h0, by omega, fun _ => rfl, by simp; omega, by simp; omega⟩⟩, by omega, ?_, fun i hi hi0 hil => ?_⟩
  · show id = lidOf lv ∨ st.length ≤ id ∨ id = 0
    omega
  · refine a2 i hi hi0 ?_
    rcases hid with h | h
    · rw [h]; exact hil
    · omega

/-- The locals that came are forgotten. -/
theorem Lk.back {st' : St} {lv' : D} {l1 : List Tm} {a1 e1 : Int} (K : Lk m ret st' lv' l1 a1 e1) (k : Nat) (hk : k ≤ l1.length) (hb : l1.length ≤ 2000000) :
    ∃ lv2, (∀ q, q = (k : Int) → sliceD lv' none (some (.int .i64 q)) (some (.int .i64 q)) = some lv2) ∧ lv2.okv = true ∧ lv2.cells = [lv2] ∧ lv2.fits none = true ∧ ∀ md, Lk m ret (List.set st' 0 (lkO m lv2 ret a1 e1 md)) lv2 (l1.take k) a1 e1 ∧ Went st' lv' (List.set st' 0 (lkO m lv2 ret a1 e1 md)) lv2 := by
  obtain ⟨hl, ⟨md0, h0⟩, hw⟩ := K
  have wn : ∀ lv2 md, lidOf lv2 = lidOf lv' → Went st' lv' (List.set st' 0 (lkO m lv2 ret a1 e1 md)) lv2 := fun lv2 md h => ⟨by simp, .inl h, fun i hi hi0 _ => by rw [at_set _ _ _ _ hl, if_neg hi0]⟩
  rcases hw with ⟨rfl, rfl⟩ | ⟨id, ver, md, full, more, rfl, h1, h2, h3, h4, h5, h6⟩
  · have : k = 0 := by simpa using hk
    subst this
    exact ⟨.nils, by rintro q rfl; simp [sliceD, boundD], rfl, rfl, rfl, fun md => ⟨⟨by simpa using hl, ⟨md, by rw [at_set _ _ _ _ hl, if_pos rfl]⟩, .inl ⟨rfl, rfl⟩⟩, wn _ _ rfl⟩⟩
  · have hk' : (k : Int) ≤ l1.length := by omega
    refine ⟨.rs id ver 6 0 k true, by rintro q rfl; simp [sliceD, boundD, hk'], rfl, rfl, rfl, fun md' => ⟨⟨by simpa using hl, ⟨md', by rw [at_set _ _ _ _ hl, if_pos rfl]⟩, .inr ⟨id, ver, md, true, l1.drop k ++ more, ?_, ?_, h2, by simpa using h3, (fun h => by cases h), ?_, ?_⟩⟩, wn _ _ rfl⟩⟩
    · rw [List.length_take, Nat.min_eq_left hk]
    · rw [at_set _ _ _ _ hl, if_neg (by omega), h1, ← List.append_assoc, List.take_append_drop]
    · rw [← List.append_assoc, List.take_append_drop]; exact h5
    · rw [← List.append_assoc, List.take_append_drop]; exact h6

/-- An expression, whatever was wrong ahead. -/
theorem c232u (gm : good m) (gl : e = 0 → Good locs) (hll : locs.length ≤ 1000000) (K : Lk m ret st lv locs at0 e) (t : Tm) (gt : good t) :
    ∃ a s st' at1 e1, callD T (ev T) 232 [.hp 0 0 15 0 0, encT t] st = some (.tup [encT a, encT s], st') ∧ Went st lv st' lv ∧ Lk m ret st' lv locs at1 e1 ∧ good a ∧
      (e ≠ 0 → at1 = at0 ∧ e1 = e) ∧ (e = 0 → match ofT m locs t with
        | .ok (a', s') => a' = a ∧ s' = s ∧ at1 = at0 ∧ e1 = 0
        | .error (x, y) => at1 = x ∧ e1 = y ∧ y ≠ 0) := by
  obtain ⟨a, s, st', q, W, c1, c2⟩ := c232 gm gl hll K t gt
  have g0 : good T0 := good_K 0 (by simp [in64])
  by_cases he : e = 0
  · have c2 := c2 he
    cases ho : ofT m locs t with
    | ok v =>
      obtain ⟨v1, v2⟩ := v
      rw [ho] at c2
      obtain ⟨rfl, rfl, rfl⟩ := c2
      exact ⟨v1, v2, st', at0, e, q, W, K, (ofT_good gm (gl he) t gt _ _ ho).1, fun _ => ⟨rfl, rfl⟩, fun _ => ⟨rfl, rfl, rfl, he⟩⟩
    | error v =>
      obtain ⟨v1, v2⟩ := v
      rw [ho] at c2
      obtain ⟨rfl, rfl, hy, K1⟩ := c2
      exact ⟨T0, T0, st', v1, v2, q, W, K1, g0, fun h => absurd he h, fun _ => ⟨rfl, rfl, hy⟩⟩
  · obtain ⟨rfl, rfl, rfl⟩ := c1 he
    exact ⟨T0, T0, st', at0, e, q, W, K, g0, fun _ => ⟨rfl, rfl⟩, fun h => absurd h he⟩

/-- The first error, if there is reason for one. -/
theorem fail_if (K : Lk m ret st lv locs at0 e) (b : Bool) (t : Tm) (x : Int) : ∃ st', (b = true → callD T (ev T) 118 [.hp 0 0 15 0 0, encT t, .int .i64 x] st = some (.tup [], st')) ∧ (b = false → st' = st) ∧ Went st lv st' lv ∧
    Lk m ret st' lv locs (if b = true ∧ e = 0 then t.a else at0) (if b = true ∧ e = 0 then x else e) := by
  cases b with
  | false => exact ⟨st, (fun h => by cases h), fun _ => rfl, .refl _ _, by simpa using K⟩
  | true =>
    obtain ⟨st', q, K', W⟩ := c118 K t x
    exact ⟨st', fun _ => q, (fun h => by cases h), W, by simpa using K'⟩

/-- What is assigned. -/
theorem c233 (gm : good m) (gl : Good locs) (hll : locs.length ≤ 1000000) (K : Lk m ret st lv locs at0 0) (t : Tm) (gt : good t) (x y : Tm) (hx : t.l = [x, y]) :
    ∃ rs st', callD T (ev T) 233 [.hp 0 0 15 0 0, encT t] st = some (slE 6 .full (encTs rs), st') ∧ Went st lv st' lv ∧ match leafS m ret locs 22 t.a t.l with
      | .ok (ss, _) => ss = rs ∧ Lk m ret st' lv locs at0 0
      | .error (a, b) => b ≠ 0 ∧ Lk m ret st' lv locs a b := by
  have gx : good x := good_mem gt (by rw [hx]; simp)
  have gy : good y := good_mem gt (by rw [hx]; simp)
  have qr := fun st => c274 x gx st
  obtain ⟨a, s, st1, at1, e1, q1, W1, K1, ga, _, d1⟩ := c232u gm (fun _ => gl) hll K x gx
  obtain ⟨b, u, st2, at2, e2, q2, W2, K2, gb, d2', d2⟩ := c232u gm (fun _ => gl) hll K1 y gy
  obtain ⟨st3, q3, q3', W3, K3⟩ := fail_if K2 (decide ((rootT x).k ≠ 7 ∧ (rootT x).k ≠ 9)) x 12
  obtain ⟨st4, q4, q4', W4, K4⟩ := fail_if K3 (!sameT a b) t 10
  have qs := fun st => c235 a (good_ok _ ga) b st
  refine ⟨[s, u], st4, ?_, ((W1.trans W2).trans W3).trans W4, ?_⟩
  · have go : Ret (ev T 233 [.hp 0 0 15 0 0, encT t] st) fun r st' => r = slE 6 .full (encTs [s, u]) ∧ st' = st4 := by
      refine Ret_wp (fn := F233) rfl ?_
      have ef : ∀ c d : D, slE 6 .full [c, d] = .sl 6 true [c, d] := fun _ _ => rfl
      rw [F233]
      cases hs : sameT a b with
      | true =>
        rw [hs] at q4' qs
        have e4 := q4' rfl
        subst e4
        by_cases h7 : (rootT x).k = 7
        · rw [h7] at q3'
          have e3 := q3' (by simp)
          subst e3
          simp [hx, ← encT_eq, q1, q2, qr, h7, qs, ef]
        · by_cases h9 : (rootT x).k = 9
          · rw [h9] at q3'
            have e3 := q3' (by simp)
            subst e3
            simp [hx, ← encT_eq, q1, q2, qr, h9, qs, ef]
          · have q3 := q3 (by simp [h7, h9])
            simp [hx, ← encT_eq, q1, q2, qr, h7, h9, q3, qs, ef]
      | false =>
        rw [hs] at q4 qs
        have q4 := q4 rfl
        rw [encT_eq t, hx] at q4
        simp only [encTs_cons, encTs_nil] at q4
        by_cases h7 : (rootT x).k = 7
        · rw [h7] at q3'
          have e3 := q3' (by simp)
          subst e3
          simp [hx, ← encT_eq, q1, q2, qr, h7, qs, q4, ef]
        · by_cases h9 : (rootT x).k = 9
          · rw [h9] at q3'
            have e3 := q3' (by simp)
            subst e3
            simp [hx, ← encT_eq, q1, q2, qr, h9, qs, q4, ef]
          · have q3 := q3 (by simp [h7, h9])
            simp [hx, ← encT_eq, q1, q2, qr, h7, h9, q3, qs, q4, ef]
    obtain ⟨r, st', h1, rfl, rfl⟩ := go
    exact callD_freE (fn := F233) rfl rfl (by simp) h1 (by simp) (by simp)
  · rw [hx, leafS]
    have d1 := d1 rfl
    cases ho : ofT m locs x with
    | error v =>
      obtain ⟨v1, v2⟩ := v
      rw [ho] at d1
      obtain ⟨rfl, rfl, hy⟩ := d1
      obtain ⟨rfl, rfl⟩ := d2' hy
      simp only [hy, and_false, if_false] at K4 K3
      exact ⟨hy, K4⟩
    | ok v =>
      obtain ⟨v1, v2⟩ := v
      rw [ho] at d1
      obtain ⟨rfl, rfl, rfl, rfl⟩ := d1
      have d2 := d2 rfl
      simp only
      cases hu : ofT m locs y with
      | error w =>
        obtain ⟨w1, w2⟩ := w
        rw [hu] at d2
        obtain ⟨rfl, rfl, hy⟩ := d2
        simp only [hy, and_false, if_false] at K4 K3
        exact ⟨hy, K4⟩
      | ok w =>
        obtain ⟨w1, w2⟩ := w
        rw [hu] at d2
        obtain ⟨rfl, rfl, rfl, rfl⟩ := d2
        simp only
        by_cases hr : (rootT x).k ≠ 7 ∧ (rootT x).k ≠ 9
        · rw [if_pos hr]
          simp [hr] at K4
          exact ⟨by decide, K4⟩
        · rw [if_neg hr]
          have hr' : decide ((rootT x).k ≠ 7 ∧ (rootT x).k ≠ 9) = false := decide_eq_false hr
          rw [hr'] at K4
          cases hs : sameT v1 w1 with
          | true =>
            rw [hs] at K4
            simp at K4
            simp only [if_true]
            exact ⟨trivial, K4⟩
          | false =>
            rw [hs] at K4
            simp at K4
            simp only [Bool.false_eq_true, if_false]
            exact ⟨by decide, K4⟩
end Go.Nt.Ty

/-
  RIGHT MODULES, walked (7): blocks.
  No condition.
-/
set_option linter.unusedSimpArgs false
namespace Go.Nt.Ty
open Go Go.Nt

variable {m ret : Tm} {st : St} {lv : D} {locs : List Tm} {at0 e : Int}

def Pre (l l1 : List Tm) : Prop := ∃ x, l1 = l ++ x
theorem Pre.refl (l : List Tm) : Pre l l := ⟨[], by simp⟩
theorem Pre.one (l : List Tm) (a : Tm) : Pre l (l ++ [a]) := ⟨[a], rfl⟩
theorem Pre.trans {a b c : List Tm} (h : Pre a b) (k : Pre b c) : Pre a c := by
  obtain ⟨x, rfl⟩ := h
  obtain ⟨y, rfl⟩ := k
  exact ⟨x ++ y, by simp⟩
theorem Pre.take {l l1 : List Tm} (h : Pre l l1) : l1.take l.length = l := by obtain ⟨x, rfl⟩ := h; simp
theorem Pre.le {l l1 : List Tm} (h : Pre l l1) : l.length ≤ l1.length := by obtain ⟨x, rfl⟩ := h; simp

theorem each_pre {F : List Tm → Tm → Er (Tm × List Tm)} (hF : ∀ locs x s l1, F locs x = .ok (s, l1) → Good locs → good x → Pre locs l1 ∧ Good l1) : ∀ (l locs ss l1 : List Tm), eachT F locs l = .ok (ss, l1) → Good locs → Good l → Pre locs l1
  | [], locs, ss, l1, h, _, _ => by
    simp only [eachT, Except.ok.injEq, Prod.mk.injEq] at h
    rw [← h.2]; exact .refl _
  | t :: l, locs, ss, l1, h, G, Gl => by
    rw [eachT] at h
    cases hq : F locs t with
    | error e => rw [hq] at h; cases h
    | ok v =>
      obtain ⟨s, l2⟩ := v
      rw [hq] at h
      simp only at h
      cases hr : eachT F l2 l with
      | error e => rw [hr] at h; cases h
      | ok w =>
        obtain ⟨w1, w2⟩ := w
        rw [hr] at h
        simp only [Except.ok.injEq, Prod.mk.injEq] at h
        rw [← h.2]
        obtain ⟨p, g⟩ := hF _ _ _ _ hq G (Gl t (by simp))
        exact p.trans (each_pre hF l l2 w1 w2 hr g fun u hu => Gl u (by simp [hu]))

theorem cnt_pos (t : Tm) : 1 ≤ cntT t := by rw [cntT_eq]; omega

/-- The locals behind a statement. -/
theorem stmt_locs (gm : good m) (t : Tm) (gt : good t) (G : Good locs) {s : Tm} {l1 : List Tm} (h : stmtT m ret locs t = .ok (s, l1)) : l1 = locs ∨ ∃ a, l1 = locs ++ [a] ∧ good a := by
  obtain ⟨k, n, sx, fl, l, a, b⟩ := t
  rw [stmtT] at h
  split at h
  · cases h
  · split at h
    · split at h
      · cases h
      · simp only [Except.ok.injEq, Prod.mk.injEq] at h
        exact .inl h.2.symm
    · split at h
      · split at h
        · cases h
        · simp only [Except.ok.injEq, Prod.mk.injEq] at h
          exact .inl h.2.symm
      · cases hq : leafS m ret locs k a l with
        | error e => rw [hq] at h; cases h
        | ok v =>
          obtain ⟨v1, v2⟩ := v
          rw [hq] at h
          simp only [Except.ok.injEq, Prod.mk.injEq] at h
          rw [← h.2]
          unfold leafS at hq
          match l, hq with
          | [], hq => cases hq
          | [x], hq =>
            have gx : good x := good_mem gt (by simp)
            simp only at hq
            split at hq
            · cases ho : ofT m locs x with
              | error e => rw [ho] at hq; cases hq
              | ok w =>
                obtain ⟨w1, w2⟩ := w
                rw [ho] at hq
                simp only [Except.ok.injEq, Prod.mk.injEq] at hq
                exact .inr ⟨w1, hq.2.symm, (ofT_good gm G x gx _ _ ho).1⟩
            · split at hq
              · cases ho : kindT m x with
                | error e => rw [ho] at hq; cases hq
                | ok w =>
                  rw [ho] at hq
                  simp only [Except.ok.injEq, Prod.mk.injEq] at hq
                  exact .inr ⟨x, hq.2.symm, gx⟩
              · split at hq
                · cases ho : onlyT m locs x 1 2 with
                  | error e => rw [ho] at hq; cases hq
                  | ok w =>
                    rw [ho] at hq
                    simp only [Except.ok.injEq, Prod.mk.injEq] at hq
                    exact .inl hq.2.symm
                · split at hq
                  · cases ho : ofT m locs x with
                    | error e => rw [ho] at hq; cases hq
                    | ok w =>
                      obtain ⟨w1, w2⟩ := w
                      rw [ho] at hq
                      simp only at hq
                      split at hq
                      · simp only [Except.ok.injEq, Prod.mk.injEq] at hq
                        exact .inl hq.2.symm
                      · cases hq
                  · split at hq
                    · cases hq
                    · cases ho : ofT m locs x with
                      | error e => rw [ho] at hq; cases hq
                      | ok w =>
                        obtain ⟨w1, w2⟩ := w
                        rw [ho] at hq
                        simp only [Except.ok.injEq, Prod.mk.injEq] at hq
                        exact .inl hq.2.symm
          | [x, y], hq =>
            simp only at hq
            cases ho : ofT m locs x with
            | error e => rw [ho] at hq; cases hq
            | ok w =>
              obtain ⟨w1, w2⟩ := w
              rw [ho] at hq
              simp only at hq
              cases hp : ofT m locs y with
              | error e => rw [hp] at hq; cases hq
              | ok u =>
                obtain ⟨u1, u2⟩ := u
                rw [hp] at hq
                simp only at hq
                split at hq
                · cases hq
                · split at hq
                  · simp only [Except.ok.injEq, Prod.mk.injEq] at hq
                    exact .inl hq.2.symm
                  · cases hq
          | _ :: _ :: _ :: _, hq => cases hq

theorem stmt_F (gm : good m) : ∀ locs x s l1, stmtT m ret locs x = .ok (s, l1) → Good locs → good x → Good l1 ∧ locs.length ≤ l1.length ∧ l1.length ≤ locs.length + cntT x := by
  intro locs x s l1 h G gx
  have hp := cnt_pos x
  rcases stmt_locs gm x gx G h with rfl | ⟨a, rfl, ga⟩
  · exact ⟨G, Nat.le_refl _, by omega⟩
  · refine ⟨fun t ht => ?_, by simp, by simp; omega⟩
    rcases List.mem_append.1 ht with h | h
    · exact G t h
    · simp only [List.mem_cons, List.not_mem_nil, or_false] at h
      rw [h]; exact ga

theorem blk_each (m ret : Tm) : ∀ (l locs : List Tm), blkT m ret locs l = match eachT (stmtT m ret) locs l with
    | .error e => .error e
    | .ok (ss, _) => .ok ss
  | [], locs => by rw [blkT, eachT]
  | t :: l, locs => by
    rw [blkT, eachT]
    cases hq : stmtT m ret locs t with
    | error e => rfl
    | ok v =>
      obtain ⟨s, l1⟩ := v
      simp only
      rw [blk_each m ret l l1]
      cases hr : eachT (stmtT m ret) l1 l with
      | error e => rfl
      | ok w => rfl

theorem LocW.len {st : St} {lv : D} {locs : List Tm} (h : LocW st lv locs) : locs.length ≤ 2000000 := by
  rcases h with ⟨rfl, rfl⟩ | ⟨id, ver, md, full, more, rfl, h1, h2, h3, h4, h5, h6⟩
  · simp
  · simp at h6; omega

theorem LocW.slc {st : St} {lv : D} {locs : List Tm} (h : LocW st lv locs) : slcTy (some 6) lv = true := by
  rcases h with ⟨rfl, rfl⟩ | ⟨id, ver, md, full, more, rfl, _⟩ <;> simp [slcTy]
theorem stmt_pre (gm : good m) : ∀ locs x s l1, stmtT m ret locs x = .ok (s, l1) → Good locs → good x → Pre locs l1 ∧ Good l1 := by
  intro locs x s l1 h G gx
  refine ⟨?_, (stmt_F gm _ _ _ _ h G gx).1⟩
  rcases stmt_locs gm x gx G h with rfl | ⟨a, rfl, _⟩
  · exact .refl _
  · exact .one _ _

/-- A statement's walk, to be shown. -/
def Swalk (m ret : Tm) (x : Tm) : Prop := ∀ (st : St) (lv : D) (locs : List Tm) (at0 : Int), Lk m ret st lv locs at0 0 → Good locs → locs.length + cntT x ≤ 1000000 →
  ∃ r st', callD T (ev T) 175 [.hp 0 0 15 0 0, encT x] st = some (encT r, st') ∧ Sok m ret st lv locs at0 (stmtT m ret locs x) r st'
/-- A block's walk. -/
def Bwalk (m ret : Tm) (t : Tm) : Prop := ∀ (st : St) (lv : D) (locs : List Tm) (at0 : Int), Lk m ret st lv locs at0 0 → Good locs → locs.length + cntTs t.l ≤ 1000000 →
  ∃ r st' lv', callD T (ev T) 120 [.hp 0 0 15 0 0, encT t] st = some (encT r, st') ∧ Went st lv st' lv' ∧ match blkT m ret locs t.l with
    | .ok ss => r = .mk 29 t.n [] (pfl ss) ss 0 0 ∧ Lk m ret st' lv' locs at0 0
    | .error (x, y) => y ≠ 0 ∧ ∃ locs', locs'.length = locs.length ∧ Lk m ret st' lv' locs' x y

theorem c120 (gm : good m) (t : Tm) (gt : good t) (hS : ∀ x, x ∈ t.l → Swalk m ret x) : Bwalk m ret t := by
  intro st lv locs at0 K G hb
  obtain ⟨rs, st1, q, lv1, l1, W, E⟩ := c174 (stmtT m ret) (stmt_F gm) 175 [.hp 0 0 15 0 0] [] rfl t.fl t.l (fun x hx => good_mem gt hx) (good_len gt) st lv
    (fun x hx st' lv' locs' _ K' G' hb' => hS x hx st' lv' locs' at0 K' G' hb') locs K G hb
  obtain ⟨md, h0⟩ := K.h0
  obtain ⟨x1, x2, x3, x4⟩ := K.hw.facts
  have main : ∀ a1 e1, Lk m ret st1 lv1 l1 a1 e1 → locs.length ≤ l1.length → ∃ r st' lv', callD T (ev T) 120 [.hp 0 0 15 0 0, encT t] st = some (encT r, st') ∧ r = .mk 29 t.n [] (pfl rs) rs 0 0 ∧ Went st lv st' lv' ∧ Lk m ret st' lv' (l1.take locs.length) a1 e1 := by
    intro a1 e1 K1 hle
    obtain ⟨md1, k0⟩ := K1.h0
    obtain ⟨y1, y2, y3, _⟩ := K1.hw.facts
    obtain ⟨lv2, s1, z1, z2, z3, fin⟩ := K1.back locs.length hle K1.hw.len
    obtain ⟨K2, W2⟩ := fin (md1 + 1)
    have s2 := s1 _ rfl
    refine ⟨_, _, lv2, ?_, rfl, W.trans W2, K2⟩
    have go : Ret (ev T 120 [.hp 0 0 15 0 0, encT t] st) fun r st' => r = encT (.mk 29 t.n [] (pfl rs) rs 0 0) ∧ st' = List.set st1 0 (lkO m lv2 ret a1 e1 (md1 + 1)) := by
      refine Ret_wp (fn := F120) rfl ?_
      rw [F120]
      simp [h0, k0, lkO, kHs, splice, fillD, x1, x2, x3, x4, y1, y2, y3, z1, z2, z3, q, s2, K1.hw.slc]
      rw [encT_eq] <;> rfl
    obtain ⟨r, st', h1, rfl, rfl⟩ := go
    exact callD_freE (fn := F120) rfl rfl (by simp) h1 (by simp) (by simp)
  rw [blk_each]
  cases hE : eachT (stmtT m ret) locs t.l with
  | ok w =>
    obtain ⟨ss, l2⟩ := w
    rw [hE] at E
    obtain ⟨rfl, rfl, K1⟩ := E
    have hp := each_pre (stmt_pre gm) t.l locs ss l1 hE G (fun x hx => good_mem gt hx)
    obtain ⟨r, st', lv', c, hr, W', K'⟩ := main _ _ K1 hp.le
    rw [hp.take] at K'
    exact ⟨r, st', lv', c, W', hr, K'⟩
  | error w =>
    obtain ⟨x, y⟩ := w
    rw [hE] at E
    obtain ⟨hy, hle, K1⟩ := E
    obtain ⟨r, st', lv', c, _, W', K'⟩ := main _ _ K1 hle
    exact ⟨r, st', lv', c, W', hy, _, by rw [List.length_take, Nat.min_eq_left hle], K'⟩
end Go.Nt.Ty
