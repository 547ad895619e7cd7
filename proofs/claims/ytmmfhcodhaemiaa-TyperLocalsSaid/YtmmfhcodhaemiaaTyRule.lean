/-
  THE RULES: the walk.
-/
import Derived.Test.YtmmfhcodhaemiaaTyList
set_option linter.unusedSimpArgs false
namespace Go.Nt.Ty
open Go Go.Nt

variable {m : Tm} {fl : Fl} {locs : List Tm} {at0 e0 : Int} {md : Nat}

/-- The types' object, not written any more. -/
def frz (st : St) (pid pv pm : Nat) (fr : Bool) (es : List D) : St := if fr then st else List.set st pid (.cells false 6 pv (pm + 1) true es)
theorem frz_len (st : St) (pid pv pm : Nat) (fr : Bool) (es : List D) : (frz st pid pv pm fr es).length = st.length := by cases fr <;> simp [frz]
theorem frz_at (st : St) (pid pv pm : Nat) (fr : Bool) (es : List D) {i : Nat} (hi : i ≠ pid) : St.at (frz st pid pv pm fr es) i = St.at st i := by
  cases fr with
  | true => rfl
  | false =>
    simp only [frz, Bool.false_eq_true, if_false]
    by_cases h : pid < st.length
    · rw [at_set _ _ _ _ h, if_neg hi]
    · rw [List.set_eq_of_length_le (by omega)]

theorem c25p (ts ps : List Tm) (fl fl' : Fl) (hb : ps.length ≤ 9223372036854775807) (ht : ∀ t, t ∈ ts → good t) (hp : ∀ p, p ∈ ps → good p) (st : St) :
    callD T (ev T) 25 [slE 6 fl (encTs ts), slE 6 fl' (encTs ps)] st = some (.bool (allT ts ps), st) :=
  callD_pure (fn := F25) (st1 := []) (st2 := []) rfl rfl (by simp) (c25e ts ps fl fl' hb ht hp) (by simp) (by simp)

theorem c25r {st : St} (tys ps : List Tm) (fl' : Fl) (hb : ps.length ≤ 9223372036854775807) (ht : ∀ t, t ∈ tys → good t) (hpp : ∀ p, p ∈ ps → good p) (pid pv pm : Nat) (fr : Bool) (hp : St.at st pid = .cells false 6 pv pm fr (encTs tys)) :
    callD T (ev T) 25 [.rs pid pv 6 0 tys.length false, slE 6 fl' (encTs ps)] st = some (.bool (allT tys ps), frz st pid pv pm fr (encTs tys)) := by
  have e : slE 6 .part (encTs tys) = .sl 6 false (encTs tys) := by cases encTs tys <;> rfl
  have hfz : fz1 st (.rs pid pv 6 0 tys.length false) = some (.sl 6 false (encTs tys), frz st pid pv pm fr (encTs tys)) := by
    have : fz1 st (.rs pid pv 6 0 tys.length false) = fz0 st (.rs pid pv 6 0 tys.length false) := rfl
    rw [this, fz0_rs, hp]
    simp [frz, List.take_of_length_le]
  refine callD_free (fn := F25) (args' := [slE 6 .part (encTs tys), slE 6 fl' (encTs ps)]) rfl rfl ?_ (by simp) (c25p tys ps _ _ hb ht hpp _)
  rw [e]
  simp [pureArgs, hfz]

structure RH (m : Tm) (fl : Fl) (locs : List Tm) (md : Nat) (st : St) (oid om : Nat) (k n : Int) (s : List UInt8) (L : D) (pid pv pm : Nat) (fr : Bool) (tys : List Tm) : Prop where
  h0 : St.at st 0 = tyO m fl locs 0 0 md
  ho : St.at st oid = .cells true 6 0 om false [outD k n s L]
  hp : St.at st pid = .cells false 6 pv pm fr (encTs tys)
  ol : oid < st.length
  pl : pid < st.length
  op : oid ≠ pid
  o0 : oid ≠ 0
  p0 : pid ≠ 0
  gm : good m
  gt : ∀ t, t ∈ tys → good t
  tl : tys.length ≤ 1000000
  gn : in64 n

/-- How the rule leaves the heap. -/
def Left (st st' : St) (oid pid : Nat) (k n : Int) (s : List UInt8) (L : D) : Prop :=
  st'.length = st.length ∧ (∃ om', St.at st' oid = .cells true 6 0 om' false [outD k n s L]) ∧ ∀ i, i ≠ oid → i ≠ pid → St.at st' i = St.at st i

theorem Left.self {st : St} {oid om pid : Nat} {k n : Int} {s : List UInt8} {L : D} (h : St.at st oid = .cells true 6 0 om false [outD k n s L]) : Left st st oid pid k n s L := ⟨rfl, ⟨om, h⟩, fun _ _ _ => rfl⟩

theorem ev17_bin {st : St} {oid om : Nat} {n : Int} {s : List UInt8} {L : D} {pid pv pm : Nat} {fr : Bool} {a b : Tm} (H : RH m fl locs md st oid om 10 n s L pid pv pm fr [a, b]) (d : Tm) :
    ev T 17 [.hp 0 0 9 0 0, .hp oid 0 6 0 0, encT d, .rs pid pv 6 0 2 false] st = some (.tup [encT (ruleT m 10 n s d [a, b]).1, .int .i64 (ruleT m 10 n s d [a, b]).2.1], st) := by
  have h21 := c21 n a b st
  rw [encT_eq (binT n a b)] at h21
  rw [ev_eq 17 F17 rfl, F17]
  have hr : ruleT m 10 n s d [a, b] = (binT n a b, if (binT n a b).k = 0 then 10 else 0, n) := by simp [ruleT]
  rw [hr]
  by_cases hz : (binT n a b).k = 0
  · simp [H.ho, H.hp, outD, ← encT_eq a, ← encT_eq b, h21, hz]
    rw [encT_eq (binT n a b), hz]
  · simp [H.ho, H.hp, outD, ← encT_eq a, ← encT_eq b, h21, hz]
    rw [encT_eq (binT n a b)]

theorem ev17_un {st : St} {oid om : Nat} {n : Int} {s : List UInt8} {L : D} {pid pv pm : Nat} {fr : Bool} {a : Tm} (H : RH m fl locs md st oid om 11 n s L pid pv pm fr [a]) (d : Tm) :
    ev T 17 [.hp 0 0 9 0 0, .hp oid 0 6 0 0, encT d, .rs pid pv 6 0 1 false] st = some (.tup [encT (ruleT m 11 n s d [a]).1, .int .i64 (ruleT m 11 n s d [a]).2.1], st) := by
  have i1 := c22 a 1 st
  have i2 := c22 a 2 st
  have hr : ruleT m 11 n s d [a] = if (n = 1 ∧ isT a 1 = true) ∨ (n = 2 ∧ isT a 2 = true) then (a, 0, n) else (T0, 10, n) := by simp [ruleT]
  rw [hr]
  rw [ev_eq 17 F17 rfl, F17]
  by_cases n1 : n = 1
  · cases h1 : isT a 1 with
    | true =>
      rw [h1] at i1
      simp [H.ho, H.hp, outD, ← encT_eq a, i1, n1]
    | false =>
      rw [h1] at i1
      simp [H.ho, H.hp, outD, ← encT_eq a, i1, n1, encT_K]
  · by_cases n2 : n = 2
    · cases h1 : isT a 2 with
      | true =>
        rw [h1] at i2
        simp [H.ho, H.hp, outD, ← encT_eq a, i2, n2]
      | false =>
        rw [h1] at i2
        simp [H.ho, H.hp, outD, ← encT_eq a, i2, n2, encT_K]
    · simp [H.ho, H.hp, outD, n1, n2, encT_K]

theorem ev17_idx {st : St} {oid om : Nat} {n : Int} {s : List UInt8} {L : D} {pid pv pm : Nat} {fr : Bool} {a b : Tm} (H : RH m fl locs md st oid om 12 n s L pid pv pm fr [a, b]) (d : Tm) :
    ev T 17 [.hp 0 0 9 0 0, .hp oid 0 6 0 0, encT d, .rs pid pv 6 0 2 false] st = some (.tup [encT (ruleT m 12 n s d [a, b]).1, .int .i64 (ruleT m 12 n s d [a, b]).2.1], st) := by
  have i1 := c22 b 1 st
  have hr : ruleT m 12 n s d [a, b] = if (a.k = 3 ∧ a.l.length = 1) ∧ isT b 1 = true then (a.l.headD T0, 0, n) else (T0, 10, n) := by simp [ruleT]
  rw [hr]
  rw [ev_eq 17 F17 rfl, F17]
  by_cases k3 : a.k = 3
  · match hx : a.l with
    | [] => simp [H.ho, H.hp, outD, k3, hx, encT_K]
    | x :: y :: l => simp [H.ho, H.hp, outD, k3, hx, encT_K]
    | [x] =>
      cases hb : isT b 1 with
      | true =>
        rw [hb] at i1
        simp [H.ho, H.hp, outD, k3, hx, ← encT_eq b, i1]
        rw [encT_eq x]
      | false =>
        rw [hb] at i1
        simp [H.ho, H.hp, outD, k3, hx, ← encT_eq b, i1, encT_K]
  · simp [H.ho, H.hp, outD, k3, encT_K]

theorem ev17_list {st : St} {oid om : Nat} {n : Int} {s : List UInt8} {L : D} {pid pv pm : Nat} {fr : Bool} {tys : List Tm} (H : RH m fl locs md st oid om 14 n s L pid pv pm fr tys) (hne : 0 < tys.length) (d : Tm) :
    ∃ st', ev T 17 [.hp 0 0 9 0 0, .hp oid 0 6 0 0, encT d, .rs pid pv 6 0 tys.length false] st = some (.tup [encT (ruleT m 14 n s d tys).1, .int .i64 (ruleT m 14 n s d tys).2.1], st') ∧ Left st st' oid pid 14 n s L := by
  obtain ⟨p0, tl, ht⟩ : ∃ p0 tl, tys = p0 :: tl := by cases tys with | nil => simp at hne | cons a b => exact ⟨a, b, rfl⟩
  have hr : ruleT m 14 n s d tys = ((listT m p0 tys).1, (listT m p0 tys).2, n) := by simp [ruleT, ht]
  obtain ⟨st', h24, hl, hat⟩ := c24b H.h0 H.gm tys p0 (by rw [ht]; rfl) pid pv pm fr H.hp H.pl (fun e => H.p0 e.symm) H.tl H.gt
  refine ⟨st', ?_, hl, ⟨om, by rw [hat _ H.op]; exact H.ho⟩, fun i _ hi => hat i hi⟩
  rw [hr, ev_eq 17 F17 rfl, F17]
  rw [encT_eq (listT m p0 tys).1] at h24
  simp [H.ho, outD, h24]
  rw [encT_eq (listT m p0 tys).1]

theorem ev17_make {st : St} {oid om : Nat} {n : Int} {s : List UInt8} {L : D} {pid pv pm : Nat} {fr : Bool} {tys : List Tm} (H : RH m fl locs md st oid om 15 n s L pid pv pm fr tys) (d : Tm) (gd : good d) :
    ∃ st', ev T 17 [.hp 0 0 9 0 0, .hp oid 0 6 0 0, encT d, .rs pid pv 6 0 tys.length false] st = some (.tup [encT (ruleT m 15 n s d tys).1, .int .i64 (ruleT m 15 n s d tys).2.1], st') ∧ Left st st' oid pid 15 n s L := by
  have hr : ruleT m 15 n s d tys = if allT tys d.l then (.mk 4 n [] .nil [] 0 0, 0, n) else (T0, 10, n) := by simp [ruleT]
  have h25 := c25r tys d.l d.fl (by have := good_len gd; omega) H.gt (fun p hp => good_mem gd hp) pid pv pm fr H.hp
  have hso : St.at (frz st pid pv pm fr (encTs tys)) oid = .cells true 6 0 om false [outD 15 n s L] := by rw [frz_at _ _ _ _ _ _ H.op]; exact H.ho
  refine ⟨frz st pid pv pm fr (encTs tys), ?_, frz_len _ _ _ _ _ _, ⟨om, hso⟩, fun i _ hi => frz_at _ _ _ _ _ _ hi⟩
  rw [hr, ev_eq 17 F17 rfl, F17]
  cases ha : allT tys d.l with
  | true =>
    rw [ha] at h25
    simp [H.ho, hso, outD, h25]
    simp [encT, slE]
  | false =>
    rw [ha] at h25
    simp [H.ho, hso, outD, h25, encT_K]

theorem ev17_call {st : St} {oid om : Nat} {n : Int} {s : List UInt8} {L : D} {pid pv pm : Nat} {fr : Bool} {tys : List Tm} (H : RH m fl locs md st oid om 16 n s L pid pv pm fr tys) (d : Tm) (gd : good d) (hd : d.l.length = 3) :
    ∃ st', ev T 17 [.hp 0 0 9 0 0, .hp oid 0 6 0 0, encT d, .rs pid pv 6 0 tys.length false] st = some (.tup [encT (ruleT m 16 n s d tys).1, .int .i64 (ruleT m 16 n s d tys).2.1], st') ∧ Left st st' oid pid 16 n s L := by
  obtain ⟨x, y, z, hx⟩ : ∃ x y z, d.l = [x, y, z] := by
    match hq : d.l, hd with
    | [x, y, z], _ => exact ⟨x, y, z, rfl⟩
  have gx := good_mem gd (by rw [hx]; simp : x ∈ d.l)
  have gy := good_mem gd (by rw [hx]; simp : y ∈ d.l)
  have hr : ruleT m 16 n s d tys = if allT tys x.l then (bareT y, 0, n) else (T0, 10, n) := by simp [ruleT, hx]
  have h25 := c25r tys x.l x.fl (by have := good_len gx; omega) H.gt (fun p hp => good_mem gx hp) pid pv pm fr H.hp
  have hso : St.at (frz st pid pv pm fr (encTs tys)) oid = .cells true 6 0 om false [outD 16 n s L] := by rw [frz_at _ _ _ _ _ _ H.op]; exact H.ho
  have h26 := c26 y gy (frz st pid pv pm fr (encTs tys))
  rw [encT_eq (bareT y)] at h26
  refine ⟨frz st pid pv pm fr (encTs tys), ?_, frz_len _ _ _ _ _ _, ⟨om, hso⟩, fun i _ hi => frz_at _ _ _ _ _ _ hi⟩
  rw [hr, ev_eq 17 F17 rfl, F17]
  cases ha : allT tys x.l with
  | true =>
    rw [ha] at h25
    simp [H.ho, hso, outD, h25, hx, ← encT_eq y, h26]
    rw [encT_eq (bareT y)]
  | false =>
    rw [ha] at h25
    simp [H.ho, hso, outD, h25, hx, encT_K]

theorem ev17_field {st : St} {oid om : Nat} {n : Int} {s : List UInt8} {lid lv lk : Nat} {pid pv pm : Nat} {fr : Bool} {a : Tm} (H : RH m fl locs md st oid om 13 n s (.rs lid lv 6 0 lk false) pid pv pm fr [a]) (d : Tm) :
    ∃ st', ev T 17 [.hp 0 0 9 0 0, .hp oid 0 6 0 0, encT d, .rs pid pv 6 0 1 false] st = some (.tup [encT (ruleT m 13 n s d [a]).1, .int .i64 (ruleT m 13 n s d [a]).2.1], st') ∧ Left st st' oid pid 13 (ruleT m 13 n s d [a]).2.2 s (.rs lid lv 6 0 lk false) := by
  have hr : ruleT m 13 n s d [a] = if a.k = 4 ∧ a.l = [] then (if (fieldT m n s a).2.2 then ((fieldT m n s a).2.1, 0, (fieldT m n s a).1) else (T0, 8, n)) else (T0, 10, n) := by simp [ruleT]
  rw [hr]
  by_cases k4 : a.k = 4
  · cases hx : a.l with
    | nil =>
      have e4 : (a.k = 4) = True := eq_true k4
      have e0 : (a.l = []) = True := eq_true hx
      have h23 := c23 H.h0 H.gm 13 n s lid lv lk H.gn a
      rw [encT_eq (fieldT m n s a).2.1] at h23
      cases hf : (fieldT m n s a).2.2 with
      | true =>
        rw [hf] at h23
        refine ⟨List.set st oid (.cells true 6 0 (om + 1) false [outD 13 (fieldT m n s a).1 s (.rs lid lv 6 0 lk false)]), ?_, by simp, ⟨om + 1, by simp [at_set _ _ _ _ H.ol, k4]⟩, fun i h1 _ => by rw [at_set _ _ _ _ H.ol, if_neg h1]⟩
        rw [ev_eq 17 F17 rfl, F17]
        simp [H.ho, H.hp, outD, ← encT_eq a, h23, e4, e0, kHs, splice]
        rw [encT_eq (fieldT m n s a).2.1]
      | false =>
        rw [hf] at h23
        refine ⟨st, ?_, Left.self (by simpa [k4] using H.ho)⟩
        rw [ev_eq 17 F17 rfl, F17]
        simp [H.ho, H.hp, outD, ← encT_eq a, h23, e4, e0, encT_K]
    | cons x l =>
      refine ⟨st, ?_, Left.self (by simpa using H.ho)⟩
      rw [ev_eq 17 F17 rfl, F17]
      simp [H.ho, H.hp, outD, k4, hx, encT_K]
  · refine ⟨st, ?_, Left.self (by simpa [k4] using H.ho)⟩
    rw [ev_eq 17 F17 rfl, F17]
    simp [H.ho, H.hp, outD, k4, encT_K]

theorem ruleT_n {m : Tm} {k n : Int} {s : List UInt8} {d : Tm} {p : List Tm} (h : k ≠ 13) : (ruleT m k n s d p).2.2 = n := by
  unfold ruleT
  rw [if_neg h]
  repeat' split
  all_goals rfl

theorem len2 {l : List Tm} (h : l.length = 2) : ∃ a b, l = [a, b] := by
  match l, h with
  | [a, b], _ => exact ⟨a, b, rfl⟩

/-- The rule, of an expression that has parts. -/
theorem ev17 {st : St} {oid om : Nat} {t : Tm} {lid lv : Nat} {pid pv pm : Nat} {fr : Bool} {tys : List Tm} (H : RH m fl locs md st oid om t.k t.n t.s (.rs lid lv 6 0 tys.length false) pid pv pm fr tys) (hne : 0 < tys.length) (d : Tm) (gd : good d)
    (hs : shapedT t = true) (hl : t.l.length = tys.length) (h17 : t.k ≠ 17) (hd : t.k = 16 → d.l.length = 3) :
    ∃ st', ev T 17 [.hp 0 0 9 0 0, .hp oid 0 6 0 0, encT d, .rs pid pv 6 0 tys.length false] st = some (.tup [encT (ruleT m t.k t.n t.s d tys).1, .int .i64 (ruleT m t.k t.n t.s d tys).2.1], st') ∧
      Left st st' oid pid t.k (ruleT m t.k t.n t.s d tys).2.2 t.s (.rs lid lv 6 0 tys.length false) := by
  by_cases h13 : t.k = 13
  · have h1 : tys.length = 1 := by rw [← hl]; simpa [shapedT, h13] using hs
    obtain ⟨a, rfl⟩ := List.length_eq_one_iff.1 h1
    rw [h13] at H ⊢
    exact ev17_field H d
  rw [ruleT_n h13]
  by_cases h10 : t.k = 10
  · have h1 : tys.length = 2 := by rw [← hl]; simp [shapedT, h10] at hs; exact hs.1
    obtain ⟨a, b, rfl⟩ := len2 h1
    rw [h10] at H ⊢
    exact ⟨st, ev17_bin H d, Left.self H.ho⟩
  by_cases h11 : t.k = 11
  · have h1 : tys.length = 1 := by rw [← hl]; simp [shapedT, h11] at hs; exact hs.1
    obtain ⟨a, rfl⟩ := List.length_eq_one_iff.1 h1
    rw [h11] at H ⊢
    exact ⟨st, ev17_un H d, Left.self H.ho⟩
  by_cases h12 : t.k = 12
  · have h1 : tys.length = 2 := by rw [← hl]; simpa [shapedT, h12] using hs
    obtain ⟨a, b, rfl⟩ := len2 h1
    rw [h12] at H ⊢
    exact ⟨st, ev17_idx H d, Left.self H.ho⟩
  by_cases h14 : t.k = 14
  · rw [h14] at H ⊢
    exact ev17_list H hne d
  by_cases h15 : t.k = 15
  · rw [h15] at H ⊢
    exact ev17_make H d gd
  by_cases h16 : t.k = 16
  · have := hd h16
    rw [h16] at H ⊢
    exact ev17_call H d gd this
  exfalso
  unfold shapedT at hs
  rw [← hl] at hne
  by_cases q : t.k = 5 ∨ t.k = 7 ∨ t.k = 8 ∨ t.k = 9 ∨ t.k = 18
  · rw [if_pos q] at hs; simp only [decide_eq_true_eq] at hs; omega
  rw [if_neg q] at hs
  by_cases q6 : t.k = 6
  · rw [if_pos q6] at hs; simp only [Bool.and_eq_true, decide_eq_true_eq] at hs; omega
  rw [if_neg q6, if_neg h11, if_neg h10, if_neg h13, if_neg h12, if_neg (by omega)] at hs
  simp [h16, h17] at hs

theorem ev17_leaf {st : St} {oid om : Nat} {k n : Int} {s : List UInt8} (ho : St.at st oid = .cells true 6 0 om false [outD k n s .nils]) (d : Tm) (gd : good d)
    (hk : k = 5 ∨ k = 18 ∨ k = 6 ∨ k = 7 ∨ k = 8 ∨ k = 9) :
    ev T 17 [.hp 0 0 9 0 0, .hp oid 0 6 0 0, encT d, .nils] st = some (.tup [encT (leafT k d), .int .i64 0], st) := by
  have h20 := c20 k n s d gd st
  rw [encT_eq (leafT k d)] at h20
  rw [ev_eq 17 F17 rfl, F17]
  rcases hk with rfl | rfl | rfl | rfl | rfl | rfl
  all_goals
    simp [ho, outD, ← encT_eq d, h20]
    rw [encT_eq (leafT _ d)]

theorem ev17_call0 {st : St} {oid om : Nat} {n : Int} {s : List UInt8} (ho : St.at st oid = .cells true 6 0 om false [outD 16 n s .nils]) (d : Tm) (gd : good d) (hd : d.l.length = 3) :
    ev T 17 [.hp 0 0 9 0 0, .hp oid 0 6 0 0, encT d, .nils] st = some (.tup [encT (ruleT m 16 n s d []).1, .int .i64 (ruleT m 16 n s d []).2.1], st) := by
  obtain ⟨x, y, z, hx⟩ : ∃ x y z, d.l = [x, y, z] := by
    match hq : d.l, hd with
    | [x, y, z], _ => exact ⟨x, y, z, rfl⟩
  have gx := good_mem gd (by rw [hx]; simp : x ∈ d.l)
  have gy := good_mem gd (by rw [hx]; simp : y ∈ d.l)
  have hr : ruleT m 16 n s d [] = if allT [] x.l then (bareT y, 0, n) else (T0, 10, n) := by simp [ruleT, hx]
  have h25 := c25p [] x.l .nil x.fl (by have := good_len gx; omega) (fun t ht => by cases ht) (fun p hp => good_mem gx hp) st
  have en : slE 6 .nil (encTs []) = .nils := rfl
  rw [en] at h25
  have h26 := c26 y gy st
  rw [encT_eq (bareT y)] at h26
  rw [hr, ev_eq 17 F17 rfl, F17]
  cases ha : allT [] x.l with
  | true =>
    rw [ha] at h25
    simp [ho, outD, h25, hx, ← encT_eq y, h26]
    rw [encT_eq (bareT y)]
  | false =>
    rw [ha] at h25
    simp [ho, outD, h25, hx, encT_K]

end Go.Nt.Ty
