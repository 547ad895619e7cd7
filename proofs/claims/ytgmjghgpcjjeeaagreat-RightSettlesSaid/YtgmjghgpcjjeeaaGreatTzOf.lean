/-
  THE RULES: the walk.
-/
import Derived.Test.YtgmjghgpcjjeeaaGreatTzList
set_option linter.unusedSimpArgs false
namespace Go.Nt.Ty
open Go Go.Nt

variable {m : Tm} {lv : D} {locs : List Tm} {at0 e0 : Int} {md oi : Nat}

/-- The types' object, not written any more. -/
def frz (st : St) (pid pv pm : Nat) (fr : Bool) (es : List D) : St := if fr then st else List.set st pid (.cells false 6 pv (pm + 1) true es)
theorem frz_len (st : St) (pid pv pm : Nat) (fr : Bool) (es : List D) : (frz st pid pv pm fr es).length = st.length := by cases fr <;> simp [frz]
theorem frz_at (st : St) (pid pv pm : Nat) (fr : Bool) (es : List D) {i : Nat} (hi : i ≠ pid) : St.at (frz st pid pv pm fr es) i = St.at st i := by
  cases fr with
  | true => rfl
  | false =>
    simp only [frz, Bool.false_eq_true, if_false]
    by_cases h : pid < st.length
    · rw [at_set _ _ _ _ h, if_neg hi]
    · rw [List.set_eq_of_length_le (by omega)]

theorem c211p (ts ps : List Tm) (fl fl' : Fl) (hb : ps.length ≤ 9223372036854775807) (ht : ∀ t, t ∈ ts → good t) (hp : ∀ p, p ∈ ps → good p) (st : St) :
    callD T (ev T) 211 [slE 6 fl (encTs ts), slE 6 fl' (encTs ps)] st = some (.bool (allT ts ps), st) :=
  callD_pure (fn := F211) (st1 := []) (st2 := []) rfl rfl (by simp) (c211e ts ps fl fl' hb ht hp) (by simp) (by simp)

theorem c211r {st : St} (tys ps : List Tm) (fl' : Fl) (hb : ps.length ≤ 9223372036854775807) (ht : ∀ t, t ∈ tys → good t) (hpp : ∀ p, p ∈ ps → good p) (pid pv pm : Nat) (fr : Bool) (hp : St.at st pid = .cells false 6 pv pm fr (encTs tys)) :
    callD T (ev T) 211 [.rs pid pv 6 0 tys.length false, slE 6 fl' (encTs ps)] st = some (.bool (allT tys ps), frz st pid pv pm fr (encTs tys)) := by
  have e : slE 6 .part (encTs tys) = .sl 6 false (encTs tys) := by cases encTs tys <;> rfl
  have hfz : fz1 st (.rs pid pv 6 0 tys.length false) = some (.sl 6 false (encTs tys), frz st pid pv pm fr (encTs tys)) := by
    have : fz1 st (.rs pid pv 6 0 tys.length false) = fz0 st (.rs pid pv 6 0 tys.length false) := rfl
    rw [this, fz0_rs, hp]
    simp [frz, List.take_of_length_le]
  refine callD_free (fn := F211) (args' := [slE 6 .part (encTs tys), slE 6 fl' (encTs ps)]) rfl rfl ?_ (by simp) (c211p tys ps _ _ hb ht hpp _)
  rw [e]
  simp [pureArgs, hfz]

structure RH (m : Tm) (lv : D) (md oi : Nat) (st : St) (oid om : Nat) (k n : Int) (s : List UInt8) (L : D) (pid pv pm : Nat) (fr : Bool) (tys : List Tm) : Prop where
  h0 : St.at st oi = tyO m lv 0 0 md
  ho : St.at st oid = .cells true 6 0 om false [outD k n s L]
  hp : St.at st pid = .cells false 6 pv pm fr (encTs tys)
  ol : oid < st.length
  pl : pid < st.length
  op : oid ≠ pid
  o0 : oid ≠ oi
  p0 : pid ≠ oi
  gm : good m
  gt : ∀ t, t ∈ tys → good t
  tl : tys.length ≤ 1000000
  gn : in64 n

/-- How the rule leaves the heap. -/
def Left (st st' : St) (oid pid : Nat) (k n : Int) (s : List UInt8) (L : D) : Prop :=
  st'.length = st.length ∧ (∃ om', St.at st' oid = .cells true 6 0 om' false [outD k n s L]) ∧ ∀ i, i ≠ oid → i ≠ pid → St.at st' i = St.at st i

theorem Left.self {st : St} {oid om pid : Nat} {k n : Int} {s : List UInt8} {L : D} (h : St.at st oid = .cells true 6 0 om false [outD k n s L]) : Left st st oid pid k n s L := ⟨rfl, ⟨om, h⟩, fun _ _ _ => rfl⟩

theorem ev17_bin {st : St} {oid om : Nat} {n : Int} {s : List UInt8} {L : D} {pid pv pm : Nat} {fr : Bool} {a b : Tm} (H : RH m lv md oi st oid om 10 n s L pid pv pm fr [a, b]) (d : Tm) :
    ev T 155 [.hp oi 0 9 0 0, .hp oid 0 6 0 0, encT d, .rs pid pv 6 0 2 false] st = some (.tup [encT (ruleT m 10 n s d [a, b]).1, .int .i64 (ruleT m 10 n s d [a, b]).2.1], st) := by
  have h21 := c207 n a b st
  rw [encT_eq (binT n a b)] at h21
  rw [ev_eq 155 F155 rfl, F155]
  have hr : ruleT m 10 n s d [a, b] = (binT n a b, if (binT n a b).k = 0 then 10 else 0, n) := by simp [ruleT]
  rw [hr]
  by_cases hz : (binT n a b).k = 0
  · simp [H.ho, H.hp, outD, ← encT_eq a, ← encT_eq b, h21, hz]
    rw [encT_eq (binT n a b), hz]
  · simp [H.ho, H.hp, outD, ← encT_eq a, ← encT_eq b, h21, hz]
    rw [encT_eq (binT n a b)]

theorem ev17_un {st : St} {oid om : Nat} {n : Int} {s : List UInt8} {L : D} {pid pv pm : Nat} {fr : Bool} {a : Tm} (H : RH m lv md oi st oid om 11 n s L pid pv pm fr [a]) (d : Tm) :
    ev T 155 [.hp oi 0 9 0 0, .hp oid 0 6 0 0, encT d, .rs pid pv 6 0 1 false] st = some (.tup [encT (ruleT m 11 n s d [a]).1, .int .i64 (ruleT m 11 n s d [a]).2.1], st) := by
  have i1 := c208 a 1 st
  have i2 := c208 a 2 st
  have hr : ruleT m 11 n s d [a] = if (n = 1 ∧ isT a 1 = true) ∨ (n = 2 ∧ isT a 2 = true) then (a, 0, n) else (T0, 10, n) := by simp [ruleT]
  rw [hr]
  rw [ev_eq 155 F155 rfl, F155]
  by_cases n1 : n = 1
  · cases h1 : isT a 1 with
    | true =>
      rw [h1] at i1
      simp [H.ho, H.hp, outD, ← encT_eq a, i1, n1]
    | false =>
      rw [h1] at i1
      simp [H.ho, H.hp, outD, ← encT_eq a, i1, n1, encT_K]
  · by_cases n2 : n = 2
    · cases h1 : isT a 2 with
      | true =>
        rw [h1] at i2
        simp [H.ho, H.hp, outD, ← encT_eq a, i2, n2]
      | false =>
        rw [h1] at i2
        simp [H.ho, H.hp, outD, ← encT_eq a, i2, n2, encT_K]
    · simp [H.ho, H.hp, outD, n1, n2, encT_K]

theorem ev17_idx {st : St} {oid om : Nat} {n : Int} {s : List UInt8} {L : D} {pid pv pm : Nat} {fr : Bool} {a b : Tm} (H : RH m lv md oi st oid om 12 n s L pid pv pm fr [a, b]) (d : Tm) :
    ev T 155 [.hp oi 0 9 0 0, .hp oid 0 6 0 0, encT d, .rs pid pv 6 0 2 false] st = some (.tup [encT (ruleT m 12 n s d [a, b]).1, .int .i64 (ruleT m 12 n s d [a, b]).2.1], st) := by
  have i1 := c208 b 1 st
  have hr : ruleT m 12 n s d [a, b] = if (a.k = 3 ∧ a.l.length = 1) ∧ isT b 1 = true then (a.l.headD T0, 0, n) else (T0, 10, n) := by simp [ruleT]
  rw [hr]
  rw [ev_eq 155 F155 rfl, F155]
  by_cases k3 : a.k = 3
  · match hx : a.l with
    | [] => simp [H.ho, H.hp, outD, k3, hx, encT_K]
    | x :: y :: l => simp [H.ho, H.hp, outD, k3, hx, encT_K]
    | [x] =>
      cases hb : isT b 1 with
      | true =>
        rw [hb] at i1
        simp [H.ho, H.hp, outD, k3, hx, ← encT_eq b, i1]
        rw [encT_eq x]
      | false =>
        rw [hb] at i1
        simp [H.ho, H.hp, outD, k3, hx, ← encT_eq b, i1, encT_K]
  · simp [H.ho, H.hp, outD, k3, encT_K]

theorem ev17_list {st : St} {oid om : Nat} {n : Int} {s : List UInt8} {L : D} {pid pv pm : Nat} {fr : Bool} {tys : List Tm} (H : RH m lv md oi st oid om 14 n s L pid pv pm fr tys) (hne : 0 < tys.length) (d : Tm) :
    ∃ st', ev T 155 [.hp oi 0 9 0 0, .hp oid 0 6 0 0, encT d, .rs pid pv 6 0 tys.length false] st = some (.tup [encT (ruleT m 14 n s d tys).1, .int .i64 (ruleT m 14 n s d tys).2.1], st') ∧ Left st st' oid pid 14 n s L := by
  obtain ⟨p0, tl, ht⟩ : ∃ p0 tl, tys = p0 :: tl := by cases tys with | nil => simp at hne | cons a b => exact ⟨a, b, rfl⟩
  have hr : ruleT m 14 n s d tys = ((listT m p0 tys).1, (listT m p0 tys).2, n) := by simp [ruleT, ht]
  obtain ⟨st', h24, hl, hat⟩ := c210b H.h0 H.gm tys p0 (by rw [ht]; rfl) pid pv pm fr H.hp H.pl (fun e => H.p0 e.symm) H.tl H.gt
  refine ⟨st', ?_, hl, ⟨om, by rw [hat _ H.op]; exact H.ho⟩, fun i _ hi => hat i hi⟩
  rw [hr, ev_eq 155 F155 rfl, F155]
  rw [encT_eq (listT m p0 tys).1] at h24
  simp [H.ho, outD, h24]
  rw [encT_eq (listT m p0 tys).1]

theorem ev17_make {st : St} {oid om : Nat} {n : Int} {s : List UInt8} {L : D} {pid pv pm : Nat} {fr : Bool} {tys : List Tm} (H : RH m lv md oi st oid om 15 n s L pid pv pm fr tys) (d : Tm) (gd : good d) :
    ∃ st', ev T 155 [.hp oi 0 9 0 0, .hp oid 0 6 0 0, encT d, .rs pid pv 6 0 tys.length false] st = some (.tup [encT (ruleT m 15 n s d tys).1, .int .i64 (ruleT m 15 n s d tys).2.1], st') ∧ Left st st' oid pid 15 n s L := by
  have hr : ruleT m 15 n s d tys = if allT tys d.l then (.mk 4 n [] .nil [] 0 0, 0, n) else (T0, 10, n) := by simp [ruleT]
  have h25 := c211r tys d.l d.fl (by have := good_len gd; omega) H.gt (fun p hp => good_mem gd hp) pid pv pm fr H.hp
  have hso : St.at (frz st pid pv pm fr (encTs tys)) oid = .cells true 6 0 om false [outD 15 n s L] := by rw [frz_at _ _ _ _ _ _ H.op]; exact H.ho
  refine ⟨frz st pid pv pm fr (encTs tys), ?_, frz_len _ _ _ _ _ _, ⟨om, hso⟩, fun i _ hi => frz_at _ _ _ _ _ _ hi⟩
  rw [hr, ev_eq 155 F155 rfl, F155]
  cases ha : allT tys d.l with
  | true =>
    rw [ha] at h25
    simp [H.ho, hso, outD, h25]
    simp [encT, slE]
  | false =>
    rw [ha] at h25
    simp [H.ho, hso, outD, h25, encT_K]

theorem ev17_call {st : St} {oid om : Nat} {n : Int} {s : List UInt8} {L : D} {pid pv pm : Nat} {fr : Bool} {tys : List Tm} (H : RH m lv md oi st oid om 16 n s L pid pv pm fr tys) (d : Tm) (gd : good d) (hd : d.l.length = 3) :
    ∃ st', ev T 155 [.hp oi 0 9 0 0, .hp oid 0 6 0 0, encT d, .rs pid pv 6 0 tys.length false] st = some (.tup [encT (ruleT m 16 n s d tys).1, .int .i64 (ruleT m 16 n s d tys).2.1], st') ∧ Left st st' oid pid 16 n s L := by
  obtain ⟨x, y, z, hx⟩ : ∃ x y z, d.l = [x, y, z] := by
    match hq : d.l, hd with
    | [x, y, z], _ => exact ⟨x, y, z, rfl⟩
  have gx := good_mem gd (by rw [hx]; simp : x ∈ d.l)
  have gy := good_mem gd (by rw [hx]; simp : y ∈ d.l)
  have hr : ruleT m 16 n s d tys = if allT tys x.l then (bareT y, 0, n) else (T0, 10, n) := by simp [ruleT, hx]
  have h25 := c211r tys x.l x.fl (by have := good_len gx; omega) H.gt (fun p hp => good_mem gx hp) pid pv pm fr H.hp
  have hso : St.at (frz st pid pv pm fr (encTs tys)) oid = .cells true 6 0 om false [outD 16 n s L] := by rw [frz_at _ _ _ _ _ _ H.op]; exact H.ho
  have h26 := c212 y gy (frz st pid pv pm fr (encTs tys))
  rw [encT_eq (bareT y)] at h26
  refine ⟨frz st pid pv pm fr (encTs tys), ?_, frz_len _ _ _ _ _ _, ⟨om, hso⟩, fun i _ hi => frz_at _ _ _ _ _ _ hi⟩
  rw [hr, ev_eq 155 F155 rfl, F155]
  cases ha : allT tys x.l with
  | true =>
    rw [ha] at h25
    simp [H.ho, hso, outD, h25, hx, ← encT_eq y, h26]
    rw [encT_eq (bareT y)]
  | false =>
    rw [ha] at h25
    simp [H.ho, hso, outD, h25, hx, encT_K]

theorem ev17_field {st : St} {oid om : Nat} {n : Int} {s : List UInt8} {lid lw lk : Nat} {pid pv pm : Nat} {fr : Bool} {a : Tm} (H : RH m lv md oi st oid om 13 n s (.rs lid lw 6 0 lk false) pid pv pm fr [a]) (d : Tm) :
    ∃ st', ev T 155 [.hp oi 0 9 0 0, .hp oid 0 6 0 0, encT d, .rs pid pv 6 0 1 false] st = some (.tup [encT (ruleT m 13 n s d [a]).1, .int .i64 (ruleT m 13 n s d [a]).2.1], st') ∧ Left st st' oid pid 13 (ruleT m 13 n s d [a]).2.2 s (.rs lid lw 6 0 lk false) := by
  have hr : ruleT m 13 n s d [a] = if a.k = 4 ∧ a.l = [] then (if (fieldT m n s a).2.2 then ((fieldT m n s a).2.1, 0, (fieldT m n s a).1) else (T0, 8, n)) else (T0, 10, n) := by simp [ruleT]
  rw [hr]
  by_cases k4 : a.k = 4
  · cases hx : a.l with
    | nil =>
      have e4 : (a.k = 4) = True := eq_true k4
      have e0 : (a.l = []) = True := eq_true hx
      have h23 := c209 H.h0 H.gm 13 n s lid lw lk H.gn a
      rw [encT_eq (fieldT m n s a).2.1] at h23
      cases hf : (fieldT m n s a).2.2 with
      | true =>
        rw [hf] at h23
        refine ⟨List.set st oid (.cells true 6 0 (om + 1) false [outD 13 (fieldT m n s a).1 s (.rs lid lw 6 0 lk false)]), ?_, by simp, ⟨om + 1, by simp [at_set _ _ _ _ H.ol, k4]⟩, fun i h1 _ => by rw [at_set _ _ _ _ H.ol, if_neg h1]⟩
        rw [ev_eq 155 F155 rfl, F155]
        simp [H.ho, H.hp, outD, ← encT_eq a, h23, e4, e0, kHs, splice]
        rw [encT_eq (fieldT m n s a).2.1]
      | false =>
        rw [hf] at h23
        refine ⟨st, ?_, Left.self (by simpa [k4] using H.ho)⟩
        rw [ev_eq 155 F155 rfl, F155]
        simp [H.ho, H.hp, outD, ← encT_eq a, h23, e4, e0, encT_K]
    | cons x l =>
      refine ⟨st, ?_, Left.self (by simpa using H.ho)⟩
      rw [ev_eq 155 F155 rfl, F155]
      simp [H.ho, H.hp, outD, k4, hx, encT_K]
  · refine ⟨st, ?_, Left.self (by simpa [k4] using H.ho)⟩
    rw [ev_eq 155 F155 rfl, F155]
    simp [H.ho, H.hp, outD, k4, encT_K]

theorem ruleT_n {m : Tm} {k n : Int} {s : List UInt8} {d : Tm} {p : List Tm} (h : k ≠ 13) : (ruleT m k n s d p).2.2 = n := by
  unfold ruleT
  rw [if_neg h]
  repeat' split
  all_goals rfl

theorem len2 {l : List Tm} (h : l.length = 2) : ∃ a b, l = [a, b] := by
  match l, h with
  | [a, b], _ => exact ⟨a, b, rfl⟩

/-- The rule, of an expression that has parts. -/
theorem ev17 {st : St} {oid om : Nat} {t : Tm} {lid lw : Nat} {pid pv pm : Nat} {fr : Bool} {tys : List Tm} (H : RH m lv md oi st oid om t.k t.n t.s (.rs lid lw 6 0 tys.length false) pid pv pm fr tys) (hne : 0 < tys.length) (d : Tm) (gd : good d)
    (hs : shapedT t = true) (hl : t.l.length = tys.length) (h17 : t.k ≠ 17) (hd : t.k = 16 → d.l.length = 3) :
    ∃ st', ev T 155 [.hp oi 0 9 0 0, .hp oid 0 6 0 0, encT d, .rs pid pv 6 0 tys.length false] st = some (.tup [encT (ruleT m t.k t.n t.s d tys).1, .int .i64 (ruleT m t.k t.n t.s d tys).2.1], st') ∧
      Left st st' oid pid t.k (ruleT m t.k t.n t.s d tys).2.2 t.s (.rs lid lw 6 0 tys.length false) := by
  by_cases h13 : t.k = 13
  · have h1 : tys.length = 1 := by rw [← hl]; simpa [shapedT, h13] using hs
    obtain ⟨a, rfl⟩ := List.length_eq_one_iff.1 h1
    rw [h13] at H ⊢
    exact ev17_field H d
  rw [ruleT_n h13]
  by_cases h10 : t.k = 10
  · have h1 : tys.length = 2 := by rw [← hl]; simp [shapedT, h10] at hs; exact hs.1
    obtain ⟨a, b, rfl⟩ := len2 h1
    rw [h10] at H ⊢
    exact ⟨st, ev17_bin H d, Left.self H.ho⟩
  by_cases h11 : t.k = 11
  · have h1 : tys.length = 1 := by rw [← hl]; simp [shapedT, h11] at hs; exact hs.1
    obtain ⟨a, rfl⟩ := List.length_eq_one_iff.1 h1
    rw [h11] at H ⊢
    exact ⟨st, ev17_un H d, Left.self H.ho⟩
  by_cases h12 : t.k = 12
  · have h1 : tys.length = 2 := by rw [← hl]; simpa [shapedT, h12] using hs
    obtain ⟨a, b, rfl⟩ := len2 h1
    rw [h12] at H ⊢
    exact ⟨st, ev17_idx H d, Left.self H.ho⟩
  by_cases h14 : t.k = 14
  · rw [h14] at H ⊢
    exact ev17_list H hne d
  by_cases h15 : t.k = 15
  · rw [h15] at H ⊢
    exact ev17_make H d gd
  by_cases h16 : t.k = 16
  · have := hd h16
    rw [h16] at H ⊢
    exact ev17_call H d gd this
  exfalso
  unfold shapedT at hs
  rw [← hl] at hne
  by_cases q : t.k = 5 ∨ t.k = 7 ∨ t.k = 8 ∨ t.k = 9 ∨ t.k = 18
  · rw [if_pos q] at hs; simp only [decide_eq_true_eq] at hs; omega
  rw [if_neg q] at hs
  by_cases q6 : t.k = 6
  · rw [if_pos q6] at hs; simp only [Bool.and_eq_true, decide_eq_true_eq] at hs; omega
  rw [if_neg q6, if_neg h11, if_neg h10, if_neg h13, if_neg h12, if_neg (by omega)] at hs
  simp [h16, h17] at hs

theorem ev17_leaf {st : St} {oid om : Nat} {k n : Int} {s : List UInt8} (ho : St.at st oid = .cells true 6 0 om false [outD k n s .nils]) (d : Tm) (gd : good d)
    (hk : k = 5 ∨ k = 18 ∨ k = 6 ∨ k = 7 ∨ k = 8 ∨ k = 9) :
    ev T 155 [.hp oi 0 9 0 0, .hp oid 0 6 0 0, encT d, .nils] st = some (.tup [encT (leafT k d), .int .i64 0], st) := by
  have h20 := c206 k n s d gd st
  rw [encT_eq (leafT k d)] at h20
  rw [ev_eq 155 F155 rfl, F155]
  rcases hk with rfl | rfl | rfl | rfl | rfl | rfl
  all_goals
    simp [ho, outD, ← encT_eq d, h20]
    rw [encT_eq (leafT _ d)]

theorem ev17_call0 {st : St} {oid om : Nat} {n : Int} {s : List UInt8} (ho : St.at st oid = .cells true 6 0 om false [outD 16 n s .nils]) (d : Tm) (gd : good d) (hd : d.l.length = 3) :
    ev T 155 [.hp oi 0 9 0 0, .hp oid 0 6 0 0, encT d, .nils] st = some (.tup [encT (ruleT m 16 n s d []).1, .int .i64 (ruleT m 16 n s d []).2.1], st) := by
  obtain ⟨x, y, z, hx⟩ : ∃ x y z, d.l = [x, y, z] := by
    match hq : d.l, hd with
    | [x, y, z], _ => exact ⟨x, y, z, rfl⟩
  have gx := good_mem gd (by rw [hx]; simp : x ∈ d.l)
  have gy := good_mem gd (by rw [hx]; simp : y ∈ d.l)
  have hr : ruleT m 16 n s d [] = if allT [] x.l then (bareT y, 0, n) else (T0, 10, n) := by simp [ruleT, hx]
  have h25 := c211p [] x.l .nil x.fl (by have := good_len gx; omega) (fun t ht => by cases ht) (fun p hp => good_mem gx hp) st
  have en : slE 6 .nil (encTs []) = .nils := rfl
  rw [en] at h25
  have h26 := c212 y gy st
  rw [encT_eq (bareT y)] at h26
  rw [hr, ev_eq 155 F155 rfl, F155]
  cases ha : allT [] x.l with
  | true =>
    rw [ha] at h25
    simp [ho, outD, h25, hx, ← encT_eq y, h26]
    rw [encT_eq (bareT y)]
  | false =>
    rw [ha] at h25
    simp [ho, outD, h25, hx, encT_K]

end Go.Nt.Ty

/-
  AN EXPRESSION's TYPE: the walk.
-/
set_option linter.unusedSimpArgs false
namespace Go.Nt.Ty
open Go Go.Nt

variable {m : Tm} {lv : D} {locs : List Tm} {at0 e0 : Int} {md oi : Nat}

/-- The heap of 'of', when so many parts were gone through. -/
def ofH (oi : Nat) (st : St) (k n : Int) (s : List UInt8) (ts ss : List D) : St :=
  match ts with
  | [] => st ++ [.cells true 1 0 0 false [.hp oi 0 9 0 0], .cells true 6 0 1 false [outD k n s .nils], .cells true 1 0 0 false [.nils]]
  | _ :: r => st ++ [.cells true 1 0 0 false [.hp oi 0 9 0 0], .cells true 6 0 (r.length + 2) false [outD k n s (.rs (st.length + 4) r.length 6 0 (r.length + 1) false)], .cells true 1 0 (r.length + 1) false [.rs (st.length + 3) r.length 6 0 (r.length + 1) false],
      .cells false 6 r.length (2 * r.length + 1) false ts, .cells false 6 r.length (2 * r.length + 1) false ss]

theorem LocR.mono {st st' : St} {lv : D} {locs : List Tm} (h : LocR st lv locs) (hl : st.length ≤ st'.length) (ha : ∀ id, id < st.length → lv.old1 id = false → St.at st' id = St.at st id) : LocR st' lv locs := by
  rcases h with h | ⟨id, ver, mo, fr, full, more, rfl, ho, hid⟩
  · exact .inl h
  · exact .inr ⟨id, ver, mo, fr, full, more, rfl, by rw [ha id hid (by simp [D.old1])]; exact ho, by omega⟩
theorem LocR.old {st : St} {lv : D} {locs : List Tm} (h : LocR st lv locs) : lv.old1 st.length = true := by
  rcases h with ⟨fl, rfl⟩ | ⟨id, ver, mo, fr, full, more, rfl, ho, hid⟩
  · exact old1_pure (by simp)
  · simpa [D.old1] using hid
theorem LocR.app {st : St} {lv : D} {locs : List Tm} (h : LocR st lv locs) (l : St) : LocR (st ++ l) lv locs := h.mono (by simp) fun id hid _ => at_lt _ _ hid
theorem LocR.ofH {st : St} {lv : D} {locs : List Tm} (h : LocR st lv locs) (k n : Int) (s : List UInt8) (ts ss : List D) : LocR (ofH oi st k n s ts ss) lv locs := by
  cases ts <;> exact h.app _

theorem ofH_0 (st : St) (k n : Int) (s : List UInt8) (ts ss : List D) (h : oi < st.length) : St.at (ofH oi st k n s ts ss) oi = St.at st oi := by
  cases ts <;> exact at_lt _ _ h

theorem c154 {st st1 : St} (hl : oi < st.length) (hl1 : st1.length = st.length) (h1 : St.at st1 oi = tyO m lv at0 e0 md) (k n : Int) (s : List UInt8) (tys ss : List Tm) (hlen : ss.length = tys.length) (hb : tys.length ≤ 1000000) (p a sp : Tm)
    (hof : callD T (ev T) 93 [.hp oi 0 9 0 0, encT p] (ofH oi st k n s (encTs tys) (encTs ss)) = some (.tup [encT a, encT sp], ofH oi st1 k n s (encTs tys) (encTs ss))) :
    callD T (ev T) 154 [encT p, .hp st.length 0 1 0 0, .hp (st.length + 2) 0 1 0 0, .hp (st.length + 1) 0 6 0 0] (ofH oi st k n s (encTs tys) (encTs ss)) =
      some (.bool (decide (e0 = 0)), ofH oi st1 k n s (encTs (tys ++ [a])) (encTs (ss ++ [sp]))) := by
  have hl' : oi < st1.length := by omega
  have a0 : ∀ l, St.at (st1 ++ l) oi = tyO m lv at0 e0 md := fun l => by rw [at_lt _ _ hl', h1]
  have a1 : ∀ l k, St.at (st1 ++ l) (st.length + k) = St.at l k := fun l k => by rw [← hl1]; exact at_app st1 l k
  have a2 : ∀ l, St.at (st1 ++ l) st.length = St.at l 0 := fun l => by rw [← hl1]; exact at_app0 st1 l
  have s1 : ∀ l k o, List.set (st1 ++ l) (st.length + k) o = st1 ++ List.set l k o := fun l k o => by rw [← hl1]; exact set_app st1 l k o
  simp only [callD, show T 154 = some F154 from rfl, show F154.mode = .raw from rfl]
  rw [if_pos (by simp)]
  rw [ev_eq 154 F154 rfl, F154]
  cases tys with
  | nil =>
    obtain rfl : ss = [] := by simpa using hlen
    simp only [encTs_nil, List.nil_append, encTs_cons] at hof ⊢
    have e1 : ofH oi st k n s [] [] = st ++ [.cells true 1 0 0 false [.hp oi 0 9 0 0], .cells true 6 0 1 false [outD k n s .nils], .cells true 1 0 0 false [.nils]] := rfl
    have e2 : ofH oi st1 k n s [] [] = st1 ++ [.cells true 1 0 0 false [.hp oi 0 9 0 0], .cells true 6 0 1 false [outD k n s .nils], .cells true 1 0 0 false [.nils]] := rfl
    rw [e1, e2] at hof
    rw [e1]
    simp only [outD] at hof
    simp [at_app, at_app0, ← encT_eq, hof, a0, a1, a2, s1, hl1, outD, appendD, most, srcD, listD, splice, tyO, ofH]
  | cons t tys =>
    obtain ⟨u, us, rfl⟩ : ∃ u us, ss = u :: us := by cases ss with | nil => simp at hlen | cons u us => exact ⟨u, us, rfl⟩
    have hlen' : us.length = tys.length := by simpa using hlen
    have hb' : tys.length + 1 ≤ 1000000 := hb
    simp only [List.cons_append, encTs_cons] at hof ⊢
    simp only [ofH, outD, encTs_len, hl1] at hof ⊢
    have hm : ¬ 134217728 < tys.length + 1 := by omega
    have hm2 : tys.length + 1 ≤ 134217728 := by omega
    have e2 : (encT t :: (encTs tys ++ [encT T0])).set (tys.length + 1) (encT a) = encT t :: encTs (tys ++ [a]) := by
      rw [List.set_cons_succ, List.set_append_right _ _ (by simp)]; simp [encTs_append]
    have e3 : (encT u :: (encTs us ++ [encT T0])).set (tys.length + 1) (encT sp) = encT u :: encTs (us ++ [sp]) := by
      rw [List.set_cons_succ, List.set_append_right _ _ (by simp [hlen'])]; simp [encTs_append, hlen']
    have e4 : (encT t :: (encTs tys ++ [encT T0]))[tys.length + 1]? = some (encT T0) := by
      rw [List.getElem?_cons_succ, List.getElem?_append_right (by simp)]; simp
    have e5 : (encT u :: (encTs us ++ [encT T0]))[tys.length + 1]? = some (encT T0) := by
      rw [List.getElem?_cons_succ, List.getElem?_append_right (by simp [hlen'])]; simp [hlen']
    have hng : ¬ ((tys.length : Int) + 1 < 0) := by omega
    have htb : tys.length + 1 < tagB := by unfold tagB; omega
    have hmul : 2 * (tys.length + 1) = 2 * tys.length + 2 := by omega
    simp [at_app, at_app0, ← encT_eq, ← encT_0, hof, a0, a1, a2, s1, hl1, outD, appendD, most, srcD, listD, splice, tyO, hm, hm2, htb, hlen', List.take_of_length_le, e2, e3, e4, e5, hng, hmul]
    simp [encTs_append]

theorem ofT_err {m : Tm} {locs : List Tm} (t : Tm) : ∀ a e, ofT m locs t = .error (a, e) → e ≠ 0 := by
  induction t using Tm.ind with
  | h t ih =>
    intro a e h
    have key : ∀ l : List Tm, (∀ u, u ∈ l → ∀ a e, ofT m locs u = .error (a, e) → e ≠ 0) → ∀ a e, ofTs m locs l = .error (a, e) → e ≠ 0 := by
      intro l
      induction l with
      | nil => intro _ a e h; simp [ofTs] at h
      | cons u l ihl =>
        intro hu a e h
        rw [ofTs] at h
        cases hq : ofT m locs u with
        | error x =>
          obtain ⟨x1, x2⟩ := x
          rw [hq] at h
          simp only [Except.error.injEq, Prod.mk.injEq] at h
          rw [← h.2]
          exact hu u (by simp) _ _ hq
        | ok x =>
          obtain ⟨x1, x2⟩ := x
          rw [hq] at h
          cases hr : ofTs m locs l with
          | error y =>
            obtain ⟨y1, y2⟩ := y
            rw [hr] at h
            simp only [Except.error.injEq, Prod.mk.injEq] at h
            rw [← h.2]
            exact ihl (fun v hv => hu v (by simp [hv])) _ _ hr
          | ok y => rw [hr] at h; cases h
    rw [ofT_eq] at h
    split at h
    · simp only [Except.error.injEq, Prod.mk.injEq] at h; omega
    · split at h
      · simp only [Except.error.injEq, Prod.mk.injEq] at h; omega
      · cases hq : ofTs m locs t.l with
        | error x =>
          obtain ⟨x1, x2⟩ := x
          rw [hq] at h
          simp only [Except.error.injEq, Prod.mk.injEq] at h
          rw [← h.2]
          exact key t.l ih _ _ hq
        | ok x =>
          obtain ⟨x1, x2⟩ := x
          rw [hq] at h
          simp only at h
          split at h
          · cases h
          · next hne =>
            simp only [Except.error.injEq, Prod.mk.injEq] at h
            rw [← h.2]; exact hne

theorem ofTs_len {m : Tm} {locs : List Tm} : ∀ (l ts ss : List Tm), ofTs m locs l = .ok (ts, ss) → ts.length = l.length ∧ ss.length = l.length
  | [], ts, ss, h => by
    simp only [ofTs, Except.ok.injEq, Prod.mk.injEq] at h
    rw [← h.1, ← h.2]; exact ⟨rfl, rfl⟩
  | t :: l, ts, ss, h => by
    rw [ofTs] at h
    cases hq : ofT m locs t with
    | error x => rw [hq] at h; cases h
    | ok x =>
      obtain ⟨a, s⟩ := x
      rw [hq] at h
      cases hr : ofTs m locs l with
      | error y => rw [hr] at h; cases h
      | ok y =>
        obtain ⟨b, c⟩ := y
        rw [hr] at h
        simp only [Except.ok.injEq, Prod.mk.injEq] at h
        obtain ⟨k1, k2⟩ := ofTs_len l b c hr
        rw [← h.1, ← h.2]
        simp [k1, k2]

/-- What an expression's walk comes to. -/
def ofR (m : Tm) (lv : D) (md oi : Nat) (st : St) : Except (Int × Int) (Tm × Tm) → D × St
  | .ok (a, s) => (.tup [encT a, encT s], st)
  | .error (a, e) => (.tup [encT T0, encT T0], List.set st oi (tyO m lv a e (md + 2)))

theorem ofH_set {st : St} (h : oi < st.length) (o : Ob) (k n : Int) (s : List UInt8) (ts ss : List D) : List.set (ofH oi st k n s ts ss) oi o = ofH oi (List.set st oi o) k n s ts ss := by
  cases ts with
  | nil => simp only [ofH]; exact set_lt _ _ h o
  | cons a r => simp only [ofH, List.length_set]; exact set_lt _ _ h o

theorem ofH_len (st : St) (k n : Int) (s : List UInt8) (ts ss : List D) : st.length ≤ (ofH oi st k n s ts ss).length := by cases ts <;> simp [ofH]

theorem l93 (t d : Tm) (st : St) (hl : oi < st.length) (h0 : St.at st oi = tyO m lv 0 0 md) (ht : t.l.length ≤ 1000000)
    (hL : LocR st lv locs) (hc : ∀ u, u ∈ t.l → ∀ st, oi < st.length → St.at st oi = tyO m lv 0 0 md → LocR st lv locs → callD T (ev T) 93 [.hp oi 0 9 0 0, encT u] st = some (ofR m lv md oi st (ofT m locs u))) :
    ∀ (r i : Nat) (tys ss : List Tm) (s : List D) (bx : List (Nat × List D)), r = t.l.length - i → i ≤ t.l.length → tys.length = i → ss.length = i →
    get s 2 = .hp st.length 0 1 0 0 → get s 3 = .lp 3 1 0 → getB bx 3 = (1, clT t) → get s 4 = .lp 4 1 0 → getB bx 4 = (1, z6) → get s 5 = .lp 5 1 0 → getB bx 5 = (1, z6) → get s 6 = .lp 6 1 0 → getB bx 6 = (1, clT d) →
    get s 8 = .hp (st.length + 1) 0 6 0 0 → get s 9 = .hp (st.length + 2) 0 1 0 0 → get s 10 = .fn 154 [] [.hp st.length 0 1 0 0, .hp (st.length + 2) 0 1 0 0, .hp (st.length + 1) 0 6 0 0] →
    get s 45 = slE 6 t.fl (encTs t.l) → get s 46 = .i t.l.length → get s 47 = .int .i64 i →
    Stops (lp T L93_0 ⟨⟨s, bx⟩, ofH oi st t.k t.n t.s (encTs tys) (encTs ss)⟩) fun e s' b' st' => get s' 4 = .lp 4 1 0 ∧ getB b' 4 = (1, z6) ∧ get s' 5 = .lp 5 1 0 ∧ getB b' 5 = (1, z6) ∧
      (match ofTs m locs (t.l.drop i) with
       | .ok (ts', ss') => e = .exit 0 ∧ st' = ofH oi st t.k t.n t.s (encTs (tys ++ ts')) (encTs (ss ++ ss')) ∧ get s' 2 = .hp st.length 0 1 0 0 ∧ get s' 3 = .lp 3 1 0 ∧ getB b' 3 = (1, clT t) ∧ get s' 6 = .lp 6 1 0 ∧ getB b' 6 = (1, clT d) ∧ get s' 8 = .hp (st.length + 1) 0 6 0 0 ∧ get s' 9 = .hp (st.length + 2) 0 1 0 0
       | .error (a, e') => e = .ret ∧ ∃ tys' ss', st' = ofH oi (List.set st oi (tyO m lv a e' (md + 2))) t.k t.n t.s (encTs tys') (encTs ss')) := by
  intro r
  induction r with
  | zero =>
    intro i tys ss s bx hr hi hty hss h2 h3 b3 h4 b4 h5 b5 h6 b6 h8 h9 h10 h45 h46 h47
    have e : i = t.l.length := by omega
    subst e
    rw [lp_kL, L93_0, List.drop_length, ofTs]
    simp [h2, h3, b3, h4, b4, h5, b5, h6, b6, h8, h9, h45, h46, h47]
  | succ r ihr =>
    intro i tys ss s bx hr hi hty hss h2 h3 b3 h4 b4 h5 b5 h6 b6 h8 h9 h10 h45 h46 h47
    have hlt : i < t.l.length := by omega
    have hw : IntKind.wrap .i64 ((i : Int) + 1) = i + 1 := by rw [wrap64] <;> omega
    have q : ofTs m locs (t.l.drop i) = (match ofT m locs t.l[i] with
      | .error e => .error e
      | .ok (a, s) => match ofTs m locs (t.l.drop (i + 1)) with
        | .error e => .error e
        | .ok (ts, ss) => .ok (a :: ts, s :: ss)) := by rw [List.drop_eq_getElem_cons hlt, ofTs] <;> rfl
    have c0 := hc _ (List.getElem_mem hlt) (ofH oi st t.k t.n t.s (encTs tys) (encTs ss)) (by have := ofH_len (oi := oi) st t.k t.n t.s (encTs tys) (encTs ss); omega) (by rw [ofH_0 _ _ _ _ _ _ hl]; exact h0) (hL.ofH _ _ _ _ _)
    rw [q]
    rw [lp_kL, L93_0]
    cases ho : ofT m locs t.l[i] with
    | ok x =>
      obtain ⟨a, sp⟩ := x
      rw [ho] at c0
      have h16 := c154 (m := m) (lv := lv) hl rfl h0 t.k t.n t.s tys ss (by omega) (by omega) t.l[i] a sp c0
      have nx := ihr (i + 1) (tys ++ [a]) (ss ++ [sp])
      simp [h2, h3, b3, h4, b4, h5, b5, h6, b6, h8, h9, h10, h45, h46, h47, hlt, hw, ← encT_eq, h16]
      rw [← L93_0]
      refine Stops.mono (nx _ _ (by omega) (by omega) (by simp; omega) (by simp; omega) ?_ ?_ ?_ ?_ ?_ ?_ ?_ ?_ ?_ ?_ ?_ ?_ ?_ ?_ ?_) ?_
      iterate 15 simp [h2, h3, b3, h4, b4, h5, b5, h6, b6, h8, h9, h10, h45, h46]
      rintro e s' b' st' ⟨q4, p4, q5, p5, h⟩
      refine ⟨q4, p4, q5, p5, ?_⟩
      cases hr : ofTs m locs (t.l.drop (i + 1)) with
      | error y => rw [hr] at h; exact h
      | ok y => rw [hr] at h; simpa using h
    | error x =>
      obtain ⟨a, e'⟩ := x
      rw [ho] at c0
      have he := ofT_err _ _ _ ho
      simp only [ofR, ofH_set hl] at c0
      have h16 := c154 (m := m) (lv := lv) (at0 := a) (e0 := e') (md := md + 2) hl (by simp) (by rw [at_set _ _ _ _ hl, if_pos rfl]) t.k t.n t.s tys ss (by omega) (by omega) t.l[i] T0 T0 c0
      simp [h2, h3, b3, h4, b4, h5, b5, h6, b6, h8, h9, h10, h45, h46, h47, hlt, hw, ← encT_eq, h16, he]
      exact ⟨_, _, rfl⟩

end Go.Nt.Ty
