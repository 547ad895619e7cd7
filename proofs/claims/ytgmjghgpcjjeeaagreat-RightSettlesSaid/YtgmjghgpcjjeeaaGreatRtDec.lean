/-
  A POINTER TO A BOX IN WHICH A POINTER STANDS: how 'simp' reads it.
  No condition.
-/
import Derived.Test.YtgmjghgpcjjeeaaGreatRtPure
import Derived.Test.YtgmjghgpcjjeeaaGreatRtBlk
namespace Go.Nt
@[simp] theorem cells_kp (i v s x o : Nat) : D.cells (.kp i v s x o) = [.kp i v s x o] := (rfl)
@[simp] theorem fits_kp (i v s x o : Nat) : D.fits (.kp i v s x o) none = true := (rfl)
@[simp] theorem okv_kp (i v s x o : Nat) : D.okv (.kp i v s x o) = true := (rfl)
@[simp] theorem pure_hpK (i v s x o : Nat) : D.pure (.hp i v s x o) = false := (rfl)
@[simp] theorem loadD_kp (rb : Nat → Nat × List D) (st : St) (i v s x o : Nat) (q : Bool) : loadD rb st (.kp i v s x o) none none q = some (.hp i v s x o) := (rfl)
end Go.Nt

/-
  TWO ORDERS OF ONE REGION: heaps that are alike are joined.
  No condition.
-/
set_option linter.unusedSimpArgs false
namespace Go.Nt

theorem alike_cells (b : Bool) (s v m m' : Nat) (f : Bool) (l : List D) : (Ob.cells b s v m f l).alike (.cells b s v m' f l) = true := by simp [Ob.alike, D.eqbs_self]

theorem join_of : ∀ {st sa sb : St}, sa.length = sb.length → (∀ i, i < sa.length → (St.at sa i).alike (St.at sb i) = true) →
    ∃ st', joinSt st sa sb = some st' ∧ st'.length = sa.length ∧ ∀ i, i < sa.length → (∃ k, St.at st' i = (St.at sa i).setMod k) ∧ (i < st.length → (St.at sa i).mod = (St.at st i).mod → (St.at sb i).mod = (St.at st i).mod → St.at st' i = St.at sa i)
  | st, [], [], _, _ => ⟨[], by simp [joinSt], rfl, fun i hi => by simp at hi⟩
  | st, [], _ :: _, h, _ => by simp at h
  | st, _ :: _, [], h, _ => by simp at h
  | st, a :: sa, b :: sb, hl, h => by
    obtain ⟨st', h1, h2, h3⟩ := join_of (st := st.tail) (sa := sa) (sb := sb) (by simpa using hl) fun i hi => h (i + 1) (by simpa using hi)
    have h0 : a.alike b = true := h 0 (by simp)
    refine ⟨_ :: st', by simp only [joinSt, joinOb, if_pos h0, Option.bind_some, h1, Option.map_some]; rfl, by simp [h2], fun i hi => ?_⟩
    cases i with
    | zero =>
      refine ⟨?_, fun q e1 e2 => ?_⟩
      · simp only [St.at, List.getD_cons_zero]
        split
        · refine ⟨a.mod, ?_⟩; cases a <;> rfl
        · exact ⟨_, rfl⟩
      · cases st with
        | nil => simp at q
        | cons o st =>
          simp only [St.at, List.getD_cons_zero, List.headD_cons] at e1 e2 ⊢
          exact if_pos ⟨e1, e2⟩
    | succ i =>
      obtain ⟨k1, k2⟩ := h3 i (by simpa using hi)
      refine ⟨k1, fun q e1 e2 => ?_⟩
      cases st with
      | nil => simp at q
      | cons o st => exact k2 (by simpa using q) e1 e2
end Go.Nt

/-
  RIGHT MODULES, walked (8): statements with blocks.
  No condition.
-/
set_option linter.unusedSimpArgs false
namespace Go.Nt.Ty
open Go Go.Nt

variable {m ret : Tm} {st : St} {lv : D} {locs : List Tm} {at0 e : Int}

/-- A part of a statement with blocks, and the locals behind it. -/
def nestR (m ret : Tm) (k want : Int) (locs : List Tm) (x : Tm) : Er Tm :=
  if x.k ≠ 29 then onlyT m locs x want want else match blkT m ret (if k = 25 then locs ++ [tK 1] else locs) x.l with
    | .error e => .error e
    | .ok ss => .ok (.mk 29 x.n [] (pfl ss) ss 0 0)
def nestF (m ret : Tm) (k want : Int) (locs : List Tm) (x : Tm) : Er (Tm × List Tm) :=
  match nestR m ret k want locs x with
  | .error e => .error e
  | .ok s => .ok (s, if x.k = 29 ∧ k = 25 then locs ++ [tK 1] else locs)

theorem nes_cons (m ret : Tm) (k want : Int) (x : Tm) (l locs : List Tm) : nesT m ret k want locs (x :: l) = match nestR m ret k want locs x with
    | .error e => .error e
    | .ok s => match nesT m ret k want (if x.k = 29 ∧ k = 25 then locs ++ [tK 1] else locs) l with
      | .error e => .error e
      | .ok ss => .ok (s :: ss) := by
  obtain ⟨xk, xn, xs, xfl, xl, xa, xb⟩ := x
  rw [nesT] <;> rfl

theorem nes_each (m ret : Tm) (k want : Int) : ∀ (l locs : List Tm), nesT m ret k want locs l = match eachT (nestF m ret k want) locs l with
    | .error e => .error e
    | .ok (ss, _) => .ok ss
  | [], locs => by rw [nesT, eachT]
  | x :: l, locs => by
    rw [nes_cons, eachT, nestF]
    cases nestR m ret k want locs x with
    | error e => rfl
    | ok s =>
      simp only
      rw [nes_each m ret k want l _]
      cases hr : eachT (nestF m ret k want) (if x.k = 29 ∧ k = 25 then locs ++ [tK 1] else locs) l with
      | error e => rfl
      | ok w => rfl

theorem nest_pre {k want : Int} : ∀ locs x s l1, nestF m ret k want locs x = .ok (s, l1) → Good locs → good x → Pre locs l1 ∧ Good l1 := by
  intro locs x s l1 h G gx
  unfold nestF at h
  split at h
  · cases h
  · simp only [Except.ok.injEq, Prod.mk.injEq] at h
    rw [← h.2]
    split
    · refine ⟨.one _ _, fun t ht => ?_⟩
      rcases List.mem_append.1 ht with q | q
      · exact G t q
      · simp only [List.mem_cons, List.not_mem_nil, or_false] at q
        rw [q]; exact good_K 1 (by simp [in64])
    · exact ⟨.refl _, G⟩
theorem nest_F {k want : Int} : ∀ locs x s l1, nestF m ret k want locs x = .ok (s, l1) → Good locs → good x → Good l1 ∧ locs.length ≤ l1.length ∧ l1.length ≤ locs.length + cntT x := by
  intro locs x s l1 h G gx
  obtain ⟨p, g⟩ := nest_pre locs x s l1 h G gx
  refine ⟨g, p.le, ?_⟩
  have hp := cnt_pos x
  unfold nestF at h
  split at h
  · cases h
  · simp only [Except.ok.injEq, Prod.mk.injEq] at h
    rw [← h.2]
    split
    · simp; omega
    · omega

/-- Room for the local of a 'for'. -/
theorem for_room (K : Lk m ret st lv locs at0 e) (hb : locs.length ≤ 1000000) (md : Nat) (h0 : St.at st 0 = lkO m lv ret at0 e md) :
    ∃ (id ver pmd : Nat) (base : Tm → St) (stJ : St), 0 < id ∧ (∀ z, appendD st lv [encT z] 6 = some (.rs id ver 6 0 (locs.length + 1) false, base z) ∧ St.at (base z) 0 = lkO m lv ret at0 e md) ∧
      (∀ o, St.at (List.set (base T0) 0 o) id = .cells false 6 ver pmd false (encTs (locs ++ [T0]))) ∧
      joinSt st (List.set (List.set (base T0) 0 (lkO m (.rs id ver 6 0 (locs.length + 1) false) ret at0 e (md + 1))) id (.cells false 6 ver (pmd + 1) false (encTs (locs ++ [tK 1]))))
        (List.set (base (tK 1)) 0 (lkO m (.rs id ver 6 0 (locs.length + 1) false) ret at0 e (md + 1))) = some stJ ∧
      Lk m ret stJ (.rs id ver 6 0 (locs.length + 1) false) (locs ++ [tK 1]) at0 e ∧ Went st lv stJ (.rs id ver 6 0 (locs.length + 1) false) := by
  obtain ⟨id, ver, pmd, N, base, h1, h2, h3, h4, h5, h6, hz⟩ := K.push hb
  have hl := K.hl
  have hlen : ∀ z, (base z).length = N := fun z => (hz z).2.1
  have hat : ∀ z, St.at (base z) id = .cells false 6 ver pmd false (encTs (locs ++ [z])) := fun z => (hz z).2.2.1
  have hot : ∀ z i, i < st.length → i ≠ id → St.at (base z) i = St.at st i := fun z => (hz z).2.2.2
  have n0 : 0 ≠ id := by omega
  have hN : ∀ z, 0 < (base z).length := fun z => by rw [hlen]; omega
  have hI : ∀ z o, id < (List.set (base z) 0 o).length := fun z o => by rw [List.length_set, hlen]; omega
  have aA : ∀ i, St.at (List.set (List.set (base T0) 0 (lkO m (.rs id ver 6 0 (locs.length + 1) false) ret at0 e (md + 1))) id (.cells false 6 ver (pmd + 1) false (encTs (locs ++ [tK 1])))) i =
      if i = id then .cells false 6 ver (pmd + 1) false (encTs (locs ++ [tK 1])) else if i = 0 then lkO m (.rs id ver 6 0 (locs.length + 1) false) ret at0 e (md + 1) else St.at (base T0) i := fun i => by
    rw [at_set _ _ _ _ (hI _ _), at_set _ _ _ _ (hN _)]
  have aB : ∀ i, St.at (List.set (base (tK 1)) 0 (lkO m (.rs id ver 6 0 (locs.length + 1) false) ret at0 e (md + 1))) i =
      if i = 0 then lkO m (.rs id ver 6 0 (locs.length + 1) false) ret at0 e (md + 1) else St.at (base (tK 1)) i := fun i => by
    rw [at_set _ _ _ _ (hN _)]
  obtain ⟨stJ, j1, j2, j3⟩ := join_of (st := st) (sa := List.set (List.set (base T0) 0 (lkO m (.rs id ver 6 0 (locs.length + 1) false) ret at0 e (md + 1))) id (.cells false 6 ver (pmd + 1) false (encTs (locs ++ [tK 1]))))
    (sb := List.set (base (tK 1)) 0 (lkO m (.rs id ver 6 0 (locs.length + 1) false) ret at0 e (md + 1))) (by simp [hlen]) (by
      intro i hi
      rw [aA, aB]
      by_cases e1 : i = id
      · rw [if_pos e1, if_neg (by omega), e1, hat]
        exact alike_cells _ _ _ _ _ _ _
      · rw [if_neg e1]
        by_cases e2 : i = 0
        · rw [if_pos e2, if_pos e2]
          exact alike_cells _ _ _ _ _ _ _
        · rw [if_neg e2, if_neg e2]
          have hi' : i < st.length := h6 i (by simpa [hlen] using hi) e1
          rw [hot _ _ hi' e1, hot _ _ hi' e1]
          cases hq : St.at st i with
          | cells => exact alike_cells _ _ _ _ _ _ _
          | map => simp [Ob.alike])
  have jl : stJ.length = N := by rw [j2]; simp [hlen]
  obtain ⟨k0, e0⟩ := (j3 0 (by simp [hlen]; omega)).1
  obtain ⟨k1, e1⟩ := (j3 id (by simp [hlen]; omega)).1
  rw [aA, if_neg n0, if_pos rfl] at e0
  rw [aA, if_pos rfl] at e1
  obtain ⟨K', W'⟩ := K.pushed hb h1 h2 h3 h4 h5 (st3 := stJ) (x := tK 1) (mo := k0) (mi := k1) jl (by rw [e0]; rfl) (by rw [e1]; rfl) (fun i hi hi0 hid => by
    have hi' : i < (List.set (List.set (base T0) 0 (lkO m (.rs id ver 6 0 (locs.length + 1) false) ret at0 e (md + 1))) id (.cells false 6 ver (pmd + 1) false (encTs (locs ++ [tK 1])))).length := by simp [hlen]; omega
    have ea : St.at (List.set (List.set (base T0) 0 (lkO m (.rs id ver 6 0 (locs.length + 1) false) ret at0 e (md + 1))) id (.cells false 6 ver (pmd + 1) false (encTs (locs ++ [tK 1])))) i = St.at st i := by
      rw [aA, if_neg hid, if_neg hi0]; exact hot _ _ hi hid
    have eb : St.at (List.set (base (tK 1)) 0 (lkO m (.rs id ver 6 0 (locs.length + 1) false) ret at0 e (md + 1))) i = St.at st i := by
      rw [aB, if_neg hi0]; exact hot _ _ hi hid
    rw [(j3 i hi').2 hi (by rw [ea]) (by rw [eb]), ea])
  refine ⟨id, ver, pmd, base, stJ, h1, fun z => ⟨(hz z).1, by rw [hot z 0 hl n0]; exact h0⟩, fun o => by rw [at_set _ _ _ _ (hN _), if_neg (by omega)]; exact hat _, j1, K', W'⟩
end Go.Nt.Ty

/-
  RIGHT MODULES, walked (9): statements with blocks, gone through.
  No condition.
-/
set_option linter.unusedSimpArgs false
namespace Go.Nt.Ty
open Go Go.Nt

variable {m ret : Tm} {st : St} {lv : D} {locs : List Tm} {at0 e : Int}

theorem cnt_l (t : Tm) : cntTs t.l + 1 ≤ cntT t := by rw [cntT_eq]; omega

theorem c275 (gm : good m) (t x : Tm) (gx : good x) (hB : Bwalk m ret x) (want : Int) (K : Lk m ret st lv locs at0 0) (G : Good locs) (hb : locs.length + cntT x ≤ 1000000)
    {id5 md5 : Nat} (h5 : St.at st id5 = .cells true 1 0 md5 false [.int .i64 want]) :
    ∃ r st', callD T (ev T) 275 [encT x, .kp 0 0 15 0 0, .hp id5 0 1 0 0, .iptr (encT t)] st = some (encT r, st') ∧ Sok m ret st lv locs at0 (nestF m ret t.k want locs x) r st' := by
  have hc := cnt_l x
  have hll : locs.length ≤ 1000000 := by omega
  obtain ⟨md, h0⟩ := K.h0
  obtain ⟨x1, x2, x3, x4⟩ := K.hw.facts
  by_cases hk : x.k = 29
  · by_cases h25 : t.k = 25
    · obtain ⟨id, ver, pmd, base, stJ, i0, hz, hid, hJ, KJ, WJ⟩ := for_room K hll md h0
      have GJ : Good (locs ++ [tK 1]) := fun u hu => by
        rcases List.mem_append.1 hu with q | q
        · exact G u q
        · simp only [List.mem_cons, List.not_mem_nil, or_false] at q
          rw [q]; exact good_K 1 (by simp [in64])
      obtain ⟨r, st1, lv1, q, W1, E⟩ := hB stJ _ (locs ++ [tK 1]) at0 KJ GJ (by simp; omega)
      have a1 := (hz T0).1
      have a2 := (hz (tK 1)).1
      have b1 := (hz T0).2
      have b2 := (hz (tK 1)).2
      rw [encT_0] at a1
      rw [encT_K] at a2
      refine ⟨r, st1, ?_, lv1, ?_⟩
      · have go : Ret (ev T 275 [encT x, .kp 0 0 15 0 0, .hp id5 0 1 0 0, .iptr (encT t)] st) fun r' st' => r' = encT r ∧ st' = st1 := by
          refine Ret_wp (fn := F275) rfl ?_
          rw [F275]
          simp [hk, h25, h0, lkO, kHs, splice, fillD, x1, x2, x3, x4, a1, a2, b1, b2, hid]
          have es : (encTs (locs ++ [T0])).set locs.length (.agg [.int .i64 1, .int .i64 0, .str [], .nils, .int .i64 0, .int .i64 0]) = encTs (locs ++ [tK 1]) := by
            rw [encTs_append, encTs_append, List.set_append_right _ _ (by simp)]; simp [encT_K]
          rw [es]
          refine ⟨stJ, hJ, ?_⟩
          rw [encT_eq x, hk] at q
          simp [clearS, Ic.wr, g0, Io.dst, q, splice]
          rw [encT_eq r]
        obtain ⟨r', st', h1, rfl, rfl⟩ := go
        exact callD_freE (fn := F275) rfl rfl (by simp) h1 (by simp) (by simp)
      · unfold nestF nestR
        rw [if_neg (by omega), if_pos h25]
        cases hq : blkT m ret (locs ++ [tK 1]) x.l with
        | error v =>
          obtain ⟨v1, v2⟩ := v
          rw [hq] at E
          obtain ⟨hy, l', hl', K'⟩ := E
          exact ⟨l', WJ.trans W1, hy, by rw [hl']; simp, K'⟩
        | ok ss =>
          rw [hq] at E
          obtain ⟨hr, K'⟩ := E
          exact ⟨locs ++ [tK 1], WJ.trans W1, hr.symm, by rw [if_pos ⟨hk, h25⟩], by rw [if_pos ⟨hk, h25⟩]; exact K'⟩
    · obtain ⟨r, st1, lv1, q, W1, E⟩ := hB st lv locs at0 K G (by omega)
      refine ⟨r, st1, ?_, lv1, ?_⟩
      · have go : Ret (ev T 275 [encT x, .kp 0 0 15 0 0, .hp id5 0 1 0 0, .iptr (encT t)] st) fun r' st' => r' = encT r ∧ st' = st1 := by
          refine Ret_wp (fn := F275) rfl ?_
          rw [F275]
          rw [encT_eq x, hk] at q
          simp [hk, h25, q, splice]
          rw [encT_eq r]
        obtain ⟨r', st', h1, rfl, rfl⟩ := go
        exact callD_freE (fn := F275) rfl rfl (by simp) h1 (by simp) (by simp)
      · unfold nestF nestR
        rw [if_neg (by omega), if_neg h25]
        cases hq : blkT m ret locs x.l with
        | error v =>
          obtain ⟨v1, v2⟩ := v
          rw [hq] at E
          obtain ⟨hy, l', hl', K'⟩ := E
          exact ⟨l', W1, hy, by omega, K'⟩
        | ok ss =>
          rw [hq] at E
          obtain ⟨hr, K'⟩ := E
          have hn : ¬ (x.k = 29 ∧ t.k = 25) := fun h => h25 h.2
          exact ⟨locs, W1, hr.symm, by rw [if_neg hn], by rw [if_neg hn]; exact K'⟩
  · obtain ⟨r, st1, q, W1, _, E⟩ := c234 gm (fun _ => G) hll K x gx [want] (by simp)
    have E := E rfl
    simp only [List.map_cons, List.map_nil] at q
    refine ⟨r, st1, ?_, lv, ?_⟩
    · have go : Ret (ev T 275 [encT x, .kp 0 0 15 0 0, .hp id5 0 1 0 0, .iptr (encT t)] st) fun r' st' => r' = encT r ∧ st' = st1 := by
        refine Ret_wp (fn := F275) rfl ?_
        rw [F275]
        simp [hk, h5, ← encT_eq, q, splice]
      obtain ⟨r', st', h1, rfl, rfl⟩ := go
      exact callD_freE (fn := F275) rfl rfl (by simp) h1 (by simp) (by simp)
    · unfold nestF nestR
      rw [if_pos hk, onlyK1]
      cases hq : onlyK m locs x [want] with
      | error v =>
        obtain ⟨v1, v2⟩ := v
        rw [hq] at E
        exact ⟨locs, W1, E.1, Nat.le_refl _, E.2⟩
      | ok s =>
        rw [hq] at E
        have hn : ¬ (x.k = 29 ∧ t.k = 25) := fun h => hk h.1
        exact ⟨locs, W1, E.1, by rw [if_neg hn], by rw [if_neg hn]; exact E.2⟩

theorem c236 (gm : good m) (t : Tm) (gt : good t) (hB : ∀ x, x ∈ t.l → Bwalk m ret x) (K : Lk m ret st lv locs at0 0) (G : Good locs) (hb : locs.length + cntTs t.l ≤ 1000000) :
    ∃ rs st' lv', callD T (ev T) 236 [.hp 0 0 15 0 0, encT t] st = some (slE 6 (pfl rs) (encTs rs), st') ∧ Went st lv st' lv' ∧ match nesT m ret t.k (if t.k = 25 then 1 else 2) locs t.l with
      | .ok ss => ss = rs ∧ Lk m ret st' lv' locs at0 0
      | .error (x, y) => y ≠ 0 ∧ ∃ locs', locs'.length = locs.length ∧ Lk m ret st' lv' locs' x y := by
  obtain ⟨md, h0⟩ := K.h0
  obtain ⟨x1, x2, x3, x4⟩ := K.hw.facts
  have hl := K.hl
  have hlv := K.hw.lt hl
  -- the state with the wanted kind
  have key : ∀ (want : Int) (mw : Nat), want = (if t.k = 25 then 1 else 2) → ∃ rs st1 lv1 l1, callD T (ev T) 174 [.hp 0 0 15 0 0, slE 6 t.fl (encTs t.l), .fn 275 [] [.kp 0 0 15 0 0, .hp st.length 0 1 0 0, .iptr (encT t)]] (st ++ [.cells true 1 0 mw false [.int .i64 want]]) = some (slE 6 (pfl rs) (encTs rs), st1) ∧
      Went st lv st1 lv1 ∧ locs.length ≤ l1.length ∧ ∃ a1 e1, Lk m ret st1 lv1 l1 a1 e1 ∧ match nesT m ret t.k want locs t.l with
        | .ok ss => ss = rs ∧ a1 = at0 ∧ e1 = 0 ∧ Pre locs l1
        | .error (x, y) => y ≠ 0 ∧ a1 = x ∧ e1 = y := by
    intro want mw hw
    have g1 : Grow st (st ++ [.cells true 1 0 mw false [.int .i64 want]]) := ⟨by simp, fun i hi => at_lt _ _ hi⟩
    have hlast : St.at (st ++ [.cells true 1 0 mw false [.int .i64 want]]) st.length = .cells true 1 0 mw false [.int .i64 want] := at_last _ _
    obtain ⟨rs, st1, q, lv1, l1, W, E⟩ := c174 (nestF m ret t.k want) nest_F 275 [] [.kp 0 0 15 0 0, .hp st.length 0 1 0 0, .iptr (encT t)] rfl t.fl t.l (fun x hx => good_mem gt hx) (good_len gt) _ lv
      (fun x hx st' lv' locs' W' K' G' hb' => c275 gm t x (good_mem gt hx) (hB x hx) want K' G' hb' (id5 := st.length) (md5 := mw) (by
        rw [W'.2.2 st.length (by simp) (by omega) (by omega)]; exact hlast)) locs (K.grow g1) G hb
    have W0 : Went st lv st1 lv1 := (Went.grow g1).trans W
    rw [nes_each]
    cases hE : eachT (nestF m ret t.k want) locs t.l with
    | ok w =>
      obtain ⟨ss, l2⟩ := w
      rw [hE] at E
      obtain ⟨rfl, rfl, K1⟩ := E
      have hp := each_pre nest_pre t.l locs ss l1 hE G (fun x hx => good_mem gt hx)
      exact ⟨ss, st1, lv1, l1, q, W0, hp.le, at0, 0, K1, rfl, rfl, rfl, hp⟩
    | error w =>
      obtain ⟨x, y⟩ := w
      rw [hE] at E
      obtain ⟨hy, hle, K1⟩ := E
      exact ⟨rs, st1, lv1, l1, q, W0, hle, x, y, K1, hy, rfl, rfl⟩
  have main : ∀ (want : Int) (mw : Nat), want = (if t.k = 25 then 1 else 2) → mw = (if t.k = 25 then 2 else 1) → ∃ rs st' lv', callD T (ev T) 236 [.hp 0 0 15 0 0, encT t] st = some (slE 6 (pfl rs) (encTs rs), st') ∧ Went st lv st' lv' ∧ match nesT m ret t.k want locs t.l with
      | .ok ss => ss = rs ∧ Lk m ret st' lv' locs at0 0
      | .error (x, y) => y ≠ 0 ∧ ∃ locs', locs'.length = locs.length ∧ Lk m ret st' lv' locs' x y := by
    intro want mw hw hmw
    obtain ⟨rs, st1, lv1, l1, q, W, hle, a1, e1, K1, E⟩ := key want mw hw
    obtain ⟨md1, k0⟩ := K1.h0
    obtain ⟨y1, y2, y3, _⟩ := K1.hw.facts
    obtain ⟨lv2, s1, z1, z2, z3, fin⟩ := K1.back locs.length hle K1.hw.len
    obtain ⟨K2, W2⟩ := fin (md1 + 1)
    have s2 := s1 _ rfl
    have hA : ∀ o, St.at (st ++ [o]) 0 = lkO m lv ret at0 0 md := fun o => by rw [at_lt _ _ hl]; exact h0
    have hS : ∀ o o', List.set (st ++ [o]) st.length o' = st ++ [o'] := fun o o' => set_app0 _ _ _
    refine ⟨rs, _, lv2, ?_, W.trans W2, ?_⟩
    · have go : Ret (ev T 236 [.hp 0 0 15 0 0, encT t] st) fun r st' => r = slE 6 (pfl rs) (encTs rs) ∧ st' = List.set st1 0 (lkO m lv2 ret a1 e1 (md1 + 1)) := by
        refine Ret_wp (fn := F236) rfl ?_
        rw [F236]
        by_cases h25 : t.k = 25
        · rw [if_pos h25] at hw hmw
          subst hw hmw
          simp [h25, hA, hS, at_last, k0, lkO, kHs, splice, x1, x2, x3, x4, y1, y2, y3, z1, z2, z3, q, s2, K1.hw.slc]
        · rw [if_neg h25] at hw hmw
          subst hw hmw
          simp [h25, hA, hS, at_last, k0, lkO, kHs, splice, x1, x2, x3, x4, y1, y2, y3, z1, z2, z3, q, s2, K1.hw.slc]
      obtain ⟨r, st', h1, rfl, rfl⟩ := go
      exact callD_freE (fn := F236) rfl rfl (by simp) h1 (by simp) (by simp)
    · cases hE : nesT m ret t.k want locs t.l with
      | ok ss =>
        rw [hE] at E
        obtain ⟨rfl, rfl, rfl, hp⟩ := E
        rw [hp.take] at K2
        exact ⟨rfl, K2⟩
      | error v =>
        obtain ⟨x, y⟩ := v
        rw [hE] at E
        obtain ⟨hy, rfl, rfl⟩ := E
        exact ⟨hy, _, by rw [List.length_take, Nat.min_eq_left hle], K2⟩
  exact main _ _ rfl rfl
end Go.Nt.Ty

/-
  RIGHT MODULES, walked (10): statements.
  No condition.
-/
set_option linter.unusedSimpArgs false
namespace Go.Nt.Ty
open Go Go.Nt

variable {m ret : Tm} {st : St} {lv : D} {locs : List Tm} {at0 e : Int}

/-- A local comes: what the two stores leave. -/
theorem Lk.let (K : Lk m ret st lv locs at0 e) (hb : locs.length ≤ 1000000) {md : Nat} (h0 : St.at st 0 = lkO m lv ret at0 e md) :
    ∃ (id ver pmd : Nat) (st1 : St), 0 < id ∧ appendD st lv [encT T0] 6 = some (.rs id ver 6 0 (locs.length + 1) false, st1) ∧ St.at st1 id = .cells false 6 ver pmd false (encTs (locs ++ [T0])) ∧
      (∀ o, St.at (List.set st1 id o) 0 = lkO m lv ret at0 e md) ∧ ∀ x : Tm, Lk m ret (List.set (List.set st1 id (.cells false 6 ver (pmd + 1) false (encTs (locs ++ [x])))) 0 (lkO m (.rs id ver 6 0 (locs.length + 1) false) ret at0 e (md + 1))) (.rs id ver 6 0 (locs.length + 1) false) (locs ++ [x]) at0 e ∧
        Went st lv (List.set (List.set st1 id (.cells false 6 ver (pmd + 1) false (encTs (locs ++ [x])))) 0 (lkO m (.rs id ver 6 0 (locs.length + 1) false) ret at0 e (md + 1))) (.rs id ver 6 0 (locs.length + 1) false) := by
  obtain ⟨id, ver, pmd, N, base, h1, h2, h3, h4, h5, h6, hz⟩ := K.push hb
  obtain ⟨z1, z2, z3, z4⟩ := hz T0
  have hl := K.hl
  have hi : id < (base T0).length := by omega
  have hs : ∀ o, 0 < (List.set (base T0) id o).length := fun o => by rw [List.length_set, z2]; omega
  refine ⟨id, ver, pmd, base T0, h1, z1, z3, fun o => by rw [at_set _ _ _ _ hi, if_neg (by omega), z4 0 hl (by omega)]; exact h0, fun x => ?_⟩
  refine K.pushed hb h1 h2 h3 h4 h5 (mo := md + 1) (mi := pmd + 1) (by simp [z2]) ?_ ?_ ?_
  · rw [at_set _ _ _ _ (hs _), if_pos rfl]
  · rw [at_set _ _ _ _ (hs _), if_neg (by omega), at_set _ _ _ _ hi, if_pos rfl]
  · intro i hi' h0' hid
    rw [at_set _ _ _ _ (hs _), if_neg h0', at_set _ _ _ _ hi, if_neg hid]
    exact z4 i hi' hid

theorem elem_set (l : List Tm) (x : Tm) : (encTs (l ++ [T0])).set l.length (encT x) = encTs (l ++ [x]) := by
  rw [encTs_append, encTs_append, List.set_append_right _ _ (by simp)]; simp
theorem elem_get (l : List Tm) (x : Tm) : (l ++ [x])[l.length]? = some x := by rw [List.getElem?_append_right (by omega)]; simp

theorem shape_one {t : Tm} (hs : shapeT t = true) (hk : t.k = 20 ∨ t.k = 21 ∨ t.k = 26 ∨ t.k = 27 ∨ t.k = 28) : ∃ x, t.l = [x] := by
  unfold shapeT partsN at hs
  rw [if_neg (by omega)] at hs
  have : t.l.length = 1 := by
    rcases hk with h | h | h | h | h <;> · rw [h] at hs; simp at hs; exact hs.2.1
  exact List.length_eq_one_iff.1 this
theorem shape_two {t : Tm} (hs : shapeT t = true) (hk : t.k = 22) : ∃ x y, t.l = [x, y] := by
  unfold shapeT partsN at hs
  rw [if_neg (by omega), hk] at hs
  simp at hs
  match h : t.l, hs with
  | [x, y], _ => exact ⟨x, y, rfl⟩
  | [], hs => simp at hs
  | [_], hs => simp at hs
  | _ :: _ :: _ :: _, hs => simp at hs

theorem stmtT_leaf (m ret : Tm) (locs : List Tm) (t : Tm) (hs : shapeT t = true) (h29 : t.k ≠ 29) (hn : ¬ (t.k = 23 ∨ t.k = 24 ∨ t.k = 25)) :
    stmtT m ret locs t = match leafS m ret locs t.k t.a t.l with
      | .error e => .error e
      | .ok (ss, locs') => .ok (.mk t.k t.n [] .full ss 0 0, locs') := by
  obtain ⟨k, n, s, fl, l, a, b⟩ := t
  rw [stmtT, if_neg (by rw [hs]; simp), if_neg (show ¬ k = 29 from h29), if_neg (show ¬ (k = 23 ∨ k = 24 ∨ k = 25) from hn)] <;> rfl
theorem stmtT_nest (m ret : Tm) (locs : List Tm) (t : Tm) (hs : shapeT t = true) (h29 : t.k ≠ 29) (hn : t.k = 23 ∨ t.k = 24 ∨ t.k = 25) :
    stmtT m ret locs t = match nesT m ret t.k (if t.k = 25 then 1 else 2) locs t.l with
      | .error e => .error e
      | .ok ss => .ok (.mk t.k t.n [] (pfl ss) ss 0 0, locs) := by
  obtain ⟨k, n, s, fl, l, a, b⟩ := t
  rw [stmtT, if_neg (by rw [hs]; simp), if_neg (show ¬ k = 29 from h29), if_pos (show k = 23 ∨ k = 24 ∨ k = 25 from hn)] <;> rfl
theorem stmtT_blk (m ret : Tm) (locs : List Tm) (t : Tm) (h29 : t.k = 29) : stmtT m ret locs t = match blkT m ret locs t.l with
      | .error e => .error e
      | .ok ss => .ok (.mk 29 t.n [] (pfl ss) ss 0 0, locs) := by
  obtain ⟨k, n, s, fl, l, a, b⟩ := t
  simp only [k_mk] at h29
  subst h29
  rw [stmtT, if_neg (by simp [shapeT]), if_pos rfl] <;> rfl
theorem stmtT_bad (m ret : Tm) (locs : List Tm) (t : Tm) (hs : shapeT t = false) : stmtT m ret locs t = .error (t.a, 12) := by
  obtain ⟨k, n, s, fl, l, a, b⟩ := t
  rw [stmtT, if_pos hs] <;> rfl

theorem one_full (x : Tm) : slE 6 .full [encT x] = .sl 6 true [encT x] := rfl
theorem out_full (k n : Int) (x : Tm) : encT (.mk k n [] .full [x] 0 0) = .agg [.int .i64 k, .int .i64 n, .str [], .sl 6 true [encT x], .int .i64 0, .int .i64 0] := by rw [encT_eq]; simp [slE]

/-- 'let'. -/
theorem s_let (gm : good m) (t x : Tm) (gt : good t) (hs : shapeT t = true) (hk : t.k = 20) (hx : t.l = [x]) (K : Lk m ret st lv locs at0 0) (G : Good locs) (hb : locs.length + cntT t ≤ 1000000) :
    ∃ r st', callD T (ev T) 175 [.hp 0 0 15 0 0, encT t] st = some (encT r, st') ∧ Sok m ret st lv locs at0 (stmtT m ret locs t) r st' := by
  have hll : locs.length ≤ 1000000 := by omega
  have gx : good x := good_mem gt (by rw [hx]; simp)
  have qs := c231 t gt st
  rw [hs] at qs
  obtain ⟨a, s, st1, at1, e1, q, W1, K1, ga, _, d⟩ := c232u gm (fun _ => G) hll K x gx
  obtain ⟨md, k0⟩ := K1.h0
  obtain ⟨x1, x2, x3, x4⟩ := K1.hw.facts
  obtain ⟨id, ver, pmd, st2, i0, a1, a2, a3, fin⟩ := K1.let hll k0
  obtain ⟨K2, W2⟩ := fin a
  rw [encT_0] at a1
  have es := elem_set locs a
  have eg := elem_get locs T0
  refine ⟨.mk 20 t.n [] .full [s] 0 0, _, ?_, _, locs ++ [a], W1.trans W2, ?_⟩
  · have go : Ret (ev T 175 [.hp 0 0 15 0 0, encT t] st) fun r st' => r = encT (.mk 20 t.n [] .full [s] 0 0) ∧ st' = List.set (List.set st2 id (.cells false 6 ver (pmd + 1) false (encTs (locs ++ [a])))) 0 (lkO m (.rs id ver 6 0 (locs.length + 1) false) ret at1 e1 (md + 1)) := by
      refine Ret_wp (fn := F175) rfl ?_
      rw [F175]
      rw [encT_eq t, hx, hk] at qs
      simp only [encTs_cons, encTs_nil] at qs
      rw [out_full]
      simp [hx, hk, qs, ← encT_eq a, ← encT_eq s, ← encT_eq x, q, k0, lkO, kHs, splice, fillD, x1, x2, x3, x4, a1, a2, a3, es, eg]
    obtain ⟨r, st', h1, rfl, rfl⟩ := go
    exact callD_freE (fn := F175) rfl rfl (by simp) h1 (by simp) (by simp)
  · rw [stmtT_leaf m ret locs t hs (by omega) (by omega), hx, leafS, if_pos hk, hk]
    have d := d rfl
    cases ho : ofT m locs x with
    | error v =>
      obtain ⟨v1, v2⟩ := v
      rw [ho] at d
      obtain ⟨rfl, rfl, hy⟩ := d
      exact ⟨hy, by simp, K2⟩
    | ok v =>
      obtain ⟨v1, v2⟩ := v
      rw [ho] at d
      obtain ⟨rfl, rfl, rfl, rfl⟩ := d
      exact ⟨rfl, rfl, K2⟩

/-- 'new'. -/
theorem s_new (gm : good m) (t x : Tm) (gt : good t) (hs : shapeT t = true) (hk : t.k = 21) (hx : t.l = [x]) (K : Lk m ret st lv locs at0 0) (hb : locs.length + cntT t ≤ 1000000) :
    ∃ r st', callD T (ev T) 175 [.hp 0 0 15 0 0, encT t] st = some (encT r, st') ∧ Sok m ret st lv locs at0 (stmtT m ret locs t) r st' := by
  have hll : locs.length ≤ 1000000 := by omega
  have gx : good x := good_mem gt (by rw [hx]; simp)
  have qs := c231 t gt st
  rw [hs] at qs
  obtain ⟨st1, q, W1, K1⟩ := c119 gm K x gx
  generalize hat : (if (0 : Int) = 0 ∧ cellsV m x = 0 then x.a else at0) = at1 at K1
  generalize he : (if (0 : Int) = 0 ∧ cellsV m x = 0 then (11 : Int) else 0) = e1 at K1
  obtain ⟨md, k0⟩ := K1.h0
  obtain ⟨x1, x2, x3, x4⟩ := K1.hw.facts
  obtain ⟨id, ver, pmd, st2, i0, a1, a2, a3, fin⟩ := K1.let hll k0
  obtain ⟨K2, W2⟩ := fin x
  rw [encT_0] at a1
  have es := elem_set locs x
  have eg := elem_get locs T0
  have es' := es
  rw [encT_eq x] at es'
  refine ⟨.mk 21 t.n [] .full [cleanT x] 0 0, _, ?_, _, locs ++ [x], W1.trans W2, ?_⟩
  · have go : Ret (ev T 175 [.hp 0 0 15 0 0, encT t] st) fun r st' => r = encT (.mk 21 t.n [] .full [cleanT x] 0 0) ∧ st' = List.set (List.set st2 id (.cells false 6 ver (pmd + 1) false (encTs (locs ++ [x])))) 0 (lkO m (.rs id ver 6 0 (locs.length + 1) false) ret at1 e1 (md + 1)) := by
      refine Ret_wp (fn := F175) rfl ?_
      rw [F175]
      rw [encT_eq t, hx, hk] at qs
      simp only [encTs_cons, encTs_nil] at qs
      rw [out_full]
      simp [hx, hk, qs, q, k0, lkO, kHs, splice, fillD, x1, x2, x3, x4, a1, a2, a3, es, es', eg]
    obtain ⟨r, st', h1, rfl, rfl⟩ := go
    exact callD_freE (fn := F175) rfl rfl (by simp) h1 (by simp) (by simp)
  · rw [stmtT_leaf m ret locs t hs (by omega) (by omega), hx, leafS, if_neg (by omega), if_pos hk, hk]
    unfold kindT
    by_cases hz : cellsV m x = 0
    · rw [if_pos hz]
      rw [if_pos ⟨rfl, hz⟩] at hat he
      subst hat he
      exact ⟨by decide, by simp, K2⟩
    · rw [if_neg hz]
      rw [if_neg (fun h => hz h.2)] at hat he
      subst hat he
      exact ⟨rfl, rfl, K2⟩

/-- What is assigned. -/
theorem s_set (gm : good m) (t : Tm) (gt : good t) (hs : shapeT t = true) (hk : t.k = 22) (K : Lk m ret st lv locs at0 0) (G : Good locs) (hb : locs.length + cntT t ≤ 1000000) :
    ∃ r st', callD T (ev T) 175 [.hp 0 0 15 0 0, encT t] st = some (encT r, st') ∧ Sok m ret st lv locs at0 (stmtT m ret locs t) r st' := by
  obtain ⟨x, y, hx⟩ := shape_two hs hk
  have qs := c231 t gt st
  rw [hs] at qs
  obtain ⟨rs, st1, q, W1, E⟩ := c233 gm G (by omega) K t gt x y hx
  have ef : encT (.mk 22 t.n [] .full rs 0 0) = .agg [.int .i64 22, .int .i64 t.n, .str [], slE 6 .full (encTs rs), .int .i64 0, .int .i64 0] := by rw [encT_eq] <;> rfl
  refine ⟨.mk 22 t.n [] .full rs 0 0, st1, ?_, lv, locs, W1, ?_⟩
  · have go : Ret (ev T 175 [.hp 0 0 15 0 0, encT t] st) fun r st' => r = encT (.mk 22 t.n [] .full rs 0 0) ∧ st' = st1 := by
      refine Ret_wp (fn := F175) rfl ?_
      rw [F175]
      rw [encT_eq t, hk] at qs q
      rw [ef]
      simp [hk, qs, q, splice, fillD]
    obtain ⟨r, st', h1, rfl, rfl⟩ := go
    exact callD_freE (fn := F175) rfl rfl (by simp) h1 (by simp) (by simp)
  · rw [stmtT_leaf m ret locs t hs (by omega) (by omega), hk]
    have h1 : ∀ ss l1, leafS m ret locs 22 t.a t.l = .ok (ss, l1) → l1 = locs := by
      intro ss l1 h
      rw [hx, leafS] at h
      cases ho : ofT m locs x with
      | error v => rw [ho] at h; cases h
      | ok v =>
        obtain ⟨v1, v2⟩ := v
        rw [ho] at h
        simp only at h
        cases hu : ofT m locs y with
        | error w => rw [hu] at h; cases h
        | ok w =>
          obtain ⟨w1, w2⟩ := w
          rw [hu] at h
          simp only at h
          split at h
          · cases h
          · split at h
            · simp only [Except.ok.injEq, Prod.mk.injEq] at h; exact h.2.symm
            · cases h
    cases hq : leafS m ret locs 22 t.a t.l with
    | error v =>
      obtain ⟨v1, v2⟩ := v
      rw [hq] at E
      exact ⟨E.1, Nat.le_refl _, E.2⟩
    | ok v =>
      obtain ⟨v1, v2⟩ := v
      rw [hq] at E
      have := h1 _ _ hq
      subst this
      obtain ⟨rfl, K1⟩ := E
      exact ⟨rfl, rfl, K1⟩

/-- What is printed. -/
theorem s_print (gm : good m) (t x : Tm) (gt : good t) (hs : shapeT t = true) (hk : t.k = 26) (hx : t.l = [x]) (K : Lk m ret st lv locs at0 0) (G : Good locs) (hb : locs.length + cntT t ≤ 1000000) :
    ∃ r st', callD T (ev T) 175 [.hp 0 0 15 0 0, encT t] st = some (encT r, st') ∧ Sok m ret st lv locs at0 (stmtT m ret locs t) r st' := by
  have gx : good x := good_mem gt (by rw [hx]; simp)
  have qs := c231 t gt st
  rw [hs] at qs
  obtain ⟨s, st1, q, W1, _, E⟩ := c234 gm (fun _ => G) (by omega) K x gx [1, 2] (by simp)
  have E := E rfl
  simp only [List.map_cons, List.map_nil] at q
  refine ⟨.mk 26 t.n [] .full [s] 0 0, st1, ?_, lv, locs, W1, ?_⟩
  · have go : Ret (ev T 175 [.hp 0 0 15 0 0, encT t] st) fun r st' => r = encT (.mk 26 t.n [] .full [s] 0 0) ∧ st' = st1 := by
      refine Ret_wp (fn := F175) rfl ?_
      rw [F175]
      rw [encT_eq t, hx, hk] at qs
      simp only [encTs_cons, encTs_nil] at qs
      rw [out_full]
      simp [hx, hk, qs, q, splice, fillD]
    obtain ⟨r, st', h1, rfl, rfl⟩ := go
    exact callD_freE (fn := F175) rfl rfl (by simp) h1 (by simp) (by simp)
  · rw [stmtT_leaf m ret locs t hs (by omega) (by omega), hx, leafS, if_neg (by omega), if_neg (by omega), if_pos hk, hk, onlyK2]
    cases hq : onlyK m locs x [1, 2] with
    | error v =>
      obtain ⟨v1, v2⟩ := v
      rw [hq] at E
      exact ⟨E.1, Nat.le_refl _, E.2⟩
    | ok v =>
      rw [hq] at E
      obtain ⟨rfl, K1⟩ := E
      exact ⟨rfl, rfl, K1⟩

/-- 'return'. -/
theorem s_ret (gm : good m) (gr : good ret) (t x : Tm) (gt : good t) (hs : shapeT t = true) (hk : t.k = 27) (hx : t.l = [x]) (K : Lk m ret st lv locs at0 0) (G : Good locs) (hb : locs.length + cntT t ≤ 1000000) :
    ∃ r st', callD T (ev T) 175 [.hp 0 0 15 0 0, encT t] st = some (encT r, st') ∧ Sok m ret st lv locs at0 (stmtT m ret locs t) r st' := by
  have gx : good x := good_mem gt (by rw [hx]; simp)
  have qs := c231 t gt st
  rw [hs] at qs
  obtain ⟨a, s, st1, at1, e1, q, W1, K1, ga, _, d⟩ := c232u gm (fun _ => G) (by omega) K x gx
  obtain ⟨md, k0⟩ := K1.h0
  obtain ⟨x1, x2, x3, x4⟩ := K1.hw.facts
  have qb := fun st => c212 ret gr st
  have qm := fun st => c235 a (good_ok _ ga) (bareT ret) st
  obtain ⟨st2, q2, q2', W2, K2⟩ := fail_if K1 (!sameT a (bareT ret)) x 10
  refine ⟨.mk 27 t.n [] .full [s] 0 0, st2, ?_, lv, locs, W1.trans W2, ?_⟩
  · have go : Ret (ev T 175 [.hp 0 0 15 0 0, encT t] st) fun r st' => r = encT (.mk 27 t.n [] .full [s] 0 0) ∧ st' = st2 := by
      refine Ret_wp (fn := F175) rfl ?_
      rw [F175]
      rw [encT_eq t, hx, hk] at qs
      simp only [encTs_cons, encTs_nil] at qs
      rw [out_full]
      cases hm : sameT a (bareT ret) with
      | true =>
        rw [hm] at q2' qm
        have e2 := q2' rfl
        subst e2
        simp [hx, hk, qs, ← encT_eq a, ← encT_eq s, ← encT_eq x, ← encT_eq ret, q, k0, lkO, kHs, splice, fillD, x1, x2, x3, qb, qm]
      | false =>
        rw [hm] at q2 qm
        have q2 := q2 rfl
        simp [hx, hk, qs, ← encT_eq a, ← encT_eq s, ← encT_eq x, ← encT_eq ret, q, q2, k0, lkO, kHs, splice, fillD, x1, x2, x3, qb, qm]
    obtain ⟨r, st', h1, rfl, rfl⟩ := go
    exact callD_freE (fn := F175) rfl rfl (by simp) h1 (by simp) (by simp)
  · rw [stmtT_leaf m ret locs t hs (by omega) (by omega), hx, leafS, if_neg (by omega), if_neg (by omega), if_neg (by omega), if_pos hk, hk]
    have d := d rfl
    cases ho : ofT m locs x with
    | error v =>
      obtain ⟨v1, v2⟩ := v
      rw [ho] at d
      obtain ⟨rfl, rfl, hy⟩ := d
      simp only [hy, and_false, if_false] at K2
      exact ⟨hy, Nat.le_refl _, K2⟩
    | ok v =>
      obtain ⟨v1, v2⟩ := v
      rw [ho] at d
      obtain ⟨rfl, rfl, rfl, rfl⟩ := d
      simp only
      cases hm : sameT v1 (bareT ret) with
      | true =>
        rw [hm] at K2
        simp at K2
        simp only [if_true]
        exact ⟨trivial, trivial, K2⟩
      | false =>
        rw [hm] at K2
        simp at K2
        simp only [Bool.false_eq_true, if_false]
        exact ⟨by decide, Nat.le_refl _, K2⟩

/-- A call alone. -/
theorem s_do (gm : good m) (t x : Tm) (gt : good t) (hs : shapeT t = true) (hk : t.k = 28) (hx : t.l = [x]) (K : Lk m ret st lv locs at0 0) (G : Good locs) (hb : locs.length + cntT t ≤ 1000000) :
    ∃ r st', callD T (ev T) 175 [.hp 0 0 15 0 0, encT t] st = some (encT r, st') ∧ Sok m ret st lv locs at0 (stmtT m ret locs t) r st' := by
  have gx : good x := good_mem gt (by rw [hx]; simp)
  have qs := c231 t gt st
  rw [hs] at qs
  obtain ⟨st1, q1, q1', W1, K1⟩ := fail_if K (decide (x.k ≠ 16)) x 12
  obtain ⟨a, s, st2, at2, e2, q2, W2, K2, ga, d1, d2⟩ := c232u gm (fun _ => G) (by omega) K1 x gx
  refine ⟨.mk 28 t.n [] .full [s] 0 0, st2, ?_, lv, locs, W1.trans W2, ?_⟩
  · have go : Ret (ev T 175 [.hp 0 0 15 0 0, encT t] st) fun r st' => r = encT (.mk 28 t.n [] .full [s] 0 0) ∧ st' = st2 := by
      refine Ret_wp (fn := F175) rfl ?_
      rw [F175]
      rw [encT_eq t, hx, hk] at qs
      simp only [encTs_cons, encTs_nil] at qs
      rw [out_full]
      by_cases hm : x.k = 16
      · have e1 := q1' (by simp [hm])
        subst e1
        simp [hx, hk, hm, qs, ← encT_eq a, ← encT_eq s, q2, splice, fillD]
      · have q1 := q1 (by simp [hm])
        simp [hx, hk, hm, qs, ← encT_eq a, ← encT_eq s, q1, q2, splice, fillD]
    obtain ⟨r, st', h1, rfl, rfl⟩ := go
    exact callD_freE (fn := F175) rfl rfl (by simp) h1 (by simp) (by simp)
  · rw [stmtT_leaf m ret locs t hs (by omega) (by omega), hx, leafS, if_neg (by omega), if_neg (by omega), if_neg (by omega), if_neg (by omega), hk]
    by_cases hm : x.k = 16
    · simp [hm] at d1 d2
      rw [if_neg (by omega)]
      cases ho : ofT m locs x with
      | error v =>
        obtain ⟨v1, v2⟩ := v
        rw [ho] at d2
        obtain ⟨rfl, rfl, hy⟩ := d2
        exact ⟨hy, Nat.le_refl _, K2⟩
      | ok v =>
        obtain ⟨v1, v2⟩ := v
        rw [ho] at d2
        obtain ⟨rfl, rfl, rfl, rfl⟩ := d2
        exact ⟨rfl, rfl, K2⟩
    · simp [hm] at d1
      obtain ⟨rfl, rfl⟩ := d1
      rw [if_pos hm]
      exact ⟨by decide, Nat.le_refl _, K2⟩

theorem s_bad (t : Tm) (gt : good t) (hs : shapeT t = false) (K : Lk m ret st lv locs at0 0) :
    ∃ r st', callD T (ev T) 175 [.hp 0 0 15 0 0, encT t] st = some (encT r, st') ∧ Sok m ret st lv locs at0 (stmtT m ret locs t) r st' := by
  have qs := c231 t gt st
  rw [hs] at qs
  obtain ⟨st1, q, K1, W1⟩ := c118 K t 12
  refine ⟨T0, st1, ?_, lv, locs, W1, ?_⟩
  · have go : Ret (ev T 175 [.hp 0 0 15 0 0, encT t] st) fun r st' => r = encT T0 ∧ st' = st1 := by
      refine Ret_wp (fn := F175) rfl ?_
      rw [F175]
      simp [← encT_eq, qs, q, splice, fillD]
      rw [encT_0]
    obtain ⟨r, st', h1, rfl, rfl⟩ := go
    exact callD_freE (fn := F175) rfl rfl (by simp) h1 (by simp) (by simp)
  · rw [stmtT_bad m ret locs t hs]
    exact ⟨by decide, Nat.le_refl _, by simpa using K1⟩

theorem s_blk (t : Tm) (gt : good t) (hk : t.k = 29) (hB : Bwalk m ret t) (K : Lk m ret st lv locs at0 0) (G : Good locs) (hb : locs.length + cntT t ≤ 1000000) :
    ∃ r st', callD T (ev T) 175 [.hp 0 0 15 0 0, encT t] st = some (encT r, st') ∧ Sok m ret st lv locs at0 (stmtT m ret locs t) r st' := by
  have hc := cnt_l t
  have qs := c231 t gt st
  rw [show shapeT t = true by rw [shapeT, if_pos hk]] at qs
  obtain ⟨r, st1, lv1, q, W1, E⟩ := hB st lv locs at0 K G (by omega)
  refine ⟨r, st1, ?_, lv1, ?_⟩
  · have go : Ret (ev T 175 [.hp 0 0 15 0 0, encT t] st) fun r' st' => r' = encT r ∧ st' = st1 := by
      refine Ret_wp (fn := F175) rfl ?_
      rw [F175]
      rw [encT_eq t, hk] at qs q
      simp [hk, qs, q, splice, fillD]
      rw [encT_eq r]
    obtain ⟨r', st', h1, rfl, rfl⟩ := go
    exact callD_freE (fn := F175) rfl rfl (by simp) h1 (by simp) (by simp)
  · rw [stmtT_blk m ret locs t hk]
    cases hq : blkT m ret locs t.l with
    | error v =>
      obtain ⟨v1, v2⟩ := v
      rw [hq] at E
      obtain ⟨hy, l', hl', K'⟩ := E
      exact ⟨l', W1, hy, by omega, K'⟩
    | ok ss =>
      rw [hq] at E
      obtain ⟨hr, K'⟩ := E
      exact ⟨locs, W1, hr.symm, rfl, K'⟩

theorem s_nest (gm : good m) (t : Tm) (gt : good t) (hs : shapeT t = true) (hk : t.k = 23 ∨ t.k = 24 ∨ t.k = 25) (hB : ∀ x, x ∈ t.l → Bwalk m ret x) (K : Lk m ret st lv locs at0 0) (G : Good locs) (hb : locs.length + cntT t ≤ 1000000) :
    ∃ r st', callD T (ev T) 175 [.hp 0 0 15 0 0, encT t] st = some (encT r, st') ∧ Sok m ret st lv locs at0 (stmtT m ret locs t) r st' := by
  have hc := cnt_l t
  have qs := c231 t gt st
  rw [hs] at qs
  obtain ⟨rs, st1, lv1, q, W1, E⟩ := c236 gm t gt hB K G (by omega)
  have ef : encT (.mk t.k t.n [] (pfl rs) rs 0 0) = .agg [.int .i64 t.k, .int .i64 t.n, .str [], slE 6 (pfl rs) (encTs rs), .int .i64 0, .int .i64 0] := by rw [encT_eq] <;> rfl
  refine ⟨.mk t.k t.n [] (pfl rs) rs 0 0, st1, ?_, lv1, ?_⟩
  · have go : Ret (ev T 175 [.hp 0 0 15 0 0, encT t] st) fun r' st' => r' = encT (.mk t.k t.n [] (pfl rs) rs 0 0) ∧ st' = st1 := by
      refine Ret_wp (fn := F175) rfl ?_
      rw [F175, ef]
      rcases hk with hk | hk | hk
      all_goals
        rw [encT_eq t, hk] at qs q
        simp [hk, qs, q, splice, fillD]
    obtain ⟨r', st', h1, rfl, rfl⟩ := go
    exact callD_freE (fn := F175) rfl rfl (by simp) h1 (by simp) (by simp)
  · rw [stmtT_nest m ret locs t hs (by omega) hk]
    cases hq : nesT m ret t.k (if t.k = 25 then 1 else 2) locs t.l with
    | error v =>
      obtain ⟨v1, v2⟩ := v
      rw [hq] at E
      obtain ⟨hy, l', hl', K'⟩ := E
      exact ⟨l', W1, hy, by omega, K'⟩
    | ok ss =>
      rw [hq] at E
      obtain ⟨rfl, K'⟩ := E
      exact ⟨locs, W1, rfl, rfl, K'⟩

/-- Statements and blocks are walked. -/
theorem walk (gm : good m) (gr : good ret) (t : Tm) : good t → Swalk m ret t ∧ Bwalk m ret t := by
  induction t using Tm.ind with
  | h t ih =>
    intro gt
    have hB : Bwalk m ret t := c120 gm t gt fun x hx => (ih x hx (good_mem gt hx)).1
    refine ⟨fun st lv locs at0 K G hb => ?_, hB⟩
    cases hs : shapeT t with
    | false => exact s_bad t gt hs K
    | true =>
      by_cases h29 : t.k = 29
      · exact s_blk t gt h29 hB K G hb
      by_cases hn : t.k = 23 ∨ t.k = 24 ∨ t.k = 25
      · exact s_nest gm t gt hs hn (fun x hx => (ih x hx (good_mem gt hx)).2) K G hb
      by_cases h22 : t.k = 22
      · exact s_set gm t gt hs h22 K G hb
      by_cases h1 : t.k = 20 ∨ t.k = 21 ∨ t.k = 26 ∨ t.k = 27 ∨ t.k = 28
      · obtain ⟨x, hx⟩ := shape_one hs h1
        rcases h1 with h | h | h | h | h
        · exact s_let gm t x gt hs h hx K G hb
        · exact s_new gm t x gt hs h hx K hb
        · exact s_print gm t x gt hs h hx K G hb
        · exact s_ret gm gr t x gt hs h hx K G hb
        · exact s_do gm t x gt hs h hx K G hb
      · exfalso
        unfold shapeT isStmt at hs
        rw [if_neg h29] at hs
        simp at hs
        omega
end Go.Nt.Ty

/-
  RIGHT MODULES, walked (11): a function's head.
  No condition.
-/
set_option linter.unusedSimpArgs false
namespace Go.Nt.Ty
open Go Go.Nt

variable {m ret : Tm} {st : St} {lv : D} {locs : List Tm} {at0 e : Int}

def tyOf (p : Tm) : Tm := p.l.headD T0

theorem l72a (fl : Fl) (l : List Tm) (hl : l.length ≤ 1000000) (hp : ∀ p, p ∈ l → ∃ x, p.l = [x]) (st0 : St) :
    ∀ (r i : Nat) (s : List D) (bx : List (Nat × List D)) (L : D) (st : St), r = l.length - i → i ≤ l.length → Grow st0 st → RawT st0 st L ((l.take i).map tyOf) →
      get s 58 = slE 6 fl (encTs l) → get s 59 = .i l.length → get s 60 = .int .i64 i → get s 4 = L →
    Stops (lp T L72_0 ⟨⟨s, bx⟩, st⟩) fun e s' _ st' => e = .exit 0 ∧ RawT st0 st' (get s' 4) (l.map tyOf) ∧ Grow st0 st' := by
  intro r
  induction r with
  | zero =>
    intro i s bx L st hr hi hg hR h58 h59 h60 h4
    have e : i = l.length := by omega
    subst e
    refine Stops_wp L72_0.eq_1 ?_
    rw [List.take_length] at hR
    simp [h58, h59, h60, h4]
    exact ⟨hR, hg⟩
  | succ r ihr =>
    intro i s bx L st hr hi hg hR h58 h59 h60 h4
    have hlt : i < l.length := by omega
    have hw : IntKind.wrap .i64 ((i : Int) + 1) = ((i + 1 : Nat) : Int) := by rw [wrap64] <;> omega
    obtain ⟨x, hx⟩ := hp _ (List.getElem_mem hlt)
    have ex : tyOf l[i] = x := by rw [tyOf, hx] <;> rfl
    obtain ⟨L3, st3, a1, R3, hl3, a3, _⟩ := hR.app (by simp; omega) hg.1 x
    have hg3 : Grow st0 st3 := ⟨by have := hg.1; omega, fun j hj => by
      rw [a3 j (by have := hg.1; omega) ?_, hg.2 j hj]
      rcases hR.lid with h | ⟨h, _⟩
      · exact .inl h
      · exact .inr (by omega)⟩
    have e1 : (l.take i).map tyOf ++ [x] = (l.take (i + 1)).map tyOf := by
      rw [← ex, ← List.map_singleton, ← List.map_append, List.take_append_getElem hlt]
    rw [e1] at R3
    have nx := fun s' bx' => ihr (i + 1) s' bx' L3 st3 (by omega) (by omega) hg3 R3
    obtain ⟨x1, x2, x3, x4⟩ := hR.facts
    obtain ⟨z1, z2, z3, z4⟩ := R3.facts
    refine Stops_wp L72_0.eq_1 ?_
    simp [h58, h59, h60, h4, hlt, hw, hx, a1, x1, x2, x3, x4, z1, z2, z3, splice, -Int.natCast_add]
    refine nx _ _ ?_ ?_ ?_ ?_ <;> simp [h58, h59]

/-- The kinds, one behind the other. -/
def kfold (m : Tm) : Int × Int → List Tm → Int × Int
  | p, [] => p
  | p, t :: l => kfold m (if p.2 = 0 ∧ cellsV m t = 0 then (t.a, 11) else p) l
theorem kfold_err (m : Tm) : ∀ (l : List Tm) (p : Int × Int), p.2 ≠ 0 → kfold m p l = p
  | [], p, _ => rfl
  | t :: l, p, h => by rw [kfold, if_neg (fun q => h q.1)]; exact kfold_err m l p h
theorem kfold_ok (m : Tm) : ∀ (l : List Tm) (a : Int), kfold m (a, 0) l = match kindsT m l with | .ok _ => (a, 0) | .error p => p
  | [], a => rfl
  | t :: l, a => by
    rw [kfold, kindsT]
    by_cases h : cellsV m t = 0
    · rw [if_pos ⟨rfl, h⟩, if_pos h, kfold_err m l _ (by simp)]
    · rw [if_neg (fun q => h q.2), if_neg h]; exact kfold_ok m l a
theorem kinds_ne (m : Tm) : ∀ (l : List Tm), kindsT m l = .ok () → ∀ x, x ∈ l → cellsV m x ≠ 0
  | [], _, x, hx => by cases hx
  | t :: l, h, x, hx => by
    rw [kindsT] at h
    split at h
    · cases h
    · next hz =>
      rcases List.mem_cons.1 hx with rfl | q
      · exact hz
      · exact kinds_ne m l h x q
theorem kinds_err (m : Tm) : ∀ (l : List Tm) (a b : Int), kindsT m l = .error (a, b) → b ≠ 0
  | [], a, b, h => by cases h
  | t :: l, a, b, h => by
    rw [kindsT] at h
    split at h
    · simp only [Except.error.injEq, Prod.mk.injEq] at h; omega
    · exact kinds_err m l a b h

theorem l72b (gm : good m) (l : List Tm) (hg : Good l) (hl : l.length ≤ 1000001) (aid mda : Nat) (ha0 : aid ≠ 0) (st0 : St) (h00 : aid < st0.length) (ha : St.at st0 aid = .cells false 6 0 mda false (encTs l)) :
    ∀ (r i : Nat) (s : List D) (bx : List (Nat × List D)) (st : St) (p : Int × Int), r = l.length - i → i ≤ l.length → Went st0 .nils st .nils → Lk m ret st .nils [] p.1 p.2 →
      get s 84 = .rs aid 0 6 0 l.length false → get s 85 = .i l.length → get s 86 = .int .i64 i → get s 0 = .hp 0 0 15 0 0 →
    Stops (lp T L72_1 ⟨⟨s, bx⟩, st⟩) fun e _ _ st' => e = .exit 2 ∧ Went st0 .nils st' .nils ∧ Lk m ret st' .nils [] (kfold m p (l.drop i)).1 (kfold m p (l.drop i)).2 := by
  intro r
  induction r with
  | zero =>
    intro i s bx st p hr hi W K h84 h85 h86 h0
    have e : i = l.length := by omega
    subst e
    refine Stops_wp L72_1.eq_1 ?_
    rw [List.drop_length, kfold]
    simp [h84, h85, h86, h0]
    exact ⟨W, K⟩
  | succ r ihr =>
    intro i s bx st p hr hi W K h84 h85 h86 h0
    have hlt : i < l.length := by omega
    have hw : IntKind.wrap .i64 ((i : Int) + 1) = ((i + 1 : Nat) : Int) := by rw [wrap64] <;> omega
    have hat : St.at st aid = .cells false 6 0 mda false (encTs l) := by rw [W.2.2 aid h00 ha0 (by simpa [lidOf] using ha0)]; exact ha
    obtain ⟨st1, q, W1, K1⟩ := c119 gm K l[i] (hg _ (List.getElem_mem hlt))
    have K2 : Lk m ret st1 .nils [] (if p.2 = 0 ∧ cellsV m l[i] = 0 then (l[i].a, (11 : Int)) else p).1 (if p.2 = 0 ∧ cellsV m l[i] = 0 then (l[i].a, (11 : Int)) else p).2 := by
      split
      · next h => rw [if_pos h, if_pos h] at K1; exact K1
      · next h => rw [if_neg h, if_neg h] at K1; exact K1
    have nx := fun s' bx' => ihr (i + 1) s' bx' st1 _ (by omega) (by omega) (W.trans W1) K2
    rw [List.drop_eq_getElem_cons hlt, kfold]
    generalize (if p.2 = 0 ∧ cellsV m l[i] = 0 then (l[i].a, (11 : Int)) else p) = p' at *
    refine Stops_wp L72_1.eq_1 ?_
    simp [h84, h85, h86, h0, hlt, hw, hat, ← encT_eq, q, splice, -Int.natCast_add]
    refine nx _ _ ?_ ?_ ?_ ?_ <;> simp [h84, h85, h0]

/-- Types without records, one behind the other. -/
def pfold : Int × Int → List Tm → Int × Int
  | p, [] => p
  | p, t :: l => pfold (if p.2 = 0 ∧ plainT t = false then (t.a, 12) else p) l
theorem pfold_err : ∀ (l : List Tm) (p : Int × Int), p.2 ≠ 0 → pfold p l = p
  | [], p, _ => rfl
  | t :: l, p, h => by rw [pfold, if_neg (fun q => h q.1)]; exact pfold_err l p h
theorem pfold_ok (m : Tm) : ∀ (l : List Tm) (a : Int), pfold (a, 0) l = match plainsT m l with | .ok _ => (a, 0) | .error p => p
  | [], a => rfl
  | t :: l, a => by
    rw [pfold, plainsT]
    cases h : plainT t with
    | false => simp only [and_self, if_true]; rw [pfold_err l _ (by simp)]
    | true => simp only [Bool.true_eq_false, and_false, if_false]; exact pfold_ok m l a
theorem plains_err (m : Tm) : ∀ (l : List Tm) (a b : Int), plainsT m l = .error (a, b) → b ≠ 0
  | [], a, b, h => by cases h
  | t :: l, a, b, h => by
    rw [plainsT] at h
    split at h
    · simp only [Except.error.injEq, Prod.mk.injEq] at h; omega
    · exact plains_err m l a b h

theorem l72c (gm : good m) (t : Tm) (l : List Tm) (hg : Good l) (hl : l.length ≤ 1000001) (aid mda : Nat) (ha0 : aid ≠ 0) (st0 : St) (h00 : aid < st0.length) (ha : St.at st0 aid = .cells false 6 0 mda false (encTs l)) :
    ∀ (r i : Nat) (s : List D) (bx : List (Nat × List D)) (st : St) (p : Int × Int), r = l.length - i → i ≤ l.length → Went st0 .nils st .nils → Lk m ret st .nils [] p.1 p.2 → (p.2 = 0 → ∀ x, x ∈ l → cellsV m x ≠ 0) →
      get s 94 = .rs aid 0 6 0 l.length false → get s 95 = .i l.length → get s 96 = .int .i64 i → get s 0 = .hp 0 0 15 0 0 → get s 3 = .lp 3 1 0 → getB bx 3 = (1, clT t) →
    Stops (lp T L72_2 ⟨⟨s, bx⟩, st⟩) fun e _ _ st' => e = .exit 4 ∧ Went st0 .nils st' .nils ∧ Lk m ret st' .nils [] (if t.n = 1 then pfold p (l.drop i) else p).1 (if t.n = 1 then pfold p (l.drop i) else p).2 := by
  intro r
  induction r with
  | zero =>
    intro i s bx st p hr hi W K hc h94 h95 h96 h0 h3 b3
    have e : i = l.length := by omega
    subst e
    refine Stops_wp L72_2.eq_1 ?_
    have e2 : (if t.n = 1 then pfold p (l.drop l.length) else p) = p := by rw [List.drop_length, pfold]; split <;> rfl
    rw [e2]
    simp [h94, h95, h96, h0]
    exact ⟨W, K⟩
  | succ r ihr =>
    intro i s bx st p hr hi W K hc h94 h95 h96 h0 h3 b3
    have hlt : i < l.length := by omega
    have hw : IntKind.wrap .i64 ((i : Int) + 1) = ((i + 1 : Nat) : Int) := by rw [wrap64] <;> omega
    have hat : St.at st aid = .cells false 6 0 mda false (encTs l) := by rw [W.2.2 aid h00 ha0 (by simpa [lidOf] using ha0)]; exact ha
    obtain ⟨md, k0⟩ := K.h0
    have hgx := hg _ (List.getElem_mem hlt)
    have hd : (if t.n = 1 then pfold p (l.drop i) else p) = (if t.n = 1 then pfold (if p.2 = 0 ∧ plainT l[i] = false then (l[i].a, 12) else p) (l.drop (i + 1)) else p) := by
      rw [List.drop_eq_getElem_cons hlt, pfold]
    rw [hd]
    refine Stops_wp L72_2.eq_1 ?_
    by_cases he : p.2 = 0
    · by_cases hn : t.n = 1
      · have qp := fun st => c121 gm l[i] hgx (hc he _ (List.getElem_mem hlt)) st
        rw [if_pos hn]
        cases hp : plainT l[i] with
        | true =>
          have nx := fun s' bx' => ihr (i + 1) s' bx' st p (by omega) (by omega) W K hc
          rw [if_pos hn] at nx
          rw [hp] at qp
          simp only [Bool.true_eq_false, and_false, if_false]
          rw [he] at k0
          simp [h94, h95, h96, h0, h3, b3, hlt, hw, hat, he, hn, k0, lkO, kHs, ← encT_eq, qp, splice, -Int.natCast_add]
          refine nx _ _ ?_ ?_ ?_ ?_ ?_ ?_ <;> simp [h94, h95, h0, h3, b3]
        | false =>
          obtain ⟨st1, q, K1, W1⟩ := c118 K l[i] 12
          rw [if_pos he, if_pos he] at K1
          have nx := fun s' bx' => ihr (i + 1) s' bx' st1 (l[i].a, 12) (by omega) (by omega) (W.trans W1) K1 (fun h => by cases h)
          rw [if_pos hn] at nx
          rw [hp] at qp
          rw [if_pos ⟨he, rfl⟩]
          rw [he] at k0
          simp [h94, h95, h96, h0, h3, b3, hlt, hw, hat, he, hn, k0, lkO, kHs, ← encT_eq, qp, q, splice, -Int.natCast_add]
          refine nx _ _ ?_ ?_ ?_ ?_ ?_ ?_ <;> simp [h94, h95, h0, h3, b3]
      · have nx := fun s' bx' => ihr (i + 1) s' bx' st p (by omega) (by omega) W K hc
        rw [if_neg hn] at nx
        rw [if_neg hn]
        rw [he] at k0
        simp [h94, h95, h96, h0, h3, b3, hlt, hw, hat, hn, k0, lkO, kHs, splice, -Int.natCast_add]
        refine nx _ _ ?_ ?_ ?_ ?_ ?_ ?_ <;> simp [h94, h95, h0, h3, b3]
    · have nx := fun s' bx' => ihr (i + 1) s' bx' st p (by omega) (by omega) W K hc
      have e3 : (if p.2 = 0 ∧ plainT l[i] = false then (l[i].a, (12 : Int)) else p) = p := if_neg (fun h => he h.1)
      rw [e3]
      generalize (if t.n = 1 then pfold p (l.drop (i + 1)) else p) = p' at *
      simp [h94, h95, h96, h0, h3, b3, hlt, hw, hat, he, k0, lkO, kHs, splice, -Int.natCast_add]
      refine nx _ _ ?_ ?_ ?_ ?_ ?_ ?_ <;> simp [h94, h95, h0, h3, b3]
end Go.Nt.Ty

/-
  RIGHT MODULES, walked (12): a function's head, joined.
  No condition.
-/
set_option linter.unusedSimpArgs false
namespace Go.Nt.Ty
open Go Go.Nt

variable {m ret : Tm} {st : St} {lv : D} {locs : List Tm} {at0 e : Int}

/-- How a function's head ends. -/
def Hok (m ret : Tm) (st : St) (at0 : Int) (R : Er (List Tm)) (ret' : Tm) (st' : St) : Prop := ∃ lv', Went st .nils st' lv' ∧ match R with
    | .ok tys => Lk m ret' st' lv' tys at0 0
    | .error (x, y) => y ≠ 0 ∧ ∃ ret1 locs', Lk m ret1 st' lv' locs' x y

theorem headT_bad {m t : Tm} (h : ¬ ((t.n = 0 ∨ t.n = 1) ∧ ∃ p r b, t.l = [p, r, b] ∧ p.k = 35 ∧ partedT p.l = true ∧ b.k = 29)) : headT m t = .error (t.a, 12) := by
  unfold headT
  match hl : t.l with
  | [p, r, b] =>
    simp only
    rw [if_pos]
    refine Classical.byContradiction fun q => h ?_
    simp only [not_or, not_and, Classical.not_not] at q
    obtain ⟨q1, q2, q3, q4⟩ := q
    exact ⟨by omega, p, r, b, hl, q2, by simpa using q3, q4⟩
  | [] => rfl
  | [_] => rfl
  | [_, _] => rfl
  | _ :: _ :: _ :: _ :: _ => rfl

theorem f_bad (rr t : Tm) (gt : good t) (K : Lk m ret st .nils [] at0 0) (h : ¬ ((t.n = 0 ∨ t.n = 1) ∧ ∃ p r b, t.l = [p, r, b] ∧ p.k = 35 ∧ partedT p.l = true ∧ b.k = 29)) :
    ∃ st', callD T (ev T) 72 [.hp 0 0 15 0 0, encT t] st = some (.tup [], st') ∧ Hok m ret st at0 (headT m t) rr st' := by
  obtain ⟨st1, q, K1, W1⟩ := c118 K t 12
  refine ⟨st1, ?_, .nils, W1, ?_⟩
  · rw [callD_rawE (fn := F72) rfl rfl (by simp)]
    have go : Ret (ev T 72 [.hp 0 0 15 0 0, encT t] st) fun r st' => r = .tup [] ∧ st' = st1 := by
      refine Ret_wp (fn := F72) rfl ?_
      rw [F72]
      have c3 : ((t.l.length : Int) = 3) = (t.l.length = 3) := propext (by omega)
      by_cases hn : t.n = 0 ∨ t.n = 1
      · by_cases hl : t.l.length = 3
        · obtain ⟨p, r, b, hl⟩ : ∃ p r b, t.l = [p, r, b] := by
            match h : t.l, hl with
            | [p, r, b], _ => exact ⟨p, r, b, rfl⟩
          have gp : good p := good_mem gt (by rw [hl]; simp)
          have qp := fun st => c117 p.fl p.l (good_len gp) st
          rw [encT_eq t, hl] at q
          simp only [encTs_cons, encTs_nil] at q
          by_cases hk : p.k = 35
          · cases hp : partedT p.l with
            | true =>
              rw [hp] at qp
              have hb : ¬ b.k = 29 := fun hb => h ⟨hn, p, r, b, hl, hk, hp, hb⟩
              rcases hn with hn | hn
              · rw [hn] at q; simp [hl, hn, hk, qp, hb, q, splice]
              · rw [hn] at q; simp [hl, hn, hk, qp, hb, q, splice]
            | false =>
              rw [hp] at qp
              rcases hn with hn | hn
              · rw [hn] at q; simp [hl, hn, hk, qp, q, splice]
              · rw [hn] at q; simp [hl, hn, hk, qp, q, splice]
          · rcases hn with hn | hn
            · rw [hn] at q; simp [hl, hn, hk, q, splice]
            · rw [hn] at q; simp [hl, hn, hk, q, splice]
        · rcases hn with hn | hn
          · rw [encT_eq, hn] at q; simp [hn, hl, c3, q, splice]
          · rw [encT_eq, hn] at q; simp [hn, hl, c3, q, splice]
      · have n0 : ¬ t.n = 0 := fun h => hn (.inl h)
        have n1 : ¬ t.n = 1 := fun h => hn (.inr h)
        simp [n0, n1, ← encT_eq, q, splice]
    obtain ⟨r, st', h1, rfl, rfl⟩ := go
    exact h1
  · rw [headT_bad h]
    exact ⟨by decide, ret, [], by simpa using K1⟩

theorem RawT.copy {st0 st1 : St} {L : D} {l : List Tm} (h : RawT st0 st1 L l) (hb : l.length ≤ 1000000) (r : Tm) : ∃ L', (∀ q, q = (l.length : Int) → sliceD L none (some (.int .i64 q)) (some (.int .i64 q)) = some L') ∧ slcTy (some 6) L = true ∧
    appendD st1 L' [encT r] 6 = some (.rs st1.length 0 6 0 (l.length + 1) false, st1 ++ [.cells false 6 0 0 false (encTs (l ++ [r]))]) := by
  rcases h with ⟨rfl, rfl⟩ | ⟨id, md, h0, rfl, h1, h2, h3⟩
  · exact ⟨.nils, by rintro q rfl; simp [sliceD, boundD], rfl, by simp [appendD, most]⟩
  · have e2 : List.take l.length (encTs l) = encTs l := List.take_of_length_le (by simp)
    have hm : l.length ≤ 134217728 := by omega
    refine ⟨.rs id (l.length - 1) 6 0 l.length true, by rintro q rfl; simp [sliceD, boundD], rfl, ?_⟩
    simp [appendD, h1, hm, most, e2, encTs_append]

theorem f_good (gm : good m) (t p r b : Tm) (gt : good t) (K : Lk m ret st .nils [] at0 0) (hn : t.n = 0 ∨ t.n = 1) (hl : t.l = [p, r, b]) (hk : p.k = 35) (hp : partedT p.l = true) (hb : b.k = 29) :
    ∃ st', callD T (ev T) 72 [.hp 0 0 15 0 0, encT t] st = some (.tup [], st') ∧ Hok m ret st at0 (headT m t) r st' := by
  have gp : good p := good_mem gt (by rw [hl]; simp)
  have gr : good r := good_mem gt (by rw [hl]; simp)
  have qp := fun st => c117 p.fl p.l (good_len gp) st
  rw [hp] at qp
  have hpl := good_len gp
  have hone : ∀ q, q ∈ p.l → ∃ x, q.l = [x] := by
    intro q hq
    unfold partedT at hp
    rw [List.all_eq_true] at hp
    have := hp q hq
    simp only [Bool.and_eq_true, decide_eq_true_eq] at this
    exact List.length_eq_one_iff.1 this.2
  have gall : Good (p.l.map tyOf ++ [r]) := by
    intro u hu
    rcases List.mem_append.1 hu with h | h
    · obtain ⟨q, hq, rfl⟩ := List.mem_map.1 h
      obtain ⟨x, hx⟩ := hone q hq
      rw [tyOf, hx]
      exact good_mem (good_mem gp hq) (by rw [hx]; simp)
    · simp only [List.mem_cons, List.not_mem_nil, or_false] at h
      rw [h]; exact gr
  have lo1 := fun s bx => l72a p.fl p.l hpl hone st p.l.length 0 s bx .nils st (by omega) (by omega) (Grow.refl st) (RawT.nil st st)
  rw [callD_rawE (fn := F72) rfl rfl (by simp)]
  have go : Ret (ev T 72 [.hp 0 0 15 0 0, encT t] st) fun r' st' => r' = .tup [] ∧ Hok m ret st at0 (headT m t) r st' := by
    refine Ret_wp (fn := F72) rfl ?_
    rw [F72]
    have fin : ∀ L st1 st4, RawT st st1 L (p.l.map tyOf) → Grow st (st1 ++ [.cells false 6 0 0 false (encTs (p.l.map tyOf ++ [r]))]) → Went (st1 ++ [.cells false 6 0 0 false (encTs (p.l.map tyOf ++ [r]))]) .nils st4 .nils →
        ∀ q : Int × Int, q = (if t.n = 1 then pfold (kfold m (at0, 0) (p.l.map tyOf ++ [r])) (p.l.map tyOf ++ [r]) else kfold m (at0, 0) (p.l.map tyOf ++ [r])) → Lk m ret st4 .nils [] q.1 q.2 → ∀ md, Hok m ret st at0 (headT m t) r (List.set st4 0 (lkO m L r q.1 q.2 md)) := by
      intro L st1 st4 R g W q hq K4 md
      have hl4 := K4.hl
      have R4 : RawT st st4 L (p.l.map tyOf) := R.keep (by have := W.1; simp at this; omega) fun hne => by
        rcases R.lid with h | ⟨h, h'⟩
        · exact absurd h hne
        · have := K.hl
          rw [W.2.2 _ (by simp; omega) (by omega) (by show lidOf L ≠ 0; omega), at_lt _ _ h']
      have hw : LocW (List.set st4 0 (lkO m L r q.1 q.2 md)) L (p.l.map tyOf) := by
        rcases R4 with ⟨h, rfl⟩ | ⟨id, mi, h0, rfl, h1, h2, h3⟩
        · exact .inl ⟨rfl, h⟩
        · have := K.hl
          have hlen : (p.l.map tyOf).length ≤ 1000000 := by simpa using hpl
          exact .inr ⟨id, _, mi, false, [], rfl, by rw [List.append_nil, at_set _ _ _ _ hl4, if_neg (by omega)]; exact h1, by omega, by simpa using h3, fun _ => rfl, by rw [List.append_nil]; omega, by rw [List.append_nil]; omega⟩
      have K5 : Lk m r (List.set st4 0 (lkO m L r q.1 q.2 md)) L (p.l.map tyOf) q.1 q.2 := ⟨by simpa using hl4, ⟨md, by rw [at_set _ _ _ _ hl4, if_pos rfl]⟩, hw⟩
      have W5 : Went st .nils (List.set st4 0 (lkO m L r q.1 q.2 md)) L := by
        have hW := (Went.grow (lv := .nils) g).trans W
        refine ⟨by have := hW.1; simpa using this, ?_, fun i hi h0 hn => by rw [at_set _ _ _ _ hl4, if_neg h0]; exact hW.2.2 i hi h0 hn⟩
        rcases R with ⟨_, rfl⟩ | ⟨id, mi, _, rfl, _, h2, _⟩
        · exact .inl rfl
        · exact .inr (.inl h2)
      refine ⟨L, W5, ?_⟩
      unfold headT
      rw [hl]
      simp only
      rw [if_neg (by simp only [not_or, not_and, Classical.not_not]; exact ⟨by omega, hk, by rw [hp]; simp, hb⟩)]
      have ht : (p.l.map fun x => x.l.headD T0) = p.l.map tyOf := rfl
      rw [ht]
      rw [kfold_ok] at hq
      cases hkd : kindsT m (p.l.map tyOf ++ [r]) with
      | error v =>
        obtain ⟨v1, v2⟩ := v
        have hy := kinds_err m _ _ _ hkd
        rw [hkd] at hq
        simp only [pfold_err _ (v1, v2) hy] at hq
        have hq : q = (v1, v2) := by rw [hq]; split <;> rfl
        subst hq
        exact ⟨hy, r, _, K5⟩
      | ok u =>
        rw [hkd] at hq
        simp only at hq ⊢
        by_cases h1 : t.n = 1
        · rw [if_pos h1, pfold_ok m] at hq
          rw [if_pos h1]
          cases hpl : plainsT m (p.l.map tyOf ++ [r]) with
          | error v =>
            obtain ⟨v1, v2⟩ := v
            rw [hpl] at hq
            subst hq
            exact ⟨plains_err m _ _ _ hpl, r, _, K5⟩
          | ok u =>
            rw [hpl] at hq
            subst hq
            exact K5
        · rw [if_neg h1] at hq
          rw [if_neg h1]
          subst hq
          exact K5
    have hc : (kfold m (at0, 0) (p.l.map tyOf ++ [r])).2 = 0 → ∀ x, x ∈ p.l.map tyOf ++ [r] → cellsV m x ≠ 0 := by
      intro h0
      rw [kfold_ok] at h0
      cases hkd : kindsT m (p.l.map tyOf ++ [r]) with
      | error v =>
        obtain ⟨v1, v2⟩ := v
        rw [hkd] at h0
        exact absurd h0 (kinds_err m _ _ _ hkd)
      | ok u => exact kinds_ne m _ hkd
    generalize Hok m ret st at0 (headT m t) r = Q at *
    have hlen : (p.l.map tyOf ++ [r]).length = p.l.length + 1 := by simp
    generalize hall : p.l.map tyOf ++ [r] = all at *
    have hcl : clT t = [.int .i64 t.k, .int .i64 t.n, .str t.s, slE 6 t.fl [encT p, encT r, encT b], .int .i64 t.a, .int .i64 t.b] := by simp [hl]
    have hwr : ∀ st1 : St, Grow st st1 → Grow st (st1 ++ [.cells false 6 0 0 false (encTs all)]) := fun st1 g => g.trans ⟨by simp, fun i hi => at_lt _ _ hi⟩
    rcases hn with hn | hn
    all_goals
      simp [hl, hn, hk, qp, hb, splice]
      refine WL.useB L72_0_p L72_0_w (WB := L72_0.wrB) rfl (lo1 _ _ ?_ ?_ ?_ ?_) ?_
      iterate 4 simp
      rintro e s1 b1 st1 ⟨rfl, R, g1⟩ hf1 hb1
      generalize hL : get s1 4 = L at R
      have e0 := hf1 0 rfl
      have e3 := hf1 3 rfl
      have b3 := hb1 3 rfl
      simp at e0 e3 b3
      clear hf1 hb1
      obtain ⟨x1, x2, x3, x4⟩ := R.facts
      obtain ⟨L', c1, c2, c3⟩ := R.copy (by simpa using hpl) r
      have c1 := c1 _ rfl
      rw [hall] at c3
      simp only [List.length_map] at c1 c3 x4
      have h1l := K.hl
      have g1l := g1.1
      have lo2 := fun s bx => l72b gm all gall (by omega) st1.length 0 (by omega) _ (by simp) (at_last st1 _) all.length 0 s bx _ (at0, 0) (by omega) (by omega) (.refl _ _) (K.grow (hwr st1 g1))
      rw [hlen, List.drop_zero] at lo2
      simp [hL, e0, e3, b3, x1, x2, x3, x4, c1, c2, c3, -Int.natCast_add]
      refine WL.useB L72_1_p L72_1_w (WB := L72_1.wrB) rfl (lo2 _ _ ?_ ?_ ?_ ?_) ?_
      iterate 4 simp [e0]
      rintro e s2 b2 st3 ⟨rfl, W3, K3⟩ hf2 hb2
      have f0 := hf2 0 rfl
      have f3 := hf2 3 rfl
      have f4 := hf2 4 rfl
      have f7 := hf2 7 rfl
      have b3' := hb2 3 rfl
      simp [e0, e3, hL] at f0 f3 f4 f7
      rw [b3] at b3'
      clear hf2 hb2 lo2
      have lo3 := fun s bx => l72c gm t all gall (by omega) st1.length 0 (by omega) _ (by simp) (at_last st1 _) all.length 0 s bx _ _ (by omega) (by omega) W3 K3 hc
      rw [hlen, List.drop_zero] at lo3
      simp [f0, f3, f4, f7, -Int.natCast_add]
      refine WL.useB L72_2_p L72_2_w (WB := L72_2.wrB) rfl (lo3 _ _ ?_ ?_ ?_ ?_ ?_ ?_) ?_
      iterate 5 simp [f0, f3]
      · rw [b3', hcl, hn]
      rintro e s3 b4 st4 ⟨rfl, W4, K4⟩ hf3 hb3
      have h0' := hf3 0 rfl
      have h3' := hf3 3 rfl
      have h4' := hf3 4 rfl
      have b3'' := hb3 3 rfl
      simp [f0, f3, f4] at h0' h3' h4'
      rw [b3'] at b3''
      clear hf3 hb3 lo3
      obtain ⟨md4, k4⟩ := K4.h0
      have hl4 := K4.hl
      have ha4 : ∀ o, St.at (List.set st4 0 o) 0 = o := fun o => by rw [at_set _ _ _ _ hl4, if_pos rfl]
      have F := fin L st1 st4 R (hwr st1 g1) W4 _ rfl K4 (md4 + 2)
      generalize (if t.n = 1 then pfold (kfold m (at0, 0) all) all else kfold m (at0, 0) all) = q at *
      simp [h0', h3', h4', b3'', k4, lkO, kHs, ha4, hl4, splice, x1, x2, x3]
      exact F
  obtain ⟨r', st', h1, rfl, h2⟩ := go
  exact ⟨st', h1, h2⟩

theorem c72 (gm : good m) (t : Tm) (gt : good t) (K : Lk m ret st .nils [] at0 0) : ∃ st', callD T (ev T) 72 [.hp 0 0 15 0 0, encT t] st = some (.tup [], st') ∧ Hok m ret st at0 (headT m t) (t.l.tail.headD T0) st' := by
  by_cases h : (t.n = 0 ∨ t.n = 1) ∧ ∃ p r b, t.l = [p, r, b] ∧ p.k = 35 ∧ partedT p.l = true ∧ b.k = 29
  · obtain ⟨hn, p, r, b, hl, hk, hp, hb⟩ := h
    have := f_good gm t p r b gt K hn hl hk hp hb
    rw [hl]
    exact this
  · exact f_bad _ t gt K h
end Go.Nt.Ty

/-
  RIGHT MODULES, walked (13): declarations.
  No condition.
-/
set_option linter.unusedSimpArgs false
namespace Go.Nt.Ty
open Go Go.Nt

variable {m ret : Tm} {st : St} {lv : D} {locs : List Tm} {at0 e : Int}

/-- The locals are forgotten, all of them. -/
theorem Lk.none (K : Lk m ret st lv locs at0 e) (md : Nat) : Lk m ret (List.set st 0 (lkO m .nils ret at0 e md)) .nils [] at0 e ∧ Went st lv (List.set st 0 (lkO m .nils ret at0 e md)) .nils := by
  have hl := K.hl
  exact ⟨⟨by simpa using hl, ⟨md, by rw [at_set _ _ _ _ hl, if_pos rfl]⟩, .inl ⟨rfl, rfl⟩⟩, by simp, .inr (.inr rfl), fun i hi hi0 _ => by rw [at_set _ _ _ _ hl, if_neg hi0]⟩

/-- What was cleaned, handed on. -/
theorem out_fz {st0 stX : St} {L : D} {l : List Tm} (hl0 : 0 < st0.length) (R : RawT st0 stX L l) (W : Went st0 .nils stX .nils) (K : Lk m ret stX .nils [] at0 e) (k n : Int) :
    ∃ st', fz stX (outR k n L) = some (encT (.mk k n [] (pfl l) l 0 0), st') ∧ Went st0 .nils st' .nils ∧ Lk m ret st' .nils [] at0 e := by
  obtain ⟨st', f, hl, hat⟩ := R.fzX
  have hk : ∀ i, i < st0.length → St.at st' i = St.at stX i := fun i hi => hat i (by
    rcases R.lid with h | ⟨h, _⟩
    · exact .inl h
    · exact .inr (by omega))
  refine ⟨st', by rw [encT_eq]; simp [outR, fz, fz1, fzL, f], ⟨by rw [hl]; exact W.1, .inl rfl, fun i hi h0 hn => by rw [hk i hi]; exact W.2.2 i hi h0 hn⟩, K.keep (by omega) fun i hi hi0 => ?_⟩
  have : i = 0 := by rcases hi0 with h | h; exact h; exact h
  rw [this]; exact hk 0 hl0

def Dok (m : Tm) (st : St) (at0 : Int) (R : Er Tm) (r : Tm) (st' : St) : Prop := Went st .nils st' .nils ∧ ∃ ret', match R with
    | .ok s => s = r ∧ Lk m ret' st' .nils [] at0 0
    | .error (x, y) => y ≠ 0 ∧ Lk m ret' st' .nils [] x y

theorem clean_mk (t : Tm) : (Tm.mk t.k t.n [] (pfl (t.l.map cleanT)) (t.l.map cleanT) 0 0) = cleanT t := by
  rw [cleanT_eq]; cases t.l <;> rfl

/-- What does not look into a function. -/
theorem d_flat (gm : good m) (t : Tm) (gt : good t) (hk : t.k ≠ 33) (i : Nat) (hi : i < 9223372036854775808) (K : Lk m ret st .nils [] at0 0) :
    ∃ r st', callD T (ev T) 69 [.hp 0 0 15 0 0, .int .i64 i, encT t] st = some (encT r, st') ∧ Dok m st at0 (declR m i t) r st' := by
  obtain ⟨L, st1, q, R, g⟩ := c116 t gt st
  have K1 := K.grow g
  have W1 : Went st .nils st1 .nils := .grow g
  rw [outR] at q
  obtain ⟨md, k0⟩ := K1.h0
  obtain ⟨x1, x2, x3, x4⟩ := R.facts
  -- one error, or none
  have done : ∀ (e1 : Int) (c : Bool), declR m i t = (if c = true then .error (t.a, e1) else .ok (cleanT t)) → e1 ≠ 0 →
      (∀ st2, (c = true → callD T (ev T) 118 [.hp 0 0 15 0 0, encT t, .int .i64 e1] st1 = some (.tup [], st2)) → (c = false → st2 = st1) → Ret (ev T 69 [.hp 0 0 15 0 0, .int .i64 i, encT t] st) fun r st' => r = outR t.k t.n L ∧ st' = st2) →
      ∃ r st', callD T (ev T) 69 [.hp 0 0 15 0 0, .int .i64 i, encT t] st = some (encT r, st') ∧ Dok m st at0 (declR m i t) r st' := by
    intro e1 c hR he run
    obtain ⟨st2, q2, q2', W2, K2⟩ := fail_if K1 c t e1
    have R2 : RawT st st2 L (t.l.map cleanT) := R.keep W2.1 fun hne => by
      rcases R.lid with h | ⟨h, h'⟩
      · exact absurd h hne
      · have := K.hl
        exact W2.2.2 _ h' (by omega) (by show lidOf L ≠ 0; omega)
    obtain ⟨r, st', h1, rfl, rfl⟩ := run st2 q2 q2'
    obtain ⟨st3, f, W3, K3⟩ := out_fz K.hl R2 (W1.trans W2) K2 t.k t.n
    rw [clean_mk] at f
    refine ⟨cleanT t, st3, callD_freE (fn := F69) rfl rfl (by simp) h1 f (by simp), W3, ret, ?_⟩
    rw [hR]
    cases c with
    | true => simp at K3; exact ⟨he, K3⟩
    | false => simp at K3; exact ⟨rfl, K3⟩
  by_cases h30 : t.k = 30
  · have hi64 : in64 (i : Int) := by unfold in64; omega
    have gT : good (.mk 4 i [] .nil [] 0 0) := (good_iff _).2 ⟨by simp [in64], hi64, by simp, by simp [in64], by simp [in64], by simp, fun u hu => by cases hu⟩
    have qc := fun st => c46 m _ (good_ok _ gm) (good_len gm) (good_ok _ gT) st
    have eT : encT (.mk 4 i [] .nil [] 0 0) = .agg [.int .i64 4, .int .i64 i, .str [], .nils, .int .i64 0, .int .i64 0] := by rw [encT_eq] <;> rfl
    rw [eT] at qc
    have qp := fun st => c117 t.fl t.l (good_len gt) st
    by_cases hb : t.l = [] ∨ partedT t.l = false
    · refine done 12 true (by unfold declR; rw [if_pos h30, if_pos hb]; rfl) (by decide) fun st2 q2 _ => ?_
      have q2 := q2 rfl
      refine Ret_wp (fn := F69) rfl ?_
      rw [F69]
      rw [encT_eq t, h30] at q q2
      rcases Classical.em (t.l = []) with h | h
      · rw [h] at q q2
        simp only [encTs_nil] at q q2
        simp [h30, h, q, q2, x1, x2, x3, splice, outR]
      · have hp := hb.resolve_left h
        rw [hp] at qp
        have hne : ¬ ((t.l.length : Int) = 0) := by have := List.length_pos_iff.2 h; omega
        simp [h30, h, hne, qp, q, q2, x1, x2, x3, splice, outR]
    · have hn : t.l ≠ [] := fun h => hb (.inl h)
      have hp : partedT t.l = true := by cases h : partedT t.l with | true => rfl | false => exact absurd (.inr h) hb
      rw [hp] at qp
      have hne : ¬ ((t.l.length : Int) = 0) := by have := List.length_pos_iff.2 hn; omega
      by_cases hz : cellsV m (.mk 4 i [] .nil [] 0 0) = 0
      · refine done 11 true (by unfold declR; rw [if_pos h30, if_neg hb, if_pos hz]; rfl) (by decide) fun st2 q2 _ => ?_
        have q2 := q2 rfl
        refine Ret_wp (fn := F69) rfl ?_
        rw [F69]
        rw [encT_eq t, h30] at q q2
        simp [h30, hn, hne, qp, q, q2, qc, hz, k0, lkO, kHs, ← encT_eq m, fillD, x1, x2, x3, splice, outR]
      · refine done 11 false (by unfold declR; rw [if_pos h30, if_neg hb, if_neg hz]; rfl) (by decide) fun st2 _ q2 => ?_
        have q2 := q2 rfl
        subst q2
        refine Ret_wp (fn := F69) rfl ?_
        rw [F69]
        rw [encT_eq t, h30] at q
        simp [h30, hn, hne, qp, q, qc, hz, k0, lkO, kHs, ← encT_eq m, fillD, x1, x2, x3, splice, outR]
  by_cases h31 : t.k = 31
  · have hR : ∀ c, litOK t = !c → declR m i t = (if c = true then .error (t.a, 12) else .ok (cleanT t)) := by
      intro c hc
      unfold declR
      rw [if_neg h30, if_pos h31, hc]
      cases c <;> rfl
    have c1 : ((t.l.length : Int) = 1) = (t.l.length = 1) := propext (by omega)
    match hl : t.l with
    | [] =>
      refine done 12 true (hR true (by unfold litOK; rw [hl]; rfl)) (by decide) fun st2 q2 _ => ?_
      have q2 := q2 rfl
      refine Ret_wp (fn := F69) rfl ?_
      rw [F69]
      rw [encT_eq t, h31, hl] at q q2
      simp only [encTs_nil] at q q2
      simp [h31, hl, q, q2, x1, x2, x3, splice, outR]
    | x :: y :: r =>
      refine done 12 true (hR true (by unfold litOK; rw [hl]; rfl)) (by decide) fun st2 q2 _ => ?_
      have q2 := q2 rfl
      refine Ret_wp (fn := F69) rfl ?_
      rw [F69]
      rw [encT_eq t, h31, hl] at q q2
      simp only [encTs_cons] at q q2
      simp [h31, hl, q, q2, x1, x2, x3, splice, outR]
    | [x] =>
      have e1 : litOK t = (x.l.isEmpty && (decide (x.k = 5) || (decide (x.k = 6) && (decide (x.n = 0) || decide (x.n = 1))))) := by unfold litOK; rw [hl]
      rw [encT_eq t, h31, hl] at q
      simp only [encTs_cons, encTs_nil] at q
      have bad : litOK t = false → (∀ st2, callD T (ev T) 118 [.hp 0 0 15 0 0, .agg [.int .i64 31, .int .i64 t.n, .str t.s, slE 6 t.fl [encT x], .int .i64 t.a, .int .i64 t.b], .int .i64 12] st1 = some (.tup [], st2) →
          Ret (ev T 69 [.hp 0 0 15 0 0, .int .i64 i, encT t] st) fun r st' => r = outR t.k t.n L ∧ st' = st2) → ∃ r st', callD T (ev T) 69 [.hp 0 0 15 0 0, .int .i64 i, encT t] st = some (encT r, st') ∧ Dok m st at0 (declR m i t) r st' := fun h k =>
        done 12 true (hR true (by rw [h]; rfl)) (by decide) fun st2 q2 _ => k st2 (by
          have q2 := q2 rfl
          rw [encT_eq t, h31, hl] at q2
          simp only [encTs_cons, encTs_nil] at q2
          exact q2)
      have ok : litOK t = true → Ret (ev T 69 [.hp 0 0 15 0 0, .int .i64 i, encT t] st) (fun r st' => r = outR t.k t.n L ∧ st' = st1) → ∃ r st', callD T (ev T) 69 [.hp 0 0 15 0 0, .int .i64 i, encT t] st = some (encT r, st') ∧ Dok m st at0 (declR m i t) r st' := fun h k =>
        done 12 false (hR false (by rw [h]; rfl)) (by decide) fun st2 _ q2 => by
          have q2 := q2 rfl
          subst q2
          exact k
      by_cases hx : x.l = []
      · by_cases k5 : x.k = 5
        · refine ok (by rw [e1]; simp [hx, k5]) ?_
          refine Ret_wp (fn := F69) rfl ?_
          rw [F69]
          simp [h31, hl, hx, k5, q, x1, x2, x3, splice, outR]
        · by_cases k6 : x.k = 6
          · by_cases n0 : x.n = 0
            · refine ok (by rw [e1]; simp [hx, k6, n0]) ?_
              refine Ret_wp (fn := F69) rfl ?_
              rw [F69]
              simp [h31, hl, hx, k6, n0, q, x1, x2, x3, splice, outR]
            · by_cases n1 : x.n = 1
              · refine ok (by rw [e1]; simp [hx, k6, n1]) ?_
                refine Ret_wp (fn := F69) rfl ?_
                rw [F69]
                simp [h31, hl, hx, k6, n1, q, x1, x2, x3, splice, outR]
              · refine bad (by rw [e1]; simp [hx, k6, n0, n1]) fun st2 q2 => ?_
                refine Ret_wp (fn := F69) rfl ?_
                rw [F69]
                simp [h31, hl, hx, k6, n0, n1, q, q2, x1, x2, x3, splice, outR]
          · refine bad (by rw [e1]; simp [hx, k5, k6]) fun st2 q2 => ?_
            refine Ret_wp (fn := F69) rfl ?_
            rw [F69]
            simp [h31, hl, hx, k5, k6, q, q2, x1, x2, x3, splice, outR]
      · have hxl : (0 : Int) < x.l.length := by have := List.length_pos_iff.2 hx; omega
        have hxn : 0 < x.l.length := List.length_pos_iff.2 hx
        refine bad (by rw [e1]; simp [hx]) fun st2 q2 => ?_
        refine Ret_wp (fn := F69) rfl ?_
        rw [F69]
        simp [h31, hl, hxl, hxn, q, q2, x1, x2, x3, splice, outR]
  by_cases h32 : t.k = 32 ∧ t.l.length = 1
  · obtain ⟨h32, hl1⟩ := h32
    obtain ⟨x, hl⟩ := List.length_eq_one_iff.1 hl1
    have gx : good x := good_mem gt (by rw [hl]; simp)
    obtain ⟨st2, q2, W2, K2⟩ := c119 gm K1 x gx
    have R2 : RawT st st2 L (t.l.map cleanT) := R.keep W2.1 fun hne => by
      rcases R.lid with h | ⟨h, h'⟩
      · exact absurd h hne
      · have := K.hl
        exact W2.2.2 _ h' (by omega) (by show lidOf L ≠ 0; omega)
    have go : Ret (ev T 69 [.hp 0 0 15 0 0, .int .i64 i, encT t] st) fun r st' => r = outR t.k t.n L ∧ st' = st2 := by
      refine Ret_wp (fn := F69) rfl ?_
      rw [F69]
      rw [encT_eq t, h32, hl] at q
      simp only [encTs_cons, encTs_nil] at q
      simp [h32, hl, q, q2, x1, x2, x3, splice, outR]
    obtain ⟨r, st', h1, rfl, rfl⟩ := go
    obtain ⟨st3, f, W3, K3⟩ := out_fz K.hl R2 (W1.trans W2) K2 t.k t.n
    rw [clean_mk] at f
    refine ⟨cleanT t, st3, callD_freE (fn := F69) rfl rfl (by simp) h1 f (by simp), W3, ret, ?_⟩
    unfold declR
    rw [if_neg h30, if_neg h31, if_pos ⟨h32, hl1⟩, hl]
    by_cases hz : cellsV m x = 0
    · rw [if_pos (show cellsV m ([x].headD T0) = 0 from hz)]
      simp [hz] at K3
      exact ⟨by decide, K3⟩
    · rw [if_neg (show ¬ cellsV m ([x].headD T0) = 0 from hz)]
      simp [hz] at K3
      exact ⟨rfl, K3⟩
  · refine done 12 true (by unfold declR; rw [if_neg h30, if_neg h31, if_neg h32, if_neg hk]; rfl) (by decide) fun st2 q2 _ => ?_
    have q2 := q2 rfl
    refine Ret_wp (fn := F69) rfl ?_
    rw [F69]
    by_cases hk2 : t.k = 32
    · have hl1 : ¬ t.l.length = 1 := fun h => h32 ⟨hk2, h⟩
      have c1 : ((t.l.length : Int) = 1) = False := eq_false (by omega)
      rw [encT_eq t, hk2] at q q2
      simp [hk2, hl1, c1, q, q2, x1, x2, x3, splice, outR]
    · simp [h30, h31, hk2, hk, ← encT_eq, q, q2, x1, x2, x3, splice, outR]

theorem headT_ok {m t : Tm} {tys : List Tm} (h : headT m t = .ok tys) : ∃ p r b, t.l = [p, r, b] ∧ tys = p.l.map tyOf ∧ partedT p.l = true := by
  unfold headT at h
  match hl : t.l with
  | [p, r, b] =>
    rw [hl] at h
    simp only at h
    split at h
    · cases h
    · next hc =>
      simp only [not_or, not_and, Classical.not_not] at hc
      cases hk : kindsT m (p.l.map (fun x => x.l.headD T0) ++ [r]) with
      | error v => rw [hk] at h; cases h
      | ok u =>
        rw [hk] at h
        simp only at h
        cases hq : (if t.n = 1 then plainsT m (p.l.map (fun x => x.l.headD T0) ++ [r]) else .ok ()) with
        | error v => rw [hq] at h; cases h
        | ok u =>
          rw [hq] at h
          simp only [Except.ok.injEq] at h
          exact ⟨p, r, b, rfl, h.symm, by simpa using hc.2.2.1⟩
  | [] => rw [hl] at h; cases h
  | [_] => rw [hl] at h; cases h
  | [_, _] => rw [hl] at h; cases h
  | _ :: _ :: _ :: _ :: _ => rw [hl] at h; cases h

/-- A function. -/
theorem d_fun (gm : good m) (t : Tm) (gt : good t) (hk : t.k = 33) (hb : cntT t ≤ 1000000) (i : Nat) (K : Lk m ret st .nils [] at0 0) :
    ∃ r st', callD T (ev T) 69 [.hp 0 0 15 0 0, .int .i64 i, encT t] st = some (encT r, st') ∧ Dok m st at0 (declR m i t) r st' := by
  obtain ⟨L, st1, q, R, g⟩ := c116 t gt st
  have K1 := K.grow g
  have W1 : Went st .nils st1 .nils := .grow g
  have hl0 := K.hl
  rw [outR] at q
  obtain ⟨st2, q2, lv2, W2, E2⟩ := c72 gm t gt K1
  obtain ⟨x1, x2, x3, x4⟩ := R.facts
  have R2 : RawT st st2 L (t.l.map cleanT) := R.keep W2.1 fun hne => by
    rcases R.lid with h | ⟨h, h'⟩
    · exact absurd h hne
    · exact W2.2.2 _ h' (by omega) (by show lidOf L ≠ 0; omega)
  have hR : declR m i t = (match headT m t with
    | .error e => .error e
    | .ok tys => match blkT m (t.l.tail.headD T0) tys (t.l.tail.tail.headD T0).l with
      | .error e => .error e
      | .ok ss => .ok (.mk 33 t.n [] .part [cleanT (t.l.headD T0), cleanT (t.l.tail.headD T0), .mk 29 (t.l.tail.tail.headD T0).n [] (pfl ss) ss 0 0] 0 0)) := by
    unfold declR
    rw [if_neg (by omega), if_neg (by omega), if_neg (by omega), if_pos hk]
    rfl
  rw [hR]
  rw [encT_eq t, hk] at q q2
  cases hh : headT m t with
  | error v =>
    obtain ⟨v1, v2⟩ := v
    rw [hh] at E2
    obtain ⟨hy, ret1, l1, K2⟩ := E2
    obtain ⟨md2, k2⟩ := K2.h0
    obtain ⟨y1, y2, y3, _⟩ := K2.hw.facts
    obtain ⟨K3, W3⟩ := K2.none (md2 + 1)
    have hl2 := K2.hl
    have R3 : RawT st (List.set st2 0 (lkO m .nils ret1 v1 v2 (md2 + 1))) L (t.l.map cleanT) := R2.keep (by simp) fun hne => by
      rcases R2.lid with h | ⟨h, h'⟩
      · exact absurd h hne
      · rw [at_set _ _ _ _ hl2, if_neg (by omega)]
    have go : Ret (ev T 69 [.hp 0 0 15 0 0, .int .i64 i, encT t] st) fun r st' => r = outR t.k t.n L ∧ st' = List.set st2 0 (lkO m .nils ret1 v1 v2 (md2 + 1)) := by
      refine Ret_wp (fn := F69) rfl ?_
      rw [F69]
      simp [hk, q, q2, k2, lkO, kHs, hy, x1, x2, x3, y1, y2, y3, splice, outR]
    obtain ⟨r, st', h1, rfl, rfl⟩ := go
    have W13 := (W1.trans W2).trans W3
    obtain ⟨st3, f, W4, K4⟩ := out_fz hl0 R3 W13 K3 t.k t.n
    exact ⟨_, st3, callD_freE (fn := F69) rfl rfl (by simp) h1 f (by simp), W4, ret1, hy, K4⟩
  | ok tys =>
    rw [hh] at E2
    obtain ⟨p, r, b, hl, htys, hp⟩ := headT_ok hh
    rw [hl] at E2
    simp only [List.tail_cons, List.headD_cons] at E2
    have gp : good p := good_mem gt (by rw [hl]; simp)
    have gr : good r := good_mem gt (by rw [hl]; simp)
    have gb : good b := good_mem gt (by rw [hl]; simp)
    have Gt : Good tys := by
      rw [htys]
      intro u hu
      obtain ⟨w, hw, rfl⟩ := List.mem_map.1 hu
      unfold partedT at hp
      rw [List.all_eq_true] at hp
      have := hp w hw
      simp only [Bool.and_eq_true, decide_eq_true_eq] at this
      obtain ⟨x, hx⟩ := List.length_eq_one_iff.1 this.2
      rw [tyOf, hx]
      exact good_mem (good_mem gp hw) (by rw [hx]; simp)
    have hcnt : tys.length + cntTs b.l ≤ 1000000 := by
      have h1 := cntTs_len p.l
      have h2 := cnt_l p
      have h3 := cnt_l b
      have h4 := cnt_l t
      rw [hl] at h4
      simp only [cntTs] at h4
      rw [htys, List.length_map]
      omega
    obtain ⟨r3, st3, lv3, q3, W3, E3⟩ := (walk gm gr b gb).2 st2 lv2 tys at0 E2 Gt hcnt
    have hW2 : lidOf lv2 = 0 ∨ st1.length ≤ lidOf lv2 := by
      have := W2.2.1
      have e : lidOf D.nils = 0 := rfl
      omega
    have R3 : RawT st st3 L (t.l.map cleanT) := R2.keep W3.1 fun hne => by
      rcases R.lid with h | ⟨h, h'⟩
      · exact absurd h hne
      · have := W2.1
        exact W3.2.2 _ (by omega) (by omega) (by omega)
    rw [hl] at R3
    simp only [List.map_cons, List.map_nil] at R3
    obtain ⟨md2, k2⟩ := E2.h0
    have tail : ∀ (a1 e1 : Int) (l3 : List Tm), Lk m r st3 lv3 l3 a1 e1 → ∃ st', callD T (ev T) 69 [.hp 0 0 15 0 0, .int .i64 i, encT t] st = some (encT (.mk 33 t.n [] .part [cleanT p, cleanT r, r3] 0 0), st') ∧ Went st .nils st' .nils ∧ Lk m r st' .nils [] a1 e1 := by
      intro a1 e1 l3 K3
      obtain ⟨md3, k3⟩ := K3.h0
      obtain ⟨y1, y2, y3, _⟩ := K3.hw.facts
      obtain ⟨z1, z2, z3, _⟩ := E2.hw.facts
      have hl3 := K3.hl
      rcases R3 with ⟨h, _⟩ | ⟨id, mi, _, hL, hid, h2, h3⟩
      · cases h
      · simp only [List.length_cons, List.length_nil] at hL hid
        have hidn : id ≠ 0 := by omega
        have hlv3 : id ≠ lidOf lv3 := by
          have e1 := W3.2.1
          have e2 := W2.1
          have e3 : id < st1.length := by
            rcases R.lid with h | ⟨_, h'⟩
            · rw [hl] at h; simp at h
            · rw [hL] at h'; exact h'
          omega
        have K4 : Lk m r (List.set st3 id (.cells false 6 2 (mi + 1) false (encTs [cleanT p, cleanT r, r3]))) lv3 l3 a1 e1 := K3.keep (by simp) fun j _ hj => by
          rw [at_set _ _ _ _ h3, if_neg (by rcases hj with h | h <;> omega)]
        obtain ⟨K5, W5⟩ := K4.none (md3 + 1)
        have k4 : ∀ o, St.at (List.set st3 id o) 0 = lkO m lv3 r a1 e1 md3 := fun o => by rw [at_set _ _ _ _ h3, if_neg (by omega)]; exact k3
        have go : Ret (ev T 69 [.hp 0 0 15 0 0, .int .i64 i, encT t] st) fun r' st' => r' = outR t.k t.n L ∧ st' = List.set (List.set st3 id (.cells false 6 2 (mi + 1) false (encTs [cleanT p, cleanT r, r3]))) 0 (lkO m .nils r a1 e1 (md3 + 1)) := by
          refine Ret_wp (fn := F69) rfl ?_
          rw [F69]
          rw [hl] at q q2
          simp only [encTs_cons, encTs_nil] at q q2
          rw [hL] at q ⊢
          simp [hk, hl, q, q2, k2, q3, hid, k4, lkO, kHs, y1, y2, y3, z1, z2, z3, splice, outR]
          rw [encT_eq r3]
        obtain ⟨r', st', h1, rfl, rfl⟩ := go
        have hl4 : 0 < (List.set st3 id (.cells false 6 2 (mi + 1) false (encTs [cleanT p, cleanT r, r3]))).length := K4.hl
        have R5 : RawT st (List.set (List.set st3 id (.cells false 6 2 (mi + 1) false (encTs [cleanT p, cleanT r, r3]))) 0 (lkO m .nils r a1 e1 (md3 + 1))) L [cleanT p, cleanT r, r3] :=
          .inr ⟨id, mi + 1, by simp, hL, by rw [at_set _ _ _ _ hl4, if_neg hidn, at_set _ _ _ _ h3, if_pos rfl]; rfl, h2, by simpa using h3⟩
        have W14 : Went st .nils (List.set (List.set st3 id (.cells false 6 2 (mi + 1) false (encTs [cleanT p, cleanT r, r3]))) 0 (lkO m .nils r a1 e1 (md3 + 1))) .nils := by
          have W := (W1.trans W2).trans W3
          refine ⟨by have := W.1; simpa using this, .inl rfl, fun j hj hj0 hjn => ?_⟩
          rw [at_set _ _ _ _ hl4, if_neg hj0, at_set _ _ _ _ h3, if_neg (by omega)]
          exact W.2.2 j hj hj0 hjn
        obtain ⟨st6, f, W6, K6⟩ := out_fz hl0 R5 W14 K5 t.k t.n
        rw [hk] at f h1
        exact ⟨st6, callD_freE (fn := F69) rfl rfl (by simp) h1 f (by simp), W6, K6⟩
    simp only
    rw [hl]
    simp only [List.tail_cons, List.headD_cons]
    cases hq : blkT m r tys b.l with
    | ok ss =>
      rw [hq] at E3
      obtain ⟨hr3, K3⟩ := E3
      obtain ⟨st', c, W, K'⟩ := tail _ _ _ K3
      rw [hr3] at c
      exact ⟨_, st', c, W, r, rfl, K'⟩
    | error v =>
      obtain ⟨v1, v2⟩ := v
      rw [hq] at E3
      obtain ⟨hy, l', _, K3⟩ := E3
      obtain ⟨st', c, W, K'⟩ := tail _ _ _ K3
      exact ⟨_, st', c, W, r, hy, K'⟩

theorem c69 (gm : good m) (t : Tm) (gt : good t) (hb : cntT t ≤ 1000000) (i : Nat) (hi : i < 9223372036854775808) (K : Lk m ret st .nils [] at0 0) :
    ∃ r st', callD T (ev T) 69 [.hp 0 0 15 0 0, .int .i64 i, encT t] st = some (encT r, st') ∧ Dok m st at0 (declR m i t) r st' := by
  by_cases hk : t.k = 33
  · exact d_fun gm t gt hk hb i K
  · exact d_flat gm t gt hk i hi K
end Go.Nt.Ty
