/-
  THE CELLS OF TYPES BY THE REFERENCE: the walks of 'Shaped', 'Within', 'Cells'.
-/
import Derived.Test.YtknicjakdopilaaTmCells
import Derived.Test.YtknicjakdopilaaVaSets
set_option linter.unusedSimpArgs false
namespace Go.Nt.Va
open Go Go.Nt

/-- A call whose arguments are freed of the heap first. -/
theorem callD_args {f : Nat} {fn : IFunc} (hT : T f = some fn) (hm : fn.mode = .pure) {args args' : List D} {st st' : St} {q : D} (h1 : pureArgs st args = some (args', st')) (h2 : pureArgs st' args' = some (args', st'))
    (h : callD T (ev T) f args' st' = some (q, st')) : callD T (ev T) f args st = some (q, st') := by
  simp only [callD, hT, hm, h2, Option.bind_some] at h
  simp only [callD, hT, hm, h1, Option.bind_some, h]

def shapedP (p : Tm) : Bool := p.k == 34 && p.l.length == 1
def shaped (d : Tm) : Bool := d.k == 30 && (!d.l.isEmpty && d.l.all shapedP)

theorem l34 (v : Tm) (hv : v.l.length ≤ 9223372036854775807) :
    ∀ (r i : Nat) (s : List D) (bx : List (Nat × List D)), r = v.l.length - i → i ≤ v.l.length → get s 1 = .lp 1 1 0 → getB bx 1 = (1, clT v) → get s 3 = .int .i64 i →
    Stops (lp T L34_0 ⟨⟨s, bx⟩, []⟩) fun e s' _ st' => st' = [] ∧ (if (v.l.drop i).all shapedP then e = .exit 0 else e = .ret ∧ get s' 2 = .bool false) := by
  intro r
  induction r with
  | zero =>
    intro i s bx hr hi h1 b1 h3
    have e : i = v.l.length := by omega
    subst e
    rw [lp_kL, L34_0, List.drop_length]
    simp [h1, b1, h3]
  | succ r ihr =>
    intro i s bx hr hi h1 b1 h3
    rw [lp_kL, L34_0]
    have hlt : i < v.l.length := by omega
    have hw : IntKind.wrap .i64 ((i : Int) + 1) = i + 1 := by rw [wrap64] <;> omega
    rw [List.drop_eq_getElem_cons hlt, List.all_cons]
    by_cases hk : v.l[i].k = 34
    · by_cases hl : v.l[i].l.length = 1
      · have e : shapedP v.l[i] = true := by simp [shapedP, hk, hl]
        simp [h1, b1, h3, hlt, hw, hk, hl, e]
        rw [← L34_0]
        have := ihr (i + 1)
        simp only [List.all_eq_true] at this
        refine this _ _ (by omega) (by omega) ?_ b1 ?_
        iterate 2 simp [h1]
      · have e : shapedP v.l[i] = false := by simp [shapedP, hl]
        have e2 : ¬ ((v.l[i].l.length : Int) = 1) := by omega
        simp [h1, b1, h3, hlt, hw, hk, hl, e, e2]
    · have e : shapedP v.l[i] = false := by simp [shapedP, hk]
      simp [h1, b1, h3, hlt, hw, hk, e]

theorem c34 (v : Tm) (hv : v.l.length ≤ 9223372036854775807) (st : St) : callD T (ev T) 34 [encT v] st = some (.bool (shaped v), st) := by
  refine callD_pure (fn := F34) rfl rfl (by simp) (r := .bool (shaped v)) (st1 := []) (st2 := []) ?_ (by simp) (by simp)
  rw [ev_eq 34 F34 rfl, F34]
  unfold shaped
  by_cases hk : v.k = 30
  · by_cases hl : v.l = []
    · simp [hk, hl]
    · have e2 : ¬ v.l.length = 0 := by simpa using hl
      have e3 : ¬ ((v.l.length : Int) = 0) := by omega
      simp [hk, hl, e2, e3]
      refine (l34 v hv _ 0 _ _ rfl (by omega) ?_ ?_ ?_).use (fun r => kfin _ (kseq _ (kblock 0 r)) = _) ?_
      iterate 3 simp [hk]
      rintro e s' b' st ⟨rfl, h⟩
      cases hs : v.l.all shapedP with
      | true => simp [hs] at h; simp [h, hl]
      | false => simp [hs] at h; simp [h.1, h.2]
  · simp [hk]

/-- A record's cells by the reference: 'inn': the records around it. -/
def recW (m : Tm) : Nat → List Int → Int → Int
  | 0, _, _ => 0
  | r + 1, inn, n => if h : 0 ≤ n ∧ n < m.l.length then (if n ∈ inn then 0 else if shaped (m.l[n.toNat]'(by omega)) then sumM (arrM (recW m r (inn ++ [n]))) (m.l[n.toNat]'(by omega)).l 0 else 0) else 0

theorem recW_in (m : Tm) (r : Nat) (inn : List Int) (n : Int) : 0 ≤ recW m r inn n ∧ recW m r inn n ≤ 64 := by
  induction r generalizing inn n with
  | zero => simp [recW]
  | succ r ih =>
    rw [recW]
    split
    · split
      · omega
      · split
        · exact sumM_in _ (arrM_in _ (ih _)) _ _ (by omega)
        · omega
    · omega

theorem countP_lt' {α : Type} (p q : α → Bool) (l : List α) (h : ∀ x, q x = true → p x = true) (x : α) (hx : x ∈ l) (h1 : p x = true) (h2 : q x = false) : l.countP q < l.countP p := by
  induction l with
  | nil => cases hx
  | cons y l ih =>
    have hle : l.countP q ≤ l.countP p := List.countP_mono_left fun z _ => h z
    simp only [List.countP_cons]
    cases hx with
    | head => simp [h1, h2]; omega
    | tail _ hx =>
      have := ih hx
      by_cases g : q y = true
      · simp [g, h y g]; omega
      · simp [g]; split <;> omega

/-- So many records are not around. -/
def avail (m : Tm) (inn : List Int) : Nat := List.countP (fun i : Nat => !(inn.contains (i : Int))) (List.range m.l.length)

theorem avail_le (m : Tm) (inn : List Int) : avail m inn ≤ m.l.length := by
  have := List.countP_le_length (p := fun i : Nat => !(inn.contains (i : Int))) (l := List.range m.l.length)
  simpa [avail] using this

theorem avail_lt (m : Tm) (inn : List Int) (n : Int) (h : 0 ≤ n ∧ n < m.l.length) (hn : ¬ n ∈ inn) : avail m (inn ++ [n]) < avail m inn := by
  refine countP_lt' _ _ _ (fun x hx => ?_) n.toNat (by simp; omega) ?_ ?_
  · simp at hx ⊢; exact fun g => hx.1 g
  · have : (n.toNat : Int) = n := by omega
    simp [this, hn]
  · have : (n.toNat : Int) = n := by omega
    simp [this]

theorem l30 (w : List Int) (hw' : w.length ≤ 1000000) (fl : Fl) (n : Int) :
    ∀ (r i : Nat) (s : List D) (bx : List (Nat × List D)), r = w.length - i → i ≤ w.length → get s 2 = slE 1 fl (encW w) → get s 8 = .int .i64 n → get s 9 = .int .i64 i → get s 3 = .lp 3 1 0 → get s 4 = .lp 4 1 0 →
    Stops (lp T L30_0 ⟨⟨s, bx⟩, []⟩) fun e s' b' st' => st' = [] ∧ b' = bx ∧ (if n ∈ w.drop i then e = .ret ∧ get s' 6 = .int .i64 0 else e = .exit 0 ∧ get s' 2 = slE 1 fl (encW w) ∧ get s' 8 = .int .i64 n ∧ get s' 3 = .lp 3 1 0 ∧ get s' 4 = .lp 4 1 0) := by
  intro r
  induction r with
  | zero =>
    intro i s bx hr hi h2 h8 h9 h3 h4
    have e : i = w.length := by omega
    subst e
    rw [lp_kL, L30_0, List.drop_length]
    simp [h2, h8, h9, h3, h4]
  | succ r ihr =>
    intro i s bx hr hi h2 h8 h9 h3 h4
    rw [lp_kL, L30_0]
    have hlt : i < w.length := by omega
    have hw : IntKind.wrap .i64 ((i : Int) + 1) = i + 1 := by rw [wrap64] <;> omega
    have q : (n ∈ w.drop i) = (n = w[i] ∨ n ∈ w.drop (i + 1)) := by rw [List.drop_eq_getElem_cons hlt, List.mem_cons]
    simp only [q]
    by_cases hn : w[i] = n
    · simp [h2, h8, h9, h3, h4, hlt, hw, hn]
    · have hn' : ¬ n = w[i] := fun h => hn h.symm
      simp [h2, h8, h9, h3, h4, hlt, hw, hn, hn']
      rw [← L30_0]
      refine ihr (i + 1) _ _ (by omega) (by omega) ?_ ?_ ?_ ?_ ?_
      iterate 5 simp [h2, h8, h3, h4]

theorem at_set_last (st : St) (o o' : Ob) : St.at (List.set (st ++ [o]) st.length o') st.length = o' := by simp [St.at]

theorem app2 (st : St) (ds : List D) (x : D) (h : ds.length ≤ 1000000) : ∃ (r1 : D) (s1 : St) (id ver : Nat) (s2 : St), appendD st (.sl 1 true []) ds 1 = some (r1, s1) ∧ appendD s1 r1 [x] 1 = some (.rs id ver 1 0 (ds.length + 1) false, s2) ∧
    ∃ s3, fz1 s2 (.rs id ver 1 0 (ds.length + 1) false) = some (.sl 1 false (ds ++ [x]), s3) := by
  cases ds with
  | nil =>
    refine ⟨.sl 1 true [], st, st.length, 0, st ++ [.cells false 1 0 0 false [x]], ?_, ?_, List.set (st ++ [.cells false 1 0 0 false [x]]) st.length (.cells false 1 0 1 true [x]), ?_⟩
    · simp [appendD]
    · simp [appendD, most]
    · simp [at_last]
  | cons d l =>
    have h' : ¬ most < (d :: l).length := by unfold most; omega
    have h2 : l.length + 1 ≤ 4194304 := by simp at h; omega
    refine ⟨.rs st.length 0 1 0 (l.length + 1) false, st ++ [.cells false 1 0 0 false (d :: l)], st.length, 1, List.set (st ++ [.cells false 1 0 0 false (d :: l)]) st.length (.cells false 1 1 1 false (d :: l ++ [x])), ?_, ?_, List.set (List.set (st ++ [.cells false 1 0 0 false (d :: l)]) st.length (.cells false 1 1 1 false (d :: l ++ [x]))) st.length (.cells false 1 1 2 true (d :: l ++ [x])), ?_⟩
    · simp only [appendD, if_neg h']; simp [most]
    · simp [appendD, at_last, most, h2]
    · have e : List.take (l.length + 1) (l ++ [x]) = l ++ [x] := List.take_of_length_le (by simp)
      simp [at_last, e]


theorem l30b (m d : Tm) (fl : Fl) (w : List Int) (n : Int) (f : Tm → Int) (hf : ∀ t, 0 ≤ f t ∧ f t ≤ 64) (hd : d.ok) (hs : d.l.all shapedP = true) (hw' : w.length ≤ 1000000)
    (hc : ∀ t st, t.ok → callD T (ev T) 30 [encT m, encT t, slE 1 .part (encW (w ++ [n]))] st = some (.int .i64 (f t), st)) :
    ∀ (r i : Nat) (acc : Int) (s : List D) (bx : List (Nat × List D)) (st : St), r = d.l.length - i → i ≤ d.l.length → 0 ≤ acc ∧ acc ≤ 64 → get s 2 = slE 1 fl (encW w) → get s 3 = .lp 3 1 0 → getB bx 3 = (1, clT m) → get s 8 = .int .i64 n →
    get s 10 = .lp 10 1 0 → getB bx 10 = (1, clT d) → get s 11 = .int .i64 acc → get s 12 = .int .i64 i →
    Stops (lp T L30_1 ⟨⟨s, bx⟩, st⟩) fun e s' _ _ => e = .exit 2 ∧ get s' 11 = .int .i64 (sumM f (d.l.drop i) acc) ∨ e = .ret ∧ get s' 6 = .int .i64 0 ∧ sumM f (d.l.drop i) acc = 0 := by
  obtain ⟨k1, k2, k4, k5, k6, k7, k3⟩ := (Tm.ok_iff d).1 hd
  intro r
  induction r with
  | zero =>
    intro i acc s bx st hr hi ha h2 h3 b3 h8 h10 b10 h11 h12
    have e : i = d.l.length := by omega
    subst e
    rw [lp_kL, L30_1, List.drop_length]
    simp [h2, h3, b3, h8, h10, b10, h11, h12, sumM]
  | succ r ihr =>
    intro i acc s bx st hr hi ha h2 h3 b3 h8 h10 b10 h11 h12
    have hlt : i < d.l.length := by omega
    have hw : IntKind.wrap .i64 ((i : Int) + 1) = i + 1 := by rw [wrap64] <;> omega
    rw [lp_kL, L30_1, List.drop_eq_getElem_cons hlt, sumM]
    have hok := k3 _ (List.getElem_mem hlt)
    have hsh : shapedP d.l[i] = true := List.all_eq_true.1 hs _ (List.getElem_mem hlt)
    simp [shapedP] at hsh
    obtain ⟨hk, hl1⟩ := hsh
    match hl : d.l[i].l, hl1 with
    | [x], _ =>
      have hxo := ((Tm.ok_iff _).1 hok).2.2.2.2.2.2 x (by rw [hl]; simp)
      obtain ⟨r1, s1, id, ver, s2, a1, a2, s3, a3⟩ := app2 st (encW w) (.int .i64 n) (by simpa using hw')
      have hx : callD T (ev T) 30 [encT m, encT x, .rs id ver 1 0 ((encW w).length + 1) false] s2 = some (.int .i64 (f x), s3) := by
        refine callD_args (fn := F30) rfl rfl (args' := [encT m, encT x, slE 1 .part (encW (w ++ [n]))]) ?_ (by simp) (hc x s3 hxo)
        simp only [pureArgs_cons, encT_fz1, kPA_some, encT_pure, if_true, a3, pureArgs_nil]
        simp [slE]
      have hfx := hf x
      have hw2 : IntKind.wrap .i64 (acc + f x) = acc + f x := by rw [wrap64] <;> omega
      have e4 : ∀ st, srcD st 1 (slE 1 fl (encW w)) = some (encW w) := by
        intro st
        have : srcD st 1 (slE 1 fl (encW w)) = listD st 1 (slE 1 fl (encW w)) := by cases fl <;> cases w <;> rfl
        rw [this, slE_list]
      have e5 : ∀ st, srcD st 1 (.sl 1 true [.int .i64 n]) = some [.int .i64 n] := fun st => rfl
      simp only [encW, List.length_map] at a1 a2 hx e4
      by_cases h0 : f x = 0
      · have hw3 : IntKind.wrap .i64 acc = acc := by rw [wrap64] <;> omega
        simp [h2, h3, b3, h8, h10, b10, h11, h12, hlt, hk, hl, ← encT_eq, a1, a2, e4, e5, hx, h0, hw3]
      · by_cases h1 : 64 < acc + f x
        · simp [h2, h3, b3, h8, h10, b10, h11, h12, hlt, hk, hl, ← encT_eq, a1, a2, e4, e5, hx, h0, h1, hw2]
        · simp [h2, h3, b3, h8, h10, b10, h11, h12, hlt, hk, hl, ← encT_eq, a1, a2, e4, e5, hx, h0, h1, hw2, hw]
          rw [← L30_1]
          refine ihr (i + 1) (acc + f x) _ _ _ (by omega) (by omega) (by omega) ?_ ?_ b3 ?_ ?_ b10 ?_ ?_
          iterate 6 simp [h2, h3, h8, h10]


theorem c30 (m : Tm) (hm : m.ok) : ∀ (r : Nat) (w : List Int), avail m w < r → w.length + r ≤ 1000000 → ∀ (t : Tm), t.ok → ∀ (fl : Fl) (st : St),
    callD T (ev T) 30 [encT m, encT t, slE 1 fl (encW w)] st = some (.int .i64 (arrM (recW m r w) t), st) := by
  intro r
  induction r with
  | zero => intro w hw; omega
  | succ r ihr =>
    intro w hav hwr t
    obtain ⟨m1, m2, m4, m5, m6, m7, m3⟩ := (Tm.ok_iff m).1 hm
    induction t using Tm.ind with
    | h t ih =>
      intro ht fl st
      obtain ⟨k1, k2, k4, k5, k6, k7, k3⟩ := (Tm.ok_iff t).1 ht
      have go : ∃ st1, ev T 30 [encT m, encT t, slE 1 fl (encW w)] [] = some (.int .i64 (arrM (recW m (r + 1) w) t), st1) := by
        have fin : ∀ {x : Option (D × St)} {y : D}, x = some (y, []) → ∃ st1, x = some (y, st1) := fun h => ⟨[], h⟩
        rw [ev_eq 30 F30 rfl, F30, arrM_eq]
        by_cases h1 : t.k = 1
        · cases hl : t.l with
          | nil => apply fin; simp [h1, hl]
          | cons x l => apply fin; simp [h1, hl]
        · by_cases h2 : t.k = 2
          · cases hl : t.l with
            | nil => apply fin; simp [h1, h2, hl]
            | cons x l => apply fin; simp [h1, h2, hl]
          · by_cases h3 : t.k = 3
            · match hl : t.l with
              | [] => apply fin; simp [h1, h2, h3, hl]
              | x :: y :: l =>
                have e : ¬ ((l.length : Int) + 1 + 1 = 1) := by omega
                apply fin; simp [h1, h2, h3, hl, e]
              | [x] =>
                have hx := ih x (by rw [hl]; simp) (k3 x (by rw [hl]; simp)) fl []
                have hb := arrM_in _ (recW_in m (r + 1) w) x
                unfold prod
                by_cases g1 : t.n < 1
                · have g1' : ¬ 1 ≤ t.n := by omega
                  apply fin; simp [h1, h2, h3, hl, g1, g1']
                · by_cases g2 : 16 < t.n
                  · have g1' : 1 ≤ t.n := by omega
                    have g2' : ¬ t.n ≤ 16 := by omega
                    apply fin; simp [h1, h2, h3, hl, g1, g1', g2, g2']
                  · have g1' : 1 ≤ t.n := by omega
                    have g2' : t.n ≤ 16 := by omega
                    have hc : arrM (recW m (r + 1) w) x * t.n = t.n * arrM (recW m (r + 1) w) x := Int.mul_comm _ _
                    have hb1 : t.n * arrM (recW m (r + 1) w) x ≤ 16 * 64 := Int.mul_le_mul (by omega) hb.2 hb.1 (by omega)
                    have hb0 : 0 ≤ t.n * arrM (recW m (r + 1) w) x := Int.mul_nonneg (by omega) hb.1
                    have hw : IntKind.wrap .i64 (t.n * arrM (recW m (r + 1) w) x) = t.n * arrM (recW m (r + 1) w) x := by rw [wrap64] <;> omega
                    by_cases g3 : 64 < t.n * arrM (recW m (r + 1) w) x
                    · apply fin; simp [h1, h2, h3, hl, g1, g1', g2, g2', ← encT_eq, hx, hc, hw, g3]
                    · apply fin; simp [h1, h2, h3, hl, g1, g1', g2, g2', ← encT_eq, hx, hc, hw, g3]
            · by_cases h4 : t.k = 4
              · cases hl : t.l with
                | nil =>
                  by_cases g1 : t.n < 0
                  · have g : ¬ (0 ≤ t.n ∧ t.n < m.l.length) := by omega
                    rw [recW, dif_neg g]
                    apply fin; simp [h1, h2, h3, h4, hl, g1]
                  · by_cases g2 : (m.l.length : Int) ≤ t.n
                    · have g : ¬ (0 ≤ t.n ∧ t.n < m.l.length) := by omega
                      rw [recW, dif_neg g]
                      apply fin; simp [h1, h2, h3, h4, hl, g1, g2]
                    · have g : 0 ≤ t.n ∧ t.n < m.l.length := by omega
                      have g3 : t.n.toNat < m.l.length := by omega
                      rw [recW, dif_pos g]
                      simp [h1, h2, h3, h4, hl, g1, g2]
                      refine (l30 w (by omega) fl t.n _ 0 _ _ rfl (by omega) ?_ ?_ ?_ ?_ ?_).use (fun r => ∃ st1, kfin _ (kseq _ (kblock 0 r)) = some (_, st1)) ?_
                      iterate 5 simp [h1, h2, h3, h4, hl]
                      rintro e s' b' st ⟨rfl, rfl, h⟩
                      by_cases hin : t.n ∈ w
                      · simp [hin] at h
                        apply fin; simp [h.1, h.2, hin]
                      · simp [hin] at h
                        obtain ⟨rfl, q2, q8, q3, q4⟩ := h
                        have hdok := m3 _ (List.getElem_mem g3)
                        have c := c34 m.l[t.n.toNat] ((Tm.ok_iff _).1 hdok).2.2.2.2.2.1 []
                        cases hsh : shaped m.l[t.n.toNat] with
                        | false => apply fin; simp [hin, q2, q8, q3, q4, g1, g3, ← encT_eq, c, hsh]
                        | true =>
                          have hshp : m.l[t.n.toNat].l.all shapedP = true := by simp [shaped] at hsh; simpa using hsh.2.2
                          simp [hin, q2, q8, q3, q4, g1, g3, ← encT_eq, c, hsh]
                          refine (l30b m m.l[t.n.toNat] fl w t.n (arrM (recW m r (w ++ [t.n]))) (arrM_in _ (recW_in m r _)) hdok hshp (by omega) (fun t' st ht' => ihr (w ++ [t.n]) (by have := avail_lt m w t.n g hin; omega) (by simp; omega) t' ht' .part st)
                            _ 0 0 _ _ [] rfl (by omega) (by omega) ?_ ?_ ?_ ?_ ?_ ?_ ?_ ?_).use (fun r => ∃ st1, kfin _ (kseq _ (kblock 2 r)) = some (_, st1)) ?_
                          iterate 8 simp [q2, q8, q3, q4]
                          rintro e s'' b'' st'' (⟨rfl, q⟩ | ⟨rfl, q, q'⟩)
                          · simp at q; exact ⟨st'', by simp [q]⟩
                          · simp at q'; exact ⟨st'', by simp [q, q']⟩
                | cons x l => apply fin; simp [h1, h2, h3, h4, hl]
              · apply fin; simp [h1, h2, h3, h4]
      obtain ⟨st1, h⟩ := go
      exact callD_pure (fn := F30) (st2 := st1) rfl rfl (by simp) h (by simp) (by simp)


/-- A type's cells by the reference. -/
def cellsW (m t : Tm) : Int := arrM (recW m (m.l.length + 1) []) t

theorem c19 (m t : Tm) (hm : m.ok) (hb : m.l.length ≤ 1000) (ht : t.ok) (st : St) : callD T (ev T) 19 [encT m, encT t] st = some (.int .i64 (cellsW m t), st) := by
  refine callD_pure (fn := F19) rfl rfl (by simp) (r := .int .i64 (cellsW m t)) (st1 := []) (st2 := []) ?_ (by simp) (by simp)
  have h := c30 m hm (m.l.length + 1) [] (by have := avail_le m []; omega) (by simp; omega) t ht .full []
  simp [slE] at h
  rw [ev_eq 19 F19 rfl, F19]
  simp [← encT_eq, h, cellsW]

end Go.Nt.Va
