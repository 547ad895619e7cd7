/-
  THE LEXERS, WALKED (9): the reference.
  No condition.
-/
import Derived.Test.YtpfdoelhoiohdaaLkLex8
set_option linter.unusedSimpArgs false
namespace Go.Nt.Lk
open Go Go.Nt

def WD : List (List UInt8) := [[114, 101, 99], [99, 111, 110, 115, 116], [118, 97, 114], [112, 117, 98], [102, 110], [105, 110, 116], [98, 111, 111, 108], [108, 101, 116], [105, 102], [101, 108, 115, 101], [119, 104, 105, 108, 101], [102, 111, 114], [116, 111], [112, 114, 105, 110, 116], [114, 101, 116, 117, 114, 110], [100, 111], [116, 114, 117, 101], [102, 97, 108, 115, 101], [114, 101, 97, 100], [110, 101, 119]]
def SG : List (List UInt8) := [[61, 61], [33, 61], [60, 61], [62, 61], [38, 38], [124, 124], [123], [125], [40], [41], [91], [93], [44], [59], [58], [46], [61], [60], [62], [43], [45], [42], [47], [37], [33], [64]]

theorem e82 : evT T 10 82 [] [] = some (slE 1 .full (WD.map .str), []) := by kernel_rfl
theorem e84 : evT T 10 84 [] [] = some (slE 1 .full (SG.map .str), []) := by kernel_rfl
theorem c82 (st : St) : callD T (ev T) 82 [] st = some (slE 1 .full (WD.map .str), st) :=
  callD_pure (fn := F82) rfl rfl (by simp) (r := slE 1 .full (WD.map .str)) (st1 := []) (st2 := []) (lim_le (ev_mono 82 [] []) 10 _ e82) (by simp) (by simp)
theorem c84 (st : St) : callD T (ev T) 84 [] st = some (slE 1 .full (SG.map .str), st) :=
  callD_pure (fn := F84) rfl rfl (by simp) (r := slE 1 .full (SG.map .str)) (st1 := []) (st2 := []) (lim_le (ev_mono 84 [] []) 10 _ e84) (by simp) (by simp)

theorem l81 (w : List UInt8) (ws : List (List UInt8)) (hl : ws.length ≤ 8192) :
    ∀ (r i : Nat) (sl : List D) (bx : List (Nat × List D)), r = ws.length - i → i ≤ ws.length → get sl 0 = .str w → get sl 1 = slE 1 .full (ws.map .str) → get sl 5 = .int .i64 i →
    Stops (lp T L81_0 ⟨⟨sl, bx⟩, []⟩) fun e s' _ st' => st' = [] ∧ e = (if w ∈ ws.drop i then .ret else .exit 0) ∧ (w ∈ ws.drop i → get s' 4 = .bool true) := by
  intro r
  induction r with
  | zero =>
    intro i sl bx hr hi h0 h1 h5
    have e : i = ws.length := by omega
    subst e
    rw [lp_kL, L81_0, List.drop_length]
    simp [h0, h1, h5]
  | succ r ih =>
    intro i sl bx hr hi h0 h1 h5
    have hlt : i < ws.length := by omega
    rw [lp_kL, L81_0]
    have w1 : IntKind.wrap .i64 ((i : Int) + 1) = ((i + 1 : Nat) : Int) := wrap_add (n := 1) (by omega) (by omega)
    by_cases hq : ws[i] = w
    · have q : w ∈ ws.drop i := by rw [List.drop_eq_getElem_cons hlt, hq]; simp
      rw [if_pos q]
      simp [h0, h1, h5, hlt, hq, q]
    · have hq' : ¬ w = ws[i] := fun e => hq e.symm
      have q : (w ∈ ws.drop i) = (w ∈ ws.drop (i + 1)) := by rw [List.drop_eq_getElem_cons hlt, List.mem_cons]; simp [hq']
      simp only [q]
      simp [h0, h1, h5, hlt, hq, w1, -Int.natCast_add]
      rw [← L81_0]
      refine (ih (i + 1) _ _ (by omega) (by omega) ?_ ?_ ?_) <;> simp [h0, h1]

theorem word_mem (s : List UInt8) : isWordB s = decide (s ∈ WD) := by
  simp [isWordB, WD, Bool.or_assoc]

theorem c81 (s : List UInt8) (st : St) : callD T (ev T) 81 [.str s, slE 1 .full (WD.map .str)] st = some (.bool (isWordB s), st) := by
  refine callD_pure (fn := F81) rfl rfl (by simp [WD]) (r := .bool (isWordB s)) (st1 := []) (st2 := []) ?_ (by simp) (by simp)
  rw [ev_eq 81 F81 rfl, F81]
  simp
  refine (l81 s WD (by decide) _ 0 _ _ rfl (by omega) ?_ ?_ ?_).use (fun r => kfin _ (kseq _ (kblock 0 r)) = _) ?_
  · simp
  · simp
  · simp
  · rintro e s' b' st' ⟨rfl, rfl, h⟩
    rw [List.drop_zero] at h ⊢
    rw [word_mem]
    by_cases hm : s ∈ WD
    · simp [hm, h hm]
    · simp [hm]

def beginsB (s : List UInt8) (a : Nat) (p : List UInt8) : Bool := decide (a + p.length ≤ s.length) && decide (seg s a (a + p.length) = p)

def Q42 (a : Nat) (cs : List D) (g : Nat) (o : Option (List UInt8)) (e : Ex) (s' : List D) (b' : List (Nat × List D)) (st' : St) : Prop :=
  st' = [] ∧ get s' 4 = .lp 4 g 0 ∧ match o with
    | some p => e = .ret ∧ get s' 5 = .i 0 ∧ getB b' 4 = (g, (Tok.enc ⟨4, 0, p, a, a + p.length⟩).cells)
    | none => e = .exit 4 ∧ getB b' 4 = (g, cs)

theorem l42_2 (s : List UInt8) (hs : s.length ≤ 8192) (a : Nat) (ha : a < s.length) (ws : List (List UInt8)) (hl : ws.length ≤ 8192) (hw : ∀ p, p ∈ ws → p.length ≤ 8192) (cs : List D) (hcs : cs.length = 5) (g : Nat) :
    ∀ (r i : Nat) (sl : List D) (bx : List (Nat × List D)), r = ws.length - i → i ≤ ws.length → get sl 0 = .str s → get sl 1 = .int .i64 a → get sl 11 = slE 1 .full (ws.map .str) → get sl 12 = .int .i64 i → get sl 4 = .lp 4 g 0 → getB bx 4 = (g, cs) →
    Stops (lp T L42_2 ⟨⟨sl, bx⟩, []⟩) (Q42 a cs g ((ws.drop i).find? (beginsB s a))) := by
  intro r
  induction r with
  | zero =>
    intro i sl bx hr hi h0 h1 h11 h12 h4 hb
    have e : i = ws.length := by omega
    subst e
    rw [lp_kL, L42_2, List.drop_length, List.find?_nil]
    simp [h0, h1, h11, h12, h4]
    exact ⟨rfl, by simp [h4], rfl, hb⟩
  | succ r ih =>
    intro i sl bx hr hi h0 h1 h11 h12 h4 hb
    have hlt : i < ws.length := by omega
    rw [lp_kL, L42_2, List.drop_eq_getElem_cons hlt]
    have w1 : IntKind.wrap .i64 ((i : Int) + 1) = ((i + 1 : Nat) : Int) := wrap_add (n := 1) (by omega) (by omega)
    have hp := hw ws[i] (List.getElem_mem hlt)
    have q1 := c78 s ws[i] a (by omega) hs hp []
    have e1 : beginsB s a ws[i] = (decide (a + ws[i].length ≤ s.length) && decide (seg s a (a + ws[i].length) = ws[i])) := rfl
    rw [← e1] at q1
    have w2 : IntKind.wrap .i64 ((a : Int) + ws[i].length) = ((a + ws[i].length : Nat) : Int) := wrap_add (by omega) (by omega)
    cases hq : beginsB s a ws[i] with
    | true =>
      rw [hq] at q1
      rw [List.find?_cons_of_pos hq]
      have hcs' : 5 ≤ cs.length := by omega
      simp [h0, h1, h11, h12, h4, hb, hlt, q1, w1, w2, hcs', -Int.natCast_add, splice, kSt]
      refine ⟨rfl, by simp [h4], rfl, by simp, ?_⟩
      simp [hcs, List.drop_of_length_le]
    | false =>
      rw [hq] at q1
      rw [List.find?_cons_of_neg (by simp [hq])]
      simp [h0, h1, h11, h12, h4, hb, hlt, q1, w1, -Int.natCast_add]
      rw [← L42_2]
      refine ih (i + 1) _ _ (by omega) (by omega) ?_ ?_ ?_ ?_ ?_ hb <;> simp [h0, h1, h11, h4]

theorem seg_one (s : List UInt8) (a : Nat) (h : a < s.length) : seg s a (a + 1) = [s[a]] := by
  unfold seg
  rw [List.drop_take, show a + 1 - a = 1 by omega, List.drop_eq_getElem_cons h]
  rfl

theorem ch_inj {c d : UInt8} : (ch c = ch d) = (c = d) := propext ⟨fun h => UInt8.toNat_inj.1 (by have h' : (c.toNat : Int) = d.toNat := h; omega), fun h => by rw [h]⟩

theorem begins1 (s : List UInt8) (a : Nat) (h : a < s.length) (x : UInt8) : beginsB s a [x] = decide (ch s[a] = ch x) := by
  unfold beginsB
  rw [List.length_singleton, seg_one s a h, decide_eq_true (show a + 1 ≤ s.length by omega), Bool.true_and]
  simp only [ch_inj]
  simp

theorem begins2 (s : List UInt8) (a : Nat) (h : a < s.length) (x y : UInt8) (hy : ch y ≠ 0) : beginsB s a [x, y] = (decide (ch s[a] = ch x) && decide (chAt s (a + 1) = ch y)) := by
  unfold beginsB chAt
  rcases Nat.lt_or_ge (a + 1) s.length with g | g
  · have e : seg s a (a + 2) = [s[a], s[a + 1]] := by
      unfold seg
      rw [List.drop_take, show a + 2 - a = 2 by omega, List.drop_eq_getElem_cons h, List.drop_eq_getElem_cons g]
      rfl
    rw [List.getElem?_eq_getElem g]
    simp only [List.length_cons, List.length_nil, Nat.zero_add, Nat.reduceAdd, e, ch_inj]
    have : a + 2 ≤ s.length := by omega
    simp [this, Bool.decide_and]
  · rw [List.getElem?_eq_none g]
    have : ¬ a + 2 ≤ s.length := by omega
    have hy' : ¬ 0 = ch y := fun e => hy e.symm
    simp [this, hy']

theorem find_len (s : List UInt8) (a : Nat) (h : a < s.length) :
    (match SG.find? (beginsB s a) with | some p => p.length | none => 0) = signN (ch s[a]) (chAt s (a + 1)) ∧ ∀ p, SG.find? (beginsB s a) = some p → p ≠ [] ∧ p = seg s a (a + p.length) := by
  constructor
  · unfold SG
    simp only [List.find?_cons, List.find?_nil, begins1 s a h, begins2 s a h _ 61 (by decide), begins2 s a h _ 38 (by decide), begins2 s a h _ 124 (by decide)]
    generalize ch s[a] = c
    generalize chAt s (a + 1) = d
    have hch : ch 61 = 61 ∧ ch 33 = 33 ∧ ch 60 = 60 ∧ ch 62 = 62 ∧ ch 38 = 38 ∧ ch 124 = 124 ∧ ch 123 = 123 ∧ ch 125 = 125 ∧ ch 40 = 40 ∧ ch 41 = 41 ∧ ch 91 = 91 ∧ ch 93 = 93 ∧ ch 44 = 44 ∧ ch 59 = 59 ∧ ch 58 = 58 ∧ ch 46 = 46 ∧ ch 43 = 43 ∧ ch 45 = 45 ∧ ch 42 = 42 ∧ ch 47 = 47 ∧ ch 37 = 37 ∧ ch 64 = 64 := by decide
    simp only [hch]
    unfold signN
    clear hch
    by_cases h61 : c = 61
    · by_cases q : d = 61 <;> simp [h61, q]
    by_cases h33 : c = 33
    · by_cases q : d = 61 <;> simp [h33, q]
    by_cases h60 : c = 60
    · by_cases q : d = 61 <;> simp [h60, q]
    by_cases h62 : c = 62
    · by_cases q : d = 61 <;> simp [h62, q]
    by_cases h38 : c = 38
    · by_cases q : d = 38 <;> simp [h38, q]
    by_cases h124 : c = 124
    · by_cases q : d = 124 <;> simp [h124, q]
    by_cases h123 : c = 123
    · simp [h123]
    by_cases h125 : c = 125
    · simp [h125]
    by_cases h40 : c = 40
    · simp [h40]
    by_cases h41 : c = 41
    · simp [h41]
    by_cases h91 : c = 91
    · simp [h91]
    by_cases h93 : c = 93
    · simp [h93]
    by_cases h44 : c = 44
    · simp [h44]
    by_cases h59 : c = 59
    · simp [h59]
    by_cases h58 : c = 58
    · simp [h58]
    by_cases h46 : c = 46
    · simp [h46]
    by_cases h43 : c = 43
    · simp [h43]
    by_cases h45 : c = 45
    · simp [h45]
    by_cases h42 : c = 42
    · simp [h42]
    by_cases h47 : c = 47
    · simp [h47]
    by_cases h37 : c = 37
    · simp [h37]
    by_cases h64 : c = 64
    · simp [h64]
    simp [h61, h33, h60, h62, h38, h124, h123, h125, h40, h41, h91, h93, h44, h59, h58, h46, h43, h45, h42, h47, h37, h64]
  · intro p hp
    have h1 := List.find?_some hp
    have h2 := List.mem_of_find?_eq_some hp
    constructor
    · intro e; subst e; revert h2; decide
    · simp only [beginsB, Bool.and_eq_true, decide_eq_true_eq] at h1
      exact h1.2.symm

end Go.Nt.Lk
