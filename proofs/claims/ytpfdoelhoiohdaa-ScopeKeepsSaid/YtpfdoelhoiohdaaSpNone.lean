/-
  ROWS THAT GROW from an empty one, in any heap.
  No condition; of no program.
-/
import Derived.Test.YtpfdoelhoiohdaaSpGot
import Derived.Test.YtpfdoelhoiohdaaSpKept
import Derived.Test.YtpfdoelhoiohdaaSpRes2
set_option linter.unusedSimpArgs false
namespace Go.Nt
open Go

def idOf : D → Nat
  | .rs id _ _ _ _ _ => id
  | _ => 0

/-- A row of so many elements that began as an empty one. -/
def RawX (sz : Nat) (st : St) (L : D) (l : List D) : Prop :=
  (l = [] ∧ L = .sl sz true []) ∨ ∃ id md, l ≠ [] ∧ L = .rs id (l.length - 1) sz 0 l.length false ∧ St.at st id = .cells false sz (l.length - 1) md false l ∧ id < st.length
theorem RawX.nil (sz : Nat) (st : St) : RawX sz st (.sl sz true []) [] := .inl ⟨rfl, rfl⟩
theorem RawX.facts {sz : Nat} {st : St} {L : D} {l : List D} (h : RawX sz st L l) : L.okv = true ∧ L.cells = [L] ∧ L.fits none = true ∧ ∀ st' q, lenD st' .slice L q = some (.i l.length) := by
  rcases h with ⟨rfl, rfl⟩ | ⟨id, md, _, rfl, _, _⟩
  · exact ⟨rfl, rfl, rfl, fun _ _ => rfl⟩
  · exact ⟨rfl, rfl, rfl, fun _ _ => rfl⟩
theorem RawX.keep {sz : Nat} {st st' : St} {L : D} {l : List D} (h : RawX sz st L l) (hl : st.length ≤ st'.length) (ha : l ≠ [] → St.at st' (idOf L) = St.at st (idOf L)) : RawX sz st' L l := by
  rcases h with h | ⟨id, md, h0, rfl, h1, h2⟩
  · exact .inl h
  · exact .inr ⟨id, md, h0, rfl, by rw [← h1]; exact ha h0, by omega⟩
theorem RawX.app {sz : Nat} (hz : 1 ≤ sz) (hz2 : sz ≤ 64) {st : St} {L : D} {l : List D} (h : RawX sz st L l) (hb : l.length ≤ 1000000) (x : D) :
    ∃ L' st', appendD st L [x] sz = some (L', st') ∧ RawX sz st' L' (l ++ [x]) ∧ st.length ≤ st'.length ∧ (∀ i, i < st.length → (l = [] ∨ i ≠ idOf L) → St.at st' i = St.at st i) ∧ (idOf L' = idOf L ∧ l ≠ [] ∨ l = [] ∧ idOf L' = st.length) := by
  rcases h with ⟨rfl, rfl⟩ | ⟨id, md, h0, rfl, h1, h3⟩
  · refine ⟨.rs st.length 0 sz 0 1 false, st ++ [.cells false sz 0 0 false [x]], by simp [appendD, most], .inr ⟨st.length, 0, by simp, by simp, by simp [at_last], by simp⟩, by simp, fun i hi _ => at_lt _ _ hi, .inr ⟨rfl, rfl⟩⟩
  · have hp : 0 < l.length := List.length_pos_iff.2 h0
    have e1 : l.length - 1 + 1 = l.length := by omega
    have ht : l.length < tagB := by unfold tagB; omega
    have hm : l.length ≤ most := by unfold most; omega
    refine ⟨.rs id l.length sz 0 (l.length + 1) false, List.set st id (.cells false sz l.length (md + 1) false (l ++ [x])), ?_, .inr ⟨id, md + 1, by simp, by simp, ?_, by simpa using h3⟩, by simp, fun i hi hne => ?_, .inl ⟨rfl, h0⟩⟩
    · have e2 : List.take l.length l = l := List.take_of_length_le (by simp)
      have hm2 : l.length ≤ 134217728 := by omega
      simp [appendD, h1, ht, hm, hm2, most, e1, e2]
    · rw [at_set _ _ _ _ h3, if_pos rfl]; simp
    · rw [at_set _ _ _ _ h3, if_neg (by rcases hne with q | q; exact absurd q h0; exact q)]
/-- The row, not written any more. -/
theorem RawX.fz {sz : Nat} {st : St} {L : D} {l : List D} (h : RawX sz st L l) : ∃ st', fz0 st L = some (slE sz .emp l, st') ∧ st'.length = st.length ∧ ∀ i, (l = [] ∨ i ≠ idOf L) → St.at st' i = St.at st i := by
  rcases h with ⟨rfl, rfl⟩ | ⟨id, md, h0, rfl, h1, h3⟩
  · exact ⟨st, rfl, rfl, fun _ _ => rfl⟩
  · refine ⟨List.set st id (.cells false sz (l.length - 1) (md + 1) true l), ?_, by simp, fun i hi => by rw [at_set _ _ _ _ h3, if_neg (by rcases hi with q | q; exact absurd q h0; exact q)]⟩
    have e2 : List.take l.length l = l := List.take_of_length_le (by simp)
    have e3 : slE sz .emp l = .sl sz false l := by cases l with | nil => exact absurd rfl h0 | cons a b => rfl
    rw [fz0_rs, h1, e3]
    simp [e2]
theorem RawX.lid {sz : Nat} {st : St} {L : D} {l : List D} (h : RawX sz st L l) : l = [] ∨ idOf L < st.length := by
  rcases h with ⟨rfl, _⟩ | ⟨id, md, _, rfl, _, h3⟩
  · exact .inl rfl
  · exact .inr h3
/-- Freeing what stands in a slice's place. -/
theorem RawX.fz1 {sz : Nat} {st : St} {L : D} {l : List D} (h : RawX sz st L l) : fz1 st L = fz0 st L := by
  rcases h with ⟨rfl, rfl⟩ | ⟨id, md, _, rfl, _, _⟩ <;> rfl
/-- The row, not written any more, also if it was so. -/
theorem RawX.fz2 {sz : Nat} {st : St} {L : D} {l : List D} (h : RawX sz st L l) : ∃ st', fz0 st L = some (slE sz .emp l, st') ∧ fz0 st' L = some (slE sz .emp l, st') ∧ st'.length = st.length := by
  rcases h with ⟨rfl, rfl⟩ | ⟨id, md, h0, rfl, h1, h3⟩
  · exact ⟨st, rfl, rfl, rfl⟩
  · have e2 : List.take l.length l = l := List.take_of_length_le (by simp)
    have e3 : slE sz .emp l = .sl sz false l := by cases l with | nil => exact absurd rfl h0 | cons a b => rfl
    refine ⟨List.set st id (.cells false sz (l.length - 1) (md + 1) true l), ?_, ?_, by simp⟩
    · rw [fz0_rs, h1, e3]
      simp [e2]
    · rw [fz0_rs, at_set _ _ _ _ h3, if_pos rfl, e3]
      simp [e2]

/-- A row of so many elements that began as nil. -/
def RawN (sz : Nat) (st : St) (L : D) (l : List D) : Prop :=
  (l = [] ∧ L = .nils) ∨ ∃ id md, l ≠ [] ∧ L = .rs id (l.length - 1) sz 0 l.length false ∧ St.at st id = .cells false sz (l.length - 1) md false l ∧ id < st.length
theorem RawN.nil (sz : Nat) (st : St) : RawN sz st .nils [] := .inl ⟨rfl, rfl⟩
theorem RawN.facts {sz : Nat} {st : St} {L : D} {l : List D} (h : RawN sz st L l) : L.okv = true ∧ L.cells = [L] ∧ L.fits none = true ∧ ∀ st' q, lenD st' .slice L q = some (.i l.length) := by
  rcases h with ⟨rfl, rfl⟩ | ⟨id, md, _, rfl, _, _⟩
  · exact ⟨rfl, rfl, rfl, fun _ _ => rfl⟩
  · exact ⟨rfl, rfl, rfl, fun _ _ => rfl⟩
theorem RawN.keep {sz : Nat} {st st' : St} {L : D} {l : List D} (h : RawN sz st L l) (hl : st.length ≤ st'.length) (ha : l ≠ [] → St.at st' (idOf L) = St.at st (idOf L)) : RawN sz st' L l := by
  rcases h with h | ⟨id, md, h0, rfl, h1, h2⟩
  · exact .inl h
  · exact .inr ⟨id, md, h0, rfl, by rw [← h1]; exact ha h0, by omega⟩
theorem RawN.app {sz : Nat} {st : St} {L : D} {l : List D} (h : RawN sz st L l) (hb : l.length ≤ 1000000) (x : D) :
    ∃ L' st', appendD st L [x] sz = some (L', st') ∧ RawN sz st' L' (l ++ [x]) ∧ st.length ≤ st'.length ∧ (∀ i, i < st.length → (l = [] ∨ i ≠ idOf L) → St.at st' i = St.at st i) ∧ (idOf L' = idOf L ∧ l ≠ [] ∨ l = [] ∧ idOf L' = st.length) := by
  rcases h with ⟨rfl, rfl⟩ | ⟨id, md, h0, rfl, h1, h3⟩
  · refine ⟨.rs st.length 0 sz 0 1 false, st ++ [.cells false sz 0 0 false [x]], by simp [appendD, most], .inr ⟨st.length, 0, by simp, by simp, by simp [at_last], by simp⟩, by simp, fun i hi _ => at_lt _ _ hi, .inr ⟨rfl, rfl⟩⟩
  · have hp : 0 < l.length := List.length_pos_iff.2 h0
    have e1 : l.length - 1 + 1 = l.length := by omega
    have ht : l.length < tagB := by unfold tagB; omega
    have hm : l.length ≤ most := by unfold most; omega
    refine ⟨.rs id l.length sz 0 (l.length + 1) false, List.set st id (.cells false sz l.length (md + 1) false (l ++ [x])), ?_, .inr ⟨id, md + 1, by simp, by simp, ?_, by simpa using h3⟩, by simp, fun i hi hne => ?_, .inl ⟨rfl, h0⟩⟩
    · have e2 : List.take l.length l = l := List.take_of_length_le (by simp)
      have hm2 : l.length ≤ 134217728 := by omega
      simp [appendD, h1, ht, hm, hm2, most, e1, e2]
    · rw [at_set _ _ _ _ h3, if_pos rfl]; simp
    · rw [at_set _ _ _ _ h3, if_neg (by rcases hne with q | q; exact absurd q h0; exact q)]
/-- The row, not written any more, also if it was so. -/
theorem RawN.fz {sz : Nat} {st : St} {L : D} {l : List D} (h : RawN sz st L l) : ∃ st', fz0 st L = some (slE sz .nil l, st') ∧ fz0 st' L = some (slE sz .nil l, st') ∧ st'.length = st.length ∧ ∀ i, (l = [] ∨ i ≠ idOf L) → St.at st' i = St.at st i := by
  rcases h with ⟨rfl, rfl⟩ | ⟨id, md, h0, rfl, h1, h3⟩
  · exact ⟨st, rfl, rfl, rfl, fun _ _ => rfl⟩
  · have e2 : List.take l.length l = l := List.take_of_length_le (by simp)
    have e3 : slE sz .nil l = .sl sz false l := by cases l with | nil => exact absurd rfl h0 | cons a b => rfl
    refine ⟨List.set st id (.cells false sz (l.length - 1) (md + 1) true l), ?_, ?_, by simp, fun i hi => by rw [at_set _ _ _ _ h3, if_neg (by rcases hi with q | q; exact absurd q h0; exact q)]⟩
    · rw [fz0_rs, h1, e3]
      simp [e2]
    · rw [fz0_rs, at_set _ _ _ _ h3, if_pos rfl, e3]
      simp [e2]
theorem RawN.fz1 {sz : Nat} {st : St} {L : D} {l : List D} (h : RawN sz st L l) : fz1 st L = fz0 st L := by
  rcases h with ⟨rfl, rfl⟩ | ⟨id, md, _, rfl, _, _⟩ <;> rfl
end Go.Nt

/-
  TERMS THAT ARE ALIKE, by the reference and by the laws.
  No condition.
-/
set_option linter.unusedSimpArgs false
set_option maxRecDepth 20000
namespace Go.Nt.Lk
open Go Go.Nt

/-! ### Placed -/
theorem l15 (a b : Tm) (hb : a.l.length ≤ 1000000) (hl : b.l.length = a.l.length) (hc : ∀ i (h : i < a.l.length) st, callD T (ev T) 15 [encT a.l[i], encT (b.l[i]'(by omega))] st = some (.bool true, st)) :
    ∀ (r i : Nat) (s : List D) (bx : List (Nat × List D)) (st : St), r = a.l.length - i → i ≤ a.l.length → get s 2 = .lp 2 1 0 → getB bx 2 = (1, clT a) → get s 3 = .lp 3 1 0 → getB bx 3 = (1, clT b) → get s 5 = .int .i64 i →
    Stops (lp T L15_0 ⟨⟨s, bx⟩, st⟩) fun e _ _ _ => e = .exit 0 := by
  intro r
  induction r with
  | zero =>
    intro i s bx st hr hi h2 b2 h3 b3 h5
    have e : i = a.l.length := by omega
    refine Stops_wp L15_0.eq_1 ?_
    simp [h2, b2, h3, b3, h5, e]
  | succ r ih =>
    intro i s bx st hr hi h2 b2 h3 b3 h5
    have hlt : i < a.l.length := by omega
    have hlb : i < b.l.length := by omega
    have hw : IntKind.wrap .i64 ((i : Int) + 1) = ((i + 1 : Nat) : Int) := by rw [wrap64] <;> omega
    have q := hc i hlt
    have nx := fun s' bx' => ih (i + 1) s' bx' st (by omega) (by omega)
    refine Stops_wp L15_0.eq_1 ?_
    simp [h2, b2, h3, b3, h5, hlt, hlb, hw, ← encT_eq, q, splice, fillD, -Int.natCast_add]
    refine nx _ _ ?_ ?_ ?_ ?_ ?_ <;> simp [h2, b2, h3, b3]

theorem c15 (a : Tm) : ∀ b, cntT a ≤ 1000000 → unf a = unf b → ∀ st, callD T (ev T) 15 [encT a, encT b] st = some (.bool true, st) := by
  induction a using Tm.ind with
  | h a ih =>
    intro b hb hu st
    have hct := cntT_eq a
    have hcl := cntTs_len a.l
    rw [unf_eq, unf_eq b] at hu
    simp only [Tm.mk.injEq, true_and] at hu
    obtain ⟨e1, e2, e3, e4, e5, e6⟩ := hu
    have hl : b.l.length = a.l.length := by have := congrArg List.length e4; simpa using this.symm
    have lo := fun s bx st => l15 a b (by omega) hl (fun i h st => by
      have hm := List.getElem_mem h
      refine ih _ hm _ (by have := cntTs_mem hm; omega) ?_ st
      have := congrArg (fun l => l[i]?) e4
      simp only [List.getElem?_map, List.getElem?_eq_getElem h, List.getElem?_eq_getElem (show i < b.l.length by omega), Option.map_some, Option.some.injEq] at this
      exact this) a.l.length 0 s bx st (by omega) (by omega)
    refine callD_pureQ (fn := F15) rfl rfl (by simp) (by simp) (by intro; rfl) ?_
    refine Ret_wp (fn := F15) rfl ?_
    rw [F15]
    simp [e1, e2, e3, e5, e6, hl, splice, fillD]
    refine WL.use L15_0_p L15_0_w (lo _ _ _ ?_ ?_ ?_ ?_ ?_) ?_
    iterate 5 simp [e1, e2, e3, e5, e6]
    rintro e s' b' st' rfl hf
    simp

/-! ### Same -/
theorem l18 (a : Tm) (hb : a.l.length ≤ 1000000) (hc : ∀ u, u ∈ a.l → ∀ st, callD T (ev T) 18 [encT u, encT u] st = some (.bool true, st)) :
    ∀ (r i : Nat) (s : List D) (bx : List (Nat × List D)) (st : St), r = a.l.length - i → i ≤ a.l.length → get s 2 = .lp 2 1 0 → getB bx 2 = (1, clT a) → get s 3 = .lp 3 1 0 → getB bx 3 = (1, clT a) → get s 5 = .int .i64 i →
    Stops (lp T L18_0 ⟨⟨s, bx⟩, st⟩) fun e _ _ _ => e = .exit 0 := by
  intro r
  induction r with
  | zero =>
    intro i s bx st hr hi h2 b2 h3 b3 h5
    have e : i = a.l.length := by omega
    refine Stops_wp L18_0.eq_1 ?_
    simp [h2, b2, h3, b3, h5, e]
  | succ r ih =>
    intro i s bx st hr hi h2 b2 h3 b3 h5
    have hlt : i < a.l.length := by omega
    have hw : IntKind.wrap .i64 ((i : Int) + 1) = ((i + 1 : Nat) : Int) := by rw [wrap64] <;> omega
    have q := hc _ (List.getElem_mem hlt)
    have nx := fun s' bx' => ih (i + 1) s' bx' st (by omega) (by omega)
    refine Stops_wp L18_0.eq_1 ?_
    simp [h2, b2, h3, b3, h5, hlt, hw, ← encT_eq, q, splice, fillD, -Int.natCast_add]
    refine nx _ _ ?_ ?_ ?_ ?_ ?_ <;> simp [h2, b2, h3, b3]

theorem c18 (a : Tm) : cntT a ≤ 1000000 → ∀ st, callD T (ev T) 18 [encT a, encT a] st = some (.bool true, st) := by
  induction a using Tm.ind with
  | h a ih =>
    intro hb st
    have hct := cntT_eq a
    have hcl := cntTs_len a.l
    have lo := fun s bx st => l18 a (by omega) (fun u hm st => ih u hm (by have := cntTs_mem hm; omega) st) a.l.length 0 s bx st (by omega) (by omega)
    refine callD_pureQ (fn := F18) rfl rfl (by simp) (by simp) (by intro; rfl) ?_
    refine Ret_wp (fn := F18) rfl ?_
    rw [F18]
    simp [splice, fillD]
    refine WL.use L18_0_p L18_0_w (lo _ _ _ ?_ ?_ ?_ ?_ ?_) ?_
    iterate 5 simp
    rintro e s' b' st' rfl hf
    simp

/-! ### kept -/
theorem l20 (a b : Tm) (hb : a.l.length ≤ 1000000) (hl : b.l.length = a.l.length) (hc : ∀ i (h : i < a.l.length) st, callD T (ev T) 20 [encT a.l[i], encT (b.l[i]'(by omega))] st = some (.bool true, st)) :
    ∀ (r i : Nat) (s : List D) (bx : List (Nat × List D)) (st : St), r = a.l.length - i → i ≤ a.l.length → get s 2 = .lp 2 1 0 → getB bx 2 = (1, clT a) → get s 3 = .lp 3 1 0 → getB bx 3 = (1, clT b) → get s 5 = .int .i64 i →
    Stops (lp T L20_0 ⟨⟨s, bx⟩, st⟩) fun e _ _ _ => e = .exit 0 := by
  intro r
  induction r with
  | zero =>
    intro i s bx st hr hi h2 b2 h3 b3 h5
    have e : i = a.l.length := by omega
    refine Stops_wp L20_0.eq_1 ?_
    simp [h2, b2, h3, b3, h5, e]
  | succ r ih =>
    intro i s bx st hr hi h2 b2 h3 b3 h5
    have hlt : i < a.l.length := by omega
    have hlb : i < b.l.length := by omega
    have hw : IntKind.wrap .i64 ((i : Int) + 1) = ((i + 1 : Nat) : Int) := by rw [wrap64] <;> omega
    have q := hc i hlt
    have nx := fun s' bx' => ih (i + 1) s' bx' st (by omega) (by omega)
    refine Stops_wp L20_0.eq_1 ?_
    simp [h2, b2, h3, b3, h5, hlt, hlb, hw, ← encT_eq, q, splice, fillD, -Int.natCast_add]
    refine nx _ _ ?_ ?_ ?_ ?_ ?_ <;> simp [h2, b2, h3, b3]

theorem keptTs_iff : ∀ (l k : List Tm), keptT.keptTs l k = true → k.length = l.length ∧ ∀ i (h : i < l.length) (h' : i < k.length), keptT l[i] k[i] = true
  | [], [], _ => ⟨rfl, fun i h => by cases h⟩
  | [], _ :: _, h => by cases h
  | _ :: _, [], h => by cases h
  | a :: l, b :: k, h => by
    simp only [keptT.keptTs, Bool.and_eq_true] at h
    obtain ⟨i1, i2⟩ := keptTs_iff l k h.2
    refine ⟨by simp [i1], fun i h1 h2 => ?_⟩
    cases i with
    | zero => exact h.1
    | succ i => exact i2 i (by simpa using h1) (by simpa using h2)

theorem c20 (a : Tm) : ∀ b, cntT a ≤ 1000000 → keptT a b = true → ∀ st, callD T (ev T) 20 [encT a, encT b] st = some (.bool true, st) := by
  induction a using Tm.ind with
  | h a ih =>
    intro b hb hu st
    have hct := cntT_eq a
    have hcl := cntTs_len a.l
    obtain ⟨e1, e2, e3, e4, e5, e6⟩ := (keptT_iff _ _).1 hu
    obtain ⟨hl, e7⟩ := keptTs_iff _ _ e6
    have lo := fun s bx st => l20 a b (by omega) hl (fun i h st => by
      have hm := List.getElem_mem h
      exact ih _ hm _ (by have := cntTs_mem hm; omega) (e7 i h (by omega)) st) a.l.length 0 s bx st (by omega) (by omega)
    refine callD_pureQ (fn := F20) rfl rfl (by simp) (by simp) (by intro; rfl) ?_
    refine Ret_wp (fn := F20) rfl ?_
    rw [F20]
    have e3 := eq_false e3
    have e5 : b.s = [] ∨ (b.s ≠ [] ∧ b.k = 13) ∨ (b.s ≠ [] ∧ b.k = 17) ∨ (b.s ≠ [] ∧ b.k = 34) := by
      by_cases c : b.s = []
      · exact .inl c
      · exact .inr ((e5.resolve_left c).imp (fun h => ⟨c, h⟩) fun h => h.imp (fun h => ⟨c, h⟩) fun h => ⟨c, h⟩)
    have e4 : a.k = 19 ∨ (a.k ≠ 19 ∧ a.k = b.k) := by
      by_cases c : a.k = 19
      · exact .inl c
      · exact .inr ⟨c, e4.resolve_left c⟩
    rcases e4 with e4 | ⟨e4, f4⟩
    · have g4 := eq_true e4
      rcases e5 with e5 | ⟨e5, f5⟩ | ⟨e5, f5⟩ | ⟨e5, f5⟩
      · have g5 := eq_true e5
        simp [e1, e2, e3, g4, g5, hl, splice, fillD]
        refine WL.use L20_0_p L20_0_w (lo _ _ _ ?_ ?_ ?_ ?_ ?_) ?_
        iterate 5 simp [e1, e2]
        rintro e s' b' st' rfl hf
        simp
      · have g5 := eq_false e5
        have g6 := eq_true f5
        simp [e1, e2, e3, g4, g5, g6, hl, splice, fillD]
        refine WL.use L20_0_p L20_0_w (lo _ _ _ ?_ ?_ ?_ ?_ ?_) ?_
        iterate 5 simp [e1, e2]
        rintro e s' b' st' rfl hf
        simp
      · have g5 := eq_false e5
        have g6 := eq_true f5
        have n13 : (b.k = 13) = False := eq_false (by omega)
        simp [e1, e2, e3, g4, g5, g6, n13, hl, splice, fillD]
        refine WL.use L20_0_p L20_0_w (lo _ _ _ ?_ ?_ ?_ ?_ ?_) ?_
        iterate 5 simp [e1, e2]
        rintro e s' b' st' rfl hf
        simp
      · have g5 := eq_false e5
        have g6 := eq_true f5
        have n13 : (b.k = 13) = False := eq_false (by omega)
        have n17 : (b.k = 17) = False := eq_false (by omega)
        simp [e1, e2, e3, g4, g5, g6, n13, n17, hl, splice, fillD]
        refine WL.use L20_0_p L20_0_w (lo _ _ _ ?_ ?_ ?_ ?_ ?_) ?_
        iterate 5 simp [e1, e2]
        rintro e s' b' st' rfl hf
        simp
    · have g4 := eq_false e4
      have g4' := eq_true f4
      rcases e5 with e5 | ⟨e5, f5⟩ | ⟨e5, f5⟩ | ⟨e5, f5⟩
      · have g5 := eq_true e5
        simp [e1, e2, e3, g4, g4', g5, hl, splice, fillD]
        refine WL.use L20_0_p L20_0_w (lo _ _ _ ?_ ?_ ?_ ?_ ?_) ?_
        iterate 5 simp [e1, e2]
        rintro e s' b' st' rfl hf
        simp
      · have g5 := eq_false e5
        have g6 := eq_true f5
        simp [e1, e2, e3, g4, g4', g5, g6, hl, splice, fillD]
        refine WL.use L20_0_p L20_0_w (lo _ _ _ ?_ ?_ ?_ ?_ ?_) ?_
        iterate 5 simp [e1, e2]
        rintro e s' b' st' rfl hf
        simp
      · have g5 := eq_false e5
        have g6 := eq_true f5
        have n13 : (b.k = 13) = False := eq_false (by omega)
        simp [e1, e2, e3, g4, g4', g5, g6, n13, hl, splice, fillD]
        refine WL.use L20_0_p L20_0_w (lo _ _ _ ?_ ?_ ?_ ?_ ?_) ?_
        iterate 5 simp [e1, e2]
        rintro e s' b' st' rfl hf
        simp
      · have g5 := eq_false e5
        have g6 := eq_true f5
        have n13 : (b.k = 13) = False := eq_false (by omega)
        have n17 : (b.k = 17) = False := eq_false (by omega)
        simp [e1, e2, e3, g4, g4', g5, g6, n13, n17, hl, splice, fillD]
        refine WL.use L20_0_p L20_0_w (lo _ _ _ ?_ ?_ ?_ ?_ ?_) ?_
        iterate 5 simp [e1, e2]
        rintro e s' b' st' rfl hf
        simp
end Go.Nt.Lk

/-
  A TERM WITHOUT NAMES AND PLACES, by the reference.
  No condition.
-/
set_option linter.unusedSimpArgs false
set_option maxRecDepth 20000
namespace Go.Nt.Lk
open Go Go.Nt

/-- A row of names is none of terms. -/
theorem rawAppN {st : St} {L : D} {rs : List Tm} (R : RawN 6 st L (encTs rs)) (hb : rs.length ≤ 1000000) (x : Tm) :
    ∃ L' st', appendD st L [encT x] 6 = some (L', st') ∧ RawN 6 st' L' (encTs (rs ++ [x])) ∧ st.length ≤ st'.length ∧ (∀ i, i < st.length → (encTs rs = [] ∨ i ≠ idOf L) → St.at st' i = St.at st i) ∧ L'.okv = true ∧ L'.cells = [L'] ∧ (idOf L' = idOf L ∧ rs ≠ [] ∨ rs = [] ∧ idOf L' = st.length) := by
  obtain ⟨L', st', a1, a2, a3, a4, a5⟩ := R.app (by simpa using hb) (encT x)
  have e : encTs (rs ++ [x]) = encTs rs ++ [encT x] := by rw [encTs_append]; simp
  have e0 : (encTs rs = []) = (rs = []) := by cases rs <;> simp
  rw [← e] at a2
  rw [ne_eq, e0] at a5
  exact ⟨L', st', a1, a2, a3, a4, a2.facts.1, a2.facts.2.1, a5⟩

def nlT : Tm → Tm
  | .mk k n _ _ l _ _ => .mk k n [] .nil (l.map nlT) 0 0
theorem nlT_eq (t : Tm) : nlT t = .mk t.k t.n [] .nil (t.l.map nlT) 0 0 := by cases t; simp [nlT]
theorem nlT_cnt (t : Tm) : cntT (nlT t) = cntT t := by
  induction t using Tm.ind with
  | h t ih =>
    rw [nlT_eq, cntT_eq, cntT_eq t]
    simp only [l_mk]
    have : ∀ l : List Tm, (∀ u, u ∈ l → cntT (nlT u) = cntT u) → cntTs (l.map nlT) = cntTs l := by
      intro l
      induction l with
      | nil => intro _; rfl
      | cons x l il => intro h; simp only [List.map_cons, cntTs, h x (by simp), il fun u hu => h u (by simp [hu])]
    rw [this t.l ih]

def Q19 (t : Tm) (rs : List Tm) (e : Ex) (b' : List (Nat × List D)) (bx : List (Nat × List D)) (st' : St) : Prop :=
  e = .exit 0 ∧ getB b' 2 = getB bx 2 ∧ ∃ L', getB b' 3 = (1, [.int .i64 t.k, .int .i64 t.n, .str [], L', .int .i64 0, .int .i64 0]) ∧ RawN 6 st' L' (encTs rs)
theorem l19 (t : Tm) (hb : t.l.length ≤ 1000000) (hc : ∀ u, u ∈ t.l → ∀ st, callD T (ev T) 19 [encT u] st = some (encT (nlT u), st)) :
    ∀ (r i : Nat) (L : D) (rs : List Tm) (s : List D) (bx : List (Nat × List D)) (st : St), r = t.l.length - i → i ≤ t.l.length → RawN 6 st L (encTs rs) → rs.length = i →
      get s 1 = .lp 1 1 0 → getB bx 1 = (1, clT t) → get s 3 = .lp 3 1 0 → getB bx 3 = (1, [.int .i64 t.k, .int .i64 t.n, .str [], L, .int .i64 0, .int .i64 0]) → get s 4 = .int .i64 i →
    Stops (lp T L19_0 ⟨⟨s, bx⟩, st⟩) fun e _ b' st' => Q19 t (rs ++ (t.l.drop i).map nlT) e b' bx st' := by
  intro r
  induction r with
  | zero =>
    intro i L rs s bx st hr hi R hrs h1 b1 h3 b3 h4
    have e : i = t.l.length := by omega
    refine Stops_wp L19_0.eq_1 ?_
    rw [e, List.drop_length]
    simp [h1, b1, h3, b3, h4, e, Q19]
    exact R
  | succ r ih =>
    intro i L rs s bx st hr hi R hrs h1 b1 h3 b3 h4
    have hlt : i < t.l.length := by omega
    have hw : IntKind.wrap .i64 ((i : Int) + 1) = ((i + 1 : Nat) : Int) := by rw [wrap64] <;> omega
    obtain ⟨r1, r2, r3, r4⟩ := R.facts
    have q := hc _ (List.getElem_mem hlt)
    obtain ⟨L3, st3, a3, R3, hl3, hat3, o3, o3', _⟩ := rawAppN R (by omega) (nlT t.l[i])
    have nx := fun s' bx' => ih (i + 1) L3 (rs ++ [nlT t.l[i]]) s' bx' st3 (by omega) (by omega) R3 (by simp; omega)
    rw [List.append_assoc, List.singleton_append] at nx
    rw [List.drop_eq_getElem_cons hlt, List.map_cons]
    generalize nlT t.l[i] :: (t.l.drop (i + 1)).map nlT = tl at *
    have fin : ∀ (e : Ex) (bx' b' : List (Nat × List D)) (st' : St), getB bx' 2 = getB bx 2 → Q19 t (rs ++ tl) e b' bx' st' → Q19 t (rs ++ tl) e b' bx st' := by
      rintro e bx' b' st' hb ⟨h1, h2, h3⟩
      exact ⟨h1, h2.trans hb, h3⟩
    generalize Q19 t (rs ++ tl) = Q at *
    refine Stops_wp L19_0.eq_1 ?_
    simp [h1, b1, h3, b3, h4, hlt, hw, ← encT_eq, q, r1, r2, a3, o3, o3', splice, fillD, -Int.natCast_add]
    refine Stops.mono (nx _ _ ?_ ?_ ?_ ?_ ?_) ?_
    iterate 5 simp [h1, b1, h3]
    intro e s' b' st' h
    exact fin _ _ _ _ (by simp) h

theorem c19 (t : Tm) : cntT t ≤ 1000000 → ∀ st, callD T (ev T) 19 [encT t] st = some (encT (nlT t), st) := by
  induction t using Tm.ind with
  | h t ih =>
    intro hb st
    have hct := cntT_eq t
    have hcl := cntTs_len t.l
    have lo := fun s bx st => l19 t (by omega) (fun u hu st => ih u hu (by have := cntTs_mem hu; omega) st) t.l.length 0 .nils [] s bx st (by omega) (by omega) (RawN.nil _ _) rfl
    rw [List.drop_zero, List.nil_append] at lo
    refine callD_pureR (fn := F19) rfl rfl (by simp) (by simp) ?_
    refine Ret_wp (fn := F19) rfl ?_
    rw [F19]
    simp [splice, fillD]
    refine WL.use L19_0_p L19_0_w (lo _ _ _ ?_ ?_ ?_ ?_ ?_) ?_
    iterate 5 simp
    rintro e s' b' st' ⟨rfl, b2, L', b3, R⟩ hf
    have f2 := hf 2 rfl
    have f3 := hf 3 rfl
    simp at f2 f3 b2
    obtain ⟨st2, z1, _⟩ := R.fz
    simp [f2, f3, b2, b3, R.facts.1, R.facts.2.1, splice, fillD]
    refine ⟨st2, ?_⟩
    rw [encT_eq, nlT_eq]
    simp [fz, fz1, fzL, z1]
end Go.Nt.Lk
