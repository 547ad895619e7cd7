/-
  THE ABSTRACT MACHINE IS SOUND: what it comes to, the model's call comes to, in whatever world that stands alike, in whatever order the model draws.
  No condition: the theorem 'sound' asks that each function of the table is the program's ('FuncOK', a closed fact).
-/
import Derived.Test.YtpfdoelhoiohdaaNtOrder
namespace Go.Nt

variable {P : Program} {X : Cx} {c : Cfg} {bl : Bl} {lb : Nat → Nat} {a : Act} {w : World}

def guardOK (ops : List Oper) (o : Oper) (g : Gi) : Bool :=
  match o.guard, g.g with
  | none, none => true
  | some (j, want), some (s, want') => ((ops[j]?).bind (·.dst)) == some s && want == want'
  | _, _ => false

def giOK (P : Program) (n : Nat) (ops : List Oper) (o : Oper) (g : Gi) : Bool := guardOK ops o g && opOK P n o g.io

def gisOK (P : Program) (n : Nat) (ops : List Oper) : List Oper → List Gi → Bool
  | [], [] => true
  | o :: os, g :: gs => giOK P n ops o g && gisOK P n ops os gs
  | _, _ => false

theorem gisOK_get {n : Nat} {ops : List Oper} : ∀ {os : List Oper} {gs : List Gi}, gisOK P n ops os gs = true → os.length = gs.length ∧ ∀ (i : Nat) (o : Oper), os[i]? = some o → ∃ g, gs[i]? = some g ∧ giOK P n ops o g = true
  | [], [], _ => ⟨rfl, fun i o h => by simp at h⟩
  | [], _ :: _, h => by simp [gisOK] at h
  | _ :: _, [], h => by simp [gisOK] at h
  | o :: os, g :: gs, h => by
    simp only [gisOK, Bool.and_eq_true] at h
    obtain ⟨h1, h2⟩ := gisOK_get h.2
    refine ⟨by simp [h1], fun i o' ho => ?_⟩
    cases i with
    | zero => simp at ho; subst ho; exact ⟨g, rfl, h.1⟩
    | succ i => exact h2 i o' (by simpa using ho)

def boolV : Value → Option Bool
  | .bool b => some b
  | _ => none
def boolD : D → Option Bool
  | .bool b => some b
  | _ => none
theorem sr_isBool {v : Value} {d : D} (h : SR X c bl lb w v d) : boolV v = boolD d := by
  cases d with
  | lp b g off => obtain ⟨p, rfl, _⟩ := h; rfl
  | _ => cases (show Rep _ _ _ _ v _ from h) <;> rfl

theorem wanted_eq (C : CR X c bl lb a w) {ops : Array Oper} {o : Oper} {g : Gi} (h : guardOK ops.toList o g = true) : Region.wanted o (yielded ops a.tmps) = g.wanted c.1.s := by
  unfold guardOK at h
  unfold Region.wanted Gi.wanted
  split at h
  · rename_i h1 h2; rw [h1, h2]
  · rename_i j want s want' h1 h2
    rw [h1, h2]
    simp only [Bool.and_eq_true, beq_iff_eq] at h
    obtain ⟨hs, rfl⟩ := h
    have hs' : (ops[j]?).bind (·.dst) = some s := by simpa using hs
    have hb := sr_isBool (C.slots s)
    have hy : yielded ops a.tmps j = boolV (a.tmps.getD s undef) := by
      unfold yielded
      rw [hs']
      simp only [Option.bind_some, Array.getD_eq_getD_getElem?]
      cases ht : a.tmps[s]? with
      | none => rfl
      | some v => cases v <;> rfl
    simp only [hy, hb]
    cases get c.1.s s <;> simp [boolD]
  · simp at h

/-- What is known of the table. -/
structure Tab (P : Program) (T : Nat → Option IFunc) (go : GoF) : Prop where
  known : ∀ f, (T f).isSome = true → Known P f
  sound : ∀ f args st r st', go f args st = some (r, st') → (T f).isSome = true → CallOK P f args st r st'

theorem sim_step {T : Nat → Option IFunc} {go : GoF} (H : Tab P T go) {ops : Array Oper} {i : Nat} {o : Oper} {g : Gi} (hi : ops[i]? = some o) (hok : giOK P X.n ops.toList o g = true) {c' : Cfg} (hs : step T go c g = some c') (R : RelC X c a w)
    {K : Act → World → Prop} {Q : Exit → Act → World → Prop} (hK : ∀ a' w', RelC X c' a' w' → K a' w') : wpOp P ops Q i K a w := by
  obtain ⟨bl, lb, C⟩ := R
  simp only [giOK, Bool.and_eq_true] at hok
  have hw := wanted_eq C hok.1
  unfold wpOp
  simp only [hi, hw]
  unfold step at hs
  split at hs
  · rename_i hwt
    rw [if_pos hwt]
    left
    cases he : actO T go (Opd.ev c.1.s) (getB c.1.b) c.2 g.io with
    | none => simp [he] at hs
    | some e =>
      simp only [he, Option.map_some, Option.some.injEq] at hs
      subst hs
      exact sim_op C H.known H.sound hok.2 he hK
  · rename_i hwt
    rw [if_neg hwt]
    simp only [Option.some.injEq] at hs
    subst hs
    have hop := hok.2
    unfold opOK at hop
    simp only [Bool.and_eq_true, beq_iff_eq] at hop
    obtain ⟨⟨hdst, hdn⟩, _⟩ := hop
    refine hK _ _ ⟨bl, lb, ?_⟩
    rw [hdst]
    refine C.put (fun d hd => by rw [hd] at hdn; simpa using hdn) fun _ => Rep.slot _ _ (.tup #[] [] rfl fun i v d hv => by simp at hv)

theorem sim_seq {T : Nat → Option IFunc} {go : GoF} (H : Tab P T go) {ops : Array Oper} {Q : Exit → Act → World → Prop} {c' : Cfg} (hQ : ∀ a' w', RelC X c' a' w' → Q .normal a' w') : ∀ (l : List (Nat × Gi)) (c : Cfg) (a : Act) (w : World),
    (∀ x ∈ l, ∃ o, ops[x.1]? = some o ∧ giOK P X.n ops.toList o x.2 = true) → runOps T go (l.map (·.2)) c = some c' → RelC X c a w → wpOps P ops Q (l.map (·.1)) a w
  | [], c, a, w, _, hr, R => by
    simp only [List.map_nil, runOps, Option.some.injEq] at hr
    subst hr
    exact hQ a w R
  | x :: l, c, a, w, hx, hr, R => by
    simp only [List.map_cons, runOps] at hr
    obtain ⟨c1, h1, h2⟩ := bind_some hr
    obtain ⟨o, ho, hok⟩ := hx x (by simp)
    rw [List.map_cons, wpOps_cons]
    exact sim_step H ho hok h1 R fun a' w' R' => sim_seq H hQ l c1 a' w' (fun y hy => hx y (by simp [hy])) h2 R'

/-! ### A region that draws its order -/

def force {α : Type} (n : Nat) (k : Nat → α) : α :=
  match n with
  | 0 => k 0
  | m + 1 => k (m + 1)
theorem force_eq {α : Type} (n : Nat) (k : Nat → α) : force n k = k n := by cases n <;> rfl

def maskOf (acc : List Nat) (es : List Edge) : Nat := es.foldl (fun s e => if Region.binds .any e then s ||| (2 ^ e.on ||| acc.getD e.on 0) else s) 0
def masks : List Oper → List Nat → List Nat
  | [], acc => acc
  | o :: os, acc => force (maskOf acc o.after.toList) fun m => masks os (acc ++ [m])

theorem mask_bit {acc : List Nat} {j : Nat} : ∀ {es : List Edge} {s : Nat}, (es.foldl (fun s e => if Region.binds .any e then s ||| (2 ^ e.on ||| acc.getD e.on 0) else s) s).testBit j = true →
    s.testBit j = true ∨ ∃ e ∈ es, Region.binds .any e = true ∧ (j = e.on ∨ (acc.getD e.on 0).testBit j = true)
  | [], s, h => .inl h
  | e :: es, s, h => by
    simp only [List.foldl_cons] at h
    rcases mask_bit h with g | ⟨e', he, g⟩
    · split at g
      · rename_i hb
        simp only [Nat.testBit_or, Bool.or_eq_true, Nat.testBit_two_pow, decide_eq_true_eq] at g
        rcases g with g | g | g
        · exact .inl g
        · exact .inr ⟨e, by simp, hb, .inl g.symm⟩
        · exact .inr ⟨e, by simp, hb, .inr g⟩
      · exact .inl g
    · exact .inr ⟨e', by simp [he], g⟩

theorem masks_get : ∀ (os : List Oper) (acc : List Nat), (∀ i, i < acc.length → (masks os acc)[i]? = acc[i]?) ∧ (masks os acc).length = acc.length + os.length ∧
    ∀ (i : Nat) (o : Oper), os[i]? = some o → ∃ acc', (masks os acc)[acc.length + i]? = some (maskOf acc' o.after.toList) ∧ acc'.length = acc.length + i ∧ ∀ k, k < acc'.length → acc'[k]? = (masks os acc)[k]?
  | [], acc => ⟨fun i _ => rfl, rfl, fun i o h => by simp at h⟩
  | o :: os, acc => by
    simp only [masks, force_eq]
    obtain ⟨h1, h2, h3⟩ := masks_get os (acc ++ [maskOf acc o.after.toList])
    refine ⟨fun i hi => ?_, by rw [h2]; simp; omega, fun i o' ho => ?_⟩
    · rw [h1 i (by simp; omega), List.getElem?_append_left hi]
    · cases i with
      | zero =>
        simp at ho; subst ho
        refine ⟨acc, ?_, by simp, fun k hk => ?_⟩
        · rw [h1 _ (by simp)]; simp
        · rw [h1 k (by simp; omega), List.getElem?_append_left hk]
      | succ i =>
        obtain ⟨acc', g1, g2, g3⟩ := h3 i o' (by simpa using ho)
        refine ⟨acc', ?_, by rw [g2]; simp; omega, g3⟩
        rw [← g1]; congr 1; simp; omega

/-- All pairs that the edges leave open may be exchanged. -/
def pairsOK (ms : List Nat) : List (Nat × Gi) → List (Nat × Gi) → Bool
  | _, [] => true
  | done, (i, g) :: r => (done.all fun x => (ms.getD i 0).testBit x.1 || indepX x.2 g) && pairsOK ms (done ++ [(i, g)]) r

def edgesOK (ops : List Oper) (i : Nat) : List Oper → Bool
  | [] => true
  | o :: os => (o.after.toList.all fun e => !Region.binds .any e || decide (e.on < i)) && edgesOK ops (i + 1) os

def drawOK (P : Program) (ops : List Oper) (gs : List Gi) : Bool :=
  P.follows .mixedOrders && (edgesOK ops 0 ops && pairsOK (masks ops []) [] ((List.range gs.length).zip gs))

theorem edgesOK_get {ops : List Oper} : ∀ {os : List Oper} {k : Nat}, edgesOK ops k os = true → ∀ (i : Nat) (o : Oper), os[i]? = some o → ∀ e ∈ o.after, Region.binds .any e = true → e.on < k + i
  | [], _, _, i, o, h => by simp at h
  | o :: os, k, h, i, o', ho => by
    simp only [edgesOK, Bool.and_eq_true] at h
    cases i with
    | zero =>
      simp at ho; subst ho
      intro e he hb
      have := List.all_eq_true.1 h.1 e (Array.mem_toList_iff.2 he)
      simpa [hb] using this
    | succ i =>
      intro e he hb
      have := edgesOK_get h.2 i o' (by simpa using ho) e he hb
      omega

theorem pairsOK_get {ms : List Nat} : ∀ (l done : List (Nat × Gi)), pairsOK ms done l = true → ∀ (k : Nat) (x : Nat × Gi), l[k]? = some x → ∀ y, (y ∈ done ∨ ∃ j, j < k ∧ l[j]? = some y) → (ms.getD x.1 0).testBit y.1 = true ∨ indepX y.2 x.2 = true
  | [], _, _, k, x, h => by simp at h
  | (i, g) :: l, done, h, k, x, hx => by
    simp only [pairsOK, Bool.and_eq_true] at h
    intro y hy
    cases k with
    | zero =>
      simp at hx; subst hx
      rcases hy with hy | ⟨j, hj, _⟩
      · have := List.all_eq_true.1 h.1 y hy
        simpa using this
      · omega
    | succ k =>
      refine pairsOK_get l _ h.2 k x (by simpa using hx) y ?_
      rcases hy with hy | ⟨j, hj, hl⟩
      · exact .inl (by simp [hy])
      · cases j with
        | zero => simp at hl; subst hl; exact .inl (by simp)
        | succ j => exact .inr ⟨j, by omega, by simpa using hl⟩

theorem masks_bit {ops : List Oper} {i : Nat} {o : Oper} (ho : ops[i]? = some o) (hE : ∀ e ∈ o.after, Region.binds .any e = true → e.on < i) {j : Nat} (h : ((masks ops []).getD i 0).testBit j = true) :
    ∃ e ∈ o.after, Region.binds .any e = true ∧ (j = e.on ∨ ((masks ops []).getD e.on 0).testBit j = true) := by
  obtain ⟨_, _, h3⟩ := masks_get ops []
  obtain ⟨acc', g1, g2, g3⟩ := h3 i o ho
  simp only [List.length_nil, Nat.zero_add] at g1 g2
  rw [List.getD_eq_getElem?_getD, g1] at h
  rcases mask_bit (show (List.foldl _ 0 _).testBit j = true from h) with q | ⟨e, he, hb, q⟩
  · simp at q
  · refine ⟨e, Array.mem_toList_iff.1 he, hb, ?_⟩
    rcases q with q | q
    · exact .inl q
    · right
      have := hE e (Array.mem_toList_iff.1 he) hb
      rw [List.getD_eq_getElem?_getD, g3 e.on (by omega)] at q
      rw [List.getD_eq_getElem?_getD]; exact q

/-- What is behind a listed operation's edges, all the way, is listed. -/
theorem closed_bit {ops : List Oper} {L : Nat → Prop} (hE : ∀ (i : Nat) (o : Oper), ops[i]? = some o → ∀ e ∈ o.after, Region.binds .any e = true → e.on < i) (hL : ∀ (i : Nat) (o : Oper), ops[i]? = some o → L i → ∀ e ∈ o.after, Region.binds .any e = true → L e.on) {j : Nat} :
    ∀ (i : Nat) (o : Oper), ops[i]? = some o → (∀ e ∈ o.after, Region.binds .any e = true → L e.on) → ((masks ops []).getD i 0).testBit j = true → L j := by
  intro i
  induction i using Nat.strongRecOn with
  | _ i ih =>
    intro o ho hp h
    obtain ⟨e, he, hb, q⟩ := masks_bit ho (hE i o ho) h
    rcases q with rfl | q
    · exact hp e he hb
    · have hlt := hE i o ho e he hb
      have hi : i < ops.length := (List.getElem?_eq_some_iff.1 ho).1
      have ho' : ops[e.on]? = some ops[e.on] := by simp
      exact ih e.on hlt _ ho' (hL e.on _ ho' (hp e he hb)) q

/-- The unlisted operations, in their order. -/
def rem (listed : Array Bool) (l : List (Nat × Gi)) : List (Nat × Gi) := l.filter fun x => !listed.getD x.1 true

theorem zip_range {α : Type} (gs : List α) (k : Nat) (x : Nat × α) (h : ((List.range gs.length).zip gs)[k]? = some x) : x.1 = k ∧ gs[k]? = some x.2 := by
  rw [List.getElem?_zip_eq_some] at h
  obtain ⟨h1, h2⟩ := h
  obtain ⟨h3, h4⟩ := List.getElem?_eq_some_iff.1 h1
  simp at h4
  exact ⟨h4.symm, h2⟩

theorem sim_draw {T : Nat → Option IFunc} {go : GoF} (H : Tab P T go) {ops : Array Oper} {gs : List Gi} (hg : gisOK P X.n ops.toList ops.toList gs = true) (hd : drawOK P ops.toList gs = true) {Q : Exit → Act → World → Prop} {c' : Cfg} (hQ : ∀ a' w', RelC X c' a' w' → Q .normal a' w') :
    ∀ (fuel : Nat) (listed : Array Bool) (c : Cfg) (a : Act) (w : World), listed.size = ops.size → (rem listed ((List.range gs.length).zip gs)).length ≤ fuel →
      (∀ (i : Nat) (o : Oper), ops.toList[i]? = some o → listed.getD i false = true → ∀ e ∈ o.after, Region.binds .any e = true → listed.getD e.on false = true) →
      runOps T go ((rem listed ((List.range gs.length).zip gs)).map (·.2)) c = some c' → RelC X c a w → wpAny P .any ops Q fuel listed a w := by
  obtain ⟨hlen, hgi⟩ := gisOK_get hg
  simp only [drawOK, Bool.and_eq_true] at hd
  obtain ⟨_, hE0, hP⟩ := hd
  have hE : ∀ (i : Nat) (o : Oper), ops.toList[i]? = some o → ∀ e ∈ o.after, Region.binds .any e = true → e.on < i := fun i o ho e he hb => by
    have := edgesOK_get hE0 i o ho e he hb; omega
  -- the first unlisted operation is ready
  have first : ∀ (listed : Array Bool), listed.size = ops.size → rem listed ((List.range gs.length).zip gs) ≠ [] → Region.ready .any ops listed ≠ [] := by
    intro listed hsz hne hr
    have key : ∀ i, i < ops.size → listed.getD i true = true := by
      intro i
      induction i using Nat.strongRecOn with
      | _ i ih =>
        intro hi
        cases hl : listed.getD i true with
        | true => rfl
        | false =>
          have : i ∈ Region.ready .any ops listed := by
            rw [mem_ready]
            refine ⟨hl, ops[i], by simp [hi], fun e he hb => ?_⟩
            have hlt := hE i ops[i] (by simp [hi]) e he hb
            have h1 := ih e.on hlt (by omega)
            rw [Array.getD_eq_getD_getElem?] at h1 ⊢
            have : e.on < listed.size := by omega
            simp only [Array.getElem?_eq_getElem this, Option.getD_some] at h1 ⊢
            exact h1
          rw [hr] at this; simp at this
    apply hne
    unfold rem
    rw [List.filter_eq_nil_iff]
    intro x hx
    obtain ⟨k, hk⟩ := List.getElem?_of_mem hx
    obtain ⟨h1, h2⟩ := zip_range gs k x hk
    have : k < ops.size := by
      have := (List.getElem?_eq_some_iff.1 h2).1
      simp at hlen; omega
    rw [h1, key k this]; simp
  intro fuel
  induction fuel with
  | zero =>
    intro listed c a w hsz hlenr hcl hr R
    have hnil : rem listed ((List.range gs.length).zip gs) = [] := List.eq_nil_of_length_eq_zero (by omega)
    rw [hnil] at hr
    simp only [List.map_nil, runOps, Option.some.injEq] at hr
    subst hr
    refine ⟨?_, hQ a w R⟩
    by_cases hq : Region.ready .any ops listed = []
    · exact hq
    · exfalso
      obtain ⟨i, hi⟩ := List.exists_mem_of_ne_nil _ hq
      rw [mem_ready] at hi
      obtain ⟨hun, o, ho, _⟩ := hi
      obtain ⟨g, hgg, _⟩ := hgi i o (by simpa using ho)
      have : (i, g) ∈ rem listed ((List.range gs.length).zip gs) := by
        unfold rem
        rw [List.mem_filter]
        refine ⟨?_, by simp only [hun]; rfl⟩
        have hil := (List.getElem?_eq_some_iff.1 hgg).1
        have : ((List.range gs.length).zip gs)[i]? = some (i, g) := by
          rw [List.getElem?_zip_eq_some]
          exact ⟨by simp [hil], hgg⟩
        exact List.mem_of_getElem? this
      rw [hnil] at this; simp at this
  | succ fuel ih =>
    intro listed c a w hsz hlenr hcl hr R
    refine ⟨fun hq => ?_, fun i hi => ?_⟩
    · by_cases hnil : rem listed ((List.range gs.length).zip gs) = []
      · rw [hnil] at hr
        simp only [List.map_nil, runOps, Option.some.injEq] at hr
        subst hr
        exact hQ a w R
      · exact absurd hq (first listed hsz hnil)
    · have hi0 := hi
      rw [mem_ready] at hi
      obtain ⟨hun, o, ho, hpre⟩ := hi
      have ho' : ops.toList[i]? = some o := by simpa using ho
      obtain ⟨g, hgg, hok⟩ := hgi i o ho'
      have hil := (List.getElem?_eq_some_iff.1 hgg).1
      have hzi : ((List.range gs.length).zip gs)[i]? = some (i, g) := by
        rw [List.getElem?_zip_eq_some]
        exact ⟨by simp [hil], hgg⟩
      -- cut the unlisted ones at i
      have hsplit : (List.range gs.length).zip gs = ((List.range gs.length).zip gs).take i ++ (i, g) :: ((List.range gs.length).zip gs).drop (i + 1) := by
        have hlt : i < ((List.range gs.length).zip gs).length := (List.getElem?_eq_some_iff.1 hzi).1
        have := List.take_append_drop i ((List.range gs.length).zip gs)
        rw [List.drop_eq_getElem_cons hlt] at this
        have hz2 : ((List.range gs.length).zip gs)[i] = (i, g) := by
          have q := hzi
          rw [List.getElem?_eq_getElem hlt] at q
          exact Option.some.inj q
        rw [hz2] at this
        exact this.symm
      have hrem : rem listed ((List.range gs.length).zip gs) = rem listed (((List.range gs.length).zip gs).take i) ++ (i, g) :: rem listed (((List.range gs.length).zip gs).drop (i + 1)) := by
        conv => lhs; rw [hsplit]
        unfold rem
        rw [List.filter_append, List.filter_cons]
        simp [hun]
      have hmem : ∀ x, x ∈ ((List.range gs.length).zip gs).take i → x.1 < i ∧ ((List.range gs.length).zip gs)[x.1]? = some x := by
        intro x hx
        obtain ⟨k, hk⟩ := List.getElem?_of_mem hx
        rw [List.getElem?_take] at hk
        split at hk
        · obtain ⟨h1, _⟩ := zip_range gs k x hk
          rw [h1]; exact ⟨by assumption, hk⟩
        · simp at hk
      have hmem2 : ∀ x, x ∈ ((List.range gs.length).zip gs).drop (i + 1) → i < x.1 := by
        intro x hx
        obtain ⟨k, hk⟩ := List.getElem?_of_mem hx
        rw [List.getElem?_drop] at hk
        obtain ⟨h1, _⟩ := zip_range gs _ x hk
        omega
      have hrem' : rem (listed.setIfInBounds i true) ((List.range gs.length).zip gs) = rem listed (((List.range gs.length).zip gs).take i) ++ rem listed (((List.range gs.length).zip gs).drop (i + 1)) := by
        conv => lhs; rw [hsplit]
        unfold rem
        rw [List.filter_append, List.filter_cons]
        have hsi : i < listed.size := by rw [hsz]; exact (Array.getElem?_eq_some_iff.1 ho).1
        have hself : (listed.setIfInBounds i true).getD i true = true := by simp [hsi]
        rw [if_neg (by simp [hself])]
        congr 1
        · refine List.filter_congr fun x hx => ?_
          rw [getD_set_ne true (by have := (hmem x hx).1; omega)]
        · refine List.filter_congr fun x hx => ?_
          rw [getD_set_ne true (by have := hmem2 x hx; omega)]
      rw [hrem, List.map_append, List.map_cons] at hr
      rw [runOps_first _ _ _ (fun h hh => by
        obtain ⟨x, hx, rfl⟩ := List.mem_map.1 hh
        unfold rem at hx
        rw [List.mem_filter] at hx
        obtain ⟨hx1, hx2⟩ := hx
        obtain ⟨k1, k2⟩ := hmem x hx1
        rcases pairsOK_get _ _ hP i (i, g) hzi x (.inr ⟨x.1, k1, k2⟩) with q | q
        · exfalso
          have := closed_bit (L := fun j => listed.getD j false = true) hE hcl i o ho' hpre q
          simp only [Bool.not_eq_true'] at hx2
          have hx3 : x.1 < listed.size := by
            rcases Nat.lt_or_ge x.1 listed.size with g | g
            · exact g
            · simp [Array.getElem?_eq_none g] at this
          rw [Array.getD_eq_getD_getElem?] at this hx2
          simp only [Array.getElem?_eq_getElem hx3, Option.getD_some] at this hx2
          rw [this] at hx2; simp at hx2
        · exact q)] at hr
      simp only [runOps] at hr
      obtain ⟨c1, hs1, hs2⟩ := bind_some hr
      refine sim_step H ho hok hs1 R fun a' w' R' => ih (listed.setIfInBounds i true) c1 a' w' (by simpa using hsz) ?_ ?_ ?_ R'
      · rw [hrem'] 
        rw [hrem] at hlenr
        simp only [List.length_append, List.length_cons] at hlenr ⊢
        omega
      · intro k ok hk hlk e he hb
        by_cases hik : i = k
        · subst hik
          rw [ho'] at hk; simp at hk; subst hk
          exact getD_set_true (hpre e he hb)
        · rw [getD_set_ne false hik] at hlk
          exact getD_set_true (hcl k ok hk hlk e he hb)
      · rw [hrem', List.map_append]; exact hs2

end Go.Nt
