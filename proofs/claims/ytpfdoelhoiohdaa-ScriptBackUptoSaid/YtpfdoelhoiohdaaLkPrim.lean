/-
  THE BUILDER OF STRINGS: that the machine's prims 0 and 1 are what (*strings.Builder).copyCheck and String do, in any program that bears three facts of what its functions do.
  No condition: the facts are hypotheses of the theorems.
-/
import Derived.Test.YtpfdoelhoiohdaaNtAuto
import Derived.Test.YtpfdoelhoiohdaaLkIr
import Derived.Shelf.Strings.Builder1
namespace Go.Nt
open Go

variable {P : Program}

theorem mapM_unbyte : ∀ {ds : List D} {l : List UInt8}, ds.mapM unbyte = some l → l.length = ds.length ∧ ∀ (j : Nat) (x : UInt8), l[j]? = some x → ds[j]? = some (.int .u8 x.toNat)
  | [], l, h => by simp at h; subst h; simp
  | d :: ds, l, h => by
    simp only [List.mapM_cons, Option.bind_eq_bind, Option.bind_eq_some_iff, Option.pure_def, Option.some.injEq] at h
    obtain ⟨x, hx, r, hr, rfl⟩ := h
    obtain ⟨h1, h2⟩ := mapM_unbyte hr
    have hd : d = .int .u8 x.toNat := by
      unfold unbyte at hx
      split at hx
      · rename_i n
        split at hx
        · rename_i hn
          simp only [Option.some.injEq] at hx
          subst hx
          have : n.toNat < 256 := by omega
          simp [UInt8.toNat_ofNat', Nat.mod_eq_of_lt this]
          omega
        · cases hx
      · cases hx
    refine ⟨by simp [h1], fun j y hy => ?_⟩
    cases j with
    | zero => simp at hy ⊢; subst hy; exact hd
    | succ j => simpa using h2 j y (by simpa using hy)

theorem cells_two {w : World} {N : Nat → Prop} {st : St} {bl : Bl} {b : Nat} {box : Bool} {ver mod : Nat} {fr : Bool} {x y : D} (h : ObRel w N st bl b (.cells box 2 ver mod fr [.agg [x, y]])) :
    ∃ cs e lo hi, w.heap[b]? = some (.cells cs e (lo, hi)) ∧ (fr = false → ∀ o, o < cs.size → ¬ (lo ≤ o ∧ o < hi)) ∧ 2 ≤ cs.size ∧ TagOK box ver e 2 cs.size ∧
      (∃ v, cs[0]? = some v ∧ Rep w N st bl v x) ∧ (∃ v, cs[1]? = some v ∧ Rep w N st bl v y) ∧ x.cell = true ∧ y.cell = true ∧ (box = false → (D.agg [x, y]).pure = true) := by
  obtain ⟨cs, e, lo, hi, h1, h2, ⟨h3, h4⟩, h5⟩ := h
  obtain ⟨_, _, a3, a4⟩ := h5 0 _ rfl
  obtain ⟨c1, v1, e1, r1⟩ := a4 0 x rfl
  obtain ⟨c2, v2, e2, r2⟩ := a4 1 y rfl
  exact ⟨cs, e, lo, hi, h1, h2, by simpa using h3, by simpa using h4, ⟨v1, e1, r1⟩, ⟨v2, e2, r2⟩, c1, c2, a3⟩

theorem prim_copyCheck {f ty : Nat} {ifn : IFunc} (hk : Known P f) (hc : ifn.code = .prim (4 * (ty + 1))) (hr : ifn.res = [])
    (used : ∀ (b : Nat) (w : World), w.cell? ⟨b, 0, none⟩ = some (.pointer (some ⟨b, 0, none⟩)) → Calls P f #[.pointer (some ⟨b, 0, none⟩)] w fun e w' => e = .returned (.tuple #[]) ∧ w' = w)
    (fresh : ∀ (b : Nat) (w : World), w.cell? ⟨b, 0, none⟩ = some (.pointer none) → w.shape? b = some (ty, 2) → w.frozen? ⟨b, 0, none⟩ = false →
      Calls P f #[.pointer (some ⟨b, 0, none⟩)] w fun e w' => e = .returned (.tuple #[]) ∧ w' = w.setCell ⟨b, 0, none⟩ (.pointer (some ⟨b, 0, none⟩))) : PrimF P f ifn := by
  refine ⟨hk, _, hc, fun args st ds st1 r st' hp hf => ?_⟩
  have k4 : (4 * (ty + 1)) % 4 = 0 := by omega
  have k5 : (4 * (ty + 1)) / 4 = ty + 1 := by omega
  unfold primD at hp
  rw [k4] at hp
  split at hp
  · rename_i id ver _
    intro w L bl vs H hL hsz hrep
    obtain ⟨v, rfl⟩ : ∃ v, vs = #[v] := by
      match vs, hsz with
      | ⟨[v]⟩, _ => exact ⟨v, rfl⟩
    have hv := hrep 0 v _ rfl rfl
    cases hv with
    | hp _ _ _ _ _ a hi hver ha =>
    split at hp
    · rename_i ver' mod b hob
      split at hp
      · rename_i hcond
        obtain ⟨rfl, htag⟩ := hcond
        simp only [Option.some.injEq, Prod.mk.injEq] at hp
        obtain ⟨rfl, rfl⟩ := hp
        rw [hr] at hf
        simp only [finish, resL, Option.bind_some, Option.some.injEq, Prod.mk.injEq] at hf
        obtain ⟨rfl, rfl⟩ := hf
        have hO := H.obj id hi
        rw [hob] at hO
        obtain ⟨cs, e, lo, hiz, h1, h2, h3, h4, ⟨v0, c0, r0⟩, ⟨v1, c1, r1⟩, _, hcb, _⟩ := cells_two hO
        rw [k5] at htag
        obtain ⟨he, hs2⟩ := h4 (by omega)
        have hs2 := hs2 rfl
        obtain rfl : e = ty := Nat.succ.inj (he.trans htag)
        have ha' := ha (by rw [hob]; rfl)
        simp only [Nat.zero_mul, Nat.zero_add] at ha'
        subst ha'
        cases r0
        have hnf := h2 rfl 0 (by omega)
        refine (fresh (bl id) w (by simp [World.cell?, h1, c0]) (by simp [World.shape?, h1, hs2]) (by simp only [World.frozen?, h1]; simpa using hnf)).mono ?_
        rintro e' w' ⟨rfl, rfl⟩
        have hnew : (w.setCell ⟨bl id, 0, none⟩ (.pointer (some ⟨bl id, 0, none⟩))).heap[bl id]? = some (.cells (cs.setIfInBounds 0 (.pointer (some ⟨bl id, 0, none⟩))) e (lo, hiz)) := by
          simp [World.setCell, Array.getElem?_modify, h1]
        have hoth : ∀ k, k < w.heap.size → k ≠ bl id → (w.setCell ⟨bl id, 0, none⟩ (.pointer (some ⟨bl id, 0, none⟩))).heap[k]? = w.heap[k]? := fun k _ hk => heap_setCell_other w ⟨bl id, 0, none⟩ k _ hk
        have E := upd_ext (w' := w.setCell ⟨bl id, 0, none⟩ (.pointer (some ⟨bl id, 0, none⟩))) H hi (by rw [hob]; rfl) (.cells true 2 ver' (mod + 1) false [.agg [.hp id ver' 2 0 0, b]]) (bl id) rfl rfl rfl (by simp [World.setCell]) hoth (.inl rfl)
          (.inr ⟨by rw [hob]; rfl, rfl, fun c e0 f hc => ⟨_, _, by rw [h1] at hc; cases hc; exact hnew, by rw [h1] at hc; cases hc; simp⟩⟩) (by rw [hob]; simp [Ob.mod]) (by rw [hob]; simp [Ob.isMap])
        have hb' : (fun i => if i = id then bl id else bl i) id = bl id := by simp
        refine ⟨.tuple #[], _, rfl, H.upd hL hi E hoth (.inl rfl) ⟨_, _, _, _, hnew, fun _ => by simpa using h2 rfl, ⟨by simpa using h3, fun _ => ⟨by omega, fun _ => by simpa using hs2⟩⟩, fun i d hd => ?_⟩, ?_, ?_⟩
        · match i, hd with
          | 0, hd =>
            simp only [List.getElem?_cons_zero, Option.some.injEq] at hd
            subst hd
            refine ⟨rfl, rfl, fun h => by simp at h, fun j c hj => ?_⟩
            match j, hj with
            | 0, hj =>
              simp only [D.cells, List.getElem?_cons_zero, Option.some.injEq] at hj
              subst hj
              refine ⟨rfl, .pointer (some ⟨bl id, 0, none⟩), by have : 0 < cs.size := Nat.lt_of_lt_of_le (by decide) h3; simp [this], .hp _ _ _ _ _ _ (by simpa using hi) ?_ fun _ => by simp⟩
              rw [at_set _ _ _ _ hi, if_pos rfl]; exact Nat.le_refl _
            | 1, hj =>
              simp only [D.cells, List.getElem?_cons_succ, List.getElem?_cons_zero, Option.some.injEq] at hj
              subst hj
              exact ⟨hcb, v1, by simp [c1], r1.ext (E.ext (L := L)) E.size⟩
        · exact .tup #[] [] rfl fun i v d hv => by simp at hv
        · exact E
      · cases hp
    · rename_i ver' mod id' ver'' b hob
      split at hp
      · rename_i hcond
        obtain ⟨rfl, rfl, rfl⟩ := hcond
        simp only [Option.some.injEq, Prod.mk.injEq] at hp
        obtain ⟨rfl, rfl⟩ := hp
        have hO := H.obj id' hi
        rw [hob] at hO
        obtain ⟨cs, e, lo, hiz, h1, h2, h3, h4, ⟨v0, c0, r0⟩, ⟨v1, c1, r1⟩, _, hcb, _⟩ := cells_two hO
        have ha' := ha (by rw [hob]; rfl)
        simp only [Nat.zero_mul, Nat.zero_add] at ha'
        subst ha'
        cases r0 with
        | hp _ _ _ _ _ a0 hi0 hver0 ha0 =>
        have ha0' := ha0 (by rw [hob]; rfl)
        simp only [Nat.zero_mul, Nat.zero_add] at ha0'
        subst ha0'
        refine (used (bl id') w (by simp [World.cell?, h1, c0])).mono ?_
        rintro e' w' ⟨rfl, rfl⟩
        rw [hr] at hf
        simp only [finish, resL, Option.bind_some, Option.some.injEq, Prod.mk.injEq] at hf
        obtain ⟨rfl, rfl⟩ := hf
        exact ⟨.tuple #[], bl, rfl, H, .tup #[] [] rfl fun i v d hv => by simp at hv, .refl _ _ _⟩
      · cases hp
    · cases hp
  all_goals first | cases hp | skip
  all_goals omega

theorem prim_string {f ty tb : Nat} {ifn : IFunc} (hk : Known P f) (hlt : ty + 1 < 4096) (hc : ifn.code = .prim (1 + 4 * ((ty + 1) + 4096 * (tb + 1)))) (hr : ifn.res = [.t 0])
    (hnil : ∀ (b : Nat) (w : World), w.cell? ⟨b, 1, none⟩ = some (.slice none 0 0) → Calls P f #[.pointer (some ⟨b, 0, none⟩)] w fun e w' => e = .returned (.string ⟨#[]⟩) ∧ w' = w.drew)
    (hsome : ∀ (b g cap n : Nat) (l : List UInt8) (w : World), l.length ≠ 0 → w.cell? ⟨b, 1, none⟩ = some (.slice (some ⟨g, 0, none⟩) l.length cap) → w.shape? g = some (tb, n) → l.length ≤ cap → cap ≤ n → l.length ≤ most →
      (∀ (j : Nat) (x : UInt8), l[j]? = some x → w.cell? (Addr.add ⟨g, 0, none⟩ j) = some (.int .u8 x.toNat)) →
      Calls P f #[.pointer (some ⟨b, 0, none⟩)] w fun e w' => e = .returned (.string ⟨l.toArray⟩) ∧ w' = w.drew.freeze ⟨g, 0, none⟩ l.length) : PrimF P f ifn := by
  refine ⟨hk, _, hc, fun args st ds st1 r st' hp hf => ?_⟩
  have k4 : (1 + 4 * ((ty + 1) + 4096 * (tb + 1))) % 4 = 1 := by omega
  have k5 : (1 + 4 * ((ty + 1) + 4096 * (tb + 1))) / 4 % 4096 = ty + 1 := by omega
  have k6 : (1 + 4 * ((ty + 1) + 4096 * (tb + 1))) / 4 / 4096 = tb + 1 := by omega
  unfold primD at hp
  rw [k4] at hp
  split at hp
  · cases ‹1 = 0›
  · rename_i id ver _
    intro w L bl vs H hL hsz hrep
    obtain ⟨v, rfl⟩ : ∃ v, vs = #[v] := by
      match vs, hsz with
      | ⟨[v]⟩, _ => exact ⟨v, rfl⟩
    have hv := hrep 0 v _ rfl rfl
    cases hv with
    | hp _ _ _ _ _ a hi hver ha =>
    split at hp
    · rename_i ver' mod b hob
      split at hp
      · rename_i hcond
        obtain ⟨rfl, htag⟩ := hcond
        simp only [Option.some.injEq, Prod.mk.injEq] at hp
        obtain ⟨rfl, rfl⟩ := hp
        rw [hr] at hf
        simp only [finish, resL, resD, get, List.getD_cons_zero, D.okv, if_true, Option.bind_some, Option.some.injEq, Prod.mk.injEq] at hf
        obtain ⟨rfl, rfl⟩ := hf
        have hO := H.obj id hi
        rw [hob] at hO
        obtain ⟨cs, e, lo, hiz, h1, h2, h3, h4, ⟨v0, c0, r0⟩, ⟨v1, c1, r1⟩, _, hcb, _⟩ := cells_two hO
        have ha' := ha (by rw [hob]; rfl)
        simp only [Nat.zero_mul, Nat.zero_add] at ha'
        subst ha'
        cases r1
        refine (hnil (bl id) w (by simp [World.cell?, h1, c1])).mono ?_
        rintro e' w' ⟨rfl, rfl⟩
        have hh : ∀ k, k < w.heap.size → w.drew.heap[k]? = w.heap[k]? := fun _ _ => rfl
        exact ⟨_, bl, rfl, H.grown rfl rfl rfl (Nat.le_refl _) hh, .str ⟨#[]⟩, .grown st bl (fun i hi => H.lt hi) rfl rfl rfl (Nat.le_refl _) hh⟩
      · cases hp
    · rename_i ver' mod x bid bver len hob
      split at hp
      · rename_i bver' bmod elems hbob
        split at hp
        · rename_i hcond
          obtain ⟨rfl, rfl, htag, htagb, hle, hpos, hmost⟩ := hcond
          obtain ⟨l, hl, hp⟩ := Option.bind_eq_some_iff.1 hp
          simp only [Option.some.injEq, Prod.mk.injEq] at hp
          obtain ⟨rfl, rfl⟩ := hp
          rw [hr] at hf
          simp only [finish, resL, resD, get, List.getD_cons_zero, D.okv, if_true, Option.bind_some, Option.some.injEq, Prod.mk.injEq] at hf
          obtain ⟨rfl, rfl⟩ := hf
          obtain ⟨hlen, hget⟩ := mapM_unbyte hl
          have hlen' : l.length = len := by rw [hlen]; simp; omega
          have hO := H.obj id hi
          rw [hob] at hO
          obtain ⟨cs, e, lo, hiz, h1, h2, h3, h4, ⟨v0, c0, r0⟩, ⟨v1, c1, r1⟩, _, hcb, _⟩ := cells_two hO
          have ha' := ha (by rw [hob]; rfl)
          simp only [Nat.zero_mul, Nat.zero_add] at ha'
          subst ha'
          cases r1 with
          | rs _ _ _ _ _ _ a0 cap hbi hbv hlc hfull hba =>
          obtain ⟨haddr, c2, e2, f2, hc2, hcap⟩ := hba (by rw [hbob]; rfl)
          have ha0 := haddr (by omega)
          simp only [Nat.zero_add, Nat.mul_one] at ha0 hcap
          subst ha0
          have hB := H.obj bid hbi
          rw [hbob] at hB
          obtain ⟨bs, be, blo, bhi, b1, b2, ⟨b3, b4⟩, b5⟩ := hB
          rw [k6] at htagb
          obtain ⟨hbe, _⟩ := b4 (by omega)
          obtain rfl : be = tb := Nat.succ.inj (hbe.trans htagb)
          have hcap : len ≤ cap ∧ cap ≤ bs.size := by
            rw [b1] at hc2
            cases hc2
            exact ⟨hlc, hcap⟩
          subst hlen'
          refine (hsome (bl id) (bl bid) cap bs.size l w (by omega) (by simp [World.cell?, h1, c1]) (by simp [World.shape?, b1]) hlc hcap.2 hmost fun j x hx => ?_).mono ?_
          · have hg := hget j x hx
            have hj : j < l.length := by
              rcases Nat.lt_or_ge j l.length with h | h
              · exact h
              · rw [List.getElem?_eq_none h] at hx; cases hx
            rw [List.getElem?_take_of_lt hj] at hg
            obtain ⟨_, _, _, q⟩ := b5 j _ hg
            obtain ⟨_, v, hv, hr⟩ := q 0 _ rfl
            cases hr
            have : (Addr.add ⟨bl bid, 0, none⟩ j) = ⟨bl bid, j, none⟩ := by simp [Addr.add]; exact fun h => h.symm
            rw [this]
            simp only [World.cell?, b1]
            simpa using hv
          · rintro e' w' ⟨rfl, rfl⟩
            have hn0 : l.length ≠ 0 := by omega
            have hnew : ∃ lo' hi', (w.drew.freeze ⟨bl bid, 0, none⟩ l.length).heap[bl bid]? = some (.cells bs be (lo', hi')) := by
              have h0 : w.drew.heap[bl bid]? = some (.cells bs be (blo, bhi)) := b1
              simp only [World.freeze, if_neg hn0, Array.getElem?_modify, h0]
              simp only [if_true, Option.map_some]
              exact ⟨_, _, rfl⟩
            obtain ⟨lo', hi', hnew⟩ := hnew
            have hoth : ∀ k, k < w.heap.size → k ≠ bl bid → (w.drew.freeze ⟨bl bid, 0, none⟩ l.length).heap[k]? = w.heap[k]? := by
              intro k _ hk
              simp only [World.freeze, if_neg hn0, Array.getElem?_modify, if_neg (Ne.symm hk)]
              rfl
            have f1 : (w.drew.freeze ⟨bl bid, 0, none⟩ l.length).os = w.os := by simp only [World.freeze, if_neg hn0]; rfl
            have f2 : (w.drew.freeze ⟨bl bid, 0, none⟩ l.length).tape = w.tape := by simp only [World.freeze, if_neg hn0]; rfl
            have f3 : (w.drew.freeze ⟨bl bid, 0, none⟩ l.length).output = w.output := by simp only [World.freeze, if_neg hn0]; rfl
            have f4 : (w.drew.freeze ⟨bl bid, 0, none⟩ l.length).heap.size = w.heap.size := by simp only [World.freeze, if_neg hn0, Array.size_modify]; rfl
            have E := upd_ext (w' := w.drew.freeze ⟨bl bid, 0, none⟩ l.length) H hbi (by rw [hbob]; rfl) (.cells false 1 bver' (bmod + 1) true elems) (bl bid) f1 f2 f3 (Nat.le_of_eq f4.symm) hoth (.inl rfl)
              (.inr ⟨by rw [hbob]; rfl, rfl, fun c e0 f hc => ⟨_, _, by rw [b1] at hc; cases hc; exact hnew, by rw [b1] at hc; cases hc; rfl⟩⟩) (by rw [hbob]; simp [Ob.mod]) (by rw [hbob]; simp [Ob.isMap])
            refine ⟨_, fun i => if i = bid then bl bid else bl i, rfl, H.upd hL hbi E hoth (.inl rfl) ?_, .str ⟨l.toArray⟩, E⟩
            refine ⟨bs, be, lo', hi', hnew, fun h => (Bool.noConfusion h), ⟨by simpa using b3, b4⟩, fun i d hd => ?_⟩
            obtain ⟨q1, q2, q3, q4⟩ := b5 i d hd
            exact ⟨q1, q2, q3, fun j c hj => (q4 j c hj).ext (E.ext (L := L)) E.size⟩
        · cases hp
      · cases hp
    · cases hp
  all_goals first | cases hp | skip
  all_goals omega

end Go.Nt

/-
  WHAT (*strings.Builder).copyCheck AND String DO, EXACTLY (turned from the kit's walks of the two), and that the machine's prims 0 and 1 are they.
  No condition.
-/
namespace Go.Proofs
open Go Go.Shelf Go.RowKit

set_option maxHeartbeats 1000000 in
set_option maxRecDepth 100000 in
theorem Try.cc_used (b : Nat) (w : World) (h0 : w.cell? ⟨b, 0, none⟩ = some (.pointer (some ⟨b, 0, none⟩))) :
    Calls Try.prog 88 #[.pointer (some ⟨b, 0, none⟩)] w fun e w' => e = .returned (.tuple #[]) ∧ w' = w := by
  obtain ⟨j, hj, _⟩ := Option.map_eq_some_iff.1 (show (Try.prog.info? 85).map (·.size) = some 2 by kernel_rfl)
  go_enter Try.func88, Try.ntmps88
  go_wp2
  rw [Lib.run_neq_ptr_same w _ Try.underlying82 hj]
  go_wp2
  go_end0
  exact ⟨rfl, rfl⟩

set_option maxHeartbeats 1000000 in
set_option maxRecDepth 100000 in
theorem Try.cc_fresh (b : Nat) (w : World) (h0 : w.cell? ⟨b, 0, none⟩ = some (.pointer none)) (hsh : w.shape? b = some (85, 2)) (hfz : w.frozen? ⟨b, 0, none⟩ = false) :
    Calls Try.prog 88 #[.pointer (some ⟨b, 0, none⟩)] w fun e w' => e = .returned (.tuple #[]) ∧ w' = w.setCell ⟨b, 0, none⟩ (.pointer (some ⟨b, 0, none⟩)) := by
  obtain ⟨j, hj, hjs⟩ := Option.map_eq_some_iff.1 (show (Try.prog.info? 85).map (·.size) = some 2 by kernel_rfl)
  go_enter Try.func88, Try.ntmps88
  go_wp2
  rw [Lib.run_to_unsafe w ⟨b, 0, none⟩ Try.underlying82 Try.underlying155 hj (by rw [hjs]; decide) hsh (Nat.zero_lt_succ 1)]
  simp only [Result.andThen]
  rw [Oper.upon_value]
  go_wp2
  rw [run_callFunc_extern Try.func132 (by kernel_rfl) (by kernel_rfl) (by kernel_rfl) (e := Extern.AbiNoEscape.same) (by kernel_rfl)]
  rw [Lib.run_noEscape]
  simp only [Result.andThen]
  rw [Oper.upon_value]
  go_wp2
  rw [Lib.run_from_unsafe w ⟨b, 0, none⟩ Try.underlying155 Try.underlying82 hj hsh (by kernel_rfl)]
  simp only [Result.andThen]
  rw [Oper.upon_value]
  go_wp2
  go_end0
  exact ⟨rfl, rfl⟩

set_option maxHeartbeats 1000000 in
set_option maxRecDepth 100000 in
theorem Try.string_some (b g cap n : Nat) (l : List UInt8) (w : World) (h0 : l.length ≠ 0) (hbk : w.cell? ⟨b, 1, none⟩ = some (.slice (some ⟨g, 0, none⟩) l.length cap))
    (hg : w.shape? g = some (5, n)) (hnc : l.length ≤ cap) (hcs : cap ≤ n) (hml : l.length ≤ maxLen) (htake : ∀ (j : Nat) (x : UInt8), l[j]? = some x → w.cell? (Addr.add ⟨g, 0, none⟩ j) = some (.int .u8 x.toNat)) :
    Calls Try.prog 49 #[.pointer (some ⟨b, 0, none⟩)] w fun e w' => e = .returned (.string ⟨l.toArray⟩) ∧ w' = w.drew.freeze ⟨g, 0, none⟩ l.length := by
  have c1 : w.drew.cell? ⟨b, 1, none⟩ = some (.slice (some ⟨g, 0, none⟩) l.length cap) := hbk
  have hSD : (Builtin.unsafeSliceData_ #[83] 133 #[.slice (some ⟨g, 0, none⟩) l.length cap]).run Try.prog w.drew = .ok (.pointer (some ⟨g, 0, none⟩)) w.drew :=
    Lib.run_unsafeSliceData_row _ _ _ _ _ _ (by omega)
  have hUS : (Builtin.unsafeString_ #[133, 3] 9 #[.pointer (some ⟨g, 0, none⟩), .int .i64 l.length]).run Try.prog w.drew = .ok (.string ⟨l.toArray⟩) (w.drew.freeze ⟨g, 0, none⟩ l.length) := by
    refine Lib.run_unsafeString_row w.drew 133 3 9 5 Try.underlying133 (by kernel_rfl) g n hg l (by intro e; subst e; simp at h0) (by omega) (by unfold maxLen at *; omega) htake
  go_enter Try.func49, Try.ntmps49
  go_wp2
  go_region
  all_goals (go_wp2; go_ret; exact ⟨rfl, rfl⟩)

set_option maxHeartbeats 2000000 in
set_option maxRecDepth 100000 in
theorem Try.string_nil (b : Nat) (w : World) (hbk : w.cell? ⟨b, 1, none⟩ = some (.slice none 0 0)) :
    Calls Try.prog 49 #[.pointer (some ⟨b, 0, none⟩)] w fun e w' => e = .returned (.string ⟨#[]⟩) ∧ w' = w.drew := by
  have hUS : ∀ (W : World) (q : Option Addr), (Builtin.unsafeString_ #[133, 3] 9 #[.pointer q, .int .i64 0]).run Try.prog W = .ok (.string .empty) W := fun W q => Lib.run_unsafeString_none W _ _ _ q
  have c1 : w.drew.cell? ⟨b, 1, none⟩ = some (.slice none 0 0) := hbk
  have hSD : (Builtin.unsafeSliceData_ #[83] 133 #[.slice none 0 0]).run Try.prog w.drew = .ok (.pointer none) w.drew := rfl
  go_enter Try.func49, Try.ntmps49
  go_wp2
  go_region
  all_goals (go_wp2; go_ret; exact ⟨rfl, rfl⟩)

end Go.Proofs

namespace Go.Nt.Lk
open Go Go.Nt

theorem p88 : PrimF Proofs.Try.prog 88 F88 :=
  prim_copyCheck (ty := 85) ⟨Proofs.Try.f88, _, Proofs.Try.func88, rfl, by decide +kernel⟩ rfl rfl (fun b w h => Proofs.Try.cc_used b w h) (fun b w h1 h2 h3 => Proofs.Try.cc_fresh b w h1 h2 h3)
theorem p49 : PrimF Proofs.Try.prog 49 F49 :=
  prim_string (ty := 85) (tb := 5) ⟨Proofs.Try.f49, _, Proofs.Try.func49, rfl, by decide +kernel⟩ (by decide) rfl rfl (fun b w h => Proofs.Try.string_nil b w h)
    (fun b g cap n l w h0 h1 h2 h3 h4 h5 h6 => Proofs.Try.string_some b g cap n l w h0 h1 h2 h3 h4 (by unfold maxLen; unfold most at h5; omega) h6)

end Go.Nt.Lk
