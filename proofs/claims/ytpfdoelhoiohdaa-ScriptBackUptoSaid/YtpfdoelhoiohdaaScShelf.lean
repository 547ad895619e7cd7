/-
  STRINGS' INDEX AND JOIN: that the machine's prims 3, 7 and 11 are what (internal/stringslite).Index at one byte, strings.IndexByte and strings.Join do, in any program that bears facts of what its functions do.
  No condition: the facts are hypotheses of the theorems.
-/
import Derived.Test.YtpfdoelhoiohdaaNtAuto
import Derived.Lib.Bytealg
import Derived.Lib.Join
import Derived.Test.YtpfdoelhoiohdaaLkIr
import Derived.Shelf.Strings.OnBuilder
import Derived.Shelf.Small.Strs
import Derived.Shelf.Strings.Search2
namespace Go.Nt
open Go

variable {P : Program}

theorem findB_eq (c : UInt8) : ∀ (s : List UInt8) (i : Nat), findB c s i = if Lib.indexByte s c = -1 then -1 else Lib.indexByte s c + i
  | [], i => rfl
  | x :: s, i => by
    have ih := findB_eq c s (i + 1)
    have hge : ∀ l : List UInt8, Lib.indexByte l c = -1 ∨ 0 ≤ Lib.indexByte l c := by
      intro l
      induction l with
      | nil => left; rfl
      | cons y l ih =>
        simp only [Lib.indexByte]
        split
        · right; omega
        · split
          · left; rfl
          · rename_i h; simp at h; right; rcases ih with h' | h'
            · exact absurd h' h
            · omega
    by_cases h : x = c
    · subst h; simp [findB, Lib.indexByte]
    · have hb : (x == c) = false := by simpa using h
      rcases hge s with h1 | h1
      · simp [findB, Lib.indexByte, h, ih, h1]
      · have h2 : ¬ Lib.indexByte s c = -1 := by omega
        have h3 : (Lib.indexByte s c == -1) = false := by simpa using h2
        have h4 : ¬ Lib.indexByte s c + 1 = -1 := by omega
        simp only [findB, if_neg h, ih, if_neg h2, Lib.indexByte, hb, h3, Bool.false_eq_true, if_false, if_neg h4]
        omega

theorem rep_str_inv {w : World} {N : Nat → Prop} {st : St} {bl : Bl} {v : Value} {l : List UInt8} (h : Rep w N st bl v (.str l)) : ∃ b : ByteArray, v = .string b ∧ b.data.toList = l := by
  generalize hx : D.str l = x at h
  cases h <;> cases hx
  exact ⟨_, rfl, rfl⟩
theorem bytes_of {b : ByteArray} {l : List UInt8} (h : b.data.toList = l) : b = ⟨l.toArray⟩ := by
  cases b; subst h; simp

theorem findB_zero (c : UInt8) (s : List UInt8) : findB c s 0 = Lib.indexByte s c := by
  rw [findB_eq]; split
  · rename_i h; rw [h]
  · simp

theorem prim_byte {f : Nat} {ifn : IFunc} (hk : Known P f) (hc : ifn.code = .prim 3) (hr : ifn.res = [.t 0])
    (h : ∀ (s : ByteArray) (c : Int) (w : World), Calls P f #[.string s, .int .u8 c] w fun e w' => e = .returned (.int .i64 (Lib.indexByte s.data.toList c.toNat.toUInt8)) ∧ w' = w) : PrimF P f ifn := by
  refine ⟨hk, _, hc, fun args st ds st1 r st' hp hf => ?_⟩
  unfold primD at hp
  split at hp
  · cases ‹3 % 4 = 0›
  · cases ‹3 % 4 = 1›
  · cases ‹3 % 4 = 2›
  · rename_i s c _
    split at hp
    · rename_i hcc
      simp only [Option.some.injEq, Prod.mk.injEq] at hp
      obtain ⟨rfl, rfl⟩ := hp
      intro w L bl vs H hL hsz hrep
      obtain ⟨v0, v1, rfl⟩ : ∃ v0 v1, vs = #[v0, v1] := by
        match vs, hsz with
        | ⟨[v0, v1]⟩, _ => exact ⟨v0, v1, rfl⟩
      have h0 := hrep 0 v0 _ rfl rfl
      have h1 := hrep 1 v1 _ rfl rfl
      obtain ⟨b, rfl, rfl⟩ := rep_str_inv h0
      cases h1
      refine (h b c w).mono ?_
      rintro e' w' ⟨rfl, rfl⟩
      rw [hr] at hf
      simp only [finish, resL, resD, get, List.getD_cons_zero, D.okv, if_true, Option.bind_some, Option.some.injEq, Prod.mk.injEq] at hf
      obtain ⟨rfl, rfl⟩ := hf
      rw [findB_zero]
      exact ⟨_, bl, rfl, H, .int _ _, .refl _ _ _⟩
    · cases hp
  · split at hp
    · cases ‹3 = 7›
    · cases hp
  · split at hp
    · cases ‹3 = 11›
    · cases hp
  · cases hp

theorem prim_index {f : Nat} {ifn : IFunc} (hk : Known P f) (hc : ifn.code = .prim 7) (hr : ifn.res = [.t 0])
    (h : ∀ (s : ByteArray) (c : UInt8) (w : World), Calls P f #[.string s, .string ⟨#[c]⟩] w fun e w' => e = .returned (.int .i64 (Lib.indexByte s.data.toList c)) ∧ w' = w) : PrimF P f ifn := by
  refine ⟨hk, _, hc, fun args st ds st1 r st' hp hf => ?_⟩
  unfold primD at hp
  split at hp
  · cases ‹7 % 4 = 0›
  · cases ‹7 % 4 = 1›
  · cases ‹7 % 4 = 2›
  · split at hp
    · rename_i hh; cases hh.1
    · cases hp
  · rename_i s c _
    split at hp
    · simp only [Option.some.injEq, Prod.mk.injEq] at hp
      obtain ⟨rfl, rfl⟩ := hp
      intro w L bl vs H hL hsz hrep
      obtain ⟨v0, v1, rfl⟩ : ∃ v0 v1, vs = #[v0, v1] := by
        match vs, hsz with
        | ⟨[v0, v1]⟩, _ => exact ⟨v0, v1, rfl⟩
      have h0 := hrep 0 v0 _ rfl rfl
      have h1 := hrep 1 v1 _ rfl rfl
      obtain ⟨b, rfl, rfl⟩ := rep_str_inv h0
      obtain ⟨b2, rfl, hb2⟩ := rep_str_inv h1
      rw [bytes_of hb2]
      refine (h b c w).mono ?_
      rintro e' w' ⟨rfl, rfl⟩
      rw [hr] at hf
      simp only [finish, resL, resD, get, List.getD_cons_zero, D.okv, if_true, Option.bind_some, Option.some.injEq, Prod.mk.injEq] at hf
      obtain ⟨rfl, rfl⟩ := hf
      rw [findB_zero]
      exact ⟨_, bl, rfl, H, .int _ _, .refl _ _ _⟩
    · cases hp
  · split at hp
    · cases ‹7 = 11›
    · cases hp
  · cases hp

theorem unstrs : ∀ {ds : List D} {l : List (List UInt8)}, ds.mapM unstr = some l → l.length = ds.length ∧ ∀ (j : Nat) (x : List UInt8), l[j]? = some x → ds[j]? = some (.str x)
  | [], l, h => by simp at h; subst h; simp
  | d :: ds, l, h => by
    simp only [List.mapM_cons, Option.bind_eq_bind, Option.bind_eq_some_iff, Option.pure_def, Option.some.injEq] at h
    obtain ⟨x, hx, r, hr, rfl⟩ := h
    obtain ⟨h1, h2⟩ := unstrs hr
    have hd : d = .str x := by
      unfold unstr at hx
      split at hx
      · simp only [Option.some.injEq] at hx; subst hx; rfl
      · cases hx
    refine ⟨by simp [h1], fun j y hy => ?_⟩
    cases j with
    | zero => simp at hy ⊢; subst hy; exact hd
    | succ j => simpa using h2 j y (by simpa using hy)

theorem prim_join {f : Nat} {ifn : IFunc} (hk : Known P f) (hc : ifn.code = .prim 11) (hr : ifn.res = [.t 0])
    (hnone : ∀ (a : Option Addr) (c : Nat) (sep : ByteArray) (w : World), Calls P f #[.slice a 0 c, .string sep] w fun e w' => e = .returned (.string ⟨#[]⟩) ∧ w' = w)
    (hsome : ∀ (bk o c : Nat) (xs : List ByteArray) (sep : ByteArray) (w : World), (∀ (j : Nat) x, xs[j]? = some x → w.cell? ⟨bk, o + j, none⟩ = some (.string x)) → bk < w.heap.size → xs.length ≤ 140737488355328 → xs.length ≤ c →
      (Lib.join (xs.map (·.data.toList)) sep.data.toList).length ≤ 140737488355328 →
      Calls P f #[.slice (some ⟨bk, o, none⟩) xs.length c, .string sep] w fun e w' => e = .returned (.string ⟨(Lib.join (xs.map (·.data.toList)) sep.data.toList).toArray⟩) ∧ Go.RowKit.Below w.heap.size w w') : PrimF P f ifn := by
  refine ⟨hk, _, hc, fun args st ds st1 r st' hp hf => ?_⟩
  unfold primD at hp
  split at hp
  · cases ‹11 % 4 = 0›
  · cases ‹11 % 4 = 1›
  · cases ‹11 % 4 = 2›
  · split at hp
    · rename_i hh; cases hh.1
    · cases hp
  · split at hp
    · cases ‹11 = 7›
    · cases hp
  · rename_i d sep _ _
    split at hp
    · obtain ⟨l, hl, hp⟩ := Option.bind_eq_some_iff.1 hp
      obtain ⟨ss, hss, hp⟩ := Option.bind_eq_some_iff.1 hp
      split at hp
      · rename_i hlim
        simp only [Option.some.injEq, Prod.mk.injEq] at hp
        obtain ⟨rfl, rfl⟩ := hp
        intro w L bl vs H hL hsz hrep
        obtain ⟨v0, v1, rfl⟩ : ∃ v0 v1, vs = #[v0, v1] := by
          match vs, hsz with
          | ⟨[v0, v1]⟩, _ => exact ⟨v0, v1, rfl⟩
        have h0 := hrep 0 v0 _ rfl rfl
        have h1 := hrep 1 v1 _ rfl rfl
        obtain ⟨b, rfl, rfl⟩ := rep_str_inv h1
        rw [hr] at hf
        simp only [finish, resL, resD, get, List.getD_cons_zero, D.okv, if_true, Option.bind_some, Option.some.injEq, Prod.mk.injEq] at hf
        obtain ⟨rfl, rfl⟩ := hf
        obtain ⟨p, cap, vl, rfl, e2, e3, e4, e5⟩ := slice_els H h0 hl
        obtain ⟨hlen, hget⟩ := unstrs hss
        by_cases hn : l = []
        · subst hn
          simp at hss; subst hss
          refine (hnone p cap b w).mono ?_
          rintro e' w' ⟨rfl, rfl⟩
          exact ⟨_, bl, rfl, H, .str ⟨#[]⟩, .refl _ _ _⟩
        · have hpos : 0 < l.length := List.length_pos_iff.2 hn
          have hvl : vl.length = l.length := e4.1
          obtain ⟨q, rfl, hsp, _⟩ := e5 0 vl[0] (by simp)
          have hqe : q = ⟨q.block, q.off, none⟩ := by cases q; simp at hsp; simp [hsp]
          have hcell : ∀ (j : Nat) (x : ByteArray), (ss.map fun s => (⟨s.toArray⟩ : ByteArray))[j]? = some x → w.cell? ⟨q.block, q.off + j, none⟩ = some (.string x) := by
            intro j x hx
            rw [List.getElem?_map, Option.map_eq_some_iff] at hx
            obtain ⟨s, hs, rfl⟩ := hx
            have hg := hget j s hs
            have hj : j < vl.length := by rw [hvl]; exact (List.getElem?_eq_some_iff.1 hg).1
            obtain ⟨q', hq', _, hcells⟩ := e5 j vl[j] (by simp [hj])
            simp only [Option.some.injEq] at hq'
            subst hq'
            obtain ⟨hrj, _⟩ := e4.2 j vl[j] _ (by simp [hj]) hg
            obtain ⟨b2, hb2, hb3⟩ := rep_str_inv hrj
            have := hcells 0 (.string b2) (by rw [hb2]; rfl)
            simp only [Nat.mul_one, Nat.add_zero] at this
            rw [this, bytes_of hb3]
          have hmap : (ss.map fun s => (⟨s.toArray⟩ : ByteArray)).map (·.data.toList) = ss := by
            rw [List.map_map]
            exact (List.map_congr_left fun x _ => rfl).trans (List.map_id ss)
          have hb : q.block < w.heap.size := cell_lt (a := ⟨q.block, q.off + 0, none⟩) (hcell 0 ⟨(ss[0]'(by omega)).toArray⟩ (by simp [List.getElem?_map]))
          have hss' : (ss.map fun s => (⟨s.toArray⟩ : ByteArray)).length = l.length := by simp [hlen]
          have hm : (most : Nat) = 134217728 := rfl
          have hc := hsome q.block q.off cap (ss.map fun s => (⟨s.toArray⟩ : ByteArray)) b w hcell hb (by rw [hss']; omega) (by rw [hss']; exact e2) (by rw [hmap]; show (b.data.toList.intercalate ss).length ≤ _; omega)
          rw [hss', ← hqe, hmap] at hc
          refine hc.mono ?_
          rintro e' w' ⟨rfl, bel⟩
          have E := Evo.grown st bl (fun i hi => H.lt hi) bel.os bel.tape bel.output bel.size (fun k hk => bel.block k hk)
          exact ⟨_, bl, rfl, H.grown bel.os bel.tape bel.output bel.size (fun k hk => bel.block k hk), .str ⟨(b.data.toList.intercalate ss).toArray⟩, E⟩
      · cases hp
    · cases hp
  · cases hp

end Go.Nt

/-
  CONTRACTS OF GO's LIBRARY at this program (written by the kit's tools lay-shelf and lay-plain for this program), and that the machine's prims are they.
  No condition.
-/
namespace Go.Proofs
open Go.Shelf
def Try.lays156_ren : Go.Shelf.Ren := ⟨fun | 156 => 60 | 165 => 100 | 166 => 47 | 169 => 49 | 240 => 88 | 241 => 136 | 276 => 132 | 277 => 151 | n => n, fun | 31 => 68 | 9 => 9 | 3 => 3 | 4 => 4 | 0 => 0 | 20 => 20 | 72 => 85 | 76 => 90 | 70 => 82 | 37 => 83 | 75 => 89 | 127 => 133 | 164 => 155 | 5 => 5 | 80 => 93 | n => n, fun | n => n⟩
theorem Try.lays156 : Go.Proofs.Lays.n156 Try.prog Try.lays156_ren := {
  mixed := by kernel_rfl
  f156 := Try.func60.trans (congrArg some (by kernel_rfl))
  f165 := Try.func100.trans (congrArg some (by kernel_rfl))
  f166 := Try.func47.trans (congrArg some (by kernel_rfl))
  f169 := Try.func49.trans (congrArg some (by kernel_rfl))
  f240 := Try.func88.trans (congrArg some (by kernel_rfl))
  f241 := Try.func136.trans (congrArg some (by kernel_rfl))
  f276 := Try.func132.trans (congrArg some (by kernel_rfl))
  f277 := Try.func151.trans (congrArg some (by kernel_rfl))
  t0 := Try.underlying0
  a0 := Try.isAgg0
  z0 := Try.sizeOf0
  v0 := Try.zeroValue0
  t3 := Try.underlying3
  a3 := Try.isAgg3
  z3 := Try.sizeOf3
  v3 := Try.zeroValue3
  t4 := Try.underlying4
  a4 := Try.isAgg4
  z4 := Try.sizeOf4
  v4 := Try.zeroValue4
  t9 := Try.underlying9
  a9 := Try.isAgg9
  z9 := Try.sizeOf9
  v9 := Try.zeroValue9
  t20 := Try.underlying20
  a20 := Try.isAgg20
  z20 := Try.sizeOf20
  v20 := Try.zeroValue20
  t31 := Try.underlying68
  a31 := Try.isAgg68
  z31 := Try.sizeOf68
  v31 := Try.zeroValue68
  t37 := Try.underlying83
  a37 := Try.isAgg83
  z37 := Try.sizeOf83
  v37 := Try.zeroValue83
  t70 := Try.underlying82
  a70 := Try.isAgg82
  z70 := Try.sizeOf82
  v70 := Try.zeroValue82
  t72 := Try.underlying85
  a72 := Try.isAgg85
  z72 := Try.sizeOf85
  v72 := Try.zeroValue85
  t75 := Try.underlying89
  a75 := Try.isAgg89
  z75 := Try.sizeOf89
  v75 := Try.zeroValue89
  t76 := Try.underlying90
  a76 := Try.isAgg90
  z76 := Try.sizeOf90
  v76 := Try.zeroValue90
  t127 := Try.underlying133
  a127 := Try.isAgg133
  z127 := Try.sizeOf133
  v127 := Try.zeroValue133
  t164 := Try.underlying155
  a164 := Try.isAgg155
  z164 := Try.sizeOf155
  v164 := Try.zeroValue155 }
theorem Try.Builder_Extra_156 : Builder.Extra Try.prog Try.lays156_ren := {
  sizeBuilder := by kernel_rfl
  liesBuilder := by kernel_rfl
  t5 := Try.underlying5
  a5 := Try.isAgg5
  z5 := Try.sizeOf5
  v5 := Try.zeroValue5
  infoByte := by kernel_rfl
  cellsByte := by kernel_rfl
  sizeByte := by kernel_rfl
  neB5 := by decide }
open Go.RowKit in
theorem Try.strings_Join_none (a : Option Addr) (c : Nat) (sep : ByteArray) (w : World) :
    Calls Try.prog 60 #[.slice a 0 c, .string sep] w fun e w' => e = .returned (.string ⟨#[]⟩) ∧ w' = w := Any.strings_Join_none Try.lays156 Try.Builder_Extra_156 a c sep w
open Go.RowKit in
theorem Try.strings_Join (bk o c : Nat) (xs : List ByteArray) (sep : ByteArray) (w : World) (hcells : ∀ (j : Nat) x, xs[j]? = some x → w.cell? ⟨bk, o + j, none⟩ = some (.string x)) (hbk : bk < w.heap.size) (hN : xs.length ≤ 140737488355328) (hcap : xs.length ≤ c) (hlen : (Lib.join (xs.map (·.data.toList)) sep.data.toList).length ≤ 140737488355328) :
    Calls Try.prog 60 #[.slice (some ⟨bk, o, none⟩) xs.length c, .string sep] w fun e w' => e = .returned (.string ⟨(Lib.join (xs.map (·.data.toList)) sep.data.toList).toArray⟩) ∧ Below w.heap.size w w' := Any.strings_Join Try.lays156 Try.Builder_Extra_156 bk o c xs sep w hcells hbk hN hcap hlen
def Try.lays137_ren : Go.Shelf.Ren := ⟨fun | 137 => 160 | 217 => 146 | 266 => 158 | n => n, fun | 9 => 9 | 5 => 5 | 3 => 3 | n => n, fun | n => n⟩
theorem Try.lays137 : Go.Proofs.Lays.n137 Try.prog Try.lays137_ren := {
  mixed := by kernel_rfl
  f137 := Try.func160.trans (congrArg some (by kernel_rfl))
  f217 := Try.func146.trans (congrArg some (by kernel_rfl))
  f266 := Try.func158.trans (congrArg some (by kernel_rfl))
  t3 := Try.underlying3
  a3 := Try.isAgg3
  z3 := Try.sizeOf3
  v3 := Try.zeroValue3
  t5 := Try.underlying5
  a5 := Try.isAgg5
  z5 := Try.sizeOf5
  v5 := Try.zeroValue5
  t9 := Try.underlying9
  a9 := Try.isAgg9
  z9 := Try.sizeOf9
  v9 := Try.zeroValue9 }
open Go.RowKit in
theorem Try.strings_IndexByte (s : ByteArray) (c : Int) (w : World) :
    Calls Try.prog 160 #[.string s, .int .u8 c] w fun e w' => e = .returned (.int .i64 (Lib.indexByte s.data.toList c.toNat.toUInt8)) ∧ w' = w := Any.strings_IndexByte Try.lays137 s c w
def Try.lays219_ren : Go.Shelf.Ren := ⟨fun | 219 => 133 | 217 => 146 | 225 => 147 | 224 => 148 | 267 => 149 | 266 => 158 | 314 => 159 | n => n, fun | 9 => 9 | 3 => 3 | 4 => 4 | 5 => 5 | 46 => 97 | 146 => 176 | 51 => 175 | n => n, fun | 1 => 0 | n => n⟩
theorem Try.lays219 : Go.Proofs.Lays.n219 Try.prog Try.lays219_ren := {
  mixed := by kernel_rfl
  f217 := Try.func146.trans (congrArg some (by kernel_rfl))
  f219 := Try.func133.trans (congrArg some (by kernel_rfl))
  f224 := Try.func148.trans (congrArg some (by kernel_rfl))
  f225 := Try.func147.trans (congrArg some (by kernel_rfl))
  f266 := Try.func158.trans (congrArg some (by kernel_rfl))
  f267 := Try.func149.trans (congrArg some (by kernel_rfl))
  f314 := Try.func159.trans (congrArg some (by kernel_rfl))
  t3 := Try.underlying3
  a3 := Try.isAgg3
  z3 := Try.sizeOf3
  v3 := Try.zeroValue3
  t4 := Try.underlying4
  a4 := Try.isAgg4
  z4 := Try.sizeOf4
  v4 := Try.zeroValue4
  t5 := Try.underlying5
  a5 := Try.isAgg5
  z5 := Try.sizeOf5
  v5 := Try.zeroValue5
  t9 := Try.underlying9
  a9 := Try.isAgg9
  z9 := Try.sizeOf9
  v9 := Try.zeroValue9
  t46 := Try.underlying97
  a46 := Try.isAgg97
  z46 := Try.sizeOf97
  v46 := Try.zeroValue97
  t51 := Try.underlying175
  a51 := Try.isAgg175
  z51 := Try.sizeOf175
  v51 := Try.zeroValue175
  t146 := Try.underlying176
  a146 := Try.isAgg176
  z146 := Try.sizeOf176
  v146 := Try.zeroValue176
  g1 := by kernel_rfl }
open Go.RowKit Go.Lib in
theorem Try.stringslite_Index_one (s : ByteArray) (c : UInt8) (w : World) :
    Calls Try.prog 133 #[.string s, .string ⟨#[c]⟩] w fun e w' => e = .returned (.int .i64 (Lib.indexByte s.data.toList c)) ∧ w' = w := Any.stringslite_Index_one Try.lays219 s c w
end Go.Proofs
namespace Go.Nt.Lk
open Go Go.Nt

theorem p60 : PrimF Proofs.Try.prog 60 F60 :=
  prim_join ⟨Proofs.Try.f60, _, Proofs.Try.func60, rfl, by decide +kernel⟩ rfl rfl (fun a c sep w => Proofs.Try.strings_Join_none a c sep w) (fun bk o c xs sep w h1 h2 h3 h4 h5 => Proofs.Try.strings_Join bk o c xs sep w h1 h2 h3 h4 h5)
theorem p133 : PrimF Proofs.Try.prog 133 F133 :=
  prim_index ⟨Proofs.Try.f133, _, Proofs.Try.func133, rfl, by decide +kernel⟩ rfl rfl (fun s c w => Proofs.Try.stringslite_Index_one s c w)
theorem p160 : PrimF Proofs.Try.prog 160 F160 :=
  prim_byte ⟨Proofs.Try.f160, _, Proofs.Try.func160, rfl, by decide +kernel⟩ rfl rfl (fun s c w => Proofs.Try.strings_IndexByte s c w)

end Go.Nt.Lk
