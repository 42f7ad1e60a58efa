/-
  A system in memory that is the document's: Inode, Read, Write, Trunc, Make, and a fresh one. Conditions: as the theorems say.
-/
import Derived.Test.YtcbdjmlkjifamaaGreatDoorQat
import Derived.Test.YtcbdjmlkjifamaaGreatDoorQav
set_option linter.unusedVariables false
set_option linter.unusedSimpArgs false

namespace Go.Proofs.YtcbdjmlkjifamaaGreatDoor
open Go.RowKit
set_option maxRecDepth 100000

/-- A system in memory, as the document has it: fb: where it lies, ab: the row that its calls turn, np: how many pages there are. -/
structure Sys (w : World) (fb ib pb ab table np : Nat) (S : List Nod) : Prop where
  ex : ∃ g bm xs, Fsys w fb ib pb ab table g bm xs ∧ Abs table g bm xs S ∧ g.length = np
theorem Sys.keep0 {w w' : World} {fb ib pb ab table np : Nat} {S : List Nod} (h : Sys w fb ib pb ab table np S) (k : Kept [] w w') : Sys w' fb ib pb ab table np S := by
  obtain ⟨g, bm, xs, h1, h2, h3⟩ := h.ex
  exact ⟨g, bm, xs, h1.keep0 k, h2, h3⟩
theorem Sys.past {w w' : World} {D : List Nat} {e : TypeId} {size : Nat} {A : Option Addr} {n c : Nat} {xs : List Value} {fb ib pb ab table np : Nat} {S : List Nod} (h : Sys w fb ib pb ab table np S) (hs : Sl w D e size A n c xs) (hk : Kept [ab] w w') (he : e ≠ 56) : Sl w' D e size A n c xs := by
  obtain ⟨_, _, _, h1, _, _⟩ := h.ex
  exact hs.past h1.img hk he

theorem sys_Inode (w : World) (fb ib pb ab table np n : Nat) (S : List Nod) (y : Nod) (h : Sys w fb ib pb ab table np S) (hy : S[n]? = some y) :
    ∃ x : Ino, (x.kind = y.kind ∧ x.size = y.data.length ∧ x.pages.length = 32 ∧ x.size ≤ 8192) ∧ ∀ W, Kept [] w W → Calls Tryz.prog 16 #[.pointer (some ⟨fb, 0, none⟩), .int .i64 n] W fun e w' => e = .returned (.tuple #[.agg x.cells, .int .i64 0]) ∧ Kept [] W w' := by
  obtain ⟨g, bm, xs, h1, h2, h3⟩ := h.ex
  have hn : n < xs.length := by rw [← h2.len]; exact (List.getElem?_eq_some_iff.1 hy).1
  have hx : xs[n]? = some xs[n] := List.getElem?_eq_getElem hn
  have ho := h2.one n _ y hx hy
  have hl := (h1.fs.good _ (List.getElem_mem hn)).lim
  exact ⟨xs[n], ⟨ho.kind, ho.size, hl.len, hl.size⟩, fun W hW => files_Inode W fb ib pb ab table g bm xs n _ (h1.keep0 hW) hx⟩
theorem sys_Inode_bad (w : World) (fb ib pb ab table np : Nat) (n : Int) (S : List Nod) (h : Sys w fb ib pb ab table np S) (hn : n < 0 ∨ (S.length : Nat) ≤ n) :
    ∀ W, Kept [] w W → Calls Tryz.prog 16 #[.pointer (some ⟨fb, 0, none⟩), .int .i64 n] W fun e w' => e = .returned (.tuple #[.agg Ino.zero.cells, .int .i64 1]) ∧ Kept [] W w' := by
  obtain ⟨g, bm, xs, h1, h2, h3⟩ := h.ex
  exact fun W hW => files_Inode_bad W fb ib pb ab table g bm xs n (h1.keep0 hW) (by rw [← h2.len]; exact hn)

theorem sys_Read (w : World) (fb ib pb ab table np n P Z : Nat) (S : List Nod) (y : Nod) (h : Sys w fb ib pb ab table np S) (hy : S[n]? = some y) (hk : y.kind ≠ 0) (hmay : spanMay (P : Int) (Z : Nat) = 0) :
    Calls Tryz.prog 17 #[.pointer (some ⟨fb, 0, none⟩), .int .i64 n, .int .i64 P, .int .i64 Z] w fun e w' => ∃ A c, e = .returned (.tuple #[.slice A ((y.data.drop P).take Z).length c, .int .i64 0]) ∧
      Bytes w' [] A c ((y.data.drop P).take Z) ∧ Kept [] w w' := by
  obtain ⟨g, bm, xs, h1, h2, h3⟩ := h.ex
  have hn : n < xs.length := by rw [← h2.len]; exact (List.getElem?_eq_some_iff.1 hy).1
  have hx : xs[n]? = some xs[n] := List.getElem?_eq_getElem hn
  have ho := h2.one n _ y hx hy
  have hgd := h1.fs.good _ (List.getElem_mem hn)
  have hkx : xs[n].kind ≠ 0 := by rw [ho.kind]; exact hk
  have hb : ∀ i, i < 32 → (xs[n].pages.getD i 0) ≠ 0 → table < (xs[n].pages.getD i 0).toNat ∧ (xs[n].pages.getD i 0).toNat < g.length := fun i hi h0 => by
    have hpg : xs[n].pg i ≠ 0 := fun hc => h0 (UInt8.toNat_inj.1 hc)
    have := h2.own n _ _ hx ((mem_all _ hgd.lim.len _).2 ⟨hpg, .inr ⟨i, hi, rfl⟩⟩)
    exact ⟨this.1, this.2.1⟩
  have := files_Read_ok w fb ib pb ab table g bm xs n P Z _ h1 hx hkx hmay hb
  rw [abs_read h2.pl ho hgd.lim.size] at this
  exact this

theorem sys_Write (w : World) (fb ib pb ab table np n P m t : Nat) (S : List Nod) (y : Nod) (B : Option Addr) (bc : Nat) (b : List UInt8) (h : Sys w fb ib pb ab table np S) (hy : S[n]? = some y) (hk : y.kind ≠ 0) (hb : Bytes w [] B bc b) (hm : b.length = m) (hm0 : m ≠ 0)
    (hP : P + m ≤ 8192) (ht : t ≤ 9223372036854775807) (hroom : y.need P m ≤ leftOf table np S) :
    Calls Tryz.prog 49 #[.pointer (some ⟨fb, 0, none⟩), .int .i64 n, .int .i64 P, .slice B m bc, .int .i64 t] w fun e w' => e = .returned (.tuple #[.int .i64 m, .int .i64 0]) ∧
      Sys w' fb ib pb ab table np (S.set n (y.write b P t)) ∧ Kept [ab] w w' := by
  obtain ⟨g, bm, xs, h1, h2, rfl⟩ := h.ex
  have hn : n < xs.length := by rw [← h2.len]; exact (List.getElem?_eq_some_iff.1 hy).1
  have hx : xs[n]? = some xs[n] := List.getElem?_eq_getElem hn
  have ho := h2.one n _ y hx hy
  have hkx : xs[n].kind ≠ 0 := by rw [ho.kind]; exact hk
  obtain ⟨l, p1, b1, htk⟩ := (room_take h2 hx hy (by omega) hP).1 hroom
  obtain ⟨a1, a2, a3⟩ := abs_write h2 hx hy hkx hm hm0 hP ht htk
  have hmay : spanMay (P : Int) (m : Nat) = 0 := by
    unfold spanMay
    rw [if_neg (by omega), if_neg (by omega)]
  refine (files_Write_ok w fb ib pb ab table g p1 bm b1 xs n P t _ B bc m b l h1 hx hkx hb hm hm0 hmay ht h2.low htk a1 a2).mono ?_
  rintro e w' ⟨rfl, pg, hpg, hf, hkk⟩
  refine ⟨rfl, ⟨_, _, _, hf, a3 pg hpg hf.fs, ?_⟩, hkk⟩
  rw [List.length_set, spreadPg_length]
  exact (take_facts h2.fs.bml h2.pl h2.low htk).plen
theorem sys_Write_nil (w : World) (fb ib pb ab table np n P t : Nat) (S : List Nod) (y : Nod) (B : Option Addr) (bc : Nat) (h : Sys w fb ib pb ab table np S) (hy : S[n]? = some y) (hk : y.kind ≠ 0) (hP : P ≤ 8192) (ht : t ≤ 9223372036854775807) :
    Calls Tryz.prog 49 #[.pointer (some ⟨fb, 0, none⟩), .int .i64 n, .int .i64 P, .slice B 0 bc, .int .i64 t] w fun e w' => e = .returned (.tuple #[.int .i64 0, .int .i64 0]) ∧ Kept [] w w' := by
  obtain ⟨g, bm, xs, h1, h2, rfl⟩ := h.ex
  have hn : n < xs.length := by rw [← h2.len]; exact (List.getElem?_eq_some_iff.1 hy).1
  have hx : xs[n]? = some xs[n] := List.getElem?_eq_getElem hn
  have ho := h2.one n _ y hx hy
  have hkx : xs[n].kind ≠ 0 := by rw [ho.kind]; exact hk
  refine files_Write_pre w fb ib pb ab table g bm xs n P B bc 0 t 0 h1 (by omega) (by omega) (by omega) ?_
  unfold writePre
  rw [usedOf_some hx hkx]
  have hmay : spanMay (P : Int) ((0 : Nat) : Int) = 0 := by
    unfold spanMay
    rw [if_neg (by omega), if_neg (by omega)]
  rw [if_neg (by simp), if_neg (by rw [hmay]; simp), if_neg (by omega), if_pos rfl]
theorem sys_Trunc (w : World) (fb ib pb ab table np n size t : Nat) (S : List Nod) (y : Nod) (h : Sys w fb ib pb ab table np S) (hy : S[n]? = some y) (hk : y.kind ≠ 0) (hs : size ≤ 8192) (ht : t ≤ 9223372036854775807) :
    Calls Tryz.prog 50 #[.pointer (some ⟨fb, 0, none⟩), .int .i64 n, .int .i64 size, .int .i64 t] w fun e w' => e = .returned (.int .i64 0) ∧ Sys w' fb ib pb ab table np (S.set n (y.trunc size t)) ∧ Kept [ab] w w' := by
  obtain ⟨g, bm, xs, h1, h2, rfl⟩ := h.ex
  have hn : n < xs.length := by rw [← h2.len]; exact (List.getElem?_eq_some_iff.1 hy).1
  have hx : xs[n]? = some xs[n] := List.getElem?_eq_getElem hn
  have ho := h2.one n _ y hx hy
  have hkx : xs[n].kind ≠ 0 := by rw [ho.kind]; exact hk
  obtain ⟨a1, a2, a3, a4⟩ := abs_trunc h2 hx hy hkx hs ht
  refine (files_Trunc_ok w fb ib pb ab table g bm xs n size t _ h1 hx hkx hs ht a1 a2 a3).mono ?_
  rintro e w' ⟨rfl, pg, hpg, hf, hkk⟩
  refine ⟨rfl, ⟨_, _, _, hf, a4 pg hpg hf.fs, ?_⟩, hkk⟩
  rw [List.length_set]
  unfold truncPg clearPg
  split
  · split
    · rw [List.length_set]
    · rw [spreadPg_length, List.length_set]
  · rw [List.length_set]
theorem sys_Make (w : World) (fb ib pb ab table np n kind mode time : Nat) (S : List Nod) (h : Sys w fb ib pb ab table np S) (h1 : 1 ≤ kind) (h2 : kind ≤ 3) (h3 : mode ≤ 7) (h4 : time ≤ 9223372036854775807) (hn : n < S.length) (hz : ∀ y, S[n]? = some y → y.kind = 0) (hnz : ∀ j y, j < n → S[j]? = some y → y.kind ≠ 0) :
    Calls Tryz.prog 29 #[.pointer (some ⟨fb, 0, none⟩), .int .i64 kind, .int .i64 mode, .int .i64 time] w fun e w' => e = .returned (.tuple #[.int .i64 n, .int .i64 0]) ∧
      Sys w' fb ib pb ab table np (S.set n ⟨kind, mode, 0, time, [], fun _ => false, []⟩) ∧ Kept [ab] w w' := by
  obtain ⟨g, bm, xs, f1, f2, rfl⟩ := h.ex
  have hn2 : n < xs.length := by rw [← f2.len]; exact hn
  have hkd : ∀ j (hj : j < xs.length), xs[j].kind = (S[j]'(by rw [f2.len]; exact hj)).kind := fun j hj => (f2.one j _ _ (List.getElem?_eq_getElem hj) (List.getElem?_eq_getElem (by rw [f2.len]; exact hj))).kind
  refine (files_Make w fb ib pb ab table g bm xs kind mode time f1 h1 h2 h3 h4).mono ?_
  rintro e w' (⟨k, pg, a1, a2, a3, rfl, a5, a6⟩ | ⟨a1, _, _⟩)
  · have hkl := (List.getElem?_eq_some_iff.1 a2).1
    have hkz : (xs[k]).kind = 0 := by
      obtain ⟨_, he⟩ := List.getElem?_eq_some_iff.1 a2
      rw [he]
      rfl
    have hkn : k = n := by
      rcases Nat.lt_trichotomy k n with hl | hl | hl
      · have := hnz k _ hl (List.getElem?_eq_getElem (by rw [f2.len]; exact hkl))
        rw [← hkd k hkl] at this
        exact absurd hkz this
      · exact hl
      · have := a1 n _ hl (List.getElem?_eq_getElem hn2)
        rw [hkd n hn2] at this
        exact absurd (hz _ (List.getElem?_eq_getElem hn)) this
    subst hkn
    exact ⟨rfl, ⟨_, _, _, a5, abs_make f2 a2 a3 a5.fs, by rw [List.length_set]⟩, a6⟩
  · have := a1 _ (List.getElem_mem hn2)
    rw [hkd n hn2] at this
    exact absurd (hz _ (List.getElem?_eq_getElem hn)) this

/-- Format, then Open, of a plain image that is all 0. -/
theorem sys_Format (w : World) (ib pb ab table t np : Nat) (h : Img w ib pb ab (List.replicate np (List.replicate 256 0))) (h1 : 1 ≤ table) (h2 : table ≤ 16) (h3 : table + 2 ≤ np) (ht : t ≤ 9223372036854775807) :
    Calls Tryz.prog 27 #[.pointer (some ⟨ib, 0, none⟩), .int .i64 table, .int .i64 t] w fun e w' => e = .returned (.int .i64 0) ∧ Img w' ib pb ab (freshG table t np) ∧ Kept [ab] w w' := by
  refine (files_Format w ib pb ab table t _ h h1 h2 (by rw [List.length_replicate]; exact h3) ht).mono ?_
  rintro e w' ⟨rfl, hi, hk⟩
  refine ⟨rfl, ?_, hk⟩
  rw [List.drop_replicate] at hi
  exact hi
theorem sys_Open (w : World) (ib pb ab table t np : Nat) (h : Img w ib pb ab (freshG table t np)) (h1 : 1 ≤ table) (h2 : table ≤ 16) (h3 : table + 2 ≤ np) (h4 : np ≤ 216) (ht : t ≤ 9223372036854775807) :
    Calls Tryz.prog 28 #[.pointer (some ⟨ib, 0, none⟩)] w fun e w' => ∃ fb, e = .returned (.tuple #[.pointer (some ⟨fb, 0, none⟩), .int .i64 0]) ∧ Sys w' fb ib pb ab table np (freshS table t) ∧ Kept [] w w' := by
  obtain ⟨ha, hl⟩ := abs_fresh table t np h1 h2 h3 h4 ht
  obtain ⟨o1, o2⟩ := fresh_open table np h2 h3 h4
  refine (files_Open w ib pb ab table (freshG table t np) (ownB table) h ha.fs.p0 ha.fs.bml h1 h2 (by rw [hl]; exact h3) o1 (by rw [hl]; exact o2)).mono ?_
  rintro e w' ⟨fb, rfl, hb, hk⟩
  exact ⟨fb, rfl, ⟨_, _, _, ⟨hb, h.keep0 hk, ha.fs⟩, ha, hl⟩, hk⟩
end Go.Proofs.YtcbdjmlkjifamaaGreatDoor
