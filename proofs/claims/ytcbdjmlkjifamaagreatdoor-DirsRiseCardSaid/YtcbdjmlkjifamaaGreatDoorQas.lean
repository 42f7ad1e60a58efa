/-
  files.Format on a plain image. Conditions: the numbers may be.
-/
import Derived.Test.YtcbdjmlkjifamaaGreatDoorQap
set_option linter.unusedVariables false
set_option linter.unusedSimpArgs false

namespace Go.Proofs.YtcbdjmlkjifamaaGreatDoor
open Go.RowKit
set_option maxRecDepth 100000

/-- A row of the call's own, of slices of bytes. -/
def OwnMat (w : World) (base : Nat) (v : Value) (n : Nat) (G : List (List UInt8)) : Prop :=
  ∃ vs : List Value, w.ownsRow base 56 1 v n vs ∧ G.length = n ∧ ∀ i (h : i < G.length), ∃ A c, vs[i]? = some (.slice A G[i].length c) ∧ Bytes w [] A c G[i]
theorem OwnMat.keep0 {w w' : World} {base n : Nat} {v : Value} {G : List (List UInt8)} (h : OwnMat w base v n G) (k : Kept [] w w') : OwnMat w' base v n G := by
  obtain ⟨vs, h1, h2, h3⟩ := h
  refine ⟨vs, own_keep0 h1 k, h2, fun i hi => ?_⟩
  obtain ⟨A, c, h4, h5⟩ := h3 i hi
  exact ⟨A, c, h4, h5.keep0 k⟩
theorem OwnMat.form {w : World} {base n : Nat} {v : Value} {G : List (List UInt8)} (h : OwnMat w base v n G) : ∃ A c, v = .slice A n c := by
  obtain ⟨vs, h1, _⟩ := h
  exact own_form h1
/-- Append of one slice to it. -/
theorem OwnMat.snoc {w w' : World} {base n m c1 c' : Nat} {vs : List Value} {A1 a : Option Addr} {v' : Value} {G : List (List UInt8)} {b : List UInt8} {o : Obj} (ho : w.ownsRow base 56 1 (.slice A1 n c1) n vs) (hl : G.length = n)
    (h : ∀ i (h : i < G.length), ∃ A c, vs[i]? = some (.slice A G[i].length c) ∧ Bytes w [] A c G[i]) (hb : Bytes w [] a c' b) (hm : m = b.length)
    (ho' : w'.ownsRow base 56 1 v' (n + 1) (vs ++ [.slice a m c'])) (hg : (w.alloc o).grownBy w' (Value.slice A1 n c1).ownBlock) : OwnMat w' base v' (n + 1) (G ++ [b]) := by
  have hvl : vs.length = n := by simpa using ho.1
  have hka : Kept [] w (w.alloc o) := (Kept.refl _ _).alloc _
  refine ⟨_, ho', by simp [hl], fun i hi => ?_⟩
  rw [List.length_append, List.length_singleton] at hi
  rcases Nat.lt_or_eq_of_le (Nat.le_of_lt_succ hi) with h3 | h3
  · obtain ⟨A, c, h4, h5⟩ := h i h3
    refine ⟨A, c, ?_, ?_⟩
    · rw [List.getElem?_append_left (by omega), List.getElem_append_left h3]
      exact h4
    · rw [List.getElem_append_left h3]
      exact (h5.keep0 hka).grown (ho.alloc o) (by decide) hg
  · subst h3
    refine ⟨a, c', ?_, ?_⟩
    · rw [List.getElem?_append_right (by omega), List.getElem_append_right (by omega), ← hl] 
      simp [hvl, hl, hm]
    · rw [List.getElem_append_right (by omega)]
      simp only [Nat.sub_self, List.getElem_cons_zero]
      exact (hb.keep0 hka).grown (ho.alloc o) (by decide) hg

theorem OwnMat.set_ {w : World} {base n k m c c' : Nat} {gg : Nat} {vs : List Value} {a : Option Addr} {G : List (List UInt8)} {b : List UInt8} (ho : w.ownsRow base 56 1 (.slice (some ⟨gg, 0, none⟩) n c) n vs) (hl : G.length = n)
    (h : ∀ i (h : i < G.length), ∃ A c, vs[i]? = some (.slice A G[i].length c) ∧ Bytes w [] A c G[i]) (hk : k < n) (hb : Bytes w [] a c' b) (hm : m = b.length) :
    OwnMat (w.setCell ⟨gg, k, none⟩ (.slice a m c')) base (.slice (some ⟨gg, 0, none⟩) n c) n (G.set k b) ∧ Kept [gg] w (w.setCell ⟨gg, k, none⟩ (.slice a m c')) := by
  have hvl : vs.length = n := by simpa using ho.1
  have hks : Kept [gg] w (w.setCell ⟨gg, k, none⟩ (.slice a m c')) := (Kept.refl _ _).setCell (.inr (by simp)) _
  obtain ⟨cur, hcur⟩ : ∃ cur, w.heap[gg]? = some (.cells cur 56 (0, 0)) := by
    rcases ho.2 with ⟨h0, _⟩ | ⟨g', cap, cur, hv, _, hh, _⟩
    · cases h0
    · injection hv with h1
      injection h1 with h1
      injection h1 with h1
      subst h1
      exact ⟨cur, hh⟩
  refine ⟨⟨_, (ho.stored k (.slice a m c')).1, by rw [List.length_set]; exact hl, fun i hi => ?_⟩, hks⟩
  rw [List.length_set] at hi
  by_cases e : k = i
  · subst e
    refine ⟨a, c', ?_, ?_⟩
    · rw [List.getElem?_set_self (by omega), List.getElem_set_self, hm]
    · rw [List.getElem_set_self]
      exact hb.other hks hcur (by decide)
  · obtain ⟨A, c2, h4, h5⟩ := h i hi
    refine ⟨A, c2, ?_, ?_⟩
    · rw [List.getElem?_set_ne e, List.getElem_set_ne e]
      exact h4
    · rw [List.getElem_set_ne e]
      exact h5.other hks hcur (by decide)

/-- The root, as Format makes it. -/
def rootIno (t : Nat) : Ino := ⟨2, 7, 1, 0, t, 0, List.replicate 32 0⟩
theorem rootIno_ok (t : Nat) (h : t ≤ 9223372036854775807) : (rootIno t).Ok := by
  have hz : ∀ i, ((List.replicate 32 (0 : UInt8)).getD i 0) = 0 := fun i => by
    rw [List.getD_eq_getElem?_getD, List.getElem?_replicate]
    split <;> rfl
  refine ⟨⟨show 1 ≤ 2 by decide, show 2 ≤ 3 by decide⟩, show 7 ≤ 7 by decide, show 1 ≤ 65535 by decide, show 0 ≤ 8192 by decide, h, show 0 ≤ 215 by decide, rfl, fun i _ => ?_, show ([] : List Nat).Nodup from List.nodup_nil⟩
  show ((List.replicate 32 (0 : UInt8)).getD i 0).toNat < 216 ∧ (((List.replicate 32 (0 : UInt8)).getD i 0).toNat ≠ 0 → _)
  rw [hz]
  exact ⟨by decide, fun h => absurd rfl h⟩
/-- The pages that Format lays. -/
def fmtPages (table t : Nat) : List (List UInt8) := layB table (ownB table) :: putIno (List.replicate 256 0) 0 (rootIno t) :: List.replicate (table - 1) (List.replicate 256 0)

/-- What Format's loops know. -/
def FmRel (w : World) (table : Nat) (v a : Value) (wr : World) : Prop :=
  ∃ k : Nat, k ≤ table ∧ a = .int .i64 k ∧ OwnMat wr w.heap.size v (k + 1) (layB table (ownB table) :: List.replicate k (List.replicate 256 0)) ∧ Kept [] w wr
def FsRel (W : World) (ib pb ab : Nat) (g F : List (List UInt8)) (a : Value) (wr : World) : Prop :=
  ∃ k : Nat, k ≤ F.length ∧ a = .int .i64 k ∧ Img wr ib pb ab (F.take k ++ g.drop k) ∧ Kept [ab] W wr

set_option maxHeartbeats 4000000 in
theorem files_Format (w : World) (ib pb ab table t : Nat) (g : List (List UInt8)) (h : Img w ib pb ab g) (h1 : 1 ≤ table) (h2 : table ≤ 16) (h3 : table + 2 ≤ g.length) (ht : t ≤ 9223372036854775807) :
    Calls Tryz.prog 27 #[.pointer (some ⟨ib, 0, none⟩), .int .i64 table, .int .i64 t] w fun e w' => e = .returned (.int .i64 0) ∧
      Img w' ib pb ab (fmtPages table t ++ g.drop (table + 1)) ∧ Kept [ab] w w' := by
  obtain ⟨i0, hi, hz0, hz1, hz2⟩ := info_parts bytes_info
  have hsm := h.small
  have hmk := fun W => run_make_bytes 256 256 rfl (by omega) W
  obtain ⟨_, _, hol⟩ := ownB_is table h2
  have H := Lib.hid h
  have HOL := Lib.hid hol
  clear h hol
  go_enter Tryz.func27, Tryz.ntmps27
  go_wp2_with (first | (go_at_call 56; refine (image_Kind _ ib pb ab g H.out).mono ?_; rintro e w' ⟨rfl, rfl⟩) | (go_at_call 57; refine (image_Pages _ ib pb ab g H.out).mono ?_; rintro e w' ⟨rfl, rfl⟩) | (go_at_call 59; refine Stop.here ?_))
  refine Stop.go ?_
  refine (files_own table w h2).mono ?_
  rintro e w1 ⟨v1, rfl, ho1, hk1⟩
  obtain ⟨A1, c1, rfl⟩ := own_form ho1
  have hb1 := Bytes.of_own (D := []) ho1 HOL.out (by simp) (by omega)
  have HB1 := Lib.hid hb1
  have HK1 := Lib.hid hk1
  clear ho1 hk1 hb1
  go_wp2_with (go_at_call 58; refine Stop.here ?_)
  refine Stop.go ?_
  refine (files_lay [] A1 c1 27 table (ownB table) w1 HB1.out HOL.out (by omega) h2).mono ?_
  rintro e w2 ⟨v2, rfl, ho2, hk2⟩
  obtain ⟨A2, c2, rfl⟩ := own_form ho2
  have hll := layB_length table (ownB table) (by rw [HOL.out]; omega)
  have hb2 := Bytes.of_own (D := []) ho2 hll (by simp) (by omega)
  have hkk2 := HK1.out.trans hk2
  have hom : OwnMat (w2.alloc (.cells #[.slice A2 256 c2] 56)) w.heap.size (.slice (some ⟨w2.heap.size, 0, none⟩) 1 1) 1 (layB table (ownB table) :: List.replicate 0 (List.replicate 256 0)) := by
    refine ⟨[.slice A2 256 c2], own_new (xs := [.slice A2 256 c2]) rfl (by have := hkk2.size; omega) (by simp) (by simp [maxLen]), rfl, fun i hi => ?_⟩
    obtain rfl : i = 0 := by simpa using hi
    exact ⟨A2, c2, by simp [hll], hb2.keep0 ((Kept.refl _ _).alloc _)⟩
  have HOM := Lib.hid hom
  have HK2 := Lib.hid (hkk2.alloc (.cells #[.slice A2 256 c2] 56))
  have HLL := Lib.hid hll
  clear ho2 hk2 hll hb2 hkk2 hom HB1 HK1
  go_wp2_with fail
  go_loopw [7, 39] (fun v a wr => FmRel w table v a wr) (fun _ a _ => table - (intOf a).toNat)
  case atStart => exact ⟨0, Nat.zero_le _, rfl, HOM.out, HK2.out⟩
  case round =>
    obtain ⟨k, hk, rfl, hom, hkr⟩ := hrel
    obtain ⟨A3, c3, rfl⟩ := hom.form
    have HM := Lib.hid hom
    have HKR := Lib.hid hkr
    clear hom hkr
    by_cases hlt : k < table
    · obtain ⟨vs, ho3, hl3, hv3⟩ := HM.out
      have HO3 := Lib.hid ho3
      have HV3 := Lib.hid hv3
      clear ho3 hv3
      go_wp2_with (at_builtin; refine Stop.here ?_)
      refine Stop.go ?_
      have hal := HO3.out.alloc (.cells (zeros 256) 5)
      have hka : Kept [] wr (wr.alloc (.cells (zeros 256) 5)) := (Kept.refl _ _).alloc _
      have hz : Bytes (wr.alloc (.cells (zeros 256) 5)) [] (some ⟨wr.heap.size, 0, none⟩) 256 (List.replicate 256 0) := by
        have h3 : Blk (wr.alloc (.cells (zeros 256) 5)) wr.heap.size 5 ((List.replicate 256 (0 : UInt8)).map b8).toArray := by
          rw [← replicate_b8]
          exact Blk.new wr 5 (zeros 256)
        have h4 := Bytes.of_blk (D := []) (bs := List.replicate 256 0) h3 (by simp) (by simp)
        simpa using h4
      refine wpList_append_new (W0 := w) rfl (.tmp 41) (.tmp 43) _ rfl w.heap.size 56 i0 _ 1 24 Tryz.underlying86 hi hz0 hz1 hz2 rfl (by omega) (.slice A3 (k + 1) c3) (k + 1) vs rfl hal _ [.slice (some ⟨wr.heap.size, 0, none⟩) 256 256] rfl (by simp) rfl (by simp [Value.oneCell']) (by simp only [maxLen]; omega) (by omega) (by have := HKR.out.size; simp; omega) (HKR.out.alloc _) (Nat.le_refl _) ?_
      intro v6 w6 ho6 hg6 hk6 _
      have hnew := OwnMat.snoc hal hl3 (fun i h => by
        obtain ⟨A, c, h1, h2⟩ := HV3.out i h
        exact ⟨A, c, h1, h2.keep0 hka⟩) hz (by simp) ho6 hg6
      have e : (layB table (ownB table) :: List.replicate k (List.replicate 256 (0 : UInt8))) ++ [List.replicate 256 0] = layB table (ownB table) :: List.replicate (k + 1) (List.replicate 256 0) := by
        rw [List.cons_append, ← List.replicate_succ']
      rw [e] at hnew
      have HN := Lib.hid hnew
      have HK6 := Lib.hid hk6
      clear hal hka hz hnew ho6 hg6 hk6 e
      go_wp2_with fail
      go_roundw
      case rel => exact ⟨k + 1, by omega, by go_num, HN.out, HK6.out⟩
      case measure => simp [intOf]; omega
    · obtain rfl : k = table := by omega
      obtain ⟨vs, ho3, hl3, hv3⟩ := HM.out
      obtain ⟨gg, cap, hv, hgb, hgl⟩ := ho3.form (by omega)
      injection hv with e1 _ e3
      subst e1; subst e3
      obtain ⟨A4, c4, hv4, hb4⟩ := hv3 1 (by simp; omega)
      have e0 : (layB k (ownB k) :: List.replicate k (List.replicate 256 (0 : UInt8)))[1]'(by simp; omega) = List.replicate 256 0 := by
        rw [List.getElem_cons_succ, List.getElem_replicate]
      rw [e0] at hv4 hb4
      rw [List.length_replicate] at hv4
      have hc1 : wr.cell? ⟨gg, 1, none⟩ = some (.slice A4 256 c4) := by rw [ho3.cellAt 1 (by omega), hv4]
      have hxok := rootIno_ok t ht
      obtain ⟨x, hx⟩ : ∃ x, x = rootIno t := ⟨_, rfl⟩
      have hxc : x.cells = #[.int .i64 2, .int .i64 7, .int .i64 1, .int .i64 0, .int .i64 t, .int .i64 0, .int .u8 0, .int .u8 0, .int .u8 0, .int .u8 0, .int .u8 0, .int .u8 0, .int .u8 0, .int .u8 0, .int .u8 0, .int .u8 0, .int .u8 0, .int .u8 0, .int .u8 0, .int .u8 0, .int .u8 0, .int .u8 0, .int .u8 0, .int .u8 0, .int .u8 0, .int .u8 0, .int .u8 0, .int .u8 0, .int .u8 0, .int .u8 0, .int .u8 0, .int .u8 0, .int .u8 0, .int .u8 0, .int .u8 0, .int .u8 0, .int .u8 0, .int .u8 0] := by
        rw [hx]
        apply Array.ext'
        simp [Ino.cells, pgCells, b8, rootIno, List.replicate]
      have cP := inode_Put (rootIno t) [] A4 c4 0 (List.replicate 256 0) wr (.inl hxok) hb4 (by simp) (by omega)
      rw [← hx, hxc] at cP
      have CP := Lib.hid cP
      have HO3 := Lib.hid ho3
      have HV3 := Lib.hid hv3
      have HX := Lib.hid hx
      have HXOK := Lib.hid hxok
      clear cP ho3 hv3 hx hxok hxc hv4 hb4 e0
      go_wp2_with (go_at_call 60; refine Stop.here ?_)
      refine Stop.go ?_
      refine CP.out.mono ?_
      rintro e w4 ⟨v4, rfl, ho4, hk4⟩
      obtain ⟨A5, c5, rfl⟩ := own_form ho4
      have hpl : (putIno (List.replicate 256 0) 0 x).length = 256 := putIno_length _ _ _ (by simp) (by omega) (by rw [HX.out]; rfl)
      have hb5 := Bytes.of_own (D := []) ho4 hpl (by simp) (by omega)
      have ho5 := own_keep0 HO3.out hk4
      have hc5 : w4.cell? ⟨gg, 1, none⟩ = some (.slice A4 256 c4) := by rw [← hc1]; exact hk4.cell hgl (by simp)
      have hf5 : w4.frozen? ⟨gg, 1, none⟩ = false := ho5.frozenAt 1
      obtain ⟨hm6, hk6⟩ := OwnMat.set_ (k := 1) ho5 hl3 (fun i h => by
        obtain ⟨A, c, h1, h2⟩ := HV3.out i h
        exact ⟨A, c, h1, h2.keep0 hk4⟩) (by omega) hb5 hpl.symm
      obtain ⟨W, hW⟩ : ∃ W, W = w4.setCell ⟨gg, 1, none⟩ (.slice A5 256 c5) := ⟨_, rfl⟩
      have eF : (layB k (ownB k) :: List.replicate k (List.replicate 256 (0 : UInt8))).set 1 (putIno (List.replicate 256 0) 0 x) = fmtPages k t := by
        rw [HX.out, fmtPages]
        obtain ⟨j, rfl⟩ : ∃ j, k = j + 1 := ⟨k - 1, by omega⟩
        rw [List.replicate_succ, List.set_cons_succ, List.set_cons_zero]
        rfl
      rw [eF, ← hW] at hm6
      have hkW : Kept [] w W := by
        rw [← hW] at hk6
        refine ((HKR.out.trans hk4).any.trans hk6).narrow (fun d hd hdl => ?_)
        rw [List.mem_singleton] at hd
        omega
      have hi0 := H.out.keep0 hkW
      obtain ⟨vs7, ho7, hl7, hv7⟩ := hm6
      have hc7 : ∀ i (h : i < (fmtPages k t).length), ∃ A c, W.cell? ⟨gg, i, none⟩ = some (.slice A (fmtPages k t)[i].length c) ∧ Bytes W [] A c (fmtPages k t)[i] := fun i h => by
        obtain ⟨A, c, h4, h5⟩ := hv7 i h
        exact ⟨A, c, by rw [ho7.cellAt i (by omega), h4], h5⟩
      obtain ⟨F, hF⟩ : ∃ F, F = fmtPages k t := ⟨_, rfl⟩
      have hF256 : ∀ i (h : i < F.length), F[i].length = 256 := fun i hi => by
        have hm : F[i] ∈ fmtPages k t := hF ▸ List.getElem_mem hi
        unfold fmtPages at hm
        rcases List.mem_cons.1 hm with h1 | hm
        · rw [h1]; exact HLL.out
        · rcases List.mem_cons.1 hm with h1 | hm
          · rw [h1, ← HX.out]; exact hpl
          · rw [(List.mem_replicate.1 hm).2]; simp
      rw [← hF] at hc7 hl7
      have HF := Lib.hid hF
      have hgW : gg < W.heap.size := by have := hk4.size; have := hk6.size; rw [← hW] at this; omega
      have HI0 := Lib.hid hi0
      have HC7 := Lib.hid hc7
      have HF256 := Lib.hid hF256
      have HKW := Lib.hid hkW
      clear ho4 hk4 hpl hb5 ho5 hk6 eF hkW hi0 ho7 hv7 hc7 hF256 hc1 hF HM CP HO3 HV3 HOM HK2
      have habw : ab < w.heap.size := by
        obtain ⟨_, _, _, hab, _⟩ := H.out.row
        exact hab.lt
      have hne : gg ∉ [ab] := by rw [List.mem_singleton]; omega
      have hFl : F.length ≤ g.length := by omega
      go_wp2_with fail
      rw [← hW]
      clear hW hc5 hf5
      go_loopw [59] (fun a wr => FsRel W ib pb ab g F a wr) (fun a _ => F.length - (intOf a).toNat)
      case atStart => exact ⟨0, Nat.zero_le _, rfl, by simpa using HI0.out, Kept.refl _ _⟩
      case round =>
        obtain ⟨j, hj, rfl, himg, hkj⟩ := hrel
        have HIJ := Lib.hid himg
        have HKJ := Lib.hid hkj
        clear himg hkj
        by_cases hjl : j < F.length
        · obtain ⟨A8, c8, hc8, hb8⟩ := HC7.out j hjl
          have hl8 := HF256.out j hjl
          rw [hl8] at hc8
          have hc9 : wr.cell? ⟨gg, j, none⟩ = some (.slice A8 256 c8) := by rw [← hc8]; exact HKJ.out.cell hgW hne
          have hgl2 : (F.take j ++ g.drop j).length = g.length := by simp; omega
          have cS := image_Set wr ib pb ab j (F.take j ++ g.drop j) [] A8 c8 F[j] HIJ.out (by rw [hgl2]; omega) (Sl.past hb8 HI0.out HKJ.out (by decide)) hl8
          have e9 : (F.take j ++ g.drop j).set j F[j] = F.take (j + 1) ++ g.drop (j + 1) := by
            rw [List.set_append_right _ _ (by simp; omega), List.take_succ_eq_append_getElem hjl, List.length_take, show j - min j F.length = 0 from by omega,
              List.drop_eq_getElem_cons (show j < g.length by omega), List.set_cons_zero, List.append_assoc]
            rfl
          rw [e9] at cS
          have CS := Lib.hid cS
          clear cS e9 hc8 hb8 hl8 hgl2
          go_wp2_with (go_at_call 61; refine Stop.here ?_)
          refine Stop.go ?_
          refine CS.out.mono ?_
          rintro e w9 ⟨rfl, hi9, hk9⟩
          have HI9 := Lib.hid hi9
          have HK9 := Lib.hid (HKJ.out.trans hk9)
          clear hi9 hk9
          go_wp2_with fail
          go_roundw
          case rel => exact ⟨j + 1, by omega, by go_num, HI9.out, HK9.out⟩
          case measure => simp [intOf]; omega
        · obtain rfl : j = F.length := by omega
          go_wp2_with fail
          go_ret
          refine ⟨rfl, ?_, HKW.out.any.trans HKJ.out⟩
          have hfin := HIJ.out
          rw [List.take_length, hl7] at hfin
          rw [← HF.out]
          exact hfin
end Go.Proofs.YtcbdjmlkjifamaaGreatDoor
