/-
  Package files: Read at a system that was made. Conditions: a state that is consistent; the inode's pages are the system's.
-/
import Derived.Test.YtcbdjmlkjifamaaGreatDoorQap
import Derived.Deep.RegionHeld3
set_option linter.unusedVariables false
set_option linter.unusedSimpArgs false

namespace Go.Proofs.YtcbdjmlkjifamaaGreatDoor
open Go.RowKit
set_option maxRecDepth 100000

/-- How many bytes Read reads. -/
def cutN (P S size : Nat) : Nat := if size ≤ P then 0 else min S (size - P)
theorem spanCut_nat (P S size : Nat) (h : spanMay (P : Int) (S : Nat) = 0) : spanCut P S size = (cutN P S size : Nat) := by
  unfold spanCut cutN
  by_cases c : size ≤ P
  · rw [if_pos (.inr (by omega)), if_pos c]
    rfl
  · rw [if_neg (by rintro (h1 | h1); exact h1 h; omega), if_neg c]
    omega
/-- The pages that Read reads; what it reads. -/
def readPg (g : List (List UInt8)) (x : Ino) (ps : List Part) : List (List UInt8) := ps.map fun p => if x.pageOf p = 0 then [] else g.getD (x.pageOf p) []
def readB (g : List (List UInt8)) (x : Ino) (P S : Nat) : List UInt8 := gather (spanParts P (cutN P S x.size)) (readPg g x (spanParts P (cutN P S x.size)))

/-- What the loop of Read knows. -/
def ReRel (W : World) (G : List (List UInt8)) (e v a : Value) (wr : World) : Prop :=
  ∃ (k : Nat) (vs : List Value), k ≤ G.length ∧ e = .int .i64 0 ∧ a = .int .i64 k ∧ wr.ownsRow W.heap.size 56 1 v k vs ∧
    (∀ i (h : i < G.length), i < k → ∃ A c, vs[i]? = some (.slice A G[i].length c) ∧ Bytes wr [] A c G[i]) ∧ Kept [] W wr

theorem ReRel.snoc {W w5 w6 : World} {G : List (List UInt8)} {k m c1 c' : Nat} {vs : List Value} {A1 a : Option Addr} {v6 : Value} {o : Obj} (hk : k < G.length) (ho : w5.ownsRow W.heap.size 56 1 (.slice A1 k c1) k vs)
    (hvs : ∀ i (h : i < G.length), i < k → ∃ A c, vs[i]? = some (.slice A G[i].length c) ∧ Bytes w5 [] A c G[i]) (hb : Bytes w5 [] a c' G[k]) (hm : m = G[k].length)
    (ho6 : w6.ownsRow W.heap.size 56 1 v6 (k + 1) (vs ++ [.slice a m c'])) (hg : (w5.alloc o).grownBy w6 (Value.slice A1 k c1).ownBlock) (hk6 : Kept [] W w6) : ReRel W G (.int .i64 0) v6 (.int .i64 (k + 1 : Nat)) w6 := by
  refine ⟨k + 1, _, by omega, rfl, rfl, ho6, fun i h hi => ?_, hk6⟩
  have hvl : vs.length = k := by simpa using ho.1
  have hka : Kept [] w5 (w5.alloc o) := (Kept.refl _ _).alloc _
  rcases Nat.lt_or_eq_of_le (Nat.le_of_lt_succ hi) with h3 | h3
  · obtain ⟨A, c, h4, h5⟩ := hvs i h h3
    exact ⟨A, c, by rw [List.getElem?_append_left (by omega)]; exact h4, (h5.keep0 hka).grown (ho.alloc o) (by decide) hg⟩
  · subst h3
    exact ⟨a, c', by rw [List.getElem?_append_right (by omega), hvl, ← hm]; simp, (hb.keep0 hka).grown (ho.alloc o) (by decide) hg⟩

set_option maxHeartbeats 4000000 in
theorem files_Read_ok (w : World) (fb ib pb ab table : Nat) (g : List (List UInt8)) (bm : List UInt8) (nodes : List Ino) (n P S : Nat) (x : Ino) (h : Fsys w fb ib pb ab table g bm nodes) (hx : nodes[n]? = some x) (hk : x.kind ≠ 0)
    (hmay : spanMay (P : Int) (S : Nat) = 0) (hp : ∀ i, i < 32 → (x.pages.getD i 0) ≠ 0 → table < (x.pages.getD i 0).toNat ∧ (x.pages.getD i 0).toNat < g.length) :
    Calls Tryz.prog 17 #[.pointer (some ⟨fb, 0, none⟩), .int .i64 n, .int .i64 P, .int .i64 S] w fun e w' => ∃ A c, e = .returned (.tuple #[.slice A (readB g x P S).length c, .int .i64 0]) ∧
      Bytes w' [] A c (readB g x P S) ∧ Kept [] w w' := by
  have hz := spanMay_zero hmay
  have hu := usedOf_some hx hk
  have cU : ∀ W, Kept [] w W → Calls Tryz.prog 35 #[.pointer (some ⟨fb, 0, none⟩), .int .i64 n] W fun e w' => e = .returned (.tuple #[.agg x.cells, .int .i64 0]) ∧ Kept [] W w' := fun W hW => by
    have := files_used_any W fb ib pb ab table g bm nodes n (h.keep0 hW)
    rw [hu] at this
    exact this
  have hgd := (h.fs.good x (List.mem_of_getElem? hx)).lim
  have hcut := spanCut_nat P S x.size hmay
  have hcl : cutN P S x.size ≤ S := by unfold cutN; split <;> omega
  have hmay2 : spanMay (P : Int) (cutN P S x.size : Nat) = 0 := by
    unfold spanMay
    rw [if_neg (by omega), if_neg (by omega)]
  obtain ⟨ps, hps⟩ : ∃ ps, ps = spanParts P (cutN P S x.size) := ⟨_, rfl⟩
  have hpn : ps.length ≤ 33 := by
    have := partsFrom_pages P (P + cutN P S x.size)
    rw [hps]
    unfold spanParts
    omega
  have hpm : ∀ p ∈ ps, p.page < 32 ∧ p.off + p.size ≤ 256 ∧ 0 < p.size := fun p hp => by
    rw [hps] at hp
    have := partsFrom_mem hp
    omega
  have hrb : readB g x P S = gather ps (readPg g x ps) := by rw [hps]; rfl
  rw [hrb]
  obtain ⟨G, hG⟩ : ∃ G, G = readPg g x ps := ⟨_, rfl⟩
  rw [← hG]
  have hGl : G.length = ps.length := by rw [hG]; simp [readPg]
  have hGi : ∀ i (h1 : i < G.length) (h2 : i < ps.length), G[i] = if x.pageOf ps[i] = 0 then [] else g.getD (x.pageOf ps[i]) [] := fun i h1 h2 => by
    subst hG
    simp [readPg]
  have hG256 : ∀ pg ∈ G, pg.length ≤ 256 := fun pg hpg => by
    obtain ⟨i, hi, rfl⟩ := List.getElem_of_mem hpg
    rw [hGi i hi (by omega)]
    split
    · simp
    · rw [List.getD_eq_getElem?_getD]
      cases hq : g[x.pageOf ps[i]]? with
      | none => simp
      | some q =>
        obtain ⟨h1, h2⟩ := List.getElem?_eq_some_iff.1 hq
        simp only [Option.getD_some]
        rw [← h2, h.img.len_at h1]
        exact Nat.le_refl _
  have c1 := fun W (hW : Old [] W) => span_Parts P S W [] hW hmay
  have c2 := fun W (hW : Old [] W) => span_Parts P (cutN P S x.size : Nat) W [] hW hmay2
  have cC := fun W => span_Cut P S x.size W (by omega) (by omega) (by omega) (by omega) (by omega) (by have := hgd.size; omega)
  simp only [hcut] at cC
  simp only [Int.toNat_natCast] at c1 c2
  rw [← hps] at c2
  have hxs := hgd.size
  have C1 := Lib.hid c1
  have C2 := Lib.hid c2
  have CC := Lib.hid cC
  have CU := Lib.hid cU
  have H := Lib.hid h
  have HL := Lib.hid hgd.len
  have HP := Lib.hid hp
  have HPM := Lib.hid hpm
  have HGI := Lib.hid hGi
  have HGL := Lib.hid hGl
  have HG := Lib.hid hG256
  clear cU hu h hx hk hp hpm hGi hGl hG256 c1 c2 cC hgd hG hrb hps hcut hmay hmay2
  go_enter Tryz.func17, Tryz.ntmps17
  go_wp2_with (go_at_call 35; refine Stop.here ?_)
  refine Stop.go ?_
  refine (CU.out w (Kept.refl _ _)).mono ?_
  rintro e w1 ⟨rfl, hk1⟩
  have HK1 := Lib.hid hk1
  clear hk1
  go_wp2_with (with_reducible refine stop_store (t := 53) ?_)
  refine Stop.go ?_
  refine wpList_store_row rfl 53 (.tmp 10) (.tmp 21) rfl w1.heap.size rfl x.cells rfl 53 Ino.zero.cells (heap_alloc_new w1 _) (by rw [x.cells_size HL.out]; exact ino_info) (by rw [x.cells_size HL.out]; rfl) x.one ?_
  obtain ⟨w2, hw2⟩ : ∃ w2, w2 = (w1.alloc (.cells Ino.zero.cells 53)).setRow w1.heap.size x.cells := ⟨_, rfl⟩
  have hw2' : w2 = w1.alloc (.cells x.cells 53) := by rw [hw2, World.setRow_alloc_new]
  show wpList _ _ _ _ _ ((w1.alloc (.cells Ino.zero.cells 53)).setRow w1.heap.size x.cells)
  rw [← hw2]
  have hk2 : Kept [] w w2 := by rw [hw2']; exact HK1.out.alloc _
  have hx2 : Blk w2 w1.heap.size 53 x.cells := by rw [hw2']; exact Blk.new _ _ _
  obtain ⟨nb, hnb⟩ : ∃ nb, nb = w1.heap.size := ⟨_, rfl⟩
  rw [← hnb] at hx2 ⊢
  have HK2 := Lib.hid hk2
  have HX2 := Lib.hid hx2
  clear hw2 hw2' HK1 hnb hk2 hx2
  go_wp2_with (go_at_call 36; refine Stop.here ?_)
  refine Stop.go ?_
  refine (C1.out w2 (Old.nil _)).mono ?_
  rintro e w3 ⟨A3, cc3, rfl, _, hk3⟩
  have hx3 := HX2.out.keep0 hk3
  have hs3 : w3.cell? ⟨nb, 3, none⟩ = some (.int .i64 x.size) := by rw [hx3.cell, Ino.at3]
  have HX3 := Lib.hid hx3
  have HK3 := Lib.hid (HK2.out.trans hk3)
  clear hk3 hx3
  go_wp2_with (first | (go_at_call 37; refine (CC.out _).mono ?_; rintro e w' ⟨rfl, rfl⟩) | (go_at_call 36; refine Stop.here ?_))
  refine Stop.go ?_
  refine (C2.out w3 (Old.nil _)).mono ?_
  rintro e w4 ⟨A4, cc4, rfl, hsl4, hk4⟩
  have HS4 := Lib.hid hsl4
  have HX4 := Lib.hid (HX3.out.keep0 hk4)
  have HK4 := Lib.hid (HK3.out.trans hk4)
  have HF4 := Lib.hid (H.out.keep0 (HK3.out.trans hk4))
  clear hsl4 hk4
  obtain ⟨i0, hi, hz0, hz1, hz2⟩ := info_parts bytes_info
  go_wp2_with fail
  go_loopw [11, 13, 47] (fun e v a wr => ReRel w4 G e v a wr) (fun _ _ a _ => ps.length - (intOf a).toNat)
  case atStart => exact ⟨0, [], Nat.zero_le _, rfl, rfl, World.ownsRow_nil _ _ _ _, fun i _ hi => by omega, Kept.refl _ _⟩
  case round =>
    obtain ⟨k, vs, hk, rfl, rfl, ho, hvs, hkr⟩ := hrel
    rw [HGL.out] at hk
    obtain ⟨A1, c1, rfl⟩ := own_form ho
    have HO := Lib.hid ho
    have HVS := Lib.hid hvs
    have HKR := Lib.hid hkr
    have HXR := Lib.hid (HX4.out.keep0 hkr)
    clear ho hvs hkr
    by_cases hlt : k < ps.length
    · obtain ⟨ad, rfl, hc0, hc1, hc2⟩ := partCells_get (HS4.out.keep0 HKR.out) hlt
      obtain ⟨hr0, hr1, hr2⟩ := HPM.out _ (List.getElem_mem hlt)
      have hgi := HGI.out k (by rw [HGL.out]; exact hlt) hlt
      obtain ⟨p, hpe⟩ : ∃ p, p = ps[k] := ⟨_, rfl⟩
      rw [← hpe] at hc0 hc1 hc2 hr0 hr1 hr2 hgi
      obtain ⟨y, hy⟩ : ∃ y, y = x.pageOf p := ⟨_, rfl⟩
      have hcy : ∀ W, Kept [] wr W → W.cell? ⟨nb, 6 + p.page, none⟩ = some (.int .u8 y) := fun W hW => by
        rw [(HXR.out.keep0 hW).cell, Ino.at6, pgCells_get _ _ (by rw [HL.out]; exact hr0), hy]
        rfl
      have hy8 : y < 256 := by rw [hy]; exact UInt8.toNat_lt _
      rw [← hy] at hgi
      have HY := Lib.hid hy
      clear hpe hy
      have hlG : k < G.length := by rw [HGL.out]; exact hlt
      have hcy1 : ∀ o, (wr.alloc o).cell? ⟨nb, 6 + p.page, none⟩ = some (.int .u8 y) := fun o => hcy _ ((Kept.refl _ _).alloc _)
      by_cases hy0 : y = 0
      · subst hy0
        rw [if_pos rfl] at hgi
        have HGk := Lib.hid hgi
        clear hcy hgi
        go_wp2_with (at_builtin; refine Stop.here ?_)
        refine Stop.go ?_
        refine wpList_append_new (W0 := w4) rfl (.tmp 74) (.tmp 76) _ rfl w4.heap.size 56 i0 _ 1 24 Tryz.underlying86 hi hz0 hz1 hz2 rfl (by omega) (.slice A1 k c1) k vs rfl (HO.out.alloc _) _ [.slice none 0 0] rfl (by simp) rfl (by simp [Value.oneCell']) (by simp only [maxLen]; omega) (by omega) (by have := HKR.out.size; simp; omega) (HKR.out.alloc _) (Nat.le_refl _) ?_
        intro v6 w6 ho6 hg6 hk6 _
        have hrel := ReRel.snoc hlG (HO.out.alloc _) (fun i h hi => by
          obtain ⟨A, c, h1, h2⟩ := HVS.out i h hi
          exact ⟨A, c, h1, h2.keep0 ((Kept.refl _ _).alloc _)⟩) (a := none) (c' := 0) (m := 0) (by rw [HGk.out]; exact Bytes.nil_ _ _) (by rw [HGk.out]; rfl) ho6 hg6 hk6
        have HREL := Lib.hid hrel
        clear hrel ho6 hg6 hk6
        go_wp2_with fail
        go_roundw
        case rel => exact HREL.out
        case measure => simp [intOf]; omega
      · have hyn : ((y : Int) == 0) = false := by rw [beq_eq_false_iff_ne]; omega
        rw [if_neg hy0] at hgi
        have hyp : y < g.length := by
          have := HP.out p.page hr0
          have h2 := HY.out
          unfold Ino.pageOf at h2
          rw [← h2] at this
          exact (this (fun h0 => hy0 (by rw [h2, h0]; rfl))).2
        have hgy : g[y]? = some G[k] := by
          rw [hgi, List.getD_eq_getElem?_getD, List.getElem?_eq_getElem hyp]
          rfl
        have hl6 : G[k].length = 256 := by
          obtain ⟨h1, h2⟩ := List.getElem?_eq_some_iff.1 hgy
          rw [← h2]
          exact H.out.img.len_at h1
        have hfr := HF4.out.keep0 HKR.out
        have hpgc := fun W (hW : Kept [] wr W) => image_Page W ib pb ab y g G[k] (hfr.keep0 hW).img hgy
        have HPGC := Lib.hid hpgc
        have HL6 := Lib.hid hl6
        have HFR := Lib.hid hfr
        have HCY := Lib.hid hcy
        clear hcy hgi hgy hl6 hfr hpgc
        go_wp2_with fail
        obtain ⟨W5, hW5⟩ : ∃ W5, W5 = wr.alloc (.cells #[.int .i64 p.page, .int .i64 p.off, .int .i64 p.size] 88) := ⟨_, rfl⟩
        have hk5 : Kept [] wr W5 := by rw [hW5]; exact (Kept.refl _ _).alloc _
        have hp5 : Blk W5 wr.heap.size 88 #[.int .i64 p.page, .int .i64 p.off, .int .i64 p.size] := by rw [hW5]; exact Blk.new _ _ _
        rw [← hW5]
        clear hW5 hcy1
        obtain ⟨q5, hq5⟩ : ∃ q5, q5 = wr.heap.size := ⟨_, rfl⟩
        rw [← hq5] at hp5 ⊢
        have hp0 : W5.cell? ⟨q5, 0, none⟩ = some (.int .i64 p.page) := by rw [hp5.cell]; rfl
        have hp6 := HCY.out _ hk5
        have hp7 := (HFR.out.keep0 hk5).c0
        have hq0 : W5.drew.cell? ⟨q5, 0, none⟩ = some (.int .i64 p.page) := hp0
        have HP := Lib.hid (HPGC.out _ hk5.drew)
        have HB5 := Lib.hid hp5
        have HKD := Lib.hid hk5.drew
        have HKE := Lib.hid hk5
        clear hk5 hp5 hq5
        have hwr : IntKind.i64.wrap (y : Int) = y := IntWalk.i64_in _ (by omega)
        have hp32 : (p.page : Int) < 32 := by omega
        have hp00 : (0 : Int) ≤ (p.page : Int) := by omega
        go_region_held3 (fun w' => w'.cell? ⟨fb, 0, none⟩ = some (.pointer (some ⟨ib, 0, none⟩)) ∧ w'.cell? ⟨q5, 0, none⟩ = some (.int .i64 p.page) ∧ w'.cell? ⟨nb, 6 + p.page, none⟩ = some (.int .u8 y))
          (first | exact ⟨k7, k0, k6⟩ | exact ⟨hp7, hp0, hp6⟩ | go_keep)
          ((go_at_call 33; (with_reducible refine HP.out.mono ?_); rintro e w5 ⟨v5, rfl, ho5, hk5⟩; obtain ⟨A5, c5, rfl⟩ := own_form ho5; (have k7 : w5.cell? ⟨fb, 0, none⟩ = some (.pointer (some ⟨ib, 0, none⟩)) := (HFR.out.keep0 (HKD.out.trans hk5)).c0); (have k0 : w5.cell? ⟨q5, 0, none⟩ = some (.int .i64 p.page) := by rw [(HB5.out.drew.keep0 hk5).cell]; rfl); (have k6 : w5.cell? ⟨nb, 6 + p.page, none⟩ = some (.int .u8 y) := HCY.out _ (HKD.out.trans hk5)); have HO5 := Lib.hid ho5; have HK5 := Lib.hid hk5; clear ho5 hk5))
        all_goals
          clear hwr
          have hk5 : Kept [] wr w5 := HKD.out.trans HK5.out
          have hb5 := Bytes.of_own (D := []) HO5.out HL6.out (by simp) (by omega)
          have ho5 := own_keep0 HO.out hk5
          have HK6 := Lib.hid (HKR.out.trans hk5)
          have HOW := Lib.hid ho5
          have HKW := Lib.hid hk5
          have HB5 := Lib.hid hb5
          clear hk5 hb5 ho5
          go_wp2_with (at_builtin; refine Stop.here ?_)
          refine Stop.go ?_
          refine wpList_append_new (W0 := w4) rfl (.tmp 74) (.tmp 76) _ rfl w4.heap.size 56 i0 _ 1 24 Tryz.underlying86 hi hz0 hz1 hz2 rfl (by omega) (.slice A1 k c1) k vs rfl HOW.out _ [.slice A5 256 c5] rfl rfl rfl (by simp [Value.oneCell']) (by simp only [maxLen]; omega) (by omega) HK6.out.size HK6.out (Nat.le_refl _) ?_
          intro v6 w6 ho6 hg6 hk6 _
          have hrel := ReRel.snoc hlG HOW.out (fun i h hi => by
            obtain ⟨A, c, h1, h2⟩ := HVS.out i h hi
            exact ⟨A, c, h1, h2.keep0 HKW.out⟩) HB5.out HL6.out.symm ho6 hg6 hk6
          have HREL := Lib.hid hrel
          clear hrel ho6 hg6 hk6
          go_wp2_with fail
          go_roundw
          case rel => exact HREL.out
          case measure => simp [intOf]; omega
    · obtain rfl : k = ps.length := by omega
      have hgl := HGL.out
      have hvl : vs.length = ps.length := by simpa using HO.out.1
      obtain ⟨A', c', he, hsl⟩ := Sl.of_row (D := []) HO.out (by simp) (by omega)
      injection he with e1 _ e3
      subst e1; subst e3
      have hmat : Mat wr [] A1 c1 G := by
        refine ⟨vs, by rw [hgl]; exact hsl, fun i hi => ?_⟩
        obtain ⟨A, c, h1, h2⟩ := HVS.out i hi (by omega)
        exact ⟨A, c, h1, h2⟩
      have hg := span_Gather [] A4 cc4 ps A1 c1 G wr (Old.nil _) (HS4.out.keep0 HKR.out) hmat hgl (fun p hp => (HPM.out p hp).2) HG.out (by omega)
      rw [hgl] at hg
      have HGA := Lib.hid hg
      have HKF := Lib.hid (HK4.out.trans HKR.out)
      clear hsl hmat hg
      go_wp2_with (go_at_call 38; refine Stop.here ?_)
      refine Stop.go ?_
      refine HGA.out.mono ?_
      rintro e w9 ⟨A9, c9, rfl, hb9, hk9⟩
      have HB9 := Lib.hid hb9
      have HK9 := Lib.hid (HKF.out.trans hk9)
      clear hb9 hk9
      go_wp2_with fail
      go_ret2
      exact ⟨A9, c9, rfl, HB9.out, HK9.out⟩
end Go.Proofs.YtcbdjmlkjifamaaGreatDoor
