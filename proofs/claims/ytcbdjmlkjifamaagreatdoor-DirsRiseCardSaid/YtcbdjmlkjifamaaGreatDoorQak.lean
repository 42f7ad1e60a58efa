/-
  inode.Used at inodes that may be; slices.Sort and slices.Compact at rows of the call's own. Condition: no page twice. inode.May: what it returns at inodes that may be, and at those that Make is handed. Conditions: as the theorems say. inode.May at the inode that is Free, and at what Make may not make. No condition beyond the numbers.
-/
import Derived.Test.YtcbdjmlkjifamaaGreatDoorQaj
import Derived.Sort.OwnSortedInts
import Derived.Deep.Onto
import Derived.Deep.RegionLaw
set_option linter.unusedVariables false
set_option linter.unusedSimpArgs false

/- inode.Used at inodes that may be; slices.Sort and slices.Compact at rows of the call's own. Condition: no page twice. -/
namespace Go.Proofs.YtcbdjmlkjifamaaGreatDoor
open Go.RowKit
set_option maxRecDepth 100000

theorem map_sort_cast (zs : List Nat) : ((zs.map (fun z : Nat => (z : Int))).mergeSort fun x y => decide (x ≤ y)) = (zs.mergeSort fun x y => decide (x ≤ y)).map (fun z : Nat => (z : Int)) := by
  rw [List.map_mergeSort]
  intro a _ b _
  simp

theorem slices_Sort_own (base g n cap : Nat) (zs : List Nat) (w : World) (hn : zs.length = n) (hn2 : n ≤ 100000) (h : w.ownsRow base 3 1 (.slice (some ⟨g, 0, none⟩) n cap) n (zs.map i64)) :
    Calls Tryz.prog 113 #[.slice (some ⟨g, 0, none⟩) n cap] w fun e w' => e = .returned (.tuple #[]) ∧
      w'.ownsRow base 3 1 (.slice (some ⟨g, 0, none⟩) n cap) n ((zs.mergeSort fun x y => decide (x ≤ y)).map i64) ∧ Kept [g] w w' := by
  rcases h.2 with ⟨h', _⟩ | ⟨g', cap', cur, h', hb, hg, hnc, hcm, hcs, htake⟩
  · cases h'
  · simp only [Value.slice.injEq, Option.some.injEq, Addr.mk.injEq, and_true, true_and] at h'
    obtain ⟨rfl, rfl⟩ := h'
    have hmm : zs.map i64 = (zs.map (fun z : Nat => (z : Int))).map (Value.int .i64) := by rw [List.map_map]; rfl
    have hl : (zs.map (fun z : Nat => (z : Int))).length = n := by rw [List.length_map, hn]
    rw [Nat.mul_one, hmm] at htake
    have hH := holds_of_blockI (ss := zs.map (fun z : Nat => (z : Int))) hg (by rw [hl]; exact htake)
    have hc := Tryz.slices_Sort_int g 0 cap (zs.map (fun z : Nat => (z : Int))) w hH (lt_of_heap hg) (by omega)
    rw [hl] at hc
    refine hc.mono ?_
    rintro e w' ⟨rfl, k, os, rfl⟩
    refine ⟨rfl, ?_, ?_⟩
    · have := ownsRow_sortedI (n := k) (os := os) (ss := zs.map (fun z : Nat => (z : Int))) (ts := (zs.map (fun z : Nat => (z : Int))).mergeSort fun x y => decide (x ≤ y)) (by rw [List.length_mergeSort]) hb hg (by omega) hcm hcs
      rw [hl, map_sort_cast, List.map_map] at this
      rw [map_sort_cast]
      exact this
    · have hgr := grownBy_sortedI (w := w) (g := g) (n := k) (os := os) ((zs.map (fun z : Nat => (z : Int))).mergeSort fun x y => decide (x ≤ y)).toArray
      exact (Kept.refl [g] w).grown hgr (fun j hj => .inr (by injection hj with hj; simp [hj]))

theorem slices_Compact_nodup (D : List Nat) (A : Option Addr) (c n : Nat) (zs : List Nat) (w : World) (h : Ints w D A c zs) (hn : zs.length = n) (hn2 : n ≤ 100000) (hd : zs.Nodup) :
    Calls Tryz.prog 114 #[.slice A n c] w fun e w' => e = .returned (.slice A n c) ∧ Kept [] w w' := by
  have HS := Lib.hid h
  have HN := Lib.hid hn
  have HD := Lib.hid hd
  clear h hn hd
  by_cases hsm : n < 2
  · go_enter Tryz.func114, Tryz.ntmps114
    go_wp2_with fail
    go_ret
    exact ⟨rfl, Kept.refl _ _⟩
  · go_enter Tryz.func114, Tryz.ntmps114
    go_wp2_with fail
    go_loopw [3] (fun a wr => ∃ k : Nat, 1 ≤ k ∧ k ≤ n ∧ a = .int .i64 k ∧ Kept [] w wr) (fun a _ => n - (intOf a).toNat)
    case atStart => exact ⟨1, by omega, by omega, rfl, Kept.refl _ _⟩
    case round =>
      obtain ⟨k, hk1, hk, rfl, hkp⟩ := hrel
      have HK := Lib.hid hkp
      clear hkp
      by_cases hlt : k < n
      · obtain ⟨ad, rfl, hc1⟩ := Ints.get (HS.out.keep0 HK.out) (k := k) (by rw [HN.out]; exact hlt)
        obtain ⟨ad2, hA, hc0⟩ := Ints.get (HS.out.keep0 HK.out) (k := k - 1) (by rw [HN.out]; omega)
        injection hA with hA
        subst hA
        obtain ⟨y, hy⟩ : ∃ y, y = zs[k]'(by rw [HN.out]; exact hlt) := ⟨_, rfl⟩
        obtain ⟨z, hz⟩ : ∃ z, z = zs[k - 1]'(by rw [HN.out]; omega) := ⟨_, rfl⟩
        rw [← hy] at hc1
        rw [← hz] at hc0
        have hne : ((y : Int) == z) = false := by
          rw [beq_eq_false_iff_ne]
          intro he
          have := List.pairwise_iff_getElem.1 HD.out (k - 1) k (by rw [HN.out]; omega) (by rw [HN.out]; exact hlt) (by omega)
          rw [← hy, ← hz] at this
          omega
        clear hy hz
        go_wp2_with fail
        go_region
        go_wp2_with fail
        go_roundw
        case rel => exact ⟨k + 1, by omega, by omega, by go_num, HK.out.drew⟩
        case measure => simp [intOf]; omega
      · obtain rfl : k = n := by omega
        go_wp2_with fail
        go_ret
        exact ⟨rfl, HK.out⟩

/-- The pages that an inode has, sorted. -/
def Ino.used (x : Ino) : List Nat := x.all.mergeSort fun a b => decide (a ≤ b)

theorem inode_Used (x : Ino) (w : World) (hl : x.pages.length = 32) (ha : x.attr ≤ 255) (hd : x.all.Nodup) :
    Calls Tryz.prog 101 #[.agg x.cells] w fun e w' => ∃ g c, e = .returned (.slice (some ⟨g, 0, none⟩) x.all.length c) ∧ w'.ownsRow w.heap.size 3 1 (.slice (some ⟨g, 0, none⟩) x.all.length c) x.all.length (x.used.map i64) ∧ Kept [] w w' := by
  have hal : x.all.length ≤ 33 := by
    unfold Ino.all
    refine Nat.le_trans (List.length_filter_le _ _) ?_
    simp [hl]
  have hul : x.used.length = x.all.length := List.length_mergeSort _
  have hud : x.used.Nodup := (List.mergeSort_perm _ _).nodup_iff.2 hd
  have hu1 : x.used.filter (fun z => !(!(decide (1 ≤ z) && decide (z ≤ 255)))) = x.used := by
    rw [List.filter_eq_self]
    intro a h
    have h2 := (List.mergeSort_perm _ _).mem_iff.1 h
    unfold Ino.all at h2
    rw [List.mem_filter] at h2
    obtain ⟨h3, h4⟩ := h2
    have h5 : a ≠ 0 := by simpa using h4
    rcases List.mem_cons.1 h3 with h6 | h6
    · subst h6; simp; omega
    · obtain ⟨p, _, h7⟩ := List.mem_map.1 h6
      have := UInt8.toNat_lt p
      subst h7
      simp; omega
  have HL := Lib.hid hl
  have HA := Lib.hid hal
  have HUL := Lib.hid hul
  have HUD := Lib.hid hud
  have HU := Lib.hid hu1
  have hlen : ∃ m, m = x.all.length := ⟨_, rfl⟩
  clear hl hd hul hud hu1
  go_enter Tryz.func101, Tryz.ntmps101
  go_wp2_with (with_reducible refine stop_load (t := 53) ?_)
  refine Stop.go ?_
  refine wpList_load_row rfl 53 _ rfl w.heap.size rfl 53 x.cells (0, 0) _ (Blk.new w 53 x.cells) Tryz.underlying53 rfl (by rw [x.cells_size HL.out]; exact ino_info) ?_
  go_wp2_with (go_at_call 102; refine Stop.here ?_)
  refine Stop.go ?_
  refine (inode_all x _ HL.out).mono ?_
  rintro e w1 ⟨g, c, rfl, ho, hk⟩
  have hk1 : Kept [] w w1 := ((Kept.refl [] w).alloc _).trans hk
  have hg := (ho.lt g rfl)
  have hgw : w.heap.size ≤ g := by simp at hg; omega
  have HO := Lib.hid (ho.mono (base' := w.heap.size) (by simp))
  have HK := Lib.hid hk1
  clear ho hk hk1 hg
  go_wp2_with (go_at_call 113; refine Stop.here ?_)
  refine Stop.go ?_
  refine (slices_Sort_own w.heap.size g _ c x.all w1 rfl (by have := HA.out; omega) HO.out).mono ?_
  rintro e w2 ⟨rfl, ho2, hk2⟩
  have hk3 : Kept [] w w2 := (HK.out.any.trans hk2).narrow (fun d hd hdl => by rw [List.mem_singleton] at hd; omega)
  have HO2 := Lib.hid ho2
  have HK2 := Lib.hid hk3
  clear ho2 hk2 hk3 HO HK
  go_wp2_with (go_at_call 114; refine Stop.here ?_)
  refine Stop.go ?_
  have hints : Ints w2 [] (some ⟨g, 0, none⟩) c x.used := by
    have := Sl.of_own (D := []) HO2.out (by simp) (by have := HA.out; omega)
    unfold Ints
    rw [HUL.out]
    exact this
  refine (slices_Compact_nodup [] _ c _ x.used w2 hints HUL.out (by have := HA.out; omega) HUD.out).mono ?_
  rintro e w3 ⟨rfl, hk3⟩
  have HO3 := Lib.hid (own_keep0 HO2.out hk3)
  have HK3 := Lib.hid (HK2.out.trans hk3)
  clear HO2 HK2 hk3 hints
  go_wp2_with (go_at_call 115; refine Stop.here ?_)
  refine Stop.go ?_
  refine (slices_DeleteFunc_int _ (.inr rfl) (fun z => !(decide (1 ≤ z) && decide (z ≤ 255))) w.heap.size g x.all.length c x.used _ HUL.out (by have := HA.out; omega) HO3.out (fun z W => inode_Used1 z W)).mono ?_
  rintro e w4 ⟨rfl, ho4, hk4⟩
  rw [HU.out, HUL.out] at ho4 ⊢
  have HO4 := Lib.hid ho4
  have HK4 := Lib.hid ((HK3.out.any.trans hk4).narrow (D' := []) (fun d hd hdl => by rw [List.mem_singleton] at hd; omega))
  clear ho4 hk4
  go_wp2_with fail
  go_ret
  exact ⟨g, c, rfl, HO4.out, HK4.out⟩
end Go.Proofs.YtcbdjmlkjifamaaGreatDoor

/- inode.May: what it returns at inodes that may be, and at those that Make is handed. Conditions: as the theorems say. -/
namespace Go.Proofs.YtcbdjmlkjifamaaGreatDoor
open Go.RowKit
set_option maxRecDepth 100000

/-- An inode that is not Free may be so. -/
structure Ino.Ok (x : Ino) : Prop where
  kind : 1 ≤ x.kind ∧ x.kind ≤ 3
  mode : x.mode ≤ 7
  links : x.links ≤ 65535
  size : x.size ≤ 8192
  time : x.time ≤ 9223372036854775807
  attr : x.attr ≤ 215
  len : x.pages.length = 32
  page : ∀ i, i < 32 → (x.pages.getD i 0).toNat < 216 ∧ ((x.pages.getD i 0).toNat ≠ 0 → i < (x.size + 255) / 256)
  nodup : x.all.Nodup

set_option maxHeartbeats 2000000 in
theorem inode_May (x : Ino) (w : World) (h : x.Ok) : Calls Tryz.prog 64 #[.agg x.cells] w fun e w' => e = .returned (.bool true) ∧ Kept [] w w' := by
  obtain ⟨hk1, hk2⟩ := h.kind
  have hk3 : (x.kind : Int) ≤ 3 := by omega
  have hm : (x.mode : Int) ≤ 7 := by have := h.mode; omega
  have hli : (x.links : Int) ≤ 65535 := by have := h.links; omega
  have hs : (x.size : Int) ≤ 8192 := by have := h.size; omega
  have ht : ¬ (x.time : Int) < 0 := by omega
  have ha : (x.attr : Int) ≤ 215 := by have := h.attr; omega
  have hkz : ((x.kind : Int) == 0) = false := by rw [beq_eq_false_iff_ne]; omega
  have a0 := x.at0
  have a1 := x.at1
  have a2 := x.at2
  have a3 := x.at3
  have a4 := x.at4
  have a5 := x.at5
  have HX := Lib.hid h
  clear h
  go_enter Tryz.func64, Tryz.ntmps64
  go_wp2_with (first | (go_at_call 100; refine (inode_in _ _ _ _).mono ?_; rintro e w' ⟨rfl, rfl⟩) | (with_reducible refine stop_load (t := 51) ?_))
  refine Stop.go ?_
  refine wpList_load_part rfl 51 _ rfl w.heap.size 6 rfl 53 x.cells (pgCells x.pages) (0, 0) _ (Blk.new w 53 x.cells) Tryz.underlying51 rfl (by rw [pgCells_size, HX.out.len]; exact arr_info) (fun j _ => x.at6 j) ?_
  go_wp2_with fail
  go_loopw [3, 4, 47] (fun _ _ i wr => ∃ k : Nat, k ≤ 32 ∧ i = .int .i64 k ∧ Kept [] (w.alloc (.cells x.cells 53)) wr) (fun _ _ i _ => 32 - (intOf i).toNat)
  case atStart => exact ⟨0, by omega, rfl, Kept.refl _ _⟩
  case round =>
    obtain ⟨k, hk, rfl, hkp⟩ := hrel
    have hb := (Blk.new w 53 x.cells).keep0 hkp
    have c3 : wr.cell? ⟨w.heap.size, 3, none⟩ = some (.int .i64 x.size) := by rw [hb.cell, x.at3]
    have HK := Lib.hid hkp
    have HB := Lib.hid hb
    clear hkp hb
    by_cases hlt : k < 32
    · obtain ⟨y, hy⟩ : ∃ y, y = (x.pages.getD k 0).toNat := ⟨_, rfl⟩
      have hp := pgCells_get x.pages k (by rw [HX.out.len]; exact hlt)
      have hps := run_index_arr _ k _ hlt hp
      obtain ⟨hp1, hp2⟩ := HX.out.page k hlt
      rw [← hy] at hps hp1 hp2
      clear hp hy
      by_cases hy0 : y = 0
      · go_wp2_with fail
        go_roundw
        case rel => exact ⟨k + 1, by omega, by go_num, HK.out⟩
        case measure => simp [intOf]; omega
      · have hy1 : ((y : Int) != 0) = true := by simpa using hy0
        have hy2 : (y : Int) < 216 := by omega
        have hy3 := hp2 hy0
        have hy4 : (k : Int) < ((x.size : Int) + 255) / 256 := by omega
        clear hp2
        go_wp2_with fail
        go_roundw
        case rel => exact ⟨k + 1, by omega, by go_num, HK.out⟩
        case measure => simp [intOf]; omega
    · have hal : x.all.length ≤ 33 := by
        unfold Ino.all
        refine Nat.le_trans (List.length_filter_le _ _) ?_
        simp [HX.out.len]
      have HAL := Lib.hid hal
      have cU : ∀ W, Calls Tryz.prog 101 #[.agg x.cells] W fun e w' => ∃ g c, e = .returned (.slice (some ⟨g, 0, none⟩) x.all.length c) ∧ Kept [] W w' := fun W =>
        (inode_Used x W HX.out.len (by have := HX.out.attr; omega) HX.out.nodup).mono (by rintro e w' ⟨g, c, rfl, _, hk⟩; exact ⟨g, c, rfl, hk⟩)
      have cA : ∀ W, Calls Tryz.prog 102 #[.agg x.cells] W fun e w' => ∃ g c, e = .returned (.slice (some ⟨g, 0, none⟩) x.all.length c) ∧ Kept [] W w' := fun W =>
        (inode_all x W HX.out.len).mono (by rintro e w' ⟨g, c, rfl, _, hk⟩; exact ⟨g, c, rfl, hk⟩)
      have lD : ∀ W, Blk W w.heap.size 53 x.cells → (loadVar 53 ⟨w.heap.size, 0, none⟩).run Tryz.prog W = .ok (.agg x.cells) W := fun W hW =>
        run_loadVar_row W w.heap.size 53 _ x.cells (0, 0) _ hW Tryz.underlying53 rfl (by rw [x.cells_size HX.out.len]; exact ino_info)
      have CU := Lib.hid cU
      have CA := Lib.hid cA
      have LD := Lib.hid lD
      clear cU cA lD hal a0 a1 a2 a3 a4 a5 c3
      have hB : Blk wr.drew w.heap.size 53 x.cells := HB.out.drew
      have hKK : Kept [] w wr.drew := (((Kept.refl [] w).alloc _).trans HK.out).drew
      have HI := Lib.hid (show (Tryz.prog.info? 53).map (·.size) = some x.cells.size by rw [x.cells_size HX.out.len]; exact ino_info)
      clear HK HB LD
      go_wp2_with fail
      refine wp_region_any (by kernel_rfl) ?_
      change wpAny _ _ _ _ _ _ _ (World.drew _)
      refine wpAny_ready (rs := [0, 3]) (by kernel_rfl) (by simp) ?_
      refine (AllReady.cons rfl (fun K hK => ?_) (AllReady.cons rfl (fun K hK => ?_) AllReady.nil))
      · skip
        refine step_load_row rfl 53 (.tmp 1) rfl w.heap.size rfl 53 x.cells (0, 0) _ hB Tryz.underlying53 rfl HI.out ?_
        refine hK _ _ ?_
        clear hK K
        refine wpAny_ready (rs := [1, 3]) (by kernel_rfl) (by simp) ?_
        refine (AllReady.cons rfl (fun K hK => ?_) (AllReady.cons rfl (fun K hK => ?_) AllReady.nil))
        · skip
          go_simp
          refine (CU.out _).mono ?_
          rintro e w1 ⟨g1, c1, rfl, hk⟩
          have hb1 := Blk.keep0 hB hk
          have hkk1 := Kept.trans hKK hk
          clear hk
          refine hK _ _ ?_
          clear hK K
          refine wpAny_take (i := 2) (v := .int .i64 x.all.length) rfl (by kernel_rfl) (by kernel_rfl) (by kernel_rfl) (fun _ _ _ h => h) (Or.inl ⟨by rfl, ?_⟩) ?_
          · intro w
            go_simp
          refine wpAny_ready (rs := [3]) (by kernel_rfl) (by simp) ?_
          refine (AllReady.cons rfl (fun K hK => ?_) AllReady.nil)
          refine step_load_row rfl 53 (.tmp 1) rfl w.heap.size rfl 53 x.cells (0, 0) _ hb1 Tryz.underlying53 rfl HI.out ?_
          refine hK _ _ ?_
          clear hK K
          refine wpAny_ready (rs := [4]) (by kernel_rfl) (by simp) ?_
          refine (AllReady.cons rfl (fun K hK => ?_) AllReady.nil)
          go_simp
          refine (CA.out _).mono ?_
          rintro e w2 ⟨g2, c2, rfl, hk⟩
          have hb2 := Blk.keep0 hb1 hk
          have hkk2 := Kept.trans hkk1 hk
          clear hk
          refine hK _ _ ?_
          clear hK K
          refine wpAny_take (i := 5) (v := .int .i64 x.all.length) rfl (by kernel_rfl) (by kernel_rfl) (by kernel_rfl) (fun _ _ _ h => h) (Or.inl ⟨by rfl, ?_⟩) ?_
          · intro w
            go_simp
          refine wpAny_ready (rs := [6]) (by kernel_rfl) (by simp) ?_
          refine (AllReady.cons rfl (fun K hK => ?_) AllReady.nil)
          go_simp
          refine hK _ _ ?_
          clear hK K
          refine wpAny_ready (rs := [7]) (by kernel_rfl) (by simp) ?_
          refine (AllReady.cons rfl (fun K hK => ?_) AllReady.nil)
          go_simp
          refine hK _ _ ?_
          clear hK K
          refine wpAny_done (by kernel_rfl) ?_ _
          go_wp2_with fail
          go_ret
          exact ⟨ret_bool (by simp), hkk2⟩
        · skip
          refine step_load_row rfl 53 (.tmp 1) rfl w.heap.size rfl 53 x.cells (0, 0) _ hB Tryz.underlying53 rfl HI.out ?_
          refine hK _ _ ?_
          clear hK K
          refine wpAny_ready (rs := [1]) (by kernel_rfl) (by simp) ?_
          refine (AllReady.cons rfl (fun K hK => ?_) AllReady.nil)
          go_simp
          refine (CU.out _).mono ?_
          rintro e w1 ⟨g1, c1, rfl, hk⟩
          have hb1 := Blk.keep0 hB hk
          have hkk1 := Kept.trans hKK hk
          clear hk
          refine hK _ _ ?_
          clear hK K
          refine wpAny_take (i := 2) (v := .int .i64 x.all.length) rfl (by kernel_rfl) (by kernel_rfl) (by kernel_rfl) (fun _ _ _ h => h) (Or.inl ⟨by rfl, ?_⟩) ?_
          · intro w
            go_simp
          refine wpAny_ready (rs := [4]) (by kernel_rfl) (by simp) ?_
          refine (AllReady.cons rfl (fun K hK => ?_) AllReady.nil)
          go_simp
          refine (CA.out _).mono ?_
          rintro e w2 ⟨g2, c2, rfl, hk⟩
          have hb2 := Blk.keep0 hb1 hk
          have hkk2 := Kept.trans hkk1 hk
          clear hk
          refine hK _ _ ?_
          clear hK K
          refine wpAny_take (i := 5) (v := .int .i64 x.all.length) rfl (by kernel_rfl) (by kernel_rfl) (by kernel_rfl) (fun _ _ _ h => h) (Or.inl ⟨by rfl, ?_⟩) ?_
          · intro w
            go_simp
          refine wpAny_ready (rs := [6]) (by kernel_rfl) (by simp) ?_
          refine (AllReady.cons rfl (fun K hK => ?_) AllReady.nil)
          go_simp
          refine hK _ _ ?_
          clear hK K
          refine wpAny_ready (rs := [7]) (by kernel_rfl) (by simp) ?_
          refine (AllReady.cons rfl (fun K hK => ?_) AllReady.nil)
          go_simp
          refine hK _ _ ?_
          clear hK K
          refine wpAny_done (by kernel_rfl) ?_ _
          go_wp2_with fail
          go_ret
          exact ⟨ret_bool (by simp), hkk2⟩
      · skip
        refine step_load_row rfl 53 (.tmp 1) rfl w.heap.size rfl 53 x.cells (0, 0) _ hB Tryz.underlying53 rfl HI.out ?_
        refine hK _ _ ?_
        clear hK K
        refine wpAny_ready (rs := [0]) (by kernel_rfl) (by simp) ?_
        refine (AllReady.cons rfl (fun K hK => ?_) AllReady.nil)
        refine step_load_row rfl 53 (.tmp 1) rfl w.heap.size rfl 53 x.cells (0, 0) _ hB Tryz.underlying53 rfl HI.out ?_
        refine hK _ _ ?_
        clear hK K
        refine wpAny_ready (rs := [1]) (by kernel_rfl) (by simp) ?_
        refine (AllReady.cons rfl (fun K hK => ?_) AllReady.nil)
        go_simp
        refine (CU.out _).mono ?_
        rintro e w1 ⟨g1, c1, rfl, hk⟩
        have hb1 := Blk.keep0 hB hk
        have hkk1 := Kept.trans hKK hk
        clear hk
        refine hK _ _ ?_
        clear hK K
        refine wpAny_take (i := 2) (v := .int .i64 x.all.length) rfl (by kernel_rfl) (by kernel_rfl) (by kernel_rfl) (fun _ _ _ h => h) (Or.inl ⟨by rfl, ?_⟩) ?_
        · intro w
          go_simp
        refine wpAny_ready (rs := [4]) (by kernel_rfl) (by simp) ?_
        refine (AllReady.cons rfl (fun K hK => ?_) AllReady.nil)
        go_simp
        refine (CA.out _).mono ?_
        rintro e w2 ⟨g2, c2, rfl, hk⟩
        have hb2 := Blk.keep0 hb1 hk
        have hkk2 := Kept.trans hkk1 hk
        clear hk
        refine hK _ _ ?_
        clear hK K
        refine wpAny_take (i := 5) (v := .int .i64 x.all.length) rfl (by kernel_rfl) (by kernel_rfl) (by kernel_rfl) (fun _ _ _ h => h) (Or.inl ⟨by rfl, ?_⟩) ?_
        · intro w
          go_simp
        refine wpAny_ready (rs := [6]) (by kernel_rfl) (by simp) ?_
        refine (AllReady.cons rfl (fun K hK => ?_) AllReady.nil)
        go_simp
        refine hK _ _ ?_
        clear hK K
        refine wpAny_ready (rs := [7]) (by kernel_rfl) (by simp) ?_
        refine (AllReady.cons rfl (fun K hK => ?_) AllReady.nil)
        go_simp
        refine hK _ _ ?_
        clear hK K
        refine wpAny_done (by kernel_rfl) ?_ _
        go_wp2_with fail
        go_ret
        exact ⟨ret_bool (by simp), hkk2⟩
end Go.Proofs.YtcbdjmlkjifamaaGreatDoor

/- inode.May at the inode that is Free, and at what Make may not make. No condition beyond the numbers. -/
namespace Go.Proofs.YtcbdjmlkjifamaaGreatDoor
open Go.RowKit
set_option maxRecDepth 100000

/-- The inode that is Free. -/
def Ino.zero : Ino := ⟨0, 0, 0, 0, 0, 0, List.replicate 32 0⟩
theorem zero_cells : Ino.zero.cells = #[.int .i64 0, .int .i64 0, .int .i64 0, .int .i64 0, .int .i64 0, .int .i64 0] ++ (List.replicate 32 (Value.int .u8 0)).toArray := by
  simp [Ino.zero, Ino.cells, pgCells, b8]
theorem eql_zero (w : World) : (binOp .eql 53 (.agg Ino.zero.cells) (.agg Ino.zero.cells)).run Tryz.prog w = .ok (.bool true) w := by
  kernel_rfl
theorem stop_bin {P : Program} {ops : Array Oper} {rest : List Oper} {a : Act} {w : World} {Q : Exit → Act → World → Prop} {dst : Option Tmp} {b : BinOp} {t t2 : TypeId} {x y : Operand} {ty : TypeId} {pos : String} {after : Array Edge} {g : Option (Nat × Bool)}
    (h : Stop (wpList P ops Q ({ dst := dst, op := .binOp b t x y t2, type := ty, pos := pos, after := after, guard := g } :: rest) a w)) :
    wpList P ops Q ({ dst := dst, op := .binOp b t x y t2, type := ty, pos := pos, after := after, guard := g } :: rest) a w := h
theorem wpList_value {P : Program} {ops : Array Oper} {rest : List Oper} {o : Oper} {a : Act} {w w' : World} {Q : Exit → Act → World → Prop} (v : Value) (hgd : o.guard = none) (hrun : (execOp a.eval o).run P w = .ok (.value v) w')
    (h : wpList P ops Q rest (a.put o.dst v) w') : wpList P ops Q (o :: rest) a w :=
  wpList_plain hgd fun _ hK => by
    unfold Oper.wp
    rw [hrun]
    exact hK _ _ h
theorem run_eql_zero (ρ : Operand → Value) (o : Oper) (ho : o.op = .binOp .eql 53 (.tmp 42) (.tmp 43) 53) (hx : ρ (.tmp 42) = .agg Ino.zero.cells) (hy : ρ (.tmp 43) = .agg Ino.zero.cells) (w : World) :
    (execOp ρ o).run Tryz.prog w = .ok (.value (.bool true)) w := by
  unfold execOp
  simp only [ho, hx, hy]
  kernel_rfl
theorem inode_May_zero (w : World) : Calls Tryz.prog 64 #[.agg Ino.zero.cells] w fun e w' => e = .returned (.bool true) ∧ Kept [] w w' := by
  have a0 := Ino.zero.at0
  have a1 := Ino.zero.at1
  have a2 := Ino.zero.at2
  have a3 := Ino.zero.at3
  have a4 := Ino.zero.at4
  have a5 := Ino.zero.at5
  simp only [Ino.zero] at a0 a1 a2 a3 a4 a5
  simp only [Int.natCast_zero] at a0 a1 a2 a3 a4 a5
  obtain ⟨z, hz⟩ : ∃ z, z = Ino.zero.cells := ⟨_, rfl⟩
  have e : (⟨0, 0, 0, 0, 0, 0, List.replicate 32 0⟩ : Ino).cells = z := hz.symm
  rw [e] at a0 a1 a2 a3 a4 a5
  have HZ := Lib.hid hz
  rw [← hz]
  clear e hz
  go_enter Tryz.func64, Tryz.ntmps64
  go_wp2_with (first | (go_at_call 100; refine (inode_in _ _ _ _).mono ?_; rintro e w' ⟨rfl, rfl⟩) | (with_reducible refine stop_load (t := 53) ?_))
  refine Stop.go ?_
  refine wpList_load_row rfl 53 _ rfl w.heap.size rfl 53 z (0, 0) _ (Blk.new w 53 z) Tryz.underlying53 rfl (by rw [HZ.out]; exact ino_info) ?_
  go_wp2_with (with_reducible refine stop_bin (t := 53) ?_)
  refine Stop.go ?_
  refine wpList_value (w' := w.alloc (.cells z 53)) (.bool true) rfl (run_eql_zero _ _ rfl (by rw [← HZ.out]; rfl) ?_ _) ?_
  · show Value.agg _ = Value.agg _
    rw [zero_cells]
    rfl
  go_wp2_with fail
  go_ret
  exact ⟨rfl, (Kept.refl _ _).alloc _⟩
/-- What Make makes. -/
def newCells (k m t : Int) : Array Value := #[.int .i64 k, .int .i64 m, .int .i64 0, .int .i64 0, .int .i64 t, .int .i64 0] ++ (List.replicate 32 (Value.int .u8 0)).toArray
theorem newCells_ino (k m t : Nat) : newCells k m t = (⟨k, m, 0, 0, t, 0, List.replicate 32 0⟩ : Ino).cells := by
  simp [newCells, Ino.cells, pgCells, b8]

theorem inode_May_bad (k m t : Int) (w : World) (h : k < 0 ∨ 3 < k ∨ m < 0 ∨ 7 < m ∨ t < 0) : Calls Tryz.prog 64 #[.agg (newCells k m t)] w fun e w' => e = .returned (.bool false) ∧ Kept [] w w' := by
  obtain ⟨z, hz⟩ : ∃ z, z = newCells k m t := ⟨_, rfl⟩
  have a0 : z[0]? = some (.int .i64 k) := by rw [hz]; unfold newCells; rw [Array.getElem?_append_left (by simp)]; rfl
  have a1 : z[1]? = some (.int .i64 m) := by rw [hz]; unfold newCells; rw [Array.getElem?_append_left (by simp)]; rfl
  have a2 : z[2]? = some (.int .i64 0) := by rw [hz]; unfold newCells; rw [Array.getElem?_append_left (by simp)]; rfl
  have a3 : z[3]? = some (.int .i64 0) := by rw [hz]; unfold newCells; rw [Array.getElem?_append_left (by simp)]; rfl
  have a4 : z[4]? = some (.int .i64 t) := by rw [hz]; unfold newCells; rw [Array.getElem?_append_left (by simp)]; rfl
  rw [← hz]
  clear hz
  by_cases hg : 0 ≤ k ∧ k ≤ 3 ∧ 0 ≤ m ∧ m ≤ 7
  · obtain ⟨h1, h2, h3, h4⟩ := hg
    have ht : t < 0 := by omega
    clear h
    go_enter Tryz.func64, Tryz.ntmps64
    go_wp2_with (go_at_call 100; refine (inode_in _ _ _ _).mono ?_; rintro e w' ⟨rfl, rfl⟩)
    go_ret
    exact ⟨rfl, (Kept.refl _ _).alloc _⟩
  · have hd : (0 ≤ k ∧ k ≤ 3 → (0 ≤ m ∧ m ≤ 7 → False)) := fun a b => hg ⟨a.1, a.2, b.1, b.2⟩
    clear h hg
    by_cases h1 : 0 ≤ k
    · by_cases h2 : k ≤ 3
      · have h5 := hd ⟨h1, h2⟩
        clear hd
        by_cases h3 : 0 ≤ m
        · have h6 : ¬ m ≤ 7 := fun h => h5 ⟨h3, h⟩
          clear h5
          go_enter Tryz.func64, Tryz.ntmps64
          go_wp2_with (go_at_call 100; refine (inode_in _ _ _ _).mono ?_; rintro e w' ⟨rfl, rfl⟩)
          go_ret
          exact ⟨rfl, (Kept.refl _ _).alloc _⟩
        · clear h5
          go_enter Tryz.func64, Tryz.ntmps64
          go_wp2_with (go_at_call 100; refine (inode_in _ _ _ _).mono ?_; rintro e w' ⟨rfl, rfl⟩)
          go_ret
          exact ⟨rfl, (Kept.refl _ _).alloc _⟩
      · clear hd
        go_enter Tryz.func64, Tryz.ntmps64
        go_wp2_with (go_at_call 100; refine (inode_in _ _ _ _).mono ?_; rintro e w' ⟨rfl, rfl⟩)
        go_ret
        exact ⟨rfl, (Kept.refl _ _).alloc _⟩
    · clear hd
      go_enter Tryz.func64, Tryz.ntmps64
      go_wp2_with (go_at_call 100; refine (inode_in _ _ _ _).mono ?_; rintro e w' ⟨rfl, rfl⟩)
      go_ret
      exact ⟨rfl, (Kept.refl _ _).alloc _⟩

/-- What an inode is told as, of one that may be or is Free. -/
def Ino.Good (x : Ino) : Prop := x.Ok ∨ x = Ino.zero
theorem inode_May_good (x : Ino) (w : World) (h : x.Good) : Calls Tryz.prog 64 #[.agg x.cells] w fun e w' => e = .returned (.bool true) ∧ Kept [] w w' := by
  rcases h with h | rfl
  · exact inode_May x w h
  · exact inode_May_zero w
end Go.Proofs.YtcbdjmlkjifamaaGreatDoor
