/-
  dirent.Put, dirent.Remove. Conditions: the entries may be.
-/
import Derived.Test.YtcbdjmlkjifamaaGreatDoorQbb
import Derived.Deep.RegionHeld3
set_option linter.unusedVariables false
set_option linter.unusedSimpArgs false

namespace Go.Proofs.YtcbdjmlkjifamaaGreatDoor
open Go.RowKit
set_option maxRecDepth 100000

theorem slices_Insert_ent (base n i b : Nat) (v : Value) (l : List Ent) (e : Ent) (w : World) (ho : w.ownsRow base 50 2 v n (entCells l)) (hn : l.length = n) (hs : n ≤ 100000) (hi : i ≤ n)
    (hb : Blk w b 50 #[.string (str e.name), .int .i64 e.node]) (hbase : base ≤ w.heap.size) (hne : v.ownBlock ≠ some b) :
    Calls Tryz.prog 55 #[v, .int .i64 i, .slice (some ⟨b, 0, none⟩) 1 1] w fun r w' => ∃ v', r = .returned v' ∧
      w'.ownsRow base 50 2 v' (n + 1) (entCells (l.take i ++ e :: l.drop i)) ∧ Kept v.ownBlock.toList w w' := by
  rcases Nat.lt_or_eq_of_le hi with hlt | rfl
  · obtain ⟨g, c, rfl, hgb, hgl⟩ := ho.form (by omega)
    by_cases hc : n + 1 ≤ c
    · refine (slices_Insert_room base n c g i b l e w ho hn hs hlt hc hb (fun h => hne (by rw [h]; rfl))).mono ?_
      rintro r w' ⟨v', h1, h2, h3⟩
      exact ⟨v', h1, h2, h3⟩
    · refine (slices_Insert_grow base n c g i b l e w ho hn hs hlt (by omega) hb hbase).mono ?_
      rintro r w' ⟨v', h1, h2, h3⟩
      exact ⟨v', h1, h2, h3.any⟩
  · refine (slices_Insert_end base i b v l e w ho hn hs hb hbase).mono ?_
    rintro r w' ⟨v', h1, h2, h3⟩
    refine ⟨v', h1, ?_, h3⟩
    rw [List.take_of_length_le (by omega), List.drop_of_length_le (by omega)]
    exact h2

theorem entNode_not {l : List Ent} {s : List UInt8} (h : isThere l s = false) : entNode l s = 0 := by
  have hx : ¬ entIdx l s < l.length := fun hc => by
    have h1 : (l[entIdx l s].name == s) = true := List.findIdx_getElem (w := hc)
    have : isThere l s = true := List.any_eq_true.2 ⟨_, List.getElem_mem hc, h1⟩
    rw [h] at this
    cases this
  unfold entNode
  rw [List.getElem?_eq_none (by omega)]
theorem ent_unique {l : List Ent} (h : EntsOk l) {i j : Nat} (hi : i < l.length) (hj : j < l.length) (he : l[i].name = l[j].name) : i = j := by
  have hp := List.pairwise_iff_getElem.1 h.sort
  rcases Nat.lt_trichotomy i j with hl | hl | hl
  · have := hp i j hi hj hl
    rw [he, blt_irrefl] at this
    cases this
  · exact hl
  · have := hp j i hj hi hl
    rw [he, blt_irrefl] at this
    cases this
theorem entNode_there {l : List Ent} {s : List UInt8} (hl : EntsOk l) (h : isThere l s = true) : ∃ hi : place l s < l.length, l[place l s].name = s ∧ entNode l s = l[place l s].node := by
  obtain ⟨hi, hs⟩ := (place_there hl s).1 h
  refine ⟨hi, hs, ?_⟩
  have hx : entIdx l s < l.length := List.findIdx_lt_length_of_exists ⟨_, List.getElem_mem hi, by rw [hs]; simp⟩
  have h1 : (l[entIdx l s].name == s) = true := List.findIdx_getElem (w := hx)
  rw [beq_iff_eq] at h1
  have h2 := ent_unique hl hx hi (by rw [h1, hs])
  unfold entNode
  rw [List.getElem?_eq_getElem hx]
  simp only [h2]
theorem entPut_length {l : List Ent} (e : Ent) (hl : EntsOk l) : (entPut l e).length ≤ l.length + 1 := by
  cases h : isThere l e.name with
  | true =>
    rw [← put_there e hl h, List.length_set]
    omega
  | false =>
    rw [← put_not e hl h, List.length_append, List.length_cons, List.length_take, List.length_drop]
    omega
theorem entDel_length (l : List Ent) (s : List UInt8) : (entDel l s).length ≤ l.length := List.length_filter_le _ _
theorem Ents.of_own {w : World} {base n : Nat} {v : Value} {l : List Ent} (h : w.ownsRow base 50 2 v n (entCells l)) (hn : l.length = n) (hs : n ≤ 100000) : ∃ A c, v = .slice A n c ∧ Ents w [] A c l := by
  subst hn
  exact Sl.of_row (D := []) h (by simp) (by omega)
theorem entCells_set : ∀ (l : List Ent) (i : Nat) (e : Ent), i < l.length → ((entCells l).set (i * 2) (.string (str e.name))).set (i * 2 + 1) (.int .i64 e.node) = entCells (l.set i e) := by
  intro l
  induction l with
  | nil => intro i e h; simp at h
  | cons x l ih =>
    intro i e h
    cases i with
    | zero => rfl
    | succ i =>
      have := ih i e (by simpa using h)
      rw [show (i + 1) * 2 = i * 2 + 1 + 1 from by omega, show i * 2 + 1 + 1 + 1 = (i * 2 + 1) + 1 + 1 from by omega]
      show _ :: _ :: _ = _ :: _ :: _
      congr 2

set_option maxHeartbeats 4000000 in
theorem dirent_Put_new (A : Option Addr) (c n : Nat) (l : List Ent) (e : Ent) (w : World) (h : Ents w [] A c l) (hn : l.length = n) (hl : EntsOk l) (he : e.Ok) (hs : n ≤ 2000) (ht : isThere l e.name = false) :
    Calls Tryz.prog 24 #[.slice A n c, e.val] w fun r w' => ∃ A' c', r = .returned (.tuple #[.slice A' (entPut l e).length c', .int .i64 0, .int .i64 0]) ∧ Ents w' [] A' c' (entPut l e) ∧ Kept [] w w' := by
  have hput := put_not e hl ht
  have hpl : (entPut l e).length = n + 1 := by rw [← hput, List.length_append, List.length_cons, List.length_take, List.length_drop, hn]; have := place_le l e.name; omega
  have hplc := place_le l e.name
  have hk0 : Kept [] w (w.alloc (.cells #[.string (str e.name), .int .i64 e.node] 50)) := (Kept.refl _ _).alloc _
  have CM := Lib.hid (dirent_May [] A c n l _ (h.keep0 hk0) hn hl)
  have H0 := Lib.hid (h.keep0 hk0)
  have HB0 := Lib.hid (Blk.new w 50 #[.string (str e.name), .int .i64 e.node])
  have HK0 := Lib.hid hk0
  have HN := Lib.hid hn
  have HL := Lib.hid hl
  have HE := Lib.hid he
  have HT := Lib.hid ht
  have HPUT := Lib.hid hput
  have HPL := Lib.hid hpl
  clear h hk0 hn hl he ht hput hpl
  go_enter Tryz.func24, Tryz.ntmps24
  go_wp2_with (go_at_call 44; refine Stop.here ?_)
  refine Stop.go ?_
  refine CM.out.mono ?_
  rintro r w1 ⟨rfl, hk1⟩
  have hb1 := HB0.out.keep0 hk1
  obtain ⟨eb, heb⟩ : ∃ eb, eb = w.heap.size := ⟨_, rfl⟩
  rw [← heb] at hb1 ⊢
  have d0 : w1.cell? ⟨eb, 0, none⟩ = some (.string (str e.name)) := by rw [hb1.cell]; rfl
  have d1 : w1.cell? ⟨eb, 1, none⟩ = some (.int .i64 e.node) := by rw [hb1.cell]; rfl
  have HB1 := Lib.hid hb1
  have H1 := Lib.hid (H0.out.keep0 hk1)
  have HK1 := Lib.hid (HK0.out.trans hk1)
  have HEB := Lib.hid heb
  clear hk1 hb1 heb
  go_wp2_with (go_at_call 53; refine Stop.here ?_)
  refine Stop.go ?_
  refine (entry_isOne e _ HE.out).mono ?_
  rintro r w2 ⟨rfl, hk2⟩
  have hb2 := HB1.out.keep0 hk2
  have f0 : w2.cell? ⟨eb, 0, none⟩ = some (.string (str e.name)) := by rw [hb2.cell]; rfl
  have HB2 := Lib.hid hb2
  have H2 := Lib.hid (H1.out.keep0 hk2)
  have HK2 := Lib.hid (HK1.out.trans hk2)
  clear hk2 hb2 d0 d1
  go_wp2_with (go_at_call 51; refine Stop.here ?_)
  refine Stop.go ?_
  have cP := dirent_place [] A c n l e.name w2 H2.out HN.out HL.out (by omega)
  rw [HT.out] at cP
  refine cP.mono ?_
  rintro r w3 ⟨rfl, hk3⟩
  have HB3 := Lib.hid (HB2.out.keep0 hk3)
  have H3 := Lib.hid (H2.out.keep0 hk3)
  have HK3 := Lib.hid (HK2.out.trans hk3)
  clear hk3 f0 cP
  go_wp2_with (go_at_call 54; refine Stop.here ?_)
  refine Stop.go ?_
  refine (slices_Clone_ent [] A c n l w3 H3.out HN.out (by omega)).mono ?_
  rintro r w4 ⟨v4, rfl, ho4, hk4⟩
  have hb4 := HB3.out.keep0 hk4
  have g0 : w4.cell? ⟨eb, 0, none⟩ = some (.string (str e.name)) := by rw [hb4.cell]; rfl
  have g1 : w4.cell? ⟨eb, 1, none⟩ = some (.int .i64 e.node) := by rw [hb4.cell]; rfl
  obtain ⟨A4, c4, rfl⟩ := own_form ho4
  obtain ⟨i, hi⟩ : ∃ i, i = place l e.name := ⟨_, rfl⟩
  rw [← hi] at hplc ⊢
  have hil : i ≤ n := by have := HN.out; omega
  have cI := slices_Insert_ent w3.heap.size n i w4.heap.size (.slice A4 n c4) l e (w4.alloc (.cells #[.string (str e.name), .int .i64 e.node] 50)) (ho4.alloc _) HN.out (by omega) hil (Blk.new _ _ _) (by have := hk4.size; simp; omega)
    (fun hc => by have := (ho4.lt _ hc).2; omega)
  have hput := HPUT.out
  rw [← hi] at hput
  rw [hput] at cI
  have CI := Lib.hid cI
  have HO4 := Lib.hid ho4
  have HK4 := Lib.hid (HK3.out.trans hk4)
  clear hi cI hput ho4 hk4 hb4
  go_wp2_with (go_at_call 55; refine Stop.here ?_)
  refine Stop.go ?_
  refine CI.out.mono ?_
  rintro r w5 ⟨v5, rfl, ho5, hk5⟩
  obtain ⟨A5, c5, rfl, hent⟩ := Ents.of_own ho5 HPL.out (by omega)
  have hkf : Kept [] w w5 := ((HK4.out.alloc (.cells #[.string (str e.name), .int .i64 e.node] 50)).any.trans hk5).narrow (D' := []) (fun d hd hdl => by
    rw [Option.mem_toList] at hd
    have := (HO4.out.lt d hd).1
    have := HK3.out.size
    omega)
  have HENT := Lib.hid hent
  have HKF := Lib.hid hkf
  clear ho5 hk5 hent hkf
  go_wp2_with fail
  go_ret3
  rw [HPL.out]
  exact ⟨A5, c5, rfl, HENT.out, HKF.out⟩

set_option maxHeartbeats 4000000 in
theorem dirent_Put_old (A : Option Addr) (c n : Nat) (l : List Ent) (e : Ent) (w : World) (h : Ents w [] A c l) (hn : l.length = n) (hl : EntsOk l) (he : e.Ok) (hs : n ≤ 2000) (ht : isThere l e.name = true) :
    Calls Tryz.prog 24 #[.slice A n c, e.val] w fun r w' => ∃ A' c', r = .returned (.tuple #[.slice A' (entPut l e).length c', .int .i64 (entNode l e.name : Nat), .int .i64 0]) ∧ Ents w' [] A' c' (entPut l e) ∧ Kept [] w w' := by
  have hput := put_there e hl ht
  have hpl : (entPut l e).length = n := by rw [← hput, List.length_set, hn]
  obtain ⟨hplc, _, hnode⟩ := entNode_there hl ht
  have hk0 : Kept [] w (w.alloc (.cells #[.string (str e.name), .int .i64 e.node] 50)) := (Kept.refl _ _).alloc _
  have CM := Lib.hid (dirent_May [] A c n l _ (h.keep0 hk0) hn hl)
  have H0 := Lib.hid (h.keep0 hk0)
  have HB0 := Lib.hid (Blk.new w 50 #[.string (str e.name), .int .i64 e.node])
  have HK0 := Lib.hid hk0
  have HN := Lib.hid hn
  have HL := Lib.hid hl
  have HE := Lib.hid he
  have HT := Lib.hid ht
  have HPUT := Lib.hid hput
  have HPL := Lib.hid hpl
  have HND := Lib.hid hnode
  clear h hk0 hn hl he ht hput hpl hnode
  go_enter Tryz.func24, Tryz.ntmps24
  go_wp2_with (go_at_call 44; refine Stop.here ?_)
  refine Stop.go ?_
  refine CM.out.mono ?_
  rintro r w1 ⟨rfl, hk1⟩
  have hb1 := HB0.out.keep0 hk1
  obtain ⟨eb, heb⟩ : ∃ eb, eb = w.heap.size := ⟨_, rfl⟩
  rw [← heb] at hb1 ⊢
  have d0 : w1.cell? ⟨eb, 0, none⟩ = some (.string (str e.name)) := by rw [hb1.cell]; rfl
  have d1 : w1.cell? ⟨eb, 1, none⟩ = some (.int .i64 e.node) := by rw [hb1.cell]; rfl
  have HB1 := Lib.hid hb1
  have H1 := Lib.hid (H0.out.keep0 hk1)
  have HK1 := Lib.hid (HK0.out.trans hk1)
  have HEB := Lib.hid heb
  clear hk1 hb1 heb
  go_wp2_with (go_at_call 53; refine Stop.here ?_)
  refine Stop.go ?_
  refine (entry_isOne e _ HE.out).mono ?_
  rintro r w2 ⟨rfl, hk2⟩
  have hb2 := HB1.out.keep0 hk2
  have f0 : w2.cell? ⟨eb, 0, none⟩ = some (.string (str e.name)) := by rw [hb2.cell]; rfl
  have HB2 := Lib.hid hb2
  have H2 := Lib.hid (H1.out.keep0 hk2)
  have HK2 := Lib.hid (HK1.out.trans hk2)
  clear hk2 hb2 d0 d1
  go_wp2_with (go_at_call 51; refine Stop.here ?_)
  refine Stop.go ?_
  have cP := dirent_place [] A c n l e.name w2 H2.out HN.out HL.out (by omega)
  rw [HT.out] at cP
  refine cP.mono ?_
  rintro r w3 ⟨rfl, hk3⟩
  have HB3 := Lib.hid (HB2.out.keep0 hk3)
  have H3 := Lib.hid (H2.out.keep0 hk3)
  have HK3 := Lib.hid (HK2.out.trans hk3)
  clear hk3 f0 cP
  go_wp2_with (go_at_call 54; refine Stop.here ?_)
  refine Stop.go ?_
  refine (slices_Clone_ent [] A c n l w3 H3.out HN.out (by omega)).mono ?_
  rintro r w4 ⟨v4, rfl, ho4, hk4⟩
  have hb4 := HB3.out.keep0 hk4
  have g0 : w4.cell? ⟨eb, 0, none⟩ = some (.string (str e.name)) := by rw [hb4.cell]; rfl
  have g1 : w4.cell? ⟨eb, 1, none⟩ = some (.int .i64 e.node) := by rw [hb4.cell]; rfl
  have hn4 := HN.out
  obtain ⟨g, c4, rfl, hgb, hgl⟩ := ho4.form (by omega)
  have hH4 := H3.out.keep0 hk4
  obtain ⟨ad, rfl, _, hc1⟩ := hH4.get hplc
  rw [← HND.out] at hc1
  have hecl := entCells_length l
  obtain ⟨i, hi⟩ : ∃ i, i = place l e.name := ⟨_, rfl⟩
  have hput := HPUT.out
  rw [← hi] at hplc hc1 hput ⊢
  obtain ⟨u0, x0⟩ : ∃ u0, (entCells l)[i * 2]? = some u0 := ⟨_, List.getElem?_eq_getElem (by omega)⟩
  obtain ⟨u1, x1⟩ : ∃ u1, (entCells l)[i * 2 + 1]? = some u1 := ⟨_, List.getElem?_eq_getElem (by omega)⟩
  have k0 : w4.cell? ⟨g, i * 2, none⟩ = some u0 := by rw [ho4.cellAt (i * 2) (by omega), x0]
  have k1 : w4.cell? ⟨g, i * 2 + 1, none⟩ = some u1 := by rw [ho4.cellAt (i * 2 + 1) (by omega), x1]
  have z0 := ho4.frozenAt (i * 2)
  have z1 := ho4.frozenAt (i * 2 + 1)
  have hin : (i : Int) < n := by omega
  have hown : ((w4.setCell ⟨g, i * 2, none⟩ (.string (str e.name))).setCell ⟨g, i * 2 + 1, none⟩ (.int .i64 e.node)).ownsRow w3.heap.size 50 2 (.slice (some ⟨g, 0, none⟩) n c4) n (entCells (entPut l e)) := by
    have h1 := (ho4.stored (i * 2) (.string (str e.name))).1
    have h2 := (h1.stored (i * 2 + 1) (.int .i64 e.node)).1
    rw [entCells_set l i e hplc, hput] at h2
    exact h2
  have hks : Kept [g] w4 ((w4.setCell ⟨g, i * 2, none⟩ (.string (str e.name))).setCell ⟨g, i * 2 + 1, none⟩ (.int .i64 e.node)) := ((Kept.refl _ _).setCell (.inr (by simp)) _).setCell (.inr (by simp)) _
  have hadlt : (ad.add (i * 2)).block < w3.heap.size := by
    obtain ⟨ad', hA, _, ⟨cs, fr, hb⟩, _⟩ := H3.out.at_ (by omega)
    injection hA with hA
    subst hA
    rw [block_of_add]
    exact lt_of_heap hb
  have hc2 : ((w4.setCell ⟨g, i * 2, none⟩ (.string (str e.name))).setCell ⟨g, i * 2 + 1, none⟩ (.int .i64 e.node)).drew.cell? ⟨(ad.add (i * 2)).block, (ad.add (i * 2)).off + 1, none⟩ = some (.int .i64 (entNode l e.name : Nat)) := by
    rw [← hc1]
    exact hks.drew.cell (by have := hk4.size; simp only; omega) (by rw [List.mem_singleton]; simp only; omega)
  have hkf : Kept [] w ((w4.setCell ⟨g, i * 2, none⟩ (.string (str e.name))).setCell ⟨g, i * 2 + 1, none⟩ (.int .i64 e.node)) := ((HK3.out.trans hk4).any.trans hks).narrow (D' := []) (fun d hd hdl => by
    rw [List.mem_singleton] at hd
    have := HK3.out.size
    omega)
  obtain ⟨nd, hnd⟩ : ∃ nd, nd = entNode l e.name := ⟨_, rfl⟩
  rw [← hnd] at hc2
  have HOWN := Lib.hid hown
  have HKF := Lib.hid hkf
  have HNDE := Lib.hid hnd
  have HC2 := Lib.hid hc2
  obtain ⟨W, hW⟩ : ∃ W, W = (w4.setCell ⟨g, i * 2, none⟩ (.string (str e.name))).setCell ⟨g, i * 2 + 1, none⟩ (.int .i64 e.node) := ⟨_, rfl⟩
  clear hown hks hadlt hkf hk4 ho4 hH4 x0 x1 hput hi hnd hc1 hb4 hc2 hecl hn4
  go_wp2_with fail
  have hc2 := HC2.out
  have hown := HOWN.out
  have hkf := HKF.out
  rw [← hW] at hc2 hown hkf ⊢
  have HOW := Lib.hid hown
  have HKW := Lib.hid hkf
  have hc3 : W.cell? ⟨(ad.add (i * 2)).block, (ad.add (i * 2)).off + 1, none⟩ = some (.int .i64 (nd : Nat)) := hc2
  clear hown hkf hW HC2 HOWN HKF k0 k1 z0 z1 g0 g1
  have hi0 : (0 : Int) ≤ (i : Int) := by omega
  go_region
  all_goals
    go_wp2_with fail
    go_ret3
    obtain ⟨A', c', hv, hent⟩ := Ents.of_own HOW.out HPL.out (by omega)
    injection hv with a1 _ a3
    subst a1; subst a3
    rw [HPL.out, ← HNDE.out]
    exact ⟨_, _, rfl, hent.keep0 (Kept.refl [] _).drew, HKW.out.drew⟩

theorem dirent_Put (A : Option Addr) (c n : Nat) (l : List Ent) (e : Ent) (w : World) (h : Ents w [] A c l) (hn : l.length = n) (hl : EntsOk l) (he : e.Ok) (hs : n ≤ 2000) :
    Calls Tryz.prog 24 #[.slice A n c, e.val] w fun r w' => ∃ A' c', r = .returned (.tuple #[.slice A' (entPut l e).length c', .int .i64 (entNode l e.name : Nat), .int .i64 0]) ∧ Ents w' [] A' c' (entPut l e) ∧ Kept [] w w' := by
  cases ht : isThere l e.name with
  | true => exact dirent_Put_old A c n l e w h hn hl he hs ht
  | false =>
    rw [entNode_not ht]
    exact dirent_Put_new A c n l e w h hn hl he hs ht

set_option maxHeartbeats 4000000 in
theorem dirent_Remove (A : Option Addr) (c n : Nat) (l : List Ent) (s : List UInt8) (w : World) (h : Ents w [] A c l) (hn : l.length = n) (hl : EntsOk l) (hs : n ≤ 2000) (ht : isThere l s = true) :
    Calls Tryz.prog 22 #[.slice A n c, .string (str s)] w fun r w' => ∃ A' c', r = .returned (.tuple #[.slice A' (entDel l s).length c', .int .i64 (entNode l s : Nat), .int .i64 0]) ∧ Ents w' [] A' c' (entDel l s) ∧ Kept [] w w' := by
  have hdel := del_there s hl ht
  obtain ⟨hplc, _, hnode⟩ := entNode_there hl ht
  have CM := Lib.hid (dirent_May [] A c n l w h hn hl)
  have H := Lib.hid h
  have HN := Lib.hid hn
  have HL := Lib.hid hl
  have HT := Lib.hid ht
  have HDEL := Lib.hid hdel
  have HND := Lib.hid hnode
  clear h hn hl ht hdel hnode
  go_enter Tryz.func22, Tryz.ntmps22
  go_wp2_with (go_at_call 44; refine Stop.here ?_)
  refine Stop.go ?_
  refine CM.out.mono ?_
  rintro r w1 ⟨rfl, hk1⟩
  have H1 := Lib.hid (H.out.keep0 hk1)
  have HK1 := Lib.hid hk1
  clear hk1
  go_wp2_with (go_at_call 51; refine Stop.here ?_)
  refine Stop.go ?_
  have cP := dirent_place [] A c n l s w1 H1.out HN.out HL.out (by omega)
  rw [HT.out] at cP
  refine cP.mono ?_
  rintro r w2 ⟨rfl, hk2⟩
  have h2 := H1.out.keep0 hk2
  obtain ⟨ad, rfl, _, hc1⟩ := h2.get hplc
  rw [← HND.out] at hc1
  obtain ⟨i, hi⟩ : ∃ i, i = place l s := ⟨_, rfl⟩
  have hdel := HDEL.out
  rw [← hi] at hplc hc1 hdel ⊢
  have hn2 := HN.out
  obtain ⟨nd, hnd⟩ : ∃ nd, nd = entNode l s := ⟨_, rfl⟩
  rw [← hnd] at hc1
  have HDE := Lib.hid hdel
  have HNDE := Lib.hid hnd
  have H2 := Lib.hid h2
  have HK2 := Lib.hid (HK1.out.trans hk2)
  have hin : (i : Int) < n := by omega
  have hcap := h2.cap
  have hcm := h2.capm
  have hec : ∀ j, j ≤ l.length → (entCells l).take (j * 2) = entCells (l.take j) ∧ (entCells l).drop (j * 2) = entCells (l.drop j) := fun j hj => by
    have e1 : entCells l = entCells (l.take j) ++ entCells (l.drop j) := by rw [← entCells_append, List.take_append_drop]
    have hl1 : (entCells (l.take j)).length = j * 2 := by rw [entCells_length, List.length_take, Nat.min_eq_left hj]
    rw [e1, ← hl1]
    exact ⟨List.take_left, List.drop_left⟩
  have ht1 : Ents w2 [] (some ad) c (l.take i) := by
    have := Sl.take h2 (k := i) (by omega)
    rw [(hec i (by omega)).1] at this
    unfold Ents
    rw [List.length_take, Nat.min_eq_left (by omega)]
    exact this
  have ht2 : Ents w2 [] (if c = i + 1 then some ad else some (ad.add ((i + 1) * 2))) (c - (i + 1)) (l.drop (i + 1)) := by
    have := Sl.cut h2 (k := i + 1) (by omega)
    rw [(hec (i + 1) (by omega)).2] at this
    unfold Ents
    rw [List.length_drop]
    exact this
  have hl1 : (l.take i).length = i := by rw [List.length_take, Nat.min_eq_left (by omega)]
  have hl2 : (l.drop (i + 1)).length = n - (i + 1) := by rw [List.length_drop, hn2]
  have hdl : (entDel l s).length = i + (n - (i + 1)) := by rw [← hdel, List.length_append, hl1, hl2]
  obtain ⟨A2, hA2⟩ : ∃ A2, A2 = (if c = i + 1 then some ad else some (ad.add ((i + 1) * 2))) := ⟨_, rfl⟩
  rw [← hA2] at ht2
  have cC : Calls Tryz.prog 52 #[.slice (some ⟨w2.heap.size, 0, none⟩) 2 2] (w2.alloc (.cells #[.slice (some ad) i c, .slice A2 (n - (i + 1)) (c - (i + 1))] 24)).drew fun r w' => ∃ v, r = .returned v ∧
      w'.ownsRow w2.heap.size 50 2 v (i + (n - (i + 1))) (entCells (entDel l s)) ∧ Kept [] w2 w' := by
    have hkd : Kept [] w2 (w2.alloc (.cells #[.slice (some ad) i c, .slice A2 (n - (i + 1)) (c - (i + 1))] 24)).drew := ((Kept.refl _ _).alloc _).drew
    refine (slices_Concat_ent w2.heap.size (some ad) A2 i c (n - (i + 1)) (c - (i + 1)) (l.take i) (l.drop (i + 1)) _ (ht1.keep0 hkd) (ht2.keep0 hkd) hl1 hl2 (by omega) (by omega) (Blk.new _ _ _).drew).mono ?_
    rintro r w' ⟨v, h1, h3, h4⟩
    rw [hdel] at h3
    exact ⟨v, h1, h3.mono (by simp), hkd.trans h4⟩
  have CC := Lib.hid cC
  have HDL := Lib.hid hdl
  have hin2 : (i : Int) ≤ c := by omega
  have hin3 : i ≤ c := by omega
  have hin4 : i + 1 ≤ n := by omega
  have hin5 : (i : Int) + 1 ≤ n := by omega
  have hi0 : (0 : Int) ≤ (i : Int) := by omega
  have hi1 : (0 : Int) ≤ (i : Int) + 1 := by omega
  have HA2 := Lib.hid hA2
  have HC1 := Lib.hid hc1
  clear cP hk2 h2 hi hdel hnd hn2 hec ht1 ht2 hl1 hl2 hdl cC hA2 hc1
  go_wp2_with fail
  have hc1 := HC1.out
  have hlb : (ad.add (i * 2)).block < w2.heap.size := by
    have := block_lt_of_cell hc1
    exact this
  have hc2 : ∀ o, (w2.alloc o).drew.cell? ⟨(ad.add (i * 2)).block, (ad.add (i * 2)).off + 1, none⟩ = some (.int .i64 nd) := fun o => by
    rw [← hc1]
    exact (((Kept.refl [] w2).alloc o).drew).cell hlb (by simp)
  have HC2 := Lib.hid hc2
  have hw1 : IntKind.i64.wrap ((i : Int) + 1) = (i : Int) + 1 := by rw [IntKind.wrap_i64]; omega
  have htn : ((i : Int) + 1).toNat = i + 1 := by omega
  clear hc2
  by_cases hci : c = i + 1
  case' pos => (have ha2 : A2 = some ad := by rw [HA2.out, if_pos hci]); subst ha2; subst hci; have cc := CC.out; simp only [Nat.sub_self] at cc; have CC := Lib.hid cc; clear cc HA2; have hp1 : (i : Int) ≤ (i : Int) + 1 := by omega
  case' neg => (have ha2 : A2 = some (ad.add ((i + 1) * 2)) := by rw [HA2.out, if_neg hci]); subst ha2; clear HA2
  all_goals
    go_region_held3 (fun w' => w'.cell? ⟨(ad.add (i * 2)).block, (ad.add (i * 2)).off + 1, none⟩ = some (.int .i64 nd))
      (first | exact hc1 | exact HC2.out _ | exact kc)
      ((go_at_call 52; (with_reducible refine CC.out.mono ?_); rintro r w5 ⟨v5, rfl, ho5, hk5⟩; obtain ⟨A5, c5, rfl⟩ := own_form ho5; (have kc : w5.cell? ⟨(ad.add (i * 2)).block, (ad.add (i * 2)).off + 1, none⟩ = some (.int .i64 nd) := by rw [← hc1]; exact hk5.cell hlb (by simp)); have HO5 := Lib.hid ho5; have HK5 := Lib.hid hk5; clear ho5 hk5))
  all_goals
    clear hw1 htn
    go_wp2_with fail
    go_ret3
    obtain ⟨A', c', hv, hent⟩ := Ents.of_own HO5.out HDL.out (by omega)
    injection hv with a1 _ a3
    subst a1; subst a3
    rw [HDL.out, ← HNDE.out]
    exact ⟨_, _, rfl, hent, HK2.out.trans HK5.out⟩
end Go.Proofs.YtcbdjmlkjifamaaGreatDoor
