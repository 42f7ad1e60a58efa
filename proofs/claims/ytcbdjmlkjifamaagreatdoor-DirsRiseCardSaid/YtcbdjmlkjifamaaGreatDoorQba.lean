/-
  Package dirs: List, find, Find, Empty, Names. Conditions: a directory's bytes are entries that may be.
-/
import Derived.Test.YtcbdjmlkjifamaaGreatDoorQau
import Derived.Test.YtcbdjmlkjifamaaGreatDoorQaw
import Derived.Test.YtcbdjmlkjifamaaGreatDoorQaz
set_option linter.unusedVariables false
set_option linter.unusedSimpArgs false

namespace Go.Proofs.YtcbdjmlkjifamaaGreatDoor
open Go.RowKit
set_option maxRecDepth 100000

/-- What List tells where it lists nothing. -/
def listErr (e0 : Int) (kind : Nat) : Int := if e0 ≠ 0 then e0 else if kind = 0 then 6 else 12

theorem dirs_List_bad (p : Value) (n : Int) (x : Ino) (e0 : Int) (w : World) (hl : x.pages.length = 32) (hbad : e0 ≠ 0 ∨ x.kind ≠ 2) (he1 : -100 ≤ e0) (he2 : e0 ≤ 100)
    (hI : ∀ W, Kept [] w W → Calls Tryz.prog 16 #[p, .int .i64 n] W fun e w' => e = .returned (.tuple #[.agg x.cells, .int .i64 e0]) ∧ Kept [] W w') :
    Calls Tryz.prog 5 #[p, .int .i64 n] w fun e w' => e = .returned (.tuple #[.slice none 0 0, .int .i64 (listErr e0 x.kind)]) ∧ Kept [] w w' := by
  have HI := Lib.hid hI
  have HL := Lib.hid hl
  obtain ⟨kd, hkd⟩ : ∃ kd, kd = x.kind := ⟨_, rfl⟩
  have h0 := x.at0
  rw [← hkd] at hbad h0 ⊢
  have H0 := Lib.hid h0
  clear hI hl hkd h0
  go_enter Tryz.func5, Tryz.ntmps5
  go_wp2_with (go_at_call 16; refine Stop.here ?_)
  refine Stop.go ?_
  refine (HI.out w (Kept.refl _ _)).mono ?_
  rintro e w1 ⟨rfl, hk1⟩
  have HK1 := Lib.hid hk1
  clear hk1
  go_wp2_with (with_reducible refine stop_store (t := 53) ?_)
  refine Stop.go ?_
  refine wpList_store_row rfl 53 (.tmp 6) (.tmp 13) rfl w1.heap.size rfl x.cells rfl 53 Ino.zero.cells (heap_alloc_new w1 _) (by rw [x.cells_size HL.out]; exact ino_info) (by rw [x.cells_size HL.out]; rfl) x.one ?_
  obtain ⟨w2, hw2⟩ : ∃ w2, w2 = (w1.alloc (.cells Ino.zero.cells 53)).setRow w1.heap.size x.cells := ⟨_, rfl⟩
  have hw2' : w2 = w1.alloc (.cells x.cells 53) := by rw [hw2, World.setRow_alloc_new]
  show wpList _ _ _ _ _ ((w1.alloc (.cells Ino.zero.cells 53)).setRow w1.heap.size x.cells)
  rw [← hw2]
  have hk2 : Kept [] w w2 := by rw [hw2']; exact HK1.out.alloc _
  have hx2 : Blk w2 w1.heap.size 53 x.cells := by rw [hw2']; exact Blk.new _ _ _
  have c0 : w2.cell? ⟨w1.heap.size, 0, none⟩ = some (.int .i64 kd) := by rw [hx2.cell, H0.out]
  have HK2 := Lib.hid hk2
  clear hw2 hw2' HK1 hk2 hx2
  by_cases c1 : e0 = 0
  · subst c1
    have hle : listErr 0 kd = if kd = 0 then 6 else 12 := by rw [listErr, if_neg (by simp)]
    by_cases c2 : kd = 0
    · subst c2
      have HLE := Lib.hid (show listErr 0 0 = 6 by rw [hle]; rfl)
      clear hle
      go_wp2_with fail
      go_ret2
      rw [HLE.out]
      exact ⟨rfl, HK2.out⟩
    · have HLE := Lib.hid (show listErr 0 kd = 12 by rw [hle, if_neg c2])
      have hz : ((kd : Int) == 0) = false := by rw [beq_eq_false_iff_ne]; omega
      have hz2 : ((kd : Int) == 2) = false := by rw [beq_eq_false_iff_ne]; rcases hbad with h | h <;> omega
      clear hle hbad
      go_wp2_with fail
      go_ret2
      rw [HLE.out]
      exact ⟨rfl, HK2.out⟩
  · have HLE := Lib.hid (show listErr e0 kd = e0 by rw [listErr, if_pos c1])
    have hz : (e0 == 0) = false := by rw [beq_eq_false_iff_ne]; exact c1
    clear hbad
    go_wp2_with fail
    go_ret2
    rw [HLE.out]
    exact ⟨rfl, HK2.out⟩

/-- The n-th inode is a directory with these entries. -/
structure IsDir (S : List Nod) (n : Nat) (y : Nod) (l : List Ent) : Prop where
  at_ : S[n]? = some y
  kind : y.kind = 2
  data : y.data = entsB l
  ok : EntsOk l
theorem IsDir.small {S : List Nod} {n : Nat} {y : Nod} {l : List Ent} (h : IsDir S n y l) (hs : y.data.length ≤ 8192) : l.length ≤ 2000 := by
  have := entsB_length l h.ok.ok
  rw [← h.data] at this
  omega

set_option maxHeartbeats 1000000 in
theorem dirs_List (w : World) (fb ib pb ab table np n : Nat) (S : List Nod) (y : Nod) (l : List Ent) (h : Sys w fb ib pb ab table np S) (hd : IsDir S n y l) :
    Calls Tryz.prog 5 #[.pointer (some ⟨fb, 0, none⟩), .int .i64 n] w fun e w' => ∃ A c, e = .returned (.tuple #[.slice A l.length c, .int .i64 0]) ∧ Ents w' [] A c l ∧ Kept [] w w' := by
  obtain ⟨x, ⟨hx1, hx2, hx3, hx4⟩, hI⟩ := sys_Inode w fb ib pb ab table np n S y h hd.at_
  have hsm := hd.small (by omega)
  have hmay : spanMay ((0 : Nat) : Int) (y.data.length : Nat) = 0 := by
    unfold spanMay
    rw [if_neg (by omega), if_neg (by omega)]
  have h0 := x.at0
  have h3 := x.at3
  rw [hx1, hd.kind] at h0
  rw [hx2] at h3
  have hR := fun W (hW : Kept [] w W) => sys_Read W fb ib pb ab table np n 0 y.data.length S y (h.keep0 hW) hd.at_ (by rw [hd.kind]; omega) hmay
  have ht : (y.data.drop 0).take y.data.length = entsB l := by rw [List.drop_zero, List.take_length, hd.data]
  simp only [ht] at hR
  have HI := Lib.hid hI
  have HL := Lib.hid hx3
  have HR := Lib.hid hR
  have H0 := Lib.hid h0
  have H3 := Lib.hid h3
  have HO := Lib.hid hd.ok
  clear hI hx1 hx2 hx3 hx4 hR ht h0 h3 hmay h hd
  go_enter Tryz.func5, Tryz.ntmps5
  go_wp2_with (go_at_call 16; refine Stop.here ?_)
  refine Stop.go ?_
  refine (HI.out w (Kept.refl _ _)).mono ?_
  rintro e w1 ⟨rfl, hk1⟩
  have HK1 := Lib.hid hk1
  clear hk1
  go_wp2_with (with_reducible refine stop_store (t := 53) ?_)
  refine Stop.go ?_
  refine wpList_store_row rfl 53 (.tmp 6) (.tmp 13) rfl w1.heap.size rfl x.cells rfl 53 Ino.zero.cells (heap_alloc_new w1 _) (by rw [x.cells_size HL.out]; exact ino_info) (by rw [x.cells_size HL.out]; rfl) x.one ?_
  obtain ⟨w2, hw2⟩ : ∃ w2, w2 = (w1.alloc (.cells Ino.zero.cells 53)).setRow w1.heap.size x.cells := ⟨_, rfl⟩
  have hw2' : w2 = w1.alloc (.cells x.cells 53) := by rw [hw2, World.setRow_alloc_new]
  show wpList _ _ _ _ _ ((w1.alloc (.cells Ino.zero.cells 53)).setRow w1.heap.size x.cells)
  rw [← hw2]
  have hk2 : Kept [] w w2 := by rw [hw2']; exact HK1.out.alloc _
  have hx2 : Blk w2 w1.heap.size 53 x.cells := by rw [hw2']; exact Blk.new _ _ _
  have c0 : w2.cell? ⟨w1.heap.size, 0, none⟩ = some (.int .i64 (2 : Nat)) := by rw [hx2.cell, H0.out]
  have c3 : w2.cell? ⟨w1.heap.size, 3, none⟩ = some (.int .i64 (y.data.length : Nat)) := by rw [hx2.cell, H3.out]
  have HK2 := Lib.hid hk2
  clear hw2 hw2' HK1 hk2 hx2
  go_wp2_with (go_at_call 17; refine Stop.here ?_)
  refine Stop.go ?_
  refine (HR.out w2 HK2.out).mono ?_
  rintro e w3 ⟨A3, cc3, rfl, hb3, hk3⟩
  have HB3 := Lib.hid hb3
  have HK3 := Lib.hid (HK2.out.trans hk3)
  clear hb3 hk3 c0 c3
  go_wp2_with (go_at_call 18; refine Stop.here ?_)
  refine Stop.go ?_
  refine (dirent_Parse A3 cc3 _ l w3 HB3.out rfl HO.out hsm).mono ?_
  rintro e w4 ⟨A4, cc4, rfl, he4, hk4⟩
  have HE4 := Lib.hid he4
  have HK4 := Lib.hid (HK3.out.trans hk4)
  clear he4 hk4
  go_wp2_with fail
  go_ret2
  exact ⟨A4, cc4, rfl, HE4.out, HK4.out⟩

/-- find, where List tells an error. -/
theorem dirs_find_bad (p : Value) (n : Int) (s : List UInt8) (e0 : Int) (w : World) (he : e0 ≠ 0) (he1 : -100 ≤ e0) (he2 : e0 ≤ 100)
    (hL : ∀ W, Kept [] w W → Calls Tryz.prog 5 #[p, .int .i64 n] W fun e w' => e = .returned (.tuple #[.slice none 0 0, .int .i64 e0]) ∧ Kept [] W w') :
    Calls Tryz.prog 19 #[p, .int .i64 n, .string (str s)] w fun e w' => e = .returned (.tuple #[.slice none 0 0, .int .i64 0, .int .i64 e0]) ∧ Kept [] w w' := by
  have hz : (e0 == 0) = false := by rw [beq_eq_false_iff_ne]; exact he
  have cF := fun W => dirent_Find [] none 0 0 [] s W (Sl.nil_ W [] _ 2 none (by omega)) rfl
  have HL := Lib.hid hL
  have CF := Lib.hid cF
  clear hL cF he
  go_enter Tryz.func19, Tryz.ntmps19
  go_wp2_with (go_at_call 5; refine Stop.here ?_)
  refine Stop.go ?_
  refine (HL.out w (Kept.refl _ _)).mono ?_
  rintro e w1 ⟨rfl, hk1⟩
  have HK1 := Lib.hid hk1
  clear hk1
  go_wp2_with (go_at_call 46; refine Stop.here ?_)
  refine Stop.go ?_
  refine (CF.out w1).mono ?_
  rintro e w2 ⟨rfl, hk2⟩
  have HK2 := Lib.hid (HK1.out.trans hk2)
  clear hk2
  go_wp2_with fail
  go_ret3
  exact ⟨rfl, HK2.out⟩
theorem dirs_find (w : World) (fb ib pb ab table np n : Nat) (S : List Nod) (y : Nod) (l : List Ent) (s : List UInt8) (h : Sys w fb ib pb ab table np S) (hd : IsDir S n y l) (hs : s.length ≤ 100000) :
    Calls Tryz.prog 19 #[.pointer (some ⟨fb, 0, none⟩), .int .i64 n, .string (str s)] w fun e w' => ∃ A c, e = .returned (.tuple #[.slice A l.length c, .int .i64 (entNode l s : Nat), .int .i64 (nameMay s)]) ∧ Ents w' [] A c l ∧ Kept [] w w' := by
  have HL := Lib.hid (dirs_List w fb ib pb ab table np n S y l h hd)
  clear h hd
  go_enter Tryz.func19, Tryz.ntmps19
  go_wp2_with (go_at_call 5; refine Stop.here ?_)
  refine Stop.go ?_
  refine HL.out.mono ?_
  rintro e w1 ⟨A1, c1, rfl, he1, hk1⟩
  have HE1 := Lib.hid he1
  have HK1 := Lib.hid hk1
  clear he1 hk1
  go_wp2_with (go_at_call 45; refine Stop.here ?_)
  refine Stop.go ?_
  refine (name_May s w1 hs).mono ?_
  rintro e w2 ⟨rfl, hk2⟩
  have HE2 := Lib.hid (HE1.out.keep0 hk2)
  have HK2 := Lib.hid (HK1.out.trans hk2)
  clear hk2
  go_wp2_with (go_at_call 46; refine Stop.here ?_)
  refine Stop.go ?_
  refine (dirent_Find [] A1 c1 l.length l s w2 HE2.out rfl).mono ?_
  rintro e w3 ⟨rfl, hk3⟩
  have HE3 := Lib.hid (HE2.out.keep0 hk3)
  have HK3 := Lib.hid (HK2.out.trans hk3)
  clear hk3
  go_wp2_with fail
  go_ret3
  exact ⟨A1, c1, rfl, HE3.out, HK3.out⟩

theorem nameMay_range (s : List UInt8) : 0 ≤ nameMay s ∧ nameMay s ≤ 15 := by
  unfold nameMay
  split
  · omega
  · split
    · omega
    · split <;> omega
theorem dirs_Find_bad (p : Value) (n : Int) (s : List UInt8) (e0 : Int) (w : World) (he : e0 ≠ 0) (he1 : -100 ≤ e0) (he2 : e0 ≤ 100)
    (hL : Calls Tryz.prog 19 #[p, .int .i64 n, .string (str s)] w fun e w' => ∃ v k, e = .returned (.tuple #[v, .int .i64 k, .int .i64 e0]) ∧ Kept [] w w') :
    Calls Tryz.prog 6 #[p, .int .i64 n, .string (str s)] w fun e w' => e = .returned (.tuple #[.int .i64 0, .int .i64 e0]) ∧ Kept [] w w' := by
  have hz : (e0 == 0) = false := by rw [beq_eq_false_iff_ne]; exact he
  have HL := Lib.hid hL
  clear hL he
  go_enter Tryz.func6, Tryz.ntmps6
  go_wp2_with (go_at_call 19; refine Stop.here ?_)
  refine Stop.go ?_
  refine HL.out.mono ?_
  rintro e w1 ⟨v, k, rfl, hk1⟩
  have HK1 := Lib.hid hk1
  clear hk1
  go_wp2_with fail
  go_ret2
  exact ⟨rfl, HK1.out⟩
/-- What Find answers. -/
def findAns (l : List Ent) (s : List UInt8) : Int × Int := if nameMay s ≠ 0 then (0, nameMay s) else if entNode l s = 0 then (0, 6) else ((entNode l s : Nat), 0)
theorem dirs_Find (w : World) (fb ib pb ab table np n : Nat) (S : List Nod) (y : Nod) (l : List Ent) (s : List UInt8) (h : Sys w fb ib pb ab table np S) (hd : IsDir S n y l) (hs : s.length ≤ 100000) :
    Calls Tryz.prog 6 #[.pointer (some ⟨fb, 0, none⟩), .int .i64 n, .string (str s)] w fun e w' => e = .returned (.tuple #[.int .i64 (findAns l s).1, .int .i64 (findAns l s).2]) ∧ Kept [] w w' := by
  have hf := dirs_find w fb ib pb ab table np n S y l s h hd hs
  have hr := nameMay_range s
  by_cases c : nameMay s = 0
  · rw [c] at hf
    have HF := Lib.hid hf
    by_cases c2 : entNode l s = 0
    · have e : findAns l s = (0, 6) := by rw [findAns, if_neg (by rw [c]; simp), if_pos c2]
      rw [e]
      rw [c2] at hf
      have HF := Lib.hid hf
      clear hf h hd e c c2 hr
      go_enter Tryz.func6, Tryz.ntmps6
      go_wp2_with (go_at_call 19; refine Stop.here ?_)
      refine Stop.go ?_
      refine HF.out.mono ?_
      rintro e w1 ⟨A1, c1, rfl, he1, hk1⟩
      have HK1 := Lib.hid hk1
      clear hk1 he1
      go_wp2_with fail
      go_ret2
      exact ⟨rfl, HK1.out⟩
    · have e : findAns l s = (((entNode l s : Nat) : Int), 0) := by rw [findAns, if_neg (by rw [c]; simp), if_neg c2]
      rw [e]
      have hz : (((entNode l s : Nat) : Int) == 0) = false := by rw [beq_eq_false_iff_ne]; omega
      clear hf h hd e c c2 hr
      go_enter Tryz.func6, Tryz.ntmps6
      go_wp2_with (go_at_call 19; refine Stop.here ?_)
      refine Stop.go ?_
      refine HF.out.mono ?_
      rintro e w1 ⟨A1, c1, rfl, he1, hk1⟩
      have HK1 := Lib.hid hk1
      clear hk1 he1
      go_wp2_with fail
      go_ret2
      exact ⟨rfl, HK1.out⟩
  · have e : findAns l s = (0, nameMay s) := by rw [findAns, if_pos c]
    rw [e]
    refine dirs_Find_bad _ n s (nameMay s) w c (by omega) (by omega) (hf.mono ?_)
    rintro e w' ⟨A, c, rfl, _, hk⟩
    exact ⟨_, _, rfl, hk⟩
end Go.Proofs.YtcbdjmlkjifamaaGreatDoor
