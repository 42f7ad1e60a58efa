/-
  files.Open on a plain image whose page 0 is a system's. Conditions: the map holds the table's pages, and is free behind the image.
-/
import Derived.Test.YtcbdjmlkjifamaaGreatDoorQap
import Derived.Test.YtcbdjmlkjifamaaGreatDoorQau
set_option linter.unusedVariables false
set_option linter.unusedSimpArgs false

namespace Go.Proofs.YtcbdjmlkjifamaaGreatDoor
open Go.RowKit
set_option maxRecDepth 100000

theorem layB_five (table : Nat) (bm : List UInt8) (h : table ≤ 16) (h1 : 5 < (layB table bm).length) : ((layB table bm)[5]'h1).toNat = table := by
  have e : (layB table bm)[5]'h1 = UInt8.ofNat table := by
    have : (layB table bm)[5]? = some (UInt8.ofNat table) := rfl
    rw [List.getElem?_eq_getElem h1] at this
    injection this
  rw [e, UInt8.toNat_ofNat']
  omega

set_option maxHeartbeats 2000000 in
theorem files_Open (w : World) (ib pb ab table : Nat) (g : List (List UInt8)) (bm : List UInt8) (h : Img w ib pb ab g) (h0 : g[0]? = some (layB table bm)) (hb : bm.length = 27) (h1 : 1 ≤ table) (h2 : table ≤ 16) (h3 : table + 2 ≤ g.length)
    (hf1 : bmFree bm 0 (table + 1) = 0) (hf2 : 216 - g.length ≤ bmFree bm g.length 216) :
    Calls Tryz.prog 28 #[.pointer (some ⟨ib, 0, none⟩)] w fun e w' => ∃ fb, e = .returned (.tuple #[.pointer (some ⟨fb, 0, none⟩), .int .i64 0]) ∧
      Blk w' fb 79 #[.pointer (some ⟨ib, 0, none⟩), .int .i64 table] ∧ Kept [] w w' := by
  have hsm := h.small
  have hll := layB_length table bm (by omega)
  have H := Lib.hid h
  have H0 := Lib.hid h0
  have HB := Lib.hid hb
  have HLL := Lib.hid hll
  have HF1 := Lib.hid hf1
  clear h h0 hb hll hf1
  go_enter Tryz.func28, Tryz.ntmps28
  go_wp2_with (go_at_call 33; refine Stop.here ?_)
  refine Stop.go ?_
  refine (image_Page w ib pb ab 0 g (layB table bm) H.out H0.out).mono ?_
  rintro e w1 ⟨v1, rfl, ho1, hk1⟩
  obtain ⟨A1, c1, rfl⟩ := own_form ho1
  obtain ⟨g1, rfl, hg1, hg2, hc5, _⟩ := own_at (k := 5) ho1 HLL.out (by omega)
  rw [layB_five table bm h2] at hc5
  have hb1 := Bytes.of_own (D := []) ho1 HLL.out (by simp) (by omega)
  have hcap := hb1.cap
  rw [HLL.out] at hcap
  have hcut := hb1.cut (k := 6) (by rw [HLL.out]; omega)
  rw [if_neg (by omega)] at hcut
  have htk : Bytes w1 [] ((some (⟨g1, 0, none⟩ : Addr)).map (·.add 6)) (c1 - 6) bm := by
    have := hcut.take (k := 27) (by rw [List.length_drop, HLL.out]; omega)
    rw [layB_bm table bm HB.out] at this
    exact this
  simp only [Option.map_some, add_lit0] at htk
  have hi1 := H.out.keep0 hk1
  have HB1 := Lib.hid hb1
  have HT := Lib.hid htk
  have HK1 := Lib.hid hk1
  have HI1 := Lib.hid hi1
  clear ho1 hk1 hb1 hcut htk hi1
  go_wp2_with (go_at_call 58; refine Stop.here ?_)
  refine Stop.go ?_
  refine (files_lay [] _ _ 27 table bm w1 HT.out HB.out (by omega) h2).mono ?_
  rintro e w2 ⟨v2, rfl, ho2, hk2⟩
  obtain ⟨A2, c2, rfl⟩ := own_form ho2
  have hb2 := Bytes.of_own (D := []) ho2 HLL.out (by simp) (by omega)
  have HB2 := Lib.hid hb2
  have HK2 := Lib.hid (HK1.out.trans hk2)
  have HI2 := Lib.hid (HI1.out.keep0 hk2)
  have HP2 := Lib.hid (HB1.out.keep0 hk2)
  have HT2 := Lib.hid (HT.out.keep0 hk2)
  clear ho2 hk2 hb2
  go_wp2_with (go_at_call 62; refine Stop.here ?_)
  refine Stop.go ?_
  refine (bytes_Equal [] [] _ _ _ _ 256 256 (layB table bm) (layB table bm) w2 HP2.out HLL.out HB2.out HLL.out).mono ?_
  rintro e w3 ⟨rfl, rfl⟩
  rw [beq_self_eq_true]
  have hF1 := bitmap_Free [] _ _ 27 bm 0 ((table : Int) + 1) w2 HT2.out HB.out (by omega) (by omega) (by omega) (by omega) (by omega)
  rw [show ((table : Int) + 1).toNat = table + 1 from by omega, show (0 : Int).toNat = 0 from rfl, HF1.out] at hF1
  have hF2 := bitmap_Free [] _ _ 27 bm (g.length : Nat) 216 w2 HT2.out HB.out (by omega) (by omega) (by omega) (by omega) (by omega)
  rw [Int.toNat_natCast, show (216 : Int).toNat = 216 from rfl] at hF2
  obtain ⟨F, hF⟩ : ∃ F, F = bmFree bm g.length 216 := ⟨_, rfl⟩
  rw [← hF] at hF2 hf2
  have HA := Lib.hid hF1
  have HC := Lib.hid hF2
  clear hF1 hF2 hF
  go_wp2_with (first | (go_at_call 57; refine (image_Pages _ ib pb ab g HI2.out).mono ?_; rintro e w' ⟨rfl, rfl⟩) | (go_at_call 63; refine Stop.here ?_))
  refine Stop.go ?_
  refine HA.out.mono ?_
  rintro e w' ⟨rfl, rfl⟩
  go_wp2_with (first | (go_at_call 57; refine (image_Pages _ ib pb ab g HI2.out).mono ?_; rintro e w' ⟨rfl, rfl⟩) | (go_at_call 63; refine Stop.here ?_))
  refine Stop.go ?_
  refine HC.out.mono ?_
  rintro e w' ⟨rfl, rfl⟩
  have hlt : ¬ (F : Int) < 216 - (g.length : Int) := by omega
  go_wp2_with (first | (go_at_call 57; refine (image_Pages _ ib pb ab g HI2.out).mono ?_; rintro e w' ⟨rfl, rfl⟩))
  go_ret2
  exact ⟨_, rfl, Blk.new _ _ _, HK2.out.alloc _⟩
end Go.Proofs.YtcbdjmlkjifamaaGreatDoor
