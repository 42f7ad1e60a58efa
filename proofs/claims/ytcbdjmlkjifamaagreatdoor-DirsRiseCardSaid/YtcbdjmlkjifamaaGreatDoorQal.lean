/-
  inode.Lay and inode.Put at inodes that may be. Conditions: as the theorems say.
-/
import Derived.Test.YtcbdjmlkjifamaaGreatDoorQai
import Derived.Test.YtcbdjmlkjifamaaGreatDoorQak
set_option linter.unusedVariables false
set_option linter.unusedSimpArgs false

namespace Go.Proofs.YtcbdjmlkjifamaaGreatDoor
open Go.RowKit
set_option maxRecDepth 100000

/-- An inode's bytes. -/
def Ino.bytes (x : Ino) : List UInt8 :=
  [UInt8.ofNat x.kind, UInt8.ofNat x.mode] ++ leBytes x.links 2 ++ leBytes x.size 4 ++ leBytes x.time 8 ++ (UInt8.ofNat x.attr :: x.pages) ++ List.replicate 15 0
/-- The bounds that every inode here has. -/
structure Ino.Lim (x : Ino) : Prop where
  kind : x.kind ≤ 3
  mode : x.mode ≤ 7
  links : x.links ≤ 65535
  size : x.size ≤ 8192
  time : x.time ≤ 9223372036854775807
  attr : x.attr ≤ 215
  len : x.pages.length = 32
theorem Ino.Good.lim {x : Ino} (h : x.Good) : x.Lim := by
  rcases h with h | rfl
  · exact ⟨h.kind.2, h.mode, h.links, h.size, h.time, h.attr, h.len⟩
  · exact ⟨by decide, by decide, by decide, by decide, by decide, by decide, by decide⟩
theorem Ino.bytes_length (x : Ino) (h : x.pages.length = 32) : x.bytes.length = 64 := by
  simp [Ino.bytes, leBytes_length, h]

theorem inode_Lay (x : Ino) (w : World) (h : x.Good) : Calls Tryz.prog 97 #[.agg x.cells] w fun e w' =>
    ∃ v, e = .returned (.tuple #[v, .int .i64 0]) ∧ w'.ownsRow w.heap.size 5 1 v 64 (x.bytes.map b8) ∧ Kept [] w w' := by
  have hk : (x.kind : Int) ≤ 3 := by have := h.lim.kind; omega
  have hm : (x.mode : Int) ≤ 7 := by have := h.lim.mode; omega
  have hli : (x.links : Int) ≤ 65535 := by have := h.lim.links; omega
  have hs : (x.size : Int) ≤ 8192 := by have := h.lim.size; omega
  have ht : (x.time : Int) ≤ 9223372036854775807 := by have := h.lim.time; omega
  have ha : (x.attr : Int) ≤ 215 := by have := h.lim.attr; omega
  have a0 := x.at0
  have a1 := x.at1
  have HX := Lib.hid h
  clear h
  go_enter Tryz.func97, Tryz.ntmps97
  go_wp2_with (first | (go_at_call 64; refine Stop.here ?_) | (with_reducible refine stop_load (t := 53) ?_))
  refine Stop.go ?_
  refine wpList_load_row rfl 53 _ rfl w.heap.size rfl 53 x.cells (0, 0) _ (Blk.new w 53 x.cells) Tryz.underlying53 rfl (by rw [x.cells_size HX.out.lim.len]; exact ino_info) ?_
  go_wp2_with (go_at_call 64; refine Stop.here ?_)
  refine Stop.go ?_
  refine (inode_May_good x _ HX.out).mono ?_
  rintro e w1 ⟨rfl, hk1⟩
  have hb := (Blk.new w 53 x.cells).keep0 hk1
  have c0 : w1.cell? ⟨w.heap.size, 0, none⟩ = some (.int .i64 x.kind) := by rw [hb.cell, a0]
  have c1 : w1.cell? ⟨w.heap.size, 1, none⟩ = some (.int .i64 x.mode) := by rw [hb.cell, a1]
  have hw1 : w.heap.size < w1.heap.size := hb.lt
  have c2 : ∀ o, (w1.alloc o).cell? ⟨w.heap.size, 2, none⟩ = some (.int .i64 x.links) := fun o => by rw [(hb.alloc o).cell, x.at2]
  have HB := Lib.hid hb
  have HK1 := Lib.hid (((Kept.refl [] w).alloc _).trans hk1)
  clear hb hk1 a0 a1
  go_wp2_with (go_at_call 111; refine Stop.here ?_)
  refine Stop.go ?_
  have hb1 : Bytes (w1.alloc (.cells #[.int .u8 x.kind, .int .u8 x.mode] 5)) [] (some ⟨w1.heap.size, 0, none⟩) 2 [UInt8.ofNat x.kind, UInt8.ofNat x.mode] := by
    have := Bytes.of_blk (D := []) (bs := [UInt8.ofNat x.kind, UInt8.ofNat x.mode]) (g := w1.heap.size) (w := w1.alloc (.cells #[.int .u8 x.kind, .int .u8 x.mode] 5)) (by
      have e : ([UInt8.ofNat x.kind, UInt8.ofNat x.mode].map b8).toArray = #[Value.int .u8 x.kind, Value.int .u8 x.mode] := by
        simp only [List.map_cons, List.map_nil]
        rw [b8_ofNat (by omega), b8_ofNat (by omega)]
      rw [e]
      exact Blk.new _ _ _) (by simp) (by simp)
    exact this
  refine (pack_Num2 [] _ 2 2 _ x.links _ hb1 rfl (by omega) (by omega)).mono ?_
  rintro e w2 ⟨v2, rfl, ho2, hk2⟩
  obtain ⟨A2, d2, rfl⟩ := own_form ho2
  have hbk := (HB.out.alloc (.cells #[.int .u8 x.kind, .int .u8 x.mode] 5)).keep0 hk2
  have c3 : w2.cell? ⟨w.heap.size, 3, none⟩ = some (.int .i64 x.size) := by rw [hbk.cell, x.at3]
  have hkk : Kept [] w w2 := (HK1.out.alloc _).trans hk2
  have hlt2 := hbk.lt
  have hbs2 := Bytes.of_own (D := []) ho2 (by simp [leBytes_length]) (by simp) (by omega)
  have HB2 := Lib.hid hbk
  have HK2 := Lib.hid hkk
  have HS2 := Lib.hid hbs2
  clear hb1 ho2 hk2 hbk hkk c0 c1 c2 HB HK1 hbs2
  go_wp2_with (go_at_call 111; refine Stop.here ?_)
  refine Stop.go ?_
  refine (pack_Num4 [] _ _ 4 _ x.size _ HS2.out (by simp [leBytes_length]) (by omega) (by omega)).mono ?_
  rintro e w3 ⟨v3, rfl, ho3, hk3⟩
  obtain ⟨A3, d3, rfl⟩ := own_form ho3
  have hbk := HB2.out.keep0 hk3
  have c4 : w3.cell? ⟨w.heap.size, 4, none⟩ = some (.int .i64 x.time) := by rw [hbk.cell, x.at4]
  have hkk : Kept [] w w3 := HK2.out.trans hk3
  have hlt3 := hbk.lt
  have hbs3 := Bytes.of_own (D := []) ho3 (by simp [leBytes_length]) (by simp) (by omega)
  have HB3 := Lib.hid hbk
  have HK3 := Lib.hid hkk
  have HS3 := Lib.hid hbs3
  clear ho3 hk3 hbk hkk c3 HB2 HK2 HS2 hbs3
  go_wp2_with (go_at_call 111; refine Stop.here ?_)
  refine Stop.go ?_
  refine (pack_Num8 [] _ _ 8 _ x.time _ HS3.out (by simp [leBytes_length]) (by omega) (by omega)).mono ?_
  rintro e w4 ⟨v4, rfl, ho4, hk4⟩
  obtain ⟨A4, d4, rfl⟩ := own_form ho4
  have hbk := HB3.out.keep0 hk4
  have c5 : w4.cell? ⟨w.heap.size, 5, none⟩ = some (.int .i64 x.attr) := by rw [hbk.cell, x.at5]
  have hkk : Kept [] w w4 := HK3.out.trans hk4
  have hlt4 := hbk.lt
  have HG34 := Lib.hid hk4.size
  have HB4 := Lib.hid hbk
  have HK4 := Lib.hid hkk
  have HO4 := Lib.hid ho4
  clear ho4 hk4 hbk hkk c4 HB3 HK3 HS3
  obtain ⟨i0, hi, hz0, hz1, hz2⟩ := info_parts u8_info
  obtain ⟨bs4, hbs4⟩ : ∃ l, l = [UInt8.ofNat x.kind, UInt8.ofNat x.mode] ++ leBytes x.links 2 ++ leBytes x.size 4 ++ leBytes x.time 8 := ⟨_, rfl⟩
  have hoA : (w4.alloc (.cells #[.int .u8 x.attr] 5)).drew.ownsRow w3.heap.size 5 1 (.slice A4 16 d4) 16 (bs4.map b8) := by rw [hbs4]; exact (HO4.out.alloc _).drew
  have hsA : Sl (w4.alloc (.cells #[.int .u8 x.attr] 5)).drew [] 5 1 (some ⟨w4.heap.size, 0, none⟩) 1 1 [.int .u8 x.attr] := (Sl.new (w := w4) (xs := [.int .u8 x.attr]) rfl (by simp) rfl (by omega)).keep0 (Kept.refl [] _).drew
  have hsB : ∀ W, Blk W w.heap.size 53 x.cells → Sl W [] 53 1 (some ⟨w.heap.size, 6, none⟩) 32 32 (x.pages.map b8) := fun W hW => by
    refine ⟨by rw [List.length_map, HX.out.lim.len], by omega, by omega, by omega, fun _ => ⟨_, rfl, by simp, ⟨_, _, hW⟩, fun j u hu => ?_⟩⟩
    have hadd : (⟨w.heap.size, 6, none⟩ : Addr).add j = ⟨w.heap.size, 6 + j, none⟩ := by unfold Addr.add; split <;> simp_all
    rw [hadd, hW.cell, x.at6]
    simpa [pgCells] using hu
  have HBS := Lib.hid hbs4
  have HOA := Lib.hid hoA
  have HSA := Lib.hid hsA
  have HSB := Lib.hid hsB
  have HBA := Lib.hid ((HB4.out.alloc (.cells #[.int .u8 x.attr] 5)).drew)
  have HKA := Lib.hid ((HK4.out.alloc (.cells #[.int .u8 x.attr] 5)).drew)
  have hg5 := HK4.out.size
  have hg6 : w3.heap.size ≤ w4.heap.size := HG34.out
  have hwr : IntKind.u8.wrap (x.attr : Int) = x.attr := by rw [IntKind.wrap_u8]; omega
  have c5' : w4.drew.cell? ⟨w.heap.size, 5, none⟩ = some (.int .i64 x.attr) := c5
  clear hbs4 hoA hsA hsB HO4 HB4 HK4 c5
  go_wp2_with fail
  go_region_law (first
    | (refine step_append_any _ rfl (.tmp 30) (.tmp 34) _ rfl w3.heap.size 5 i0 _ 1 1 Tryz.underlying56 hi hz0 hz1 hz2 rfl (by omega) (.slice A4 16 d4) 16 _ (by simp [Act.eval, Act.put]) HOA.out [] 5 (some ⟨w4.heap.size, 0, none⟩) 1 1 [.int .u8 x.attr] (by simp [Act.eval, Act.put]) HSA.out (by simp [Value.oneCell']) (by simp only [maxLen]; omega) (by omega) (by simp; omega) ?_; intro v5 w5 ho5 hg5 _; obtain ⟨A5, d5, rfl⟩ := own_form ho5; have HO5 := Lib.hid ho5; have HG5 := Lib.hid hg5; clear ho5 hg5)
    | (refine step_append_any _ rfl (.tmp 35) (.tmp 37) _ rfl w3.heap.size 5 i0 _ 1 1 Tryz.underlying56 hi hz0 hz1 hz2 rfl (by omega) (.slice A5 17 d5) 17 _ (by simp [Act.eval, Act.put]) HO5.out [] _ (some ⟨w.heap.size, 6, none⟩) 32 32 (x.pages.map b8) (by simp [Act.eval, Act.put]) (HSB.out _ (HBA.out.grown HG5.out (own_ne HOA.out HBA.out (by decide)))) (oneCell_b8 _) (by simp only [maxLen]; omega) (by omega) (by have := HG5.out.size; simp at this; omega) ?_; intro v6 w6 ho6 hg6 _; have HO6 := Lib.hid ho6; have HG6 := Lib.hid hg6; clear ho6 hg6))
  obtain ⟨A6, d6, rfl⟩ := own_form HO6.out
  have hk5 : Kept [] w w5 := HKA.out.grown HG5.out (fun k hk => .inl (by have := (HOA.out.lt k hk).1; have := HG34.out; omega))
  have hk6 : Kept [] w w6 := hk5.grown HG6.out (fun k hk => .inl (by have := (HO5.out.lt k hk).1; omega))
  have hbs6 : Bytes w6 [] A6 d6 (bs4 ++ [UInt8.ofNat x.attr] ++ x.pages) := by
    have h1 : bs4.map b8 ++ [Value.int .u8 x.attr] ++ x.pages.map b8 = (bs4 ++ [UInt8.ofNat x.attr] ++ x.pages).map b8 := by
      simp only [List.map_append, List.map_cons, List.map_nil]
      rw [b8_ofNat (n := x.attr) (by omega)]
    have h2 := HO6.out
    rw [h1] at h2
    refine Bytes.of_own (D := []) h2 ?_ (by simp) (by omega)
    rw [HBS.out]
    simp [leBytes_length, HX.out.lim.len]
  have HK6 := Lib.hid hk6
  have HS6 := Lib.hid hbs6
  have hlen : (bs4 ++ [UInt8.ofNat x.attr] ++ x.pages).length = 17 + 32 := by
    rw [HBS.out]
    simp [leBytes_length, HX.out.lim.len]
  have HLN := Lib.hid hlen
  clear hk5 hk6 hbs6 hlen HO6 HG6 HO5 HG5 HKA HBA HSB HSA HOA
  go_wp2_with (go_at_call 94; refine Stop.here ?_)
  refine Stop.go ?_
  have hf := pack_Fill [] A6 d6 _ 64 w6 HS6.out (by rw [HLN.out]; omega) (by omega)
  rw [HLN.out] at hf
  refine hf.mono ?_
  rintro e w7 ⟨v7, rfl, ho7, hk7⟩
  have HK7 := Lib.hid (HK6.out.trans hk7)
  have HO7 := Lib.hid (ho7.mono (base' := w.heap.size) HK6.out.size)
  clear ho7 hk7 hf
  go_wp2_with fail
  go_ret2
  refine ⟨v7, rfl, ?_, HK7.out⟩
  have e : x.bytes = bs4 ++ [UInt8.ofNat x.attr] ++ x.pages ++ List.replicate (64 - (17 + 32)) 0 := by
    rw [HBS.out]
    simp [Ino.bytes]
  rw [e]
  exact HO7.out

/-- A page of inodes where the k-th is another. -/
def putIno (pg : List UInt8) (k : Nat) (x : Ino) : List UInt8 := pg.take (64 * k) ++ x.bytes ++ pg.drop (64 * k + 64)
theorem putIno_length (pg : List UInt8) (k : Nat) (x : Ino) (h : pg.length = 256) (hk : k < 4) (hx : x.pages.length = 32) : (putIno pg k x).length = 256 := by
  simp only [putIno, List.length_append, List.length_take, List.length_drop, Ino.bytes_length x hx]
  omega

theorem inode_Put (x : Ino) (D : List Nat) (A : Option Addr) (c k : Nat) (pg : List UInt8) (w : World) (h : x.Good) (hp : Bytes w D A c pg) (hn : pg.length = 256) (hk4 : k < 4) :
    Calls Tryz.prog 60 #[.slice A 256 c, .int .i64 k, .agg x.cells] w fun e w' =>
      ∃ v, e = .returned (.tuple #[v, .int .i64 0]) ∧ w'.ownsRow w.heap.size 5 1 v 256 ((putIno pg k x).map b8) ∧ Kept [] w w' := by
  have HX := Lib.hid h
  have HP := Lib.hid hp
  have HN := Lib.hid hn
  clear h hp hn
  go_enter Tryz.func60, Tryz.ntmps60
  go_wp2_with (with_reducible refine stop_load (t := 53) ?_)
  refine Stop.go ?_
  refine wpList_load_row rfl 53 _ rfl w.heap.size rfl 53 x.cells (0, 0) _ (Blk.new w 53 x.cells) Tryz.underlying53 rfl (by rw [x.cells_size HX.out.lim.len]; exact ino_info) ?_
  go_wp2_with (go_at_call 97; refine Stop.here ?_)
  refine Stop.go ?_
  refine (inode_Lay x _ HX.out).mono ?_
  rintro e w1 ⟨v1, rfl, ho1, hk1⟩
  obtain ⟨A1, c1, rfl⟩ := own_form ho1
  have HK1 := Lib.hid (((Kept.refl [] w).alloc _).trans hk1)
  have HO1 := Lib.hid (ho1.mono (base' := w.heap.size) (by simp))
  have HP1 := Lib.hid (HP.out.keep0 (((Kept.refl [] w).alloc _).trans hk1))
  clear ho1 hk1
  go_wp2_with (go_at_call 98; refine Stop.here ?_)
  refine Stop.go ?_
  refine (bytes_Clone_n D A c 256 pg _ HP1.out HN.out).mono ?_
  rintro e w2 ⟨v2, rfl, ho2, hk2⟩
  rcases ho2.2 with ⟨h', _⟩ | ⟨g, c2, cur, hv, hg, hheap, hnc, hcm, hcs, htake⟩
  · exact absurd (congrArg Value.ownBlock h') (by have := ho2.form (by omega); obtain ⟨g, cap, hv, _⟩ := this; rw [hv]; simp [Value.ownBlock])
  subst hv
  have hne : ¬ c2 = 64 * k := by omega
  have hlt := lt_of_heap hheap
  have hcl : cur.toList.length = c2 := by simpa using hcs
  have HK2 := Lib.hid hk2
  have HO12 := Lib.hid (own_keep0 HO1.out hk2)
  have HH := Lib.hid hheap
  have HT := Lib.hid htake
  have HCL := Lib.hid hcl
  have HCM := Lib.hid hcm
  clear ho2 hk2 hheap htake hcs hcl hcm
  go_wp2_with (with_reducible refine stop_copy ?_)
  refine Stop.go ?_
  have hb1 : Bytes w2 [] A1 c1 x.bytes := Bytes.of_own (D := []) HO12.out (x.bytes_length HX.out.lim.len) (by simp) (by omega)
  have hxl := x.bytes_length HX.out.lim.len
  refine wpList_copy_splice rfl (.tmp 36) (.tmp 37) _ _ rfl 5 Tryz.underlying56 u8_one (some ⟨g, 64 * k, none⟩) A1 (256 - 64 * k) (c2 - 64 * k) 64 c1 rfl rfl g (64 * k) cur.toList 5 HH.out (x.bytes.map b8)
    (by rw [List.length_map, hxl]; exact (Nat.min_eq_left (by omega)).symm) (fun h0 => ⟨rfl, ?_⟩) (by rw [List.length_map, hxl, HCL.out]; omega) (oneCell_b8 _) g w2 (Below.refl _ _) (Nat.le_refl _) ?_
  · obtain ⟨ad, hA, _, _, hc⟩ := hb1.at_ (by rw [hxl]; omega)
    exact ⟨ad, hA, hc⟩
  intro w3 hg3 hb3
  have hrow : w3.ownsRow w.heap.size 5 1 (.slice (some ⟨g, 0, none⟩) 256 c2) 256 ((putIno pg k x).map b8) := by
    refine ⟨by rw [List.length_map, putIno_length pg k x HN.out hk4 HX.out.lim.len], .inr ⟨g, c2, _, rfl, by have := HK1.out.size; omega, hg3.out, hnc, HCM.out, ?_, ?_⟩⟩
    · rw [List.size_toArray, length_splice _ _ _ (by rw [List.length_map, hxl, HCL.out]; omega), HCL.out, Nat.mul_one]
    · have ht := HT.out
      rw [Nat.mul_one] at ht ⊢
      show (splice cur.toList (64 * k) (x.bytes.map b8)).take 256 = _
      rw [splice_take _ _ _ _ (by rw [List.length_map, hxl]; omega) (by rw [HCL.out]; exact hnc), ht]
      simp only [splice, putIno, List.map_append, List.map_take, List.map_drop, List.length_map, hxl, List.append_assoc]
  have hkk : Kept [] w w3 := (HK1.out.trans HK2.out).behind hb3 (by have := HK1.out.size; omega)
  have HR := Lib.hid hrow
  have HKK := Lib.hid hkk
  clear hrow hkk hg3 hb3 hb1 hxl
  go_wp2_with fail
  go_ret2
  exact ⟨_, rfl, HR.out, HKK.out⟩
end Go.Proofs.YtcbdjmlkjifamaaGreatDoor
