/-
  Package files: lay, own, ok, Nodes, Inode, used, put, taken at a system that was made. Conditions: a state that is consistent. Package files: own, ok, Nodes, Inode, used, put, taken at a system that was made. Conditions: a state that is consistent. Package files: Inode, used at any number, and of no system; taken, put. Conditions: a state that is consistent. Package files: taken, put, give, take at a system that was made. Conditions: a state that is consistent. Package files: give and take at a system that was made. Conditions: a state that is consistent; the pages that are given are taken. Package files: take at a system that was made. Conditions: a state that is consistent; there is room. Package files: spread at a system that was made. Conditions: a state that is consistent; the inode has the pages. Package files: Make at a system that was made. Conditions: a state that is consistent. Package files: take where there is no room, at a system that was made. Conditions: a state that is consistent. Package files: clear at a system that was made. Conditions: a state that is consistent. Package files: Write at a system that was made: where it answers an error, or writes nothing. Conditions: a state that is consistent.
-/
import Derived.Test.YtcbdjmlkjifamaaGreatDoorQam
import Derived.Lib.SlBytesConst
set_option linter.unusedVariables false
set_option linter.unusedSimpArgs false

/- Package files: lay, own, ok, Nodes, Inode, used, put, taken at a system that was made. Conditions: a state that is consistent. -/
namespace Go.Proofs.YtcbdjmlkjifamaaGreatDoor
open Go.RowKit
set_option maxRecDepth 100000

/-- The page 0. -/
def layB (table : Nat) (bm : List UInt8) : List UInt8 := [70, 83, 89, 83, 1, UInt8.ofNat table] ++ bm ++ List.replicate (256 - (6 + bm.length)) 0
theorem layB_length (table : Nat) (bm : List UInt8) (h : bm.length ≤ 250) : (layB table bm).length = 256 := by
  simp [layB]
  omega

theorem wpList_append_grow {P : Program} {W0 w : World} {ops : Array Oper} {rest : List Oper} {o : Oper} {a : Act} {Q : Exit → Act → World → Prop} (hgd : o.guard = none) (s x : Operand) (t : TypeId)
    (ho : o.op = .call { callee := .builtin .append, args := #[s, x], argTypes := #[t, t] })
    (base : Nat) (e : TypeId) (i : TypeInfo) (z : Value) (size bytes : Nat) (ht : P.underlying t = some (.slice e)) (hi : P.info? e = some i) (hz : i.zero = some z)
    (hsize : i.size = size) (hby : i.bytes = bytes) (hzs : z.cells.size = size)
    (D1 : List Nat) (A1 : Option Addr) (n c1 : Nat) (xs : List Value) (hs : a.eval s = .slice A1 n c1) (hsl : Sl w D1 e size A1 n c1 xs) (hn0 : 0 < n)
    (D2 : List Nat) (e2 : TypeId) (A2 : Option Addr) (m c2 : Nat) (news : List Value) (hx : a.eval x = .slice A2 m c2) (hr : Sl w D2 e2 size A2 m c2 news) (hm0 : 0 < m) (hgw : c1 < n + m)
    (h63 : n + m ≤ maxLen) (hbytes : (n + m) * bytes ≤ 140737488355328) (hbase : base ≤ w.heap.size) (hk : Kept [] W0 w)
    (h : ∀ v' w', w'.ownsRow base e size v' (n + m) (xs ++ news) → Kept [] W0 w' → Kept [] w w' → wpList P ops Q rest (a.put o.dst v') w') : wpList P ops Q (o :: rest) a w := by
  subst hsize
  subst hby
  obtain ⟨ad1, rfl, _, _, hc1⟩ := hsl.at_ hn0
  obtain ⟨ad2, rfl, _, _, hc2⟩ := hr.at_ hm0
  have hsmall : n + m ≤ 9223372036854775807 := by simp only [maxLen] at h63; omega
  have hrun := run_append_grow (P := P) w t o.type e i z ht hi hz ad1 n c1 xs hsl.len hc1 ad2 m c2 news hr.len hc2 hgw (by omega) (growslice_fits hgw hbytes)
  have hlen : (xs ++ news).length = (n + m) * i.size := by rw [List.length_append, hsl.len, hr.len, Nat.add_mul]
  have hge := grownCap_ge w (n + m) c1 e
  refine wpList_plain hgd fun _ hK => ?_
  unfold Oper.wp execOp
  simp only [ho, resolve, invoke, builtin, Sem.run_bind, Sem.run_pure, Result.andThen_ok, List.map_toArray, List.map_cons, List.map_nil, hs, hx, hrun]
  refine hK _ _ (h _ _ ⟨hlen, .inr ⟨w.heap.size, _, _, rfl, hbase, heap_alloc_new w.drew _, hge, grownCap_le_maxLen w (n + m) c1 e h63, ?_, ?_⟩⟩ (hk.drew.alloc _) ((Kept.refl [] w).drew.alloc _))
  · simp only [Array.size_append, List.size_toArray, size_zeroCells, hzs, hsl.len, hr.len, ← Nat.add_mul]
    congr 1
    omega
  · simp only [Array.toList_append, List.append_assoc]
    rw [← List.append_assoc, ← hlen]
    exact List.take_left

theorem files_lay (D : List Nat) (A : Option Addr) (c n table : Nat) (bm : List UInt8) (w : World) (h : Bytes w D A c bm) (hn : bm.length = n) (h1 : n ≤ 250) (h2 : table ≤ 16) :
    Calls Tryz.prog 58 #[.int .i64 table, .slice A n c] w fun e w' => ∃ v, e = .returned v ∧ w'.ownsRow w.heap.size 5 1 v 256 ((layB table bm).map b8) ∧ Kept [] w w' := by
  obtain ⟨i0, hi, hz0, hz1, hz2⟩ := info_parts u8_info
  have hwr : IntKind.u8.wrap (table : Int) = table := by rw [IntKind.wrap_u8]; omega
  have hu8 : Tryz.prog.underlying 5 = some (.int .u8) := Tryz.underlying5
  have hcv := Lib.run_convert_bytes_const (P := Tryz.prog) w 56 5 #[.int .u8 70, .int .u8 83, .int .u8 89, .int .u8 83] 4 4 Tryz.underlying56 hu8
  have HB := Lib.hid h
  have HN := Lib.hid hn
  clear h hn
  go_enter Tryz.func58, Tryz.ntmps58
  go_wp2_with (at_builtin; refine Stop.here ?_)
  refine Stop.go ?_
  obtain ⟨W1, hW1⟩ : ∃ W1, W1 = w.alloc (.cells #[.int .u8 70, .int .u8 83, .int .u8 89, .int .u8 83] 5 (4, 5)) := ⟨_, rfl⟩
  have hs0 : Sl W1 [] 5 1 (some ⟨w.heap.size, 0, none⟩) 4 4 [.int .u8 70, .int .u8 83, .int .u8 89, .int .u8 83] := by
    rw [hW1]
    refine ⟨rfl, by omega, by omega, by omega, fun _ => ⟨_, rfl, by simp, ⟨_, _, heap_alloc_new w _⟩, fun j u hu => ?_⟩⟩
    have hadd : (⟨w.heap.size, 0, none⟩ : Addr).add j = ⟨w.heap.size, j, none⟩ := by unfold Addr.add; split <;> simp_all
    rw [hadd, cell_of_row _ w.heap.size j _ _ _ (heap_alloc_new w _)]
    simpa using hu
  have hk1 : Kept [] w W1 := by rw [hW1]; exact (Kept.refl _ _).alloc _
  have hsz1 : W1.heap.size = w.heap.size + 1 := by rw [hW1]; simp
  show wpList _ _ _ _ _ ((w.alloc (.cells #[.int .u8 70, .int .u8 83, .int .u8 89, .int .u8 83] 5 (4, 5))).alloc _)
  rw [← hW1]
  clear hW1 hcv
  have hs1 : Sl (W1.alloc (.cells #[.int .u8 1, .int .u8 table] 5)) [] 5 1 (some ⟨w.heap.size + 1, 0, none⟩) 2 2 [.int .u8 1, .int .u8 table] := Sl.new (w := W1) (xs := [.int .u8 1, .int .u8 table]) hsz1.symm (by simp) rfl (by omega)
  refine wpList_append_grow (W0 := w) rfl (.tmp 9) (.tmp 12) _ rfl w.heap.size 5 i0 _ 1 1 Tryz.underlying56 hi hz0 hz1 hz2 rfl [] _ 4 4 _ rfl (hs0.keep0 ((Kept.refl _ _).alloc _)) (by omega) [] _ _ 2 2 _ rfl hs1 (by omega) (by omega) (by simp only [maxLen]; omega) (by omega) (by simp; omega) (hk1.alloc _) ?_
  intro v2 w2 ho2 hk2 _
  obtain ⟨A2, c2, rfl⟩ := own_form ho2
  have HO2 := Lib.hid ho2
  have HK2 := Lib.hid hk2
  have HB2 := Lib.hid (HB.out.keep0 hk2)
  clear ho2 hk2 hs0 hs1 hk1 hsz1
  go_wp2_with (at_builtin; refine Stop.here ?_)
  refine Stop.go ?_
  have hb2 : Sl w2 D 5 1 A n c (bm.map b8) := by
    have := HB2.out
    unfold Bytes at this
    rwa [HN.out] at this
  refine wpList_append_sl (W0 := w) rfl (.tmp 15) (.tmp 16) _ rfl w.heap.size 5 i0 _ 1 1 Tryz.underlying56 hi hz0 hz1 hz2 rfl (by omega) (.slice A2 6 c2) 6 _ rfl HO2.out D _ _ n c _ rfl hb2 (oneCell_b8 _) (by simp only [maxLen]; omega) (by omega) HK2.out.size HK2.out (Nat.le_refl _) ?_
  intro v3 w3 ho3 _ hk3 _
  obtain ⟨A3, c3, rfl⟩ := own_form ho3
  have hrow : [Value.int .u8 70, .int .u8 83, .int .u8 89, .int .u8 83] ++ [.int .u8 1, .int .u8 table] ++ bm.map b8 = ([70, 83, 89, 83, 1, UInt8.ofNat table] ++ bm).map b8 := by
    simp only [List.map_append, List.map_cons, List.map_nil]
    rw [b8_ofNat (n := table) (by omega)]
    rfl
  rw [hrow] at ho3
  have hb3 := Bytes.of_own (D := []) ho3 (by rw [List.length_append, HN.out]; rfl) (by simp) (by omega)
  have hf := pack_Fill [] A3 c3 _ 256 w3 hb3 (by rw [List.length_append, HN.out]; show 6 + n ≤ 256; omega) (by omega)
  have HF := Lib.hid hf
  have HK3 := Lib.hid hk3
  have hlen : ([70, 83, 89, 83, 1, UInt8.ofNat table] ++ bm).length = 6 + n := by rw [List.length_append, HN.out]; rfl
  rw [hlen] at hf
  have HF := Lib.hid hf
  clear ho3 hk3 hb3 hf hrow hb2 HO2 HK2 HB2 hlen
  go_wp2_with (go_at_call 94; refine Stop.here ?_)
  refine Stop.go ?_
  refine HF.out.mono ?_
  rintro e w4 ⟨v4, rfl, ho4, hk4⟩
  have HO4 := Lib.hid (ho4.mono (base' := w.heap.size) HK3.out.size)
  have HK4 := Lib.hid (HK3.out.trans hk4)
  clear ho4 hk4
  go_wp2_with fail
  go_ret
  refine ⟨v4, rfl, ?_, HK4.out⟩
  have e : layB table bm = [70, 83, 89, 83, 1, UInt8.ofNat table] ++ bm ++ List.replicate (256 - (6 + n)) 0 := by rw [layB, HN.out]
  rw [e]
  exact HO4.out
end Go.Proofs.YtcbdjmlkjifamaaGreatDoor

/- Package files: own, ok, Nodes, Inode, used, put, taken at a system that was made. Conditions: a state that is consistent. -/
namespace Go.Proofs.YtcbdjmlkjifamaaGreatDoor
open Go.RowKit
set_option maxRecDepth 100000

/-- The map of a system that has nothing. -/
def ownB (table : Nat) : List UInt8 := match bmTake (List.replicate 27 0) 0 216 (table + 1) with | some r => r.2 | none => []
theorem ownB_is (table : Nat) (h : table ≤ 16) : ∃ l, bmTake (List.replicate 27 0) 0 216 (table + 1) = some (l, ownB table) ∧ (ownB table).length = 27 := by
  have key : ∀ t : Fin 17, ((bmTake (List.replicate 27 0) 0 216 (t.val + 1)).isSome && ((ownB t.val).length == 27)) = true := by decide +kernel
  have := key ⟨table, by omega⟩
  simp only [Bool.and_eq_true, beq_iff_eq] at this
  obtain ⟨h1, h2⟩ := this
  obtain ⟨r, hr⟩ := Option.isSome_iff_exists.1 h1
  refine ⟨r.1, ?_, h2⟩
  rw [hr]
  congr 1
  ext1
  · rfl
  · show r.2 = ownB table
    rw [ownB, hr]

theorem files_own (table : Nat) (w : World) (h : table ≤ 16) :
    Calls Tryz.prog 59 #[.int .i64 table] w fun e w' => ∃ v, e = .returned v ∧ w'.ownsRow w.heap.size 5 1 v 27 ((ownB table).map b8) ∧ Kept [] w w' := by
  obtain ⟨l, hb, hl⟩ := ownB_is table h
  have HB := Lib.hid hb
  have HL := Lib.hid hl
  clear hb hl
  go_enter Tryz.func59, Tryz.ntmps59
  go_wp2_with (go_at_call 95; refine Stop.here ?_)
  refine Stop.go ?_
  refine (bitmap_New 216 w (by omega)).mono ?_
  rintro e w1 ⟨v, rfl, ho, hk⟩
  obtain ⟨A1, c1, rfl⟩ := own_form ho
  have HO := Lib.hid ho
  have HK := Lib.hid hk
  clear ho hk
  go_wp2_with (go_at_call 96; refine Stop.here ?_)
  refine Stop.go ?_
  refine (bitmap_Take [] A1 c1 27 (List.replicate 27 0) _ 0 216 w1 (Bytes.of_own (D := []) HO.out (by simp) (by simp) (by omega)) (by simp) (by omega) (by omega) (by omega) (by omega) (by omega) (by omega) (by omega) l (ownB table) ?_).mono ?_
  · rw [show ((table : Int) + 1).toNat = table + 1 from by omega]
    exact HB.out
  rintro e w2 ⟨v1, v2, rfl, ho1, ho2, hk2⟩
  have HO2 := Lib.hid (ho2.mono (base' := w.heap.size) HK.out.size)
  have HK2 := Lib.hid (HK.out.trans hk2)
  clear ho1 ho2 hk2
  go_wp2_with fail
  go_ret
  refine ⟨v2, rfl, ?_, HK2.out⟩
  have := HO2.out
  rw [HL.out] at this
  exact this

/-- The state of a system: its pages hold the map and the inodes. -/
structure Fs (table : Nat) (pgs : List (List UInt8)) (bm : List UInt8) (nodes : List Ino) : Prop where
  tab : 1 ≤ table ∧ table ≤ 16
  room : table + 2 ≤ pgs.length
  bml : bm.length = 27
  p0 : pgs[0]? = some (layB table bm)
  nlen : nodes.length = 4 * table
  node : ∀ n x, nodes[n]? = some x → x.Good ∧ ∃ pg, pgs[1 + n / 4]? = some pg ∧ (pg.drop (64 * (n % 4))).take 64 = x.bytes

/-- A system in memory. -/
structure Fsys (w : World) (fb ib pb ab table : Nat) (pgs : List (List UInt8)) (bm : List UInt8) (nodes : List Ino) : Prop where
  files : Blk w fb 79 #[.pointer (some ⟨ib, 0, none⟩), .int .i64 table]
  img : Img w ib pb ab pgs
  fs : Fs table pgs bm nodes
namespace Fsys
variable {w w' : World} {fb ib pb ab table : Nat} {pgs : List (List UInt8)} {bm : List UInt8} {nodes : List Ino}
theorem keep0 (h : Fsys w fb ib pb ab table pgs bm nodes) (k : Kept [] w w') : Fsys w' fb ib pb ab table pgs bm nodes := ⟨h.files.keep0 k, h.img.keep0 k, h.fs⟩
theorem c0 (h : Fsys w fb ib pb ab table pgs bm nodes) : w.cell? ⟨fb, 0, none⟩ = some (.pointer (some ⟨ib, 0, none⟩)) := by rw [h.files.cell]; rfl
theorem c1 (h : Fsys w fb ib pb ab table pgs bm nodes) : w.cell? ⟨fb, 1, none⟩ = some (.int .i64 table) := by rw [h.files.cell]; rfl
end Fsys

theorem files_ok (w : World) (fb ib pb ab table : Nat) (pgs : List (List UInt8)) (bm : List UInt8) (nodes : List Ino) (h : Fsys w fb ib pb ab table pgs bm nodes) :
    Calls Tryz.prog 31 #[.pointer (some ⟨fb, 0, none⟩)] w fun e w' => e = .returned (.bool true) ∧ w = w' := by
  have h1 := h.c1
  have h2 : (table : Int) > 0 := by have := h.fs.tab; omega
  clear h
  go_enter Tryz.func31, Tryz.ntmps31
  go_wp2
  go_ret
  exact ⟨ret_bool (by simpa using h2), rfl⟩
theorem files_ok_nil (w : World) : Calls Tryz.prog 31 #[.pointer none] w fun e w' => e = .returned (.bool false) ∧ w = w' := by
  go_enter Tryz.func31, Tryz.ntmps31
  go_wp2
  go_ret
  exact ⟨rfl, rfl⟩

theorem files_Nodes (w : World) (fb ib pb ab table : Nat) (pgs : List (List UInt8)) (bm : List UInt8) (nodes : List Ino) (h : Fsys w fb ib pb ab table pgs bm nodes) :
    Calls Tryz.prog 32 #[.pointer (some ⟨fb, 0, none⟩)] w fun e w' => e = .returned (.int .i64 (nodes.length : Nat)) ∧ w = w' := by
  have h1 := h.c1
  have h2 := h.fs.tab
  have hn := h.fs.nlen
  have H := Lib.hid h
  clear h
  go_enter Tryz.func32, Tryz.ntmps32
  go_wp2_with (go_at_call 31; refine (files_ok w fb ib pb ab table pgs bm nodes H.out).mono ?_; rintro e w' ⟨rfl, rfl⟩)
  go_ret
  exact ⟨ret_int (by omega), rfl⟩

theorem files_Inode (w : World) (fb ib pb ab table : Nat) (pgs : List (List UInt8)) (bm : List UInt8) (nodes : List Ino) (n : Nat) (x : Ino) (h : Fsys w fb ib pb ab table pgs bm nodes) (hx : nodes[n]? = some x) :
    Calls Tryz.prog 16 #[.pointer (some ⟨fb, 0, none⟩), .int .i64 n] w fun e w' => e = .returned (.tuple #[.agg x.cells, .int .i64 0]) ∧ Kept [] w w' := by
  obtain ⟨hg, pg, hpg, hpx⟩ := h.fs.node n x hx
  have hnl : n < nodes.length := (List.getElem?_eq_some_iff.1 hx).1
  have hnl2 : (n : Int) < (nodes.length : Nat) := by omega
  have hmax := h.fs.nlen
  have htab := h.fs.tab
  have hpl : pg.length = 256 := by
    obtain ⟨h1, h2⟩ := List.getElem?_eq_some_iff.1 hpg
    rw [← h2]
    exact h.img.len_at h1
  have hc0 : ∀ o, (w.alloc o).cell? ⟨fb, 0, none⟩ = some (.pointer (some ⟨ib, 0, none⟩)) := fun o => (h.keep0 ((Kept.refl [] w).alloc o)).c0
  have H := Lib.hid h
  have HG := Lib.hid hg
  have HP := Lib.hid hpg
  have HX := Lib.hid hpx
  have HL := Lib.hid hpl
  clear h hg hpg hpx hx hpl
  go_enter Tryz.func16, Tryz.ntmps16
  go_wp2_with (first | (go_at_call 31; refine (files_ok _ fb ib pb ab table pgs bm nodes (H.out.keep0 ((Kept.refl [] w).alloc _))).mono ?_; rintro e w' ⟨rfl, rfl⟩) | (go_at_call 32; refine (files_Nodes _ fb ib pb ab table pgs bm nodes (H.out.keep0 ((Kept.refl [] w).alloc _))).mono ?_; rintro e w' ⟨rfl, rfl⟩) | (go_at_call 33; refine Stop.here ?_))
  refine Stop.go ?_
  rw [show (1 + (n : Int) / 4) = ((1 + n / 4 : Nat) : Int) from by omega]
  have hk0 : Kept [] w (w.alloc (.cells Ino.zero.cells 53)) := (Kept.refl _ _).alloc _
  have hp := image_Page (w.alloc (.cells Ino.zero.cells 53)) ib pb ab (1 + n / 4) pgs pg (H.out.keep0 hk0).img HP.out
  refine Calls.mono hp ?_
  rintro e w1 ⟨v, rfl, ho, hk1⟩
  obtain ⟨A1, c1, rfl⟩ := own_form ho
  have hb1 := (Blk.new w 53 Ino.zero.cells).keep0 hk1
  have hkk := hk0.trans hk1
  have hbs := Bytes.of_own (D := []) ho HL.out (by simp) (by omega)
  have HB1 := Lib.hid hb1
  have HK1 := Lib.hid hkk
  have HS1 := Lib.hid hbs
  clear hp ho hk1 hb1 hkk hbs hk0
  go_wp2_with (go_at_call 34; refine Stop.here ?_)
  refine Stop.go ?_
  rw [show ((n : Int) % 4) = ((n % 4 : Nat) : Int) from by omega]
  refine (inode_Get x [] A1 c1 (n % 4) pg w1 HG.out HS1.out HL.out (by omega) HX.out (Old.nil _)).mono ?_
  rintro e w2 ⟨rfl, hk2⟩
  have HB2 := Lib.hid (HB1.out.keep0 hk2)
  have HK2 := Lib.hid (HK1.out.trans hk2)
  clear hk2
  go_wp2_with (with_reducible refine stop_store (t := 53) ?_)
  refine Stop.go ?_
  have hpl := HG.out.lim.len
  refine wpList_store_row rfl 53 (.tmp 4) (.tmp 42) rfl w.heap.size rfl x.cells rfl 53 Ino.zero.cells HB2.out (by rw [x.cells_size hpl]; exact ino_info) (by rw [x.cells_size hpl]; rfl) x.one ?_
  have hb3 := HB2.out.row x.cells
  have hk3 : Kept [] w (w2.setRow w.heap.size x.cells) := HK2.out.setRow _ _ (.inl (Nat.le_refl _))
  obtain ⟨w3, hw3⟩ : ∃ w3, w3 = w2.setRow w.heap.size x.cells := ⟨_, rfl⟩
  rw [← hw3] at hb3 hk3
  show wpList _ _ _ _ _ (w2.setRow w.heap.size x.cells)
  rw [← hw3]
  have HB3 := Lib.hid hb3
  have HK3 := Lib.hid hk3
  have HPL := Lib.hid hpl
  clear hb3 hk3 hw3 HB2 HK2 HB1 HK1 hpl
  go_wp2_with fail
  refine bodyPost_ret (v := .tuple #[.agg x.cells, .int .i64 0]) ?_ rfl ⟨rfl, HK3.out⟩
  rw [results_cell_tmp rfl]
  have hld := run_loadVar_row (P := Tryz.prog) w3 w.heap.size 53 53 x.cells (0, 0) _ HB3.out Tryz.underlying53 rfl (by rw [x.cells_size HPL.out]; exact ino_info)
  simp [asAddr, hld]
end Go.Proofs.YtcbdjmlkjifamaaGreatDoor

/- Package files: Inode, used at any number, and of no system; taken, put. Conditions: a state that is consistent. -/
namespace Go.Proofs.YtcbdjmlkjifamaaGreatDoor
open Go.RowKit
set_option maxRecDepth 100000

/-- What Inode answers. -/
def inoOf (nodes : List Ino) (n : Int) : Ino × Int := if 0 ≤ n then (match nodes[n.toNat]? with | some x => (x, 0) | none => (Ino.zero, 1)) else (Ino.zero, 1)
/-- What used answers. -/
def usedOf (nodes : List Ino) (n : Int) : Ino × Int := if (inoOf nodes n).2 = 0 ∧ (inoOf nodes n).1.kind = 0 then ((inoOf nodes n).1, 6) else inoOf nodes n
theorem zero_lit : (Value.agg #[.int .i64 0, .int .i64 0, .int .i64 0, .int .i64 0, .int .i64 0, .int .i64 0, .int .u8 0, .int .u8 0, .int .u8 0, .int .u8 0, .int .u8 0, .int .u8 0, .int .u8 0, .int .u8 0, .int .u8 0, .int .u8 0, .int .u8 0, .int .u8 0, .int .u8 0, .int .u8 0, .int .u8 0, .int .u8 0, .int .u8 0, .int .u8 0, .int .u8 0, .int .u8 0, .int .u8 0, .int .u8 0, .int .u8 0, .int .u8 0, .int .u8 0, .int .u8 0, .int .u8 0, .int .u8 0, .int .u8 0, .int .u8 0, .int .u8 0, .int .u8 0] : Value) = .agg Ino.zero.cells := by
  rw [zero_cells]
  rfl

theorem files_Inode_bad (w : World) (fb ib pb ab table : Nat) (pgs : List (List UInt8)) (bm : List UInt8) (nodes : List Ino) (n : Int) (h : Fsys w fb ib pb ab table pgs bm nodes) (hn : n < 0 ∨ (nodes.length : Nat) ≤ n) :
    Calls Tryz.prog 16 #[.pointer (some ⟨fb, 0, none⟩), .int .i64 n] w fun e w' => e = .returned (.tuple #[.agg Ino.zero.cells, .int .i64 1]) ∧ Kept [] w w' := by
  have H := Lib.hid h
  clear h
  by_cases h0 : n < 0
  all_goals
    first
    | have h1 : ((nodes.length : Nat) : Int) ≤ n := by omega
      clear hn
    | clear hn
    go_enter Tryz.func16, Tryz.ntmps16
    go_wp2_with (first | (go_at_call 31; refine (files_ok _ fb ib pb ab table pgs bm nodes (H.out.keep0 ((Kept.refl [] w).alloc _))).mono ?_; rintro e w' ⟨rfl, rfl⟩) | (go_at_call 32; refine (files_Nodes _ fb ib pb ab table pgs bm nodes (H.out.keep0 ((Kept.refl [] w).alloc _))).mono ?_; rintro e w' ⟨rfl, rfl⟩) | (with_reducible refine stop_store (t := 53) ?_))
    refine Stop.go ?_
    refine wpList_store_row rfl 53 (.tmp 4) (.tmp 22) rfl w.heap.size rfl Ino.zero.cells zero_lit 53 Ino.zero.cells (Blk.new w 53 Ino.zero.cells) ino_info rfl Ino.zero.one ?_
    have hb3 := (Blk.new w 53 Ino.zero.cells).row Ino.zero.cells
    have hk3 : Kept [] w ((w.alloc (.cells Ino.zero.cells 53)).setRow w.heap.size Ino.zero.cells) := ((Kept.refl [] w).alloc _).setRow _ _ (.inl (Nat.le_refl _))
    obtain ⟨w3, hw3⟩ : ∃ w3, w3 = (w.alloc (.cells Ino.zero.cells 53)).setRow w.heap.size Ino.zero.cells := ⟨_, rfl⟩
    rw [← hw3] at hb3 hk3
    show wpList _ _ _ _ _ ((w.alloc (.cells Ino.zero.cells 53)).setRow w.heap.size Ino.zero.cells)
    rw [← hw3]
    have HB3 := Lib.hid hb3
    have HK3 := Lib.hid hk3
    clear hb3 hk3 hw3
    go_wp2_with fail
    refine bodyPost_ret (v := .tuple #[.agg Ino.zero.cells, .int .i64 1]) ?_ rfl ⟨rfl, HK3.out⟩
    rw [results_cell_tmp rfl]
    have hld := run_loadVar_row (P := Tryz.prog) w3 w.heap.size 53 53 Ino.zero.cells (0, 0) _ HB3.out Tryz.underlying53 rfl ino_info
    simp [asAddr, hld]

theorem files_Inode_nil (w : World) (n : Int) :
    Calls Tryz.prog 16 #[.pointer none, .int .i64 n] w fun e w' => e = .returned (.tuple #[.agg Ino.zero.cells, .int .i64 2]) ∧ Kept [] w w' := by
  go_enter Tryz.func16, Tryz.ntmps16
  go_wp2_with (first | (go_at_call 31; refine (files_ok_nil _).mono ?_; rintro e w' ⟨rfl, rfl⟩) | (with_reducible refine stop_store (t := 53) ?_))
  refine Stop.go ?_
  refine wpList_store_row rfl 53 (.tmp 4) (.tmp 12) rfl w.heap.size rfl Ino.zero.cells zero_lit 53 Ino.zero.cells (Blk.new w 53 Ino.zero.cells) ino_info rfl Ino.zero.one ?_
  have hb3 := (Blk.new w 53 Ino.zero.cells).row Ino.zero.cells
  have hk3 : Kept [] w ((w.alloc (.cells Ino.zero.cells 53)).setRow w.heap.size Ino.zero.cells) := ((Kept.refl [] w).alloc _).setRow _ _ (.inl (Nat.le_refl _))
  obtain ⟨w3, hw3⟩ : ∃ w3, w3 = (w.alloc (.cells Ino.zero.cells 53)).setRow w.heap.size Ino.zero.cells := ⟨_, rfl⟩
  rw [← hw3] at hb3 hk3
  show wpList _ _ _ _ _ ((w.alloc (.cells Ino.zero.cells 53)).setRow w.heap.size Ino.zero.cells)
  rw [← hw3]
  have HB3 := Lib.hid hb3
  have HK3 := Lib.hid hk3
  clear hb3 hk3 hw3
  go_wp2_with fail
  refine bodyPost_ret (v := .tuple #[.agg Ino.zero.cells, .int .i64 2]) ?_ rfl ⟨rfl, HK3.out⟩
  rw [results_cell_tmp rfl]
  have hld := run_loadVar_row (P := Tryz.prog) w3 w.heap.size 53 53 Ino.zero.cells (0, 0) _ HB3.out Tryz.underlying53 rfl ino_info
  simp [asAddr, hld]

theorem files_Inode_any (w : World) (fb ib pb ab table : Nat) (pgs : List (List UInt8)) (bm : List UInt8) (nodes : List Ino) (n : Int) (h : Fsys w fb ib pb ab table pgs bm nodes) :
    Calls Tryz.prog 16 #[.pointer (some ⟨fb, 0, none⟩), .int .i64 n] w fun e w' => e = .returned (.tuple #[.agg (inoOf nodes n).1.cells, .int .i64 (inoOf nodes n).2]) ∧ Kept [] w w' := by
  unfold inoOf
  by_cases h0 : 0 ≤ n
  · rw [if_pos h0]
    obtain ⟨m, rfl⟩ := Int.eq_ofNat_of_zero_le h0
    rw [Int.toNat_natCast]
    cases hx : nodes[m]? with
    | some x => exact files_Inode w fb ib pb ab table pgs bm nodes m x h hx
    | none =>
      have := List.getElem?_eq_none_iff.1 hx
      exact files_Inode_bad w fb ib pb ab table pgs bm nodes m h (.inr (by omega))
  · rw [if_neg h0]
    exact files_Inode_bad w fb ib pb ab table pgs bm nodes n h (.inl (by omega))

theorem used_walk (p : Value) (n : Int) (x : Ino) (e0 : Int) (w : World) (hl : x.pages.length = 32) (hI : ∀ W, Kept [] w W → Calls Tryz.prog 16 #[p, .int .i64 n] W fun e w' => e = .returned (.tuple #[.agg x.cells, .int .i64 e0]) ∧ Kept [] W w') :
    Calls Tryz.prog 35 #[p, .int .i64 n] w fun e w' => e = .returned (.tuple #[.agg x.cells, .int .i64 (if e0 = 0 ∧ x.kind = 0 then 6 else e0)]) ∧ Kept [] w w' := by
  have HI := Lib.hid hI
  have HL := Lib.hid hl
  clear hI hl
  obtain ⟨r, hr⟩ : ∃ r : Int, r = if e0 = 0 ∧ x.kind = 0 then 6 else e0 := ⟨_, rfl⟩
  rw [← hr]
  have HR := Lib.hid hr
  clear hr
  have hk0 : Kept [] w (w.alloc (.cells Ino.zero.cells 53)) := (Kept.refl _ _).alloc _
  go_enter Tryz.func35, Tryz.ntmps35
  go_wp2_with (go_at_call 16; refine Stop.here ?_)
  refine Stop.go ?_
  refine Calls.mono (HI.out (w.alloc (.cells Ino.zero.cells 53)) hk0) ?_
  rintro e w1 ⟨rfl, hk1⟩
  have hb1 := (Blk.new w 53 Ino.zero.cells).keep0 hk1
  have HB1 := Lib.hid hb1
  have HK1 := Lib.hid (hk0.trans hk1)
  clear hk1 hb1 hk0
  go_wp2_with (with_reducible refine stop_store (t := 53) ?_)
  refine Stop.go ?_
  refine wpList_store_row rfl 53 (.tmp 6) (.tmp 12) rfl w1.heap.size rfl x.cells rfl 53 Ino.zero.cells (heap_alloc_new w1 _) (by rw [x.cells_size HL.out]; exact ino_info) (by rw [x.cells_size HL.out]; rfl) x.one ?_
  obtain ⟨w2, hw2⟩ : ∃ w2, w2 = (w1.alloc (.cells Ino.zero.cells 53)).setRow w1.heap.size x.cells := ⟨_, rfl⟩
  have hw2' : w2 = w1.alloc (.cells x.cells 53) := by rw [hw2, World.setRow_alloc_new]
  show wpList _ _ _ _ _ ((w1.alloc (.cells Ino.zero.cells 53)).setRow w1.heap.size x.cells)
  rw [← hw2]
  have hk2 : Kept [] w1 w2 := by rw [hw2']; exact (Kept.refl _ _).alloc _
  have hx2 : Blk w2 w1.heap.size 53 x.cells := by rw [hw2']; exact Blk.new _ _ _
  have hc2 : w2.cell? ⟨w1.heap.size, 0, none⟩ = some (.int .i64 x.kind) := by rw [hx2.cell, x.at0]
  have HB2 := Lib.hid (HB1.out.keep0 hk2)
  have HK2 := Lib.hid (HK1.out.trans hk2)
  have HX2 := Lib.hid hx2
  have hlt := HB1.out.lt
  obtain ⟨nb, hnb⟩ : ∃ nb, nb = w1.heap.size := ⟨_, rfl⟩
  rw [← hnb] at HX2 hc2 hlt ⊢
  clear hw2 hw2' hk2 hx2 hnb HB1 HK1
  have fin : ∀ (W : World) (tm : Array Value) (q : Int), Blk W w.heap.size 53 x.cells → Kept [] w W → tm.getD 4 undef = .pointer (some ⟨w.heap.size, 0, none⟩) → tm.getD 5 undef = .int .i64 q → q = r →
      bodyPost Tryz.prog Tryz.f35 (fun e w' => e = .returned (.tuple #[.agg x.cells, .int .i64 r]) ∧ Kept [] w w') .ret ⟨tm, []⟩ W := fun W tm q hB hK h4 h5 hq => by
    subst hq
    refine bodyPost_ret (v := .tuple #[.agg x.cells, .int .i64 q]) ?_ rfl ⟨rfl, hK⟩
    rw [results_cell_tmp rfl]
    have hld := run_loadVar_row (P := Tryz.prog) W w.heap.size 53 53 x.cells (0, 0) _ hB Tryz.underlying53 rfl (by rw [x.cells_size HL.out]; exact ino_info)
    rw [h4, h5]
    simp [asAddr, hld]
  have FIN := Lib.hid fin
  clear fin
  by_cases he : e0 = 0
  · by_cases hkz : x.kind = 0
    · have hkz2 : (x.kind : Int) = 0 := by omega
      rw [hkz2] at hc2
      have HKZ := Lib.hid hkz
      have HE := Lib.hid he
      clear hkz hkz2
      go_wp2_with (with_reducible refine stop_load (t := 53) ?_)
      refine Stop.go ?_
      refine wpList_load_row rfl 53 _ rfl nb rfl 53 x.cells (0, 0) _ HX2.out Tryz.underlying53 rfl (by rw [x.cells_size HL.out]; exact ino_info) ?_
      go_wp2_with (with_reducible refine stop_store (t := 53) ?_)
      refine Stop.go ?_
      refine wpList_store_row rfl 53 (.tmp 4) (.tmp 21) rfl w.heap.size rfl x.cells rfl 53 Ino.zero.cells HB2.out (by rw [x.cells_size HL.out]; exact ino_info) (by rw [x.cells_size HL.out]; rfl) x.one ?_
      have hb3 := HB2.out.row x.cells
      have hk3 : Kept [] w (w2.setRow w.heap.size x.cells) := HK2.out.setRow _ _ (.inl (Nat.le_refl _))
      obtain ⟨w3, hw3⟩ : ∃ w3, w3 = w2.setRow w.heap.size x.cells := ⟨_, rfl⟩
      rw [← hw3] at hb3 hk3
      show wpList _ _ _ _ _ (w2.setRow w.heap.size x.cells)
      rw [← hw3]
      have HB3 := Lib.hid hb3
      have HK3 := Lib.hid hk3
      clear hb3 hk3 hw3
      go_wp2_with fail
      exact FIN.out _ _ (6) HB3.out HK3.out rfl rfl (by rw [HR.out, if_pos ⟨HE.out, HKZ.out⟩])
    · have hkz2 : ((x.kind : Int) == 0) = false := by rw [beq_eq_false_iff_ne]; omega
      have HKZ := Lib.hid hkz
      have HE := Lib.hid he
      clear hkz
      go_wp2_with (with_reducible refine stop_load (t := 53) ?_)
      refine Stop.go ?_
      refine wpList_load_row rfl 53 _ rfl nb rfl 53 x.cells (0, 0) _ HX2.out Tryz.underlying53 rfl (by rw [x.cells_size HL.out]; exact ino_info) ?_
      go_wp2_with (with_reducible refine stop_store (t := 53) ?_)
      refine Stop.go ?_
      refine wpList_store_row rfl 53 (.tmp 4) (.tmp 22) rfl w.heap.size rfl x.cells rfl 53 Ino.zero.cells HB2.out (by rw [x.cells_size HL.out]; exact ino_info) (by rw [x.cells_size HL.out]; rfl) x.one ?_
      have hb3 := HB2.out.row x.cells
      have hk3 : Kept [] w (w2.setRow w.heap.size x.cells) := HK2.out.setRow _ _ (.inl (Nat.le_refl _))
      obtain ⟨w3, hw3⟩ : ∃ w3, w3 = w2.setRow w.heap.size x.cells := ⟨_, rfl⟩
      rw [← hw3] at hb3 hk3
      show wpList _ _ _ _ _ (w2.setRow w.heap.size x.cells)
      rw [← hw3]
      have HB3 := Lib.hid hb3
      have HK3 := Lib.hid hk3
      clear hb3 hk3 hw3
      go_wp2_with fail
      exact FIN.out _ _ (0) HB3.out HK3.out rfl rfl (by rw [HR.out, if_neg (fun h => HKZ.out h.2), HE.out])
  · have he2 : (e0 == 0) = false := by rw [beq_eq_false_iff_ne]; exact he
    have HE := Lib.hid he
    clear he
    go_wp2_with (with_reducible refine stop_load (t := 53) ?_)
    refine Stop.go ?_
    refine wpList_load_row rfl 53 _ rfl nb rfl 53 x.cells (0, 0) _ HX2.out Tryz.underlying53 rfl (by rw [x.cells_size HL.out]; exact ino_info) ?_
    go_wp2_with (with_reducible refine stop_store (t := 53) ?_)
    refine Stop.go ?_
    refine wpList_store_row rfl 53 (.tmp 4) (.tmp 22) rfl w.heap.size rfl x.cells rfl 53 Ino.zero.cells HB2.out (by rw [x.cells_size HL.out]; exact ino_info) (by rw [x.cells_size HL.out]; rfl) x.one ?_
    have hb3 := HB2.out.row x.cells
    have hk3 : Kept [] w (w2.setRow w.heap.size x.cells) := HK2.out.setRow _ _ (.inl (Nat.le_refl _))
    obtain ⟨w3, hw3⟩ : ∃ w3, w3 = w2.setRow w.heap.size x.cells := ⟨_, rfl⟩
    rw [← hw3] at hb3 hk3
    show wpList _ _ _ _ _ (w2.setRow w.heap.size x.cells)
    rw [← hw3]
    have HB3 := Lib.hid hb3
    have HK3 := Lib.hid hk3
    clear hb3 hk3 hw3
    go_wp2_with fail
    exact FIN.out _ _ (e0) HB3.out HK3.out rfl rfl (by rw [HR.out, if_neg (fun h => HE.out h.1)])

theorem inoOf_len (nodes : List Ino) (n : Int) (hg : ∀ x ∈ nodes, x.pages.length = 32) : (inoOf nodes n).1.pages.length = 32 := by
  unfold inoOf
  split
  · split
    · rename_i x hx
      exact hg x (List.mem_of_getElem? hx)
    · rfl
  · rfl
theorem Fs.good {table : Nat} {pgs : List (List UInt8)} {bm : List UInt8} {nodes : List Ino} (h : Fs table pgs bm nodes) : ∀ x ∈ nodes, x.Good := fun x hx => by
  obtain ⟨n, hn⟩ := List.getElem?_of_mem hx
  exact (h.node n x hn).1

theorem files_used_any (w : World) (fb ib pb ab table : Nat) (pgs : List (List UInt8)) (bm : List UInt8) (nodes : List Ino) (n : Int) (h : Fsys w fb ib pb ab table pgs bm nodes) :
    Calls Tryz.prog 35 #[.pointer (some ⟨fb, 0, none⟩), .int .i64 n] w fun e w' => e = .returned (.tuple #[.agg (usedOf nodes n).1.cells, .int .i64 (usedOf nodes n).2]) ∧ Kept [] w w' := by
  have := used_walk (.pointer (some ⟨fb, 0, none⟩)) n (inoOf nodes n).1 (inoOf nodes n).2 w (inoOf_len nodes n (fun x hx => (h.fs.good x hx).lim.len)) (fun W hW => files_Inode_any W fb ib pb ab table pgs bm nodes n (h.keep0 hW))
  refine this.mono ?_
  rintro e w' ⟨rfl, hk⟩
  refine ⟨?_, hk⟩
  unfold usedOf
  split <;> rfl
theorem files_used_nil (w : World) (n : Int) :
    Calls Tryz.prog 35 #[.pointer none, .int .i64 n] w fun e w' => e = .returned (.tuple #[.agg Ino.zero.cells, .int .i64 2]) ∧ Kept [] w w' :=
  used_walk (.pointer none) n Ino.zero 2 w rfl (fun W _ => files_Inode_nil W n)
end Go.Proofs.YtcbdjmlkjifamaaGreatDoor

/- Package files: taken, put, give, take at a system that was made. Conditions: a state that is consistent. -/
namespace Go.Proofs.YtcbdjmlkjifamaaGreatDoor
open Go.RowKit
set_option maxRecDepth 100000

theorem layB_bm (table : Nat) (bm : List UInt8) (h : bm.length = 27) : ((layB table bm).drop 6).take 27 = bm := by
  have e : layB table bm = [70, 83, 89, 83, 1, UInt8.ofNat table] ++ (bm ++ List.replicate (256 - (6 + bm.length)) 0) := by simp [layB]
  rw [e]
  show List.take 27 (bm ++ _) = bm
  rw [List.take_left' h]

theorem files_taken (w : World) (fb ib pb ab table : Nat) (pgs : List (List UInt8)) (bm : List UInt8) (nodes : List Ino) (h : Fsys w fb ib pb ab table pgs bm nodes) :
    Calls Tryz.prog 106 #[.pointer (some ⟨fb, 0, none⟩)] w fun e w' => ∃ A c, e = .returned (.tuple #[.slice A 27 c, .int .i64 0]) ∧ Bytes w' [] A c bm ∧ Kept [] w w' := by
  have h0 := h.c0
  have hp0 := h.fs.p0
  have hbl := h.fs.bml
  have HI := Lib.hid h.img
  have HP := Lib.hid hp0
  have HL := Lib.hid (layB_length table bm (by omega))
  have HB := Lib.hid (layB_bm table bm hbl)
  clear h hp0
  go_enter Tryz.func106, Tryz.ntmps106
  go_wp2_with (go_at_call 33; refine Stop.here ?_)
  refine Stop.go ?_
  refine (image_Page w ib pb ab 0 pgs _ HI.out HP.out).mono ?_
  rintro e w1 ⟨v, rfl, ho, hk⟩
  rcases ho.2 with ⟨h', _⟩ | ⟨g, c1, cur, hv, hg, hheap, hnc, hcm, hcs, htake⟩
  · exact absurd (congrArg Value.ownBlock h') (by have := ho.form (by omega); obtain ⟨g, cap, hv, _⟩ := this; rw [hv]; simp [Value.ownBlock])
  subst hv
  have hbs := Bytes.of_own (D := []) ho HL.out (by simp) (by omega)
  have hcut := hbs.cut (k := 6) (by rw [HL.out]; omega)
  have hne : ¬ c1 = 6 := by omega
  rw [if_neg hne] at hcut
  have htk := hcut.take (k := 27) (by rw [List.length_drop, HL.out]; omega)
  rw [HB.out] at htk
  simp only [Option.map_some, add_lit0] at htk
  have hcm2 : c1 ≤ 9223372036854775807 := by simpa [maxLen] using hcm
  have HT := Lib.hid htk
  have HK := Lib.hid hk
  clear ho hheap htake hcs hbs hcut htk hk hcm
  go_wp2_with fail
  go_ret2
  exact ⟨_, _, rfl, HT.out, HK.out⟩

theorem Fs.put_ {table : Nat} {pgs : List (List UInt8)} {bm : List UInt8} {nodes : List Ino} {n : Nat} {x : Ino} {pg : List UInt8} (h : Fs table pgs bm nodes) (hn : n < nodes.length) (hx : x.Good) (hpg : pgs[1 + n / 4]? = some pg) (hl : pg.length = 256) :
    Fs table (pgs.set (1 + n / 4) (putIno pg (n % 4) x)) bm (nodes.set n x) := by
  have hxl := x.bytes_length hx.lim.len
  refine ⟨h.tab, by rw [List.length_set]; exact h.room, h.bml, ?_, by rw [List.length_set]; exact h.nlen, fun m y hy => ?_⟩
  · rw [List.getElem?_set_ne (by omega)]
    exact h.p0
  · have hpl : 1 + n / 4 < pgs.length := (List.getElem?_eq_some_iff.1 hpg).1
    by_cases hm : n = m
    · subst hm
      rw [List.getElem?_set_self hn] at hy
      injection hy with hy
      subst hy
      refine ⟨hx, _, List.getElem?_set_self hpl, ?_⟩
      unfold putIno
      rw [List.append_assoc, List.drop_left' (by rw [List.length_take]; omega), List.take_left' hxl]
    · rw [List.getElem?_set_ne hm] at hy
      obtain ⟨hg, p, hp, hpb⟩ := h.node m y hy
      refine ⟨hg, ?_⟩
      by_cases hq : n / 4 = m / 4
      · rw [hq] at hpg hpl
        rw [hp] at hpg
        injection hpg with hpg
        subst hpg
        refine ⟨_, by rw [hq]; exact List.getElem?_set_self hpl, ?_⟩
        have hne : n % 4 ≠ m % 4 := by omega
        rw [← hpb]
        unfold putIno
        apply List.ext_getElem?
        intro i
        rw [List.getElem?_take, List.getElem?_take, List.getElem?_drop, List.getElem?_drop]
        by_cases hi : i < 64
        · rw [if_pos hi, if_pos hi]
          rcases Nat.lt_or_gt_of_ne hne with h1 | h1
          · rw [List.getElem?_append_right (by rw [List.length_append, List.length_take, hxl]; omega), List.getElem?_drop, List.length_append, List.length_take, hxl]
            congr 1
            omega
          · rw [List.append_assoc, List.getElem?_append_left (by rw [List.length_take]; omega), List.getElem?_take, if_pos (by omega)]
        · rw [if_neg hi, if_neg hi]
      · exact ⟨p, by rw [List.getElem?_set_ne (by omega)]; exact hp, hpb⟩

theorem files_put (w : World) (fb ib pb ab table : Nat) (pgs : List (List UInt8)) (bm : List UInt8) (nodes : List Ino) (n : Nat) (x : Ino) (pg : List UInt8) (h : Fsys w fb ib pb ab table pgs bm nodes) (hn : n < nodes.length) (hx : x.Good) (hpg : pgs[1 + n / 4]? = some pg) :
    Calls Tryz.prog 65 #[.pointer (some ⟨fb, 0, none⟩), .int .i64 n, .agg x.cells] w fun e w' => e = .returned (.int .i64 0) ∧
      Fsys w' fb ib pb ab table (pgs.set (1 + n / 4) (putIno pg (n % 4) x)) bm (nodes.set n x) ∧ Kept [ab] w w' := by
  obtain ⟨hplt, hpe⟩ := List.getElem?_eq_some_iff.1 hpg
  have hpl : pg.length = 256 := by rw [← hpe]; exact h.img.len_at hplt
  have hc0 : ∀ o, (w.alloc o).cell? ⟨fb, 0, none⟩ = some (.pointer (some ⟨ib, 0, none⟩)) := fun o => (h.keep0 ((Kept.refl [] w).alloc o)).c0
  have hmax := h.fs.nlen
  have htab := h.fs.tab
  have H := Lib.hid h
  have HX := Lib.hid hx
  have HP := Lib.hid hpg
  have HL := Lib.hid hpl
  have HPL := Lib.hid hplt
  clear h hx hpg hpe hpl hplt
  go_enter Tryz.func65, Tryz.ntmps65
  go_wp2_with (go_at_call 33; refine Stop.here ?_)
  refine Stop.go ?_
  rw [show (1 + (n : Int) / 4) = ((1 + n / 4 : Nat) : Int) from by omega]
  have hk0 : Kept [] w (w.alloc (.cells x.cells 53)) := (Kept.refl _ _).alloc _
  refine (image_Page _ ib pb ab (1 + n / 4) pgs pg (H.out.keep0 hk0).img HP.out).mono ?_
  rintro e w1 ⟨v, rfl, ho, hk1⟩
  obtain ⟨A1, c1, rfl⟩ := own_form ho
  have HX1 := Lib.hid ((Blk.new w 53 x.cells).keep0 hk1)
  have HK1 := Lib.hid (hk0.trans hk1)
  have HS1 := Lib.hid (Bytes.of_own (D := []) ho HL.out (by simp) (by omega))
  clear ho hk1 hk0
  go_wp2_with (with_reducible refine stop_load (t := 53) ?_)
  refine Stop.go ?_
  refine wpList_load_row rfl 53 _ rfl w.heap.size rfl 53 x.cells (0, 0) _ HX1.out Tryz.underlying53 rfl (by rw [x.cells_size HX.out.lim.len]; exact ino_info) ?_
  go_wp2_with (go_at_call 60; refine Stop.here ?_)
  refine Stop.go ?_
  rw [show ((n : Int) % 4) = ((n % 4 : Nat) : Int) from by omega]
  refine (inode_Put x [] A1 c1 (n % 4) pg w1 HX.out HS1.out HL.out (by omega)).mono ?_
  rintro e w2 ⟨v2, rfl, ho2, hk2⟩
  obtain ⟨A2, c2, rfl⟩ := own_form ho2
  have HK2 := Lib.hid (HK1.out.trans hk2)
  have HS2 := Lib.hid (Bytes.of_own (D := []) ho2 (putIno_length pg (n % 4) x HL.out (by omega) HX.out.lim.len) (by simp) (by omega))
  have hc2 : w2.cell? ⟨fb, 0, none⟩ = some (.pointer (some ⟨ib, 0, none⟩)) := (H.out.keep0 (HK1.out.trans hk2)).c0
  clear ho2 hk2
  go_wp2_with (go_at_call 61; refine Stop.here ?_)
  refine Stop.go ?_
  rw [show (1 + (n : Int) / 4) = ((1 + n / 4 : Nat) : Int) from by omega]
  refine (image_Set w2 ib pb ab (1 + n / 4) pgs [] A2 c2 _ (H.out.keep0 HK2.out).img HPL.out HS2.out (putIno_length pg (n % 4) x HL.out (by omega) HX.out.lim.len)).mono ?_
  rintro e w3 ⟨rfl, hi3, hk3⟩
  have hf3 : Blk w3 fb 79 #[.pointer (some ⟨ib, 0, none⟩), .int .i64 table] := by
    have h1 := (H.out.keep0 HK2.out)
    obtain ⟨cap, vs, _, hab, _⟩ := h1.img.row
    have := h1.files.ne_ hab (by decide)
    exact h1.files.keep hk3 (by rw [List.mem_singleton]; exact this)
  have HF3 := Lib.hid hf3
  have HI3 := Lib.hid hi3
  have HK3 := Lib.hid (HK2.out.any.trans hk3)
  clear hf3 hi3 hk3
  go_wp2_with fail
  go_ret
  exact ⟨rfl, ⟨HF3.out, HI3.out, H.out.fs.put_ hn HX.out HP.out HL.out⟩, HK3.out⟩
end Go.Proofs.YtcbdjmlkjifamaaGreatDoor

/- Package files: give and take at a system that was made. Conditions: a state that is consistent; the pages that are given are taken. -/
namespace Go.Proofs.YtcbdjmlkjifamaaGreatDoor
open Go.RowKit
set_option maxRecDepth 100000

theorem Fs.lay_ {table : Nat} {pgs : List (List UInt8)} {bm bm' : List UInt8} {nodes : List Ino} (h : Fs table pgs bm nodes) (hl : bm'.length = 27) : Fs table (pgs.set 0 (layB table bm')) bm' nodes := by
  refine ⟨h.tab, by rw [List.length_set]; exact h.room, hl, List.getElem?_set_self (by have := h.room; omega), h.nlen, fun n x hx => ?_⟩
  obtain ⟨hg, p, hp, hb⟩ := h.node n x hx
  exact ⟨hg, p, by rw [List.getElem?_set_ne (by omega)]; exact hp, hb⟩
theorem Fsys.files_keep {w w' : World} {fb ib pb ab table : Nat} {pgs : List (List UInt8)} {bm : List UInt8} {nodes : List Ino} (h : Fsys w fb ib pb ab table pgs bm nodes) (hk : Kept [ab] w w') :
    Blk w' fb 79 #[.pointer (some ⟨ib, 0, none⟩), .int .i64 table] := by
  obtain ⟨cap, vs, _, hab, _⟩ := h.img.row
  have := h.files.ne_ hab (by decide)
  exact h.files.keep hk (by rw [List.mem_singleton]; exact this)
theorem Sl.past {w w' : World} {D : List Nat} {e : TypeId} {size : Nat} {A : Option Addr} {n c : Nat} {xs : List Value} {ib pb ab : Nat} {pgs : List (List UInt8)} (h : Sl w D e size A n c xs) (hi : Img w ib pb ab pgs) (hk : Kept [ab] w w') (he : e ≠ 56) : Sl w' D e size A n c xs := by
  obtain ⟨cap, vs, _, hab, _⟩ := hi.row
  exact h.other hk hab he

set_option maxHeartbeats 4000000 in
theorem files_give (w : World) (fb ib pb ab table : Nat) (pgs : List (List UInt8)) (bm : List UInt8) (nodes : List Ino) (B : Option Addr) (d m : Nat) (l : List Nat) (h : Fsys w fb ib pb ab table pgs bm nodes) (hl : Ints w [] B d l) (hm : l.length = m) (hb : ∀ n ∈ l, n ≤ 4096) (hok : giveOk bm l) :
    Calls Tryz.prog 86 #[.pointer (some ⟨fb, 0, none⟩), .slice B m d] w fun e w' => e = .returned (.int .i64 0) ∧
      Fsys w' fb ib pb ab table (pgs.set 0 (layB table (bmGive bm l))) (bmGive bm l) nodes ∧ Kept [ab] w w' := by
  have hbl := h.fs.bml
  have hgl : (bmGive bm l).length = 27 := by rw [bmGive_length]; exact hbl
  have htab := h.fs.tab
  have H := Lib.hid h
  have HL := Lib.hid hl
  have HM := Lib.hid hm
  have HB := Lib.hid hb
  have HO := Lib.hid hok
  have HGL := Lib.hid hgl
  have HBL := Lib.hid hbl
  by_cases hz : m = 0
  · subst hz
    have hnil : l = [] := List.eq_nil_of_length_eq_zero hm
    clear h hl hb hok hgl hbl hm
    go_enter Tryz.func86, Tryz.ntmps86
    go_wp2_with (go_at_call 106; refine Stop.here ?_)
    refine Stop.go ?_
    refine (files_taken w fb ib pb ab table pgs bm nodes H.out).mono ?_
    rintro e w1 ⟨A1, c1, rfl, hb1, hk1⟩
    have HK1 := Lib.hid hk1
    have HN := Lib.hid hnil
    clear hb1 hk1 hnil
    go_wp2_with fail
    go_ret
    refine ⟨rfl, ?_, HK1.out.any⟩
    have hn := HN.out
    subst hn
    have e : pgs.set 0 (layB table (bmGive bm [])) = pgs := by
      apply List.ext_getElem?
      intro i
      by_cases hi : i = 0
      · subst hi
        rw [List.getElem?_set_self (by have := H.out.fs.room; omega), H.out.fs.p0]
        rfl
      · rw [List.getElem?_set_ne (by omega)]
    rw [e]
    exact H.out.keep0 HK1.out
  · have hmz : ((m : Int) == 0) = false := by rw [beq_eq_false_iff_ne]; omega
    clear h hl hb hok hgl hbl hm
    go_enter Tryz.func86, Tryz.ntmps86
    go_wp2_with (go_at_call 106; refine Stop.here ?_)
    refine Stop.go ?_
    refine (files_taken w fb ib pb ab table pgs bm nodes H.out).mono ?_
    rintro e w1 ⟨A1, c1, rfl, hb1, hk1⟩
    have HK1 := Lib.hid hk1
    have HB1 := Lib.hid hb1
    clear hb1 hk1
    go_wp2_with (go_at_call 108; refine Stop.here ?_)
    refine Stop.go ?_
    refine (bitmap_Give [] A1 c1 27 bm B d m l w1 HB1.out HBL.out (HL.out.keep0 HK1.out) HM.out (by omega) HB.out HO.out).mono ?_
    rintro e w2 ⟨v2, rfl, ho2, hk2⟩
    obtain ⟨A2, c2, rfl⟩ := own_form ho2
    have hkk := HK1.out.trans hk2
    have hs2 := Bytes.of_own (D := []) ho2 HGL.out (by simp) (by omega)
    have hF2 := H.out.keep0 hkk
    have h0 : w2.drew.cell? ⟨fb, 0, none⟩ = some (.pointer (some ⟨ib, 0, none⟩)) := hF2.c0
    have h1 : w2.drew.cell? ⟨fb, 1, none⟩ = some (.int .i64 table) := hF2.c1
    have HK2 := Lib.hid hkk.drew
    have HS2 := Lib.hid hs2.drew
    have HF2 := Lib.hid (hF2.keep0 (Kept.refl [] _).drew)
    clear ho2 hk2 hkk hs2 hF2
    go_wp2_with fail
    go_region_with (first | (go_at_call 58; refine (files_lay [] A2 c2 27 table _ w2.drew HS2.out HGL.out (by omega) (by omega)).mono ?_; rintro e w3 ⟨v3, rfl, ho3, hk3⟩; obtain ⟨A3, c3, rfl⟩ := own_form ho3; have hF3 := HF2.out.keep0 hk3; (have g0 : w3.cell? ⟨fb, 0, none⟩ = some (.pointer (some ⟨ib, 0, none⟩)) := hF3.c0); (have g1 : w3.cell? ⟨fb, 1, none⟩ = some (.int .i64 table) := hF3.c1); have HF3 := Lib.hid hF3; have HK3 := Lib.hid hk3; have HS3 := Lib.hid (Bytes.of_own (D := []) ho3 (layB_length table _ (by rw [HGL.out]; omega)) (by simp) (by omega)); clear ho3 hk3 hF3) | (go_at_call 61; refine (image_Set w3 ib pb ab 0 pgs [] A3 c3 _ HF3.out.img (by have := HF3.out.fs.room; omega) HS3.out (layB_length table _ (by rw [HGL.out]; omega))).mono ?_; rintro e w4 ⟨rfl, hi4, hk4⟩; have HI4 := Lib.hid hi4; have HK4 := Lib.hid hk4; clear hi4 hk4))
    all_goals
      have hfin : Fsys w4 fb ib pb ab table (pgs.set 0 (layB table (bmGive bm l))) (bmGive bm l) nodes := ⟨HF3.out.files_keep HK4.out, HI4.out, HF3.out.fs.lay_ HGL.out⟩
      have HFIN := Lib.hid hfin
      have HKF := Lib.hid ((HK2.out.trans HK3.out).any.trans HK4.out)
      clear hfin
      go_wp2_with fail
      go_ret
      exact ⟨rfl, HFIN.out, HKF.out⟩

end Go.Proofs.YtcbdjmlkjifamaaGreatDoor

/- Package files: take at a system that was made. Conditions: a state that is consistent; there is room. -/
namespace Go.Proofs.YtcbdjmlkjifamaaGreatDoor
open Go.RowKit
set_option maxRecDepth 100000

/-- Pages laid with 0. -/
def zeroAt (pgs : List (List UInt8)) (l : List Nat) : List (List UInt8) := l.foldl (fun g p => g.set p (List.replicate 256 0)) pgs
theorem zeroAt_length (l : List Nat) : ∀ pgs, (zeroAt pgs l).length = pgs.length := by
  induction l with
  | nil => intro pgs; rfl
  | cons p l ih => intro pgs; show (zeroAt (pgs.set p _) l).length = _; rw [ih, List.length_set]
theorem zeroAt_far (l : List Nat) (n : Nat) : ∀ pgs, n ∉ l → (zeroAt pgs l)[n]? = pgs[n]? := by
  induction l with
  | nil => intro pgs _; rfl
  | cons p l ih =>
    intro pgs h
    simp only [List.mem_cons, not_or] at h
    show (zeroAt (pgs.set p _) l)[n]? = _
    rw [ih _ h.2, List.getElem?_set_ne (fun e => h.1 e.symm)]
theorem Fs.zero_ {table : Nat} {pgs : List (List UInt8)} {bm : List UInt8} {nodes : List Ino} (h : Fs table pgs bm nodes) {p : Nat} (hp : table < p) : Fs table (pgs.set p (List.replicate 256 0)) bm nodes := by
  refine ⟨h.tab, by rw [List.length_set]; exact h.room, h.bml, by rw [List.getElem?_set_ne (by omega)]; exact h.p0, h.nlen, fun n x hx => ?_⟩
  obtain ⟨hg, q, hq, hb⟩ := h.node n x hx
  have hnl := (List.getElem?_eq_some_iff.1 hx).1
  have := h.nlen
  exact ⟨hg, q, by rw [List.getElem?_set_ne (by omega)]; exact hq, hb⟩

/-- What the loop of take knows. -/
def TakRel (w : World) (fb ib pb ab table : Nat) (pgs : List (List UInt8)) (bm : List UInt8) (nodes : List Ino) (l : List Nat) (a : Value) (wr : World) : Prop :=
  ∃ k : Nat, k ≤ l.length ∧ a = .int .i64 k ∧ Fsys wr fb ib pb ab table (zeroAt pgs (l.take k)) bm nodes ∧ Kept [ab] w wr

set_option maxHeartbeats 4000000 in
theorem files_take (w : World) (fb ib pb ab table many : Nat) (pgs : List (List UInt8)) (bm b2 : List UInt8) (nodes : List Ino) (l : List Nat) (h : Fsys w fb ib pb ab table pgs bm nodes) (hmany : many ≤ 2048) (hm0 : many ≠ 0)
    (hok : bmTake bm 0 pgs.length many = some (l, b2)) (hl2 : b2.length = 27) (hl : ∀ p ∈ l, table < p ∧ p < pgs.length) :
    Calls Tryz.prog 81 #[.pointer (some ⟨fb, 0, none⟩), .int .i64 many] w fun e w' => ∃ A c, e = .returned (.tuple #[.slice A l.length c, .int .i64 0]) ∧ Ints w' [] A c l ∧
      Fsys w' fb ib pb ab table ((zeroAt pgs l).set 0 (layB table b2)) b2 nodes ∧ Kept [ab] w w' := by
  have hbl := h.fs.bml
  have htab := h.fs.tab
  have hsm := h.img.small
  have H := Lib.hid h
  have HO := Lib.hid hok
  have HL2 := Lib.hid hl2
  have HL := Lib.hid hl
  have HBL := Lib.hid hbl
  have hmz : ((many : Int) == 0) = false := by rw [beq_eq_false_iff_ne]; omega
  have hmk := fun W => run_make_bytes 256 256 rfl (by omega) W
  clear h hok hl2 hl hbl hm0
  go_enter Tryz.func81, Tryz.ntmps81
  go_wp2_with (go_at_call 106; refine Stop.here ?_)
  refine Stop.go ?_
  refine (files_taken w fb ib pb ab table pgs bm nodes H.out).mono ?_
  rintro e w1 ⟨A1, c1, rfl, hb1, hk1⟩
  have h10 : w1.cell? ⟨fb, 0, none⟩ = some (.pointer (some ⟨ib, 0, none⟩)) := (H.out.keep0 hk1).c0
  have HK1 := Lib.hid hk1
  have HB1 := Lib.hid hb1
  have HF1 := Lib.hid (H.out.keep0 hk1)
  clear hb1 hk1
  go_wp2_with (first | (go_at_call 57; refine (image_Pages w1 ib pb ab pgs HF1.out.img).mono ?_; rintro e w' ⟨rfl, rfl⟩) | (go_at_call 96; refine Stop.here ?_))
  refine Stop.go ?_
  refine (bitmap_Take [] A1 c1 27 bm _ 0 _ w1 HB1.out HBL.out (by omega) (by omega) (by omega) (by omega) (by omega) (by omega) (by omega) l b2 (by simpa using HO.out)).mono ?_
  rintro e w2 ⟨v1, v2, rfl, ho1, ho2, hk2⟩
  rw [HL2.out] at ho2
  obtain ⟨A2, c2, rfl⟩ := own_form ho1
  obtain ⟨A3, c3, rfl⟩ := own_form ho2
  have hkk := HK1.out.trans hk2
  have hll : l.length ≤ 100000 := by
    have : ∀ (k : Nat) (b : List UInt8) (l : List Nat) (b2 : List UInt8), bmTake b 0 pgs.length k = some (l, b2) → l.length = k := by
      intro k
      induction k with
      | zero => intro b l b2 h; simp [bmTake] at h; rw [h.1]; rfl
      | succ k ih =>
        intro b l b2 h
        simp only [bmTake, Option.bind_eq_some_iff, Option.map_eq_some_iff] at h
        obtain ⟨n, _, r, hr, he⟩ := h
        injection he with h1 h2
        rw [← h1, List.length_cons, ih _ _ _ (show bmTake (setBit b n) 0 pgs.length k = some (r.1, r.2) from hr)]
    have := this _ _ _ _ HO.out
    omega
  have hI2 : Ints w2 [] A2 c2 l := by
    obtain ⟨A', c', he, hs⟩ := Sl.of_row (D := []) ho1 (by simp) (by omega)
    injection he with e1 _ e3
    subst e1; subst e3
    exact hs
  have HI2 := Lib.hid hI2
  have HK2 := Lib.hid hkk
  have HF2 := Lib.hid (H.out.keep0 hkk)
  have HS2 := Lib.hid (Bytes.of_own (D := []) ho2 HL2.out (by simp) (by omega))
  clear ho1 ho2 hk2 hkk hI2 HB1 HK1 HF1 h10
  go_wp2_with fail
  go_loopw [41, 10, 11] (fun a _ _ wr => TakRel w2 fb ib pb ab table pgs bm nodes l a wr) (fun a _ _ _ => l.length - (intOf a).toNat)
  case atStart => exact ⟨0, Nat.zero_le _, rfl, HF2.out, Kept.refl _ _⟩
  case round =>
    obtain ⟨k, hk, rfl, hF, hkp⟩ := hrel
    have HF := Lib.hid hF
    have HK := Lib.hid hkp
    clear hF hkp
    by_cases hlt : k < l.length
    · have hsl : Ints wr [] A2 c2 l := Sl.past HI2.out HF2.out.img HK.out (by decide)
      obtain ⟨ad, rfl, hcl⟩ := hsl.get hlt
      obtain ⟨p, hp⟩ : ∃ p, p = l[k] := ⟨_, rfl⟩
      obtain ⟨hp1, hp2⟩ := HL.out _ (List.getElem_mem hlt)
      rw [← hp] at hcl hp1 hp2
      have HP := Lib.hid hp
      have g0 : wr.drew.cell? ⟨fb, 0, none⟩ = some (.pointer (some ⟨ib, 0, none⟩)) := HF.out.c0
      have g1 : ∀ o, (wr.alloc o).cell? ⟨fb, 0, none⟩ = some (.pointer (some ⟨ib, 0, none⟩)) := fun o => (HF.out.keep0 ((Kept.refl [] _).alloc o)).c0
      clear hsl hp
      go_wp2_with fail
      obtain ⟨W, hW⟩ : ∃ W, W = (wr.alloc (.cells (zeros 256) 5)).drew := ⟨_, rfl⟩
      have hkW : Kept [] wr W := by rw [hW]; exact ((Kept.refl [] wr).alloc _).drew
      have hbW : Bytes W [] (some ⟨wr.heap.size, 0, none⟩) 256 (List.replicate 256 0) := by
        have h3 : Blk W wr.heap.size 5 ((List.replicate 256 (0 : UInt8)).map b8).toArray := by
          rw [hW, ← replicate_b8]
          exact (Blk.new wr 5 (zeros 256)).drew
        have h4 := Bytes.of_blk (D := []) (bs := List.replicate 256 0) h3 (by simp) (by simp)
        simpa using h4
      have hSet := image_Set W ib pb ab p (zeroAt pgs (l.take k)) [] (some ⟨wr.heap.size, 0, none⟩) 256 (List.replicate 256 0) (HF.out.keep0 hkW).img (by rw [zeroAt_length]; exact hp2) hbW (by simp)
      rw [hW] at hSet
      have HSET := Lib.hid hSet
      have HFW := Lib.hid (HF.out.keep0 hkW)
      have HKW := Lib.hid hkW
      have HW := Lib.hid hW
      clear hSet hbW hkW hW
      go_region_with (go_at_call 61; refine HSET.out.mono ?_; rintro e w4 ⟨rfl, hi4, hk4⟩; rw [← HW.out] at hk4; have HI4 := Lib.hid hi4; have HK4 := Lib.hid hk4; clear hi4 hk4)
      all_goals
        have hfin : Fsys w4 fb ib pb ab table (zeroAt pgs (l.take (k + 1))) bm nodes := by
          have e : zeroAt pgs (l.take (k + 1)) = (zeroAt pgs (l.take k)).set p (List.replicate 256 0) := by
            rw [List.take_succ_eq_append_getElem hlt, ← HP.out, zeroAt, List.foldl_append]
            rfl
          rw [e]
          exact ⟨HFW.out.files_keep HK4.out, HI4.out, HFW.out.fs.zero_ hp1⟩
        have HFIN := Lib.hid hfin
        have HKF := Lib.hid (HK.out.trans (HKW.out.any.trans HK4.out))
        clear hfin
        go_wp2_with fail
        go_roundw
        case rel => exact ⟨k + 1, by omega, by go_num, HFIN.out, HKF.out⟩
        case measure => simp [intOf]; omega
    · obtain rfl : k = l.length := by omega
      have hF := HF.out
      rw [List.take_length] at hF
      have hI : Ints wr [] A2 c2 l := Sl.past HI2.out HF2.out.img HK.out (by decide)
      have hS : Bytes wr [] A3 c3 b2 := Sl.past HS2.out HF2.out.img HK.out (by decide)
      have h0 : wr.drew.cell? ⟨fb, 0, none⟩ = some (.pointer (some ⟨ib, 0, none⟩)) := hF.c0
      have h1 : wr.drew.cell? ⟨fb, 1, none⟩ = some (.int .i64 table) := hF.c1
      have HF3 := Lib.hid (hF.keep0 (Kept.refl [] _).drew)
      have HIF := Lib.hid (Sl.keep0 hI (Kept.refl [] _).drew)
      have HSF := Lib.hid hS.drew
      clear hF hI hS HF
      go_wp2_with fail
      go_region_with (first | (go_at_call 58; refine (files_lay [] A3 c3 27 table _ wr.drew HSF.out HL2.out (by omega) (by omega)).mono ?_; rintro e w3 ⟨v3, rfl, ho3, hk3⟩; obtain ⟨A4, c4, rfl⟩ := own_form ho3; have hF3 := HF3.out.keep0 hk3; (have g0 : w3.cell? ⟨fb, 0, none⟩ = some (.pointer (some ⟨ib, 0, none⟩)) := hF3.c0); (have g1 : w3.cell? ⟨fb, 1, none⟩ = some (.int .i64 table) := hF3.c1); have HF4 := Lib.hid hF3; have HK3 := Lib.hid hk3; have HS3 := Lib.hid (Bytes.of_own (D := []) ho3 (layB_length table _ (by rw [HL2.out]; omega)) (by simp) (by omega)); clear ho3 hk3 hF3) | (go_at_call 61; refine (image_Set w3 ib pb ab 0 _ [] A4 c4 _ HF4.out.img (by have := HF4.out.fs.room; omega) HS3.out (layB_length table _ (by rw [HL2.out]; omega))).mono ?_; rintro e w4 ⟨rfl, hi4, hk4⟩; have HI4 := Lib.hid hi4; have HK4 := Lib.hid hk4; clear hi4 hk4))
      all_goals
        have hfin : Fsys w4 fb ib pb ab table ((zeroAt pgs l).set 0 (layB table b2)) b2 nodes := ⟨HF4.out.files_keep HK4.out, HI4.out, HF4.out.fs.lay_ HL2.out⟩
        have hin : Ints w4 [] A2 c2 l := Sl.past (Sl.keep0 HIF.out HK3.out) HF4.out.img HK4.out (by decide)
        have HFIN := Lib.hid hfin
        have HIN := Lib.hid hin
        have HKF := Lib.hid ((HK2.out.any.trans HK.out).trans (((Kept.refl [] wr).drew.trans HK3.out).any.trans HK4.out))
        clear hfin hin
        go_wp2_with fail
        go_ret2
        exact ⟨_, _, rfl, HIN.out, HFIN.out, HKF.out⟩
end Go.Proofs.YtcbdjmlkjifamaaGreatDoor

/- Package files: spread at a system that was made. Conditions: a state that is consistent; the inode has the pages. -/
namespace Go.Proofs.YtcbdjmlkjifamaaGreatDoor
open Go.RowKit
set_option maxRecDepth 100000

/-- The page that an inode has behind a part. -/
def Ino.pageOf (x : Ino) (p : Part) : Nat := (x.pages.getD p.page 0).toNat
/-- Pages behind the bytes' parts are laid. -/
def spreadPg (x : Ino) (b : List UInt8) : List Part → Nat → List (List UInt8) → List (List UInt8)
  | [], _, g => g
  | p :: ps, f, g => spreadPg x b ps (f + p.size) (g.set (x.pageOf p) (spreadB p (g.getD (x.pageOf p) []) b f))
def sizes (ps : List Part) : Nat := (ps.map (·.size)).sum
theorem spreadPg_snoc (x : Ino) (b : List UInt8) (ps : List Part) (p : Part) : ∀ (f : Nat) (g : List (List UInt8)),
    spreadPg x b (ps ++ [p]) f g = (spreadPg x b ps f g).set (x.pageOf p) (spreadB p ((spreadPg x b ps f g).getD (x.pageOf p) []) b (f + sizes ps)) := by
  induction ps with
  | nil => intro f g; simp [spreadPg, sizes]
  | cons q ps ih =>
    intro f g
    rw [List.cons_append]
    simp only [spreadPg]
    rw [ih]
    rw [show f + q.size + sizes ps = f + sizes (q :: ps) from by simp [sizes]; omega]
theorem spreadPg_length (x : Ino) (b : List UInt8) (ps : List Part) : ∀ (f : Nat) (g : List (List UInt8)), (spreadPg x b ps f g).length = g.length := by
  induction ps with
  | nil => intro f g; rfl
  | cons q ps ih => intro f g; simp only [spreadPg]; rw [ih, List.length_set]
theorem sizes_partsFrom (pos stop : Nat) : sizes (partsFrom pos stop) = stop - pos := by
  induction hd : stop - pos using Nat.strongRecOn generalizing pos with
  | _ d ih =>
    by_cases hlt : pos < stop
    · rw [partsFrom_step hlt]
      have := ih (stop - (pos + min (256 - pos % 256) (stop - pos))) (by omega) _ rfl
      simp only [sizes, List.map_cons, List.sum_cons] at this ⊢
      omega
    · rw [partsFrom_end (by omega)]
      simp [sizes]
      omega
theorem sizes_take_succ (ps : List Part) (k : Nat) (h : k < ps.length) : sizes (ps.take (k + 1)) = sizes (ps.take k) + ps[k].size := by
  unfold sizes
  rw [List.take_succ_eq_append_getElem h, List.map_append, List.sum_append]
  simp only [List.map_cons, List.map_nil, List.sum_cons, List.sum_nil, Nat.add_zero]
theorem sizes_take_le (ps : List Part) (k : Nat) : sizes (ps.take k) ≤ sizes ps := by
  have h : sizes ps = sizes (ps.take k) + sizes (ps.drop k) := by
    unfold sizes
    rw [← List.sum_append, ← List.map_append, List.take_append_drop]
  omega
theorem Fs.data_ {table : Nat} {pgs : List (List UInt8)} {bm : List UInt8} {nodes : List Ino} (h : Fs table pgs bm nodes) {p : Nat} (hp : table < p) (pg : List UInt8) : Fs table (pgs.set p pg) bm nodes := by
  refine ⟨h.tab, by rw [List.length_set]; exact h.room, h.bml, by rw [List.getElem?_set_ne (by omega)]; exact h.p0, h.nlen, fun n x hx => ?_⟩
  obtain ⟨hg, q, hq, hb⟩ := h.node n x hx
  have hnl := (List.getElem?_eq_some_iff.1 hx).1
  have := h.nlen
  exact ⟨hg, q, by rw [List.getElem?_set_ne (by omega)]; exact hq, hb⟩

/-- What the loop of spread knows. -/
def SprRel (w : World) (fb ib pb ab table : Nat) (pgs : List (List UInt8)) (bm : List UInt8) (nodes : List Ino) (x : Ino) (b : List UInt8) (ps : List Part) (f a : Value) (wr : World) : Prop :=
  ∃ k : Nat, k ≤ ps.length ∧ a = .int .i64 k ∧ f = .int .i64 (sizes (ps.take k) : Nat) ∧ Fsys wr fb ib pb ab table (spreadPg x b (ps.take k) 0 pgs) bm nodes ∧ Kept [ab] w wr

set_option maxHeartbeats 2000000 in
theorem files_spread (w : World) (fb ib pb ab table : Nat) (pgs : List (List UInt8)) (bm : List UInt8) (nodes : List Ino) (x : Ino) (pos : Int) (B : Option Addr) (bc m : Nat) (b : List UInt8) (h : Fsys w fb ib pb ab table pgs bm nodes) (hx : x.pages.length = 32)
    (hb : Bytes w [] B bc b) (hm : b.length = m) (hmay : spanMay pos m = 0) (hp : ∀ p ∈ spanParts pos.toNat m, table < x.pageOf p ∧ x.pageOf p < pgs.length) :
    Calls Tryz.prog 82 #[.pointer (some ⟨fb, 0, none⟩), .agg x.cells, .int .i64 pos, .slice B m bc] w fun e w' => e = .returned (.int .i64 0) ∧
      Fsys w' fb ib pb ab table (spreadPg x b (spanParts pos.toNat m) 0 pgs) bm nodes ∧ Kept [ab] w w' := by
  have hz := spanMay_zero hmay
  have hsm : m ≤ 8192 := by omega
  have hpl := spanParts_length pos.toNat m
  have hpm : ∀ p ∈ spanParts pos.toNat m, p.page < 32 ∧ p.off + p.size ≤ 256 ∧ 0 < p.size ∧ p.size ≤ 8192 := fun p hp => by
    have := partsFrom_mem hp
    omega
  have htot : sizes (spanParts pos.toNat m) = m := by
    unfold spanParts
    rw [sizes_partsFrom]
    omega
  have H := Lib.hid h
  have HX := Lib.hid hx
  have HB := Lib.hid hb
  have HM := Lib.hid hm
  have HMAY := Lib.hid hmay
  have HP := Lib.hid hp
  have HPM := Lib.hid hpm
  have HTOT := Lib.hid htot
  have hsp := span_Parts pos m (w.alloc (.cells x.cells 53)) [] (Old.nil _) hmay
  rw [Int.toNat_natCast] at hsp
  have HSP := Lib.hid hsp
  obtain ⟨ps, hps⟩ : ∃ ps, ps = spanParts pos.toNat m := ⟨_, rfl⟩
  rw [← hps] at HP HPM HTOT HSP hpl ⊢
  clear h hx hb hm hmay hp hz hpm htot hsp hps
  go_enter Tryz.func82, Tryz.ntmps82
  go_wp2_with (go_at_call 36; refine Stop.here ?_)
  refine Stop.go ?_
  refine HSP.out.mono ?_
  rintro e w1 ⟨A1, c1, rfl, hs1, hk1⟩
  have hk01 : Kept [] w w1 := ((Kept.refl [] w).alloc _).trans hk1
  have HS1 := Lib.hid hs1
  have HX1 := Lib.hid ((Blk.new w 53 x.cells).keep0 hk1)
  have HF1 := Lib.hid (H.out.keep0 hk01)
  have HK1 := Lib.hid hk01
  have HB1 := Lib.hid (HB.out.keep0 hk01)
  clear hs1 hk1 hk01
  go_wp2_with fail
  go_loopw [11, 13, 14, 15, 16, 17, 27] (fun f _ _ _ _ _ a wr => SprRel w1 fb ib pb ab table pgs bm nodes x b ps f a wr) (fun _ _ _ _ _ _ a _ => ps.length - (intOf a).toNat)
  case atStart => exact ⟨0, Nat.zero_le _, rfl, rfl, HF1.out, Kept.refl _ _⟩
  case round =>
    obtain ⟨k, hk, rfl, rfl, hF, hkp⟩ := hrel
    have HF := Lib.hid hF
    have HK := Lib.hid hkp
    clear hF hkp
    by_cases hlt : k < ps.length
    · have hsl : Sl wr [] 88 3 A1 ps.length c1 (partCells ps) := Sl.past HS1.out HF1.out.img HK.out (by decide)
      obtain ⟨ad, rfl, hc0, hc1, hc2⟩ := partCells_get hsl hlt
      obtain ⟨p, hpe⟩ : ∃ p, p = ps[k] := ⟨_, rfl⟩
      have hpin : p ∈ ps := by rw [hpe]; exact List.getElem_mem hlt
      obtain ⟨q1, q2, q3, q4⟩ := HPM.out p hpin
      obtain ⟨q5, q6⟩ := HP.out p hpin
      rw [← hpe] at hc0 hc1 hc2
      have HPE := Lib.hid hpe
      obtain ⟨F, hFe⟩ : ∃ F, F = sizes (ps.take k) := ⟨_, rfl⟩
      have hFs : F + p.size ≤ m := by
        have h1 := sizes_take_succ ps k hlt
        have h2 := sizes_take_le ps (k + 1)
        rw [HTOT.out] at h2
        rw [hpe, hFe]
        omega
      rw [← hFe]
      have HFE := Lib.hid hFe
      clear hsl hpe hFe hpin
      go_wp2_with (with_reducible refine stop_store (t := 88) ?_)
      refine Stop.go ?_
      refine wpList_store_row rfl 88 (.tmp 13) (.tmp 30) rfl wr.heap.size rfl #[.int .i64 p.page, .int .i64 p.off, .int .i64 p.size] rfl 88 #[.int .i64 0, .int .i64 0, .int .i64 0] (heap_alloc_new wr _) (by kernel_rfl) rfl (by simp [Value.oneCell']) ?_
      rw [World.setRow_alloc_new]
      obtain ⟨W2, hW2⟩ : ∃ W2, W2 = wr.alloc (.cells #[.int .i64 p.page, .int .i64 p.off, .int .i64 p.size] 88) := ⟨_, rfl⟩
      have hk2 : Kept [] wr W2 := by rw [hW2]; exact (Kept.refl _ _).alloc _
      have hp2 : Blk W2 wr.heap.size 88 #[.int .i64 p.page, .int .i64 p.off, .int .i64 p.size] := by rw [hW2]; exact Blk.new _ _ _
      have hx2 : Blk W2 w.heap.size 53 x.cells := by
        obtain ⟨cap, vs, _, hab, _⟩ := HF1.out.img.row
        exact (HX1.out.keep HK.out (by rw [List.mem_singleton]; exact HX1.out.ne_ hab (by decide))).keep0 hk2
      obtain ⟨y, hy⟩ : ∃ y, y = x.pageOf p := ⟨_, rfl⟩
      have hy8 : y < 256 := by rw [hy]; exact UInt8.toNat_lt _
      have e0 : W2.cell? ⟨wr.heap.size, 0, none⟩ = some (.int .i64 p.page) := by rw [hp2.cell]; rfl
      have e6 : W2.cell? ⟨w.heap.size, 6 + p.page, none⟩ = some (.int .u8 y) := by
        rw [hx2.cell, x.at6, pgCells_get _ _ (by rw [HX.out]; exact q1), hy]
        rfl
      have ef : W2.cell? ⟨fb, 0, none⟩ = some (.pointer (some ⟨ib, 0, none⟩)) := (HF.out.keep0 hk2).c0
      rw [← hW2]
      have HY := Lib.hid hy
      have HF2 := Lib.hid (HF.out.keep0 hk2)
      have HP2 := Lib.hid hp2
      have HK2 := Lib.hid hk2
      rw [← hy] at q5 q6
      obtain ⟨nb, hnb⟩ : ∃ nb, nb = wr.heap.size := ⟨_, rfl⟩
      show wpList _ _ _ _ _ W2
      rw [← hnb] at HP2 e0 ⊢
      clear hW2 hk2 hp2 hx2 hy hnb hc0 hc1 hc2
      go_wp2_with (go_at_call 33; refine Stop.here ?_)
      refine Stop.go ?_
      obtain ⟨g, hg⟩ : ∃ g, g = spreadPg x b (ps.take k) 0 pgs := ⟨_, rfl⟩
      have hgl : g.length = pgs.length := by rw [hg, spreadPg_length]
      rw [← hg] at HF2
      obtain ⟨pg, hpg⟩ : ∃ pg, g[y]? = some pg := ⟨_, List.getElem?_eq_getElem (by omega)⟩
      have hpgl : pg.length = 256 := by
        obtain ⟨h1, h2⟩ := List.getElem?_eq_some_iff.1 hpg
        rw [← h2]
        exact HF2.out.img.len_at h1
      refine (image_Page W2 ib pb ab y g pg HF2.out.img hpg).mono ?_
      rintro e w3 ⟨v3, rfl, ho3, hk3⟩
      obtain ⟨A3, c3, rfl⟩ := own_form ho3
      have hp3 := HP2.out.keep0 hk3
      have e0' : w3.cell? ⟨nb, 0, none⟩ = some (.int .i64 p.page) := by rw [hp3.cell]; rfl
      have e1' : w3.cell? ⟨nb, 1, none⟩ = some (.int .i64 p.off) := by rw [hp3.cell]; rfl
      have e2' : w3.cell? ⟨nb, 2, none⟩ = some (.int .i64 p.size) := by rw [hp3.cell]; rfl
      have HS3 := Lib.hid (Bytes.of_own (D := []) ho3 hpgl (by simp) (by omega))
      have hbb : Bytes w3 [] B bc b := Sl.keep0 (Sl.past HB1.out HF1.out.img HK.out (by decide)) (HK2.out.trans hk3)
      have HBB := Lib.hid hbb
      have HP3 := Lib.hid hp3
      have HF3 := Lib.hid (HF2.out.keep0 hk3)
      have HK3 := Lib.hid (HK.out.trans (HK2.out.trans hk3).any)
      have HG := Lib.hid hg
      have HPG := Lib.hid hpg
      have HPGL := Lib.hid hpgl
      clear hg hpg hpgl ho3 hk3 hp3 hbb HF2 HK2 HP2 e0 e6 ef
      go_wp2_with (go_at_call 107; refine Stop.here ?_)
      refine Stop.go ?_
      refine (span_Spread [] p A3 c3 pg B bc 256 m b F F w3 (Old.nil _) HS3.out HBB.out HPGL.out HM.out rfl q2 q3 rfl hFs).mono ?_
      rintro e w4 ⟨A4, c4, rfl, hs4, hk4⟩
      have hp4 := HP3.out.keep0 hk4
      have e2' : w4.cell? ⟨nb, 2, none⟩ = some (.int .i64 p.size) := by rw [hp4.cell]; rfl
      have ef : w4.cell? ⟨fb, 0, none⟩ = some (.pointer (some ⟨ib, 0, none⟩)) := (HF3.out.keep0 hk4).c0
      have HP4 := Lib.hid hp4
      have HS4 := Lib.hid hs4
      have HF4 := Lib.hid (HF3.out.keep0 hk4)
      have HK4 := Lib.hid (HK3.out.trans hk4.any)
      clear hs4 hk4 hp4 HP3 HF3 HK3 HBB HS3
      go_wp2_with (go_at_call 61; refine Stop.here ?_)
      refine Stop.go ?_
      refine (image_Set w4 ib pb ab y g [] A4 c4 _ HF4.out.img (by omega) HS4.out (spreadB_length p pg b F HPGL.out q2 (by rw [HM.out]; exact hFs))).mono ?_
      rintro e w5 ⟨rfl, hi5, hk5⟩
      have hp5 : w5.cell? ⟨nb, 2, none⟩ = some (.int .i64 p.size) := by
        obtain ⟨cap, vs, _, hab, _⟩ := HF4.out.img.row
        rw [(HP4.out.keep hk5 (by rw [List.mem_singleton]; exact HP4.out.ne_ hab (by decide))).cell]
        rfl
      have hfin : Fsys w5 fb ib pb ab table (spreadPg x b (ps.take (k + 1)) 0 pgs) bm nodes := by
        have e : spreadPg x b (ps.take (k + 1)) 0 pgs = g.set y (spreadB p pg b F) := by
          rw [List.take_succ_eq_append_getElem hlt, ← HPE.out, spreadPg_snoc, ← HG.out, ← HY.out, Nat.zero_add, ← HFE.out]
          congr 2
          rw [List.getD_eq_getElem?_getD, HPG.out]
          rfl
        rw [e]
        exact ⟨HF4.out.files_keep hk5, hi5, HF4.out.fs.data_ q5 _⟩
      have HFIN := Lib.hid hfin
      have HKF := Lib.hid (HK4.out.trans hk5)
      clear hi5 hk5 hfin e2' ef HF4 HK4 HP4 HS4
      go_wp2_with fail
      go_roundw
      case rel =>
        refine ⟨k + 1, by omega, by go_num, ?_, HFIN.out, HKF.out⟩
        rw [sizes_take_succ ps k hlt, ← HPE.out, ← HFE.out]
        go_num
      case measure => simp [intOf]; omega
    · obtain rfl : k = ps.length := by omega
      have hF := HF.out
      rw [List.take_length] at hF
      have HFF := Lib.hid hF
      clear hF HF
      go_wp2_with fail
      go_ret
      exact ⟨rfl, HFF.out, HK1.out.any.trans HK.out⟩
end Go.Proofs.YtcbdjmlkjifamaaGreatDoor

/- Package files: Make at a system that was made. Conditions: a state that is consistent. -/
namespace Go.Proofs.YtcbdjmlkjifamaaGreatDoor
open Go.RowKit
set_option maxRecDepth 100000

/-- What Make makes. -/
def newIno (kind mode time : Nat) : Ino := ⟨kind, mode, 0, 0, time, 0, List.replicate 32 0⟩
theorem newIno_ok (kind mode time : Nat) (h1 : 1 ≤ kind) (h2 : kind ≤ 3) (h3 : mode ≤ 7) (h4 : time ≤ 9223372036854775807) : (newIno kind mode time).Ok := by
  refine ⟨⟨h1, h2⟩, h3, by simp [newIno], by simp [newIno], h4, by simp [newIno], by simp [newIno], fun i hi => ?_, ?_⟩
  · have : ((newIno kind mode time).pages.getD i 0) = 0 := by
      show (List.replicate 32 (0 : UInt8)).getD i 0 = 0
      rw [List.getD_eq_getElem?_getD, List.getElem?_replicate]
      split <;> rfl
    rw [this]
    exact ⟨by decide, fun h => absurd rfl h⟩
  · have : (newIno kind mode time).all = [] := by simp [Ino.all, newIno]
    rw [this]
    exact List.nodup_nil

/-- What the loop of Make knows. -/
def MakRel (w : World) (xb : Nat) (cs : Array Value) (nodes : List Ino) (a : Value) (wr : World) : Prop :=
  ∃ k : Nat, k ≤ nodes.length ∧ a = .int .i64 k ∧ (∀ j y, j < k → nodes[j]? = some y → y.kind ≠ 0) ∧ Blk wr xb 53 cs ∧ Kept [] w wr

set_option maxHeartbeats 2000000 in
theorem files_Make (w : World) (fb ib pb ab table : Nat) (pgs : List (List UInt8)) (bm : List UInt8) (nodes : List Ino) (kind mode time : Nat) (h : Fsys w fb ib pb ab table pgs bm nodes) (h1 : 1 ≤ kind) (h2 : kind ≤ 3) (h3 : mode ≤ 7) (h4 : time ≤ 9223372036854775807) :
    Calls Tryz.prog 29 #[.pointer (some ⟨fb, 0, none⟩), .int .i64 kind, .int .i64 mode, .int .i64 time] w fun e w' =>
      (∃ n pg, (∀ j y, j < n → nodes[j]? = some y → y.kind ≠ 0) ∧ nodes[n]? = some Ino.zero ∧ pgs[1 + n / 4]? = some pg ∧ e = .returned (.tuple #[.int .i64 (n : Nat), .int .i64 0]) ∧
        Fsys w' fb ib pb ab table (pgs.set (1 + n / 4) (putIno pg (n % 4) (newIno kind mode time))) bm (nodes.set n (newIno kind mode time)) ∧ Kept [ab] w w') ∨
      ((∀ y ∈ nodes, y.kind ≠ 0) ∧ e = .returned (.tuple #[.int .i64 0, .int .i64 8]) ∧ Kept [] w w') := by
  have hok := newIno_ok kind mode time h1 h2 h3 h4
  have hkz : ((kind : Int) == 0) = false := by rw [beq_eq_false_iff_ne]; omega
  have HOK := Lib.hid hok
  have H := Lib.hid h
  obtain ⟨x, hx⟩ : ∃ x, x = newIno kind mode time := ⟨_, rfl⟩
  rw [← hx] at HOK ⊢
  have hxc : x.cells = #[.int .i64 kind, .int .i64 mode, .int .i64 0, .int .i64 0, .int .i64 time, .int .i64 0, .int .u8 0, .int .u8 0, .int .u8 0, .int .u8 0, .int .u8 0, .int .u8 0, .int .u8 0, .int .u8 0, .int .u8 0, .int .u8 0, .int .u8 0, .int .u8 0, .int .u8 0, .int .u8 0, .int .u8 0, .int .u8 0, .int .u8 0, .int .u8 0, .int .u8 0, .int .u8 0, .int .u8 0, .int .u8 0, .int .u8 0, .int .u8 0, .int .u8 0, .int .u8 0, .int .u8 0, .int .u8 0, .int .u8 0, .int .u8 0, .int .u8 0, .int .u8 0] := by
    rw [hx]
    apply Array.ext'
    simp [Ino.cells, pgCells, b8, newIno, List.replicate]
  have HXC := Lib.hid hxc
  have hln := h.fs.nlen
  have hlt := h.fs.tab
  clear h hok hx hxc
  go_enter Tryz.func29, Tryz.ntmps29
  go_wp2_with (with_reducible refine stop_store (t := 53) ?_)
  refine Stop.go ?_
  refine wpList_store_row rfl 53 (.tmp 10) (.tmp 17) rfl w.heap.size rfl x.cells (by rw [HXC.out]; rfl) 53 Ino.zero.cells (heap_alloc_new w _) (by rw [x.cells_size HOK.out.len]; exact ino_info) (by rw [x.cells_size HOK.out.len]; rfl) x.one ?_
  obtain ⟨w1, hw1⟩ : ∃ w1, w1 = (w.alloc (.cells Ino.zero.cells 53)).setRow w.heap.size x.cells := ⟨_, rfl⟩
  have hw1' : w1 = w.alloc (.cells x.cells 53) := by rw [hw1, World.setRow_alloc_new]
  show wpList _ _ _ _ _ ((w.alloc (.cells Ino.zero.cells 53)).setRow w.heap.size x.cells)
  rw [← hw1]
  have hk1 : Kept [] w w1 := by rw [hw1']; exact (Kept.refl _ _).alloc _
  have HX1 := Lib.hid (show Blk w1 w.heap.size 53 x.cells by rw [hw1']; exact Blk.new _ _ _)
  have HF1 := Lib.hid (H.out.keep0 hk1)
  have HK1 := Lib.hid hk1
  obtain ⟨xb, hxb⟩ : ∃ xb, xb = w.heap.size := ⟨_, rfl⟩
  rw [← hxb] at HX1 ⊢
  have HXB := Lib.hid hxb
  clear hw1 hw1' hk1 hxb
  go_wp2_with (first | (go_at_call 31; refine (files_ok _ fb ib pb ab table pgs bm nodes HF1.out).mono ?_; rintro e w' ⟨rfl, rfl⟩) | (with_reducible refine stop_load (t := 53) ?_))
  refine Stop.go ?_
  refine wpList_load_row_g 53 _ rfl (by simp [Region.wanted, yielded]) xb rfl 53 x.cells (0, 0) _ HX1.out Tryz.underlying53 rfl (by rw [x.cells_size HOK.out.len]; exact ino_info) ?_
  go_wp2_with (go_at_call 64; refine Stop.here ?_)
  refine Stop.go ?_
  refine (inode_May x _ HOK.out).mono ?_
  rintro e w2 ⟨rfl, hk2⟩
  have HX2 := Lib.hid (HX1.out.keep0 hk2)
  have HF2 := Lib.hid (HF1.out.keep0 hk2)
  have HK2 := Lib.hid (HK1.out.trans hk2)
  clear hk2 HX1 HF1 HK1
  go_wp2_with (go_at_call 32; refine (files_Nodes _ fb ib pb ab table pgs bm nodes HF2.out).mono ?_; rintro e w' ⟨rfl, rfl⟩)
  go_loopw [11, 12, 13, 32] (fun _ _ _ a wr => MakRel w xb x.cells nodes a wr) (fun _ _ _ a _ => nodes.length - (intOf a).toNat)
  case atStart => exact ⟨0, Nat.zero_le _, rfl, fun j y hj => by omega, HX2.out, HK2.out⟩
  case round =>
    obtain ⟨k, hk, rfl, hall, hxr, hkr⟩ := hrel
    have HA := Lib.hid hall
    have HXR := Lib.hid hxr
    have HKR := Lib.hid hkr
    clear hall hxr hkr
    by_cases hlk : k < nodes.length
    · obtain ⟨y, hy⟩ : ∃ y, nodes[k]? = some y := ⟨_, List.getElem?_eq_getElem hlk⟩
      obtain ⟨hyg, pg, hpg, _⟩ := H.out.fs.node k y hy
      have HYG := Lib.hid hyg
      have HY := Lib.hid hy
      have HPG := Lib.hid hpg
      clear hyg hy hpg
      go_wp2_with (go_at_call 16; refine Stop.here ?_)
      refine Stop.go ?_
      refine (files_Inode wr fb ib pb ab table pgs bm nodes k y (H.out.keep0 HKR.out) HY.out).mono ?_
      rintro e w3 ⟨rfl, hk3⟩
      have HX3 := Lib.hid (HXR.out.keep0 hk3)
      have HK3 := Lib.hid (HKR.out.trans hk3)
      clear hk3
      go_wp2_with (with_reducible refine stop_store (t := 53) ?_)
      refine Stop.go ?_
      refine wpList_store_row rfl 53 (.tmp 12) (.tmp 39) rfl w3.heap.size rfl y.cells rfl 53 Ino.zero.cells (heap_alloc_new w3 _) (by rw [y.cells_size HYG.out.lim.len]; exact ino_info) (by rw [y.cells_size HYG.out.lim.len]; rfl) y.one ?_
      obtain ⟨w4, hw4⟩ : ∃ w4, w4 = (w3.alloc (.cells Ino.zero.cells 53)).setRow w3.heap.size y.cells := ⟨_, rfl⟩
      have hw4' : w4 = w3.alloc (.cells y.cells 53) := by rw [hw4, World.setRow_alloc_new]
      show wpList _ _ _ _ _ ((w3.alloc (.cells Ino.zero.cells 53)).setRow w3.heap.size y.cells)
      rw [← hw4]
      have hk4 : Kept [] w3 w4 := by rw [hw4']; exact (Kept.refl _ _).alloc _
      have hy4 : w4.cell? ⟨w3.heap.size, 0, none⟩ = some (.int .i64 y.kind) := by
        rw [hw4', (Blk.new w3 53 y.cells).cell, y.at0]
      have HX4 := Lib.hid (HX3.out.keep0 hk4)
      have HK4 := Lib.hid (HK3.out.trans hk4)
      obtain ⟨nb, hnb⟩ : ∃ nb, nb = w3.heap.size := ⟨_, rfl⟩
      rw [← hnb] at hy4 ⊢
      clear hw4 hw4' hk4 hnb HX3 HK3
      by_cases hyz : y.kind = 0
      · have hy0 : y = Ino.zero := by
          rcases HYG.out with h | h
          · have := h.kind.1
            omega
          · exact h
        subst hy0
        have hy5 : w4.cell? ⟨nb, 0, none⟩ = some (.int .i64 0) := hy4
        clear hy4 hyz
        go_wp2_with (with_reducible refine stop_load (t := 53) ?_)
        refine Stop.go ?_
        refine wpList_load_row rfl 53 _ rfl xb rfl 53 x.cells (0, 0) _ HX4.out Tryz.underlying53 rfl (by rw [x.cells_size HOK.out.len]; exact ino_info) ?_
        go_wp2_with (go_at_call 65; refine Stop.here ?_)
        refine Stop.go ?_
        refine (files_put w4 fb ib pb ab table pgs bm nodes k x pg (H.out.keep0 HK4.out) hlk (.inl HOK.out) HPG.out).mono ?_
        rintro e w5 ⟨rfl, hF5, hk5⟩
        have HF5 := Lib.hid hF5
        have HK5 := Lib.hid (HK4.out.any.trans hk5)
        clear hF5 hk5
        go_wp2_with fail
        go_ret2
        exact .inl ⟨k, pg, HA.out, HY.out, HPG.out, rfl, HF5.out, HK5.out⟩
      · have hyn : ((y.kind : Int) == 0) = false := by rw [beq_eq_false_iff_ne]; omega
        have HYZ := Lib.hid hyz
        clear hyz
        go_wp2_with fail
        go_roundw
        case rel =>
          refine ⟨k + 1, by omega, by go_num, fun j z hj hz => ?_, HX4.out, HK4.out⟩
          by_cases hjk : j = k
          · subst hjk
            rw [HY.out] at hz
            injection hz with hz
            rw [← hz]
            exact HYZ.out
          · exact HA.out j z (by omega) hz
        case measure => simp [intOf]; omega
    · go_wp2_with fail
      go_ret2
      refine .inr ⟨fun y hy => ?_, rfl, HKR.out⟩
      obtain ⟨j, hj⟩ := List.getElem?_of_mem hy
      exact HA.out j y (by have := (List.getElem?_eq_some_iff.1 hj).1; omega) hj
end Go.Proofs.YtcbdjmlkjifamaaGreatDoor

/- Package files: take where there is no room, at a system that was made. Conditions: a state that is consistent. -/
namespace Go.Proofs.YtcbdjmlkjifamaaGreatDoor
open Go.RowKit
set_option maxRecDepth 100000

theorem files_take_full (w : World) (fb ib pb ab table many : Nat) (pgs : List (List UInt8)) (bm : List UInt8) (nodes : List Ino) (h : Fsys w fb ib pb ab table pgs bm nodes) (hmany : many ≤ 2048) (hm0 : many ≠ 0) (hok : bmTake bm 0 pgs.length many = none) :
    Calls Tryz.prog 81 #[.pointer (some ⟨fb, 0, none⟩), .int .i64 many] w fun e w' => e = .returned (.tuple #[.slice none 0 0, .int .i64 8]) ∧ Kept [] w w' := by
  have hbl := h.fs.bml
  have hsm := h.img.small
  have H := Lib.hid h
  have HO := Lib.hid hok
  have HBL := Lib.hid hbl
  have hmz : ((many : Int) == 0) = false := by rw [beq_eq_false_iff_ne]; omega
  clear h hok hbl hm0
  go_enter Tryz.func81, Tryz.ntmps81
  go_wp2_with (go_at_call 106; refine Stop.here ?_)
  refine Stop.go ?_
  refine (files_taken w fb ib pb ab table pgs bm nodes H.out).mono ?_
  rintro e w1 ⟨A1, c1, rfl, hb1, hk1⟩
  have h10 : w1.cell? ⟨fb, 0, none⟩ = some (.pointer (some ⟨ib, 0, none⟩)) := (H.out.keep0 hk1).c0
  have HK1 := Lib.hid hk1
  have HB1 := Lib.hid hb1
  have HF1 := Lib.hid (H.out.keep0 hk1)
  clear hb1 hk1
  go_wp2_with (first | (go_at_call 57; refine (image_Pages w1 ib pb ab pgs HF1.out.img).mono ?_; rintro e w' ⟨rfl, rfl⟩) | (go_at_call 96; refine Stop.here ?_))
  refine Stop.go ?_
  refine (bitmap_Take_full [] A1 c1 27 bm _ 0 _ w1 HB1.out HBL.out (by omega) (by omega) (by omega) (by omega) (by omega) (by omega) (by omega) (by simpa using HO.out)).mono ?_
  rintro e w2 ⟨rfl, hk2⟩
  have HK2 := Lib.hid (HK1.out.trans hk2)
  clear hk2
  go_wp2_with fail
  go_ret2
  exact ⟨rfl, HK2.out⟩


theorem files_take_zero (w : World) (fb ib pb ab table : Nat) (pgs : List (List UInt8)) (bm : List UInt8) (nodes : List Ino) (h : Fsys w fb ib pb ab table pgs bm nodes) :
    Calls Tryz.prog 81 #[.pointer (some ⟨fb, 0, none⟩), .int .i64 0] w fun e w' => e = .returned (.tuple #[.slice none 0 0, .int .i64 0]) ∧ Kept [] w w' := by
  have H := Lib.hid h
  clear h
  go_enter Tryz.func81, Tryz.ntmps81
  go_wp2_with (go_at_call 106; refine Stop.here ?_)
  refine Stop.go ?_
  refine (files_taken w fb ib pb ab table pgs bm nodes H.out).mono ?_
  rintro e w1 ⟨A1, c1, rfl, hb1, hk1⟩
  have HK1 := Lib.hid hk1
  clear hb1 hk1
  go_wp2_with fail
  go_ret2
  exact ⟨rfl, HK1.out⟩
end Go.Proofs.YtcbdjmlkjifamaaGreatDoor

/- Package files: clear at a system that was made. Conditions: a state that is consistent. -/
namespace Go.Proofs.YtcbdjmlkjifamaaGreatDoor
open Go.RowKit
set_option maxRecDepth 100000

theorem pagesOf_nat (n : Nat) : pagesOf n = ((n + 255) / 256 : Nat) := by
  unfold pagesOf
  split <;> omega

/-- The pages behind clear. -/
def clearPg (x : Ino) (pgs : List (List UInt8)) : List (List UInt8) :=
  if 256 * ((x.size + 255) / 256) - x.size = 0 ∨ (x.pages.getD (x.size / 256) 0) = 0 then pgs
  else spreadPg x (List.replicate (256 * ((x.size + 255) / 256) - x.size) 0) (spanParts x.size (256 * ((x.size + 255) / 256) - x.size)) 0 pgs

set_option maxHeartbeats 2000000 in
theorem files_clear (w : World) (fb ib pb ab table : Nat) (pgs : List (List UInt8)) (bm : List UInt8) (nodes : List Ino) (x : Ino) (h : Fsys w fb ib pb ab table pgs bm nodes) (hx : x.pages.length = 32) (hs : x.size ≤ 8192)
    (hp : ∀ i, i < 32 → (x.pages.getD i 0) ≠ 0 → table < (x.pages.getD i 0).toNat ∧ (x.pages.getD i 0).toNat < pgs.length) :
    Calls Tryz.prog 87 #[.pointer (some ⟨fb, 0, none⟩), .agg x.cells] w fun e w' => e = .returned (.int .i64 0) ∧
      Fsys w' fb ib pb ab table (clearPg x pgs) bm nodes ∧ Kept [ab] w w' := by
  obtain ⟨q, hq⟩ : ∃ q, q = (x.size + 255) / 256 := ⟨_, rfl⟩
  obtain ⟨T, hT⟩ : ∃ T, T = 256 * ((x.size + 255) / 256) - x.size := ⟨_, rfl⟩
  have hT2 : (256 : Int) * q - x.size = T := by omega
  have hT3 : (T : Int) ≤ 255 := by omega
  have hq2 : (q : Int) ≤ 32 := by omega
  have hsI : (x.size : Int) ≤ 8192 := by omega
  have hPG : ∀ W, Calls Tryz.prog 85 #[.int .i64 x.size] W fun e w' => e = .returned (.int .i64 q) ∧ w' = W := fun W => by
    have := span_Pages x.size W (by omega) (by omega)
    rw [pagesOf_nat, ← hq] at this
    exact this.mono (by rintro e w' ⟨h1, h2⟩; exact ⟨h1, h2.symm⟩)
  have HPG := Lib.hid hPG
  have H := Lib.hid h
  have HX := Lib.hid hx
  have HP := Lib.hid hp
  have HT := Lib.hid hT
  have HT2 := Lib.hid hT2
  have w1' : IntKind.i64.wrap (256 * (q : Int)) = 256 * (q : Int) := IntWalk.i64_in _ (by omega)
  have w2' : IntKind.i64.wrap (256 * (q : Int) - x.size) = T := by
    have e : IntKind.i64.wrap (256 * (q : Int) - x.size) = 256 * (q : Int) - x.size := IntWalk.i64_in _ (by omega)
    rw [e, hT2]
  have hB0 : Blk (w.alloc (.cells x.cells 53)) w.heap.size 53 x.cells := (Blk.new w 53 x.cells)
  have c3 : (w.alloc (.cells x.cells 53)).cell? ⟨w.heap.size, 3, none⟩ = some (.int .i64 x.size) := by rw [hB0.cell, x.at3]
  have HB0 := Lib.hid hB0
  have hx3 := x.at3
  clear h hx hp hT hB0 hPG hq hT2 hx3
  go_enter Tryz.func87, Tryz.ntmps87
  go_wp2_with fail
  go_quiet ((go_at_call 85; exact Calls.quiet_of_same (HPG.out _)))
  obtain ⟨W0, hW0⟩ : ∃ W0, W0 = (w.alloc (.cells x.cells 53)).drewN nq := ⟨_, rfl⟩
  have hk0 : Kept [] w W0 := by rw [hW0]; exact ((Kept.refl [] w).alloc _).drewN nq
  have hb0 : Blk W0 w.heap.size 53 x.cells := by rw [hW0]; exact (Blk.new w 53 x.cells).drewN nq
  rw [← hW0]
  have HB := Lib.hid hb0
  have HK := Lib.hid hk0
  have c3' : W0.cell? ⟨w.heap.size, 3, none⟩ = some (.int .i64 x.size) := by rw [hb0.cell, x.at3]
  clear hW0 hk0 hb0 c3 HB0 w1' w2' hq2
  by_cases hT0 : T = 0
  · subst hT0
    have e : clearPg x pgs = pgs := by unfold clearPg; rw [if_pos (.inl HT.out.symm)]
    have HE := Lib.hid e
    clear e
    go_wp2_with fail
    go_ret
    rw [HE.out]
    exact ⟨rfl, H.out.keep0 HK.out, HK.out.any⟩
  · have hTn : ((T : Int) == 0) = false := by rw [beq_eq_false_iff_ne]; omega
    have hix : x.size / 256 < 32 := by have := HT.out; omega
    obtain ⟨ix, hixe⟩ : ∃ ix, ix = x.size / 256 := ⟨_, rfl⟩
    have hix2 : (x.size : Int) / 256 = ix := by omega
    rw [← hixe] at hix
    obtain ⟨y, hy⟩ : ∃ y, y = (x.pages.getD ix 0).toNat := ⟨_, rfl⟩
    have hy8 : y < 256 := by rw [hy]; exact UInt8.toNat_lt _
    have c6 : W0.cell? ⟨w.heap.size, 6 + ix, none⟩ = some (.int .u8 y) := by
      rw [HB.out.cell, x.at6, pgCells_get _ _ (by rw [HX.out]; exact hix), hy]
    have HIX := Lib.hid hixe
    have HY := Lib.hid hy
    clear hixe hy
    by_cases hy0 : y = 0
    · subst hy0
      have e : clearPg x pgs = pgs := by
        unfold clearPg
        have hz : x.pages.getD (x.size / 256) 0 = 0 := by
          rw [← HIX.out]
          exact UInt8.toNat_inj.1 HY.out.symm
        exact if_pos (.inr hz)
      have HE := Lib.hid e
      clear e
      go_wp2_with fail
      go_ret
      rw [HE.out]
      exact ⟨rfl, H.out.keep0 HK.out, HK.out.any⟩
    · have hyn : ((y : Int) == 0) = false := by rw [beq_eq_false_iff_ne]; omega
      have hclr : clearPg x pgs = spreadPg x (List.replicate T 0) (spanParts x.size T) 0 pgs := by
        unfold clearPg
        rw [← HT.out, if_neg]
        rintro (h | h)
        · exact hT0 h
        · rw [← HIX.out] at h
          exact hy0 (by rw [HY.out, h]; rfl)
      have hsx : x.size < 8192 := by have := HT.out; omega
      have hpp : ∀ p ∈ spanParts (x.size : Int).toNat T, table < x.pageOf p ∧ x.pageOf p < pgs.length := fun p hp => by
        rw [Int.toNat_natCast] at hp
        have h1 := partsFrom_mem hp
        have h2 : p.page = ix := by
          have := HT.out
          have := HIX.out
          omega
        unfold Ino.pageOf
        rw [h2]
        refine HP.out ix hix (fun h => hy0 (by rw [HY.out, h]; rfl))
      have hbA : Blk W0.drew w.heap.size 53 x.cells := HB.out.drew
      have hbB : Blk (W0.drew.alloc (.cells (zeros T) 5)) w.heap.size 53 x.cells := hbA.alloc _
      have hkB : Kept [] w (W0.drew.alloc (.cells (zeros T) 5)) := HK.out.drew.alloc _
      have hzb : Bytes (W0.drew.alloc (.cells (zeros T) 5)) [] (some ⟨W0.heap.size, 0, none⟩) T (List.replicate T 0) := by
        have h3 : Blk (W0.drew.alloc (.cells (zeros T) 5)) W0.heap.size 5 ((List.replicate T (0 : UInt8)).map b8).toArray := by
          rw [← replicate_b8]
          exact Blk.new W0.drew 5 (zeros T)
        have h4 := Bytes.of_blk (D := []) (bs := List.replicate T 0) h3 (by simp) (by simp; omega)
        simpa using h4
      have hmay : spanMay (x.size : Int) (T : Nat) = 0 := by
        have := HT.out
        unfold spanMay
        rw [if_neg (by omega), if_neg (by omega)]
      have hsp := files_spread (W0.drew.alloc (.cells (zeros T) 5)) fb ib pb ab table pgs bm nodes x x.size (some ⟨W0.heap.size, 0, none⟩) T T (List.replicate T 0) (H.out.keep0 hkB) HX.out hzb (by simp) hmay hpp
      rw [Int.toNat_natCast, ← hclr] at hsp
      have HSP := Lib.hid hsp
      have HKB := Lib.hid hkB
      have HI := Lib.hid (show (Tryz.prog.info? 53).map (·.size) = some x.cells.size by rw [x.cells_size HX.out]; exact ino_info)
      have cB1 : ∀ o, (W0.drew.alloc o).cell? ⟨w.heap.size, 3, none⟩ = some (.int .i64 x.size) := fun o => by rw [(hbA.alloc o).cell, x.at3]
      have cB2 : ∀ o, (W0.alloc o).cell? ⟨w.heap.size, 3, none⟩ = some (.int .i64 x.size) := fun o => by rw [(HB.out.alloc o).cell, x.at3]
      have hmk := fun W => run_make_bytes T (T : Int) rfl (by omega) W
      clear hclr hsx hpp hkB hzb hmay hsp
      go_wp2_with fail
      refine wp_region_any (by kernel_rfl) ?_
      change wpAny _ _ _ _ _ _ _ (World.drew _)
      -- ORDERS
      refine wpAny_take (i := 0) (v := .pointer (some ⟨fb, 0, none⟩)) rfl (by kernel_rfl) (by kernel_rfl) (by kernel_rfl) (fun _ _ _ h => h) (Or.inl ⟨by rfl, ?_⟩) ?_
      · intro w
        go_simp
      refine wpAny_take (i := 2) (v := .pointer (some ⟨w.heap.size, 3, none⟩)) rfl (by kernel_rfl) (by kernel_rfl) (by kernel_rfl) (fun _ _ _ h => h) (Or.inl ⟨by rfl, ?_⟩) ?_
      · intro w
        go_simp
      refine wpAny_take (i := 4) (v := .int .i64 T) rfl (by kernel_rfl) (by kernel_rfl) (by kernel_rfl) (fun _ _ _ h => h) (Or.inl ⟨by rfl, ?_⟩) ?_
      · intro w
        go_simp
      refine wpAny_ready (rs := [1, 3, 5]) (by kernel_rfl) (by simp) ?_
      refine (AllReady.cons rfl (fun K hK => ?_) (AllReady.cons rfl (fun K hK => ?_) (AllReady.cons rfl (fun K hK => ?_) AllReady.nil)))
      · skip
        refine step_load_row rfl 53 (.tmp 3) rfl w.heap.size rfl 53 x.cells (0, 0) _ hbA Tryz.underlying53 rfl HI.out ?_
        refine hK _ _ ?_
        clear hK K
        refine wpAny_ready (rs := [3, 5]) (by kernel_rfl) (by simp) ?_
        refine (AllReady.cons rfl (fun K hK => ?_) (AllReady.cons rfl (fun K hK => ?_) AllReady.nil))
        · skip
          go_simp
          refine hK _ _ ?_
          clear hK K
          refine wpAny_ready (rs := [5]) (by kernel_rfl) (by simp) ?_
          refine (AllReady.cons rfl (fun K hK => ?_) AllReady.nil)
          go_simp
          refine hK _ _ ?_
          clear hK K
          refine wpAny_ready (rs := [6]) (by kernel_rfl) (by simp) ?_
          refine (AllReady.cons rfl (fun K hK => ?_) AllReady.nil)
          go_simp
          refine Calls.mono HSP.out ?_
          rintro e w9 ⟨rfl, hf9, hk9⟩
          have HF9 := Lib.hid hf9
          have HK9 := Lib.hid (HKB.out.any.trans hk9)
          clear hf9 hk9
          refine hK _ _ ?_
          clear hK K
          refine wpAny_ready (rs := [7]) (by kernel_rfl) (by simp) ?_
          refine (AllReady.cons rfl (fun K hK => ?_) AllReady.nil)
          go_simp
          refine hK _ _ ?_
          clear hK K
          refine wpAny_done (by kernel_rfl) ?_ _
          go_wp2_with fail
          go_ret
          exact ⟨rfl, HF9.out, HK9.out⟩
        · skip
          go_simp
          refine hK _ _ ?_
          clear hK K
          refine wpAny_ready (rs := [3]) (by kernel_rfl) (by simp) ?_
          refine (AllReady.cons rfl (fun K hK => ?_) AllReady.nil)
          go_simp
          refine hK _ _ ?_
          clear hK K
          refine wpAny_ready (rs := [6]) (by kernel_rfl) (by simp) ?_
          refine (AllReady.cons rfl (fun K hK => ?_) AllReady.nil)
          go_simp
          refine Calls.mono HSP.out ?_
          rintro e w9 ⟨rfl, hf9, hk9⟩
          have HF9 := Lib.hid hf9
          have HK9 := Lib.hid (HKB.out.any.trans hk9)
          clear hf9 hk9
          refine hK _ _ ?_
          clear hK K
          refine wpAny_ready (rs := [7]) (by kernel_rfl) (by simp) ?_
          refine (AllReady.cons rfl (fun K hK => ?_) AllReady.nil)
          go_simp
          refine hK _ _ ?_
          clear hK K
          refine wpAny_done (by kernel_rfl) ?_ _
          go_wp2_with fail
          go_ret
          exact ⟨rfl, HF9.out, HK9.out⟩
      · skip
        go_simp
        refine hK _ _ ?_
        clear hK K
        refine wpAny_ready (rs := [1, 5]) (by kernel_rfl) (by simp) ?_
        refine (AllReady.cons rfl (fun K hK => ?_) (AllReady.cons rfl (fun K hK => ?_) AllReady.nil))
        · skip
          refine step_load_row rfl 53 (.tmp 3) rfl w.heap.size rfl 53 x.cells (0, 0) _ hbA Tryz.underlying53 rfl HI.out ?_
          refine hK _ _ ?_
          clear hK K
          refine wpAny_ready (rs := [5]) (by kernel_rfl) (by simp) ?_
          refine (AllReady.cons rfl (fun K hK => ?_) AllReady.nil)
          go_simp
          refine hK _ _ ?_
          clear hK K
          refine wpAny_ready (rs := [6]) (by kernel_rfl) (by simp) ?_
          refine (AllReady.cons rfl (fun K hK => ?_) AllReady.nil)
          go_simp
          refine Calls.mono HSP.out ?_
          rintro e w9 ⟨rfl, hf9, hk9⟩
          have HF9 := Lib.hid hf9
          have HK9 := Lib.hid (HKB.out.any.trans hk9)
          clear hf9 hk9
          refine hK _ _ ?_
          clear hK K
          refine wpAny_ready (rs := [7]) (by kernel_rfl) (by simp) ?_
          refine (AllReady.cons rfl (fun K hK => ?_) AllReady.nil)
          go_simp
          refine hK _ _ ?_
          clear hK K
          refine wpAny_done (by kernel_rfl) ?_ _
          go_wp2_with fail
          go_ret
          exact ⟨rfl, HF9.out, HK9.out⟩
        · skip
          go_simp
          refine hK _ _ ?_
          clear hK K
          refine wpAny_ready (rs := [1]) (by kernel_rfl) (by simp) ?_
          refine (AllReady.cons rfl (fun K hK => ?_) AllReady.nil)
          refine step_load_row rfl 53 (.tmp 3) rfl w.heap.size rfl 53 x.cells (0, 0) _ hbB Tryz.underlying53 rfl HI.out ?_
          refine hK _ _ ?_
          clear hK K
          refine wpAny_ready (rs := [6]) (by kernel_rfl) (by simp) ?_
          refine (AllReady.cons rfl (fun K hK => ?_) AllReady.nil)
          go_simp
          refine Calls.mono HSP.out ?_
          rintro e w9 ⟨rfl, hf9, hk9⟩
          have HF9 := Lib.hid hf9
          have HK9 := Lib.hid (HKB.out.any.trans hk9)
          clear hf9 hk9
          refine hK _ _ ?_
          clear hK K
          refine wpAny_ready (rs := [7]) (by kernel_rfl) (by simp) ?_
          refine (AllReady.cons rfl (fun K hK => ?_) AllReady.nil)
          go_simp
          refine hK _ _ ?_
          clear hK K
          refine wpAny_done (by kernel_rfl) ?_ _
          go_wp2_with fail
          go_ret
          exact ⟨rfl, HF9.out, HK9.out⟩
      · skip
        go_simp
        refine hK _ _ ?_
        clear hK K
        refine wpAny_ready (rs := [1, 3]) (by kernel_rfl) (by simp) ?_
        refine (AllReady.cons rfl (fun K hK => ?_) (AllReady.cons rfl (fun K hK => ?_) AllReady.nil))
        · skip
          refine step_load_row rfl 53 (.tmp 3) rfl w.heap.size rfl 53 x.cells (0, 0) _ hbB Tryz.underlying53 rfl HI.out ?_
          refine hK _ _ ?_
          clear hK K
          refine wpAny_ready (rs := [3]) (by kernel_rfl) (by simp) ?_
          refine (AllReady.cons rfl (fun K hK => ?_) AllReady.nil)
          go_simp
          refine hK _ _ ?_
          clear hK K
          refine wpAny_ready (rs := [6]) (by kernel_rfl) (by simp) ?_
          refine (AllReady.cons rfl (fun K hK => ?_) AllReady.nil)
          go_simp
          refine Calls.mono HSP.out ?_
          rintro e w9 ⟨rfl, hf9, hk9⟩
          have HF9 := Lib.hid hf9
          have HK9 := Lib.hid (HKB.out.any.trans hk9)
          clear hf9 hk9
          refine hK _ _ ?_
          clear hK K
          refine wpAny_ready (rs := [7]) (by kernel_rfl) (by simp) ?_
          refine (AllReady.cons rfl (fun K hK => ?_) AllReady.nil)
          go_simp
          refine hK _ _ ?_
          clear hK K
          refine wpAny_done (by kernel_rfl) ?_ _
          go_wp2_with fail
          go_ret
          exact ⟨rfl, HF9.out, HK9.out⟩
        · skip
          go_simp
          refine hK _ _ ?_
          clear hK K
          refine wpAny_ready (rs := [1]) (by kernel_rfl) (by simp) ?_
          refine (AllReady.cons rfl (fun K hK => ?_) AllReady.nil)
          refine step_load_row rfl 53 (.tmp 3) rfl w.heap.size rfl 53 x.cells (0, 0) _ hbB Tryz.underlying53 rfl HI.out ?_
          refine hK _ _ ?_
          clear hK K
          refine wpAny_ready (rs := [6]) (by kernel_rfl) (by simp) ?_
          refine (AllReady.cons rfl (fun K hK => ?_) AllReady.nil)
          go_simp
          refine Calls.mono HSP.out ?_
          rintro e w9 ⟨rfl, hf9, hk9⟩
          have HF9 := Lib.hid hf9
          have HK9 := Lib.hid (HKB.out.any.trans hk9)
          clear hf9 hk9
          refine hK _ _ ?_
          clear hK K
          refine wpAny_ready (rs := [7]) (by kernel_rfl) (by simp) ?_
          refine (AllReady.cons rfl (fun K hK => ?_) AllReady.nil)
          go_simp
          refine hK _ _ ?_
          clear hK K
          refine wpAny_done (by kernel_rfl) ?_ _
          go_wp2_with fail
          go_ret
          exact ⟨rfl, HF9.out, HK9.out⟩
end Go.Proofs.YtcbdjmlkjifamaaGreatDoor

/- Package files: Write at a system that was made: where it answers an error, or writes nothing. Conditions: a state that is consistent. -/
namespace Go.Proofs.YtcbdjmlkjifamaaGreatDoor
open Go.RowKit
set_option maxRecDepth 100000

/-- What Write answers ahead of any change: an error, or 0 where there are no bytes. -/
def writePre (nodes : List Ino) (n pos : Int) (m : Nat) (time : Int) : Option Int :=
  if (usedOf nodes n).2 ≠ 0 then some (usedOf nodes n).2 else if spanMay pos m ≠ 0 then some (spanMay pos m) else if time < 0 then some 1 else if m = 0 then some 0 else none

theorem usedOf_len (nodes : List Ino) (n : Int) (hg : ∀ x ∈ nodes, x.pages.length = 32) : (usedOf nodes n).1.pages.length = 32 := by
  have := inoOf_len nodes n hg
  unfold usedOf
  split <;> exact this

theorem files_Write_pre (w : World) (fb ib pb ab table : Nat) (pgs : List (List UInt8)) (bm : List UInt8) (nodes : List Ino) (n pos : Int) (B : Option Addr) (bc m : Nat) (time r : Int) (h : Fsys w fb ib pb ab table pgs bm nodes)
    (h1 : -9223372036854775808 ≤ pos) (h2 : pos ≤ 9223372036854775807) (h3 : m ≤ 140737488355328) (hr : writePre nodes n pos m time = some r) :
    Calls Tryz.prog 49 #[.pointer (some ⟨fb, 0, none⟩), .int .i64 n, .int .i64 pos, .slice B m bc, .int .i64 time] w fun e w' => e = .returned (.tuple #[.int .i64 0, .int .i64 r]) ∧ Kept [] w w' := by
  have H := Lib.hid h
  obtain ⟨u, hu⟩ : ∃ u, u = usedOf nodes n := ⟨_, rfl⟩
  have hul := usedOf_len nodes n (fun x hx => (h.fs.good x hx).lim.len)
  unfold writePre at hr
  rw [← hu] at hr hul
  have HU := Lib.hid hu
  have HUL := Lib.hid hul
  have cU : ∀ W, Kept [] w W → Calls Tryz.prog 35 #[.pointer (some ⟨fb, 0, none⟩), .int .i64 n] W fun e w' => e = .returned (.tuple #[.agg u.1.cells, .int .i64 u.2]) ∧ Kept [] W w' := fun W hW => by
    rw [hu]
    exact files_used_any W fb ib pb ab table pgs bm nodes n (h.keep0 hW)
  have CU := Lib.hid cU
  obtain ⟨x, e0⟩ := u
  simp only at hr
  have HL : RowKit.Hid (x.pages.length = 32) := HUL
  have CU' : RowKit.Hid (∀ W, Kept [] w W → Calls Tryz.prog 35 #[.pointer (some ⟨fb, 0, none⟩), .int .i64 n] W fun e w' => e = .returned (.tuple #[.agg x.cells, .int .i64 e0]) ∧ Kept [] W w') := CU
  clear HUL CU cU hu HU hul h
  go_enter Tryz.func49, Tryz.ntmps49
  go_wp2_with (go_at_call 35; refine Stop.here ?_)
  refine Stop.go ?_
  refine (CU'.out w (Kept.refl _ _)).mono ?_
  rintro e w1 ⟨rfl, hk1⟩
  have HK1 := Lib.hid hk1
  clear hk1
  go_wp2_with (with_reducible refine stop_store (t := 53) ?_)
  refine Stop.go ?_
  refine wpList_store_row rfl 53 (.tmp 12) (.tmp 23) rfl w1.heap.size rfl x.cells rfl 53 Ino.zero.cells (heap_alloc_new w1 _) (by rw [x.cells_size HL.out]; exact ino_info) (by rw [x.cells_size HL.out]; rfl) x.one ?_
  obtain ⟨w2, hw2⟩ : ∃ w2, w2 = (w1.alloc (.cells Ino.zero.cells 53)).setRow w1.heap.size x.cells := ⟨_, rfl⟩
  have hw2' : w2 = w1.alloc (.cells x.cells 53) := by rw [hw2, World.setRow_alloc_new]
  show wpList _ _ _ _ _ ((w1.alloc (.cells Ino.zero.cells 53)).setRow w1.heap.size x.cells)
  rw [← hw2]
  have HK2 := Lib.hid (show Kept [] w w2 by rw [hw2']; exact HK1.out.alloc _)
  clear hw2 hw2' HK1
  have HR := Lib.hid hr
  clear hr
  by_cases c1 : e0 = 0
  · by_cases c2 : spanMay pos m = 0
    · by_cases c3 : time < 0
      · have hr1 : r = 1 := by
          have := HR.out
          rw [if_neg (fun h => h c1), if_neg (fun h => h c2), if_pos c3] at this
          injection this with this
          exact this.symm
        have HR1 := Lib.hid hr1
        clear hr1
        go_wp2_with (go_at_call 71; refine (span_May _ _ _ h1 h2 (by omega) (by omega)).mono ?_; rintro e w' ⟨rfl, rfl⟩; rw [c2])
        go_ret2
        exact ⟨by rw [HR1.out]; rfl, HK2.out⟩
      · have hm0 : m = 0 := by
          have := HR.out
          rw [if_neg (fun h => h c1), if_neg (fun h => h c2), if_neg c3] at this
          split at this
          · assumption
          · cases this
        have hr0 : r = 0 := by
          have := HR.out
          rw [if_neg (fun h => h c1), if_neg (fun h => h c2), if_neg c3, if_pos hm0] at this
          injection this with this
          exact this.symm
        have HR1 := Lib.hid hr0
        have hmi : ((m : Int) == 0) = true := by rw [beq_iff_eq]; omega
        clear hr0 hm0
        go_wp2_with (go_at_call 71; refine (span_May _ _ _ h1 h2 (by omega) (by omega)).mono ?_; rintro e w' ⟨rfl, rfl⟩; rw [c2])
        go_ret2
        exact ⟨by rw [HR1.out]; rfl, HK2.out⟩
    · have hr1 : r = spanMay pos m := by
        have := HR.out
        rw [if_neg (fun h => h c1), if_pos c2] at this
        injection this with this
        exact this.symm
      have HR1 := Lib.hid hr1
      have hcb : (spanMay pos m == 0) = false := by rw [beq_eq_false_iff_ne]; exact c2
      obtain ⟨q, hq⟩ : ∃ q, q = spanMay pos m := ⟨_, rfl⟩
      have HQ := Lib.hid hq
      rw [← hq] at hcb
      have hqn : ¬ q = 0 := by rw [hq]; exact c2
      clear hr1 c2 hq
      go_wp2_with (go_at_call 71; refine (span_May _ _ _ h1 h2 (by omega) (by omega)).mono ?_; rintro e w' ⟨rfl, rfl⟩; rw [← HQ.out])
      go_ret2
      exact ⟨by rw [HR1.out, ← HQ.out]; rfl, HK2.out⟩
  · have hr1 : r = e0 := by
      have := HR.out
      rw [if_pos (show (x, e0).2 ≠ 0 from c1)] at this
      injection this with this
      exact this.symm
    have HR1 := Lib.hid hr1
    have hcb : (e0 == 0) = false := by rw [beq_eq_false_iff_ne]; exact c1
    clear hr1
    go_wp2_with fail
    go_ret2
    exact ⟨by rw [HR1.out]; rfl, HK2.out⟩
end Go.Proofs.YtcbdjmlkjifamaaGreatDoor
