/-
  inode.Parse and inode.Get at an inode's bytes. Condition: the bytes are an inode's that may be. Package image's plain images: ok, Kind, Pages, Page, Set at an image that was made. Conditions: numbers of pages within the image. image.New: a plain image of so many pages. Condition: the number of pages may be. The document's files (package carlingref27): put, Make, Format, as far as that they return, and which inodes are Free. Conditions: as the theorems say.
-/
import Derived.Test.YtcbdjmlkjifamaaGreatDoorQag
import Derived.Test.YtcbdjmlkjifamaaGreatDoorQal
import Derived.Deep.WholeRow
import Derived.Laws.ResultCell
set_option linter.unusedVariables false
set_option linter.unusedSimpArgs false

/- inode.Parse and inode.Get at an inode's bytes. Condition: the bytes are an inode's that may be. -/
namespace Go.Proofs.YtcbdjmlkjifamaaGreatDoor
open Go.RowKit
set_option maxRecDepth 100000

section laws
variable {P : Program} {w : World} {ops : Array Oper} {rest : List Oper} {o : Oper} {a : Act} {Q : Exit → Act → World → Prop}
theorem wpList_store_row (hgd : o.guard = none) (ty : TypeId) (x y : Operand) (ho : o.op = .store ty x y) (g : Nat) (hx : a.eval x = .pointer (some ⟨g, 0, none⟩)) (cells : Array Value) (hy : a.eval y = .agg cells)
    (t : TypeId) (old : Array Value) (hg : w.heap[g]? = some (.cells old t (0, 0))) (hi : (P.info? ty).map (·.size) = some cells.size) (hs : old.size = cells.size) (h1 : cells.all (·.oneCell') = true)
    (h : wpList P ops Q rest (a.put o.dst undef) (w.setRow g cells)) : wpList P ops Q (o :: rest) a w :=
  wpList_plain hgd fun _ hK => by
    unfold Oper.wp execOp
    simp only [ho, hx, hy, Instr.storeAt, Instr.sureAddr, Sem.run_bind, Sem.run_pure, Result.andThen_ok, run_storeVar_row w g t ty old cells hg hi hs h1]
    exact hK _ _ h
theorem wpList_load_row_g (ty : TypeId) (x : Operand) (ho : o.op = .load ty x) (hw : Region.wanted o (yielded ops a.tmps) = true)
    (g : Nat) (hx : a.eval x = .pointer (some ⟨g, 0, none⟩)) (t : TypeId) (cs : Array Value) (fr : Nat × Nat) (d : TypeDesc) (hg : w.heap[g]? = some (.cells cs t fr))
    (hu : P.underlying ty = some d) (hd : (match d with | .struct _ | .array _ _ => true | _ => false) = true) (hi : (P.info? ty).map (·.size) = some cs.size)
    (h : wpList P ops Q rest (a.put o.dst (.agg cs)) w) : wpList P ops Q (o :: rest) a w :=
  wpList_step fun _ hK => by
    simp only [hw, if_true]
    exact wp_load_row ty x ho g hx t cs fr d hg hu hd hi (hK _ _ h)
theorem step_copy_row {K : Act → World → Prop} {E : Prop} (hgd : o.guard = none) (d s : Operand) (dT sT : TypeId)
    (ho : o.op = .call { callee := .builtin .copy, args := #[d, s], argTypes := #[dT, sT] }) (elem : TypeId) (hu : P.underlying dT = some (.slice elem)) (hsz : (P.info? elem).map (·.size) = some 1)
    (dp sp : Option Addr) (dLen dCap sLen sCap : Nat) (hd : a.eval d = .slice dp dLen dCap) (hs : a.eval s = .slice sp sLen sCap)
    (g off : Nat) (cur : List Value) (t : TypeId) (hg : w.heap[g]? = some (.cells cur.toArray t (0, 0))) (cs : List Value) (hn : cs.length = Nat.min sLen dLen)
    (hpos : 0 < cs.length → dp = some ⟨g, off, none⟩ ∧ ∃ ad, sp = some ad ∧ ∀ j v, cs[j]? = some v → w.cell? (ad.add j) = some v)
    (hfit : off + cs.length ≤ cur.length) (h1 : ∀ v ∈ cs, v.oneCell' = true)
    (h : ∀ w', RowKit.Hid (w'.heap[g]? = some (.cells (splice cur off cs).toArray t (0, 0))) → Kept [g] w w' → K (a.put o.dst (goInt cs.length)) w') :
    if Region.wanted o (yielded ops a.tmps) = true then Oper.wp P o a w K Q else E := by
  have hw : Region.wanted o (yielded ops a.tmps) = true := by simp [Region.wanted, hgd]
  rw [if_pos hw]
  by_cases h0 : cs.length = 0
  · obtain rfl : cs = [] := List.eq_nil_of_length_eq_zero h0
    have hrun := run_copy_none (P := P) w dT sT o.type elem dp sp dLen dCap sLen sCap hu hsz (by simpa using hn.symm)
    unfold Oper.wp
    simp [execOp, ho, resolve, invoke, builtin, hd, hs, hrun, Result.andThen]
    exact h w (show _ = _ by simpa [splice] using hg) (Kept.refl _ _)
  · obtain ⟨rfl, ad, rfl, hsrc⟩ := hpos (by omega)
    have hrun := run_copy_row (P := P) w dT sT o.type elem g off dLen dCap ad sLen sCap cur.toArray t cs hu hsz hg hn hsrc (by simpa using hfit) h1
    unfold Oper.wp
    simp [execOp, ho, resolve, invoke, builtin, hd, hs, hrun, Result.andThen]
    refine h _ (show _ = _ by simpa [splice] using setRow_heap w g _ _ t _ hg) ⟨rfl, rfl, rfl, by simp, fun i hi hne => setRow_other w g i _ (fun e => hne (by simp [e]))⟩
end laws
theorem Kept.setRow {D : List Nat} {w w' : World} (h : Kept D w w') (g : Nat) (cs : Array Value) (hg : w.heap.size ≤ g ∨ g ∈ D) : Kept D w (w'.setRow g cs) :=
  ⟨h.os, h.tape, h.output, by simpa using h.size, fun i hi hn => (setRow_other w' g i cs (by
    intro e
    rcases hg with hg | hg
    · omega
    · exact hn (by rw [e]; exact hg))).trans (h.block i hi hn)⟩
theorem Blk.row {w : World} {g : Nat} {t : TypeId} {cs : Array Value} (h : Blk w g t cs) (cs' : Array Value) : Blk (w.setRow g cs') g t cs' := setRow_heap w g cs cs' t (0, 0) h
theorem Blk.row_far {w : World} {g k : Nat} {t : TypeId} {cs : Array Value} (h : Blk w g t cs) (cs' : Array Value) (hne : g ≠ k) : Blk (w.setRow k cs') g t cs := (setRow_other w k g cs' (by omega)).trans h

theorem Ino.one (x : Ino) : x.cells.all (·.oneCell') = true := by
  rw [Array.all_eq_true_iff_forall_mem]
  intro v hv
  simp only [Ino.cells, pgCells, Array.mem_append] at hv
  rcases hv with hv | hv
  · simp at hv
    rcases hv with rfl | rfl | rfl | rfl | rfl | rfl <;> rfl
  · simp at hv
    obtain ⟨p, _, rfl⟩ := hv
    rfl

theorem num_at (D : List Nat) (rb n size : Nat) (T : List UInt8) (most : Int) (w : World) (h : Rd w D rb (leBytes n size ++ T)) (hD : Old D w) (h1 : 1 ≤ size) (h2 : size ≤ 8) (hn : n < 256 ^ size) (hm : (n : Int) ≤ most) (hm2 : most ≤ 18446744073709551615) :
    Calls Tryz.prog 41 #[.pointer (some ⟨rb, 0, none⟩), .int .i64 size, .int .u64 most] w fun e w' =>
      e = .returned (.int .u64 n) ∧ Rd w' D rb T ∧ Kept [rb] w w' := by
  have e1 : (leBytes n size ++ T).take size = leBytes n size := List.take_left' (leBytes_length n size)
  have e2 : (leBytes n size ++ T).drop size = T := List.drop_left' (leBytes_length n size)
  have e3 : leNat ((leBytes n size ++ T).take size) = n := by rw [e1, leNat_leBytes n size hn]
  have := reader_Num D rb (leBytes n size ++ T) size most w h hD h1 h2 (by rw [List.length_append, leBytes_length]; omega) (by rw [e3]; exact hm) hm2
  rw [e3, e2] at this
  exact this

theorem Ino.tail1 (x : Ino) : x.bytes = leBytes x.kind 1 ++ (leBytes x.mode 1 ++ (leBytes x.links 2 ++ (leBytes x.size 4 ++ (leBytes x.time 8 ++ (leBytes x.attr 1 ++ (x.pages ++ List.replicate 15 0)))))) := by
  simp [Ino.bytes, leBytes]

set_option maxHeartbeats 1000000 in
theorem inode_Parse (x : Ino) (D : List Nat) (A : Option Addr) (c : Nat) (w : World) (h : x.Good) (hp : Bytes w D A c x.bytes) (hD : Old D w) :
    Calls Tryz.prog 68 #[.slice A 64 c] w fun e w' => e = .returned (.tuple #[.agg x.cells, .int .i64 0]) ∧ Kept [] w w' := by
  have hl := x.bytes_length h.lim.len
  have HX := Lib.hid h
  have HL := Lib.hid hl
  have HP := Lib.hid hp
  have HD := Lib.hid hD
  have k1 := h.lim.kind
  have k2 := h.lim.mode
  have k3 := h.lim.links
  have k4 := h.lim.size
  have k5 := h.lim.time
  have k6 := h.lim.attr
  clear h hl hp hD
  go_enter Tryz.func68, Tryz.ntmps68
  go_wp2_with (go_at_call 39; refine Stop.here ?_)
  refine Stop.go ?_
  obtain ⟨Z, hZ⟩ : ∃ Z, Z = Ino.zero.cells := ⟨_, rfl⟩
  obtain ⟨W0, hW0⟩ : ∃ W0, W0 = w.alloc (.cells Z 53) := ⟨_, rfl⟩
  have hZl : W0 = w.alloc (.cells Ino.zero.cells 53) := by rw [hW0, hZ]
  have hk0 : Kept [] w W0 := by rw [hW0]; exact (Kept.refl _ _).alloc _
  have hb0 : Blk W0 w.heap.size 53 Z := by rw [hW0]; exact Blk.new _ _ _
  have hsz0 : W0.heap.size = w.heap.size + 1 := by rw [hW0]; simp
  have hpr := pack_Read D A c x.bytes W0 (HP.out.keep0 hk0)
  rw [HL.out, hZl] at hpr
  refine Calls.mono hpr ?_
  rw [← hZl]
  rintro e w1 ⟨rfl, hr1, hk1⟩
  rw [x.tail1] at hr1
  have hb1 := hb0.keep0 hk1
  have HD1 := Lib.hid ((HD.out.kept hk0).kept hk1)
  have HR1 := Lib.hid hr1
  have HK1 := Lib.hid (hk0.trans hk1)
  have HB1 := Lib.hid hb1
  have HZ := Lib.hid hZ
  obtain ⟨rb, hrb⟩ : ∃ rb, rb = W0.heap.size := ⟨_, rfl⟩
  have hrb2 : w.heap.size < rb := by omega
  have hrbl : rb < w1.heap.size := by rw [hrb]; exact hr1.lt
  rw [← hrb] at HR1 ⊢
  clear hpr hr1 hk1 hb1 hb0 hk0 hZ hW0 hZl hrb hsz0
  go_wp2_with (go_at_call 41; refine Stop.here ?_)
  refine Stop.go ?_
  refine (num_at D rb x.kind 1 _ 3 _ HR1.out HD1.out (by omega) (by omega) (by omega) (by omega) (by omega)).mono ?_
  rintro e w2 ⟨rfl, hr, hk⟩
  have HR2 := Lib.hid hr
  have HD2 := Lib.hid (HD1.out.kept hk)
  have HB2 := Lib.hid (HB1.out.keep hk (by rw [List.mem_singleton]; omega))
  have HK2 := Lib.hid ((HK1.out.any.trans hk).narrow (D' := []) (fun d hd hdl => by rw [List.mem_singleton] at hd; omega))
  clear hr hk HR1 HD1 HB1 HK1
  go_wp2_with (go_at_call 41; refine Stop.here ?_)
  refine Stop.go ?_
  refine (num_at D rb x.mode 1 _ 7 _ HR2.out HD2.out (by omega) (by omega) (by omega) (by omega) (by omega)).mono ?_
  rintro e w3 ⟨rfl, hr, hk⟩
  have HR3 := Lib.hid hr
  have HD3 := Lib.hid (HD2.out.kept hk)
  have HB3 := Lib.hid (HB2.out.keep hk (by rw [List.mem_singleton]; omega))
  have HK3 := Lib.hid ((HK2.out.any.trans hk).narrow (D' := []) (fun d hd hdl => by rw [List.mem_singleton] at hd; omega))
  clear hr hk HR2 HD2 HB2 HK2
  go_wp2_with (go_at_call 41; refine Stop.here ?_)
  refine Stop.go ?_
  refine (num_at D rb x.links 2 _ 65535 _ HR3.out HD3.out (by omega) (by omega) (by omega) (by omega) (by omega)).mono ?_
  rintro e w4 ⟨rfl, hr, hk⟩
  have HR4 := Lib.hid hr
  have HD4 := Lib.hid (HD3.out.kept hk)
  have HB4 := Lib.hid (HB3.out.keep hk (by rw [List.mem_singleton]; omega))
  have HK4 := Lib.hid ((HK3.out.any.trans hk).narrow (D' := []) (fun d hd hdl => by rw [List.mem_singleton] at hd; omega))
  clear hr hk HR3 HD3 HB3 HK3
  go_wp2_with (go_at_call 41; refine Stop.here ?_)
  refine Stop.go ?_
  refine (num_at D rb x.size 4 _ 8192 _ HR4.out HD4.out (by omega) (by omega) (by omega) (by omega) (by omega)).mono ?_
  rintro e w5 ⟨rfl, hr, hk⟩
  have HR5 := Lib.hid hr
  have HD5 := Lib.hid (HD4.out.kept hk)
  have HB5 := Lib.hid (HB4.out.keep hk (by rw [List.mem_singleton]; omega))
  have HK5 := Lib.hid ((HK4.out.any.trans hk).narrow (D' := []) (fun d hd hdl => by rw [List.mem_singleton] at hd; omega))
  clear hr hk HR4 HD4 HB4 HK4
  go_wp2_with (go_at_call 41; refine Stop.here ?_)
  refine Stop.go ?_
  refine (num_at D rb x.time 8 _ 9223372036854775807 _ HR5.out HD5.out (by omega) (by omega) (by omega) (by omega) (by omega)).mono ?_
  rintro e w6 ⟨rfl, hr, hk⟩
  have HR6 := Lib.hid hr
  have HD6 := Lib.hid (HD5.out.kept hk)
  have HB6 := Lib.hid (HB5.out.keep hk (by rw [List.mem_singleton]; omega))
  have HK6 := Lib.hid ((HK5.out.any.trans hk).narrow (D' := []) (fun d hd hdl => by rw [List.mem_singleton] at hd; omega))
  clear hr hk HR5 HD5 HB5 HK5
  go_wp2_with (go_at_call 41; refine Stop.here ?_)
  refine Stop.go ?_
  refine (num_at D rb x.attr 1 _ 255 _ HR6.out HD6.out (by omega) (by omega) (by omega) (by omega) (by omega)).mono ?_
  rintro e w7 ⟨rfl, hr, hk⟩
  have HR7 := Lib.hid hr
  have HD7 := Lib.hid (HD6.out.kept hk)
  have HB7 := Lib.hid (HB6.out.keep hk (by rw [List.mem_singleton]; omega))
  have HK7 := Lib.hid ((HK6.out.any.trans hk).narrow (D' := []) (fun d hd hdl => by rw [List.mem_singleton] at hd; omega))
  clear hr hk HR6 HD6 HB6 HK6
  go_wp2_with (with_reducible refine stop_store ?_)
  refine Stop.go ?_
  obtain ⟨y, hy⟩ : ∃ y : Ino, y = ⟨x.kind, x.mode, x.links, x.size, x.time, x.attr, List.replicate 32 0⟩ := ⟨_, rfl⟩
  have hyl : y.pages.length = 32 := by rw [hy]; simp
  have hyc : y.cells = #[.int .i64 x.kind, .int .i64 x.mode, .int .i64 x.links, .int .i64 x.size, .int .i64 x.time, .int .i64 x.attr, .int .u8 0, .int .u8 0, .int .u8 0, .int .u8 0, .int .u8 0, .int .u8 0, .int .u8 0, .int .u8 0, .int .u8 0, .int .u8 0, .int .u8 0, .int .u8 0, .int .u8 0, .int .u8 0, .int .u8 0, .int .u8 0, .int .u8 0, .int .u8 0, .int .u8 0, .int .u8 0, .int .u8 0, .int .u8 0, .int .u8 0, .int .u8 0, .int .u8 0, .int .u8 0, .int .u8 0, .int .u8 0, .int .u8 0, .int .u8 0, .int .u8 0, .int .u8 0] := by
    rw [hy]
    apply Array.ext'
    simp [Ino.cells, pgCells, b8, List.replicate]
  refine wpList_store_row rfl 53 (.tmp 5) (.tmp 30) rfl w7.heap.size rfl y.cells (by rw [hyc]; rfl) 53 Ino.zero.cells (heap_alloc_new w7 _) (by rw [y.cells_size hyl]; exact ino_info) (by rw [y.cells_size hyl]; rfl) y.one ?_
  obtain ⟨W8, hW8⟩ : ∃ W8, W8 = (w7.alloc (.cells Ino.zero.cells 53)).setRow w7.heap.size y.cells := ⟨_, rfl⟩
  have hW8' : W8 = w7.alloc (.cells y.cells 53) := by rw [hW8, World.setRow_alloc_new]
  show wpList _ _ _ _ _ ((w7.alloc (.cells Ino.zero.cells 53)).setRow w7.heap.size y.cells)
  rw [← hW8]
  have hk8 : Kept [] w7 W8 := by rw [hW8']; exact (Kept.refl _ _).alloc _
  have hb8 : Blk W8 w7.heap.size 53 y.cells := by rw [hW8']; exact Blk.new _ _ _
  have HB8 := Lib.hid hb8
  have HR8 := Lib.hid (HR7.out.keep0 hk8)
  have HD8 := Lib.hid (HD7.out.kept hk8)
  have HBZ := Lib.hid (HB7.out.keep0 hk8)
  have HK8 := Lib.hid (HK7.out.trans hk8)
  have hnb := HB7.out.lt
  have hnr := HR7.out.lt
  have HY := Lib.hid hy
  obtain ⟨nb, hnb2⟩ : ∃ nb, nb = w7.heap.size := ⟨_, rfl⟩
  rw [← hnb2] at HB8 hnb hnr ⊢
  clear hW8 hW8' hk8 hb8 hnb2 hy hyl hyc HR7 HD7 HB7 HK7
  go_wp2_with fail
  have hyl : y.pages.length = 32 := by rw [HY.out]; simp
  have hpl := HX.out.lim.len
  have hrl : 32 ≤ (x.pages ++ List.replicate 15 0).length := by simp [hpl]
  have hrt : (x.pages ++ List.replicate 15 (0 : UInt8)).take 32 = x.pages := List.take_left' hpl
  have hrd : (x.pages ++ List.replicate 15 (0 : UInt8)).drop 32 = List.replicate 15 0 := List.drop_left' hpl
  have cB : Calls Tryz.prog 73 #[.pointer (some ⟨rb, 0, none⟩), .int .i64 32] W8.drew fun e w' => ∃ A' c', e = .returned (.slice A' 32 c') ∧ Bytes w' [] A' c' x.pages ∧ Rd w' D rb (List.replicate 15 0) ∧ Kept [rb] W8.drew w' := by
    have h := reader_Bytes D rb (x.pages ++ List.replicate 15 0) 32 W8.drew (HR8.out.keep0 (Kept.refl [] _).drew) (by omega) (by omega)
    refine h.mono ?_
    rintro e w' ⟨v, rfl, ho, hr, hk⟩
    rw [show (32 : Int).toNat = 32 from rfl] at ho hr
    rw [hrt] at ho
    rw [hrd] at hr
    obtain ⟨A', c', rfl⟩ := own_form ho
    exact ⟨A', c', rfl, Bytes.of_own (D := []) ho hpl (by simp) (by omega), hr, hk⟩
  have HCB := Lib.hid cB
  have HYL := Lib.hid hyl
  have HPL := Lib.hid hpl
  clear cB hrl hrt hrd hyl hpl
  go_region_law (first
    | (refine step_copy_row rfl (.tmp 32) (.tmp 34) _ _ rfl 5 Tryz.underlying56 u8_one (some ⟨nb, 6, none⟩) A9 32 32 32 c9 (by simp [Act.eval, Act.put]) (by simp [Act.eval, Act.put]) nb 6 y.cells.toList 53 HB9.out (x.pages.map b8)
        (by rw [List.length_map, HPL.out]; rfl) (fun h0 => ⟨rfl, by obtain ⟨ad, hA, _, _, hc⟩ := HS9.out.at_ (by simpa using h0); exact ⟨ad, hA, hc⟩⟩) (by rw [List.length_map, HPL.out, Array.length_toList, y.cells_size HYL.out]; exact Nat.le_refl _) (oneCell_b8 _) ?_
       intro w10 hg10 hb10)
    | (go_simp; go_at_call 73; refine HCB.out.mono ?_; rintro e w9 ⟨A9, c9, rfl, hs9, hr9, hk9⟩; have HS9 := Lib.hid hs9; have HR9 := Lib.hid hr9; have HK9 := Lib.hid hk9; have HB9 := Lib.hid (HB8.out.drew.keep hk9 (by rw [List.mem_singleton]; omega)); clear hs9 hr9 hk9))
  have hx10 : Blk w10 nb 53 x.cells := by
    have e : (splice y.cells.toList 6 (x.pages.map b8)).toArray = x.cells := by
      rw [HY.out]
      apply Array.ext'
      simp [splice, Ino.cells, pgCells, HPL.out]
    have h := hg10.out
    rw [e] at h
    exact h
  have hz10 : Blk w10 w.heap.size 53 Z := (HBZ.out.drew.keep HK9.out (by rw [List.mem_singleton]; omega)).keep hb10 (by rw [List.mem_singleton]; omega)
  have hk10 : Kept [] w w10 := ((((HK8.out.drew).any.trans HK9.out).narrow (D' := []) (fun d hd hdl => by rw [List.mem_singleton] at hd; omega)).any.trans hb10).narrow (fun d hd hdl => by rw [List.mem_singleton] at hd; omega)
  have hr10 : Rd w10 D rb (List.replicate 15 0) := by
    obtain ⟨A', c', h1, h2⟩ := HR9.out
    exact ⟨A', c', h1.keep hb10 (by rw [List.mem_singleton]; omega), h2.other hb10 HB9.out (by decide)⟩
  have HX10 := Lib.hid hx10
  have HZ10 := Lib.hid hz10
  have HK10 := Lib.hid hk10
  have HR10 := Lib.hid hr10
  clear hx10 hz10 hk10 hr10 hb10 hg10 HB9 HK9 HR9 HS9 HCB HB8 HBZ HR8 HD8 HK8
  go_wp2_with (go_at_call 103; refine Stop.here ?_)
  refine Stop.go ?_
  refine (reader_Rest D rb _ w10 HR10.out (by simp [allZero])).mono ?_
  rintro e w11 ⟨rfl, n11, rfl⟩
  have HX11 := Lib.hid (HX10.out.drewN n11)
  have HZ11 := Lib.hid (HZ10.out.drewN n11)
  have HK11 := Lib.hid (HK10.out.drewN n11)
  obtain ⟨w11, hw11⟩ : ∃ w11, w11 = w10.drewN n11 := ⟨_, rfl⟩
  rw [← hw11] at HX11 HZ11 HK11 ⊢
  clear hw11
  go_wp2_with (with_reducible refine stop_load (t := 53) ?_)
  refine Stop.go ?_
  refine wpList_load_row_g 53 _ rfl (by simp [Region.wanted, yielded]) nb rfl 53 x.cells (0, 0) _ HX11.out Tryz.underlying53 rfl (by rw [x.cells_size HPL.out]; exact ino_info) ?_
  go_wp2_with (go_at_call 64; refine Stop.here ?_)
  refine Stop.go ?_
  refine (inode_May_good x _ HX.out).mono ?_
  rintro e w12 ⟨rfl, hk12⟩
  have HX12 := Lib.hid (HX11.out.keep0 hk12)
  have HZ12 := Lib.hid (HZ11.out.keep0 hk12)
  have HK12 := Lib.hid (HK11.out.trans hk12)
  clear hk12
  go_wp2_with (with_reducible refine stop_load (t := 53) ?_)
  refine Stop.go ?_
  refine wpList_load_row rfl 53 _ rfl nb rfl 53 x.cells (0, 0) _ HX12.out Tryz.underlying53 rfl (by rw [x.cells_size HPL.out]; exact ino_info) ?_
  go_wp2_with (with_reducible refine stop_store (t := 53) ?_)
  refine Stop.go ?_
  refine wpList_store_row rfl 53 (.tmp 2) (.tmp 45) rfl w.heap.size rfl x.cells rfl 53 Z HZ12.out (by rw [x.cells_size HPL.out]; exact ino_info) (by rw [HZ.out, x.cells_size HPL.out]; rfl) x.one ?_
  have hb13 := HZ12.out.row x.cells
  have hk13 : Kept [] w (w12.setRow w.heap.size x.cells) := HK12.out.setRow _ _ (.inl (Nat.le_refl _))
  obtain ⟨w13, hw13⟩ : ∃ w13, w13 = w12.setRow w.heap.size x.cells := ⟨_, rfl⟩
  rw [← hw13] at hb13 hk13
  show wpList _ _ _ _ _ (w12.setRow w.heap.size x.cells)
  rw [← hw13]
  have HB13 := Lib.hid hb13
  have HK13 := Lib.hid hk13
  clear hb13 hk13 hw13 HX12 HZ12 HK12 HX11 HZ11 HK11
  go_wp2_with fail
  refine bodyPost_ret (v := .tuple #[.agg x.cells, .int .i64 0]) ?_ rfl ⟨rfl, HK13.out⟩
  rw [results_cell_tmp rfl]
  have hld := run_loadVar_row (P := Tryz.prog) w13 w.heap.size 53 53 x.cells (0, 0) _ HB13.out Tryz.underlying53 rfl (by rw [x.cells_size HPL.out]; exact ino_info)
  simp [asAddr, hld]

theorem inode_Get (x : Ino) (D : List Nat) (A : Option Addr) (c k : Nat) (pg : List UInt8) (w : World) (h : x.Good) (hp : Bytes w D A c pg) (hn : pg.length = 256) (hk4 : k < 4) (hx : (pg.drop (64 * k)).take 64 = x.bytes) (hD : Old D w) :
    Calls Tryz.prog 34 #[.slice A 256 c, .int .i64 k] w fun e w' => e = .returned (.tuple #[.agg x.cells, .int .i64 0]) ∧ Kept [] w w' := by
  have hcap := hp.cap
  have hcm := hp.capm
  have h1 := hp.cut (k := 64 * k) (by omega)
  have hne : ¬ c = 64 * k := by omega
  rw [if_neg hne] at h1
  have h2 := h1.take (k := 64) (by rw [List.length_drop]; omega)
  rw [hx] at h2
  obtain ⟨ad, hA⟩ : ∃ ad, A = some ad := by
    obtain ⟨ad, hA, _⟩ := Sl.at_ hp (by omega)
    exact ⟨ad, hA⟩
  subst hA
  have hc1 : (64 : Int) * ((k : Int) + 1) ≤ c := by omega
  have HX := Lib.hid h
  have HL := Lib.hid h.lim.len
  have HB := Lib.hid h2
  have HD := Lib.hid hD
  clear h hp hx h1 h2 hD hn hcap
  go_enter Tryz.func34, Tryz.ntmps34
  go_wp2_with (go_at_call 68; refine Stop.here ?_)
  refine Stop.go ?_
  rw [show 64 * (k + 1) - 64 * k = 64 from by omega]
  have hk0 : Kept [] w (w.alloc (.cells Ino.zero.cells 53)) := (Kept.refl _ _).alloc _
  have hpr := inode_Parse x D _ _ (w.alloc (.cells Ino.zero.cells 53)) HX.out (HB.out.keep0 hk0) (HD.out.kept hk0)
  refine Calls.mono hpr ?_
  rintro e w1 ⟨rfl, hk1⟩
  have hb1 := (Blk.new w 53 Ino.zero.cells).keep0 hk1
  have HB1 := Lib.hid hb1
  have HK1 := Lib.hid (hk0.trans hk1)
  clear hpr hk0 hk1 hb1
  go_wp2_with (with_reducible refine stop_store (t := 53) ?_)
  refine Stop.go ?_
  refine wpList_store_row rfl 53 (.tmp 4) (.tmp 26) rfl w.heap.size rfl x.cells rfl 53 Ino.zero.cells HB1.out (by rw [x.cells_size HL.out]; exact ino_info) (by rw [x.cells_size HL.out]; rfl) x.one ?_
  have hb2 := HB1.out.row x.cells
  have hk2 : Kept [] w (w1.setRow w.heap.size x.cells) := HK1.out.setRow _ _ (.inl (Nat.le_refl _))
  obtain ⟨w2, hw2⟩ : ∃ w2, w2 = w1.setRow w.heap.size x.cells := ⟨_, rfl⟩
  rw [← hw2] at hb2 hk2
  show wpList _ _ _ _ _ (w1.setRow w.heap.size x.cells)
  rw [← hw2]
  have HB2 := Lib.hid hb2
  have HK2 := Lib.hid hk2
  clear hb2 hk2 hw2 HB1 HK1
  go_wp2_with fail
  refine bodyPost_ret (v := .tuple #[.agg x.cells, .int .i64 0]) ?_ rfl ⟨rfl, HK2.out⟩
  rw [results_cell_tmp rfl]
  have hld := run_loadVar_row (P := Tryz.prog) w2 w.heap.size 53 53 x.cells (0, 0) _ HB2.out Tryz.underlying53 rfl (by rw [x.cells_size HL.out]; exact ino_info)
  simp [asAddr, hld]
end Go.Proofs.YtcbdjmlkjifamaaGreatDoor

/- Package image's plain images: ok, Kind, Pages, Page, Set at an image that was made. Conditions: numbers of pages within the image. -/
namespace Go.Proofs.YtcbdjmlkjifamaaGreatDoor
open Go.RowKit
set_option maxRecDepth 100000

/-- A plain image at block ib: its engine at pb, its pages' row at ab. -/
structure Img (w : World) (ib pb ab : Nat) (pgs : List (List UInt8)) : Prop where
  image : Blk w ib 114 #[.int .i64 3, .iface 107 (.pointer (some ⟨pb, 0, none⟩)), .pointer none]
  row : ∃ cap vs, Blk w pb 109 #[.slice (some ⟨ab, 0, none⟩) pgs.length cap] ∧ Blk w ab 56 vs ∧ pgs.length ≤ vs.size ∧ pgs.length ≤ cap ∧ cap ≤ 9223372036854775807 ∧
    ∀ n (h : n < pgs.length), ∃ A c, vs[n]? = some (.slice A 256 c) ∧ Bytes w [] A c pgs[n]
  len : ∀ pg ∈ pgs, pg.length = 256
  small : pgs.length ≤ 216

namespace Img
variable {w w' : World} {ib pb ab : Nat} {pgs : List (List UInt8)}
theorem keep0 (h : Img w ib pb ab pgs) (k : Kept [] w w') : Img w' ib pb ab pgs := by
  obtain ⟨cap, vs, h1, h2, h3, h4, h5, h6⟩ := h.row
  refine ⟨h.image.keep0 k, ⟨cap, vs, h1.keep0 k, h2.keep0 k, h3, h4, h5, fun n hn => ?_⟩, h.len, h.small⟩
  obtain ⟨A, c, h7, h8⟩ := h6 n hn
  exact ⟨A, c, h7, h8.keep0 k⟩
theorem len_at (h : Img w ib pb ab pgs) {n : Nat} (hn : n < pgs.length) : pgs[n].length = 256 := h.len _ (List.getElem_mem hn)
end Img

theorem image_ok (w : World) (ib pb ab : Nat) (pgs : List (List UInt8)) (h : Img w ib pb ab pgs) :
    Calls Tryz.prog 67 #[.pointer (some ⟨ib, 0, none⟩)] w fun e w' => e = .returned (.bool true) ∧ w = w' := by
  have h0 : w.cell? ⟨ib, 0, none⟩ = some (.int .i64 3) := by rw [h.image.cell]; rfl
  clear h
  go_enter Tryz.func67, Tryz.ntmps67
  go_wp2
  go_ret
  exact ⟨rfl, rfl⟩

theorem image_Kind (w : World) (ib pb ab : Nat) (pgs : List (List UInt8)) (h : Img w ib pb ab pgs) :
    Calls Tryz.prog 56 #[.pointer (some ⟨ib, 0, none⟩)] w fun e w' => e = .returned (.int .i64 3) ∧ w = w' := by
  have h0 : w.cell? ⟨ib, 0, none⟩ = some (.int .i64 3) := by rw [h.image.cell]; rfl
  have H := Lib.hid h
  clear h
  go_enter Tryz.func56, Tryz.ntmps56
  go_wp2_with (go_at_call 67; refine (image_ok w ib pb ab pgs H.out).mono ?_; rintro e w' ⟨rfl, rfl⟩)
  go_ret
  exact ⟨rfl, rfl⟩

theorem plain_Pages (w : World) (ib pb ab : Nat) (pgs : List (List UInt8)) (h : Img w ib pb ab pgs) :
    Calls Tryz.prog 173 #[.pointer (some ⟨pb, 0, none⟩)] w fun e w' => e = .returned (.int .i64 pgs.length) ∧ w = w' := by
  obtain ⟨cap, vs, h1, _⟩ := h.row
  have h0 : w.cell? ⟨pb, 0, none⟩ = some (.slice (some ⟨ab, 0, none⟩) pgs.length cap) := by rw [h1.cell]; rfl
  clear h h1
  go_enter Tryz.func173, Tryz.ntmps173
  go_wp2
  go_ret
  exact ⟨rfl, rfl⟩

theorem meth_Pages (p : Nat) (w : World) : (method 420 107 (.pointer (some ⟨p, 0, none⟩)) "Pages").run Tryz.prog w = .ok (173, .pointer (some ⟨p, 0, none⟩)) w := by kernel_rfl
theorem meth_Page (p : Nat) (w : World) : (method 420 107 (.pointer (some ⟨p, 0, none⟩)) "Page").run Tryz.prog w = .ok (172, .pointer (some ⟨p, 0, none⟩)) w := by kernel_rfl
theorem meth_Set (p : Nat) (w : World) : (method 420 107 (.pointer (some ⟨p, 0, none⟩)) "Set").run Tryz.prog w = .ok (174, .pointer (some ⟨p, 0, none⟩)) w := by kernel_rfl

theorem image_Pages (w : World) (ib pb ab : Nat) (pgs : List (List UInt8)) (h : Img w ib pb ab pgs) :
    Calls Tryz.prog 57 #[.pointer (some ⟨ib, 0, none⟩)] w fun e w' => e = .returned (.int .i64 pgs.length) ∧ w = w' := by
  have h0 : w.cell? ⟨ib, 1, none⟩ = some (.iface 107 (.pointer (some ⟨pb, 0, none⟩))) := by rw [h.image.cell]; rfl
  have H := Lib.hid h
  have hm := fun w => meth_Pages pb w
  clear h
  go_enter Tryz.func57, Tryz.ntmps57
  go_wp2_with (first | (go_at_call 67; refine (image_ok w ib pb ab pgs H.out).mono ?_; rintro e w' ⟨rfl, rfl⟩) | (go_at_call 173; refine (plain_Pages w ib pb ab pgs H.out).mono ?_; rintro e w' ⟨rfl, rfl⟩))
  go_ret
  exact ⟨rfl, rfl⟩

theorem plain_Page (w : World) (ib pb ab n : Nat) (pgs : List (List UInt8)) (pg : List UInt8) (h : Img w ib pb ab pgs) (hpg : pgs[n]? = some pg) :
    Calls Tryz.prog 172 #[.pointer (some ⟨pb, 0, none⟩), .int .i64 n] w fun e w' => ∃ v, e = .returned (.tuple #[v, .int .i64 0]) ∧
      w'.ownsRow w.heap.size 5 1 v 256 (pg.map b8) ∧ Kept [] w w' := by
  obtain ⟨cap, vs, h1, h2, h3, h4, h5, h6⟩ := h.row
  obtain ⟨hn, rfl⟩ := List.getElem?_eq_some_iff.1 hpg
  obtain ⟨A, c, hv, hb⟩ := h6 n hn
  have hl := h.len_at hn
  obtain ⟨pg, hpe⟩ : ∃ pg, pg = pgs[n] := ⟨_, rfl⟩
  rw [← hpe] at hb hl ⊢
  have h0 : w.cell? ⟨pb, 0, none⟩ = some (.slice (some ⟨ab, 0, none⟩) pgs.length cap) := by rw [h1.cell]; rfl
  have hc : w.cell? ⟨ab, n, none⟩ = some (.slice A 256 c) := by rw [h2.cell, hv]
  have HB := Lib.hid hb
  have HL := Lib.hid hl
  clear h h1 h2 h3 h6 hv hb hl hpe hpg
  go_enter Tryz.func172, Tryz.ntmps172
  go_wp2_with (go_at_call 98; refine Stop.here ?_)
  refine Stop.go ?_
  refine (bytes_Clone_n [] A c 256 _ _ HB.out HL.out).mono ?_
  rintro e w1 ⟨v, rfl, ho, hk⟩
  have HO := Lib.hid ho
  have HK := Lib.hid hk
  clear ho hk
  go_wp2_with fail
  go_ret2
  exact ⟨v, rfl, HO.out, HK.out⟩

theorem image_Page (w : World) (ib pb ab n : Nat) (pgs : List (List UInt8)) (pg : List UInt8) (h : Img w ib pb ab pgs) (hpg : pgs[n]? = some pg) :
    Calls Tryz.prog 33 #[.pointer (some ⟨ib, 0, none⟩), .int .i64 n] w fun e w' => ∃ v, e = .returned (.tuple #[v, .int .i64 0]) ∧
      w'.ownsRow w.heap.size 5 1 v 256 (pg.map b8) ∧ Kept [] w w' := by
  have h0 : w.cell? ⟨ib, 1, none⟩ = some (.iface 107 (.pointer (some ⟨pb, 0, none⟩))) := by rw [h.image.cell]; rfl
  have H := Lib.hid h
  have HN := Lib.hid hpg
  have hm := fun w => meth_Page pb w
  clear h hpg
  go_enter Tryz.func33, Tryz.ntmps33
  go_wp2_with (first | (go_at_call 67; refine (image_ok w ib pb ab pgs H.out).mono ?_; rintro e w' ⟨rfl, rfl⟩) | (go_at_call 172; refine Stop.here ?_))
  refine Stop.go ?_
  refine (plain_Page w ib pb ab n pgs pg H.out HN.out).mono ?_
  rintro e w1 ⟨v, rfl, ho, hk⟩
  have HO := Lib.hid ho
  have HK := Lib.hid hk
  clear ho hk
  go_wp2_with fail
  go_ret2
  exact ⟨v, rfl, HO.out, HK.out⟩

theorem Img.set_ {w w1 : World} {ib pb ab n : Nat} {pgs : List (List UInt8)} {A1 : Option Addr} {c1 : Nat} {pg : List UInt8} (h : Img w ib pb ab pgs) (hk : Kept [] w w1) (hb : Bytes w1 [] A1 c1 pg) (hl : pg.length = 256) (hn : n < pgs.length) :
    Img (w1.setCell ⟨ab, n, none⟩ (.slice A1 256 c1)) ib pb ab (pgs.set n pg) ∧ Kept [ab] w (w1.setCell ⟨ab, n, none⟩ (.slice A1 256 c1)) := by
  have h1 := h.keep0 hk
  obtain ⟨cap, vs, h2, h3, h4, h5, h6, h7⟩ := h1.row
  have hks : Kept [ab] w1 (w1.setCell ⟨ab, n, none⟩ (.slice A1 256 c1)) := (Kept.refl _ _).setCell (.inr (by simp)) _
  refine ⟨⟨h1.image.keep hks ?_, ⟨cap, vs.setIfInBounds n (.slice A1 256 c1), ?_, h3.set_ n _, by simpa using h4, by simpa using h5, h6, fun m hm => ?_⟩, ?_, by simpa using h.small⟩, hk.any.trans hks⟩
  · have := h1.image.ne_ h3 (by decide)
    simpa using this
  · rw [List.length_set]
    have := h2.ne_ h3 (by decide)
    exact h2.keep hks (by simpa using this)
  · rw [List.length_set] at hm
    by_cases he : n = m
    · subst he
      refine ⟨A1, c1, by rw [Array.getElem?_setIfInBounds_self_of_lt (by omega)], ?_⟩
      rw [List.getElem_set_self]
      exact hb.other hks h3 (by decide)
    · obtain ⟨A, c, h8, h9⟩ := h7 m hm
      refine ⟨A, c, by rw [Array.getElem?_setIfInBounds_ne he, h8], ?_⟩
      rw [List.getElem_set_ne he]
      exact h9.other hks h3 (by decide)
  · intro p hp
    rcases List.mem_or_eq_of_mem_set hp with hp | rfl
    · exact h.len p hp
    · exact hl

theorem plain_Set (w : World) (ib pb ab n : Nat) (pgs : List (List UInt8)) (D : List Nat) (A : Option Addr) (c : Nat) (pg : List UInt8) (h : Img w ib pb ab pgs) (hn : n < pgs.length) (hp : Bytes w D A c pg) (hl : pg.length = 256) :
    Calls Tryz.prog 174 #[.pointer (some ⟨pb, 0, none⟩), .int .i64 n, .slice A 256 c] w fun e w' => e = .returned (.int .i64 0) ∧ Img w' ib pb ab (pgs.set n pg) ∧ Kept [ab] w w' := by
  obtain ⟨cap, vs, h1, h2, h3, h4, h5, h6⟩ := h.row
  have h0 : w.cell? ⟨pb, 0, none⟩ = some (.slice (some ⟨ab, 0, none⟩) pgs.length cap) := by rw [h1.cell]; rfl
  have HB := Lib.hid hp
  have HL := Lib.hid hl
  have HI := Lib.hid h
  have HN := Lib.hid hn
  have hni : (n : Int) < pgs.length := by omega
  have H1 := Lib.hid h1
  have H2 := Lib.hid h2
  have H3 := Lib.hid h3
  have H6 := Lib.hid h6
  clear h h1 h2 h6 hp hl
  go_enter Tryz.func174, Tryz.ntmps174
  have hvn : ∃ u, vs[n]? = some u := ⟨_, (Array.getElem?_eq_some_iff.2 ⟨by omega, rfl⟩)⟩
  obtain ⟨u, hu⟩ := hvn
  go_wp2_with fail
  have h0' : w.drew.cell? ⟨pb, 0, none⟩ = some (.slice (some ⟨ab, 0, none⟩) pgs.length cap) := h0
  go_region_with (go_at_call 98; refine (bytes_Clone_n D A c 256 _ _ (HB.out.keep0 (Kept.refl [] _).drew) HL.out).mono ?_; rintro e w1 ⟨v, rfl, ho, hk⟩; obtain ⟨A1, c1, rfl⟩ := own_form ho; (have hcp : w1.cell? ⟨pb, 0, none⟩ = some (.slice (some ⟨ab, 0, none⟩) pgs.length cap) := by rw [(H1.out.drew.keep0 hk).cell]; rfl); (have hca : w1.cell? ⟨ab, n, none⟩ = some u := by rw [(H2.out.drew.keep0 hk).cell, hu]); (have hcf : w1.frozen? ⟨ab, n, none⟩ = false := (H2.out.drew.keep0 hk).frozen n); have HO := Lib.hid ho; have HK := Lib.hid hk; clear ho hk)
  all_goals
    have hb1 : Bytes w1 [] A1 c1 pg := Bytes.of_own (D := []) HO.out HL.out (by simp) (by omega)
    obtain ⟨hi2, hk2⟩ := HI.out.set_ (n := n) ((Kept.refl [] w).drew.trans HK.out) hb1 HL.out HN.out
    have HI2 := Lib.hid hi2
    have HK2 := Lib.hid hk2
    clear hb1 hi2 hk2
    go_wp2_with fail
    go_ret
    exact ⟨rfl, HI2.out, HK2.out⟩

theorem image_Set (w : World) (ib pb ab n : Nat) (pgs : List (List UInt8)) (D : List Nat) (A : Option Addr) (c : Nat) (pg : List UInt8) (h : Img w ib pb ab pgs) (hn : n < pgs.length) (hp : Bytes w D A c pg) (hl : pg.length = 256) :
    Calls Tryz.prog 61 #[.pointer (some ⟨ib, 0, none⟩), .int .i64 n, .slice A 256 c] w fun e w' => e = .returned (.int .i64 0) ∧ Img w' ib pb ab (pgs.set n pg) ∧ Kept [ab] w w' := by
  have h0 : w.cell? ⟨ib, 1, none⟩ = some (.iface 107 (.pointer (some ⟨pb, 0, none⟩))) := by rw [h.image.cell]; rfl
  have H := Lib.hid h
  have HN := Lib.hid hn
  have HP := Lib.hid hp
  have HL := Lib.hid hl
  have hm := fun w => meth_Set pb w
  clear h hn hp hl
  go_enter Tryz.func61, Tryz.ntmps61
  go_wp2_with (first | (go_at_call 67; refine (image_ok w ib pb ab pgs H.out).mono ?_; rintro e w' ⟨rfl, rfl⟩) | (go_at_call 174; refine Stop.here ?_))
  refine Stop.go ?_
  refine (plain_Set w ib pb ab n pgs D A c pg H.out HN.out HP.out HL.out).mono ?_
  rintro e w1 ⟨rfl, hi, hk⟩
  have HI := Lib.hid hi
  have HK := Lib.hid hk
  clear hi hk
  go_wp2_with fail
  go_ret
  exact ⟨rfl, HI.out, HK.out⟩
end Go.Proofs.YtcbdjmlkjifamaaGreatDoor

/- image.New: a plain image of so many pages. Condition: the number of pages may be. -/
namespace Go.Proofs.YtcbdjmlkjifamaaGreatDoor
open Go.RowKit
set_option maxRecDepth 100000

theorem bytes_info : (Tryz.prog.info? 56).map (fun i => (i.zero, i.size, i.bytes)) = some (some (.slice none 0 0), 1, 24) := by kernel_rfl

/-- What the loop of New knows. -/
def NewRel (w : World) (pb n : Nat) (a : Value) (wr : World) : Prop :=
  ∃ (k : Nat) (v : Value) (vs : List Value), a = .int .i64 k ∧ k ≤ n ∧ Blk wr pb 109 #[v] ∧ wr.ownsRow w.heap.size 56 1 v k vs ∧ (∀ i, i < k → ∃ A c, vs[i]? = some (.slice A 256 c) ∧ Bytes wr [] A c (List.replicate 256 0)) ∧ Kept [] w wr

theorem Kept.of_grown {w w' : World} {row : Option Nat} (hg : w.grownBy w' row) (D : List Nat) (hD : ∀ k, row = some k → k ∈ D) : Kept D w w' :=
  ⟨hg.os, hg.tape, hg.output, hg.size, fun i hi hn => hg.block i hi (fun e => hn (hD i e.symm))⟩
theorem Bytes.grown {w w' : World} {D : List Nat} {A : Option Addr} {c : Nat} {bs : List UInt8} {base : Nat} {e : TypeId} {size n : Nat} {v : Value} {xs : List Value} (h : Bytes w D A c bs) (ho : w.ownsRow base e size v n xs) (he : 5 ≠ e)
    (hg : w.grownBy w' v.ownBlock) : Bytes w' D A c bs := by
  rcases ho.2 with ⟨rfl, _⟩ | ⟨g, cap, cur, rfl, _, hh, _⟩
  · exact h.keep0 (Kept.of_grown hg [] (fun k hk => by cases hk))
  · exact h.other (Kept.of_grown hg [g] (fun k hk => by injection hk with hk; subst hk; simp)) hh he

theorem image_New (n : Nat) (w : World) (h1 : 1 ≤ n) (h2 : n ≤ 216) :
    Calls Tryz.prog 25 #[.int .i64 n] w fun e w' => ∃ ib pb ab, e = .returned (.tuple #[.pointer (some ⟨ib, 0, none⟩), .int .i64 0]) ∧
      Img w' ib pb ab (List.replicate n (List.replicate 256 0)) ∧ Kept [] w w' := by
  obtain ⟨i0, hi, hz0, hz1, hz2⟩ := info_parts bytes_info
  have hmk := fun W => run_make_bytes 256 256 rfl (by omega) W
  go_enter Tryz.func25, Tryz.ntmps25
  go_wp2_with fail
  go_loopw [14] (fun a wr => NewRel w w.heap.size n a wr) (fun a _ => n - (intOf a).toNat)
  case atStart => exact ⟨0, .slice none 0 0, [], rfl, by omega, Blk.new _ _ _, World.ownsRow_nil _ _ _ _, fun i hi => by omega, (Kept.refl _ _).alloc _⟩
  case round =>
    obtain ⟨k, v, vs, rfl, hk, hpb, ho, hvs, hkp⟩ := hrel
    have HPB := Lib.hid hpb
    have HO := Lib.hid ho
    have HVS := Lib.hid hvs
    have HK := Lib.hid hkp
    obtain ⟨A0, c0, rfl⟩ := own_form ho
    by_cases hlt : k < n
    · have hc0 : wr.drew.cell? ⟨w.heap.size, 0, none⟩ = some (.slice A0 k c0) := by rw [hpb.drew.cell]; rfl
      have hc3 : ∀ o, (wr.alloc o).drew.cell? ⟨w.heap.size, 0, none⟩ = some (.slice A0 k c0) := fun o => by rw [(hpb.alloc o).drew.cell]; rfl
      have hc4 : ∀ o o', ((wr.alloc o).alloc o').drew.cell? ⟨w.heap.size, 0, none⟩ = some (.slice A0 k c0) := fun o o' => by rw [((hpb.alloc o).alloc o').drew.cell]; rfl
      have hc1 : ∀ o, (wr.drew.alloc o).cell? ⟨w.heap.size, 0, none⟩ = some (.slice A0 k c0) := fun o => by rw [(hpb.drew.alloc o).cell]; rfl
      have hc2 : ∀ o o', ((wr.drew.alloc o).alloc o').cell? ⟨w.heap.size, 0, none⟩ = some (.slice A0 k c0) := fun o o' => by rw [((hpb.drew.alloc o).alloc o').cell]; rfl
      clear hpb ho hvs hkp
      obtain ⟨W2, hW2⟩ : ∃ W2, W2 = ((wr.alloc (.cells (zeros 256) 5)).alloc (.cells #[.slice (some ⟨wr.heap.size, 0, none⟩) 256 256] 56)).drew := ⟨_, rfl⟩
      have hoA : W2.ownsRow w.heap.size 56 1 (.slice A0 k c0) k vs := by rw [hW2]; exact ((HO.out.alloc _).alloc _).drew
      have hsA : Sl W2 [] 56 1 (some ⟨wr.heap.size + 1, 0, none⟩) 1 1 [.slice (some ⟨wr.heap.size, 0, none⟩) 256 256] := by
        rw [hW2]
        exact (Sl.new (w := wr.alloc (.cells (zeros 256) 5)) (xs := [.slice (some ⟨wr.heap.size, 0, none⟩) 256 256]) (by simp) (by simp) rfl (by omega)).keep0 (Kept.refl [] _).drew
      have hpA : Blk W2 w.heap.size 109 #[.slice A0 k c0] := by rw [hW2]; exact ((HPB.out.alloc _).alloc _).drew
      have hkA : Kept [] wr W2 := by rw [hW2]; exact (((Kept.refl [] wr).alloc _).alloc _).drew
      have hbA : Bytes W2 [] (some ⟨wr.heap.size, 0, none⟩) 256 (List.replicate 256 0) := by
        have h3 : Blk W2 wr.heap.size 5 ((List.replicate 256 (0 : UInt8)).map b8).toArray := by
          rw [hW2, ← replicate_b8]
          exact ((Blk.new wr 5 (zeros 256)).alloc _).drew
        have h4 := Bytes.of_blk (D := []) (bs := List.replicate 256 0) h3 (by simp) (by simp)
        simpa using h4
      have hszA : w.heap.size ≤ W2.heap.size := Nat.le_trans HK.out.size hkA.size
      have HOA := Lib.hid hoA
      have HSA := Lib.hid hsA
      have HPA := Lib.hid hpA
      have HKA := Lib.hid hkA
      have HBA := Lib.hid hbA
      have HW2 := Lib.hid hW2
      clear hoA hsA hpA hkA hbA hW2
      go_wp2_with fail
      go_region_law (refine step_append_any _ rfl (.tmp 20) (.tmp 22) _ rfl w.heap.size 56 i0 _ 1 24 Tryz.underlying86 hi hz0 hz1 hz2 rfl (by omega) (.slice A0 k c0) k vs (by simp [Act.eval, Act.put]) (HW2.out ▸ HOA.out) [] 56 (some ⟨wr.heap.size + 1, 0, none⟩) 1 1 [.slice (some ⟨wr.heap.size, 0, none⟩) 256 256] (by simp [Act.eval, Act.put]) (HW2.out ▸ HSA.out) (by simp [Value.oneCell']) (by simp only [maxLen]; omega) (by omega) (HW2.out ▸ hszA) ?_; intro v5 w5 ho5 hg5 _; obtain ⟨A5, c5, rfl⟩ := own_form ho5; rw [← HW2.out] at hg5; have hb5 := HPA.out.grown hg5 (own_ne HOA.out HPA.out (by decide)); (have hc5 : w5.cell? ⟨w.heap.size, 0, none⟩ = some (.slice A0 k c0) := by rw [hb5.cell]; rfl); (have hf5 : w5.frozen? ⟨w.heap.size, 0, none⟩ = false := hb5.frozen 0); have HB5 := Lib.hid hb5; have HO5 := Lib.hid ho5; have HG5 := Lib.hid hg5; clear hb5 ho5 hg5)
      all_goals
        have hkk5 : Kept [] w w5 := (HK.out.trans HKA.out).grown HG5.out (fun j hj => .inl (HOA.out.lt j hj).1)
        have hb6 := HB5.out.set_ 0 (.slice A5 (k + 1) c5)
        have ho6 := ownsRow_far HO5.out HB5.out (by decide) 0 (.slice A5 (k + 1) c5)
        have hk6 : Kept [] w (w5.setCell ⟨w.heap.size, 0, none⟩ (.slice A5 (k + 1) c5)) := hkk5.setCell (.inl (Nat.le_refl _)) _
        have hks : Kept [w.heap.size] w5 (w5.setCell ⟨w.heap.size, 0, none⟩ (.slice A5 (k + 1) c5)) := (Kept.refl _ _).setCell (.inr (by simp)) _
        have hvs6 : ∀ i, i < k + 1 → ∃ A c, (vs ++ [.slice (some ⟨wr.heap.size, 0, none⟩) 256 256])[i]? = some (.slice A 256 c) ∧ Bytes (w5.setCell ⟨w.heap.size, 0, none⟩ (.slice A5 (k + 1) c5)) [] A c (List.replicate 256 0) := by
          intro i hi
          have hvl : vs.length = k := by simpa using HO.out.1
          rcases Nat.lt_or_eq_of_le (Nat.le_of_lt_succ hi) with h3 | h3
          · obtain ⟨A, c, h4, h5⟩ := HVS.out i h3
            exact ⟨A, c, by rw [List.getElem?_append_left (by omega)]; exact h4, ((h5.keep0 HKA.out).grown HOA.out (by decide) HG5.out).other hks HB5.out (by decide)⟩
          · subst h3
            exact ⟨_, _, by rw [List.getElem?_append_right (by omega), hvl]; simp, (HBA.out.grown HOA.out (by decide) HG5.out).other hks HB5.out (by decide)⟩
        have HB6 := Lib.hid hb6
        have HO6 := Lib.hid ho6
        have HK6 := Lib.hid hk6
        have HV6 := Lib.hid hvs6
        clear hkk5 hb6 ho6 hk6 hvs6 hks
        go_wp2_with fail
        go_roundw
        case rel => exact ⟨k + 1, _, _, by go_num, by omega, HB6.out, HO6.out, HV6.out, HK6.out⟩
        case measure => simp [intOf]; omega
    · obtain rfl : k = n := by omega
      clear hpb ho hvs hkp
      go_wp2_with fail
      go_ret2
      rcases HO.out.2 with ⟨_, h0⟩ | ⟨g, cap, cur, hv, hg, hh, hnc, hcm, hcs, htake⟩
      · omega
      injection hv with hv1 hv2 hv3
      subst hv1; subst hv3
      refine ⟨wr.heap.size, w.heap.size, g, rfl, ⟨Blk.new _ _ _, ⟨c0, cur, ?_, ?_, ?_, ?_, ?_, fun i hi => ?_⟩, ?_, ?_⟩, (HK.out.alloc _)⟩
      · rw [List.length_replicate]; exact HPB.out.alloc _
      · exact Blk.alloc hh _
      · rw [List.length_replicate]; omega
      · rw [List.length_replicate]; exact hnc
      · simpa [maxLen] using hcm
      · rw [List.length_replicate] at hi
        obtain ⟨A, c, h4, h5⟩ := HVS.out i hi
        rw [Nat.mul_one] at htake
        refine ⟨A, c, ?_, ?_⟩
        · rw [← htake, List.getElem?_take_of_lt hi, Array.getElem?_toList] at h4
          exact h4
        · rw [List.getElem_replicate]
          exact h5.keep0 ((Kept.refl _ _).alloc _)
      · intro p hp
        rw [(List.mem_replicate.1 hp).2]
        simp
      · rw [List.length_replicate]; exact h2
end Go.Proofs.YtcbdjmlkjifamaaGreatDoor

/- The document's files (package carlingref27): put, Make, Format, as far as that they return, and which inodes are Free. Conditions: as the theorems say. -/
namespace Go.Proofs.YtcbdjmlkjifamaaGreatDoor
open Go.RowKit
set_option maxRecDepth 100000

section part
variable {P : Program} {w : World} {ops : Array Oper} {rest : List Oper} {o : Oper} {a : Act} {Q : Exit → Act → World → Prop}
theorem run_storeVar_part (w : World) (g off : Nat) (t ty : TypeId) (old cells : Array Value) (hg : w.heap[g]? = some (.cells old t (0, 0))) (hi : (P.info? ty).map (·.size) = some cells.size) (hs : off + cells.size ≤ old.size) (h1 : cells.all (·.oneCell') = true) :
    (storeVar ty ⟨g, off, none⟩ (.agg cells)).run P w = .ok () (w.setRow g (old.toList.take off ++ cells.toList ++ old.toList.drop (off + cells.size)).toArray) := by
  have hst := run_storeCells_at P g off t cells.toList 0 old w hg (by simpa using hs) (fun v hv => by
    rw [Array.all_eq_true_iff_forall_mem] at h1
    exact h1 v (by simpa using hv))
  cases hq : P.info? ty with
  | none => simp [hq] at hi
  | some i =>
    have hs : cells.size = i.size := by simp [hq] at hi; omega
    simp only [Nat.add_zero, Array.length_toList] at hst
    simp [storeVar, sizeOf, typeInfo, hq, Value.cells, hs] at hst ⊢
    rw [hst]
theorem wpList_store_part (hgd : o.guard = none) (ty : TypeId) (x y : Operand) (ho : o.op = .store ty x y) (g off : Nat) (hx : a.eval x = .pointer (some ⟨g, off, none⟩)) (cells : Array Value) (hy : a.eval y = .agg cells)
    (t : TypeId) (old : Array Value) (hg : w.heap[g]? = some (.cells old t (0, 0))) (hi : (P.info? ty).map (·.size) = some cells.size) (hs : off + cells.size ≤ old.size) (h1 : cells.all (·.oneCell') = true)
    (h : wpList P ops Q rest (a.put o.dst undef) (w.setRow g (old.toList.take off ++ cells.toList ++ old.toList.drop (off + cells.size)).toArray)) : wpList P ops Q (o :: rest) a w :=
  wpList_plain hgd fun _ hK => by
    unfold Oper.wp execOp
    simp only [ho, hx, hy, Instr.storeAt, Instr.sureAddr, Sem.run_bind, Sem.run_pure, Result.andThen_ok, run_storeVar_part w g off t ty old cells hg hi hs h1]
    exact hK _ _ h
end part

/-- The inodes' cells in the document's system, and their kinds. -/
structure RefL (xs : List Value) (ks : List Nat) : Prop where
  len : xs.length = ks.length * 38
  at_ : ∀ i (h : i < ks.length), xs[i * 38]? = some (.int .i64 ks[i])
  one : ∀ u ∈ xs, u.oneCell' = true
/-- One inode's value. -/
structure RefN (cs : Array Value) (k : Nat) : Prop where
  size : cs.size = 38
  at0 : cs[0]? = some (.int .i64 k)
  one : cs.all (·.oneCell') = true
theorem RefL.set_ {xs : List Value} {ks : List Nat} (h : RefL xs ks) {n k : Nat} {cs : Array Value} (hn : n < ks.length) (hc : RefN cs k) : RefL (xs.take (n * 38) ++ cs.toList ++ xs.drop (n * 38 + 38)) (ks.set n k) := by
  have hl := h.len
  have hcl : cs.toList.length = 38 := by rw [Array.length_toList]; exact hc.size
  have htl : (xs.take (n * 38)).length = n * 38 := by rw [List.length_take]; omega
  refine ⟨?_, fun i hi => ?_, fun u hu => ?_⟩
  · simp only [List.length_append, htl, hcl, List.length_drop, List.length_set]
    omega
  · rw [List.length_set] at hi
    rcases Nat.lt_trichotomy i n with hlt | rfl | hlt
    · rw [List.append_assoc, List.getElem?_append_left (by omega), List.getElem?_take_of_lt (by omega), List.getElem_set_ne (by omega)]
      exact h.at_ i hi
    · rw [List.append_assoc, List.getElem?_append_right (by omega), htl, Nat.sub_self, List.getElem?_append_left (by omega), List.getElem_set_self, Array.getElem?_toList]
      exact hc.at0
    · rw [List.getElem?_append_right (by rw [List.length_append, htl, hcl]; omega), List.length_append, htl, hcl, List.getElem?_drop, List.getElem_set_ne (by omega), show n * 38 + 38 + (i * 38 - (n * 38 + 38)) = i * 38 from by omega]
      exact h.at_ i hi
  · rcases List.mem_append.1 hu with hu | hu
    · rcases List.mem_append.1 hu with hu | hu
      · exact h.one u (List.mem_of_mem_take hu)
      · have := hc.one
        rw [Array.all_eq_true_iff_forall_mem] at this
        exact this u (by simpa using hu)
    · exact h.one u (List.mem_of_mem_drop hu)
/-- The document's system in memory. -/
def Ref (w : World) (rb : Nat) (ks : List Nat) : Prop :=
  ∃ (np own : Int) (A : Option Addr) (c : Nat) (xs : List Value), Blk w rb 44 #[.int .i64 np, .int .i64 own, .slice A ks.length c] ∧ Sl w [] 118 38 A ks.length c xs ∧ RefL xs ks
theorem Ref.keep0 {w w' : World} {rb : Nat} {ks : List Nat} (h : Ref w rb ks) (k : Kept [] w w') : Ref w' rb ks := by
  obtain ⟨np, own, A, c, xs, h1, h2, h3⟩ := h
  exact ⟨np, own, A, c, xs, h1.keep0 k, h2.keep0 k, h3⟩
theorem node_info : (Tryz.prog.info? 118).map (fun i => (i.zero, i.size, i.bytes)) = some (some (.agg (#[.int .i64 0, .int .i64 0, .int .i64 0, .int .i64 0, .slice none 0 0] ++ (List.replicate 32 (Value.bool false)).toArray ++ #[.slice none 0 0])), 38, 112) := by kernel_rfl
theorem node_size : (Tryz.prog.info? 118).map (·.size) = some 38 := by kernel_rfl

set_option maxHeartbeats 2000000 in
theorem ref_put (w : World) (rb n k : Nat) (ks : List Nat) (cs : Array Value) (h : Ref w rb ks) (hn : n < ks.length) (hs : ks.length ≤ 100000) (hc : RefN cs k) :
    Calls Tryz.prog 66 #[.pointer (some ⟨rb, 0, none⟩), .int .i64 n, .agg cs] w fun e w' => e = .returned (.tuple #[]) ∧ Ref w' rb (ks.set n k) ∧ Kept [rb] w w' := by
  obtain ⟨i0, hi, hz0, hz1, hz2⟩ := info_parts node_info
  obtain ⟨np, own, A, c, xs, h1, h2, h3⟩ := h
  have hk0 : Kept [] w (w.alloc (.cells cs 118)) := (Kept.refl _ _).alloc _
  have hb0 : Blk (w.alloc (.cells cs 118)) w.heap.size 118 cs := Blk.new _ _ _
  have hr0 := h1.keep0 hk0
  have c0 : (w.alloc (.cells cs 118)).cell? ⟨rb, 2, none⟩ = some (.slice A ks.length c) := by rw [hr0.cell]; rfl
  have hrb := h1.lt
  have H2 := Lib.hid (h2.keep0 hk0)
  have HR0 := Lib.hid hr0
  have HB0 := Lib.hid hb0
  have HK0 := Lib.hid hk0
  have HL := Lib.hid h3
  have HC := Lib.hid hc
  clear h1 h2 h3 hk0 hb0 hr0 hc
  go_enter Tryz.func66, Tryz.ntmps66
  go_wp2_with (at_builtin; refine Stop.here ?_)
  refine Stop.go ?_
  refine wpList_append_sl (W0 := w) rfl (.const (.slice none 0 0)) (.tmp 10) _ rfl w.heap.size 118 i0 _ 38 112 Tryz.underlying42 hi hz0 hz1 hz2 rfl (by omega) (.slice none 0 0) 0 [] rfl (World.ownsRow_nil _ _ _ _) [] _ _ _ _ _ rfl H2.out HL.out.one (by simp only [maxLen]; omega) (by omega) HK0.out.size HK0.out (Nat.le_refl _) ?_
  intro v2 w2 ho2 hg2 hk2 _
  rw [Nat.zero_add, List.nil_append] at ho2
  have hk12 : Kept [] (w.alloc (.cells cs 118)) w2 := Kept.of_grown hg2 [] (fun k hk => by cases hk)
  obtain ⟨g, cap, rfl, hgb, hgl⟩ := ho2.form (by omega)
  obtain ⟨cur, hcur, hnc, hcm, hcz, htk⟩ : ∃ cur : Array Value, w2.heap[g]? = some (.cells cur 118 (0, 0)) ∧ ks.length ≤ cap ∧ cap ≤ maxLen ∧ cur.size = cap * 38 ∧ cur.toList.take (ks.length * 38) = xs := by
    rcases ho2.2 with ⟨h0, _⟩ | ⟨g', cap', cur, hv, _, a2, a3, a4, a5, a6⟩
    · cases h0
    · injection hv with b1 _ b3
      injection b1 with b1
      injection b1 with b1
      subst b1; subst b3
      exact ⟨cur, a2, a3, a4, a5, a6⟩
  have hb2 := HB0.out.keep0 hk12
  have hr2 := HR0.out.keep0 hk12
  have hni : (n : Int) < ks.length := by omega
  have HB2 := Lib.hid hb2
  have HR2 := Lib.hid hr2
  have HK2 := Lib.hid hk2
  have HCUR := Lib.hid hcur
  have HCZ := Lib.hid hcz
  have HTK := Lib.hid htk
  clear hb2 hr2 hk2 hcur hcz htk ho2 hg2 hk12 c0
  go_wp2_with (with_reducible refine stop_load (t := 118) ?_)
  refine Stop.go ?_
  refine wpList_load_row rfl 118 _ rfl w.heap.size rfl 118 cs (0, 0) _ HB2.out Tryz.underlying118 rfl (by rw [HC.out.size]; exact node_size) ?_
  go_wp2_with (with_reducible refine stop_store (t := 118) ?_)
  refine Stop.go ?_
  refine wpList_store_part rfl 118 (.tmp 15) (.tmp 14) rfl g (n * 38) rfl cs rfl 118 cur HCUR.out (by rw [HC.out.size]; exact node_size) (by rw [HC.out.size, HCZ.out]; omega) HC.out.one ?_
  obtain ⟨C2, hC2⟩ : ∃ C2, C2 = cur.toList.take (n * 38) ++ cs.toList ++ cur.toList.drop (n * 38 + cs.size) := ⟨_, rfl⟩
  obtain ⟨W3, hW3⟩ : ∃ W3, W3 = w2.setRow g C2.toArray := ⟨_, rfl⟩
  rw [← hC2, ← hW3]
  have hk3 : Kept [] w W3 := by rw [hW3]; exact HK2.out.setRow g _ (.inl hgb)
  have hneg : rb ≠ g := by omega
  have hr3 : Blk W3 rb 44 #[.int .i64 np, .int .i64 own, .slice A ks.length c] := by rw [hW3]; exact HR2.out.row_far _ hneg
  have hcl : cs.toList.length = 38 := by rw [Array.length_toList]; exact HC.out.size
  have hcul : cur.toList.length = cap * 38 := by rw [Array.length_toList]; exact HCZ.out
  have hxl := HL.out.len
  have hC2t : C2.take (ks.length * 38) = xs.take (n * 38) ++ cs.toList ++ xs.drop (n * 38 + 38) := by
    have e1 : cur.toList.take (n * 38) = xs.take (n * 38) := by
      rw [← HTK.out, List.take_take, Nat.min_eq_left (by omega)]
    have e2 : xs.drop (n * 38 + 38) = (cur.toList.drop (n * 38 + 38)).take (ks.length * 38 - (n * 38 + 38)) := by
      rw [← HTK.out, List.drop_take]
    rw [hC2, HC.out.size, e1, e2]
    have hll : (xs.take (n * 38) ++ cs.toList).length = n * 38 + 38 := by rw [List.length_append, List.length_take, hcl]; omega
    rw [List.take_append, hll, List.take_of_length_le (by omega)]
  have hnew := HL.out.set_ hn HC.out
  have hsl3 : Sl W3 [] 118 38 (some ⟨g, 0, none⟩) ks.length cap (xs.take (n * 38) ++ cs.toList ++ xs.drop (n * 38 + 38)) := by
    have hh : W3.heap[g]? = some (.cells C2.toArray 118 (0, 0)) := by rw [hW3]; exact setRow_heap _ _ _ _ _ _ HCUR.out
    refine ⟨by have := hnew.len; rw [List.length_set] at this; exact this, by omega, hnc, by simpa [maxLen] using hcm, fun _ => ⟨_, rfl, by simp, ⟨_, _, hh⟩, fun j u hu => ?_⟩⟩
    rw [add_lit0, cell_of_row _ g j _ _ _ hh, List.getElem?_toArray]
    rw [← hC2t] at hu
    have hj : j < ks.length * 38 := by
      have := (List.getElem?_eq_some_iff.1 hu).1
      rw [List.length_take] at this
      omega
    rw [List.getElem?_take_of_lt hj] at hu
    exact hu
  have f2 : W3.cell? ⟨rb, 2, none⟩ = some (.slice A ks.length c) := by rw [hr3.cell]; rfl
  have f3 := hr3.frozen 2
  have hs4 := hr3.set_ 2 (.slice (some ⟨g, 0, none⟩) ks.length cap)
  have hk4 : Kept [rb] W3 (W3.setCell ⟨rb, 2, none⟩ (.slice (some ⟨g, 0, none⟩) ks.length cap)) := (Kept.refl _ _).setCell (.inr (by simp)) _
  have hsl4 := hsl3.other hk4 hr3 (by decide)
  have hfin : Ref (W3.setCell ⟨rb, 2, none⟩ (.slice (some ⟨g, 0, none⟩) ks.length cap)) rb (ks.set n k) := ⟨np, own, some ⟨g, 0, none⟩, cap, _, by rw [List.length_set]; exact hs4, by rw [List.length_set]; exact hsl4, hnew⟩
  have HF := Lib.hid hfin
  have HKF := Lib.hid (hk3.any.trans hk4)
  clear hfin hsl4 hk4 hs4 hsl3 hnew hC2t hW3 hC2 hk3 hr3 hcl hcul hxl
  go_wp2_with fail
  go_end0
  exact ⟨rfl, HF.out, HKF.out⟩

def NodRel (w : World) (n : Nat) (a : Value) (wr : World) : Prop := w = wr ∧ ∃ k : Nat, k ≤ n ∧ a = .int .i64 k
set_option maxHeartbeats 2000000 in
theorem ref_Make (w : World) (rb n kind mode time : Nat) (ks : List Nat) (h : Ref w rb ks) (hn : n < ks.length) (hs : ks.length ≤ 100000) (hz : ks[n] = 0) (hnz : ∀ j (hj : j < ks.length), j < n → ks[j] ≠ 0) (h1 : 1 ≤ kind) (h2 : kind ≤ 3) (h3 : mode ≤ 7) (h4 : time ≤ 9223372036854775807) :
    Calls Tryz.prog 30 #[.pointer (some ⟨rb, 0, none⟩), .int .i64 kind, .int .i64 mode, .int .i64 time] w fun e w' => e = .returned (.tuple #[.int .i64 n, .int .i64 0]) ∧ Ref w' rb (ks.set n kind) ∧ Kept [rb] w w' := by
  have cP := fun cs (hc : RefN cs kind) => ref_put w rb n kind ks cs h hn hs hc
  obtain ⟨np, own, A, c, xs, a1, a2, a3⟩ := h
  have c0 : w.cell? ⟨rb, 2, none⟩ = some (.slice A ks.length c) := by rw [a1.cell]; rfl
  have HP := Lib.hid cP
  have HS := Lib.hid a2
  have HL := Lib.hid a3
  have HNZ := Lib.hid hnz
  have HZ := Lib.hid hz
  have hnl : (n : Int) < ks.length := by omega
  clear cP a1 a2 a3 hnz hz
  go_enter Tryz.func30, Tryz.ntmps30
  go_wp2_with fail
  go_loopw [10] (fun a wr => NodRel w n a wr) (fun a _ => n + 1 - (intOf a).toNat)
  case atStart => exact ⟨rfl, 0, Nat.zero_le _, rfl⟩
  case round =>
    obtain ⟨rfl, k, hk, rfl⟩ := hrel
    have hkl : k < ks.length := by omega
    have hki : (k : Int) < ks.length := by omega
    obtain ⟨ad, hA, _, _, hcell⟩ := HS.out.at_ (by omega)
    have hck := hcell _ _ (HL.out.at_ k hkl)
    subst hA
    by_cases hlt : k < n
    · have hne := HNZ.out k hkl hlt
      obtain ⟨q, hq⟩ : ∃ q, q = ks[k] := ⟨_, rfl⟩
      rw [← hq] at hck hne
      have hqz : ((q : Int) == 0) = false := by rw [beq_eq_false_iff_ne]; omega
      clear hcell hq hne
      go_wp2_with fail
      go_roundw
      case rel => exact ⟨rfl, k + 1, by omega, by go_num⟩
      case measure => simp [intOf]; omega
    · obtain rfl : k = n := by omega
      rw [HZ.out] at hck
      clear hcell
      go_wp2_with (go_at_call 66; refine Stop.here ?_)
      refine Stop.go ?_
      refine (HP.out _ ⟨rfl, rfl, by simp [Value.oneCell']⟩).mono ?_
      rintro e w2 ⟨rfl, hr2, hk2⟩
      have HR2 := Lib.hid hr2
      have HK2 := Lib.hid hk2
      clear hr2 hk2
      go_wp2_with fail
      go_ret2
      exact ⟨rfl, HR2.out, HK2.out⟩

theorem madeCells_at (z : Array Value) (n j : Nat) (hj : j < n) (hz : 0 < z.size) : (madeCells z n)[j]? = z[j % z.size]? := by
  have hm : j % z.size < z.size := Nat.mod_lt _ hz
  unfold madeCells
  rw [Array.getElem?_map, Array.getElem?_range, if_pos hj]
  simp [getElem!_pos, hm]
set_option maxHeartbeats 2000000 in
theorem ref_Format (w : World) (np table t : Nat) (h1 : 1 ≤ table) (h2 : table ≤ 16) (h3 : table + 2 ≤ np) (h4 : np ≤ 1000) (ht : t ≤ 9223372036854775807) :
    Calls Tryz.prog 26 #[.int .i64 np, .int .i64 table, .int .i64 t] w fun e w' => ∃ A c xs, e = .returned (.tuple #[.agg #[.int .i64 np, .int .i64 (table + 1 : Nat), .slice A (4 * table) c], .int .i64 0]) ∧
      Sl w' [] 118 38 A (4 * table) c xs ∧ RefL xs (2 :: List.replicate (4 * table - 1) 0) ∧ Kept [] w w' := by
  obtain ⟨i0, hi, hz0, hz1, hz2⟩ := info_parts node_info
  obtain ⟨z, hz⟩ : ∃ z : Array Value, z = (#[.int .i64 0, .int .i64 0, .int .i64 0, .int .i64 0, .slice none 0 0] ++ (List.replicate 32 (Value.bool false)).toArray ++ #[.slice none 0 0]) := ⟨_, rfl⟩
  rw [← hz] at hz0
  have hzs : z.size = 38 := by rw [hz]; rfl
  have hz00 : z[0]? = some (.int .i64 0) := by rw [hz]; rfl
  have hz1c : z.all (·.oneCell') = true := by rw [hz]; simp [Value.oneCell', List.replicate]
  have hmk : ∀ W, (Instr.makeSlice 42 (.int .i64 (4 * (table : Int))) (.int .i64 (4 * (table : Int)))).run Tryz.prog W = .ok (.slice (some ⟨W.heap.size, 0, none⟩) (4 * table) (4 * table)) (W.alloc (.cells (madeCells z (4 * table * 38)) 118)) := fun W => by
    have hr := run_make (P := Tryz.prog) W 42 118 i0 _ Tryz.underlying42 hi hz0 .i64 .i64 (4 * (table : Int)) (4 * (table : Int)) (by omega) (by omega) (by rw [hz2]; omega) (by omega)
    rw [show (4 * (table : Int)).toNat = 4 * table from by omega, hz1] at hr
    exact hr
  have HMK := Lib.hid hmk
  have HZ := Lib.hid hz
  have HZ0 := Lib.hid hz00
  have HZ1 := Lib.hid hz1c
  have HZS := Lib.hid hzs
  have hmk1 := hmk ((w.alloc (.cells #[.int .i64 0, .int .i64 0, .slice none 0 0] 44)))
  clear hz hz00 hz1c hzs hz0 hmk
  go_enter Tryz.func26, Tryz.ntmps26
  go_wp2_with (with_reducible refine stop_store (t := 118) ?_)
  refine Stop.go ?_
  obtain ⟨W1, hW1⟩ : ∃ W1, W1 = ((w.alloc (.cells #[.int .i64 0, .int .i64 0, .slice none 0 0] 44)).alloc (.cells (madeCells z (4 * table * 38)) 118)).alloc
      (.cells #[.int .i64 np, .int .i64 ((table : Int) + 1), .slice (some ⟨w.heap.size + 1, 0, none⟩) (4 * table) (4 * table)] 44) := ⟨_, rfl⟩
  rw [← hW1]
  have hk1 : Kept [] w W1 := by rw [hW1]; exact (((Kept.refl _ _).alloc _).alloc _).alloc _
  have hb0 : Blk W1 w.heap.size 44 #[.int .i64 0, .int .i64 0, .slice none 0 0] := by rw [hW1]; exact ((Blk.new _ _ _).alloc _).alloc _
  have hbg : Blk W1 (w.heap.size + 1) 118 (madeCells z (4 * table * 38)) := by
    rw [hW1]
    have := Blk.new (w.alloc (.cells #[.int .i64 0, .int .i64 0, .slice none 0 0] 44)) 118 (madeCells z (4 * table * 38))
    have h2 : Blk ((w.alloc (.cells #[.int .i64 0, .int .i64 0, .slice none 0 0] 44)).alloc (.cells (madeCells z (4 * table * 38)) 118)) (w.heap.size + 1) 118 (madeCells z (4 * table * 38)) := by simpa using this
    exact h2.alloc _
  have hb1 : Blk W1 (w.heap.size + 1 + 1) 44 #[.int .i64 np, .int .i64 ((table : Int) + 1), .slice (some ⟨w.heap.size + 1, 0, none⟩) (4 * table) (4 * table)] := by
    rw [hW1]
    have := Blk.new ((w.alloc (.cells #[.int .i64 0, .int .i64 0, .slice none 0 0] 44)).alloc (.cells (madeCells z (4 * table * 38)) 118)) 44 #[.int .i64 np, .int .i64 ((table : Int) + 1), .slice (some ⟨w.heap.size + 1, 0, none⟩) (4 * table) (4 * table)]
    simpa using this
  clear hW1 hmk1
  have hms : (madeCells z (4 * table * 38)).size = 4 * table * 38 := size_madeCells _ _
  refine wpList_store_part rfl 118 (.tmp 37) (.tmp 36) rfl (w.heap.size + 1) 0 rfl _ rfl 118 (madeCells z (4 * table * 38)) hbg node_size (by rw [hms]; simp; omega) (by simp [Value.oneCell']) ?_
  obtain ⟨C2, hC2⟩ : ∃ C2, C2 = (madeCells z (4 * table * 38)).toList.take 0 ++ (#[.int .i64 2, .int .i64 7, .int .i64 1, .int .i64 t, .slice none 0 0, .bool false, .bool false, .bool false, .bool false, .bool false, .bool false, .bool false, .bool false, .bool false, .bool false, .bool false, .bool false, .bool false, .bool false, .bool false, .bool false, .bool false, .bool false, .bool false, .bool false, .bool false, .bool false, .bool false, .bool false, .bool false, .bool false, .bool false, .bool false, .bool false, .bool false, .bool false, .bool false, .slice none 0 0] : Array Value).toList ++ (madeCells z (4 * table * 38)).toList.drop (0 + 38) := ⟨_, rfl⟩
  obtain ⟨W2, hW2⟩ : ∃ W2, W2 = W1.setRow (w.heap.size + 1) C2.toArray := ⟨_, rfl⟩
  show wpList _ _ _ _ _ (W1.setRow (w.heap.size + 1) ((madeCells z (4 * table * 38)).toList.take 0 ++ (#[.int .i64 2, .int .i64 7, .int .i64 1, .int .i64 t, .slice none 0 0, .bool false, .bool false, .bool false, .bool false, .bool false, .bool false, .bool false, .bool false, .bool false, .bool false, .bool false, .bool false, .bool false, .bool false, .bool false, .bool false, .bool false, .bool false, .bool false, .bool false, .bool false, .bool false, .bool false, .bool false, .bool false, .bool false, .bool false, .bool false, .bool false, .bool false, .bool false, .bool false, .slice none 0 0] : Array Value).toList ++ (madeCells z (4 * table * 38)).toList.drop (0 + 38)).toArray)
  rw [← hC2, ← hW2]
  have hk2 : Kept [] w W2 := by rw [hW2]; exact hk1.setRow _ _ (.inl (by omega))
  have hb0' : Blk W2 w.heap.size 44 #[.int .i64 0, .int .i64 0, .slice none 0 0] := by rw [hW2]; exact hb0.row_far _ (by omega)
  have hb1' : Blk W2 (w.heap.size + 1 + 1) 44 #[.int .i64 np, .int .i64 ((table : Int) + 1), .slice (some ⟨w.heap.size + 1, 0, none⟩) (4 * table) (4 * table)] := by rw [hW2]; exact hb1.row_far _ (by omega)
  have hh : W2.heap[w.heap.size + 1]? = some (.cells C2.toArray 118 (0, 0)) := by rw [hW2]; exact setRow_heap _ _ _ _ _ _ hbg
  have hml : (madeCells z (4 * table * 38)).toList.length = 4 * table * 38 := by rw [Array.length_toList]; exact hms
  have hC2l : C2.length = 4 * table * 38 := by
    rw [hC2]
    simp only [List.take_zero, List.nil_append, List.length_append, List.length_drop, hml]
    simp
    omega
  have hC2r : ∀ j, 38 ≤ j → j < 4 * table * 38 → C2[j]? = z[j % 38]? := fun j h1 h2 => by
    rw [hC2, List.take_zero, List.nil_append, List.getElem?_append_right (by simp; omega), List.getElem?_drop]
    have hm := madeCells_at z (4 * table * 38) j h2 (by rw [HZS.out]; omega)
    rw [HZS.out, ← Array.getElem?_toList] at hm
    rw [← hm]
    congr 1
    simp
    omega
  have hrl : RefL C2 (2 :: List.replicate (4 * table - 1) 0) := by
    refine ⟨by rw [hC2l]; simp; omega, fun i hi => ?_, fun u hu => ?_⟩
    · simp only [List.length_cons, List.length_replicate] at hi
      rcases i with _ | i
      · rw [hC2]; rfl
      · rw [hC2r _ (by omega) (by omega), show (i + 1) * 38 % 38 = 0 from Nat.mul_mod_left _ _, HZ0.out]
        simp
    · obtain ⟨j, hj, rfl⟩ := List.getElem_of_mem hu
      by_cases c : j < 38
      · have : C2[j] ∈ (#[.int .i64 2, .int .i64 7, .int .i64 1, .int .i64 t, .slice none 0 0, .bool false, .bool false, .bool false, .bool false, .bool false, .bool false, .bool false, .bool false, .bool false, .bool false, .bool false, .bool false, .bool false, .bool false, .bool false, .bool false, .bool false, .bool false, .bool false, .bool false, .bool false, .bool false, .bool false, .bool false, .bool false, .bool false, .bool false, .bool false, .bool false, .bool false, .bool false, .bool false, .slice none 0 0] : Array Value).toList := by
          simp only [hC2, List.take_zero, List.nil_append]
          rw [List.getElem_append_left (by simpa using c)]
          exact List.getElem_mem _
        simp at this
        rcases this with h | h | h | h | h | h | h <;> rw [h] <;> rfl
      · have h2 := hC2r j (by omega) (by omega)
        rw [List.getElem?_eq_getElem hj] at h2
        have h3 := HZ1.out
        rw [Array.all_eq_true_iff_forall_mem] at h3
        exact h3 _ (Array.mem_of_getElem? h2.symm)
  have hsl : Sl W2 [] 118 38 (some ⟨w.heap.size + 1, 0, none⟩) (4 * table) (4 * table) C2 := ⟨hC2l, by omega, Nat.le_refl _, by omega, fun _ => ⟨_, rfl, by simp, ⟨_, _, hh⟩, fun j u hu => by
    rw [add_lit0, cell_of_row _ _ j _ _ _ hh, List.getElem?_toArray]
    exact hu⟩⟩
  have c10 : W2.cell? ⟨w.heap.size + 1 + 1, 0, none⟩ = some (.int .i64 np) := by rw [hb1'.cell]; rfl
  have c11 : W2.cell? ⟨w.heap.size + 1 + 1, 1, none⟩ = some (.int .i64 ((table : Int) + 1)) := by rw [hb1'.cell]; rfl
  have c12 : W2.cell? ⟨w.heap.size + 1 + 1, 2, none⟩ = some (.slice (some ⟨w.heap.size + 1, 0, none⟩) (4 * table) (4 * table)) := by rw [hb1'.cell]; rfl
  have c00 : W2.cell? ⟨w.heap.size, 0, none⟩ = some (.int .i64 0) := by rw [hb0'.cell]; rfl
  have c01 : W2.cell? ⟨w.heap.size, 1, none⟩ = some (.int .i64 0) := by rw [hb0'.cell]; rfl
  have c02 : W2.cell? ⟨w.heap.size, 2, none⟩ = some (.slice none 0 0) := by rw [hb0'.cell]; rfl
  have z00 := hb0'.frozen 0
  have z01 := hb0'.frozen 1
  have z02 := hb0'.frozen 2
  have HSL := Lib.hid hsl
  have HRL := Lib.hid hrl
  have HK2 := Lib.hid hk2
  have HB0 := Lib.hid hb0'
  clear hsl hrl hk2 hb0' hb1' hh hml hC2l hC2r hW2 hC2 hk1 hb0 hbg hb1 hms
  go_wp2_with fail
  have hq := ((HB0.out.set_ 0 (.int .i64 np)).set_ 1 (.int .i64 ((table : Int) + 1))).set_ 2 (.slice (some ⟨w.heap.size + 1, 0, none⟩) (4 * table) (4 * table))
  have hkq : Kept [w.heap.size] W2 (((W2.setCell ⟨w.heap.size, 0, none⟩ (.int .i64 np)).setCell ⟨w.heap.size, 1, none⟩ (.int .i64 ((table : Int) + 1))).setCell ⟨w.heap.size, 2, none⟩ (.slice (some ⟨w.heap.size + 1, 0, none⟩) (4 * table) (4 * table))) :=
    (((Kept.refl _ _).setCell (.inr (by simp)) _).setCell (.inr (by simp)) _).setCell (.inr (by simp)) _
  have hslq := HSL.out.other hkq HB0.out (by decide)
  have hkk := HK2.out.any.trans hkq
  obtain ⟨W3, hW3⟩ : ∃ W3, W3 = ((W2.setCell ⟨w.heap.size, 0, none⟩ (.int .i64 np)).setCell ⟨w.heap.size, 1, none⟩ (.int .i64 ((table : Int) + 1))).setCell ⟨w.heap.size, 2, none⟩ (.slice (some ⟨w.heap.size + 1, 0, none⟩) (4 * table) (4 * table)) := ⟨_, rfl⟩
  rw [← hW3] at hq hslq hkk ⊢
  clear hkq hW3
  have hk0 : Kept [] w W3 := hkk.narrow (fun d h1 h2 => by simp only [List.mem_singleton] at h1; omega)
  refine bodyPost_ret (v := .tuple #[.agg #[.int .i64 np, .int .i64 ((table : Int) + 1), .slice (some ⟨w.heap.size + 1, 0, none⟩) (4 * table) (4 * table)], .int .i64 0]) ?_ rfl ⟨_, _, _, rfl, hslq, HRL.out, hk0⟩
  rw [results_cell_tmp rfl]
  have hld := run_loadVar_row (P := Tryz.prog) W3 w.heap.size 44 44 _ (0, 0) _ hq Tryz.underlying44 rfl rfl
  simp [asAddr, hld]
end Go.Proofs.YtcbdjmlkjifamaaGreatDoor
