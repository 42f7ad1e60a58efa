/-
  Package files: Write that writes. Conditions: a state that is consistent; the pages of the inode are the system's; there is room. Package files: Write that writes. Conditions: a state that is consistent; the pages of the inode are the system's; there is room. What the functions of package files do to the bytes of an inode, in plain Lean: no program and no memory. No condition. The state of a system of files as the document has it: an inode is turned. Plain Lean: no program and no memory. No condition. Write, as the document has it. Plain Lean: no program and no memory. No condition.
-/
import Derived.Test.YtcbdjmlkjifamaaGreatDoorQae
import Derived.Test.YtcbdjmlkjifamaaGreatDoorQan
set_option linter.unusedVariables false
set_option linter.unusedSimpArgs false

/- Package files: Write that writes. Conditions: a state that is consistent; the pages of the inode are the system's; there is room. -/
namespace Go.Proofs.YtcbdjmlkjifamaaGreatDoor
open Go.RowKit
set_option maxRecDepth 100000

/-- Take, as the state turns. -/
def takeSt (table : Nat) (pgs : List (List UInt8)) (bm : List UInt8) (k : Nat) : Option (List Nat × List (List UInt8) × List UInt8) :=
  if k = 0 then some ([], pgs, bm) else (bmTake bm 0 pgs.length k).map fun r => (r.1, (zeroAt pgs r.1).set 0 (layB table r.2), r.2)

theorem files_take_any (w : World) (fb ib pb ab table many : Nat) (pgs p1 : List (List UInt8)) (bm b1 : List UInt8) (nodes : List Ino) (l : List Nat) (h : Fsys w fb ib pb ab table pgs bm nodes) (hmany : many ≤ 2048)
    (hown : ∀ i, i ≤ table → bit bm i = true) (hok : takeSt table pgs bm many = some (l, p1, b1)) :
    Calls Tryz.prog 81 #[.pointer (some ⟨fb, 0, none⟩), .int .i64 many] w fun e w' => ∃ A c, e = .returned (.tuple #[.slice A l.length c, .int .i64 0]) ∧ Ints w' [] A c l ∧
      Fsys w' fb ib pb ab table p1 b1 nodes ∧ Kept [ab] w w' := by
  unfold takeSt at hok
  by_cases h0 : many = 0
  · rw [if_pos h0] at hok
    injection hok with hok
    injection hok with e1 e2
    injection e2 with e2 e3
    subst e1; subst e2; subst e3; subst h0
    refine (files_take_zero w fb ib pb ab table pgs bm nodes h).mono ?_
    rintro e w' ⟨rfl, hk⟩
    exact ⟨none, 0, rfl, Sl.nil_ _ _ _ _ _ (by omega), h.keep0 hk, hk.any⟩
  · rw [if_neg h0, Option.map_eq_some_iff] at hok
    obtain ⟨r, hr, he⟩ := hok
    injection he with e1 e2
    injection e2 with e2 e3
    subst e1; subst e2; subst e3
    obtain ⟨i1, i2, i3, i4, i5⟩ := bmTake_spec _ _ _ _ _ _ (show bmTake bm 0 pgs.length many = some (r.1, r.2) from hr)
    refine files_take w fb ib pb ab table many pgs bm r.2 nodes r.1 h hmany h0 hr (by rw [i2]; exact h.fs.bml) (fun p hp => ?_)
    obtain ⟨j1, j2, j3, j4⟩ := i4 p hp
    refine ⟨?_, j2⟩
    rcases Nat.lt_or_ge table p with h1 | h1
    · exact h1
    · rw [hown p h1] at j4
      cases j4

/-- Pages are laid into an inode. -/
def setPages (ps : List UInt8) : List (Nat × Nat) → List UInt8
  | [] => ps
  | (p, f) :: r => setPages (ps.set p (UInt8.ofNat f)) r
theorem setPages_length : ∀ (r : List (Nat × Nat)) (ps : List UInt8), (setPages ps r).length = ps.length := by
  intro r
  induction r with
  | nil => intro ps; rfl
  | cons x r ih => intro ps; show (setPages (ps.set x.1 _) r).length = _; rw [ih, List.length_set]
theorem setPages_snoc : ∀ (r : List (Nat × Nat)) (ps : List UInt8) (p f : Nat), setPages ps (r ++ [(p, f)]) = (setPages ps r).set p (UInt8.ofNat f) := by
  intro r
  induction r with
  | nil => intro ps p f; rfl
  | cons x r ih => intro ps p f; exact ih _ p f
theorem Ino.cells_set (x : Ino) (ps : List UInt8) (p : Nat) (v : UInt8) (h : p < ps.length) : ({ x with pages := ps } : Ino).cells.setIfInBounds (6 + p) (b8 v) = ({ x with pages := ps.set p v } : Ino).cells := by
  apply Array.ext'
  simp only [Ino.cells, pgCells, Array.toList_setIfInBounds, Array.toList_append, List.map_set]
  rw [show 6 + p = p + 6 from by omega]
  rfl
end Go.Proofs.YtcbdjmlkjifamaaGreatDoor

/- Package files: Write that writes. Conditions: a state that is consistent; the pages of the inode are the system's; there is room. -/
namespace Go.Proofs.YtcbdjmlkjifamaaGreatDoor
open Go.RowKit
set_option maxRecDepth 100000

/-- The inode behind a write. -/
def wrIno (x : Ino) (need l : List Nat) (stop time : Nat) : Ino := ⟨x.kind, x.mode, x.links, max x.size stop, time, x.attr, setPages x.pages (need.zip l)⟩
theorem partsFrom_pages (pos stop : Nat) : (partsFrom pos stop).length ≤ (stop + 255) / 256 - pos / 256 := by
  induction h : stop - pos using Nat.strongRecOn generalizing pos with
  | _ d ih =>
    by_cases hlt : pos < stop
    · rw [partsFrom_step hlt, List.length_cons]
      obtain ⟨z, hz⟩ : ∃ z, z = min (256 - pos % 256) (stop - pos) := ⟨_, rfl⟩
      rw [← hz]
      by_cases hl2 : pos + z < stop
      · have := ih (stop - (pos + z)) (by omega) _ rfl
        omega
      · rw [partsFrom_end (by omega)]
        simp
        omega
    · rw [partsFrom_end (by omega)]
      simp
/-- What the loop of Write knows. -/
def WrRel (w : World) (nb : Nat) (x : Ino) (need l : List Nat) (a : Value) (wr : World) : Prop :=
  ∃ k : Nat, k ≤ need.length ∧ a = .int .i64 k ∧ Blk wr nb 53 ({ x with pages := setPages x.pages ((need.zip l).take k) } : Ino).cells ∧ Kept [nb] w wr

set_option maxHeartbeats 2000000 in
theorem files_Write_ok (w : World) (fb ib pb ab table : Nat) (pgs p1 : List (List UInt8)) (bm b1 : List UInt8) (nodes : List Ino) (n P t : Nat) (x : Ino) (B : Option Addr) (bc m : Nat) (b : List UInt8) (l : List Nat)
    (h : Fsys w fb ib pb ab table pgs bm nodes) (hx : nodes[n]? = some x) (hkind : x.kind ≠ 0) (hb : Bytes w [] B bc b) (hm : b.length = m) (hm0 : m ≠ 0) (hmay : spanMay (P : Int) (m : Nat) = 0) (ht : t ≤ 9223372036854775807)
    (hown : ∀ i, i ≤ table → bit bm i = true) (htake : takeSt table pgs bm (missing x.pages (spanParts P m)).length = some (l, p1, b1))
    (hok : (wrIno x (missing x.pages (spanParts P m)) l (P + m) t).Ok)
    (hp : ∀ p ∈ spanParts P m, table < (wrIno x (missing x.pages (spanParts P m)) l (P + m) t).pageOf p ∧ (wrIno x (missing x.pages (spanParts P m)) l (P + m) t).pageOf p < pgs.length) :
    Calls Tryz.prog 49 #[.pointer (some ⟨fb, 0, none⟩), .int .i64 n, .int .i64 P, .slice B m bc, .int .i64 t] w fun e w' => e = .returned (.tuple #[.int .i64 m, .int .i64 0]) ∧
      ∃ pg, (spreadPg (wrIno x (missing x.pages (spanParts P m)) l (P + m) t) b (spanParts P m) 0 p1)[1 + n / 4]? = some pg ∧
      Fsys w' fb ib pb ab table ((spreadPg (wrIno x (missing x.pages (spanParts P m)) l (P + m) t) b (spanParts P m) 0 p1).set (1 + n / 4) (putIno pg (n % 4) (wrIno x (missing x.pages (spanParts P m)) l (P + m) t))) b1 (nodes.set n (wrIno x (missing x.pages (spanParts P m)) l (P + m) t)) ∧ Kept [ab] w w' := by
  obtain ⟨x', hx'⟩ : ∃ x', x' = wrIno x (missing x.pages (spanParts P m)) l (P + m) t := ⟨_, rfl⟩
  rw [← hx'] at hok hp ⊢
  obtain ⟨need, hneed⟩ : ∃ need, need = missing x.pages (spanParts P m) := ⟨_, rfl⟩
  rw [← hneed] at htake hx'
  have hz := spanMay_zero hmay
  have hu : usedOf nodes n = (x, 0) := by
    have hi : inoOf nodes n = (x, 0) := by
      unfold inoOf
      rw [if_pos (Int.natCast_nonneg n), Int.toNat_natCast, hx]
    unfold usedOf
    rw [hi]
    simp [hkind]
  have cU : ∀ W, Kept [] w W → Calls Tryz.prog 35 #[.pointer (some ⟨fb, 0, none⟩), .int .i64 n] W fun e w' => e = .returned (.tuple #[.agg x.cells, .int .i64 0]) ∧ Kept [] W w' := fun W hW => by
    have := files_used_any W fb ib pb ab table pgs bm nodes n (h.keep0 hW)
    rw [hu] at this
    exact this
  have hpl : x.pages.length = 32 := (h.fs.good x (List.mem_of_getElem? hx)).lim.len
  have CU := Lib.hid cU
  have HPL := Lib.hid hpl
  have H := Lib.hid h
  have HB := Lib.hid hb
  have HM := Lib.hid hm
  have HMAY := Lib.hid hmay
  have HX' := Lib.hid hx'
  have HOK := Lib.hid hok
  have HP := Lib.hid hp
  have HT := Lib.hid htake
  have HOWN := Lib.hid hown
  have HN := Lib.hid hneed
  have HXN := Lib.hid hx
  have hmz : ((m : Int) == 0) = false := by rw [beq_eq_false_iff_ne]; omega
  have htn : ¬ (t : Int) < 0 := by omega
  clear cU hu h hx hb hm hmay hown htake hok hp hx' hpl hkind hneed
  go_enter Tryz.func49, Tryz.ntmps49
  go_wp2_with (go_at_call 35; refine Stop.here ?_)
  refine Stop.go ?_
  refine (CU.out w (Kept.refl _ _)).mono ?_
  rintro e w1 ⟨rfl, hk1⟩
  have HK1 := Lib.hid hk1
  clear hk1
  go_wp2_with (with_reducible refine stop_store (t := 53) ?_)
  refine Stop.go ?_
  refine wpList_store_row rfl 53 (.tmp 12) (.tmp 23) rfl w1.heap.size rfl x.cells rfl 53 Ino.zero.cells (heap_alloc_new w1 _) (by rw [x.cells_size HPL.out]; exact ino_info) (by rw [x.cells_size HPL.out]; rfl) x.one ?_
  obtain ⟨w2, hw2⟩ : ∃ w2, w2 = (w1.alloc (.cells Ino.zero.cells 53)).setRow w1.heap.size x.cells := ⟨_, rfl⟩
  have hw2' : w2 = w1.alloc (.cells x.cells 53) := by rw [hw2, World.setRow_alloc_new]
  show wpList _ _ _ _ _ ((w1.alloc (.cells Ino.zero.cells 53)).setRow w1.heap.size x.cells)
  rw [← hw2]
  have HK2 := Lib.hid (show Kept [] w w2 by rw [hw2']; exact HK1.out.alloc _)
  have HX2 := Lib.hid (show Blk w2 w1.heap.size 53 x.cells by rw [hw2']; exact Blk.new _ _ _)
  have hnw := HK1.out.size
  obtain ⟨nb, hnb⟩ : ∃ nb, nb = w1.heap.size := ⟨_, rfl⟩
  rw [← hnb] at HX2 hnw ⊢
  clear hw2 hw2' HK1 hnb
  go_wp2_with (first | (go_at_call 71; refine (span_May _ _ _ (by omega) (by omega) (by omega) (by omega)).mono ?_; rintro e w' ⟨rfl, rfl⟩; rw [HMAY.out]) | (with_reducible refine stop_load (t := 51) ?_))
  refine Stop.go ?_
  refine wpList_load_part rfl 51 _ rfl nb 6 rfl 53 x.cells (pgCells x.pages) (0, 0) _ HX2.out Tryz.underlying51 rfl (by rw [pgCells_size, HPL.out]; exact arr_info) (fun j _ => x.at6 j) ?_
  go_wp2_with (go_at_call 80; refine Stop.here ?_)
  refine Stop.go ?_
  have hmiss := span_Missing x.pages P m w2 [] (Old.nil _) HPL.out HMAY.out
  rw [Int.toNat_natCast, Int.toNat_natCast, ← HN.out] at hmiss
  refine hmiss.mono ?_
  rintro e w3 ⟨A3, c3, rfl, hi3, hk3⟩
  have HI3 := Lib.hid hi3
  have HK3 := Lib.hid (HK2.out.trans hk3)
  have HX3 := Lib.hid (HX2.out.keep0 hk3)
  have HF3 := Lib.hid (H.out.keep0 (HK2.out.trans hk3))
  have HB3 := Lib.hid (HB.out.keep0 (HK2.out.trans hk3))
  have hnl : need.length ≤ 2048 := by
    rw [HN.out]
    unfold missing
    rw [List.length_map]
    refine Nat.le_trans (List.length_filter_le _ _) ?_
    have := partsFrom_pages P (P + m)
    unfold spanParts
    omega
  clear hmiss hi3 hk3 HK2 HX2
  go_wp2_with (go_at_call 81; refine Stop.here ?_)
  refine Stop.go ?_
  refine (files_take_any w3 fb ib pb ab table need.length pgs p1 bm b1 nodes l HF3.out hnl HOWN.out HT.out).mono ?_
  rintro e w4 ⟨A4, c4, rfl, hi4, hf4, hk4⟩
  have hI3 : Ints w4 [] A3 c3 need := Sl.past HI3.out HF3.out.img hk4 (by decide)
  have hB4 : Bytes w4 [] B bc b := Sl.past HB3.out HF3.out.img hk4 (by decide)
  have hX4 : Blk w4 nb 53 x.cells := by
    obtain ⟨cap, vs, _, hab, _⟩ := HF3.out.img.row
    exact HX3.out.keep hk4 (by rw [List.mem_singleton]; exact HX3.out.ne_ hab (by decide))
  have HI4 := Lib.hid hi4
  have HF4 := Lib.hid hf4
  have HN4 := Lib.hid hI3
  have HB4 := Lib.hid hB4
  have HX4 := Lib.hid hX4
  have HK4 := Lib.hid (HK3.out.any.trans hk4)
  clear hi4 hf4 hk4 hI3 hB4 hX4 HI3 HK3 HX3 HF3 HB3
  have hll : l.length = need.length := by
    have := HT.out
    unfold takeSt at this
    split at this
    · rename_i h0
      injection this with this
      injection this with e1 _
      rw [← e1, h0]
      rfl
    · rw [Option.map_eq_some_iff] at this
      obtain ⟨r, hr, he⟩ := this
      injection he with e1 _
      rw [← e1]
      exact (bmTake_spec _ _ _ _ _ _ (show bmTake bm 0 pgs.length need.length = some (r.1, r.2) from hr)).1
  have hnp : ∀ p ∈ need, p < 32 := fun p hp => by
    rw [HN.out] at hp
    unfold missing at hp
    obtain ⟨q, hq, rfl⟩ := List.mem_map.1 hp
    have := partsFrom_mem ((List.mem_filter.1 hq).1)
    omega
  have hlp : ∀ p ∈ l, p < 256 := fun p hp => by
    have := HT.out
    unfold takeSt at this
    split at this
    · injection this with this
      injection this with e1 _
      rw [← e1] at hp
      cases hp
    · rw [Option.map_eq_some_iff] at this
      obtain ⟨r, hr, he⟩ := this
      injection he with e1 _
      rw [← e1] at hp
      have h1 := ((bmTake_spec _ _ _ _ _ _ (show bmTake bm 0 pgs.length need.length = some (r.1, r.2) from hr)).2.2.2.1 p hp).2.1
      have h2 := H.out.img.small
      omega
  have HLL := Lib.hid hll
  have HNP := Lib.hid hnp
  have HLP := Lib.hid hlp
  clear hll hnp hlp
  go_wp2_with fail
  go_loopw [16, 17, 60] (fun _ _ a wr => WrRel w4 nb x need l a wr) (fun _ _ a _ => need.length - (intOf a).toNat)
  case atStart => exact ⟨0, Nat.zero_le _, rfl, HX4.out, Kept.refl _ _⟩
  case round =>
    obtain ⟨k, hk, rfl, hxr, hkr⟩ := hrel
    have HXR := Lib.hid hxr
    have HKR := Lib.hid hkr
    clear hxr hkr
    by_cases hlk : k < need.length
    · have hlk2 : k < l.length := by rw [HLL.out]; exact hlk
      obtain ⟨ad, rfl, hcn⟩ := Ints.get (Sl.other HN4.out HKR.out HX4.out (by decide)) hlk
      obtain ⟨ad2, rfl, hcl⟩ := Ints.get (Sl.other HI4.out HKR.out HX4.out (by decide)) hlk2
      obtain ⟨p, hpe⟩ : ∃ p, p = need[k] := ⟨_, rfl⟩
      obtain ⟨f, hfe⟩ : ∃ f, f = l[k] := ⟨_, rfl⟩
      have hp32 := HNP.out _ (List.getElem_mem hlk)
      have hf256 := HLP.out _ (List.getElem_mem hlk2)
      rw [← hpe] at hcn hp32
      rw [← hfe] at hcl hf256
      have HPE := Lib.hid hpe
      have HFE := Lib.hid hfe
      clear hpe hfe
      have hpl2 : (setPages x.pages ((need.zip l).take k)).length = 32 := by rw [setPages_length, HPL.out]
      have hcx : ∃ u, wr.cell? ⟨nb, 6 + p, none⟩ = some u := by
        rw [HXR.out.cell, Ino.at6]
        exact ⟨_, pgCells_get _ _ (by rw [hpl2]; exact hp32)⟩
      obtain ⟨u, hcx⟩ := hcx
      have hfx := HXR.out.frozen (6 + p)
      have hset := HXR.out.set_ (6 + p) (b8 (UInt8.ofNat f))
      rw [Ino.cells_set x _ p _ (by rw [hpl2]; exact hp32), b8_ofNat hf256] at hset
      have HSET := Lib.hid hset
      have HKS := Lib.hid (HKR.out.setCell (p := ⟨nb, 6 + p, none⟩) (.inr (by simp)) (.int .u8 f))
      clear hset
      go_wp2_with fail
      go_roundw
      case rel =>
        refine ⟨k + 1, by omega, by go_num, ?_, HKS.out⟩
        have e : (need.zip l).take (k + 1) = (need.zip l).take k ++ [(p, f)] := by
          rw [List.take_succ_eq_append_getElem (by rw [List.length_zip, HLL.out]; omega), List.getElem_zip, ← HPE.out, ← HFE.out]
        rw [e, setPages_snoc]
        exact HSET.out
      case measure => simp [intOf]; omega
    · obtain rfl : k = need.length := by omega
      have hxl := HXR.out
      rw [List.take_of_length_le (by rw [List.length_zip]; omega)] at hxl
      have hs3 : wr.cell? ⟨nb, 3, none⟩ = some (.int .i64 x.size) := by rw [hxl.cell, Ino.at3]
      have hf3 := hxl.frozen 3
      have hf4 := hxl.frozen 4
      have hs4 : wr.cell? ⟨nb, 4, none⟩ = some (.int .i64 x.time) := by rw [hxl.cell, Ino.at4]
      have HXL := Lib.hid hxl
      clear hxl HXR
      go_wp2_with (with_reducible refine stop_load (t := 53) ?_)
      refine Stop.go ?_
      obtain ⟨W, hW⟩ : ∃ W, W = (wr.setCell ⟨nb, 3, none⟩ (.int .i64 (max (x.size : Int) ((P : Int) + m)))).setCell ⟨nb, 4, none⟩ (.int .i64 t) := ⟨_, rfl⟩
      have hbW : Blk W nb 53 x'.cells := by
        have h1 := (HXL.out.set_ 3 (.int .i64 (max (x.size : Int) ((P : Int) + m)))).set_ 4 (.int .i64 t)
        rw [← hW] at h1
        have e : ((({ x with pages := setPages x.pages (need.zip l) } : Ino).cells.setIfInBounds 3 (.int .i64 (max (x.size : Int) ((P : Int) + m)))).setIfInBounds 4 (.int .i64 t)) = x'.cells := by
          rw [HX'.out]
          apply Array.ext'
          have em : max (x.size : Int) ((P : Int) + m) = ((max x.size (P + m) : Nat) : Int) := by omega
          simp [Ino.cells, wrIno, em]
        rw [e] at h1
        exact h1
      have hkW : Kept [nb] w4 W := by rw [hW]; exact (HKR.out.setCell (.inr (by simp)) _).setCell (.inr (by simp)) _
      rw [← hW]
      have hxl' := HOK.out.len
      have HBW := Lib.hid hbW
      have hFW : Fsys W fb ib pb ab table p1 b1 nodes := by
        have h4 := HF4.out
        obtain ⟨cap, vs, h5, h6, h7, h8, h9, h10⟩ := h4.img.row
        have n1 : ib ∉ [nb] := by rw [List.mem_singleton]; exact h4.img.image.ne_ HX4.out (by decide)
        have n2 : pb ∉ [nb] := by rw [List.mem_singleton]; exact h5.ne_ HX4.out (by decide)
        have n3 : ab ∉ [nb] := by rw [List.mem_singleton]; exact h6.ne_ HX4.out (by decide)
        have n4 : fb ∉ [nb] := by rw [List.mem_singleton]; exact h4.files.ne_ HX4.out (by decide)
        refine ⟨h4.files.keep hkW n4, ⟨h4.img.image.keep hkW n1, ⟨cap, vs, h5.keep hkW n2, h6.keep hkW n3, h7, h8, h9, fun i hi => ?_⟩, h4.img.len, h4.img.small⟩, h4.fs⟩
        obtain ⟨A, c, h11, h12⟩ := h10 i hi
        exact ⟨A, c, h11, h12.other hkW HX4.out (by decide)⟩
      have hBW : Bytes W [] B bc b := Bytes.other HB4.out hkW HX4.out (by decide)
      have HFW := Lib.hid hFW
      have HBB := Lib.hid hBW
      have HKW := Lib.hid (show Kept [ab] w W from ((HK4.out.mono (D' := [ab, nb]) (by simp)).trans (hkW.mono (D' := [ab, nb]) (by simp))).narrow (fun d hd hdl => by
        rcases List.mem_cons.1 hd with rfl | hd
        · simp
        · rw [List.mem_singleton] at hd
          omega))
      have hp1l : p1.length = pgs.length := by
        have := HT.out
        unfold takeSt at this
        split at this
        · injection this with this
          injection this with _ e2
          injection e2 with e2 _
          rw [← e2]
        · rw [Option.map_eq_some_iff] at this
          obtain ⟨r, hr, he⟩ := this
          injection he with _ e2
          injection e2 with e2 _
          rw [← e2, List.length_set, zeroAt_length]
      have HP1 := Lib.hid hp1l
      clear hW hbW hkW hFW hBW hp1l hs3 hs4 hf3 hf4 HXL HKR
      refine wpList_load_row rfl 53 _ rfl nb rfl 53 x'.cells (0, 0) _ HBW.out Tryz.underlying53 rfl (by rw [x'.cells_size hxl']; exact ino_info) ?_
      go_wp2_with (go_at_call 82; refine Stop.here ?_)
      refine Stop.go ?_
      have hsp := files_spread W fb ib pb ab table p1 b1 nodes x' P B bc m b HFW.out hxl' HBB.out HM.out HMAY.out (fun p hp => by
        rw [Int.toNat_natCast] at hp
        rw [HP1.out]
        exact HP.out p hp)
      rw [Int.toNat_natCast] at hsp
      refine hsp.mono ?_
      rintro e w6 ⟨rfl, hf6, hk6⟩
      have HF6 := Lib.hid hf6
      have HK6 := Lib.hid (HKW.out.trans hk6)
      have hnl := (List.getElem?_eq_some_iff.1 HXN.out).1
      obtain ⟨pg, hpg⟩ : ∃ pg, (spreadPg x' b (spanParts P m) 0 p1)[1 + n / 4]? = some pg := by
        obtain ⟨_, pg, hpg, _⟩ := hf6.fs.node n x HXN.out
        exact ⟨pg, hpg⟩
      have hB6 : Blk w6 nb 53 x'.cells := by
        obtain ⟨cap, vs, _, hab, _⟩ := HFW.out.img.row
        exact HBW.out.keep hk6 (by rw [List.mem_singleton]; exact HBW.out.ne_ hab (by decide))
      have HB6 := Lib.hid hB6
      have HPG := Lib.hid hpg
      have HNL := Lib.hid hnl
      clear hf6 hk6 hpg hnl hsp hB6
      go_wp2_with (with_reducible refine stop_load (t := 53) ?_)
      refine Stop.go ?_
      refine wpList_load_row rfl 53 _ rfl nb rfl 53 x'.cells (0, 0) _ HB6.out Tryz.underlying53 rfl (by rw [x'.cells_size hxl']; exact ino_info) ?_
      go_wp2_with (go_at_call 65; refine Stop.here ?_)
      refine Stop.go ?_
      refine (files_put w6 fb ib pb ab table _ b1 nodes n x' pg HF6.out HNL.out (.inl HOK.out) HPG.out).mono ?_
      rintro e w7 ⟨rfl, hf7, hk7⟩
      have HF7 := Lib.hid hf7
      have HK7 := Lib.hid (HK6.out.trans hk7)
      clear hf7 hk7
      go_wp2_with fail
      go_ret2
      exact ⟨rfl, pg, HPG.out, HF7.out, HK7.out⟩
end Go.Proofs.YtcbdjmlkjifamaaGreatDoor

/- What the functions of package files do to the bytes of an inode, in plain Lean: no program and no memory. No condition. -/
namespace Go.Proofs.YtcbdjmlkjifamaaGreatDoor
set_option maxRecDepth 100000

/-- The k-th page of an inode; a page's byte; an inode's byte, behind its size, too. -/
def Ino.pg (x : Ino) (i : Nat) : Nat := (x.pages.getD i 0).toNat
def pbyte (g : List (List UInt8)) (q o : Nat) : UInt8 := (g.getD q []).getD o 0
def ibyte (g : List (List UInt8)) (x : Ino) (i : Nat) : UInt8 := if x.pg (i / 256) = 0 then 0 else pbyte g (x.pg (i / 256)) (i % 256)

theorem spreadB_at (p : Part) (pg b : List UInt8) (f o : Nat) (h1 : pg.length = 256) (h2 : p.off + p.size ≤ 256) (h3 : f + p.size ≤ b.length) :
    (spreadB p pg b f).getD o 0 = if p.off ≤ o ∧ o < p.off + p.size then b.getD (f + (o - p.off)) 0 else pg.getD o 0 := by
  unfold spreadB
  simp only [List.getD_eq_getElem?_getD]
  have hl : (pg.take p.off).length = p.off := by simp; omega
  have hl2 : ((b.drop f).take p.size).length = p.size := by simp; omega
  by_cases ha : o < p.off
  · rw [List.getElem?_append_left (by omega), List.getElem?_take_of_lt ha, if_neg (by omega)]
  · rw [List.getElem?_append_right (by omega), hl]
    by_cases hb : o < p.off + p.size
    · rw [if_pos (by omega), List.getElem?_append_left (by omega), List.getElem?_take_of_lt (by omega), List.getElem?_drop]
    · rw [if_neg (by omega), List.getElem?_append_right (by omega), List.getElem?_drop, hl2]
      congr 2
      omega

theorem getD_set (g : List (List UInt8)) (q r : Nat) (pg : List UInt8) (hq : q < g.length) : (g.set q pg).getD r [] = if q = r then pg else g.getD r [] := by
  simp only [List.getD_eq_getElem?_getD, List.getElem?_set]
  by_cases h : q = r
  · subst h; simp [hq]
  · simp [h]

/-- What spread does to the bytes of the inode, and that it leaves the pages that are not the span's. -/
theorem spread_eff (x : Ino) (b : List UInt8) (hinj : ∀ i j, i < 32 → j < 32 → x.pg i ≠ 0 → x.pg i = x.pg j → i = j) : ∀ (stop pos f : Nat) (g : List (List UInt8)),
    (∀ (q : Nat) (pg : List UInt8), g[q]? = some pg → pg.length = 256) → stop ≤ 8192 → f + (stop - pos) ≤ b.length → (∀ i, pos / 256 ≤ i → i * 256 < stop → 0 < x.pg i ∧ x.pg i < g.length) →
    (∀ i, i < 8192 → ibyte (spreadPg x b (partsFrom pos stop) f g) x i = if pos ≤ i ∧ i < stop then b.getD (f + (i - pos)) 0 else ibyte g x i) ∧
    (∀ q : Nat, (∀ i, pos / 256 ≤ i → i * 256 < stop → x.pg i ≠ q) → (spreadPg x b (partsFrom pos stop) f g)[q]? = g[q]?) ∧
    (∀ (q : Nat) (pg : List UInt8), (spreadPg x b (partsFrom pos stop) f g)[q]? = some pg → pg.length = 256) := by
  intro stop pos
  induction hd : stop - pos using Nat.strongRecOn generalizing pos with
  | _ d ih =>
    intro f g hg hs hb hp
    by_cases hlt : pos < stop
    · rw [partsFrom_step hlt]
      have hz : min (256 - pos % 256) (stop - pos) ≤ 256 - pos % 256 ∧ min (256 - pos % 256) (stop - pos) ≤ stop - pos ∧ 0 < min (256 - pos % 256) (stop - pos) ∧ (min (256 - pos % 256) (stop - pos) = 256 - pos % 256 ∨ min (256 - pos % 256) (stop - pos) = stop - pos) := by omega
      obtain ⟨sz, hsz⟩ : ∃ sz, sz = min (256 - pos % 256) (stop - pos) := ⟨_, rfl⟩
      rw [← hsz] at hz ⊢
      obtain ⟨hp0, hp1⟩ := hp (pos / 256) (Nat.le_refl _) (by omega)
      have hq : x.pageOf ⟨pos / 256, pos % 256, sz⟩ = x.pg (pos / 256) := rfl
      simp only [spreadPg, hq]
      obtain ⟨q0, hq0⟩ : ∃ q0, q0 = x.pg (pos / 256) := ⟨_, rfl⟩
      rw [← hq0] at hp0 hp1 ⊢
      obtain ⟨pg0, hpg0⟩ : ∃ pg0, g[q0]? = some pg0 := ⟨_, List.getElem?_eq_getElem hp1⟩
      have hl0 := hg _ _ hpg0
      have hgd : g.getD q0 [] = pg0 := by rw [List.getD_eq_getElem?_getD, hpg0]; rfl
      rw [hgd]
      have hsl := spreadB_length ⟨pos / 256, pos % 256, sz⟩ pg0 b f hl0 (by simp only; omega) (by simp only; omega)
      obtain ⟨i1, i2, i3⟩ := ih (stop - (pos + sz)) (by omega) (pos + sz) rfl (f + sz) (g.set q0 (spreadB ⟨pos / 256, pos % 256, sz⟩ pg0 b f))
        (fun q pg h => by
          rw [List.getElem?_set] at h
          by_cases e : q0 = q
          · subst e
            simp [hp1] at h
            rw [← h]
            exact hsl
          · simp [e] at h
            exact hg _ _ h)
        hs (by omega) (fun i h1 h2 => by
          rw [List.length_set]
          exact hp i (by omega) h2)
      refine ⟨fun i hi => ?_, fun q hq => ?_, i3⟩
      · rw [i1 i hi]
        by_cases ha : pos + sz ≤ i ∧ i < stop
        · rw [if_pos ha, if_pos (by omega), show f + sz + (i - (pos + sz)) = f + (i - pos) from by omega]
        · rw [if_neg ha]
          unfold ibyte
          by_cases hx0 : x.pg (i / 256) = 0
          · rw [if_pos hx0, if_pos hx0]
            by_cases hb2 : pos ≤ i ∧ i < stop
            · exfalso
              have := (hp (i / 256) (by omega) (by omega)).1
              omega
            · rw [if_neg hb2]
          · rw [if_neg hx0, if_neg hx0]
            unfold pbyte
            rw [getD_set _ _ _ _ hp1]
            by_cases hqe : q0 = x.pg (i / 256)
            · have hie : i / 256 = pos / 256 := hinj (i / 256) (pos / 256) (by omega) (by omega) hx0 (by rw [← hqe, hq0])
              rw [if_pos hqe, spreadB_at _ _ _ _ _ hl0 (by simp only; omega) (by simp only; omega), ← hqe, hgd]
              simp only
              by_cases hb2 : pos ≤ i ∧ i < stop
              · rw [if_pos hb2, if_pos (by omega), show f + (i % 256 - pos % 256) = f + (i - pos) from by omega]
              · rw [if_neg hb2, if_neg (by omega)]
            · rw [if_neg hqe]
              have hie : i / 256 ≠ pos / 256 := fun e => hqe (by rw [e]; exact hq0)
              rw [if_neg (by omega)]
      · rw [i2 q (fun i h1 h2 => hq i (by omega) h2), List.getElem?_set_ne]
        rw [hq0]
        exact hq _ (Nat.le_refl _) (by omega)
    · rw [partsFrom_end (by omega)]
      exact ⟨fun i _ => by rw [if_neg (by omega)]; rfl, fun _ _ => rfl, hg⟩

/-- The pages of a span. -/
theorem mem_parts (i : Nat) : ∀ (stop pos : Nat), (∃ p ∈ partsFrom pos stop, p.page = i) ↔ pos < stop ∧ pos / 256 ≤ i ∧ i * 256 < stop := by
  intro stop pos
  induction hd : stop - pos using Nat.strongRecOn generalizing pos with
  | _ d ih =>
    by_cases hlt : pos < stop
    · rw [partsFrom_step hlt]
      obtain ⟨sz, hsz⟩ : ∃ sz, sz = min (256 - pos % 256) (stop - pos) := ⟨_, rfl⟩
      rw [← hsz]
      have := ih (stop - (pos + sz)) (by omega) (pos + sz) rfl
      simp only [List.mem_cons, exists_eq_or_imp, this]
      clear this ih
      omega
    · rw [partsFrom_end (by omega)]
      simp only [List.not_mem_nil, false_and, exists_false, false_iff]
      omega
theorem parts_nodup : ∀ (stop pos : Nat), ((partsFrom pos stop).map (·.page)).Nodup := by
  intro stop pos
  induction hd : stop - pos using Nat.strongRecOn generalizing pos with
  | _ d ih =>
    by_cases hlt : pos < stop
    · rw [partsFrom_step hlt]
      obtain ⟨sz, hsz⟩ : ∃ sz, sz = min (256 - pos % 256) (stop - pos) := ⟨_, rfl⟩
      rw [← hsz]
      rw [List.map_cons, List.nodup_cons]
      refine ⟨fun hm => ?_, ih _ (by omega) _ rfl⟩
      obtain ⟨p, hp, he⟩ := List.mem_map.1 hm
      have := (mem_parts (pos / 256) stop (pos + sz)).1 ⟨p, hp, he⟩
      omega
    · rw [partsFrom_end (by omega)]
      simp
theorem missing_mem (pages : List UInt8) (P m i : Nat) : i ∈ missing pages (spanParts P m) ↔ (0 < m ∧ P / 256 ≤ i ∧ i * 256 < P + m) ∧ (pages.getD i 0).toNat = 0 := by
  unfold missing
  rw [List.mem_map]
  constructor
  · rintro ⟨p, hp, rfl⟩
    obtain ⟨h1, h2⟩ := List.mem_filter.1 hp
    have := (mem_parts p.page (P + m) P).1 ⟨p, h1, rfl⟩
    simp only [beq_iff_eq] at h2
    exact ⟨by omega, by rw [h2]; rfl⟩
  · rintro ⟨h1, h2⟩
    obtain ⟨p, hp, he⟩ := (mem_parts i (P + m) P).2 (by omega)
    refine ⟨p, List.mem_filter.2 ⟨hp, ?_⟩, he⟩
    rw [he, beq_iff_eq]
    exact UInt8.toNat_inj.1 h2
theorem missing_nodup (pages : List UInt8) (P m : Nat) : (missing pages (spanParts P m)).Nodup :=
  List.Sublist.nodup (List.Sublist.map _ List.filter_sublist) (parts_nodup (P + m) P)

theorem setPages_not : ∀ (r : List (Nat × Nat)) (ps : List UInt8) (i : Nat), i ∉ r.map (·.1) → (setPages ps r).getD i 0 = ps.getD i 0 := by
  intro r
  induction r with
  | nil => intro ps i _; rfl
  | cons a r ih =>
    intro ps i h
    obtain ⟨p, f⟩ := a
    simp only [List.map_cons, List.mem_cons, not_or] at h
    show (setPages (ps.set p (UInt8.ofNat f)) r).getD i 0 = _
    rw [ih _ _ h.2]
    simp only [List.getD_eq_getElem?_getD]
    rw [List.getElem?_set_ne (by omega)]
theorem setPages_at : ∀ (r : List (Nat × Nat)) (ps : List UInt8) (i f : Nat), (r.map (·.1)).Nodup → (i, f) ∈ r → i < ps.length → (setPages ps r).getD i 0 = UInt8.ofNat f := by
  intro r
  induction r with
  | nil => intro ps i f _ h; cases h
  | cons a r ih =>
    intro ps i f hn h hi
    obtain ⟨p, k⟩ := a
    rw [List.map_cons, List.nodup_cons] at hn
    show (setPages (ps.set p (UInt8.ofNat k)) r).getD i 0 = _
    rcases List.mem_cons.1 h with h | h
    · injection h with h1 h2
      subst h1; subst h2
      rw [setPages_not _ _ _ hn.1]
      simp only [List.getD_eq_getElem?_getD]
      rw [List.getElem?_set_self hi]
      rfl
    · exact ih _ _ _ hn.2 h (by rw [List.length_set]; exact hi)

theorem mem_all (x : Ino) (h : x.pages.length = 32) (q : Nat) : q ∈ x.all ↔ q ≠ 0 ∧ (q = x.attr ∨ ∃ i, i < 32 ∧ x.pg i = q) := by
  unfold Ino.all
  rw [List.mem_filter, List.mem_cons, List.mem_map]
  simp only [Bool.not_eq_true', beq_eq_false_iff_ne, ne_eq]
  constructor
  · rintro ⟨h1, h2⟩
    refine ⟨h2, ?_⟩
    rcases h1 with h1 | ⟨a, ha, h1⟩
    · exact .inl h1
    · obtain ⟨i, hi, he⟩ := List.getElem_of_mem ha
      refine .inr ⟨i, by omega, ?_⟩
      rw [Ino.pg, List.getD_eq_getElem?_getD, List.getElem?_eq_getElem hi, ← h1, ← he]
      rfl
  · rintro ⟨h1, h2⟩
    refine ⟨?_, h1⟩
    rcases h2 with h2 | ⟨i, hi, h2⟩
    · exact .inl h2
    · have hi2 : i < x.pages.length := by omega
      refine .inr ⟨x.pages[i], List.getElem_mem hi2, ?_⟩
      rw [← h2, Ino.pg, List.getD_eq_getElem?_getD, List.getElem?_eq_getElem hi2]
      rfl
theorem all_nodup (x : Ino) (h : x.pages.length = 32) : x.all.Nodup ↔ (∀ i j, i < 32 → j < 32 → x.pg i ≠ 0 → x.pg i = x.pg j → i = j) ∧ (x.attr ≠ 0 → ∀ i, i < 32 → x.pg i ≠ x.attr) := by
  have hpg : ∀ i (hi : i < 32), (x.pages[i]'(by omega)).toNat = x.pg i := fun i hi => by
    rw [Ino.pg, List.getD_eq_getElem?_getD, List.getElem?_eq_getElem (by omega)]
    rfl
  unfold Ino.all List.Nodup
  rw [List.pairwise_filter, List.pairwise_cons, List.pairwise_map, List.pairwise_iff_getElem]
  simp only [Bool.not_eq_true', beq_eq_false_iff_ne, ne_eq, List.mem_map]
  constructor
  · rintro ⟨h1, h2⟩
    refine ⟨fun i j hi hj h3 h4 => ?_, fun h3 i hi h4 => ?_⟩
    · rcases Nat.lt_trichotomy i j with hl | hl | hl
      · exact absurd (by rw [hpg i hi, hpg j hj]; exact h4) (h2 i j (by omega) (by omega) hl (by rw [hpg i hi]; exact h3) (by rw [hpg j hj]; omega))
      · exact hl
      · exact absurd (by rw [hpg i hi, hpg j hj]; exact h4.symm) (h2 j i (by omega) (by omega) hl (by rw [hpg j hj]; omega) (by rw [hpg i hi]; exact h3))
    · exact h1 (x.pg i) ⟨x.pages[i]'(by omega), List.getElem_mem _, hpg i hi⟩ h3 (by omega) h4.symm
  · rintro ⟨h1, h2⟩
    refine ⟨?_, fun i j hi hj hl h3 h4 h5 => ?_⟩
    · rintro a ⟨y, hy, rfl⟩ h3 h4 h5
      obtain ⟨i, hi, rfl⟩ := List.getElem_of_mem hy
      exact h2 h3 i (by omega) (by rw [← hpg i (by omega)]; exact h5.symm)
    · rw [hpg i (by omega)] at h3 h5
      rw [hpg j (by omega)] at h5
      have := h1 i j (by omega) (by omega) h3 h5
      omega
end Go.Proofs.YtcbdjmlkjifamaaGreatDoor

/- The state of a system of files as the document has it: an inode is turned. Plain Lean: no program and no memory. No condition. -/
namespace Go.Proofs.YtcbdjmlkjifamaaGreatDoor
set_option maxRecDepth 100000

/-- An inode, as the document has it: has are the pages that it has, att the attributes' page (none: no bytes). -/
structure Nod where
  kind : Nat
  mode : Nat
  links : Nat
  time : Nat
  data : List UInt8
  has : Nat → Bool
  att : List UInt8

structure IsNod (g : List (List UInt8)) (x : Ino) (y : Nod) : Prop where
  kind : x.kind = y.kind
  mode : x.mode = y.mode
  links : x.links = y.links
  time : x.time = y.time
  size : x.size = y.data.length
  data : ∀ i, i < 8192 → ibyte g x i = y.data.getD i 0
  has : ∀ i, i < 32 → y.has i = decide (x.pg i ≠ 0)
  att : (x.attr = 0 ∧ y.att = []) ∨ (x.attr ≠ 0 ∧ g[x.attr]? = some y.att)

/-- The pages, the map and the inodes are those of the document's inodes. -/
structure Abs (table : Nat) (g : List (List UInt8)) (bm : List UInt8) (xs : List Ino) (S : List Nod) : Prop where
  fs : Fs table g bm xs
  len : S.length = xs.length
  one : ∀ (n : Nat) (x : Ino) (y : Nod), xs[n]? = some x → S[n]? = some y → IsNod g x y
  low : ∀ i, i ≤ table → bit bm i = true
  own : ∀ (n : Nat) (x : Ino) (q : Nat), xs[n]? = some x → q ∈ x.all → table < q ∧ q < g.length ∧ bit bm q = true
  dis : ∀ (n m : Nat) (x y : Ino) (q : Nat), xs[n]? = some x → xs[m]? = some y → q ∈ x.all → q ∈ y.all → n = m
  all : ∀ q : Nat, table < q → q < g.length → bit bm q = true → ∃ (n : Nat) (x : Ino), xs[n]? = some x ∧ q ∈ x.all
  pl : ∀ (q : Nat) (pg : List UInt8), g[q]? = some pg → pg.length = 256
  small : g.length ≤ 216

theorem zero_all : Ino.zero.all = [] := by decide

theorem pbyte_same {g g' : List (List UInt8)} {q : Nat} (h : g'[q]? = g[q]?) (o : Nat) : pbyte g' q o = pbyte g q o := by
  unfold pbyte
  simp only [List.getD_eq_getElem?_getD, h]
theorem ibyte_same {g g' : List (List UInt8)} {x : Ino} {i : Nat} (h : x.pg (i / 256) ≠ 0 → g'[x.pg (i / 256)]? = g[x.pg (i / 256)]?) : ibyte g' x i = ibyte g x i := by
  unfold ibyte
  by_cases h0 : x.pg (i / 256) = 0
  · rw [if_pos h0, if_pos h0]
  · rw [if_neg h0, if_neg h0, pbyte_same (h h0)]

theorem abs_step {table : Nat} {g g' : List (List UInt8)} {bm bm' : List UInt8} {xs : List Ino} {S : List Nod} (h : Abs table g bm xs S) {n : Nat} {x x' : Ino} {y' : Nod}
    (hx : xs[n]? = some x) (hfs : Fs table g' bm' (xs.set n x')) (hone : IsNod g' x' y') (hgl : g'.length = g.length) (hpl : ∀ (q : Nat) (pg : List UInt8), g'[q]? = some pg → pg.length = 256)
    (hfar : ∀ q : Nat, table < q → q ∉ x.all → q ∉ x'.all → g'[q]? = g[q]?) (hnew : ∀ q : Nat, q ∈ x'.all → q ∈ x.all ∨ (table < q ∧ q < g.length ∧ bit bm q = false))
    (hbit : ∀ q : Nat, bit bm' q = if q ∈ x'.all then true else if q ∈ x.all then false else bit bm q) : Abs table g' bm' (xs.set n x') (S.set n y') := by
  have hnl := (List.getElem?_eq_some_iff.1 hx).1
  have hget : ∀ (m : Nat) (z : Ino), (xs.set n x')[m]? = some z → (m = n ∧ z = x') ∨ (m ≠ n ∧ xs[m]? = some z) := fun m z hm => by
    by_cases e : n = m
    · subst e
      rw [List.getElem?_set_self hnl] at hm
      injection hm with hm
      exact .inl ⟨rfl, hm.symm⟩
    · rw [List.getElem?_set_ne e] at hm
      exact .inr ⟨fun e2 => e e2.symm, hm⟩
  have hoth : ∀ (m : Nat) (z : Ino) (q : Nat), m ≠ n → xs[m]? = some z → q ∈ z.all → q ∉ x.all ∧ q ∉ x'.all := fun m z q hm hz hq => by
    have h1 : q ∉ x.all := fun hq2 => hm (h.dis m n z x q hz hx hq hq2)
    refine ⟨h1, fun hq2 => ?_⟩
    rcases hnew q hq2 with h2 | h2
    · exact h1 h2
    · have := (h.own m z q hz hq).2.2
      rw [this] at h2
      cases h2.2.2
  have hlen : ∀ (m : Nat) (z : Ino), xs[m]? = some z → z.pages.length = 32 := fun m z hz => (h.fs.good z (List.mem_of_getElem? hz)).lim.len
  refine ⟨hfs, by rw [List.length_set, List.length_set]; exact h.len, fun m z y hz hy => ?_, fun i hi => ?_, fun m z q hz hq => ?_, fun m1 m2 z1 z2 q h1 h2 h3 h4 => ?_, fun q h1 h2 h3 => ?_, hpl, by rw [hgl]; exact h.small⟩
  · rcases hget m z hz with ⟨rfl, rfl⟩ | ⟨hm, hz⟩
    · rw [List.getElem?_set_self (by rw [h.len]; exact hnl)] at hy
      injection hy with hy
      rw [← hy]
      exact hone
    · rw [List.getElem?_set_ne (fun e => hm e.symm)] at hy
      have o := h.one m z y hz hy
      have hpg : ∀ q : Nat, q ∈ z.all → g'[q]? = g[q]? := fun q hq => by
        obtain ⟨a, b⟩ := hoth m z q hm hz hq
        exact hfar q (h.own m z q hz hq).1 a b
      refine ⟨o.kind, o.mode, o.links, o.time, o.size, fun i hi => ?_, o.has, ?_⟩
      · rw [← o.data i hi]
        exact ibyte_same fun h0 => hpg _ ((mem_all z (hlen m z hz) _).2 ⟨h0, .inr ⟨i / 256, by omega, rfl⟩⟩)
      · rcases o.att with h1 | ⟨h1, h2⟩
        · exact .inl h1
        · exact .inr ⟨h1, by rw [hpg _ ((mem_all z (hlen m z hz) _).2 ⟨h1, .inl rfl⟩)]; exact h2⟩
  · rw [hbit]
    by_cases h1 : i ∈ x'.all
    · rw [if_pos h1]
    · rw [if_neg h1, if_neg (fun h2 => by have := (h.own n x i hx h2).1; omega)]
      exact h.low i hi
  · rcases hget m z hz with ⟨rfl, rfl⟩ | ⟨hm, hz⟩
    · rw [hbit, if_pos hq, hgl]
      rcases hnew q hq with h2 | h2
      · have := h.own m x q hx h2
        exact ⟨this.1, this.2.1, rfl⟩
      · exact ⟨h2.1, h2.2.1, rfl⟩
    · have o := h.own m z q hz hq
      obtain ⟨a, b⟩ := hoth m z q hm hz hq
      rw [hbit, if_neg b, if_neg a, hgl]
      exact o
  · rcases hget m1 z1 h1 with ⟨rfl, rfl⟩ | ⟨hm1, k1⟩ <;> rcases hget m2 z2 h2 with ⟨e2, rfl⟩ | ⟨hm2, k2⟩
    · exact e2.symm
    · exact absurd h3 (hoth m2 z2 q hm2 k2 h4).2
    · exact absurd h4 (hoth m1 z1 q hm1 k1 h3).2
    · exact h.dis m1 m2 z1 z2 q k1 k2 h3 h4
  · rw [hbit] at h3
    by_cases a : q ∈ x'.all
    · exact ⟨n, x', List.getElem?_set_self hnl, a⟩
    · rw [if_neg a] at h3
      by_cases b : q ∈ x.all
      · rw [if_pos b] at h3
        cases h3
      · rw [if_neg b] at h3
        obtain ⟨m, z, hz, hq⟩ := h.all q h1 (by omega) h3
        refine ⟨m, z, ?_, hq⟩
        rw [List.getElem?_set_ne]
        · exact hz
        · rintro rfl
          rw [hx] at hz
          injection hz with hz
          exact b (hz ▸ hq)

/-- The inode's page is laid: pages behind the table stay. -/
theorem put_far {table : Nat} {g : List (List UInt8)} {bm : List UInt8} {xs : List Ino} (h : Fs table g bm xs) {n q : Nat} (hn : n < xs.length) (hq : table < q) (pg : List UInt8) : (g.set (1 + n / 4) pg)[q]? = g[q]? := by
  have := h.nlen
  rw [List.getElem?_set_ne (by omega)]
theorem put_len {g : List (List UInt8)} (hpl : ∀ (q : Nat) (pg : List UInt8), g[q]? = some pg → pg.length = 256) {n : Nat} {pg : List UInt8} (hl : pg.length = 256) : ∀ (q : Nat) (p : List UInt8), (g.set n pg)[q]? = some p → p.length = 256 := fun q p h => by
  rw [List.getElem?_set] at h
  split at h
  · split at h
    · injection h with h
      rw [← h]
      exact hl
    · cases h
  · exact hpl q p h

/-- Only numbers of an inode are turned. -/
theorem abs_put {table : Nat} {g : List (List UInt8)} {bm : List UInt8} {xs : List Ino} {S : List Nod} (h : Abs table g bm xs S) {n : Nat} {x x' : Ino} {y' : Nod} {pg : List UInt8}
    (hx : xs[n]? = some x) (hx' : x'.pages.length = 32) (hpg : g[1 + n / 4]? = some pg) (hfs : Fs table (g.set (1 + n / 4) (putIno pg (n % 4) x')) bm (xs.set n x')) (hall : x'.all = x.all) (hone : IsNod g x' y') :
    Abs table (g.set (1 + n / 4) (putIno pg (n % 4) x')) bm (xs.set n x') (S.set n y') := by
  have hnl := (List.getElem?_eq_some_iff.1 hx).1
  have hpl := h.pl _ _ hpg
  refine abs_step h hx hfs ?_ (List.length_set ..) (put_len h.pl (putIno_length pg _ x' hpl (Nat.mod_lt _ (by omega)) hx')) (fun q hq _ _ => put_far h.fs hnl hq _) (fun q hq => .inl (hall ▸ hq)) (fun q => ?_)
  · refine ⟨hone.kind, hone.mode, hone.links, hone.time, hone.size, fun i hi => ?_, hone.has, ?_⟩
    · rw [← hone.data i hi]
      refine ibyte_same fun h0 => put_far h.fs hnl ?_ _
      exact (h.own n x _ hx (hall ▸ (mem_all x' hx' _).2 ⟨h0, .inr ⟨i / 256, by omega, rfl⟩⟩)).1
    · rcases hone.att with h1 | ⟨h1, h2⟩
      · exact .inl h1
      · refine .inr ⟨h1, ?_⟩
        rw [put_far h.fs hnl (h.own n x _ hx (hall ▸ (mem_all x' hx' _).2 ⟨h1, .inl rfl⟩)).1]
        exact h2
  · rw [hall]
    by_cases a : q ∈ x.all
    · rw [if_pos a]
      exact (h.own n x q hx a).2.2
    · rw [if_neg a, if_neg a]

/-- Make: of an inode that is Free one that has nothing. -/
theorem abs_make {table : Nat} {g : List (List UInt8)} {bm : List UInt8} {xs : List Ino} {S : List Nod} (h : Abs table g bm xs S) {n kind mode time : Nat} {pg : List UInt8}
    (hx : xs[n]? = some Ino.zero) (hpg : g[1 + n / 4]? = some pg) (hfs : Fs table (g.set (1 + n / 4) (putIno pg (n % 4) (newIno kind mode time))) bm (xs.set n (newIno kind mode time))) :
    Abs table (g.set (1 + n / 4) (putIno pg (n % 4) (newIno kind mode time))) bm (xs.set n (newIno kind mode time)) (S.set n ⟨kind, mode, 0, time, [], fun _ => false, []⟩) := by
  have hpg0 : ∀ i, (newIno kind mode time).pg i = 0 := fun i => by
    show ((List.replicate 32 (0 : UInt8)).getD i 0).toNat = 0
    rw [List.getD_eq_getElem?_getD, List.getElem?_replicate]
    split <;> rfl
  refine abs_put h hx rfl hpg hfs (by rw [zero_all]; rfl) ⟨rfl, rfl, rfl, rfl, rfl, fun i _ => ?_, fun i _ => by simp [hpg0], .inl ⟨rfl, rfl⟩⟩
  unfold ibyte
  rw [if_pos (hpg0 _)]
  rfl
end Go.Proofs.YtcbdjmlkjifamaaGreatDoor

/- Write, as the document has it. Plain Lean: no program and no memory. No condition. -/
namespace Go.Proofs.YtcbdjmlkjifamaaGreatDoor
set_option maxRecDepth 100000

theorem zeroAt_at : ∀ (l : List Nat) (g : List (List UInt8)) (q : Nat), q ∈ l → q < g.length → (zeroAt g l)[q]? = some (List.replicate 256 0) := by
  intro l
  induction l with
  | nil => intro g q h; cases h
  | cons p l ih =>
    intro g q h hq
    show (zeroAt (g.set p (List.replicate 256 0)) l)[q]? = _
    by_cases hl : q ∈ l
    · exact ih _ _ hl (by rw [List.length_set]; exact hq)
    · rw [zeroAt_far _ _ _ hl]
      rcases List.mem_cons.1 h with rfl | h
      · rw [List.getElem?_set_self hq]
      · exact absurd h hl

structure Took (table : Nat) (g p1 : List (List UInt8)) (bm b1 : List UInt8) (k : Nat) (l : List Nat) : Prop where
  len : l.length = k
  nd : l.Nodup
  new : ∀ p ∈ l, table < p ∧ p < g.length ∧ bit bm p = false
  bits : ∀ q, bit b1 q = (decide (q ∈ l) || bit bm q)
  plen : p1.length = g.length
  far : ∀ q, q ≠ 0 → q ∉ l → p1[q]? = g[q]?
  at_ : ∀ q ∈ l, p1[q]? = some (List.replicate 256 0)
  pl : ∀ (q : Nat) (pg : List UInt8), p1[q]? = some pg → pg.length = 256

theorem take_facts {table k : Nat} {g p1 : List (List UInt8)} {bm b1 : List UInt8} {l : List Nat} (h27 : bm.length = 27) (hpl : ∀ (q : Nat) (pg : List UInt8), g[q]? = some pg → pg.length = 256)
    (hlow : ∀ i, i ≤ table → bit bm i = true) (h : takeSt table g bm k = some (l, p1, b1)) : Took table g p1 bm b1 k l := by
  unfold takeSt at h
  split at h
  · rename_i h0
    injection h with h
    injection h with e1 h
    injection h with e2 e3
    subst e1; subst e2; subst e3
    exact ⟨by rw [h0]; rfl, List.nodup_nil, (fun p hp => by cases hp), (fun q => by simp), rfl, (fun _ _ _ => rfl), (fun q hq => by cases hq), hpl⟩
  · rw [Option.map_eq_some_iff] at h
    obtain ⟨r, hr, he⟩ := h
    injection he with e1 he
    injection he with e2 e3
    subst e1; subst e3
    obtain ⟨f1, f2, f3, f4, f5⟩ := bmTake_spec _ _ _ _ _ _ (show bmTake bm 0 g.length k = some (r.1, r.2) from hr)
    have hnew : ∀ p ∈ r.1, table < p ∧ p < g.length ∧ bit bm p = false := fun p hp => by
      obtain ⟨_, a, _, b⟩ := f4 p hp
      refine ⟨Nat.lt_of_not_le (fun hc => ?_), a, b⟩
      rw [hlow p hc] at b
      cases b
    have hfar : ∀ q, q ≠ 0 → q ∉ r.1 → p1[q]? = g[q]? := fun q h0 hq => by
      rw [← e2, List.getElem?_set_ne (fun e => h0 e.symm), zeroAt_far _ _ _ hq]
    have hat : ∀ q ∈ r.1, p1[q]? = some (List.replicate 256 0) := fun q hq => by
      have := hnew q hq
      rw [← e2, List.getElem?_set_ne (by omega), zeroAt_at _ _ _ hq this.2.1]
    refine ⟨f1, f3, hnew, f5, by rw [← e2, List.length_set, zeroAt_length], hfar, hat, fun q pg hq => ?_⟩
    by_cases h0 : q = 0
    · subst h0
      rw [← e2, List.getElem?_set] at hq
      simp only [if_true] at hq
      split at hq
      · injection hq with hq
        rw [← hq]
        exact layB_length _ _ (by omega)
      · cases hq
    · by_cases hl : q ∈ r.1
      · rw [hat q hl] at hq
        injection hq with hq
        rw [← hq, List.length_replicate]
      · rw [hfar q h0 hl] at hq
        exact hpl q pg hq

/-- The bytes behind a write. -/
def overlay (d b : List UInt8) (P : Nat) : List UInt8 := (List.range (max d.length (P + b.length))).map fun i => if P ≤ i ∧ i < P + b.length then b.getD (i - P) 0 else d.getD i 0
theorem overlay_length (d b : List UInt8) (P : Nat) : (overlay d b P).length = max d.length (P + b.length) := by simp [overlay]
theorem overlay_at (d b : List UInt8) (P i : Nat) : (overlay d b P).getD i 0 = if P ≤ i ∧ i < P + b.length then b.getD (i - P) 0 else d.getD i 0 := by
  by_cases h : i < max d.length (P + b.length)
  · rw [List.getD_eq_getElem?_getD, overlay, List.getElem?_map, List.getElem?_range h]
    rfl
  · rw [List.getD_eq_getElem?_getD, List.getElem?_eq_none (by rw [overlay_length]; omega), if_neg (by omega), List.getD_eq_getElem?_getD, List.getElem?_eq_none (by omega)]
def Nod.write (y : Nod) (b : List UInt8) (P t : Nat) : Nod := { y with time := t, data := overlay y.data b P, has := fun i => y.has i || decide (P / 256 ≤ i ∧ i * 256 < P + b.length) }

/-- The pages of an inode behind a write. -/
theorem wr_pages {table P m t : Nat} {g p1 : List (List UInt8)} {bm b1 : List UInt8} {l : List Nat} {x : Ino} (h32 : x.pages.length = 32) (hP : P + m ≤ 8192)
    (hsm : g.length ≤ 216) (hT : Took table g p1 bm b1 (missing x.pages (spanParts P m)).length l) :
    (∀ i, i < 32 → (0 < m ∧ P / 256 ≤ i ∧ i * 256 < P + m) → x.pg i = 0 → (wrIno x (missing x.pages (spanParts P m)) l (P + m) t).pg i ∈ l) ∧
    (∀ i, i < 32 → ¬ ((0 < m ∧ P / 256 ≤ i ∧ i * 256 < P + m) ∧ x.pg i = 0) → (wrIno x (missing x.pages (spanParts P m)) l (P + m) t).pg i = x.pg i) ∧
    (∀ q ∈ l, ∃ i, i < 32 ∧ (0 < m ∧ P / 256 ≤ i ∧ i * 256 < P + m) ∧ x.pg i = 0 ∧ (wrIno x (missing x.pages (spanParts P m)) l (P + m) t).pg i = q) ∧
    (∀ i j, i < 32 → j < 32 → x.pg i = 0 → x.pg j = 0 → (0 < m ∧ P / 256 ≤ i ∧ i * 256 < P + m) → (0 < m ∧ P / 256 ≤ j ∧ j * 256 < P + m) →
      (wrIno x (missing x.pages (spanParts P m)) l (P + m) t).pg i = (wrIno x (missing x.pages (spanParts P m)) l (P + m) t).pg j → i = j) := by
  obtain ⟨need, hneed⟩ : ∃ need, need = missing x.pages (spanParts P m) := ⟨_, rfl⟩
  rw [← hneed] at hT ⊢
  have hmem : ∀ i, i ∈ need ↔ (0 < m ∧ P / 256 ≤ i ∧ i * 256 < P + m) ∧ x.pg i = 0 := fun i => by rw [hneed]; exact missing_mem _ _ _ _
  have hnd : need.Nodup := by rw [hneed]; exact missing_nodup _ _ _
  have hfst : (need.zip l).map (·.1) = need := by rw [List.map_fst_zip]; rw [hT.len]; exact Nat.le_refl _
  have hpgn : ∀ i, i < 32 → i ∉ need → (wrIno x need l (P + m) t).pg i = x.pg i := fun i hi hn => by
    show ((setPages x.pages (need.zip l)).getD i 0).toNat = _
    rw [setPages_not _ _ _ (by rw [hfst]; exact hn)]
    rfl
  have hpga : ∀ k (hk : k < need.length), need[k] < 32 → (wrIno x need l (P + m) t).pg need[k] = l[k]'(by rw [hT.len]; exact hk) := fun k hk hi => by
    show ((setPages x.pages (need.zip l)).getD need[k] 0).toNat = _
    have hz : (need[k], l[k]'(by rw [hT.len]; exact hk)) ∈ need.zip l := by
      rw [List.mem_iff_getElem]
      exact ⟨k, by rw [List.length_zip, hT.len]; omega, by rw [List.getElem_zip]⟩
    rw [setPages_at _ _ _ _ (by rw [hfst]; exact hnd) hz (by omega)]
    have := (hT.new _ (List.getElem_mem (show k < l.length by rw [hT.len]; exact hk))).2.1
    show (UInt8.ofNat _).toNat = _
    rw [UInt8.toNat_ofNat']
    omega
  have hidx : ∀ i, i < 32 → (0 < m ∧ P / 256 ≤ i ∧ i * 256 < P + m) → x.pg i = 0 → ∃ k, ∃ hk : k < need.length, need[k] = i ∧ (wrIno x need l (P + m) t).pg i = l[k]'(by rw [hT.len]; exact hk) := fun i hi h1 h2 => by
    obtain ⟨k, hk, he⟩ := List.getElem_of_mem ((hmem i).2 ⟨h1, h2⟩)
    refine ⟨k, hk, he, ?_⟩
    have := hpga k hk (by rw [he]; exact hi)
    rw [he] at this
    exact this
  refine ⟨fun i hi h1 h2 => ?_, fun i hi h1 => hpgn i hi (fun hm => h1 ((hmem i).1 hm)), fun q hq => ?_, fun i j hi hj h1 h2 h3 h4 h5 => ?_⟩
  · obtain ⟨k, hk, _, he⟩ := hidx i hi h1 h2
    rw [he]
    exact List.getElem_mem _
  · obtain ⟨k, hk, he⟩ := List.getElem_of_mem hq
    have hk2 : k < need.length := by rw [← hT.len]; exact hk
    have hm := (hmem need[k]).1 (List.getElem_mem hk2)
    have h32' : need[k] < 32 := by omega
    exact ⟨need[k], h32', hm.1, hm.2, by rw [hpga k hk2 h32', he]⟩
  · obtain ⟨k1, hk1, e1, f1⟩ := hidx i hi h3 h1
    obtain ⟨k2, hk2, e2, f2⟩ := hidx j hj h4 h2
    rw [f1, f2] at h5
    have hk12 : k1 = k2 := by
      have hp := List.pairwise_iff_getElem.1 hT.nd
      rcases Nat.lt_trichotomy k1 k2 with hl | hl | hl
      · exact absurd h5 (hp k1 k2 _ _ hl)
      · exact hl
      · exact absurd h5.symm (hp k2 k1 _ _ hl)
    subst hk12
    rw [← e1, ← e2]

theorem Ino.Good.ok {x : Ino} (h : x.Good) (hk : x.kind ≠ 0) : x.Ok := by
  rcases h with h | h
  · exact h
  · rw [h] at hk
    exact absurd rfl hk

/-- Write: the inode behind it may be, it has the span's pages, and the state is the document's. -/
theorem abs_write {table n P m t : Nat} {g p1 : List (List UInt8)} {bm b1 : List UInt8} {l : List Nat} {xs : List Ino} {S : List Nod} (h : Abs table g bm xs S) {x : Ino} {y : Nod} {b : List UInt8}
    (hx : xs[n]? = some x) (hy : S[n]? = some y) (hk : x.kind ≠ 0) (hm : b.length = m) (hm0 : m ≠ 0) (hP : P + m ≤ 8192) (ht : t ≤ 9223372036854775807)
    (htake : takeSt table g bm (missing x.pages (spanParts P m)).length = some (l, p1, b1)) :
    (wrIno x (missing x.pages (spanParts P m)) l (P + m) t).Ok ∧
    (∀ p ∈ spanParts P m, table < (wrIno x (missing x.pages (spanParts P m)) l (P + m) t).pageOf p ∧ (wrIno x (missing x.pages (spanParts P m)) l (P + m) t).pageOf p < g.length) ∧
    ∀ pg : List UInt8, (spreadPg (wrIno x (missing x.pages (spanParts P m)) l (P + m) t) b (spanParts P m) 0 p1)[1 + n / 4]? = some pg →
      Fs table ((spreadPg (wrIno x (missing x.pages (spanParts P m)) l (P + m) t) b (spanParts P m) 0 p1).set (1 + n / 4) (putIno pg (n % 4) (wrIno x (missing x.pages (spanParts P m)) l (P + m) t))) b1 (xs.set n (wrIno x (missing x.pages (spanParts P m)) l (P + m) t)) →
      Abs table ((spreadPg (wrIno x (missing x.pages (spanParts P m)) l (P + m) t) b (spanParts P m) 0 p1).set (1 + n / 4) (putIno pg (n % 4) (wrIno x (missing x.pages (spanParts P m)) l (P + m) t))) b1
        (xs.set n (wrIno x (missing x.pages (spanParts P m)) l (P + m) t)) (S.set n (y.write b P t)) := by
  have hnl := (List.getElem?_eq_some_iff.1 hx).1
  have hgood := h.fs.good x (List.mem_of_getElem? hx)
  have hok := hgood.ok hk
  have h32 := hok.len
  have hT := take_facts h.fs.bml h.pl h.low htake
  obtain ⟨W1, W2, W3, W4⟩ := wr_pages (t := t) h32 hP h.small hT
  have hlen : (wrIno x (missing x.pages (spanParts P m)) l (P + m) t).pages.length = 32 := by
    show (setPages _ _).length = 32
    rw [setPages_length, h32]
  have hattr : (wrIno x (missing x.pages (spanParts P m)) l (P + m) t).attr = x.attr := rfl
  have hsize : (wrIno x (missing x.pages (spanParts P m)) l (P + m) t).size = max x.size (P + m) := rfl
  have hkind : (wrIno x (missing x.pages (spanParts P m)) l (P + m) t).kind = x.kind := rfl
  have hmode : (wrIno x (missing x.pages (spanParts P m)) l (P + m) t).mode = x.mode := rfl
  have hlinks : (wrIno x (missing x.pages (spanParts P m)) l (P + m) t).links = x.links := rfl
  have htime : (wrIno x (missing x.pages (spanParts P m)) l (P + m) t).time = t := rfl
  generalize wrIno x (missing x.pages (spanParts P m)) l (P + m) t = x' at *
  have hown := h.own n x
  have hnb : ∀ q ∈ l, q ∉ x.all := fun q hq hq2 => by
    have h1 := (hT.new q hq).2.2
    rw [(hown q hx hq2).2.2] at h1
    cases h1
  obtain ⟨N1, N2⟩ := (all_nodup x h32).1 hok.nodup
  have hin : ∀ i, i < 32 → x.pg i ≠ 0 → x.pg i ∈ x.all := fun i hi h0 => (mem_all x h32 _).2 ⟨h0, .inr ⟨i, hi, rfl⟩⟩
  have hall : ∀ q, q ∈ x'.all ↔ q ∈ x.all ∨ q ∈ l := fun q => by
    constructor
    · intro hq
      obtain ⟨h0, hq⟩ := (mem_all x' hlen q).1 hq
      rcases hq with hq | ⟨i, hi, hq⟩
      · exact .inl ((mem_all x h32 q).2 ⟨h0, .inl (by rw [hq, hattr])⟩)
      · by_cases hc : (0 < m ∧ P / 256 ≤ i ∧ i * 256 < P + m) ∧ x.pg i = 0
        · exact .inr (hq ▸ W1 i hi hc.1 hc.2)
        · rw [W2 i hi hc] at hq
          exact .inl (hq ▸ hin i hi (by omega))
    · rintro (hq | hq)
      · obtain ⟨h0, hq⟩ := (mem_all x h32 q).1 hq
        refine (mem_all x' hlen q).2 ⟨h0, ?_⟩
        rcases hq with hq | ⟨i, hi, hq⟩
        · exact .inl (by rw [hq, hattr])
        · exact .inr ⟨i, hi, by rw [W2 i hi (by omega)]; exact hq⟩
      · obtain ⟨i, hi, _, _, he⟩ := W3 q hq
        exact (mem_all x' hlen q).2 ⟨by have := (hT.new q hq).1; omega, .inr ⟨i, hi, he⟩⟩
  have hpgl : ∀ i, i < 32 → x'.pg i ≠ 0 → table < x'.pg i ∧ x'.pg i < g.length := fun i hi h0 => by
    rcases (hall _).1 ((mem_all x' hlen _).2 ⟨h0, .inr ⟨i, hi, rfl⟩⟩) with hq | hq
    · have := hown _ hx hq
      exact ⟨this.1, this.2.1⟩
    · have := hT.new _ hq
      exact ⟨this.1, this.2.1⟩
  have hinj : ∀ i j, i < 32 → j < 32 → x'.pg i ≠ 0 → x'.pg i = x'.pg j → i = j := fun i j hi hj h0 he => by
    by_cases c1 : (0 < m ∧ P / 256 ≤ i ∧ i * 256 < P + m) ∧ x.pg i = 0 <;> by_cases c2 : (0 < m ∧ P / 256 ≤ j ∧ j * 256 < P + m) ∧ x.pg j = 0
    · exact W4 i j hi hj c1.2 c2.2 c1.1 c2.1 he
    · rw [W2 j hj c2] at he
      exact absurd (hin j hj (by omega)) (hnb _ (he ▸ W1 i hi c1.1 c1.2))
    · rw [W2 i hi c1] at he h0
      exact absurd (hin i hi h0) (hnb _ (he ▸ W1 j hj c2.1 c2.2))
    · rw [W2 i hi c1] at he h0
      rw [W2 j hj c2] at he
      exact N1 i j hi hj h0 he
  have hspan : ∀ i, P / 256 ≤ i → i * 256 < P + m → 0 < x'.pg i ∧ x'.pg i < g.length := fun i h1 h2 => by
    have hi : i < 32 := by omega
    have h0 : x'.pg i ≠ 0 := by
      by_cases c : x.pg i = 0
      · have := (hT.new _ (W1 i hi ⟨by omega, h1, h2⟩ c)).1
        omega
      · rw [W2 i hi (fun hc => c hc.2)]
        exact c
    exact ⟨by omega, (hpgl i hi h0).2⟩
  have hok' : x'.Ok := by
    refine ⟨by rw [hkind]; exact hok.kind, by rw [hmode]; exact hok.mode, by rw [hlinks]; exact hok.links, by rw [hsize]; have := hok.size; omega, by rw [htime]; exact ht, by rw [hattr]; exact hok.attr, hlen, fun i hi => ?_, ?_⟩
    · show x'.pg i < 216 ∧ (x'.pg i ≠ 0 → i < (x'.size + 255) / 256)
      by_cases h0 : x'.pg i = 0
      · exact ⟨by omega, fun hc => absurd h0 hc⟩
      · refine ⟨by have := (hpgl i hi h0).2; have := h.small; omega, fun _ => ?_⟩
        rw [hsize]
        by_cases c : (0 < m ∧ P / 256 ≤ i ∧ i * 256 < P + m) ∧ x.pg i = 0
        · omega
        · have : x.pg i ≠ 0 := by rw [← W2 i hi c]; exact h0
          have := (hok.page i hi).2 this
          omega
    · refine (all_nodup x' hlen).2 ⟨hinj, fun ha i hi he => ?_⟩
      rw [hattr] at ha he
      by_cases c : (0 < m ∧ P / 256 ≤ i ∧ i * 256 < P + m) ∧ x.pg i = 0
      · exact hnb _ (W1 i hi c.1 c.2) (he ▸ (mem_all x h32 _).2 ⟨ha, .inl rfl⟩)
      · rw [W2 i hi c] at he
        exact N2 ha i hi he
  refine ⟨hok', fun p hp => ?_, fun pg hpg hfs => ?_⟩
  · obtain ⟨_, h1, h2⟩ := (mem_parts p.page (P + m) P).1 ⟨p, hp, rfl⟩
    have h3 := hspan p.page h1 h2
    exact ⟨(hpgl p.page (by omega) (by omega)).1, h3.2⟩
  · obtain ⟨E1, E2, E3⟩ := spread_eff x' b hinj (P + m) P 0 p1 hT.pl hP (by omega) (fun i h1 h2 => by rw [hT.plen]; exact hspan i h1 h2)
    change (∀ i, i < 8192 → ibyte (spreadPg x' b (spanParts P m) 0 p1) x' i = _) at E1
    change (∀ q : Nat, _ → (spreadPg x' b (spanParts P m) 0 p1)[q]? = _) at E2
    change (∀ (q : Nat) (pg : List UInt8), (spreadPg x' b (spanParts P m) 0 p1)[q]? = some pg → _) at E3
    have hGl : (spreadPg x' b (spanParts P m) 0 p1).length = g.length := by rw [spreadPg_length, hT.plen]
    generalize spreadPg x' b (spanParts P m) 0 p1 = G at *
    have hnt := h.fs.nlen
    have hput : ∀ q, table < q → (G.set (1 + n / 4) (putIno pg (n % 4) x'))[q]? = G[q]? := fun q hq => by rw [List.getElem?_set_ne (by omega)]
    have hfar : ∀ q, table < q → q ∉ x'.all → (G.set (1 + n / 4) (putIno pg (n % 4) x'))[q]? = g[q]? := fun q h1 h2 => by
      rw [hput q h1, E2 q (fun i a b he => h2 (he ▸ (mem_all x' hlen _).2 ⟨by have := hspan i a b; omega, .inr ⟨i, by omega, rfl⟩⟩)), hT.far q (by omega) (fun hq => h2 ((hall q).2 (.inr hq)))]
    refine abs_step h hx hfs ⟨?_, ?_, ?_, ?_, ?_, fun i hi => ?_, fun i hi => ?_, ?_⟩ (by rw [List.length_set, hGl]) (put_len E3 (putIno_length pg _ x' (E3 _ _ hpg) (Nat.mod_lt _ (by omega)) hlen))
      (fun q h1 _ h3 => hfar q h1 h3) (fun q hq => ?_) (fun q => ?_)
    · rw [hkind]; exact (h.one n x y hx hy).kind
    · rw [hmode]; exact (h.one n x y hx hy).mode
    · rw [hlinks]; exact (h.one n x y hx hy).links
    · rw [htime]; rfl
    · rw [hsize, (h.one n x y hx hy).size]
      show _ = (overlay y.data b P).length
      rw [overlay_length, hm]
    · show _ = (overlay y.data b P).getD i 0
      rw [overlay_at, hm, ibyte_same (g := G) (fun h0 => hput _ (hpgl _ (by omega) h0).1), E1 i hi]
      by_cases c : P ≤ i ∧ i < P + m
      · rw [if_pos c, if_pos c, Nat.zero_add]
      · rw [if_neg c, if_neg c, ← (h.one n x y hx hy).data i hi]
        unfold ibyte
        by_cases c2 : (0 < m ∧ P / 256 ≤ i / 256 ∧ i / 256 * 256 < P + m) ∧ x.pg (i / 256) = 0
        · rw [if_pos c2.2]
          by_cases h0 : x'.pg (i / 256) = 0
          · rw [if_pos h0]
          · rw [if_neg h0]
            unfold pbyte
            simp only [List.getD_eq_getElem?_getD]
            rw [hT.at_ _ (W1 _ (by omega) c2.1 c2.2)]
            simp only [Option.getD_some, List.getElem?_replicate]
            split <;> rfl
        · have he := W2 (i / 256) (by omega) c2
          rw [he]
          by_cases h0 : x.pg (i / 256) = 0
          · rw [if_pos h0, if_pos h0]
          · rw [if_neg h0, if_neg h0]
            exact pbyte_same (hT.far _ h0 (fun hq => hnb _ hq (hin _ (by omega) h0))) _
    · show (y.has i || decide (P / 256 ≤ i ∧ i * 256 < P + b.length)) = _
      rw [(h.one n x y hx hy).has i hi, hm]
      by_cases c : (0 < m ∧ P / 256 ≤ i ∧ i * 256 < P + m) ∧ x.pg i = 0
      · have := hspan i c.1.2.1 c.1.2.2
        rw [decide_eq_true (show P / 256 ≤ i ∧ i * 256 < P + m from c.1.2), Bool.or_true, decide_eq_true (by omega)]
      · rw [W2 i hi c]
        by_cases h0 : x.pg i = 0
        · rw [h0, decide_eq_false (show ¬ (P / 256 ≤ i ∧ i * 256 < P + m) from fun hc => c ⟨⟨by omega, hc⟩, h0⟩)]
          rfl
        · simp [h0]
    · rw [hattr]
      rcases (h.one n x y hx hy).att with a | ⟨a, b2⟩
      · exact .inl a
      · refine .inr ⟨a, ?_⟩
        have ha : x.attr ∈ x.all := (mem_all x h32 _).2 ⟨a, .inl rfl⟩
        have hta := (hown _ hx ha).1
        rw [hput _ hta, E2 _ (fun i h1 h2 he => ?_), hT.far _ a (fun hq => hnb _ hq ha)]
        · exact b2
        · exact ((all_nodup x' hlen).1 hok'.nodup).2 (by rw [hattr]; exact a) i (by omega) (by rw [hattr]; exact he)
    · rcases (hall q).1 hq with h1 | h1
      · exact .inl h1
      · exact .inr (hT.new q h1)
    · rw [hT.bits]
      by_cases a : q ∈ x'.all
      · rw [if_pos a]
        rcases (hall q).1 a with h1 | h1
        · rw [(hown q hx h1).2.2, Bool.or_true]
        · rw [decide_eq_true h1, Bool.true_or]
      · rw [if_neg a, if_neg (fun h1 => a ((hall q).2 (.inl h1))), decide_eq_false (fun h1 => a ((hall q).2 (.inr h1))), Bool.false_or]
end Go.Proofs.YtcbdjmlkjifamaaGreatDoor
