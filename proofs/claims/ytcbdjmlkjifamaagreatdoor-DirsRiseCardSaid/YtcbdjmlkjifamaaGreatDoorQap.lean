/-
  Package files: what Trunc does to an inode, at a system that was made. Conditions: a state that is consistent; the inode's pages are the system's. Package files: turn with Trunc's function, and Trunc, at a system that was made. Conditions: a state that is consistent; the inode's pages are the system's.
-/
import Derived.Test.YtcbdjmlkjifamaaGreatDoorQao
set_option linter.unusedVariables false
set_option linter.unusedSimpArgs false

/- Package files: what Trunc does to an inode, at a system that was made. Conditions: a state that is consistent; the inode's pages are the system's. -/
namespace Go.Proofs.YtcbdjmlkjifamaaGreatDoor
open Go.RowKit
set_option maxRecDepth 100000

/-- Pages from k0 on are gone, as far as k. -/
def cutTo (ps : List UInt8) (k0 k : Nat) : List UInt8 := ps.mapIdx fun i v => if k0 ≤ i ∧ i < k then 0 else v
theorem cutTo_length (ps : List UInt8) (k0 k : Nat) : (cutTo ps k0 k).length = ps.length := by simp [cutTo]
theorem cutTo_at (ps : List UInt8) (k0 k i : Nat) : (cutTo ps k0 k).getD i 0 = if k0 ≤ i ∧ i < k then 0 else ps.getD i 0 := by
  simp only [List.getD_eq_getElem?_getD, cutTo, List.getElem?_mapIdx]
  by_cases h : i < ps.length
  · rw [List.getElem?_eq_getElem h]
    rfl
  · rw [List.getElem?_eq_none (by omega)]
    split <;> rfl
theorem cutTo_nil (ps : List UInt8) (k : Nat) : cutTo ps k k = ps := by
  apply List.ext_getElem (cutTo_length _ _ _)
  intro i h1 h2
  simp only [cutTo, List.getElem_mapIdx]
  rw [if_neg (by omega)]
theorem cutTo_set (ps : List UInt8) (k0 k : Nat) (h : k0 ≤ k) : (cutTo ps k0 k).set k 0 = cutTo ps k0 (k + 1) := by
  apply List.ext_getElem (by simp [cutTo])
  intro i h1 h2
  rw [List.getElem_set]
  simp only [cutTo, List.getElem_mapIdx]
  by_cases e : k = i
  · rw [if_pos e, if_pos (by omega)]
  · rw [if_neg e]
    by_cases c : k0 ≤ i ∧ i < k
    · rw [if_pos c, if_pos (by omega)]
    · rw [if_neg c, if_neg (by omega)]
theorem cutTo_same (ps : List UInt8) (k0 k : Nat) (h0 : ps.getD k 0 = 0) : cutTo ps k0 (k + 1) = cutTo ps k0 k := by
  apply List.ext_getElem (by simp [cutTo])
  intro i h1 h2
  simp only [cutTo, List.getElem_mapIdx]
  by_cases c : k0 ≤ i ∧ i < k
  · rw [if_pos c, if_pos (by omega)]
  · by_cases e : k0 ≤ i ∧ i < k + 1
    · rw [if_pos e, if_neg c]
      have : i = k := by omega
      subst this
      have hl : i < ps.length := by simpa [cutTo] using h1
      rw [List.getD_eq_getElem?_getD, List.getElem?_eq_getElem hl] at h0
      exact h0.symm
    · rw [if_neg e, if_neg c]
/-- The pages from k0 on, as far as k. -/
def behind (ps : List UInt8) (k0 k : Nat) : List Nat := ((List.range (k - k0)).map fun j => (ps.getD (k0 + j) 0).toNat).filter fun z => !(z == 0)
theorem behind_nil (ps : List UInt8) (k : Nat) : behind ps k k = [] := by simp [behind]
theorem behind_snoc (ps : List UInt8) (k0 k : Nat) (h : k0 ≤ k) : behind ps k0 (k + 1) = if (ps.getD k 0).toNat = 0 then behind ps k0 k else behind ps k0 k ++ [(ps.getD k 0).toNat] := by
  unfold behind
  rw [show k + 1 - k0 = (k - k0) + 1 from by omega, List.range_succ, List.map_append, List.filter_append, List.map_cons, List.map_nil, show k0 + (k - k0) = k from by omega]
  by_cases h0 : (ps.getD k 0).toNat = 0
  · rw [if_pos h0, h0]
    simp
  · rw [if_neg h0]
    simp only [List.filter_cons, List.filter_nil]
    rw [if_pos (by rw [Bool.not_eq_true', beq_eq_false_iff_ne]; exact h0)]
theorem behind_le (ps : List UInt8) (k0 k : Nat) : (behind ps k0 k).length ≤ k - k0 := by
  unfold behind
  refine Nat.le_trans (List.length_filter_le _ _) ?_
  simp
theorem behind_small (ps : List UInt8) (k0 k : Nat) : ∀ n ∈ behind ps k0 k, n ≤ 4096 := fun n hn => by
  obtain ⟨h1, _⟩ := List.mem_filter.1 hn
  obtain ⟨j, _, rfl⟩ := List.mem_map.1 h1
  have := UInt8.toNat_lt (ps.getD (k0 + j) 0)
  omega

/-- The inode behind Trunc, but for its time. -/
def cutIno (x : Ino) (size : Nat) : Ino := ⟨x.kind, x.mode, x.links, size, x.time, x.attr, cutTo x.pages ((size + 255) / 256) 32⟩
/-- The pages behind Trunc. -/
def truncPg (table : Nat) (x : Ino) (size : Nat) (g : List (List UInt8)) (bm : List UInt8) : List (List UInt8) :=
  if size < x.size then clearPg (cutIno x size) (g.set 0 (layB table (bmGive bm (behind x.pages ((size + 255) / 256) 32)))) else g.set 0 (layB table (bmGive bm (behind x.pages ((size + 255) / 256) 32)))

theorem Fsys.ino_ {w w' : World} {fb ib pb ab table : Nat} {pgs : List (List UInt8)} {bm : List UInt8} {nodes : List Ino} (h : Fsys w fb ib pb ab table pgs bm nodes) {xb : Nat} {cs : Array Value} (hx : Blk w xb 53 cs) (hk : Kept [xb] w w') :
    Fsys w' fb ib pb ab table pgs bm nodes := by
  obtain ⟨cap, vs, h5, h6, h7, h8, h9, h10⟩ := h.img.row
  have n1 : ib ∉ [xb] := by rw [List.mem_singleton]; exact h.img.image.ne_ hx (by decide)
  have n2 : pb ∉ [xb] := by rw [List.mem_singleton]; exact h5.ne_ hx (by decide)
  have n3 : ab ∉ [xb] := by rw [List.mem_singleton]; exact h6.ne_ hx (by decide)
  have n4 : fb ∉ [xb] := by rw [List.mem_singleton]; exact h.files.ne_ hx (by decide)
  refine ⟨h.files.keep hk n4, ⟨h.img.image.keep hk n1, ⟨cap, vs, h5.keep hk n2, h6.keep hk n3, h7, h8, h9, fun i hi => ?_⟩, h.img.len, h.img.small⟩, h.fs⟩
  obtain ⟨A, c, h11, h12⟩ := h10 i hi
  exact ⟨A, c, h11, h12.other hk hx (by decide)⟩
theorem Blk.past {w w' : World} {g : Nat} {t : TypeId} {cs : Array Value} (h : Blk w g t cs) {ib pb ab : Nat} {pgs : List (List UInt8)} (hi : Img w ib pb ab pgs) (hk : Kept [ab] w w') (ht : t ≠ 56) : Blk w' g t cs := by
  obtain ⟨_, _, _, hab, _⟩ := hi.row
  exact h.keep hk (by rw [List.mem_singleton]; exact h.ne_ hab ht)

/-- What the loop of Trunc knows. -/
def TrRel (w : World) (xb : Nat) (x : Ino) (k0 : Nat) (v a : Value) (wr : World) : Prop :=
  ∃ k : Nat, k0 ≤ k ∧ k ≤ 32 ∧ a = .int .i64 k ∧ wr.ownsRow w.heap.size 3 1 v (behind x.pages k0 k).length ((behind x.pages k0 k).map i64) ∧
    Blk wr xb 53 ({ x with pages := cutTo x.pages k0 k } : Ino).cells ∧ Kept [xb] w wr

set_option maxHeartbeats 2000000 in
theorem files_Trunc1 (w : World) (fb ib pb ab table : Nat) (g : List (List UInt8)) (bm : List UInt8) (nodes : List Ino) (x : Ino) (xb sb qb size : Nat) (h : Fsys w fb ib pb ab table g bm nodes) (hx : Blk w xb 53 x.cells)
    (hs : Blk w sb 3 #[.int .i64 size]) (hq : Blk w qb 41 #[.pointer (some ⟨fb, 0, none⟩)]) (hsz : size ≤ 8192) (hl : x.pages.length = 32) (hok : giveOk bm (behind x.pages ((size + 255) / 256) 32))
    (hp : ∀ i, i < 32 → (x.pages.getD i 0) ≠ 0 → table < (x.pages.getD i 0).toNat ∧ (x.pages.getD i 0).toNat < g.length) :
    Calls Tryz.prog 84 #[.pointer (some ⟨xb, 0, none⟩), .pointer (some ⟨sb, 0, none⟩), .pointer (some ⟨qb, 0, none⟩)] w fun e w' => e = .returned (.int .i64 0) ∧
      Blk w' xb 53 (cutIno x size).cells ∧ Fsys w' fb ib pb ab table (truncPg table x size g bm) (bmGive bm (behind x.pages ((size + 255) / 256) 32)) nodes ∧ Kept [xb, ab] w w' := by
  obtain ⟨k0, hk0⟩ : ∃ k0, k0 = (size + 255) / 256 := ⟨_, rfl⟩
  have hk32 : k0 ≤ 32 := by omega
  have hPG : ∀ W, Calls Tryz.prog 85 #[.int .i64 size] W fun e w' => e = .returned (.int .i64 k0) ∧ W = w' := fun W => by
    have := span_Pages size W (by omega) (by omega)
    rw [pagesOf_nat, ← hk0] at this
    exact this
  obtain ⟨i0, hi, hz0, hz1, hz2⟩ := info_parts int_info
  have c1 : w.cell? ⟨sb, 0, none⟩ = some (.int .i64 size) := by rw [hs.cell]; rfl
  have HPG := Lib.hid hPG
  have H := Lib.hid h
  have HX := Lib.hid hx
  have HS := Lib.hid hs
  have HQ := Lib.hid hq
  have HL := Lib.hid hl
  have HOK := Lib.hid hok
  have HP := Lib.hid hp
  have HK0 := Lib.hid hk0
  have hn1 : ¬ (size : Int) < 0 := by omega
  have hn2 : ¬ (8192 : Int) < size := by omega
  clear hPG h hx hs hq hl hok hp hk0
  go_enter Tryz.func84, Tryz.ntmps84
  go_wp2_with (go_at_call 85; refine (HPG.out _).mono ?_; rintro e w' ⟨rfl, rfl⟩)
  go_loopw [5, 6] (fun v a wr => TrRel w xb x k0 v a wr) (fun _ a _ => 32 - (intOf a).toNat)
  case atStart => exact ⟨k0, Nat.le_refl _, hk32, rfl, by rw [behind_nil]; exact World.ownsRow_nil _ _ _ _, by rw [cutTo_nil]; exact HX.out, Kept.refl _ _⟩
  case round =>
    obtain ⟨k, hk1, hk2, rfl, ho, hxr, hkr⟩ := hrel
    obtain ⟨A1, cc1, rfl⟩ := own_form ho
    have HO := Lib.hid ho
    have HXR := Lib.hid hxr
    have HKR := Lib.hid hkr
    clear ho hxr hkr
    by_cases hlt : k < 32
    · obtain ⟨y, hy⟩ : ∃ y, y = (x.pages.getD k 0).toNat := ⟨_, rfl⟩
      have hy8 : y < 256 := by rw [hy]; exact UInt8.toNat_lt _
      have hcy : wr.cell? ⟨xb, 6 + k, none⟩ = some (.int .u8 y) := by
        rw [HXR.out.cell, Ino.at6, pgCells_get _ _ (by rw [cutTo_length, HL.out]; exact hlt), cutTo_at, if_neg (by omega), ← hy]
      have hbl := behind_le x.pages k0 k
      have hbs := behind_snoc x.pages k0 k hk1
      rw [← hy] at hbs
      have HY := Lib.hid hy
      have HBS := Lib.hid hbs
      clear hy hbs
      by_cases hy0 : y = 0
      · subst hy0
        go_wp2_with fail
        go_roundw
        case rel =>
          refine ⟨k + 1, by omega, by omega, by go_num, ?_, ?_, HKR.out⟩
          · rw [HBS.out, if_pos rfl]
            exact HO.out
          · rw [cutTo_same _ _ _ (UInt8.toNat_inj.1 HY.out.symm)]
            exact HXR.out
        case measure => simp [intOf]; omega
      · have hyn : ((y : Int) == 0) = false := by rw [beq_eq_false_iff_ne]; omega
        go_wp2_with (at_builtin; refine Stop.here ?_)
        refine Stop.go ?_
        refine wpList_append_any _ rfl (.tmp 28) (.tmp 36) _ rfl w.heap.size 3 i0 _ 1 8 Tryz.underlying140 hi hz0 hz1 hz2 rfl (by omega) _ _ _ rfl (HO.out.alloc _) [] 3 _ 1 1 [.int .i64 y] rfl (Sl.new rfl (by simp) rfl (by omega)) (by simp [Value.oneCell']) (by simp only [maxLen]; omega) (by omega) (by have := HKR.out.size; simp; omega) ?_
        intro v2 w2 hown hg2 _
        have hal := HO.out.alloc (.cells #[.int .i64 y] 3)
        have hxa := HXR.out.alloc (.cells #[.int .i64 y] 3)
        have hkw2 : Kept [xb] w w2 := (HKR.out.alloc _).grown hg2 (fun d hd => .inl ((HO.out.alloc (.cells #[.int .i64 y] 3)).lt d hd).1)
        have hx2 : Blk w2 xb 53 ({ x with pages := cutTo x.pages k0 k } : Ino).cells := hxa.grown hg2 (own_ne hal hxa (by decide))
        have hcy2 : w2.cell? ⟨xb, 6 + k, none⟩ = some (.int .u8 y) := by
          rw [hx2.cell, Ino.at6, pgCells_get _ _ (by rw [cutTo_length, HL.out]; exact hlt), cutTo_at, if_neg (by omega), ← HY.out]
        have hfy2 := hx2.frozen (6 + k)
        have hset := hx2.set_ (6 + k) (b8 0)
        rw [Ino.cells_set x _ k _ (by rw [cutTo_length, HL.out]; exact hlt), cutTo_set _ _ _ hk1] at hset
        obtain ⟨A2, cc2, rfl⟩ := own_form hown
        have hown2 := own_other hown (p := ⟨xb, 6 + k, none⟩) (own_ne hown hx2 (by decide)).symm (.int .u8 0)
        have HO2 := Lib.hid hown2
        have HKW := Lib.hid (hkw2.setCell (p := ⟨xb, 6 + k, none⟩) (.inr (by simp)) (.int .u8 0))
        have HSET := Lib.hid hset
        clear hown hg2 hkw2 hx2 hset hown2 hal hxa
        go_wp2_with fail
        go_roundw
        case rel =>
          refine ⟨k + 1, by omega, by omega, by go_num, ?_, HSET.out, HKW.out⟩
          have ho := HO2.out
          rw [HBS.out, if_neg hy0, List.length_append, List.map_append]
          exact ho
        case measure => simp [intOf]; omega
    · obtain rfl : k = 32 := by omega
      have hbl := behind_le x.pages k0 32
      obtain ⟨A', c', he, hints⟩ := Sl.of_row (D := []) HO.out (by simp) (by omega)
      injection he with e1 _ e3
      subst e1; subst e3
      obtain ⟨bl, hbe⟩ : ∃ bl, bl = behind x.pages k0 32 := ⟨_, rfl⟩
      rw [← hbe] at hints hbl ⊢
      have hbs : ∀ n ∈ bl, n ≤ 4096 := by rw [hbe]; exact behind_small _ _ _
      have hok2 : giveOk bm bl := by rw [hbe, HK0.out]; exact HOK.out
      have hF := H.out.ino_ HX.out HKR.out
      have hqr : Blk wr qb 41 #[.pointer (some ⟨fb, 0, none⟩)] := HQ.out.keep HKR.out (by rw [List.mem_singleton]; exact HQ.out.ne_ HX.out (by decide))
      have hsr : Blk wr sb 3 #[.int .i64 size] := HS.out.keep HKR.out (by rw [List.mem_singleton]; exact HS.out.ne_ HX.out (by decide))
      have c2 : wr.cell? ⟨qb, 0, none⟩ = some (.pointer (some ⟨fb, 0, none⟩)) := by rw [hqr.cell]; rfl
      have HGV := Lib.hid (files_give wr fb ib pb ab table g bm nodes A1 cc1 _ bl hF hints rfl hbs hok2)
      have HF := Lib.hid hF
      have HQR := Lib.hid hqr
      have HSR := Lib.hid hsr
      have HBE := Lib.hid hbe
      clear hints hbs hok2 hF hqr hsr hbe
      go_wp2_with (go_at_call 86; refine Stop.here ?_)
      refine Stop.go ?_
      refine HGV.out.mono ?_
      rintro e w1 ⟨rfl, hf1, hk1'⟩
      have hx1 := HXR.out.past HF.out.img hk1' (by decide)
      have hq1 := HQR.out.past HF.out.img hk1' (by decide)
      have hs1 := HSR.out.past HF.out.img hk1' (by decide)
      have hkk : Kept [xb, ab] w w1 := (HKR.out.mono (D' := [xb, ab]) (by simp)).trans (hk1'.mono (D' := [xb, ab]) (by simp))
      have d1 : w1.cell? ⟨sb, 0, none⟩ = some (.int .i64 size) := by rw [hs1.cell]; rfl
      have d2 : w1.cell? ⟨xb, 3, none⟩ = some (.int .i64 x.size) := by rw [hx1.cell, Ino.at3]
      have d3 := hx1.frozen 3
      obtain ⟨W2, hW2⟩ : ∃ W2, W2 = w1.setCell ⟨xb, 3, none⟩ (.int .i64 size) := ⟨_, rfl⟩
      have hx2 : Blk W2 xb 53 (cutIno x size).cells := by
        have h1 := hx1.set_ 3 (.int .i64 size)
        rw [← hW2] at h1
        have e : ({ x with pages := cutTo x.pages k0 32 } : Ino).cells.setIfInBounds 3 (.int .i64 size) = (cutIno x size).cells := by
          apply Array.ext'
          simp [Ino.cells, cutIno, ← HK0.out]
        rw [e] at h1
        exact h1
      have hk2x : Kept [xb] w1 W2 := by rw [hW2]; exact (Kept.refl _ _).setCell (.inr (by simp)) _
      have hf2 := hf1.ino_ hx1 hk2x
      have hs2 : Blk W2 sb 3 #[.int .i64 size] := hs1.keep hk2x (by rw [List.mem_singleton]; exact hs1.ne_ hx1 (by decide))
      have hq2 : Blk W2 qb 41 #[.pointer (some ⟨fb, 0, none⟩)] := hq1.keep hk2x (by rw [List.mem_singleton]; exact hq1.ne_ hx1 (by decide))
      have f1 : W2.cell? ⟨sb, 0, none⟩ = some (.int .i64 size) := by rw [hs2.cell]; rfl
      have f2 : W2.drew.cell? ⟨qb, 0, none⟩ = some (.pointer (some ⟨fb, 0, none⟩)) := by rw [hq2.drew.cell]; rfl
      have HK2 := Lib.hid (show Kept [xb, ab] w W2 from hkk.trans (hk2x.mono (D' := [xb, ab]) (by simp)))
      have HX2 := Lib.hid hx2
      have HF2 := Lib.hid hf2
      have HBD := Lib.hid hx2.drew
      have HFD := Lib.hid (hf2.keep0 (Kept.refl [] _).drew)
      have hlen2 : (cutIno x size).pages.length = 32 := by
        show (cutTo _ _ _).length = 32
        rw [cutTo_length, HL.out]
      have HI := Lib.hid (show (Tryz.prog.info? 53).map (·.size) = some (cutIno x size).cells.size by rw [Ino.cells_size _ hlen2]; exact ino_info)
      have hcl := files_clear W2.drew fb ib pb ab table _ _ nodes (cutIno x size) HFD.out hlen2 (show size ≤ 8192 from hsz) (fun i hi h0 => by
        have e : (cutIno x size).pages.getD i 0 = if (size + 255) / 256 ≤ i ∧ i < 32 then 0 else x.pages.getD i 0 := cutTo_at _ _ _ _
        rw [List.length_set]
        rw [e] at h0 ⊢
        split at h0
        · exact absurd rfl h0
        · rename_i hc
          rw [if_neg hc]
          exact HP.out i hi h0)
      have HCL := Lib.hid hcl
      have htp : truncPg table x size g bm = if size < x.size then clearPg (cutIno x size) (g.set 0 (layB table (bmGive bm bl))) else g.set 0 (layB table (bmGive bm bl)) := by
        rw [HBE.out, HK0.out]
        rfl
      have hbg : bmGive bm (behind x.pages ((size + 255) / 256) 32) = bmGive bm bl := by rw [HBE.out, HK0.out]
      have HBG := Lib.hid hbg
      clear hf1 hk1' hx1 hq1 hs1 hkk hx2 hk2x hf2 hs2 hq2 hcl hbg hbl
      by_cases hsl : size < x.size
      · have hsi : (size : Int) < x.size := by omega
        rw [if_pos hsl] at htp
        have HTP := Lib.hid htp
        clear htp
        go_wp2_with fail
        refine wp_region_any (by kernel_rfl) ?_
        change wpAny _ _ _ _ _ _ _ (World.drew _)
        rw [← hW2]
        clear hW2
        -- ORDERS
        refine wpAny_take (i := 1) (v := .pointer (some ⟨xb, 0, none⟩)) rfl (by kernel_rfl) (by kernel_rfl) (by kernel_rfl) (fun _ _ _ h => h) (Or.inl ⟨by rfl, ?_⟩) ?_
        · intro w
          go_simp
        refine wpAny_ready (rs := [0, 2]) (by kernel_rfl) (by simp) ?_
        refine (AllReady.cons rfl (fun K hK => ?_) (AllReady.cons rfl (fun K hK => ?_) AllReady.nil))
        · skip
          go_simp
          refine hK _ _ ?_
          clear hK K
          refine wpAny_ready (rs := [2]) (by kernel_rfl) (by simp) ?_
          refine (AllReady.cons rfl (fun K hK => ?_) AllReady.nil)
          go_simp
          refine hK _ _ ?_
          clear hK K
          refine wpAny_ready (rs := [3]) (by kernel_rfl) (by simp) ?_
          refine (AllReady.cons rfl (fun K hK => ?_) AllReady.nil)
          refine step_load_row rfl 53 (.tmp 62) rfl xb rfl 53 (cutIno x size).cells (0, 0) _ HBD.out Tryz.underlying53 rfl HI.out ?_
          refine hK _ _ ?_
          clear hK K
          refine wpAny_ready (rs := [4]) (by kernel_rfl) (by simp) ?_
          refine (AllReady.cons rfl (fun K hK => ?_) AllReady.nil)
          go_simp
          refine Calls.mono HCL.out ?_
          rintro e w9 ⟨rfl, hf9, hk9⟩
          have HF9 := Lib.hid hf9
          have HK9 := Lib.hid hk9
          clear hf9 hk9
          refine hK _ _ ?_
          clear hK K
          refine wpAny_ready (rs := [5]) (by kernel_rfl) (by simp) ?_
          refine (AllReady.cons rfl (fun K hK => ?_) AllReady.nil)
          go_simp
          refine hK _ _ ?_
          clear hK K
          refine wpAny_done (by kernel_rfl) ?_ _
          go_wp2_with fail
          go_ret
          have hb9 := HBD.out.past HFD.out.img HK9.out (by decide)
          refine ⟨rfl, hb9, ?_, ((HK2.out.drew.mono (D' := [xb, ab]) (by simp)).trans (HK9.out.mono (D' := [xb, ab]) (by simp)))⟩
          rw [HBG.out, HTP.out]
          exact HF9.out
        · skip
          go_simp
          refine hK _ _ ?_
          clear hK K
          refine wpAny_ready (rs := [0, 3]) (by kernel_rfl) (by simp) ?_
          refine (AllReady.cons rfl (fun K hK => ?_) (AllReady.cons rfl (fun K hK => ?_) AllReady.nil))
          · skip
            go_simp
            refine hK _ _ ?_
            clear hK K
            refine wpAny_ready (rs := [3]) (by kernel_rfl) (by simp) ?_
            refine (AllReady.cons rfl (fun K hK => ?_) AllReady.nil)
            refine step_load_row rfl 53 (.tmp 62) rfl xb rfl 53 (cutIno x size).cells (0, 0) _ HBD.out Tryz.underlying53 rfl HI.out ?_
            refine hK _ _ ?_
            clear hK K
            refine wpAny_ready (rs := [4]) (by kernel_rfl) (by simp) ?_
            refine (AllReady.cons rfl (fun K hK => ?_) AllReady.nil)
            go_simp
            refine Calls.mono HCL.out ?_
            rintro e w9 ⟨rfl, hf9, hk9⟩
            have HF9 := Lib.hid hf9
            have HK9 := Lib.hid hk9
            clear hf9 hk9
            refine hK _ _ ?_
            clear hK K
            refine wpAny_ready (rs := [5]) (by kernel_rfl) (by simp) ?_
            refine (AllReady.cons rfl (fun K hK => ?_) AllReady.nil)
            go_simp
            refine hK _ _ ?_
            clear hK K
            refine wpAny_done (by kernel_rfl) ?_ _
            go_wp2_with fail
            go_ret
            have hb9 := HBD.out.past HFD.out.img HK9.out (by decide)
            refine ⟨rfl, hb9, ?_, ((HK2.out.drew.mono (D' := [xb, ab]) (by simp)).trans (HK9.out.mono (D' := [xb, ab]) (by simp)))⟩
            rw [HBG.out, HTP.out]
            exact HF9.out
          · skip
            refine step_load_row rfl 53 (.tmp 62) rfl xb rfl 53 (cutIno x size).cells (0, 0) _ HBD.out Tryz.underlying53 rfl HI.out ?_
            refine hK _ _ ?_
            clear hK K
            refine wpAny_ready (rs := [0]) (by kernel_rfl) (by simp) ?_
            refine (AllReady.cons rfl (fun K hK => ?_) AllReady.nil)
            go_simp
            refine hK _ _ ?_
            clear hK K
            refine wpAny_ready (rs := [4]) (by kernel_rfl) (by simp) ?_
            refine (AllReady.cons rfl (fun K hK => ?_) AllReady.nil)
            go_simp
            refine Calls.mono HCL.out ?_
            rintro e w9 ⟨rfl, hf9, hk9⟩
            have HF9 := Lib.hid hf9
            have HK9 := Lib.hid hk9
            clear hf9 hk9
            refine hK _ _ ?_
            clear hK K
            refine wpAny_ready (rs := [5]) (by kernel_rfl) (by simp) ?_
            refine (AllReady.cons rfl (fun K hK => ?_) AllReady.nil)
            go_simp
            refine hK _ _ ?_
            clear hK K
            refine wpAny_done (by kernel_rfl) ?_ _
            go_wp2_with fail
            go_ret
            have hb9 := HBD.out.past HFD.out.img HK9.out (by decide)
            refine ⟨rfl, hb9, ?_, ((HK2.out.drew.mono (D' := [xb, ab]) (by simp)).trans (HK9.out.mono (D' := [xb, ab]) (by simp)))⟩
            rw [HBG.out, HTP.out]
            exact HF9.out
        -- ORDERS END
      · have hsi : ¬ (size : Int) < x.size := by omega
        rw [if_neg hsl] at htp
        have HTP := Lib.hid htp
        clear htp
        go_wp2_with fail
        rw [← hW2]
        clear hW2
        go_ret
        refine ⟨rfl, HX2.out, ?_, HK2.out⟩
        rw [HBG.out, HTP.out]
        exact HF2.out
end Go.Proofs.YtcbdjmlkjifamaaGreatDoor

/- Package files: turn with Trunc's function, and Trunc, at a system that was made. Conditions: a state that is consistent; the inode's pages are the system's. -/
namespace Go.Proofs.YtcbdjmlkjifamaaGreatDoor
open Go.RowKit
set_option maxRecDepth 100000

/-- The inode behind Trunc. -/
def truncIno (x : Ino) (size t : Nat) : Ino := ⟨x.kind, x.mode, x.links, size, t, x.attr, cutTo x.pages ((size + 255) / 256) 32⟩

theorem usedOf_some {nodes : List Ino} {n : Nat} {x : Ino} (hx : nodes[n]? = some x) (hk : x.kind ≠ 0) : usedOf nodes n = (x, 0) := by
  have hi : inoOf nodes n = (x, 0) := by
    unfold inoOf
    rw [if_pos (Int.natCast_nonneg n), Int.toNat_natCast, hx]
  unfold usedOf
  rw [hi]
  simp [hk]

set_option maxHeartbeats 2000000 in
theorem files_turn_Trunc (w : World) (fb ib pb ab table : Nat) (g : List (List UInt8)) (bm : List UInt8) (nodes : List Ino) (n size t sb qb : Nat) (x : Ino) (h : Fsys w fb ib pb ab table g bm nodes) (hx : nodes[n]? = some x) (hk : x.kind ≠ 0)
    (hs : Blk w sb 3 #[.int .i64 size]) (hq : Blk w qb 41 #[.pointer (some ⟨fb, 0, none⟩)]) (hsz : size ≤ 8192) (ht : t ≤ 9223372036854775807) (hok : giveOk bm (behind x.pages ((size + 255) / 256) 32))
    (hp : ∀ i, i < 32 → (x.pages.getD i 0) ≠ 0 → table < (x.pages.getD i 0).toNat ∧ (x.pages.getD i 0).toNat < g.length) (hok' : (truncIno x size t).Ok) :
    Calls Tryz.prog 83 #[.pointer (some ⟨fb, 0, none⟩), .int .i64 n, .int .i64 t, .func (.func 84) #[] #[.pointer (some ⟨sb, 0, none⟩), .pointer (some ⟨qb, 0, none⟩)]] w fun e w' => e = .returned (.int .i64 0) ∧
      ∃ pg, (truncPg table x size g bm)[1 + n / 4]? = some pg ∧
      Fsys w' fb ib pb ab table ((truncPg table x size g bm).set (1 + n / 4) (putIno pg (n % 4) (truncIno x size t))) (bmGive bm (behind x.pages ((size + 255) / 256) 32)) (nodes.set n (truncIno x size t)) ∧ Kept [ab] w w' := by
  have hu := usedOf_some hx hk
  have cU : ∀ W, Kept [] w W → Calls Tryz.prog 35 #[.pointer (some ⟨fb, 0, none⟩), .int .i64 n] W fun e w' => e = .returned (.tuple #[.agg x.cells, .int .i64 0]) ∧ Kept [] W w' := fun W hW => by
    have := files_used_any W fb ib pb ab table g bm nodes n (h.keep0 hW)
    rw [hu] at this
    exact this
  have hl : x.pages.length = 32 := (h.fs.good x (List.mem_of_getElem? hx)).lim.len
  have hnl := (List.getElem?_eq_some_iff.1 hx).1
  have CU := Lib.hid cU
  have H := Lib.hid h
  have HXN := Lib.hid hx
  have HS := Lib.hid hs
  have HQ := Lib.hid hq
  have HOK := Lib.hid hok
  have HP := Lib.hid hp
  have HOK' := Lib.hid hok'
  have HL := Lib.hid hl
  have HNL := Lib.hid hnl
  have htn : ¬ (t : Int) < 0 := by omega
  clear cU hu h hx hk hs hq hok hp hok' hl hnl
  go_enter Tryz.func83, Tryz.ntmps83
  go_wp2_with (go_at_call 35; refine Stop.here ?_)
  refine Stop.go ?_
  refine (CU.out w (Kept.refl _ _)).mono ?_
  rintro e w1 ⟨rfl, hk1⟩
  have HK1 := Lib.hid hk1
  clear hk1
  go_wp2_with (with_reducible refine stop_store (t := 53) ?_)
  refine Stop.go ?_
  refine wpList_store_row rfl 53 (.tmp 9) (.tmp 16) rfl w1.heap.size rfl x.cells rfl 53 Ino.zero.cells (heap_alloc_new w1 _) (by rw [x.cells_size HL.out]; exact ino_info) (by rw [x.cells_size HL.out]; rfl) x.one ?_
  obtain ⟨w2, hw2⟩ : ∃ w2, w2 = (w1.alloc (.cells Ino.zero.cells 53)).setRow w1.heap.size x.cells := ⟨_, rfl⟩
  have hw2' : w2 = w1.alloc (.cells x.cells 53) := by rw [hw2, World.setRow_alloc_new]
  show wpList _ _ _ _ _ ((w1.alloc (.cells Ino.zero.cells 53)).setRow w1.heap.size x.cells)
  rw [← hw2]
  have hk2 : Kept [] w w2 := by rw [hw2']; exact HK1.out.alloc _
  have hx2 : Blk w2 w1.heap.size 53 x.cells := by rw [hw2']; exact Blk.new _ _ _
  have hnw := HK1.out.size
  obtain ⟨nb, hnb⟩ : ∃ nb, nb = w1.heap.size := ⟨_, rfl⟩
  rw [← hnb] at hx2 hnw ⊢
  have CT := Lib.hid (files_Trunc1 w2 fb ib pb ab table g bm nodes x nb sb qb size (H.out.keep0 hk2) hx2 (HS.out.keep0 hk2) (HQ.out.keep0 hk2) hsz HL.out HOK.out HP.out)
  have HK2 := Lib.hid hk2
  have HX2 := Lib.hid hx2
  clear hw2 hw2' HK1 hnb hk2 hx2
  go_wp2_with (go_at_call 84; refine Stop.here ?_)
  refine Stop.go ?_
  refine CT.out.mono ?_
  rintro e w3 ⟨rfl, hx3, hf3, hk3⟩
  have hf4 := hx3.frozen 4
  have hs4 : w3.cell? ⟨nb, 4, none⟩ = some (.int .i64 x.time) := by rw [hx3.cell, Ino.at4]; rfl
  obtain ⟨W, hW⟩ : ∃ W, W = w3.setCell ⟨nb, 4, none⟩ (.int .i64 t) := ⟨_, rfl⟩
  have hbW : Blk W nb 53 (truncIno x size t).cells := by
    have h1 := hx3.set_ 4 (.int .i64 t)
    rw [← hW] at h1
    have e : (cutIno x size).cells.setIfInBounds 4 (.int .i64 t) = (truncIno x size t).cells := by
      apply Array.ext'
      simp [Ino.cells, cutIno, truncIno]
    rw [e] at h1
    exact h1
  have hkW : Kept [nb] w3 W := by rw [hW]; exact (Kept.refl _ _).setCell (.inr (by simp)) _
  have hfW := hf3.ino_ hx3 hkW
  have hkk : Kept [ab] w W := by
    have k1 : Kept [nb, ab] w w3 := (HK2.out.mono (D' := [nb, ab]) (by simp)).trans hk3
    refine (k1.trans (hkW.mono (D' := [nb, ab]) (by simp))).narrow (fun d hd hdl => ?_)
    rcases List.mem_cons.1 hd with rfl | hd
    · omega
    · exact hd
  have hlen : (truncIno x size t).pages.length = 32 := by
    show (cutTo _ _ _).length = 32
    rw [cutTo_length, HL.out]
  obtain ⟨pg, hpg⟩ : ∃ pg, (truncPg table x size g bm)[1 + n / 4]? = some pg := by
    obtain ⟨_, pg, hpg, _⟩ := hf3.fs.node n x HXN.out
    exact ⟨pg, hpg⟩
  have HBW := Lib.hid hbW
  have HFW := Lib.hid hfW
  have HKW := Lib.hid hkk
  have HPG := Lib.hid hpg
  clear hx3 hf3 hk3 hkW hfW hkk hbW hpg
  go_wp2_with (with_reducible refine stop_load (t := 53) ?_)
  refine Stop.go ?_
  rw [← hW]
  clear hW hs4 hf4
  refine wpList_load_row rfl 53 _ rfl nb rfl 53 (truncIno x size t).cells (0, 0) _ HBW.out Tryz.underlying53 rfl (by rw [Ino.cells_size _ hlen]; exact ino_info) ?_
  go_wp2_with (go_at_call 65; refine Stop.here ?_)
  refine Stop.go ?_
  refine (files_put W fb ib pb ab table _ _ nodes n (truncIno x size t) pg HFW.out HNL.out (.inl HOK'.out) HPG.out).mono ?_
  rintro e w7 ⟨rfl, hf7, hk7⟩
  have HF7 := Lib.hid hf7
  have HK7 := Lib.hid (HKW.out.trans hk7)
  clear hf7 hk7
  go_wp2_with fail
  go_ret
  exact ⟨rfl, pg, HPG.out, HF7.out, HK7.out⟩

theorem files_Trunc_ok (w : World) (fb ib pb ab table : Nat) (g : List (List UInt8)) (bm : List UInt8) (nodes : List Ino) (n size t : Nat) (x : Ino) (h : Fsys w fb ib pb ab table g bm nodes) (hx : nodes[n]? = some x) (hk : x.kind ≠ 0)
    (hsz : size ≤ 8192) (ht : t ≤ 9223372036854775807) (hok : giveOk bm (behind x.pages ((size + 255) / 256) 32))
    (hp : ∀ i, i < 32 → (x.pages.getD i 0) ≠ 0 → table < (x.pages.getD i 0).toNat ∧ (x.pages.getD i 0).toNat < g.length) (hok' : (truncIno x size t).Ok) :
    Calls Tryz.prog 50 #[.pointer (some ⟨fb, 0, none⟩), .int .i64 n, .int .i64 size, .int .i64 t] w fun e w' => e = .returned (.int .i64 0) ∧
      ∃ pg, (truncPg table x size g bm)[1 + n / 4]? = some pg ∧
      Fsys w' fb ib pb ab table ((truncPg table x size g bm).set (1 + n / 4) (putIno pg (n % 4) (truncIno x size t))) (bmGive bm (behind x.pages ((size + 255) / 256) 32)) (nodes.set n (truncIno x size t)) ∧ Kept [ab] w w' := by
  have hk2 : Kept [] w ((w.alloc (.cells #[.pointer (some ⟨fb, 0, none⟩)] 41)).alloc (.cells #[.int .i64 size] 3)) := ((Kept.refl _ _).alloc _).alloc _
  have hq : Blk ((w.alloc (.cells #[.pointer (some ⟨fb, 0, none⟩)] 41)).alloc (.cells #[.int .i64 size] 3)) w.heap.size 41 #[.pointer (some ⟨fb, 0, none⟩)] := (Blk.new _ _ _).alloc _
  have hs : Blk ((w.alloc (.cells #[.pointer (some ⟨fb, 0, none⟩)] 41)).alloc (.cells #[.int .i64 size] 3)) (w.heap.size + 1) 3 #[.int .i64 size] := by
    have := Blk.new (w.alloc (.cells #[.pointer (some ⟨fb, 0, none⟩)] 41)) 3 #[.int .i64 size]
    simpa using this
  have CT := Lib.hid (files_turn_Trunc _ fb ib pb ab table g bm nodes n size t _ _ x (h.keep0 hk2) hx hk hs hq hsz ht hok hp hok')
  have HK := Lib.hid hk2
  clear h hx hk hok hp hok' hk2 hq hs
  go_enter Tryz.func50, Tryz.ntmps50
  go_wp2_with (go_at_call 83; refine Stop.here ?_)
  refine Stop.go ?_
  refine CT.out.mono ?_
  rintro e w1 ⟨rfl, pg, hpg, hf, hk⟩
  have HPG := Lib.hid hpg
  have HF := Lib.hid hf
  have HKK := Lib.hid (HK.out.any.trans hk)
  clear hpg hf hk
  go_wp2_with fail
  go_ret
  exact ⟨rfl, pg, HPG.out, HF.out, HKK.out⟩
end Go.Proofs.YtcbdjmlkjifamaaGreatDoor
