/-
  span.Missing, span.Gather, span.Spread: what each returns, and that it turns nothing that was there. Conditions: numbers within bounds. span.Gather and span.Spread: what each returns, and that it turns nothing that was there. Conditions: numbers within bounds. span.Spread: what it returns, and that it turns nothing that was there. Conditions: the part lies within the page, and within the bytes.
-/
import Derived.Test.YtcbdjmlkjifamaaGreatDoorQaf
import Derived.Test.YtcbdjmlkjifamaaGreatDoorQah
import Derived.Laws.CopyOwn
import Derived.Deep.RegionLaw
import Derived.IntWalk
set_option linter.unusedVariables false
set_option linter.unusedSimpArgs false

/- span.Missing, span.Gather, span.Spread: what each returns, and that it turns nothing that was there. Conditions: numbers within bounds. -/
namespace Go.Proofs.YtcbdjmlkjifamaaGreatDoor
open Go.RowKit
set_option maxRecDepth 100000

/-- The cells of an array of bytes. -/
def pgCells (ps : List UInt8) : Array Value := (ps.map b8).toArray
theorem pgCells_get (ps : List UInt8) (k : Nat) (h : k < ps.length) : (pgCells ps)[k]? = some (.int .u8 (ps.getD k 0).toNat) := by
  simp [pgCells, h]
theorem pgCells_size (ps : List UInt8) : (pgCells ps).size = ps.length := by simp [pgCells]

theorem span_Missing1 (pb lb base n : Nat) (pages : List UInt8) (v : Value) (xs : List Value) (p : Part) (a b c : Int) (w : World) (ha : a = p.page) (hb : b = p.off) (hc : c = p.size) (hpl : pages.length = 32) (hp32 : p.page < 32)
    (hp : Blk w pb 51 (pgCells pages)) (hl : Blk w lb 140 #[v]) (hown : w.ownsRow base 3 1 v n xs) (hlb : base ≤ lb) (hn : n ≤ 10000) (hbase : base ≤ w.heap.size) :
    Calls Tryz.prog 105 #[.agg #[.int .i64 a, .int .i64 b, .int .i64 c], .pointer (some ⟨pb, 0, none⟩), .pointer (some ⟨lb, 0, none⟩)] w fun e w' =>
      e = .returned (.tuple #[]) ∧ Below base w w' ∧ ∃ v', Blk w' lb 140 #[v'] ∧ w'.ownsRow base 3 1 v' (if pages.getD p.page 0 == 0 then n + 1 else n) (if pages.getD p.page 0 == 0 then xs ++ [i64 p.page] else xs) := by
  subst ha hb hc
  have hpc : w.cell? ⟨pb, p.page, none⟩ = some (.int .u8 (pages.getD p.page 0).toNat) := by rw [hp.cell, pgCells_get _ _ (by omega)]
  have hcell : w.cell? ⟨lb, 0, none⟩ = some v := by simpa using hl.cell 0
  have hfz := hl.frozen 0
  have hlt := hl.lt
  have hplt := hp.lt
  have HP := Lib.hid hp
  have HL := Lib.hid hl
  have HO := Lib.hid hown
  have HPL := Lib.hid hpl
  clear hp hl hown hpl
  by_cases hz : pages.getD p.page 0 = 0
  · rw [hz] at hpc
    simp only [UInt8.toNat_zero, Int.natCast_zero] at hpc
    have hzb : (pages.getD p.page 0 == 0) = true := by simpa using hz
    rw [if_pos hzb, if_pos hzb]
    clear hz hzb
    obtain ⟨i0, hi, hz0, hz1, hz2⟩ := info_parts int_info
    go_enter Tryz.func105, Tryz.ntmps105
    go_wp2_with (at_builtin; refine Stop.here ?_)
    refine Stop.go ?_
    refine wpList_append_any _ rfl (.tmp 9) (.tmp 12) _ rfl base 3 i0 _ 1 8 Tryz.underlying140 hi hz0 hz1 hz2 rfl (by omega) v n xs rfl ((HO.out.alloc _).alloc _) [] 3 _ 1 1 [i64 p.page] rfl
      (Sl.new (xs := [_]) (by simp) (by simp) rfl (by omega)) (by simp [Value.oneCell']) (by simp only [maxLen]; omega) (by omega) (by simp; omega) ?_
    intro v1 w1 hown1 hg1 _
    have hb1 : Below base w w1 := below_of_row (below_alloc2 hbase _ _) ((HO.out.alloc _).alloc _) hg1 (by simp; omega)
    have hl1 : Blk w1 lb 140 #[v] := ((HL.out.alloc _).alloc _).grown hg1 (own_ne HO.out HL.out (by decide))
    obtain ⟨A1, c1, rfl⟩ := own_form hown1
    have hc1 : w1.cell? ⟨lb, 0, none⟩ = some v := by simpa using hl1.cell 0
    have hf1 := hl1.frozen 0
    have HO1 := Lib.hid hown1
    have HL1 := Lib.hid hl1
    have HB1 := Lib.hid hb1
    clear hown1 hl1 hb1 hg1
    go_wp2_with fail
    go_end0
    exact ⟨rfl, HB1.out.setCell hlb _, _, HL1.out.set_ 0 _, ownsRow_far HO1.out HL1.out (by decide) 0 _⟩
  · have hzb : (pages.getD p.page 0 == 0) = false := by simpa using hz
    have hne : (((pages.getD p.page 0).toNat : Int) == 0) = false := by
      rw [beq_eq_false_iff_ne]
      intro h
      exact hz (UInt8.toNat_inj.1 (by simpa using h))
    rw [hzb]
    have hb8 : (pages.getD p.page 0).toNat < 256 := UInt8.toNat_lt _
    obtain ⟨x, hx⟩ : ∃ x, x = (pages.getD p.page 0).toNat := ⟨_, rfl⟩
    rw [← hx] at hpc hne hb8
    clear hx hz hzb
    go_enter Tryz.func105, Tryz.ntmps105
    go_wp2_with fail
    go_end0
    exact ⟨rfl, (Below.refl _ _).alloc hbase _, v, HL.out.alloc _, HO.out.alloc _⟩

theorem missing_snoc (pages : List UInt8) (ps : List Part) (p : Part) : missing pages (ps ++ [p]) = if pages.getD p.page 0 == 0 then missing pages ps ++ [p.page] else missing pages ps := by
  unfold missing
  rw [List.filter_append, List.map_append]
  by_cases h : (pages.getD p.page 0 == 0) = true
  · rw [if_pos h, List.filter_cons_of_pos (by exact h)]
    rfl
  · rw [if_neg h, List.filter_cons_of_neg (by exact h)]
    simp

theorem span_Missing (pages : List UInt8) (pos size : Int) (w : World) (D : List Nat) (hD : Old D w) (hpl : pages.length = 32) (hm : spanMay pos size = 0) :
    Calls Tryz.prog 80 #[.agg (pgCells pages), .int .i64 pos, .int .i64 size] w fun e w' => ∃ A c, e = .returned (.slice A (missing pages (spanParts pos.toNat size.toNat)).length c) ∧
      Ints w' D A c (missing pages (spanParts pos.toNat size.toNat)) ∧ Kept [] w w' := by
  have HM := Lib.hid hm
  have HPL := Lib.hid hpl
  clear hm hpl
  go_enter Tryz.func80, Tryz.ntmps80
  go_wp2_with (go_at_call 69; refine Stop.here ?_)
  refine Stop.go ?_
  refine (span_each _ (.inr rfl) _ (fun ps W => Kept [] w W ∧ ps.length ≤ 10000 ∧ Blk W w.heap.size 51 (pgCells pages) ∧ ∃ v, Blk W (w.heap.size + 1) 140 #[v] ∧ W.ownsRow (w.heap.size + 1) 3 1 v (missing pages ps).length ((missing pages ps).map i64)) pos size _ ?_ HM.out ?_).mono ?_
  · intro ps p W a b c ha hb hc ⟨hB, hlen0, hp, v, hl, ho⟩ hpre
    have hlen := hpre.length_le
    have h8 := spanParts_length pos.toNat size.toNat
    have h9 := spanMay_zero HM.out
    have hmem : p ∈ spanParts pos.toNat size.toNat := hpre.subset (by simp)
    have hpm := partsFrom_mem hmem
    have hml : (missing pages ps).length ≤ ps.length := by unfold missing; rw [List.length_map]; exact List.length_filter_le _ _
    simp only [List.length_append, List.length_singleton] at hlen
    refine (span_Missing1 w.heap.size (w.heap.size + 1) (w.heap.size + 1) _ pages v _ p a b c W ha hb hc HPL.out (by omega) hp hl ho (Nat.le_refl _) (by omega) ?_).mono ?_
    · have := hl.lt; omega
    rintro e w' ⟨rfl, hB', v', hl', ho'⟩
    have hp' : Blk w' w.heap.size 51 (pgCells pages) := (hB'.block _ (by omega)).trans hp
    refine ⟨rfl, hB.behind hB' (by omega), by simp; omega, hp', v', hl', ?_⟩
    rw [missing_snoc]
    split at ho'
    · rename_i hif
      rw [if_pos hif, List.length_append, List.map_append]
      exact ho'
    · rename_i hif
      rw [if_neg hif]
      exact ho'
  · refine ⟨((Kept.refl _ _).alloc _).alloc _, by simp, (Blk.new _ _ _).alloc _, .slice none 0 0, ?_, World.ownsRow_nil _ _ _ _⟩
    have := Blk.new (w.alloc (.cells (pgCells pages) 51)) 140 #[.slice none 0 0]
    simpa using this
  rintro e w1 ⟨rfl, hB, hlen, hp, v, hl, ho⟩
  have hml : (missing pages (spanParts pos.toNat size.toNat)).length ≤ 10000 := Nat.le_trans (by unfold missing; rw [List.length_map]; exact List.length_filter_le _ _) hlen
  obtain ⟨A, c, rfl, hs⟩ := Sl.of_row (D := D) ho (fun d hd => by have := hD d hd; omega) (by omega)
  have hc1 : w1.cell? ⟨w.heap.size + 1, 0, none⟩ = some (.slice A (missing pages (spanParts pos.toNat size.toNat)).length c) := by simpa using hl.cell 0
  have HB := Lib.hid hB
  have HS := Lib.hid hs
  clear hB hl ho hs hp hlen
  go_wp2_with fail
  go_ret
  exact ⟨A, c, rfl, HS.out, HB.out⟩
end Go.Proofs.YtcbdjmlkjifamaaGreatDoor

/- span.Gather and span.Spread: what each returns, and that it turns nothing that was there. Conditions: numbers within bounds. -/
namespace Go.Proofs.YtcbdjmlkjifamaaGreatDoor
open Go.RowKit
set_option maxRecDepth 100000

/-- A slice of slices of bytes. -/
def Mat (w : World) (D : List Nat) (A : Option Addr) (c : Nat) (pgs : List (List UInt8)) : Prop :=
  ∃ vs : List Value, Sl w D 56 1 A pgs.length c vs ∧ ∀ i (h : i < pgs.length), ∃ a c', vs[i]? = some (.slice a pgs[i].length c') ∧ Bytes w D a c' pgs[i]
namespace Mat
variable {w w' : World} {D : List Nat} {A : Option Addr} {c : Nat} {pgs : List (List UInt8)}
theorem keep0 (h : Mat w D A c pgs) (k : Kept [] w w') : Mat w' D A c pgs := by
  obtain ⟨vs, hs, hv⟩ := h
  refine ⟨vs, hs.keep0 k, fun i hi => ?_⟩
  obtain ⟨a, c', h1, h2⟩ := hv i hi
  exact ⟨a, c', h1, h2.keep0 k⟩
theorem get (h : Mat w D A c pgs) {k : Nat} (hk : k < pgs.length) : ∃ ad a c', A = some ad ∧ w.cell? (ad.add k) = some (.slice a pgs[k].length c') ∧ Bytes w D a c' pgs[k] := by
  obtain ⟨vs, hs, hv⟩ := h
  obtain ⟨ad, u, hA, hu, hc⟩ := hs.one hk
  obtain ⟨a, c', h1, h2⟩ := hv k hk
  rw [h1] at hu
  injection hu with hu
  exact ⟨ad, a, c', hA, by rw [hc, hu], h2⟩
theorem small (h : Mat w D A c pgs) : pgs.length ≤ 140737488355328 := by
  obtain ⟨vs, hs, _⟩ := h
  exact hs.small
end Mat

theorem partCells_get {w : World} {D : List Nat} {A : Option Addr} {c : Nat} {ps : List Part} (h : Sl w D 88 3 A ps.length c (partCells ps)) {k : Nat} (hk : k < ps.length) :
    ∃ ad, A = some ad ∧ w.cell? (ad.add (k * 3)) = some (.int .i64 (ps[k]).page) ∧ w.cell? ⟨(ad.add (k * 3)).block, (ad.add (k * 3)).off + 1, none⟩ = some (.int .i64 (ps[k]).off) ∧
      w.cell? ⟨(ad.add (k * 3)).block, (ad.add (k * 3)).off + 2, none⟩ = some (.int .i64 (ps[k]).size) := by
  obtain ⟨ad, hA, _, _, hc⟩ := h.at_ (by omega)
  have key : ∀ j, j < 3 → (partCells ps)[k * 3 + j]? = [Value.int .i64 (ps[k]).page, Value.int .i64 (ps[k]).off, Value.int .i64 (ps[k]).size][j]? := by
    clear hc h
    induction ps generalizing k with
    | nil => simp at hk
    | cons p l ih =>
      intro j hj
      rcases k with _ | k
      · simp only [partCells, List.flatMap_cons]
        rw [List.getElem?_append_left (by simp; omega)]
        simp
      · have := ih (k := k) (by simpa using hk) j hj
        simp only [partCells, List.flatMap_cons] at this ⊢
        rw [List.getElem?_append_right (by simp; omega)]
        simp only [List.length_cons, List.length_nil, List.getElem_cons_succ]
        rw [show (k + 1) * 3 + j - (0 + 1 + 1 + 1) = k * 3 + j from by omega]
        exact this
  refine ⟨ad, hA, ?_, ?_, ?_⟩
  · have := hc (k * 3) _ (key 0 (by omega))
    exact this
  · have := hc (k * 3 + 1) _ (key 1 (by omega))
    rw [← add_of_add, add_pos _ 1 (by omega)] at this
    exact this
  · have := hc (k * 3 + 2) _ (key 2 (by omega))
    rw [← add_of_add, add_pos _ 2 (by omega)] at this
    exact this

theorem Bytes.of_blk {w : World} {g : Nat} {D : List Nat} {bs : List UInt8} (h : Blk w g 5 (bs.map b8).toArray) (hg : g ∉ D) (hs : bs.length ≤ 140737488355328) : Bytes w D (some ⟨g, 0, none⟩) bs.length bs := by
  refine ⟨by simp, hs, Nat.le_refl _, by omega, fun _ => ⟨_, rfl, hg, ⟨_, _, h⟩, fun j u hu => ?_⟩⟩
  have hadd : (⟨g, 0, none⟩ : Addr).add j = ⟨g, j, none⟩ := by unfold Addr.add; split <;> simp_all
  rw [hadd, h.cell]
  simpa using hu
theorem splice_padN (pg : List UInt8) (N : Nat) : splice (List.replicate N (Value.int .u8 0)) 0 (pg.map b8) = (pg ++ List.replicate (N - pg.length) 0).map b8 := by
  simp [splice, b8]
theorem splice_pad (pg : List UInt8) : splice (List.replicate 256 (Value.int .u8 0)) 0 (pg.map b8) = (pad256 pg).map b8 := splice_padN pg 256
theorem u8_one : (Tryz.prog.info? 5).map (·.size) = some 1 := by kernel_rfl
theorem gather_length (ps : List Part) (pgs : List (List UInt8)) (hr : ∀ p ∈ ps, p.off + p.size ≤ 256) (hp : ∀ pg ∈ pgs, pg.length ≤ 256) : (gather ps pgs).length ≤ 256 * ps.length := by
  unfold gather
  induction ps generalizing pgs with
  | nil => simp
  | cons p ps ih =>
    rcases pgs with _ | ⟨pg, pgs⟩
    · simp
    · have := ih pgs (fun p h => hr p (by simp [h])) (fun p h => hp p (by simp [h]))
      have h1 := piece_length p pg (hp pg (by simp)) (hr p (by simp))
      have h2 := hr p (by simp)
      simp only [List.zip_cons_cons, List.flatMap_cons, List.length_append, List.length_cons]
      omega

theorem span_Gather (D : List Nat) (A : Option Addr) (c : Nat) (ps : List Part) (B : Option Addr) (d : Nat) (pgs : List (List UInt8)) (w : World) (hD : Old D w)
    (h : Sl w D 88 3 A ps.length c (partCells ps)) (hB : Mat w D B d pgs) (hl : pgs.length = ps.length) (hr : ∀ p ∈ ps, p.off + p.size ≤ 256 ∧ 0 < p.size) (hp : ∀ pg ∈ pgs, pg.length ≤ 256) (hn : ps.length ≤ 100) :
    Calls Tryz.prog 38 #[.slice A ps.length c, .slice B pgs.length d] w fun e w' => ∃ A' c', e = .returned (.slice A' (gather ps pgs).length c') ∧ Bytes w' D A' c' (gather ps pgs) ∧ Kept [] w w' := by
  have HS := Lib.hid h
  have HB := Lib.hid hB
  have HL := Lib.hid hl
  have HR := Lib.hid hr
  have HP := Lib.hid hp
  have hmk := fun W => run_make_bytes 256 256 rfl (by omega) W
  have hn2 : pgs.length ≤ 100 := by omega
  clear h hB hl hr hp
  go_enter Tryz.func38, Tryz.ntmps38
  go_wp2_with fail
  go_loopw [5, 11] (fun o i wr => ∃ k : Nat, k ≤ ps.length ∧ i = .int .i64 k ∧ wr.ownsRow w.heap.size 5 1 o (gather (ps.take k) (pgs.take k)).length ((gather (ps.take k) (pgs.take k)).map b8) ∧ Kept [] w wr) (fun _ i _ => ps.length - (intOf i).toNat)
  case atStart => exact ⟨0, Nat.zero_le _, rfl, by simpa [gather] using World.ownsRow_nil _ _ _ _, Kept.refl _ _⟩
  case round =>
    obtain ⟨k, hk, rfl, ho, hkp⟩ := hrel
    obtain ⟨A2, c2, rfl⟩ := own_form ho
    have HO := Lib.hid ho
    have HK := Lib.hid hkp
    clear ho hkp
    by_cases hlt : k < ps.length
    · have hlp : k < pgs.length := by rw [HL.out]; exact hlt
      obtain ⟨ad, rfl, hc0, hc1, hc2⟩ := partCells_get (HS.out.keep0 HK.out) hlt
      obtain ⟨pd, pa, pc, rfl, hpc, hpb⟩ := (HB.out.keep0 HK.out).get hlp
      obtain ⟨hr1, hr2⟩ := HR.out _ (List.getElem_mem hlt)
      have hp1 := HP.out _ (List.getElem_mem hlp)
      have hgl : (gather (ps.take k) (pgs.take k)).length ≤ 25600 := by
        have := gather_length (ps.take k) (pgs.take k) (fun p h => (HR.out p (List.mem_of_mem_take h)).1) (fun p h => HP.out p (List.mem_of_mem_take h))
        simp only [List.length_take] at this
        omega
      have HPB := Lib.hid hpb
      obtain ⟨p, hpe⟩ : ∃ p, p = ps[k] := ⟨_, rfl⟩
      obtain ⟨pg, hpge⟩ : ∃ pg, pg = pgs[k] := ⟨_, rfl⟩
      rw [← hpe] at hc0 hc1 hc2 hr1 hr2
      rw [← hpge] at hpc HPB hp1
      have HPE := Lib.hid hpe
      have HPG := Lib.hid hpge
      clear hpb hpe hpge
      go_wp2_with (go_at_call 72; refine Stop.here ?_)
      refine Stop.go ?_
      refine (span_isRight p _ (by omega) hr1).mono ?_
      rintro e w1 ⟨rfl, hk1⟩
      have hpb := (Blk.new wr 88 #[.int .i64 p.page, .int .i64 p.off, .int .i64 p.size]).keep0 hk1
      have hf1 : w1.cell? ⟨wr.heap.size, 1, none⟩ = some (.int .i64 p.off) := by simpa using hpb.cell 1
      have hf2 : w1.cell? ⟨wr.heap.size, 2, none⟩ = some (.int .i64 p.size) := by simpa using hpb.cell 2
      have hlt1 := hpb.lt
      have hkr1 : Kept [] wr w1 := ((Kept.refl _ _).alloc _).trans hk1
      have HKR := Lib.hid hkr1
      have hpc1 : w1.cell? (pd.add k) = some (.slice pa pg.length pc) := by
        rw [← hpc]
        exact hkr1.cell (by rw [block_of_add]; have := block_lt_of_cell hpc; rwa [block_of_add] at this) (by simp)
      have hpc2 : ∀ o, (w1.alloc o).cell? (pd.add k) = some (.slice pa pg.length pc) := fun o => by
        rw [World.cell?_alloc_lt _ _ _ (block_lt_of_cell hpc1), hpc1]
      clear hk1 hpb hkr1
      go_wp2_with (with_reducible refine stop_copy ?_)
      refine Stop.go ?_
      have hpb1 := HPB.out.keep0 HKR.out
      refine wpList_copy_splice rfl (.tmp 24) (.tmp 28) _ _ rfl 5 Tryz.underlying56 u8_one (some ⟨w1.heap.size, 0, none⟩) pa 256 256 pg.length pc rfl rfl w1.heap.size 0 (List.replicate 256 (Value.int .u8 0)) 5
        (heap_alloc_new w1 _) (pg.map b8) (by rw [List.length_map]; exact (Nat.min_eq_left hp1).symm) (fun h0 => ⟨rfl, ?_⟩) (by simp; omega) (oneCell_b8 pg) w1.heap.size w1 ((Below.refl _ _).alloc (Nat.le_refl _) _) (Nat.le_refl _) ?_
      · obtain ⟨ad, hA, _, _, hc⟩ := (hpb1.keep0 ((Kept.refl _ _).alloc _)).at_ (by simpa using h0)
        exact ⟨ad, hA, hc⟩
      rw [splice_pad]
      intro w2 hg2 hb2
      have hbw := Bytes.of_blk (D := []) (bs := pad256 pg) hg2.out (by simp) (by rw [pad256_length pg hp1]; omega)
      rw [pad256_length pg hp1] at hbw
      have hpl := piece_length p pg hp1 hr1
      have hne : ¬ 256 = p.off := by omega
      have hcut := hbw.cut (k := p.off) (by rw [pad256_length pg hp1]; omega)
      rw [if_neg hne] at hcut
      have hpc2 : Bytes w2 [] ((some (⟨w1.heap.size, 0, none⟩ : Addr)).map (·.add p.off)) (256 - p.off) (piece p pg) := hcut.take (by rw [List.length_drop, pad256_length pg hp1]; omega)
      simp only [Option.map_some, add_lit0] at hpc2
      have hf1 : w2.cell? ⟨wr.heap.size, 1, none⟩ = some (.int .i64 p.off) := by rw [← hf1]; exact hb2.cell hlt1
      have hf2 : w2.cell? ⟨wr.heap.size, 2, none⟩ = some (.int .i64 p.size) := by rw [← hf2]; exact hb2.cell hlt1
      have ho2 : w2.ownsRow w.heap.size 5 1 (.slice A2 (gather (ps.take k) (pgs.take k)).length c2) (gather (ps.take k) (pgs.take k)).length ((gather (ps.take k) (pgs.take k)).map b8) := own_keep0 HO.out (HKR.out.trans (.of_below hb2))
      have hkk : Kept [] w w2 := (HK.out.trans HKR.out).behind hb2 (by have := HK.out.size; have := HKR.out.size; omega)
      have HP2 := Lib.hid hpc2
      have HO2 := Lib.hid ho2
      have HK2 := Lib.hid hkk
      have HPL := Lib.hid hpl
      clear hbw hcut hpc2 ho2 hkk hpl hg2 hpb1
      go_wp2_with (at_builtin; refine Stop.here ?_)
      refine Stop.go ?_
      obtain ⟨i0, hi, hz0, hz1, hz2⟩ := info_parts u8_info
      have hsl : Sl w2 [] 5 1 (some ⟨w1.heap.size, p.off, none⟩) (p.off + p.size - p.off) (256 - p.off) ((piece p pg).map b8) := by
        have := HP2.out
        unfold Bytes at this
        rwa [HPL.out, show p.size = p.off + p.size - p.off from by omega] at this
      refine wpList_append_sl (W0 := w) rfl (.tmp 30) (.tmp 39) _ rfl w.heap.size 5 i0 _ 1 1 Tryz.underlying56 hi hz0 hz1 hz2 rfl (by omega) (.slice A2 (gather (ps.take k) (pgs.take k)).length c2) _ _ rfl HO2.out [] _ _ _ _ _ rfl hsl (oneCell_b8 _) ?_ ?_ HK2.out.size HK2.out (Nat.le_refl _) ?_
      · simp only [maxLen]; omega
      · omega
      intro v3 w3 hown3 hg3 hk3 _
      have HO3 := Lib.hid hown3
      have HK3 := Lib.hid hk3
      clear hown3 hk3 hg3 hsl hi hz0 hz1 hz2
      go_wp2_with fail
      go_roundw
      case rel =>
        refine ⟨k + 1, by omega, by go_num, ?_, HK3.out⟩
        rw [gather_succ ps pgs k hlt hlp, ← HPE.out, ← HPG.out, List.length_append, HPL.out, List.map_append, show p.size = p.off + p.size - p.off from by omega]
        exact HO3.out
      case measure => simp [intOf]; omega
    · obtain rfl : k = ps.length := by omega
      have e1 : ps.take ps.length = ps := List.take_length
      have e2 : pgs.take ps.length = pgs := by rw [← HL.out]; exact List.take_length
      have ho := HO.out
      rw [e1, e2] at ho
      have hgl := gather_length ps pgs (fun p h => (HR.out p h).1) HP.out
      obtain ⟨A3, c3, hv, hb⟩ := Bytes.of_row ho hD (by omega)
      have E1 := Lib.hid e1
      have E2 := Lib.hid e2
      have HB3 := Lib.hid hb
      have HV := Lib.hid hv
      clear e1 e2 ho hb hv
      go_wp2_with fail
      go_ret
      refine ⟨A3, c3, ?_, HB3.out, HK.out⟩
      have := HV.out
      rw [E1.out, E2.out]
      exact congrArg _ this
end Go.Proofs.YtcbdjmlkjifamaaGreatDoor

/- span.Spread: what it returns, and that it turns nothing that was there. Conditions: the part lies within the page, and within the bytes. -/
namespace Go.Proofs.YtcbdjmlkjifamaaGreatDoor
open Go.RowKit
set_option maxRecDepth 100000

theorem splice_take {α : Type} (L : List α) (o n : Nat) (cs : List α) (h1 : o + cs.length ≤ n) (h2 : n ≤ L.length) : (splice L o cs).take n = splice (L.take n) o cs := by
  unfold splice
  rw [List.take_append, List.length_take, Nat.min_eq_left (by omega), List.take_of_length_le (by rw [List.length_take]; omega), List.take_append, List.take_of_length_le (l := cs) (by omega), List.take_take, Nat.min_eq_left (show o ≤ n by omega), List.drop_take,
    show n - o - cs.length = n - (o + cs.length) from by omega]

theorem own_cap {w : World} {base : Nat} {e : TypeId} {size n : Nat} {v : Value} {xs : List Value} (h : w.ownsRow base e size v n xs) (hn : 0 < n := by omega) :
    ∃ g cap, v = .slice (some ⟨g, 0, none⟩) n cap ∧ base ≤ g ∧ g < w.heap.size ∧ n ≤ cap ∧ cap ≤ 9223372036854775807 := by
  rcases h.2 with ⟨_, h0⟩ | ⟨g, cap, cur, rfl, hb, hg, hc, hm, _⟩
  · omega
  · exact ⟨g, cap, rfl, hb, lt_of_heap hg, hc, by simpa [maxLen] using hm⟩

theorem span_Spread (D : List Nat) (p : Part) (P : Option Addr) (pc : Nat) (pg : List UInt8) (B : Option Addr) (bc n m : Nat) (b : List UInt8) (f : Int) (F : Nat) (w : World) (hD : Old D w)
    (hp : Bytes w D P pc pg) (hb : Bytes w D B bc b) (hn : pg.length = n) (hm : b.length = m) (h1 : n = 256) (h2 : p.off + p.size ≤ 256) (h0 : 0 < p.size) (hf : f = F) (h3 : F + p.size ≤ m) :
    Calls Tryz.prog 107 #[.agg #[.int .i64 p.page, .int .i64 p.off, .int .i64 p.size], .slice P n pc, .slice B m bc, .int .i64 f] w fun e w' => ∃ A c, e = .returned (.tuple #[.slice A 256 c, .int .i64 0]) ∧
      Bytes w' D A c (spreadB p pg b F) ∧ Kept [] w w' := by
  subst hf
  have hms : m ≤ 140737488355328 := by rw [← hm]; exact hb.small
  have hmc : m ≤ bc := by rw [← hm]; exact hb.cap
  have hbc := hb.capm
  have HP := Lib.hid hp
  have HB := Lib.hid hb
  have HN := Lib.hid (hn.trans h1)
  have HM := Lib.hid hm
  subst h1
  clear hp hb hn hm
  go_enter Tryz.func107, Tryz.ntmps107
  go_wp2_with (go_at_call 72; refine Stop.here ?_)
  refine Stop.go ?_
  refine (span_isRight p _ (by omega) h2).mono ?_
  rintro e w1 ⟨rfl, hk1⟩
  have hpb := (Blk.new w 88 #[.int .i64 p.page, .int .i64 p.off, .int .i64 p.size]).keep0 hk1
  have hf1 : w1.cell? ⟨w.heap.size, 1, none⟩ = some (.int .i64 p.off) := by simpa using hpb.cell 1
  have hf2 : w1.cell? ⟨w.heap.size, 2, none⟩ = some (.int .i64 p.size) := by simpa using hpb.cell 2
  have hlt1 := hpb.lt
  have hkr1 : Kept [] w w1 := ((Kept.refl _ _).alloc _).trans hk1
  have HKR := Lib.hid hkr1
  clear hk1 hpb hkr1
  go_wp2_with (go_at_call 98; refine Stop.here ?_)
  refine Stop.go ?_
  refine (bytes_Clone_n D _ _ _ pg _ (HP.out.keep0 HKR.out) HN.out).mono ?_
  rintro e w2 ⟨v, rfl, hown, hk2⟩
  rcases hown with ⟨_, ⟨_, h256⟩ | ⟨g, cap, cur, rfl, hg1, hcells, hcap, hcapm, hcsz, htake⟩⟩
  · omega
  have hg2 := lt_of_heap hcells
  have hg1' := hg1
  have hsz1 : w.heap.size ≤ w1.heap.size := HKR.out.size
  replace hg1 : w.heap.size ≤ g := by omega
  have hcapm : cap ≤ 9223372036854775807 := by simpa [maxLen] using hcapm
  have hf1 : w2.cell? ⟨w.heap.size, 1, none⟩ = some (.int .i64 p.off) := by rw [← hf1]; exact hk2.cell hlt1 (by simp)
  have hf2 : w2.cell? ⟨w.heap.size, 2, none⟩ = some (.int .i64 p.size) := by rw [← hf2]; exact hk2.cell hlt1 (by simp)
  have hne : ¬ cap = p.off := by omega
  obtain ⟨bd, hbd, _⟩ := HB.out.get (k := F) (by rw [HM.out]; omega)
  subst hbd
  have hnb : ¬ bc = F := by omega
  have hi1 : (p.off : Int) ≤ 256 := by omega
  have hi2 : (F : Int) ≤ F + p.size := by omega
  have hi3 : (F : Int) + p.size ≤ bc := by omega
  have hw1 : IntKind.i64.wrap ((F : Int) + p.size) = F + p.size := IntWalk.i64_in _ (by omega)
  have hw2 : ((F : Int) + p.size).toNat = F + p.size := by omega
  have hkw : Kept [] w w2 := HKR.out.trans hk2
  have hsrc := (HB.out.keep0 hkw).cut (k := F) (by rw [HM.out]; omega)
  rw [if_neg hnb] at hsrc
  have hsrc2 := hsrc.take (k := p.size) (by rw [List.length_drop, HM.out]; omega)
  have hcl : ((b.drop F).take p.size).length = p.size := by rw [List.length_take, List.length_drop, HM.out]; omega
  have hcs : cur.toList.length = cap := by rw [Array.length_toList, hcsz, Nat.mul_one]
  obtain ⟨cs, hcse⟩ : ∃ cs, cs = ((b.drop F).take p.size).map b8 := ⟨_, rfl⟩
  have hcsl : cs.length = p.size := by rw [hcse, List.length_map, hcl]
  have hn1 : cs.length = Nat.min p.size (256 - p.off) := by rw [hcsl]; exact (Nat.min_eq_left (by omega)).symm
  have hfit : p.off + cs.length ≤ cur.toList.length := by rw [hcsl, hcs]; omega
  have hone : ∀ v ∈ cs, v.oneCell' = true := by rw [hcse]; exact oneCell_b8 _
  have hpos : ∀ j v, cs[j]? = some v → w2.drew.cell? ((bd.add F).add j) = some v := fun j v hv => by
    obtain ⟨ad, hA, _, _, hc⟩ := hsrc2.at_ (by rw [hcl]; exact h0)
    simp only [Option.map_some, Option.some.injEq] at hA
    rw [hcse] at hv
    rw [hA]
    exact hc j v hv
  have hcd : w2.drew.heap[g]? = some (.cells cur.toList.toArray 5 (0, 0)) := hcells
  have HCE := Lib.hid hcse
  have HN1 := Lib.hid hn1
  have HFI := Lib.hid hfit
  have HON := Lib.hid hone
  have HPO := Lib.hid hpos
  have HCD := Lib.hid hcd
  have HK := Lib.hid hkw
  have HCS := Lib.hid hcs
  have HT := Lib.hid htake
  have HCL := Lib.hid hcsl
  clear hcells hkw hsrc hsrc2 hcl hcs htake hcsz hk2 hcse hcsl hn1 hfit hone hpos hcd
  go_wp2_with fail
  go_region_law (refine step_copy_splice rfl (.tmp 43) (.tmp 50) _ _ rfl 5 Tryz.underlying56 u8_one (some ⟨g, p.off, none⟩) (some (bd.add F)) (256 - p.off) (cap - p.off) p.size (bc - F) (by simp [Act.eval, Act.put]) (by simp [Act.eval, Act.put]) g p.off cur.toList 5 HCD.out cs HN1.out (fun _ => ⟨rfl, bd.add F, rfl, HPO.out⟩) HFI.out HON.out g w2 ((Below.refl _ _).drew) (Nat.le_refl _) ?_; intro w3 hg3 hb3)
  all_goals
    have hcells3 := hg3.out
    have hk3 : Kept [] w w3 := HK.out.behind hb3 hg1
    have hrow : w3.ownsRow w1.heap.size 5 1 (.slice (some ⟨g, 0, none⟩) 256 cap) 256 ((spreadB p pg b F).map b8) := by
      refine ⟨by rw [List.length_map, spreadB_length p pg b F HN.out h2 (by rw [HM.out]; exact h3)], .inr ⟨g, cap, _, rfl, hg1', hcells3, hcap, by simp only [maxLen]; omega, ?_, ?_⟩⟩
      · rw [List.size_toArray, length_splice _ _ _ HFI.out, HCS.out, Nat.mul_one]
      · have ht := HT.out
        rw [Nat.mul_one] at ht ⊢
        show (splice cur.toList p.off cs).take 256 = _
        rw [splice_take _ _ _ _ (by rw [HCL.out]; exact h2) (by rw [HCS.out]; exact hcap), ht, HCE.out]
        simp only [splice, spreadB, List.map_append, List.map_take, List.map_drop, List.length_map, List.length_take, List.length_drop, HM.out]
        rw [show min p.size (m - F) = p.size from by omega]
    have HR := Lib.hid hrow
    have HK3 := Lib.hid hk3
    clear hcells3 hk3 hrow hg3 hb3
    go_wp2_with fail
    go_ret2
    obtain ⟨A', c', hv, hb⟩ := Bytes.of_row (D := D) (bs := spreadB p pg b F) (by rw [spreadB_length p pg b F HN.out h2 (by rw [HM.out]; exact h3)]; exact HR.out) (fun d hd => by have := hD d hd; omega) (by rw [spreadB_length p pg b F HN.out h2 (by rw [HM.out]; exact h3)]; omega)
    rw [spreadB_length p pg b F HN.out h2 (by rw [HM.out]; exact h3)] at hv
    refine ⟨A', c', ?_, hb, HK3.out⟩
    rw [← hv]
    rfl
end Go.Proofs.YtcbdjmlkjifamaaGreatDoor
