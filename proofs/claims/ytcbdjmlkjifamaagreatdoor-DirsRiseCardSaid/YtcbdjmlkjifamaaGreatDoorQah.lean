/-
  The functions of package span: what each returns, and that it turns nothing that was there. Conditions: numbers within int. The functions of package span that gather their parts in a captured variable. Conditions: numbers within int.
-/
import Derived.Test.YtcbdjmlkjifamaaGreatDoorQaa
import Derived.Test.YtcbdjmlkjifamaaGreatDoorQae
set_option linter.unusedVariables false
set_option linter.unusedSimpArgs false

/- The functions of package span: what each returns, and that it turns nothing that was there. Conditions: numbers within int. -/
namespace Go.Proofs.YtcbdjmlkjifamaaGreatDoor
open Go.RowKit

theorem span_May (pos size : Int) (w : World) (h1 : -9223372036854775808 ≤ pos) (h2 : pos ≤ 9223372036854775807) (h3 : -9223372036854775808 ≤ size) (h4 : size ≤ 9223372036854775807) :
    Calls Tryz.prog 71 #[.int .i64 pos, .int .i64 size] w fun e w' => e = .returned (.int .i64 (spanMay pos size)) ∧ w = w' := by
  go_enter Tryz.func71, Tryz.ntmps71
  go_wp2
  all_goals
    go_ret
    refine ⟨ret_int ?_, rfl⟩
    simp only [spanMay]
    repeat' split
    all_goals first | rfl | omega

theorem span_Pages (size : Int) (w : World) (h1 : -9223372036854775808 ≤ size) (h2 : size ≤ 9223372036854775807) :
    Calls Tryz.prog 85 #[.int .i64 size] w fun e w' => e = .returned (.int .i64 (pagesOf size)) ∧ w = w' := by
  go_enter Tryz.func85, Tryz.ntmps85
  go_wp2
  all_goals
    go_ret
    refine ⟨ret_int ?_, rfl⟩
    simp only [pagesOf]
    repeat' split
    all_goals first | rfl | omega

theorem span_Cut (pos size stop : Int) (w : World) (h1 : -9223372036854775808 ≤ pos) (h2 : pos ≤ 9223372036854775807) (h3 : -9223372036854775808 ≤ size) (h4 : size ≤ 9223372036854775807)
    (h5 : 0 ≤ stop) (h6 : stop ≤ 9223372036854775807) :
    Calls Tryz.prog 37 #[.int .i64 pos, .int .i64 size, .int .i64 stop] w fun e w' => e = .returned (.int .i64 (spanCut pos size stop)) ∧ w = w' := by
  by_cases a : spanMay pos size = 0
  · have H := Lib.hid a
    obtain ⟨b1, b2, b3, b4⟩ := spanMay_zero a
    clear a
    go_enter Tryz.func37, Tryz.ntmps37
    go_wp2_with (go_at_call 71; refine (span_May _ _ _ h1 h2 h3 h4).mono ?_; rintro e w' ⟨rfl, rfl⟩; rw [H.out])
    all_goals
      go_ret
      refine ⟨ret_int ?_, rfl⟩
      simp only [spanCut, H.out]
      repeat' split
      all_goals first | rfl | omega
  · have hb : (spanMay pos size == 0) = false := by simpa using a
    have hc : (spanMay pos size != 0) = true := by simpa using a
    go_enter Tryz.func37, Tryz.ntmps37
    go_wp2_with (go_at_call 71; refine (span_May _ _ _ h1 h2 h3 h4).mono ?_; rintro e w' ⟨rfl, rfl⟩)
    go_ret
    exact ⟨ret_int (by simp [spanCut, a]), rfl⟩

/-- A part's value. -/
def Part.cells (p : Part) : Array Value := #[.int .i64 p.page, .int .i64 p.off, .int .i64 p.size]

def isRight (p : Part) : Bool := decide (p.off ≤ 256) && decide (p.size ≤ 256 - p.off)
theorem span_isRight (p : Part) (w : World) (h1 : p.off ≤ 256) (h2 : p.off + p.size ≤ 256) :
    Calls Tryz.prog 72 #[.agg #[.int .i64 p.page, .int .i64 p.off, .int .i64 p.size]] w fun e w' => e = .returned (.bool true) ∧ Kept [] w w' := by
  go_enter Tryz.func72, Tryz.ntmps72
  go_wp2
  go_ret
  exact ⟨ret_bool (by simp; omega), (Kept.refl _ _).alloc _⟩

theorem span_each_bad (f : Nat) (cs : Array Value) (pos size : Int) (w : World) (h1 : -9223372036854775808 ≤ pos) (h2 : pos ≤ 9223372036854775807) (h3 : -9223372036854775808 ≤ size) (h4 : size ≤ 9223372036854775807)
    (hm : spanMay pos size ≠ 0) :
    Calls Tryz.prog 69 #[.int .i64 pos, .int .i64 size, .func (.func f) #[] cs] w fun e w' => e = .returned (.int .i64 (spanMay pos size)) ∧ w = w' := by
  have hb : (spanMay pos size == 0) = false := by simpa using hm
  have hc : (spanMay pos size != 0) = true := by simpa using hm
  go_enter Tryz.func69, Tryz.ntmps69
  go_wp2_with (go_at_call 71; refine (span_May _ _ _ h1 h2 h3 h4).mono ?_; rintro e w' ⟨rfl, rfl⟩)
  go_ret
  exact ⟨rfl, rfl⟩

set_option maxHeartbeats 400000 in
theorem span_each (f : Nat) (hf : f = 70 ∨ f = 105) (cs : Array Value) (I : List Part → World → Prop) (pos size : Int) (w : World)
    (hI : ∀ ps p W (a b c : Int), a = p.page → b = p.off → c = p.size → I ps W → ps ++ [p] <+: spanParts pos.toNat size.toNat → Calls Tryz.prog f (#[.agg #[.int .i64 a, .int .i64 b, .int .i64 c]] ++ cs) W fun e w' => e = .returned (.tuple #[]) ∧ I (ps ++ [p]) w')
    (hm : spanMay pos size = 0) (h0 : I [] w) :
    Calls Tryz.prog 69 #[.int .i64 pos, .int .i64 size, .func (.func f) #[] cs] w fun e w' => e = .returned (.int .i64 0) ∧ I (spanParts pos.toNat size.toNat) w' := by
  have H := Lib.hid hm
  obtain ⟨b1, b2, b3, b4⟩ := spanMay_zero hm
  clear hm
  obtain ⟨P, rfl⟩ := Int.eq_ofNat_of_zero_le b1
  obtain ⟨S, rfl⟩ := Int.eq_ofNat_of_zero_le b2
  simp only [Int.toNat_natCast] at hI ⊢
  have HI := Lib.hid hI
  clear hI
  rcases hf with rfl | rfl
  all_goals
  go_enter Tryz.func69, Tryz.ntmps69
  go_wp2_with (go_at_call 71; refine (span_May _ _ _ (by omega) (by omega) (by omega) (by omega)).mono ?_; rintro e w' ⟨rfl, rfl⟩; rw [H.out])
  go_loopw [0] (fun a wr => ∃ (k : Nat) (ps : List Part), k ≤ P + S ∧ a = .int .i64 k ∧ I ps wr ∧ ps ++ partsFrom k (P + S) = spanParts P S) (fun a _ => P + S - (intOf a).toNat)
  case atStart => exact ⟨P, [], by omega, rfl, h0, rfl⟩
  case round =>
    obtain ⟨k, ps, hk, rfl, hi, hps⟩ := hrel
    have HPS := Lib.hid hps
    clear hps
    by_cases hlt : k < P + S
    · have hps := HPS.out
      rw [partsFrom_step hlt] at hps
      have HP := Lib.hid hps
      clear hps
      have hpre : ∀ m, m = min (256 - k % 256) (P + S - k) → ps ++ [⟨k / 256, k % 256, m⟩] <+: spanParts P S := fun m hm => ⟨partsFrom (k + m) (P + S), by rw [← HP.out, hm]; simp⟩
      have HQ := Lib.hid hpre
      clear hpre
      go_wp2_with fail
      all_goals
        refine (HI.out ps ⟨k / 256, k % 256, min (256 - k % 256) (P + S - k)⟩ _ _ _ _ (by simp) (by simp) (by simp only; omega) hi (HQ.out _ rfl)).mono ?_
        rintro e w1 ⟨rfl, hi1⟩
        go_wp2_with fail
        go_roundw
        case rel => exact ⟨k + min (256 - k % 256) (P + S - k), _, by omega, by go_num, hi1, by rw [← HP.out]; simp⟩
        case measure => simp [intOf]; omega
    · go_wp2_with fail
      go_ret
      have := HPS.out
      rw [partsFrom_end (by omega), List.append_nil] at this
      exact ⟨rfl, this ▸ hi⟩
end Go.Proofs.YtcbdjmlkjifamaaGreatDoor

/- The functions of package span that gather their parts in a captured variable. Conditions: numbers within int. -/
namespace Go.Proofs.YtcbdjmlkjifamaaGreatDoor
open Go.RowKit

theorem part_info : (Tryz.prog.info? 88).map (fun i => (i.zero, i.size, i.bytes)) = some (some (.agg #[.int .i64 0, .int .i64 0, .int .i64 0]), 3, 24) := by kernel_rfl
def partCells (ps : List Part) : List Value := ps.flatMap fun p => [.int .i64 p.page, .int .i64 p.off, .int .i64 p.size]

set_option maxRecDepth 100000 in
theorem span_Parts1 (lb base n : Nat) (v : Value) (xs : List Value) (p : Part) (a b c : Int) (w : World) (ha : a = p.page) (hb : b = p.off) (hc : c = p.size)
    (hl : Blk w lb 82 #[v]) (hown : w.ownsRow base 88 3 v n xs) (hlb : base ≤ lb) (hn : n ≤ 10000) (hbase : base ≤ w.heap.size) :
    Calls Tryz.prog 70 #[.agg #[.int .i64 a, .int .i64 b, .int .i64 c], .pointer (some ⟨lb, 0, none⟩)] w fun e w' =>
      e = .returned (.tuple #[]) ∧ Below base w w' ∧ ∃ v', Blk w' lb 82 #[v'] ∧ w'.ownsRow base 88 3 v' (n + 1) (xs ++ [.int .i64 p.page, .int .i64 p.off, .int .i64 p.size]) := by
  subst ha hb hc
  obtain ⟨i0, hi, hz0, hz1, hz2⟩ := info_parts part_info
  have hcell : w.cell? ⟨lb, 0, none⟩ = some v := by simpa using hl.cell 0
  have hfz := hl.frozen 0
  have hlt := hl.lt
  have HL := Lib.hid hl
  have HO := Lib.hid hown
  clear hl hown
  go_enter Tryz.func70, Tryz.ntmps70
  go_wp2_with (at_builtin; refine Stop.here ?_)
  refine Stop.go ?_
  refine wpList_append_any _ rfl (.tmp 3) (.tmp 5) _ rfl base 88 i0 _ 3 24 Tryz.underlying82 hi hz0 hz1 hz2 rfl (by omega) v n xs rfl ?h1 [] 88 _ 1 1 [.int .i64 p.page, .int .i64 p.off, .int .i64 p.size] rfl ?h2 ?h3 ?h4 ?h5 ?h6 ?_
  case h1 => exact (HO.out.alloc _).alloc _
  case h2 => exact Sl.new (xs := [_, _, _]) (by simp) (by simp) rfl (by omega)
  case h3 => simp [Value.oneCell']
  case h4 => simp only [maxLen]; omega
  case h5 => omega
  case h6 => simp; omega
  intro v1 w1 hown1 hg1 _
  have hb1 : Below base w w1 := below_of_row (below_alloc2 hbase _ _) ((HO.out.alloc _).alloc _) hg1 (by simp; omega)
  have hl1 : Blk w1 lb 82 #[v] := ((HL.out.alloc _).alloc _).grown hg1 (own_ne HO.out HL.out (by decide))
  have hc1 : w1.cell? ⟨lb, 0, none⟩ = some v := by simpa using hl1.cell 0
  have hf1 := hl1.frozen 0
  obtain ⟨A1, c1, rfl⟩ := own_form hown1
  have HO1 := Lib.hid hown1
  have HL1 := Lib.hid hl1
  have HB1 := Lib.hid hb1
  clear hown1 hl1 hb1 hg1
  go_wp2_with fail
  go_end0
  exact ⟨rfl, HB1.out.setCell hlb _, _, HL1.out.set_ 0 _, ownsRow_far HO1.out HL1.out (by decide) 0 _⟩

theorem partCells_snoc (ps : List Part) (p : Part) : partCells (ps ++ [p]) = partCells ps ++ [.int .i64 p.page, .int .i64 p.off, .int .i64 p.size] := by simp [partCells]

theorem span_Parts_bad (pos size : Int) (w : World) (h1 : -9223372036854775808 ≤ pos) (h2 : pos ≤ 9223372036854775807) (h3 : -9223372036854775808 ≤ size) (h4 : size ≤ 9223372036854775807) (hm : spanMay pos size ≠ 0) :
    Calls Tryz.prog 36 #[.int .i64 pos, .int .i64 size] w fun e w' => e = .returned (.tuple #[.slice none 0 0, .int .i64 (spanMay pos size)]) ∧ Kept [] w w' := by
  go_enter Tryz.func36, Tryz.ntmps36
  go_wp2_with (go_at_call 69; refine (span_each_bad _ _ _ _ _ h1 h2 h3 h4 hm).mono ?_; rintro e w' ⟨rfl, rfl⟩)
  go_ret2
  exact ⟨rfl, (Kept.refl _ _).alloc _⟩

theorem span_Parts (pos size : Int) (w : World) (D : List Nat) (hD : Old D w) (hm : spanMay pos size = 0) :
    Calls Tryz.prog 36 #[.int .i64 pos, .int .i64 size] w fun e w' => ∃ A c, e = .returned (.tuple #[.slice A (spanParts pos.toNat size.toNat).length c, .int .i64 0]) ∧
      Sl w' D 88 3 A (spanParts pos.toNat size.toNat).length c (partCells (spanParts pos.toNat size.toNat)) ∧ Kept [] w w' := by
  have HM := Lib.hid hm
  clear hm
  go_enter Tryz.func36, Tryz.ntmps36
  go_wp2_with (go_at_call 69; refine Stop.here ?_)
  refine Stop.go ?_
  refine (span_each _ (.inl rfl) _ (fun ps W => Below w.heap.size w W ∧ ∃ v, Blk W w.heap.size 82 #[v] ∧ W.ownsRow w.heap.size 88 3 v ps.length (partCells ps)) pos size _ ?_ HM.out
    ⟨(Below.refl _ _).alloc (Nat.le_refl _) _, _, Blk.new _ _ _, World.ownsRow_nil _ _ _ _⟩).mono ?_
  · intro ps p W a b c ha hb hc ⟨hB, v, hl, ho⟩ hpre
    have hlen := hpre.length_le
    have h8 := spanParts_length pos.toNat size.toNat
    have := spanMay_zero HM.out
    simp only [List.length_append, List.length_singleton] at hlen
    refine (span_Parts1 w.heap.size w.heap.size ps.length v (partCells ps) p a b c W ha hb hc hl ho (Nat.le_refl _) (by omega) hB.size).mono ?_
    rintro e w' ⟨rfl, hB', v', hl', ho'⟩
    refine ⟨rfl, hB.trans hB', v', hl', ?_⟩
    rw [partCells_snoc, List.length_append]
    exact ho'
  rintro e w1 ⟨rfl, hB, v, hl, ho⟩
  have h8 := spanParts_length pos.toNat size.toNat
  have h9 := spanMay_zero HM.out
  obtain ⟨A, c, rfl, hs⟩ := Sl.of_row ho hD (by omega)
  have hc1 : w1.cell? ⟨w.heap.size, 0, none⟩ = some (.slice A (spanParts pos.toNat size.toNat).length c) := by simpa using hl.cell 0
  have HB := Lib.hid hB
  have HS := Lib.hid hs
  clear hB hl ho hs
  go_wp2_with fail
  go_ret2
  exact ⟨A, c, rfl, HS.out, .of_below HB.out⟩
end Go.Proofs.YtcbdjmlkjifamaaGreatDoor
