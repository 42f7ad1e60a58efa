/-
  bytes.Clone, bytes.Equal, and what package pack writes. Conditions: the slices read as lists of bytes; sizes within memory. The functions of package bitmap: what each returns, and that it turns nothing that was there. Conditions: the slices read as lists of bytes; numbers within bounds. The functions of package bitmap that make maps. Conditions: the slices read as lists of bytes; numbers within bounds. slices.IndexFunc, slices.DeleteFunc at numbers, over the two predicates of package inode; clear of a row's tail. Condition: the slice's cells.
-/
import Derived.Test.YtcbdjmlkjifamaaGreatDoorQad
import Derived.Test.YtcbdjmlkjifamaaGreatDoorQae
import Derived.Laws.BitsAllLaws
import Derived.RegionTactic
import Derived.Lib.SliceRun
set_option linter.unusedVariables false
set_option linter.unusedSimpArgs false

/- bytes.Clone, bytes.Equal, and what package pack writes. Conditions: the slices read as lists of bytes; sizes within memory. -/
namespace Go.Proofs.YtcbdjmlkjifamaaGreatDoor
open Go.RowKit
set_option maxRecDepth 100000

theorem bytes_Clone (D : List Nat) (A : Option Addr) (c : Nat) (bs : List UInt8) (w : World) (h : Bytes w D A c bs) :
    Calls Tryz.prog 98 #[.slice A bs.length c] w fun e w' => ∃ v, e = .returned v ∧ w'.ownsRow w.heap.size 5 1 v bs.length (bs.map b8) ∧ Kept [] w w' := by
  have hs := h.small
  have HH := Lib.hid h
  clear h
  rcases A with _ | ad
  · have hn : bs = [] := by
      rcases bs with _ | ⟨x, l⟩
      · rfl
      · obtain ⟨ad, hA, _⟩ := HH.out.get (k := 0) (by simp)
        cases hA
    subst hn
    have he := fun W => Lib.run_eql_slice_nil (P := Tryz.prog) W 56 5 none 0 c 0 0 Tryz.underlying56
    go_enter Tryz.func98, Tryz.ntmps98
    go_wp2
    go_ret
    exact ⟨_, rfl, World.ownsRow_nil _ _ _ _, Kept.refl _ _⟩
  · obtain ⟨i0, hi, hz0, hz1, hz2⟩ := info_parts u8_info
    have he := fun W => Lib.run_eql_slice_nil (P := Tryz.prog) W 56 5 (some ad) bs.length c 0 0 Tryz.underlying56
    go_enter Tryz.func98, Tryz.ntmps98
    go_wp2_with (at_builtin; refine Stop.here ?_)
    refine Stop.go ?_
    have hown0 : (w.alloc (.cells #[] 5)).ownsRow w.heap.size 5 1 (.slice (some ⟨w.heap.size, 0, none⟩) 0 0) 0 [] := World.ownsRow_made w #[] 0 (Nat.le_refl _) (by simp only [maxLen]; omega) rfl
    refine wpList_append_any _ rfl (.tmp 5) (.tmp 6) _ rfl w.heap.size 5 i0 _ 1 1 Tryz.underlying56 hi hz0 hz1 hz2 rfl (by omega) _ 0 [] rfl hown0 D _ _ bs.length c (bs.map b8) rfl (HH.out.keep ((Kept.refl _ _).alloc _)) (oneCell_b8 bs) ?_ ?_ ?_ ?_
    · simp only [maxLen]; omega
    · omega
    · simp
    intro v1 w1 hown1 hg1 _
    have hk : Kept [] w w1 := grown_own_none hown0 ((Kept.refl _ _).alloc _) (Nat.le_refl _) hg1
    simp only [Nat.zero_add, List.nil_append] at hown1
    have HO := Lib.hid hown1
    have HK := Lib.hid hk
    clear hown1 hk hg1 hown0
    go_wp2_with fail
    go_ret
    exact ⟨_, rfl, HO.out, HK.out⟩

theorem bytes_Clone_n (D : List Nat) (A : Option Addr) (c n : Nat) (bs : List UInt8) (w : World) (h : Bytes w D A c bs) (hn : bs.length = n) :
    Calls Tryz.prog 98 #[.slice A n c] w fun e w' => ∃ v, e = .returned v ∧ w'.ownsRow w.heap.size 5 1 v n (bs.map b8) ∧ Kept [] w w' := by
  subst hn
  exact bytes_Clone D A c bs w h

theorem replicate_b8 (k : Nat) : List.replicate k (Value.int .u8 0) = (List.replicate k (0 : UInt8)).map b8 := by simp [b8]

theorem pack_Fill_big (D : List Nat) (A : Option Addr) (c : Nat) (bs : List UInt8) (size : Int) (w : World) (h : Bytes w D A c bs) (hsz : size < bs.length) (h2 : -9223372036854775808 ≤ size) :
    Calls Tryz.prog 94 #[.slice A bs.length c, .int .i64 size] w fun e w' => e = .returned (.tuple #[.slice none 0 0, .int .i64 1]) ∧ w = w' := by
  have hs := h.small
  have HH := Lib.hid h
  clear h
  go_enter Tryz.func94, Tryz.ntmps94
  go_wp2
  go_ret2
  exact ⟨rfl, rfl⟩

theorem pack_Fill (D : List Nat) (A : Option Addr) (c : Nat) (bs : List UInt8) (size : Nat) (w : World) (h : Bytes w D A c bs) (hsz : bs.length ≤ size) (h2 : size ≤ 65536) :
    Calls Tryz.prog 94 #[.slice A bs.length c, .int .i64 size] w fun e w' => ∃ v, e = .returned (.tuple #[v, .int .i64 0]) ∧
      w'.ownsRow w.heap.size 5 1 v size ((bs ++ List.replicate (size - bs.length) 0).map b8) ∧ Kept [] w w' := by
  have hs := h.small
  have HH := Lib.hid h
  clear h
  obtain ⟨i0, hi, hz0, hz1, hz2⟩ := info_parts u8_info
  go_enter Tryz.func94, Tryz.ntmps94
  go_wp2_with (first | (go_at_call 98; refine (bytes_Clone D A c bs _ HH.out).mono ?_; rintro e w1 ⟨v, rfl, hown, hk⟩; have HO := Lib.hid hown; have HK := Lib.hid hk; clear hown hk) | (at_builtin; refine Stop.here ?_))
  refine Stop.go ?_
  refine wpList_append_own_zeros _ rfl (.tmp 11) (.tmp 15) _ _ rfl w.heap.size 5 i0 _ .i64 .i64 1 Tryz.underlying56 Tryz.underlying3 hi hz0 hz1 hz2 rfl rfl _ _ _ rfl HO.out (size - bs.length) _ rfl (by omega) ?_ ?_ ?_ ?_
  · simp only [maxLen]; omega
  · omega
  · exact HK.out.size
  intro v1 w2 hown1 hg1 _
  have hk : Kept [] w w2 := grown_own_none HO.out HK.out (Nat.le_refl _) hg1
  rw [replicate_b8, ← List.map_append, show bs.length + (size - bs.length) = size from by omega] at hown1
  have HO1 := Lib.hid hown1
  have HK1 := Lib.hid hk
  clear hown1 hk hg1
  go_wp2_with fail
  go_ret2
  exact ⟨_, rfl, HO1.out, HK1.out⟩

theorem pack_Text_bad (B : Option Addr) (n c : Nat) (A : Option Addr) (m d : Nat) (place : Int) (w : World) (h : place < 1 ∨ 255 < place ∨ place < m) (hm : m ≤ 9223372036854775807) (h2 : -9223372036854775808 ≤ place) (h3 : place ≤ 9223372036854775807) :
    Calls Tryz.prog 79 #[.slice B n c, .slice A m d, .int .i64 place] w fun e w' => e = .returned (.tuple #[.slice none 0 0, .int .i64 1]) ∧ w = w' := by
  by_cases a : place < 1
  · go_enter Tryz.func79, Tryz.ntmps79
    go_wp2
    go_ret2
    exact ⟨rfl, rfl⟩
  by_cases b : 255 < place
  · go_enter Tryz.func79, Tryz.ntmps79
    go_wp2
    go_ret2
    exact ⟨rfl, rfl⟩
  have cc : place < m := by omega
  clear h
  go_enter Tryz.func79, Tryz.ntmps79
  go_wp2
  go_ret2
  exact ⟨rfl, rfl⟩

theorem pack_Text (D : List Nat) (B : Option Addr) (c : Nat) (bs : List UInt8) (A : Option Addr) (d : Nat) (s : List UInt8) (place : Nat) (w : World) (h : Bytes w D B c bs) (hs : Bytes w D A d s)
    (h1 : 1 ≤ place) (h2 : place ≤ 255) (h3 : s.length ≤ place) (hb : bs.length ≤ 65536) :
    Calls Tryz.prog 79 #[.slice B bs.length c, .slice A s.length d, .int .i64 place] w fun e w' => ∃ v, e = .returned (.tuple #[v, .int .i64 0]) ∧
      w'.ownsRow w.heap.size 5 1 v (bs.length + 1 + place) ((bs ++ packText s place).map b8) ∧ Kept [] w w' := by
  have HH := Lib.hid h
  have HS := Lib.hid hs
  clear h hs
  obtain ⟨i0, hi, hz0, hz1, hz2⟩ := info_parts u8_info
  go_enter Tryz.func79, Tryz.ntmps79
  go_wp2_with (first | (go_at_call 98; refine (bytes_Clone D B c bs _ HH.out).mono ?_; rintro e w1 ⟨v, rfl, hown, hk⟩; have HO := Lib.hid hown; have HK := Lib.hid hk; clear hown hk) | (at_builtin; refine Stop.here ?_))
  refine Stop.go ?_
  refine wpList_append_new (W0 := w) rfl (.tmp 22) (.tmp 26) _ rfl w.heap.size 5 i0 _ 1 1 Tryz.underlying56 hi hz0 hz1 hz2 rfl (by omega) _ _ _ rfl HO.out _ _ rfl rfl rfl (by simp [Value.oneCell']) ?_ ?_ HK.out.size HK.out (Nat.le_refl _) ?_
  · simp only [maxLen]; omega
  · omega
  intro v1 w2 hown1 hg1 hk1 _
  have HO1 := Lib.hid hown1
  have HK1 := Lib.hid hk1
  have HS1 := Lib.hid (HS.out.keep0 hk1)
  clear hown1 hk1 hg1
  go_wp2_with (at_builtin; refine Stop.here ?_)
  refine Stop.go ?_
  refine wpList_append_sl (W0 := w) rfl (.tmp 28) (.tmp 29) _ rfl w.heap.size 5 i0 _ 1 1 Tryz.underlying56 hi hz0 hz1 hz2 rfl (by omega) _ _ _ rfl HO1.out D _ _ _ _ _ rfl HS1.out (oneCell_b8 s) ?_ ?_ HK1.out.size HK1.out (Nat.le_refl _) ?_
  · simp only [maxLen]; omega
  · omega
  intro v2 w3 hown2 hg2 hk2 _
  have HO2 := Lib.hid hown2
  have HK2 := Lib.hid hk2
  clear hown2 hk2 hg2
  go_wp2_with (at_builtin; refine Stop.here ?_)
  refine Stop.go ?_
  refine wpList_append_zer (W0 := w) rfl (.tmp 31) (.tmp 35) _ _ rfl w.heap.size 5 i0 _ .i64 .i64 1 Tryz.underlying56 Tryz.underlying3 hi hz0 hz1 hz2 rfl rfl _ _ _ rfl HO2.out (place - s.length) _ rfl (by omega) ?_ ?_ HK2.out.size HK2.out (Nat.le_refl _) ?_
  · simp only [maxLen]; omega
  · omega
  intro v3 w4 hown3 hg3 hk3 _
  have e1 : (List.map b8 bs ++ [Value.int IntKind.u8 ↑s.length] ++ List.map b8 s ++ List.replicate (place - s.length) (Value.int .u8 0)) = (bs ++ packText s place).map b8 := by
    rw [replicate_b8]
    simp only [packText, List.map_append, List.map_cons, List.append_assoc, List.cons_append, List.nil_append, b8_ofNat (show s.length < 256 by omega)]
  rw [e1, show bs.length + 1 + s.length + (place - s.length) = bs.length + 1 + place from by omega] at hown3
  have HO3 := Lib.hid hown3
  have HK3 := Lib.hid hk3
  clear hown3 hk3 hg3
  go_wp2_with fail
  go_ret2
  exact ⟨_, rfl, HO3.out, HK3.out⟩
end Go.Proofs.YtcbdjmlkjifamaaGreatDoor

/- The functions of package bitmap: what each returns, and that it turns nothing that was there. Conditions: the slices read as lists of bytes; numbers within bounds. -/
namespace Go.Proofs.YtcbdjmlkjifamaaGreatDoor
open Go.RowKit
set_option maxRecDepth 100000

theorem bitmap_has (A : Option Addr) (len cap : Nat) (n : Int) (w : World) (h1 : 0 ≤ n) (h2 : n < 8 * len) (h3 : len ≤ 1048576) :
    Calls Tryz.prog 126 #[.slice A len cap, .int .i64 n] w fun e w' => e = .returned (.bool true) ∧ w = w' := by
  obtain ⟨k, rfl⟩ := Int.eq_ofNat_of_zero_le h1
  have h4 : k / 8 < len := by omega
  go_enter Tryz.func126, Tryz.ntmps126
  go_wp2
  go_ret
  exact ⟨ret_bool (by simp; omega), rfl⟩

theorem bits_and1 (x : Nat) (h : x < 256) : bits .and .u8 (x : Int) 1 = ((x % 2 : Nat) : Int) := by
  have := u8_and_nat x 1 h (by omega)
  rw [show ((1 : Nat) : Int) = 1 from rfl] at this
  rw [this, nat_mask1]

theorem bitmap_Get (D : List Nat) (A : Option Addr) (c len : Nat) (bs : List UInt8) (n : Int) (w : World) (h : Bytes w D A c bs) (hl : bs.length = len) (h1 : 0 ≤ n) (h2 : n < 8 * len) (h3 : len ≤ 1048576) :
    Calls Tryz.prog 112 #[.slice A len c, .int .i64 n] w fun e w' => e = .returned (.bool (bit bs n.toNat)) ∧ w = w' := by
  obtain ⟨k, rfl⟩ := Int.eq_ofNat_of_zero_le h1
  subst hl
  have hk : k / 8 < bs.length := by omega
  obtain ⟨ad, rfl, hcell⟩ := h.get (k := k / 8) (by omega)
  have hb : (bs[k / 8]'(by omega)).toNat < 256 := UInt8.toNat_lt _
  have hfin : (bits .and .u8 (((bs[k / 8]'(by omega)).toNat : Int) / 2 ^ (k % 8)) 1 == 1) = bit bs k := by
    have e1 : ((bs[k / 8]'(by omega)).toNat : Int) / 2 ^ (k % 8) = (((bs[k / 8]'(by omega)).toNat / 2 ^ (k % 8) : Nat) : Int) := by simp
    have hlt : (bs[k / 8]'(by omega)).toNat / 2 ^ (k % 8) < 256 := Nat.lt_of_le_of_lt (Nat.div_le_self _ _) hb
    rw [e1, bits_and1 _ hlt]
    unfold bit
    rw [show bs.getD (k / 8) 0 = bs[k / 8]'(by omega) from by rw [List.getD_eq_getElem?_getD, List.getElem?_eq_getElem (by omega)]; rfl]
    rw [Bool.eq_iff_iff, beq_iff_eq, decide_eq_true_iff]
    omega
  have HF := Lib.hid hfin
  clear h hfin
  go_enter Tryz.func112, Tryz.ntmps112
  go_wp2_with (go_at_call 126; refine (bitmap_has _ _ _ _ _ (by omega) (by omega) h3).mono ?_; rintro e w' ⟨rfl, rfl⟩)
  go_ret
  exact ⟨ret_bool HF.out, rfl⟩

/-- What First tells. -/
def firstVal : Option Nat → Value
  | some n => .tuple #[.int .i64 n, .bool true]
  | none => .tuple #[.int .i64 (-1), .bool false]

theorem bitmap_First (D : List Nat) (A : Option Addr) (c len : Nat) (bs : List UInt8) (f t : Int) (w : World) (h : Bytes w D A c bs) (hl : bs.length = len) (h1 : 0 ≤ f) (h2 : f ≤ 1048576) (h4 : 0 ≤ t) (h5 : t ≤ 1048576) (h3 : len ≤ 131072) :
    Calls Tryz.prog 99 #[.slice A len c, .int .i64 f, .int .i64 t] w fun e w' => e = .returned (firstVal (bmFirst bs f.toNat t.toNat)) ∧ w = w' := by
  obtain ⟨F, rfl⟩ := Int.eq_ofNat_of_zero_le h1
  obtain ⟨T, rfl⟩ := Int.eq_ofNat_of_zero_le h4
  simp only [Int.toNat_natCast]
  have HH := Lib.hid h
  have HL := Lib.hid hl
  have hpost : bmFirst bs F T = firstIn bs F (min T (8 * len) - F) := by rw [← hl]; rfl
  have HP := Lib.hid hpost
  clear h hl hpost
  go_enter Tryz.func99, Tryz.ntmps99
  go_wp2_with fail
  go_loop [8] (fun n => ∃ k : Nat, F ≤ k ∧ k ≤ 1048576 ∧ n = .int .i64 k ∧ firstIn bs F (min T (8 * len) - F) = firstIn bs k (min T (8 * len) - k)) (fun n => 1048577 - (intOf n).toNat)
  case atStart => exact ⟨F, by omega, by omega, rfl, rfl⟩
  case round =>
    obtain ⟨k, hk, hk2, rfl, hf⟩ := hrel
    have HF := Lib.hid hf
    clear hf
    by_cases hT : 8 * len < T
    all_goals
      by_cases hlt : k < min T (8 * len)
      · have hs : min T (8 * len) - k = (min T (8 * len) - (k + 1)) + 1 := by omega
        have HS := Lib.hid hs
        clear hs
        by_cases hb : bit bs k = true
        · have HB := Lib.hid hb
          clear hb
          go_wp2_with (go_at_call 112; refine (bitmap_Get D A c len bs _ _ HH.out HL.out (by omega) (by omega) (by omega)).mono ?_; rintro e w' ⟨rfl, rfl⟩; rw [show ((k : Int)).toNat = k from rfl, HB.out])
          refine ⟨⟨k + 1, by omega, by omega, by go_num, ?_⟩, by simp [intOf]; omega⟩
          rw [HF.out, HS.out, firstIn, if_pos HB.out]
        · have HB := Lib.hid (Bool.eq_false_iff.2 hb)
          clear hb
          go_wp2_with (go_at_call 112; refine (bitmap_Get D A c len bs _ _ HH.out HL.out (by omega) (by omega) (by omega)).mono ?_; rintro e w' ⟨rfl, rfl⟩; rw [show ((k : Int)).toNat = k from rfl, HB.out])
          go_ret2
          refine ⟨?_, rfl⟩
          rw [HP.out, HF.out, HS.out, firstIn, if_neg (by rw [HB.out]; simp)]
          rfl
      · go_wp2_with fail
        go_ret2
        refine ⟨?_, rfl⟩
        rw [HP.out, HF.out, show min T (8 * len) - k = 0 from by omega]
        rfl

def FreeRel (bs : List UInt8) (F T : Nat) (a b c : Value) : Prop :=
  ∃ k m : Nat, k ≤ 1048577 ∧ m ≤ k ∧ a = .int .i64 m ∧ m + bmFree bs k T = bmFree bs F T ∧
    ((∃ n : Nat, bmFirst bs k T = some n ∧ b = .int .i64 n ∧ c = .bool true) ∨ (bmFirst bs k T = none ∧ b = .int .i64 (-1) ∧ c = .bool false))

theorem bitmap_Free (D : List Nat) (A : Option Addr) (c len : Nat) (bs : List UInt8) (f t : Int) (w : World) (h : Bytes w D A c bs) (hl : bs.length = len) (h1 : 0 ≤ f) (h2 : f ≤ 1048576) (h4 : 0 ≤ t) (h5 : t ≤ 1048575) (h3 : len ≤ 131071) :
    Calls Tryz.prog 63 #[.slice A len c, .int .i64 f, .int .i64 t] w fun e w' => e = .returned (.int .i64 (bmFree bs f.toNat t.toNat)) ∧ w = w' := by
  obtain ⟨F, rfl⟩ := Int.eq_ofNat_of_zero_le h1
  obtain ⟨T, rfl⟩ := Int.eq_ofNat_of_zero_le h4
  simp only [Int.toNat_natCast]
  subst hl
  have HH := Lib.hid h
  clear h
  have key : ∀ k : Nat, k ≤ 1048576 → Calls Tryz.prog 99 #[.slice A bs.length c, .int .i64 k, .int .i64 T] w fun e w' => e = .returned (firstVal (bmFirst bs k T)) ∧ w = w' := fun k hk => by
    have := bitmap_First D A c bs.length bs k T w HH.out rfl (by omega) (by omega) (by omega) (by omega) (by omega)
    simpa using this
  have KEY := Lib.hid key
  clear key
  rcases ho : bmFirst bs F T with _ | n0
  all_goals
    have HO := Lib.hid ho
    clear ho
    go_enter Tryz.func63, Tryz.ntmps63
    go_wp2_with (go_at_call 99; refine (KEY.out _ (by omega)).mono ?_; rintro e w' ⟨rfl, rfl⟩; rw [HO.out]; simp only [firstVal])
    go_loop [7, 8, 9] (fun a b c => FreeRel bs F T a b c) (fun a _ _ => 1048577 - (intOf a).toNat)
    case atStart =>
      refine ⟨F, 0, by omega, by omega, rfl, by omega, ?_⟩
      first
      | exact .inl ⟨_, HO.out, rfl, rfl⟩
      | exact .inr ⟨HO.out, rfl, rfl⟩
    case round =>
      obtain ⟨k, m, hk, hm, rfl, hc, hd⟩ := hrel
      have HC := Lib.hid hc
      clear hc
      rcases hd with ⟨n, hn, rfl, rfl⟩ | ⟨hn, rfl, rfl⟩
      · have hb := bmFirst_some hn
        have hbf := bmFree_of_some hn
        have HBF := Lib.hid hbf
        have hb1 : k ≤ n := hb.1
        have hb2 : n < T := hb.2.1
        clear hb hn hbf
        rcases ho2 : bmFirst bs (n + 1) T with _ | n2
        all_goals
          have HO2 := Lib.hid ho2
          clear ho2
          go_wp2_with (go_at_call 99; refine (KEY.out (n + 1) (by omega)).mono ?_; rintro e w' ⟨rfl, rfl⟩; rw [HO2.out]; simp only [firstVal])
          refine ⟨⟨n + 1, m + 1, by omega, by omega, by go_num, by rw [← HC.out, HBF.out]; omega, ?_⟩, by simp [intOf]; omega⟩
          first
          | exact .inl ⟨_, HO2.out, rfl, rfl⟩
          | exact .inr ⟨HO2.out, rfl, rfl⟩
      · have hbf := bmFree_of_none hn
        have HBF := Lib.hid hbf
        clear hn hbf
        go_wp2_with fail
        go_ret
        refine ⟨ret_int ?_, rfl⟩
        rw [← HC.out, HBF.out]
        rfl
end Go.Proofs.YtcbdjmlkjifamaaGreatDoor

/- The functions of package bitmap that make maps. Conditions: the slices read as lists of bytes; numbers within bounds. -/
namespace Go.Proofs.YtcbdjmlkjifamaaGreatDoor
open Go.RowKit
set_option maxRecDepth 100000

theorem or_bit (x k : Nat) (hx : x < 256) (hk : k < 8) : bits .or .u8 (x : Int) (2 ^ k % 256) = ((UInt8.ofNat (x ||| 2 ^ k)).toNat : Int) := by
  have h2 : (2 : Nat) ^ k < 256 := Nat.lt_of_lt_of_le (Nat.pow_lt_pow_right (by omega) hk) (by decide)
  have e1 : ((2 : Int) ^ k % 256) = ((2 ^ k : Nat) : Int) := by
    rw [show ((2 : Int) ^ k) = ((2 ^ k : Nat) : Int) from by simp]
    generalize (2 : Nat) ^ k = y at h2
    exact Int.emod_eq_of_lt (by omega) (by omega)
  rw [e1, u8_or_nat x (2 ^ k) hx h2]
  have h3 : x ||| 2 ^ k < 2 ^ 8 := Nat.or_lt_two_pow hx h2
  rw [UInt8.toNat_ofNat_of_lt' h3]
theorem getD_at' (bs : List UInt8) (k : Nat) (h : k < bs.length) : bs.getD k 0 = bs[k] := by
  rw [List.getD_eq_getElem?_getD, List.getElem?_eq_getElem h]
  rfl
theorem bitmap_New (n : Nat) (w : World) (hn : n ≤ 2048) :
    Calls Tryz.prog 95 #[.int .i64 n] w fun e w' => ∃ v, e = .returned (.tuple #[v, .int .i64 0]) ∧
      w'.ownsRow w.heap.size 5 1 v ((n + 7) / 8) ((List.replicate ((n + 7) / 8) (0 : UInt8)).map b8) ∧ Kept [] w w' := by
  have hmk := fun W => run_make_bytes ((n + 7) / 8) (((n : Int) + 8 - 1) / 8) (by omega) (by omega) W
  go_enter Tryz.func95, Tryz.ntmps95
  go_wp2
  go_ret2
  exact ⟨_, rfl, own_zeros rfl (Nat.le_refl _) (by simp only [maxLen]; omega), (Kept.refl _ _).alloc _⟩

theorem int_info : (Tryz.prog.info? 3).map (fun i => (i.zero, i.size, i.bytes)) = some (some (.int .i64 0), 1, 8) := by kernel_rfl
/-- An int's value. -/
abbrev i64 (x : Nat) : Value := .int .i64 x

def TakeRel (w : World) (bs : List UInt8) (F T many : Nat) (v0 : Value) (a : Value) (wr : World) : Prop :=
  ∃ (ls : List Nat) (cur : List UInt8), ls.length ≤ many ∧ cur.length = bs.length ∧ wr.ownsRow w.heap.size 3 1 a ls.length (ls.map i64) ∧ wr.ownsRow w.heap.size 5 1 v0 bs.length (cur.map b8) ∧
    Kept [] w wr ∧ bmTake bs F T many = (bmTake cur F T (many - ls.length)).map fun r => (ls ++ r.1, r.2)

theorem bitmap_Take (D : List Nat) (A : Option Addr) (c len : Nat) (bs : List UInt8) (many f t : Int) (w : World) (h : Bytes w D A c bs) (hl : bs.length = len) (h0 : 0 ≤ many) (h6 : many ≤ 2048) (h1 : 0 ≤ f) (h2 : f ≤ 2048) (h4 : 0 ≤ t) (h5 : t ≤ 2048) (h3 : len ≤ 256)
    (l : List Nat) (b2 : List UInt8) (hok : bmTake bs f.toNat t.toNat many.toNat = some (l, b2)) :
    Calls Tryz.prog 96 #[.slice A len c, .int .i64 many, .int .i64 f, .int .i64 t] w fun e w' => ∃ v1 v2, e = .returned (.tuple #[v1, v2, .int .i64 0]) ∧
      w'.ownsRow w.heap.size 3 1 v1 l.length (l.map i64) ∧ w'.ownsRow w.heap.size 5 1 v2 b2.length (b2.map b8) ∧ Kept [] w w' := by
  obtain ⟨F, rfl⟩ := Int.eq_ofNat_of_zero_le h1
  obtain ⟨T, rfl⟩ := Int.eq_ofNat_of_zero_le h4
  obtain ⟨M, rfl⟩ := Int.eq_ofNat_of_zero_le h0
  simp only [Int.toNat_natCast] at hok
  subst hl
  have HH := Lib.hid h
  have HOK := Lib.hid hok
  clear h hok
  go_enter Tryz.func96, Tryz.ntmps96
  go_wp2_with (go_at_call 98; refine (bytes_Clone D A c bs _ HH.out).mono ?_; rintro e w1 ⟨v0, rfl, hown, hk⟩; have HO := Lib.hid hown; have HK := Lib.hid hk; clear hown hk)
  go_loopw [12] (fun a wr => TakeRel w bs F T M v0 a wr) (fun a _ => M - (match a with | .slice _ n _ => n | _ => 0))
  case atStart => exact ⟨[], bs, Nat.zero_le _, rfl, World.ownsRow_nil _ _ _ _, HO.out, HK.out, by simp⟩
  case round =>
    obtain ⟨ls, cur, hls, hcl, ho1, ho2, hk, ht⟩ := hrel
    obtain ⟨A1, c1, rfl⟩ := own_form ho1
    obtain ⟨A2, c2, rfl⟩ := own_form ho2
    have HCL := Lib.hid hcl
    have HO1 := Lib.hid ho1
    have HO2 := Lib.hid ho2
    have HK := Lib.hid hk
    have HT := Lib.hid ht
    clear hcl ho1 ho2 hk ht
    by_cases hlt : ls.length < M
    · have hs : M - ls.length = (M - (ls.length + 1)) + 1 := by omega
      have ht := HT.out
      rw [HOK.out, hs, bmTake] at ht
      clear hs
      rcases hf : bmFirst cur F T with _ | n
      · rw [hf] at ht
        simp at ht
      · rw [hf] at ht
        simp only [Option.bind_some] at ht
        have HT2 := Lib.hid ht
        clear ht
        have hb := bmFirst_some hf
        rw [HCL.out] at hb
        have hb1 := hb.2.2.1
        have HF := Lib.hid hf
        clear hf hb
        go_wp2_with (first
          | (go_at_call 99; refine Stop.here ?_)
          | (at_builtin; refine Stop.here ?_))
        refine Stop.go ?_
        have hbw : Bytes wr [] A2 c2 cur := Bytes.of_own HO2.out HCL.out (by simp) (by omega)
        have hfc := bitmap_First [] A2 c2 bs.length cur F T wr hbw HCL.out (by omega) (by omega) (by omega) (by omega) (by omega)
        simp only [Int.toNat_natCast, HF.out, firstVal] at hfc
        refine hfc.mono ?_
        rintro e w' ⟨rfl, rfl⟩
        clear hfc hbw
        go_wp2_with (at_builtin; refine Stop.here ?_)
        refine Stop.go ?_
        obtain ⟨i0, hi, hz0, hz1, hz2⟩ := info_parts int_info
        refine wpList_append_new (W0 := w) rfl (.tmp 30) (.tmp 32) _ rfl w.heap.size 3 i0 _ 1 8 Tryz.underlying140 hi hz0 hz1 hz2 rfl (by omega) (.slice A1 ls.length c1) _ _ rfl HO1.out _ _ rfl rfl rfl (by simp [Value.oneCell']) ?_ ?_ HK.out.size HK.out (Nat.le_refl _) ?_
        · simp only [maxLen]; omega
        · omega
        intro v1 w2 hown1 hg1 hk1 _
        have ho2 : w2.ownsRow w.heap.size 5 1 (.slice A2 bs.length c2) bs.length (cur.map b8) := (HO2.out.alloc _).kept hg1 (own_own_ne HO2.out HO1.out (by decide))
        obtain ⟨g, rfl, hg1, hg2, hcell, hfz⟩ := own_at ho2 HCL.out (show n / 8 < bs.length by omega)
        have hne := own_own_ne hown1 ho2 (by decide)
        have HOW := Lib.hid hown1
        have HO3 := Lib.hid ho2
        have HK1 := Lib.hid hk1
        have hcur : cur[n / 8]'(by rw [HCL.out]; omega) = cur.getD (n / 8) 0 := (getD_at' cur (n / 8) (by rw [HCL.out]; omega)).symm
        rw [hcur] at hcell
        have hlt8 : (cur.getD (n / 8) 0).toNat < 256 := UInt8.toNat_lt _
        obtain ⟨x, hx⟩ : ∃ x, x = (cur.getD (n / 8) 0).toNat := ⟨_, rfl⟩
        rw [← hx] at hcell hlt8
        have HX := Lib.hid hx
        clear hi hz0 hz1 hz2 hown1 ho2 hk1 hcur hx
        go_wp2_with fail
        go_region
        rw [or_bit x (n % 8) hlt8 (by omega)]
        have hs3 := own_set HO3.out (n / 8) (UInt8.ofNat (x ||| 2 ^ (n % 8)))
        have hs2 := own_other HOW.out (p := ⟨g, n / 8, none⟩) (by rcases hne with h | h <;> simp [Value.ownBlock] at h ⊢ <;> simp [h]) (b8 (UInt8.ofNat (x ||| 2 ^ (n % 8))))
        have hk3 : Kept [] w ((w2.setCell ⟨g, n / 8, none⟩ (b8 (UInt8.ofNat (x ||| 2 ^ (n % 8))))).drew) := (HK1.out.setCell (.inl hg1) _).drew
        have HS3 := Lib.hid hs3
        have HS2 := Lib.hid hs2
        have HK3 := Lib.hid hk3
        clear hs3 hs2 hk3 hne
        go_wp2_with fail
        refine ⟨⟨ls ++ [n], setBit cur n, by simp; omega, by rw [setBit_length, HCL.out], ?_, ?_, HK3.out, ?_⟩, ?_⟩
        · have := HS2.out
          rw [List.map_append, List.length_append]
          exact this
        · have e : setBit cur n = cur.set (n / 8) (UInt8.ofNat (x ||| 2 ^ (n % 8))) := by rw [HX.out]; rfl
          rw [e]
          exact HS3.out
        · rw [HOK.out, HT2.out, List.length_append]
          simp only [List.length_singleton, Option.map_map]
          congr 1
          funext r
          simp
        · obtain ⟨A5, c5, rfl⟩ := own_form HOW.out
          show M - (ls.length + 1) < M - ls.length
          omega
    · have he : ls.length = M := by omega
      have ht := HT.out
      rw [HOK.out, show M - ls.length = 0 from by omega] at ht
      simp only [bmTake, Option.map_some, List.append_nil, Option.some.injEq, Prod.mk.injEq] at ht
      have HT3 := Lib.hid ht
      clear ht he
      go_wp2_with fail
      go_ret3
      refine ⟨_, _, rfl, ?_, ?_, HK.out⟩
      · rw [HT3.out.1]
        exact HO1.out
      · rw [HT3.out.2, HCL.out]
        exact HO2.out

theorem bitmap_Take_full (D : List Nat) (A : Option Addr) (c len : Nat) (bs : List UInt8) (many f t : Int) (w : World) (h : Bytes w D A c bs) (hl : bs.length = len) (h0 : 0 ≤ many) (h6 : many ≤ 2048) (h1 : 0 ≤ f) (h2 : f ≤ 2048) (h4 : 0 ≤ t) (h5 : t ≤ 2048) (h3 : len ≤ 256)
    (hok : bmTake bs f.toNat t.toNat many.toNat = none) :
    Calls Tryz.prog 96 #[.slice A len c, .int .i64 many, .int .i64 f, .int .i64 t] w fun e w' => e = .returned (.tuple #[.slice none 0 0, .slice none 0 0, .int .i64 8]) ∧ Kept [] w w' := by
  obtain ⟨F, rfl⟩ := Int.eq_ofNat_of_zero_le h1
  obtain ⟨T, rfl⟩ := Int.eq_ofNat_of_zero_le h4
  obtain ⟨M, rfl⟩ := Int.eq_ofNat_of_zero_le h0
  simp only [Int.toNat_natCast] at hok
  subst hl
  have HH := Lib.hid h
  have HOK := Lib.hid hok
  clear h hok
  go_enter Tryz.func96, Tryz.ntmps96
  go_wp2_with (go_at_call 98; refine (bytes_Clone D A c bs _ HH.out).mono ?_; rintro e w1 ⟨v0, rfl, hown, hk⟩; have HO := Lib.hid hown; have HK := Lib.hid hk; clear hown hk)
  go_loopw [12] (fun a wr => TakeRel w bs F T M v0 a wr) (fun a _ => M - (match a with | .slice _ n _ => n | _ => 0))
  case atStart => exact ⟨[], bs, Nat.zero_le _, rfl, World.ownsRow_nil _ _ _ _, HO.out, HK.out, by simp⟩
  case round =>
    obtain ⟨ls, cur, hls, hcl, ho1, ho2, hk, ht⟩ := hrel
    obtain ⟨A1, c1, rfl⟩ := own_form ho1
    obtain ⟨A2, c2, rfl⟩ := own_form ho2
    have HCL := Lib.hid hcl
    have HO1 := Lib.hid ho1
    have HO2 := Lib.hid ho2
    have HK := Lib.hid hk
    have HT := Lib.hid ht
    clear hcl ho1 ho2 hk ht
    by_cases hlt : ls.length < M
    · have hs : M - ls.length = (M - (ls.length + 1)) + 1 := by omega
      have ht := HT.out
      rw [HOK.out, hs, bmTake] at ht
      clear hs
      rcases hf : bmFirst cur F T with _ | n
      · have HF := Lib.hid hf
        clear hf ht
        go_wp2_with (go_at_call 99; refine Stop.here ?_)
        refine Stop.go ?_
        have hbw : Bytes wr [] A2 c2 cur := Bytes.of_own HO2.out HCL.out (by simp) (by omega)
        have hfc := bitmap_First [] A2 c2 bs.length cur F T wr hbw HCL.out (by omega) (by omega) (by omega) (by omega) (by omega)
        simp only [Int.toNat_natCast, HF.out, firstVal] at hfc
        refine hfc.mono ?_
        rintro e w' ⟨rfl, rfl⟩
        clear hfc hbw
        go_wp2_with fail
        go_ret3
        exact ⟨rfl, HK.out⟩
      · rw [hf] at ht
        simp only [Option.bind_some] at ht
        have HT2 := Lib.hid ht
        clear ht
        have hb := bmFirst_some hf
        rw [HCL.out] at hb
        have hb1 := hb.2.2.1
        have HF := Lib.hid hf
        clear hf hb
        go_wp2_with (first
          | (go_at_call 99; refine Stop.here ?_)
          | (at_builtin; refine Stop.here ?_))
        refine Stop.go ?_
        have hbw : Bytes wr [] A2 c2 cur := Bytes.of_own HO2.out HCL.out (by simp) (by omega)
        have hfc := bitmap_First [] A2 c2 bs.length cur F T wr hbw HCL.out (by omega) (by omega) (by omega) (by omega) (by omega)
        simp only [Int.toNat_natCast, HF.out, firstVal] at hfc
        refine hfc.mono ?_
        rintro e w' ⟨rfl, rfl⟩
        clear hfc hbw
        go_wp2_with (at_builtin; refine Stop.here ?_)
        refine Stop.go ?_
        obtain ⟨i0, hi, hz0, hz1, hz2⟩ := info_parts int_info
        refine wpList_append_new (W0 := w) rfl (.tmp 30) (.tmp 32) _ rfl w.heap.size 3 i0 _ 1 8 Tryz.underlying140 hi hz0 hz1 hz2 rfl (by omega) (.slice A1 ls.length c1) _ _ rfl HO1.out _ _ rfl rfl rfl (by simp [Value.oneCell']) ?_ ?_ HK.out.size HK.out (Nat.le_refl _) ?_
        · simp only [maxLen]; omega
        · omega
        intro v1 w2 hown1 hg1 hk1 _
        have ho2 : w2.ownsRow w.heap.size 5 1 (.slice A2 bs.length c2) bs.length (cur.map b8) := (HO2.out.alloc _).kept hg1 (own_own_ne HO2.out HO1.out (by decide))
        obtain ⟨g, rfl, hg1, hg2, hcell, hfz⟩ := own_at ho2 HCL.out (show n / 8 < bs.length by omega)
        have hne := own_own_ne hown1 ho2 (by decide)
        have HOW := Lib.hid hown1
        have HO3 := Lib.hid ho2
        have HK1 := Lib.hid hk1
        have hcur : cur[n / 8]'(by rw [HCL.out]; omega) = cur.getD (n / 8) 0 := (getD_at' cur (n / 8) (by rw [HCL.out]; omega)).symm
        rw [hcur] at hcell
        have hlt8 : (cur.getD (n / 8) 0).toNat < 256 := UInt8.toNat_lt _
        obtain ⟨x, hx⟩ : ∃ x, x = (cur.getD (n / 8) 0).toNat := ⟨_, rfl⟩
        rw [← hx] at hcell hlt8
        have HX := Lib.hid hx
        clear hi hz0 hz1 hz2 hown1 ho2 hk1 hcur hx
        go_wp2_with fail
        go_region
        rw [or_bit x (n % 8) hlt8 (by omega)]
        have hs3 := own_set HO3.out (n / 8) (UInt8.ofNat (x ||| 2 ^ (n % 8)))
        have hs2 := own_other HOW.out (p := ⟨g, n / 8, none⟩) (by rcases hne with h | h <;> simp [Value.ownBlock] at h ⊢ <;> simp [h]) (b8 (UInt8.ofNat (x ||| 2 ^ (n % 8))))
        have hk3 : Kept [] w ((w2.setCell ⟨g, n / 8, none⟩ (b8 (UInt8.ofNat (x ||| 2 ^ (n % 8))))).drew) := (HK1.out.setCell (.inl hg1) _).drew
        have HS3 := Lib.hid hs3
        have HS2 := Lib.hid hs2
        have HK3 := Lib.hid hk3
        clear hs3 hs2 hk3 hne
        go_wp2_with fail
        refine ⟨⟨ls ++ [n], setBit cur n, by simp; omega, by rw [setBit_length, HCL.out], ?_, ?_, HK3.out, ?_⟩, ?_⟩
        · have := HS2.out
          rw [List.map_append, List.length_append]
          exact this
        · have e : setBit cur n = cur.set (n / 8) (UInt8.ofNat (x ||| 2 ^ (n % 8))) := by rw [HX.out]; rfl
          rw [e]
          exact HS3.out
        · rw [HOK.out, HT2.out, List.length_append]
          simp only [List.length_singleton, Option.map_map]
          congr 1
          funext r
          simp
        · obtain ⟨A5, c5, rfl⟩ := own_form HOW.out
          show M - (ls.length + 1) < M - ls.length
          omega
    · have ht := HT.out
      rw [HOK.out, show M - ls.length = 0 from by omega] at ht
      simp [bmTake] at ht

theorem andNot_bit (x k : Nat) (hx : x < 256) (hk : k < 8) : bits .andNot .u8 (x : Int) (2 ^ k % 256) = ((UInt8.ofNat (x &&& (255 - 2 ^ k))).toNat : Int) := by
  have h2 : (2 : Nat) ^ k < 256 := Nat.lt_of_lt_of_le (Nat.pow_lt_pow_right (by omega) hk) (by decide)
  have e1 : ((2 : Int) ^ k % 256) = ((2 ^ k : Nat) : Int) := by
    rw [show ((2 : Int) ^ k) = ((2 ^ k : Nat) : Int) from by simp]
    generalize (2 : Nat) ^ k = y at h2
    exact Int.emod_eq_of_lt (by omega) (by omega)
  rw [e1, u8_andNot_nat x (2 ^ k) hx h2]
  have h3 : x &&& (255 - 2 ^ k) ≤ x := Nat.and_le_left
  rw [UInt8.toNat_ofNat_of_lt' (show x &&& (255 - 2 ^ k) < 256 by omega)]

/-- A slice of ints that are natural numbers. -/
def Ints (w : World) (D : List Nat) (A : Option Addr) (c : Nat) (l : List Nat) : Prop := Sl w D 3 1 A l.length c (l.map i64)
theorem Ints.get {w : World} {D : List Nat} {A : Option Addr} {c : Nat} {l : List Nat} (h : Ints w D A c l) {k : Nat} (hk : k < l.length) : ∃ ad, A = some ad ∧ w.cell? (ad.add k) = some (.int .i64 (l[k] : Nat)) := by
  obtain ⟨ad, u, hA, hu, hc⟩ := Sl.one h hk
  rw [List.getElem?_map, List.getElem?_eq_getElem hk] at hu
  injection hu with hu
  exact ⟨ad, hA, by rw [hc, ← hu]⟩

def GiveRel (w : World) (bs : List UInt8) (l : List Nat) (v0 : Value) (a : Value) (wr : World) : Prop :=
  ∃ (k : Nat) (cur : List UInt8), k ≤ l.length ∧ a = .int .i64 k ∧ cur.length = bs.length ∧ wr.ownsRow w.heap.size 5 1 v0 bs.length (cur.map b8) ∧ Kept [] w wr ∧ giveOk cur (l.drop k) ∧ bmGive bs l = bmGive cur (l.drop k)

theorem bitmap_Give (D : List Nat) (A : Option Addr) (c len : Nat) (bs : List UInt8) (B : Option Addr) (d m : Nat) (l : List Nat) (w : World) (h : Bytes w D A c bs) (hl : bs.length = len) (hB : Ints w D B d l) (hm : l.length = m) (h3 : len ≤ 256) (hb : ∀ n ∈ l, n ≤ 4096)
    (hok : giveOk bs l) :
    Calls Tryz.prog 108 #[.slice A len c, .slice B m d] w fun e w' => ∃ v, e = .returned (.tuple #[v, .int .i64 0]) ∧
      w'.ownsRow w.heap.size 5 1 v len ((bmGive bs l).map b8) ∧ Kept [] w w' := by
  subst hl hm
  have hsm : l.length ≤ 140737488355328 := hB.small
  have HB := Lib.hid hB
  have HBN := Lib.hid hb
  have HH := Lib.hid h
  have HOK := Lib.hid hok
  clear h hok hB hb
  go_enter Tryz.func108, Tryz.ntmps108
  go_wp2_with (go_at_call 98; refine (bytes_Clone D A c bs _ HH.out).mono ?_; rintro e w1 ⟨v0, rfl, hown, hk⟩; have HO := Lib.hid hown; have HK := Lib.hid hk; clear hown hk)
  go_loopw [13] (fun a wr => GiveRel w bs l v0 a wr) (fun a _ => l.length - (intOf a).toNat)
  case atStart => exact ⟨0, bs, Nat.zero_le _, rfl, rfl, HO.out, HK.out, HOK.out, rfl⟩
  case round =>
    obtain ⟨k, cur, hk, rfl, hcl, ho, hkp, hgo, ht⟩ := hrel
    obtain ⟨A2, c2, rfl⟩ := own_form ho
    have HCL := Lib.hid hcl
    have HO2 := Lib.hid ho
    have HK := Lib.hid hkp
    have HT := Lib.hid ht
    clear hcl ho hkp ht
    by_cases hlt : k < l.length
    · rw [List.drop_eq_getElem_cons hlt] at hgo
      obtain ⟨hg1, hg2, hg3⟩ := hgo
      rw [HCL.out] at hg1
      have HG2 := Lib.hid hg2
      have HG3 := Lib.hid hg3
      have hbn := HBN.out _ (List.getElem_mem hlt)
      have hT2 := HT.out
      rw [List.drop_eq_getElem_cons hlt, bmGive] at hT2
      have HT2 := Lib.hid hT2
      clear hT2
      obtain ⟨ad, rfl, hcl2⟩ := Ints.get (Sl.keep0 HB.out HK.out) hlt
      obtain ⟨g, rfl, hgb1, hgb2, hcell, hfz⟩ := own_at HO2.out HCL.out hg1
      have hcur : cur[l[k] / 8]'(by rw [HCL.out]; omega) = cur.getD (l[k] / 8) 0 := (getD_at' cur (l[k] / 8) (by rw [HCL.out]; omega)).symm
      rw [hcur] at hcell
      have hlt8 : (cur.getD (l[k] / 8) 0).toNat < 256 := UInt8.toNat_lt _
      obtain ⟨n, hn⟩ : ∃ n, n = l[k] := ⟨_, rfl⟩
      rw [← hn] at hcl2 hcell hlt8 hg1 hbn HG2 HG3 HT2 hfz
      obtain ⟨x, hx⟩ : ∃ x, x = (cur.getD (n / 8) 0).toNat := ⟨_, rfl⟩
      rw [← hx] at hcell hlt8
      have HX := Lib.hid hx
      clear hg2 hg3 hcur hn hx
      go_wp2_with (go_at_call 112; refine Stop.here ?_)
      refine Stop.go ?_
      have hbw : Bytes wr [] (some ⟨g, 0, none⟩) c2 cur := Bytes.of_own HO2.out HCL.out (by simp) (by omega)
      have hgc := bitmap_Get [] (some ⟨g, 0, none⟩) c2 bs.length cur n wr hbw HCL.out (by omega) (by omega) (by omega)
      simp only [Int.toNat_natCast, HG2.out] at hgc
      refine hgc.mono ?_
      rintro e w' ⟨rfl, rfl⟩
      clear hgc hbw
      go_wp2_with fail
      go_region
      rw [andNot_bit x (n % 8) hlt8 (by omega)]
      obtain ⟨y, hy⟩ : ∃ y, y = UInt8.ofNat (x &&& (255 - 2 ^ (n % 8))) := ⟨_, rfl⟩
      rw [← hy]
      have HY := Lib.hid hy
      clear hy
      have hs3 := own_set HO2.out (n / 8) y
      have hk3 : Kept [] w ((wr.setCell ⟨g, n / 8, none⟩ (b8 y)).drew) := (HK.out.setCell (.inl hgb1) _).drew
      have HS3 := Lib.hid hs3
      have HK3 := Lib.hid hk3
      clear hs3 hk3
      go_wp2_with fail
      have e : clrBit cur n = cur.set (n / 8) y := by rw [HY.out, HX.out]; rfl
      refine ⟨⟨k + 1, clrBit cur n, by omega, by go_num, by rw [clrBit_length, HCL.out], ?_, HK3.out, HG3.out, HT2.out⟩, by simp [intOf]; omega⟩
      rw [e]
      exact HS3.out
    · have hfin : bmGive bs l = cur := by rw [HT.out, List.drop_eq_nil_of_le (by omega)]; rfl
      have HF := Lib.hid hfin
      clear hfin hgo
      go_wp2_with fail
      go_ret2
      refine ⟨_, rfl, ?_, HK.out⟩
      rw [HF.out]
      exact HO2.out
end Go.Proofs.YtcbdjmlkjifamaaGreatDoor

/- slices.IndexFunc, slices.DeleteFunc at numbers, over the two predicates of package inode; clear of a row's tail. Condition: the slice's cells. -/
namespace Go.Proofs.YtcbdjmlkjifamaaGreatDoor
open Go.RowKit
set_option maxRecDepth 100000

theorem inode_in (n least most : Int) (w : World) :
    Calls Tryz.prog 100 #[.int .i64 n, .int .i64 least, .int .i64 most] w fun e w' => e = .returned (.bool (decide (least ≤ n) && decide (n ≤ most))) ∧ w = w' := by
  by_cases h : least ≤ n
  all_goals
    go_enter Tryz.func100, Tryz.ntmps100
    go_wp2
    go_ret
    exact ⟨ret_bool (by simp [h] <;> omega), rfl⟩

theorem inode_all1 (n : Nat) (w : World) : Calls Tryz.prog 117 #[.int .i64 n] w fun e w' => e = .returned (.bool (n == 0)) ∧ Kept [] w w' := by
  by_cases h : n = 0
  all_goals
    go_enter Tryz.func117, Tryz.ntmps117
    go_wp2
    go_ret
    refine ⟨ret_bool ?_, Kept.refl _ _⟩
    rw [Bool.eq_iff_iff]
    simp [h]

theorem inode_Used1 (n : Nat) (w : World) : Calls Tryz.prog 116 #[.int .i64 n] w fun e w' => e = .returned (.bool (!(decide (1 ≤ n) && decide (n ≤ 255)))) ∧ Kept [] w w' := by
  go_enter Tryz.func116, Tryz.ntmps116
  go_wp2_with (go_at_call 100; refine (inode_in _ _ _ _).mono ?_; rintro e w' ⟨rfl, rfl⟩)
  go_ret
  exact ⟨ret_bool (by rw [Bool.eq_iff_iff]; simp; omega), Kept.refl _ _⟩

/-- The place of the first that p holds of; -1. -/
def idxI (p : Nat → Bool) (zs : List Nat) : Int := if zs.findIdx p < zs.length then (zs.findIdx p : Int) else -1

theorem slices_IndexFunc_int (f : Nat) (hf : f = 117 ∨ f = 116) (p : Nat → Bool) (D : List Nat) (A : Option Addr) (c : Nat) (zs : List Nat) (w : World) (h : Ints w D A c zs)
    (hp : ∀ z W, Calls Tryz.prog f #[.int .i64 (z : Nat)] W fun e w' => e = .returned (.bool (p z)) ∧ Kept [] W w') :
    Calls Tryz.prog 129 #[.slice A zs.length c, .func (.func f) #[] #[]] w fun e w' => e = .returned (.int .i64 (idxI p zs)) ∧ Kept [] w w' := by
  have HS := Lib.hid h
  have HP := Lib.hid hp
  have hsm := h.small
  clear h hp
  rcases hf with rfl | rfl
  all_goals
  go_enter Tryz.func129, Tryz.ntmps129
  go_wp2_with fail
  go_loopw [8] (fun a wr => ∃ k : Nat, k ≤ zs.length ∧ a = .int .i64 k ∧ k ≤ zs.findIdx p ∧ Kept [] w wr) (fun a _ => zs.length - (intOf a).toNat)
  case atStart => exact ⟨0, Nat.zero_le _, rfl, Nat.zero_le _, Kept.refl _ _⟩
  case round =>
    obtain ⟨k, hk, rfl, hfi, hkp⟩ := hrel
    have HF := Lib.hid hfi
    have HK := Lib.hid hkp
    clear hfi hkp
    by_cases hlt : k < zs.length
    · obtain ⟨ad, u, rfl, hu, hc⟩ := Sl.one (HS.out.keep0 HK.out) hlt
      rw [List.getElem?_map, List.getElem?_eq_getElem hlt] at hu
      injection hu with hu
      subst hu
      obtain ⟨z, hz⟩ : ∃ z, z = zs[k] := ⟨_, rfl⟩
      rw [← hz] at hc
      have HZ := Lib.hid hz
      clear hz
      go_wp2_with fail
      refine (HP.out z _).mono ?_
      rintro e w1 ⟨rfl, hk1⟩
      have HK1 := Lib.hid (HK.out.trans hk1)
      clear hk1
      by_cases hpz : p z = true
      · have hfe : zs.findIdx p = k := by
          have h1 := HF.out
          rcases Nat.lt_or_eq_of_le h1 with h2 | h2
          · have := List.not_of_lt_findIdx h2
            rw [← HZ.out] at this
            simp [hpz] at this
          · exact h2.symm
        have HE := Lib.hid hfe
        clear hfe
        go_wp2_with fail
        go_ret
        exact ⟨ret_int (by rw [idxI, HE.out, if_pos hlt]), HK1.out⟩
      · have hpf : p z = false := by simpa using hpz
        clear hpz
        go_wp2_with fail
        go_roundw
        case rel =>
          refine ⟨k + 1, by omega, by go_num, ?_, HK1.out⟩
          rcases Nat.lt_or_eq_of_le HF.out with h2 | h2
          · exact h2
          · exfalso
            have := List.findIdx_getElem (p := p) (xs := zs) (w := by omega)
            simp only [← h2, ← HZ.out] at this
            rw [hpf] at this
            cases this
        case measure => simp [intOf]; omega
    · go_wp2_with fail
      go_ret
      exact ⟨ret_int (by rw [idxI, if_neg (by have := HF.out; omega)]), HK.out⟩

/-- A row's tail is cleared. -/
theorem run_clear_own (w : World) (base g n cap k : Nat) (xs : List Value) (ty : TypeId) (h : w.ownsRow base 3 1 (.slice (some ⟨g, 0, none⟩) n cap) n xs) (hk : k ≤ n) :
    ∃ w', (Builtin.clear_ #[140] ty #[.slice (if cap = k then some ⟨g, 0, none⟩ else some ⟨g, k, none⟩) (n - k) (cap - k)]).run Tryz.prog w = .ok (.tuple #[]) w' ∧
      w'.ownsRow base 3 1 (.slice (some ⟨g, 0, none⟩) k cap) k (xs.take k) ∧ w.grownBy w' (some g) := by
  rcases h.2 with ⟨h', _⟩ | ⟨g', cap', cur, h', hb, hg, hnc, hcm, hcs, htake⟩
  · cases h'
  · simp only [Value.slice.injEq, Option.some.injEq, Addr.mk.injEq, and_true, true_and] at h'
    obtain ⟨rfl, rfl⟩ := h'
    simp only [Nat.mul_one] at hcs htake
    have hxl : xs.length = n := by simpa using h.1
    by_cases hkn : n - k = 0
    · rw [hkn]
      refine ⟨w, ?_, ⟨by rw [List.length_take]; omega, .inr ⟨g, cap, cur, rfl, hb, hg, by omega, hcm, by simpa using hcs, ?_⟩⟩, World.grownBy.refl w _⟩
      · split <;> simp [Builtin.clear_, run_underlying Tryz.underlying140]
      · rw [Nat.mul_one, ← htake, List.take_take, Nat.min_eq_left hk]
    · rw [if_neg (by omega)]
      obtain ⟨i0, hi, hz0, hz1, hz2⟩ := info_parts int_info
      have hst := run_storeCells_at (P := Tryz.prog) g k 3 (List.replicate (n - k) (Value.int .i64 0)) 0 cur w hg (by simp; omega) (fun u hu => by rw [(List.mem_replicate.1 hu).2]; rfl)
      obtain ⟨nw, hnw⟩ : ∃ nw, nw = (List.take (k + 0) cur.toList ++ List.replicate (n - k) (Value.int IntKind.i64 0) ++ List.drop (k + 0 + (List.replicate (n - k) (Value.int IntKind.i64 0)).length) cur.toList).toArray := ⟨_, rfl⟩
      rw [← hnw] at hst
      refine ⟨w.setRow g nw, ?_, ⟨by rw [List.length_take]; omega, .inr ⟨g, cap, nw, rfl, hb, setRow_heap w g cur nw 3 (0, 0) hg, by omega, hcm, ?_, ?_⟩⟩, ⟨rfl, rfl, rfl, by simp, fun b _ hne => setRow_other w g b nw (fun e => hne (by rw [e]))⟩⟩
      · have hzc : (Builtin.zeroCells #[Value.int .i64 0] (n - k)).toList = List.replicate (n - k) (Value.int .i64 0) := by rw [zeroCells_one]
        have hzv : ∀ w, (zeroValue 3).run Tryz.prog w = .ok (.int .i64 0) w := fun w => by kernel_rfl
        obtain ⟨m, hm'⟩ : ∃ m, n - k = m + 1 := ⟨n - k - 1, by omega⟩
        rw [hm'] at hzc hst ⊢
        simp [Builtin.clear_, run_underlying Tryz.underlying140, hzv, Value.cells, hzc, hst]
      · rw [hnw]; simp; omega
      · rw [hnw]
        simp only [Nat.add_zero, Nat.mul_one, List.append_assoc]
        rw [List.take_append_of_le_length (by simp; omega), List.take_take, Nat.min_self, ← htake, List.take_take, Nat.min_eq_left hk]

theorem filter_take_succ (q : Nat → Bool) (zs : List Nat) (k : Nat) (hk : k < zs.length) : (zs.take (k + 1)).filter q = if q zs[k] then (zs.take k).filter q ++ [zs[k]] else (zs.take k).filter q := by
  rw [List.take_succ_eq_append_getElem hk, List.filter_append]
  by_cases h : q zs[k] = true
  · simp [h]
  · simp [h]
theorem take_findIdx_filter (p : Nat → Bool) (zs : List Nat) : (zs.take (zs.findIdx p)).filter (fun z => !p z) = zs.take (zs.findIdx p) := by
  rw [List.filter_eq_self]
  intro a ha
  obtain ⟨i, hi, rfl⟩ := List.getElem_of_mem ha
  rw [List.getElem_take]
  rw [List.length_take] at hi
  simpa using List.not_of_lt_findIdx (p := p) (xs := zs) (i := i) (by omega)

theorem del_start (p : Nat → Bool) (zs : List Nat) (x : Nat) (hx : x = zs.findIdx p) (hl : x < zs.length) : zs.take x = (zs.take (x + 1)).filter (fun z => !p z) := by
  subst hx
  have hpx : p zs[zs.findIdx p] = true := List.findIdx_getElem (p := p) (xs := zs) (w := hl)
  rw [filter_take_succ _ _ _ hl, hpx, take_findIdx_filter]
  simp
/-- What the loop of DeleteFunc knows. -/
def DelRel (w : World) (base g n cap : Nat) (p : Nat → Bool) (zs : List Nat) (a b : Value) (wr : World) : Prop :=
  ∃ (i j : Nat) (ys : List Nat), a = .int .i64 i ∧ b = .int .i64 j ∧ i ≤ j ∧ i < n ∧ j ≤ n ∧ ys.length = n ∧ ys.take i = (zs.take j).filter (fun z => !p z) ∧ ys.drop j = zs.drop j ∧
    wr.ownsRow base 3 1 (.slice (some ⟨g, 0, none⟩) n cap) n (ys.map i64) ∧ Kept [g] w wr ∧ i < j

theorem slices_DeleteFunc_int (f : Nat) (hf : f = 117 ∨ f = 116) (p : Nat → Bool) (base g n cap : Nat) (zs : List Nat) (w : World) (hn : zs.length = n) (hn2 : n ≤ 100000)
    (h : w.ownsRow base 3 1 (.slice (some ⟨g, 0, none⟩) n cap) n (zs.map i64))
    (hp : ∀ z W, Calls Tryz.prog f #[.int .i64 (z : Nat)] W fun e w' => e = .returned (.bool (p z)) ∧ Kept [] W w') :
    Calls Tryz.prog 115 #[.slice (some ⟨g, 0, none⟩) n cap, .func (.func f) #[] #[]] w fun e w' =>
      e = .returned (.slice (some ⟨g, 0, none⟩) (zs.filter (fun z => !p z)).length cap) ∧
      w'.ownsRow base 3 1 (.slice (some ⟨g, 0, none⟩) (zs.filter (fun z => !p z)).length cap) (zs.filter (fun z => !p z)).length ((zs.filter (fun z => !p z)).map i64) ∧ Kept [g] w w' := by
  have hsl : Ints w [] (some ⟨g, 0, none⟩) cap zs := by
    have := Sl.of_own (D := []) h (by simp) (by omega)
    rw [← hn] at this
    exact this
  have hidx := slices_IndexFunc_int f hf p [] (some ⟨g, 0, none⟩) cap zs w hsl hp
  rw [hn] at hidx
  have HI := Lib.hid hidx
  have HO := Lib.hid h
  have HP := Lib.hid hp
  have HN := Lib.hid hn
  clear hsl hidx h hp
  by_cases hlt : zs.findIdx p < zs.length
  · have hx : idxI p zs = (zs.findIdx p : Nat) := by rw [idxI, if_pos hlt]
    obtain ⟨x, hxe⟩ : ∃ x, x = zs.findIdx p := ⟨_, rfl⟩
    have HX := Lib.hid hxe
    have HXI := Lib.hid hx
    have hxl : x < n := by omega
    have hxn : ¬ (x : Int) = -1 := by omega
    clear hx hlt hn
    rcases hf with rfl | rfl
    all_goals
    go_enter Tryz.func115, Tryz.ntmps115
    go_wp2_with (go_at_call 129; refine Stop.here ?_)
    refine Stop.go ?_
    refine HI.out.mono ?_
    rintro e w1 ⟨rfl, hk1⟩
    rw [HXI.out, ← HX.out]
    have hk1' : Kept [g] w w1 := hk1.any
    have HO1 := Lib.hid (own_keep0 HO.out hk1)
    have HK1 := Lib.hid hk1'
    clear hk1 hk1' hxe
    go_wp2_with fail
    go_loopw [5, 6, 7] (fun a b _ wr => DelRel w base g n cap p zs a b wr) (fun _ b _ _ => n - (intOf b).toNat)
    case atStart =>
      refine ⟨x, x + 1, zs, by go_num, by go_num, by omega, hxl, by omega, HN.out, ?_, rfl, HO1.out, HK1.out, by omega⟩
      exact del_start p zs x HX.out (by rw [HN.out]; exact hxl)
    case round =>
      obtain ⟨i, j, ys, rfl, rfl, hij, hin, hjn, hyl, hyt, hyd, ho, hkw, hij2⟩ := hrel
      have HY := Lib.hid hyl
      have HT := Lib.hid hyt
      have HD := Lib.hid hyd
      have HO2 := Lib.hid ho
      have HK2 := Lib.hid hkw
      have hsl2 : Ints wr [] (some ⟨g, 0, none⟩) cap ys := by
        have := Sl.of_own (D := []) ho (by simp) (by omega)
        rw [← hyl] at this
        exact this
      by_cases hjl : j < n
      · obtain ⟨ad, hA, hcj⟩ := hsl2.get (k := j) (by omega)
        injection hA with hA
        subst hA
        rw [add_lit0] at hcj
        obtain ⟨z, hz⟩ : ∃ z, z = ys[j]'(by rw [HY.out]; exact hjl) := ⟨_, rfl⟩
        rw [← hz] at hcj
        have HZ := Lib.hid hz
        have hglt := (ho.form (by omega)).choose_spec
        clear hyl hyt hyd ho hkw hsl2 hz hglt
        go_wp2_with fail
        refine (HP.out z _).mono ?_
        rintro e w2 ⟨rfl, hk2⟩
        have HO3 := Lib.hid (own_keep0 HO2.out hk2)
        have HK3 := Lib.hid (HK2.out.trans hk2.any)
        have hzj : z = zs[j]'(by rw [HN.out]; exact hjl) := by
          have h1 := congrArg (fun l => l[0]?) HD.out
          simp only [List.getElem?_drop, Nat.add_zero] at h1
          rw [List.getElem?_eq_getElem (by have := HY.out; omega), List.getElem?_eq_getElem (by have := HN.out; omega)] at h1
          injection h1 with h1
          rw [HZ.out, h1]
        have HZJ := Lib.hid hzj
        clear hk2 hzj
        by_cases hpz : p z = true
        · go_wp2_with fail
          go_roundw
          case rel =>
            refine ⟨_, _, _, _, _, _, _, _, _, _, _, _, _, _, _, _, _, _, _, _, _, _, _, ?_, rfl⟩
            refine ⟨i, j + 1, ys, rfl, by go_num, by omega, hin, by omega, HY.out, ?_, ?_, HO3.out, HK3.out, by omega⟩
            · rw [HT.out, filter_take_succ _ _ _ (by rw [HN.out]; exact hjl), ← HZJ.out, hpz]
              simp
            · rw [← List.drop_drop, HD.out, List.drop_drop]
          case measure => simp [intOf]; omega
        · have hpf : p z = false := by simpa using hpz
          clear hpz
          obtain ⟨hst, hgr⟩ := HO3.out.stored i (i64 z)
          have hfz : w2.frozen? ⟨g, i, none⟩ = false := HO3.out.frozenAt i
          obtain ⟨u, hcu⟩ : ∃ u, w2.cell? ⟨g, i, none⟩ = some u := by
            have := HO3.out.cellAt i (by omega)
            rw [List.getElem?_map, List.getElem?_eq_getElem (by have := HY.out; omega)] at this
            exact ⟨_, this⟩
          rw [← List.map_set] at hst
          have HST := Lib.hid hst
          have HKS := Lib.hid (HK3.out.setCell (p := ⟨g, i, none⟩) (.inr (by simp)) (i64 z))
          clear hst hgr
          go_wp2_with fail
          go_roundw
          case rel =>
            refine ⟨_, _, _, _, _, _, _, _, _, _, _, _, _, _, _, _, _, _, _, _, _, _, _, ?_, rfl⟩
            refine ⟨i + 1, j + 1, ys.set i z, by go_num, by go_num, by omega, by omega, by omega, by rw [List.length_set]; exact HY.out, ?_, ?_, HST.out, HKS.out, by omega⟩
            · rw [filter_take_succ _ _ _ (by rw [HN.out]; exact hjl), ← HZJ.out, hpf, List.take_succ_eq_append_getElem (by rw [List.length_set, HY.out]; exact hin), List.getElem_set_self, List.take_set_of_le (Nat.le_refl _), HT.out]
              simp
            · rw [List.drop_set_of_lt (by omega), ← List.drop_drop, HD.out, List.drop_drop]
          case measure => simp [intOf]; omega
      · obtain rfl : j = n := by omega
        have hcap2 : i < cap := by
          rcases HO2.out.2 with ⟨h', _⟩ | ⟨g', cap', cur, h', _, _, hnc, _⟩
          · cases h'
          · simp only [Value.slice.injEq, Option.some.injEq, Addr.mk.injEq, and_true, true_and] at h'
            omega
        have hcap3 : i ≤ cap := by omega
        have hcap : ¬ cap = i := by omega
        obtain ⟨w3, hcl, ho3, hg3⟩ := run_clear_own wr base g j cap i _ 0 HO2.out (by omega)
        rw [if_neg hcap] at hcl
        have HO3 := Lib.hid ho3
        have HK3 := Lib.hid (HK2.out.grown hg3 (fun k hk => .inr (by injection hk with hk; simp [hk])))
        have hi2 : i ≤ j := by omega
        clear ho3 hg3 hyl hyt hyd ho hkw hsl2
        go_wp2_with fail
        go_ret
        have hres : (zs.filter (fun z => !p z)) = ys.take i := by
          rw [HT.out, List.take_of_length_le (by rw [HN.out]; exact Nat.le_refl _)]
        have hrl : (zs.filter (fun z => !p z)).length = i := by rw [hres, List.length_take, HY.out]; omega
        rw [hrl, hres, List.map_take]
        exact ⟨rfl, HO3.out, HK3.out⟩
  · have hx : idxI p zs = -1 := by rw [idxI, if_neg hlt]
    have hfl : zs.filter (fun z => !p z) = zs := by
      have h1 := take_findIdx_filter p zs
      rwa [List.take_of_length_le (by omega)] at h1
    have HX := Lib.hid hx
    have HF := Lib.hid hfl
    clear hx hlt hn hfl
    rcases hf with rfl | rfl
    all_goals
    go_enter Tryz.func115, Tryz.ntmps115
    go_wp2_with (go_at_call 129; refine Stop.here ?_)
    refine Stop.go ?_
    refine HI.out.mono ?_
    rintro e w1 ⟨rfl, hk1⟩
    rw [HX.out]
    have HO1 := Lib.hid (own_keep0 HO.out hk1)
    have HK1 := Lib.hid hk1
    clear hk1
    go_wp2_with fail
    go_ret
    rw [HF.out, HN.out]
    exact ⟨rfl, HO1.out, HK1.out.any⟩
end Go.Proofs.YtcbdjmlkjifamaaGreatDoor
