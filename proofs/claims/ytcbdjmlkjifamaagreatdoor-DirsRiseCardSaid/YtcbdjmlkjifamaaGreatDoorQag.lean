/-
  bytes.Trim of zero bytes, and what package pack asks of it. Conditions: the slices read as lists of bytes. A reader of package pack, where all is as it must be: what each call hands back, and what is left. Conditions: no error before; enough bytes. pack.Num at the sizes 2, 4 and 8. Condition: the slice's cells; a number below 2^64.
-/
import Derived.Test.YtcbdjmlkjifamaaGreatDoorQaf
import Derived.Laws.BitsAllLaws
set_option linter.unusedVariables false
set_option linter.unusedSimpArgs false

/- bytes.Trim of zero bytes, and what package pack asks of it. Conditions: the slices read as lists of bytes. -/
namespace Go.Proofs.YtcbdjmlkjifamaaGreatDoor
open Go.RowKit
set_option maxRecDepth 100000

def TrimR (A : Option Addr) (c : Nat) (bs : List UInt8) (w : World) (e : Ending) (w' : World) : Prop :=
  ∃ m : Nat, e = .returned (.slice A m c) ∧ w = w' ∧ m ≤ bs.length ∧ (∀ i, m ≤ i → i < bs.length → bs.getD i 0 = 0) ∧ (0 < m → bs.getD (m - 1) 0 ≠ 0)
def TrimL (bs : List UInt8) (w : World) (e : Ending) (w' : World) : Prop :=
  ∃ (A' : Option Addr) (m c' : Nat), e = .returned (.slice A' m c') ∧ w = w' ∧ (m = 0 ↔ ∀ i, i < bs.length → bs.getD i 0 = 0)
theorem getD_at (bs : List UInt8) (k : Nat) (h : k < bs.length) : bs.getD k 0 = bs[k] := by
  rw [List.getD_eq_getElem?_getD, List.getElem?_eq_getElem h]
  rfl

theorem bytes_trimRightByte (D : List Nat) (A : Option Addr) (c : Nat) (bs : List UInt8) (w : World) (h : Bytes w D A c bs) :
    Calls Tryz.prog 119 #[.slice A bs.length c, .int .u8 0] w (TrimR A c bs w) := by
  have hs := h.small
  have hc := h.cap
  have hcm := h.capm
  have HH := Lib.hid h
  clear h
  go_enter Tryz.func119, Tryz.ntmps119
  go_wp2
  go_loop [0] (fun a => ∃ m : Nat, a = .slice A m c ∧ m ≤ bs.length ∧ ∀ i, m ≤ i → i < bs.length → bs.getD i 0 = 0) (fun a => match a with | .slice _ m _ => m | _ => 0)
  case atStart => exact ⟨bs.length, rfl, by omega, fun i h1 h2 => by omega⟩
  case round =>
    obtain ⟨m, rfl, hm, hz⟩ := hrel
    have HZ := Lib.hid hz
    clear hz
    by_cases h0 : 0 < m
    · obtain ⟨ad, rfl, hcell⟩ := HH.out.get (k := m - 1) (by omega)
      have hb : bs[m - 1].toNat < 256 := UInt8.toNat_lt _
      by_cases hv : bs[m - 1] = 0
      · rw [hv] at hcell
        simp only [UInt8.toNat_zero, Int.ofNat_zero, Int.natCast_zero] at hcell
        have hz' : ∀ i, m - 1 ≤ i → i < bs.length → bs.getD i 0 = 0 := fun i h1 h2 => by
          by_cases h3 : m ≤ i
          · exact HZ.out i h3 h2
          · obtain rfl : i = m - 1 := by omega
            rw [getD_at _ _ (by omega)]
            exact hv
        have HZ' := Lib.hid hz'
        clear hz'
        go_wp2
        exact ⟨⟨m - 1, rfl, by omega, HZ'.out⟩, by simp only; omega⟩
      · have hne : ((bs[m - 1].toNat : Int) == 0) = false := by
          rw [beq_eq_false_iff_ne]
          intro h
          exact hv (UInt8.toNat_inj.1 (by simpa using h))
        have HV := Lib.hid hv
        clear hv
        go_wp2
        go_ret
        refine ⟨m, rfl, rfl, hm, HZ.out, fun _ => ?_⟩
        rw [getD_at _ _ (by omega)]
        exact HV.out
    · go_wp2
      go_ret
      exact ⟨m, rfl, rfl, hm, HZ.out, fun h => by omega⟩

theorem bytes_trimLeftByte (D : List Nat) (A : Option Addr) (c : Nat) (bs : List UInt8) (w : World) (h : Bytes w D A c bs) :
    Calls Tryz.prog 118 #[.slice A bs.length c, .int .u8 0] w (TrimL bs w) := by
  have hs := h.small
  have hc := h.cap
  have hcm := h.capm
  have HH := Lib.hid h
  clear h
  go_enter Tryz.func118, Tryz.ntmps118
  go_wp2
  go_loop [0] (fun a => ∃ (k : Nat) (A' : Option Addr), a = .slice A' (bs.length - k) (c - k) ∧ k ≤ bs.length ∧ Bytes w D A' (c - k) (bs.drop k) ∧ ∀ i, i < k → bs.getD i 0 = 0) (fun a => match a with | .slice _ m _ => m | _ => 0)
  case atStart => exact ⟨0, A, rfl, by omega, HH.out, fun i h1 => by omega⟩
  case round =>
    obtain ⟨k, A', rfl, hk, hB, hz⟩ := hrel
    have HZ := Lib.hid hz
    have HB := Lib.hid hB
    clear hz hB
    by_cases h0 : k < bs.length
    · obtain ⟨ad, rfl, hcell⟩ := HB.out.get (k := 0) (by simp; omega)
      rw [List.getElem_drop] at hcell
      replace hcell : w.cell? ad = some (.int .u8 bs[k].toNat) := hcell
      have hb : bs[k].toNat < 256 := UInt8.toNat_lt _
      by_cases hv : bs[k] = 0
      · rw [hv] at hcell
        simp only [UInt8.toNat_zero, Int.natCast_zero] at hcell
        have hz' : ∀ i, i < k + 1 → bs.getD i 0 = 0 := fun i h1 => by
          by_cases h3 : i < k
          · exact HZ.out i h3
          · obtain rfl : i = k := by omega
            rw [getD_at _ _ (by omega)]
            exact hv
        have HZ' := Lib.hid hz'
        have HB' := Lib.hid (HB.out.cut (k := 1) (by simp; omega))
        clear hz'
        have HB2 : Bytes w D (if c - k = 1 then some ad else some ⟨ad.block, ad.off + 1, none⟩) (c - (k + 1)) (bs.drop (k + 1)) := by
          have := HB'.out
          rw [List.drop_drop] at this
          exact this
        have HC := Lib.hid HB2
        clear HB2 HB'
        go_wp2
        exact ⟨⟨k + 1, _, by rw [show bs.length - (k + 1) = bs.length - k - 1 from by omega, show c - (k + 1) = c - k - 1 from by omega], by omega, HC.out, HZ'.out⟩, by simp only; omega⟩
      · have hne : ((bs[k].toNat : Int) == 0) = false := by
          rw [beq_eq_false_iff_ne]
          intro h
          exact hv (UInt8.toNat_inj.1 (by simpa using h))
        have HV := Lib.hid hv
        clear hv
        go_wp2
        go_ret
        refine ⟨_, _, _, rfl, rfl, ⟨fun h => by omega, fun h => ?_⟩⟩
        have := h k h0
        rw [getD_at _ _ h0] at this
        exact absurd this HV.out
    · go_wp2
      go_ret
      exact ⟨_, _, _, rfl, rfl, ⟨fun _ i hi => HZ.out i (by omega), fun _ => rfl⟩⟩

def allZero (bs : List UInt8) : Bool := bs.all (· == 0)
theorem allZero_iff (bs : List UInt8) : allZero bs = true ↔ ∀ i, i < bs.length → bs.getD i 0 = 0 := by
  unfold allZero
  rw [List.all_eq_true]
  constructor
  · intro h i hi
    rw [getD_at _ _ hi]
    simpa using h _ (List.getElem_mem hi)
  · intro h x hx
    obtain ⟨i, hi, rfl⟩ := List.getElem_of_mem hx
    have := h i hi
    rw [getD_at _ _ hi] at this
    simp [this]

theorem take_getD (bs : List UInt8) (m i : Nat) (h : i < m) : (bs.take m).getD i 0 = bs.getD i 0 := by
  simp [List.getD_eq_getElem?_getD, List.getElem?_take, h]

/-- How long the trimmed slice is is nothing just if all bytes are 0. -/
def TrimP (bs : List UInt8) (w : World) (e : Ending) (w' : World) : Prop :=
  ∃ (A' : Option Addr) (m c' n : Nat), e = .returned (.slice A' m c') ∧ w' = w.drewN n ∧ decide (m = 0) = allZero bs

theorem trim_law {bs : List UInt8} {m m2 : Nat} (hm : m ≤ bs.length) (h1 : ∀ i, m ≤ i → i < bs.length → bs.getD i 0 = 0) (h2 : 0 < m → bs.getD (m - 1) 0 ≠ 0)
    (h3 : m2 = 0 ↔ ∀ i, i < (bs.take m).length → (bs.take m).getD i 0 = 0) : decide (m2 = 0) = allZero bs := by
  rw [Bool.eq_iff_iff, decide_eq_true_iff, h3, allZero_iff, List.length_take, Nat.min_eq_left hm]
  constructor
  · intro h i hi
    by_cases hlt : i < m
    · rw [← take_getD bs m i hlt]
      exact h i hlt
    · exact h1 i (by omega) hi
  · intro h i hi
    rw [take_getD bs m i hi]
    exact h i (by omega)

theorem bytes_Trim (D : List Nat) (A : Option Addr) (c : Nat) (bs : List UInt8) (w : World) (h : Bytes w D A c bs) :
    Calls Tryz.prog 104 #[.slice A bs.length c, .string ⟨#[0]⟩] w (TrimP bs w) := by
  have hs := h.small
  have HH := Lib.hid h
  clear h
  by_cases h0 : bs.length = 0
  · have hb : bs = [] := List.eq_nil_of_length_eq_zero h0
    subst hb
    go_enter Tryz.func104, Tryz.ntmps104
    go_wp2
    go_ret
    exact ⟨none, 0, 0, 0, rfl, rfl, by simp [allZero]⟩
  · have hlen : ((bs.length : Int) == 0) = false := by rw [beq_eq_false_iff_ne]; omega
    have h1 : (0 : Int) < bs.length := by omega
    have hz : Tryz.prog.funcs.size = Tryz.prog.funcs.size := rfl
    go_enter Tryz.func104, Tryz.ntmps104
    have cR : ∀ q : Int, q = 0 → Calls Tryz.prog 119 #[.slice A bs.length c, .int .u8 q] w.drew (TrimR A c bs w.drew) := fun q hq => by
      subst hq
      exact bytes_trimRightByte D A c bs w.drew HH.out.drew
    have cL : ∀ (m : Nat) (q : Int), m ≤ bs.length → q = 0 → Calls Tryz.prog 118 #[.slice A m c, .int .u8 q] w.drew (TrimL (bs.take m) w.drew) := fun m q hm hq => by
      subst hq
      have h2 := bytes_trimLeftByte D A c (bs.take m) w.drew (HH.out.drew.take hm)
      rw [List.length_take, Nat.min_eq_left hm] at h2
      exact h2
    have CR := Lib.hid cR
    have CL := Lib.hid cL
    clear cR cL
    go_wp2_with fail
    go_region_with (first
      | (go_at_call 119; refine (CR.out _ rfl).mono ?_; rintro e w1 ⟨m, rfl, rfl, hm, hz1, hz2⟩; have HM := Lib.hid (And.intro hz1 hz2); clear hz1 hz2)
      | (go_at_call 118; refine (CL.out m _ hm rfl).mono ?_; rintro e w2 ⟨A2, m2, c2, rfl, rfl, h2⟩; have HL := Lib.hid h2; clear h2))
    all_goals
      go_wp2_with fail
      go_ret
      exact ⟨_, _, _, 1, rfl, rfl, trim_law hm HM.out.1 HM.out.2 HL.out⟩

theorem beq_cast0 (m : Nat) : ((m : Int) == 0) = decide (m = 0) := by by_cases h : m = 0 <;> simp [h]

theorem pack_zero (D : List Nat) (A : Option Addr) (c : Nat) (bs : List UInt8) (w : World) (h : Bytes w D A c bs) :
    Calls Tryz.prog 76 #[.slice A bs.length c] w fun e w' => e = .returned (.bool (allZero bs)) ∧ ∃ n, w' = w.drewN n := by
  have HH := Lib.hid h
  clear h
  go_enter Tryz.func76, Tryz.ntmps76
  go_wp2_with (go_at_call 104; refine (bytes_Trim D A c bs _ HH.out).mono ?_; rintro e w1 ⟨A', m, c', n, rfl, rfl, h2⟩; have HL := Lib.hid h2; clear h2)
  go_ret
  exact ⟨ret_bool (by rw [← HL.out]; exact beq_cast0 m), n, rfl⟩

theorem pack_zero_n (D : List Nat) (A : Option Addr) (c n : Nat) (bs : List UInt8) (w : World) (h : Bytes w D A c bs) (hn : bs.length = n) :
    Calls Tryz.prog 76 #[.slice A n c] w fun e w' => e = .returned (.bool (allZero bs)) ∧ ∃ n, w' = w.drewN n := by
  subst hn
  exact pack_zero D A c bs w h
end Go.Proofs.YtcbdjmlkjifamaaGreatDoor

/- A reader of package pack, where all is as it must be: what each call hands back, and what is left. Conditions: no error before; enough bytes. -/
namespace Go.Proofs.YtcbdjmlkjifamaaGreatDoor
open Go.RowKit
set_option maxRecDepth 100000

/-- The reader at block rb has these bytes left, and no error. -/
def Rd (w : World) (D : List Nat) (rb : Nat) (rest : List UInt8) : Prop :=
  ∃ A c, Blk w rb 133 #[.slice A rest.length c, .int .i64 0] ∧ Bytes w D A c rest
namespace Rd
variable {w w' : World} {D : List Nat} {rb : Nat} {rest : List UInt8}
theorem lt (h : Rd w D rb rest) : rb < w.heap.size := by
  obtain ⟨A, c, hb, _⟩ := h
  exact hb.lt
theorem keep0 (h : Rd w D rb rest) (k : Kept [] w w') : Rd w' D rb rest := by
  obtain ⟨A, c, hb, hs⟩ := h
  exact ⟨A, c, hb.keep0 k, hs.keep0 k⟩
theorem keep (h : Rd w D rb rest) (k : Kept D w w') (hn : rb ∉ D) : Rd w' D rb rest := by
  obtain ⟨A, c, hb, hs⟩ := h
  exact ⟨A, c, hb.keep k hn, hs.keep k⟩
end Rd

theorem pack_Read (D : List Nat) (A : Option Addr) (c : Nat) (bs : List UInt8) (w : World) (h : Bytes w D A c bs) :
    Calls Tryz.prog 39 #[.slice A bs.length c] w fun e w' => e = .returned (.pointer (some ⟨w.heap.size, 0, none⟩)) ∧ Rd w' D w.heap.size bs ∧ Kept [] w w' := by
  have HH := Lib.hid h
  clear h
  go_enter Tryz.func39, Tryz.ntmps39
  go_wp2
  go_ret
  exact ⟨rfl, ⟨A, c, Blk.new _ _ _, HH.out.keep0 ((Kept.refl _ _).alloc _)⟩, (Kept.refl _ _).alloc _⟩

theorem reader_Err (D : List Nat) (rb : Nat) (rest : List UInt8) (w : World) (h : Rd w D rb rest) :
    Calls Tryz.prog 43 #[.pointer (some ⟨rb, 0, none⟩)] w fun e w' => e = .returned (.int .i64 0) ∧ w = w' := by
  obtain ⟨A, c, hb, hs⟩ := h
  have h1 : w.cell? ⟨rb, 1, none⟩ = some (.int .i64 0) := by simpa using hb.cell 1
  clear hb hs
  go_enter Tryz.func43, Tryz.ntmps43
  go_wp2
  go_ret
  exact ⟨rfl, rfl⟩

theorem reader_Left (D : List Nat) (rb : Nat) (rest : List UInt8) (w : World) (h : Rd w D rb rest) :
    Calls Tryz.prog 40 #[.pointer (some ⟨rb, 0, none⟩)] w fun e w' => e = .returned (.int .i64 rest.length) ∧ w = w' := by
  have HR := Lib.hid h
  obtain ⟨A, c, hb, hs⟩ := h
  have h0 : w.cell? ⟨rb, 0, none⟩ = some (.slice A rest.length c) := by simpa using hb.cell 0
  clear hb hs
  go_enter Tryz.func40, Tryz.ntmps40
  go_wp2_with (go_at_call 43; refine (reader_Err D rb rest _ HR.out).mono ?_; rintro e w1 ⟨rfl, rfl⟩)
  go_ret
  exact ⟨rfl, rfl⟩

theorem pack_sized (n : Int) (w : World) (h1 : 1 ≤ n) (h2 : n ≤ 8) :
    Calls Tryz.prog 74 #[.int .i64 n] w fun e w' => e = .returned (.int .i64 n) ∧ w = w' := by
  go_enter Tryz.func74, Tryz.ntmps74
  go_wp2
  go_ret
  exact ⟨rfl, rfl⟩

theorem reader_Bytes (D : List Nat) (rb : Nat) (rest : List UInt8) (n : Int) (w : World) (h : Rd w D rb rest) (h1 : 0 ≤ n) (h2 : n ≤ rest.length):
    Calls Tryz.prog 73 #[.pointer (some ⟨rb, 0, none⟩), .int .i64 n] w fun e w' => ∃ v, e = .returned v ∧
      w'.ownsRow w.heap.size 5 1 v n.toNat ((rest.take n.toNat).map b8) ∧ Rd w' D rb (rest.drop n.toNat) ∧ Kept [rb] w w' := by
  obtain ⟨n, rfl⟩ := Int.eq_ofNat_of_zero_le h1
  simp only [Int.toNat_natCast]
  have HR := Lib.hid h
  obtain ⟨A, c, hb, hs⟩ := h
  have hsm := hs.small
  have hcp := hs.cap
  have hcm := hs.capm
  have h0 : w.cell? ⟨rb, 0, none⟩ = some (.slice A rest.length c) := by simpa using hb.cell 0
  have hf0 := hb.frozen 0
  have HB := Lib.hid hb
  have HS := Lib.hid hs
  obtain ⟨A', hA', hcut⟩ : ∃ A', (if c = n then A else Option.map (fun x => x.add n) A) = A' ∧ Bytes w D A' (c - n) (rest.drop n) := ⟨_, rfl, hs.cut (by omega)⟩
  have HC := Lib.hid hcut
  clear hb hs hcut
  go_enter Tryz.func73, Tryz.ntmps73
  go_wp2_with (go_at_call 43; refine (reader_Err D rb rest _ HR.out).mono ?_; rintro e w1 ⟨rfl, rfl⟩)
  have hk1 : Kept [rb] w (w.setCell ⟨rb, 0, none⟩ (.slice A' (rest.length - n) (c - n))) := (Kept.refl _ _).setCell (.inr (by simp)) _
  have hR : Rd (w.setCell ⟨rb, 0, none⟩ (.slice A' (rest.length - n) (c - n))) D rb (rest.drop n) := ⟨_, _, by rw [List.length_drop]; exact HB.out.set_ 0 _, HC.out.other hk1 HB.out (by decide)⟩
  have hT := (HS.out.take (k := n) (by omega)).other hk1 HB.out (by decide)
  refine (bytes_Clone_n D A c n (rest.take n) _ hT (by simp; omega)).mono ?_
  rintro e w1 ⟨v, rfl, hown, hk2⟩
  have HO := Lib.hid hown
  have HK1 := Lib.hid hk1
  have HK2 := Lib.hid hk2
  have HR1 := Lib.hid (hR.keep0 hk2)
  clear hown hk1 hk2 hR hT
  go_wp2_with fail
  go_ret
  exact ⟨_, rfl, by simpa [World.setCell] using HO.out, HR1.out, HK1.out.trans HK2.out.any⟩

theorem le_or_step (a b k : Nat) (ha : a < 256 ^ k) (hb : b < 256) (hk : k < 8) : bits .or .u64 (a : Int) (IntKind.u64.wrap ((b : Int) * 2 ^ (8 * k))) = ((a + 256 ^ k * b : Nat) : Int) := by
  have hp : (2 : Nat) ^ (8 * k) = 256 ^ k := by rw [Nat.pow_mul]
  have h1 : b * 256 ^ k < 256 ^ (k + 1) := by
    rw [Nat.pow_succ, Nat.mul_comm (256 ^ k)]
    exact Nat.mul_lt_mul_of_pos_right hb (Nat.pow_pos (by omega))
  have h2 : (256 : Nat) ^ (k + 1) ≤ 256 ^ 8 := Nat.pow_le_pow_right (by omega) (by omega)
  have h3 : (256 : Nat) ^ k ≤ 256 ^ 8 := Nat.pow_le_pow_right (by omega) (by omega)
  have h8 : (256 : Nat) ^ 8 = 18446744073709551616 := by decide
  have e1 : ((b : Int) * 2 ^ (8 * k)) = ((b * 256 ^ k : Nat) : Int) := by rw [← hp]; simp
  rw [e1, IntKind.wrap_u64, Int.emod_eq_of_lt (by omega) (by omega), u64_or_nat _ _ (by omega) (by omega), Nat.or_comm]
  congr 1
  have hj := nat_join (8 * k) (b * 256 ^ k) a (by rw [hp]; exact Nat.mul_mod_left _ _) (by rw [hp]; exact ha)
  rw [hj, Nat.mul_comm (256 ^ k) b, Nat.add_comm]

theorem le_take_succ (l : List UInt8) (k : Nat) (h : k < l.length) : leNat (l.take (k + 1)) = leNat (l.take k) + 256 ^ k * (l[k]).toNat := by
  rw [List.take_succ_eq_append_getElem h, leNat_append, List.length_take, Nat.min_eq_left (by omega)]
  simp [leNat]

theorem reader_Num (D : List Nat) (rb : Nat) (rest : List UInt8) (size : Nat) (most : Int) (w : World) (h : Rd w D rb rest) (hD : Old D w) (h1 : 1 ≤ size) (h2 : size ≤ 8) (h3 : size ≤ rest.length)
    (hm : (leNat (rest.take size) : Int) ≤ most) (hm2 : most ≤ 18446744073709551615) :
    Calls Tryz.prog 41 #[.pointer (some ⟨rb, 0, none⟩), .int .i64 size, .int .u64 most] w fun e w' =>
      e = .returned (.int .u64 (leNat (rest.take size))) ∧ Rd w' D rb (rest.drop size) ∧ Kept [rb] w w' := by
  have HR := Lib.hid h
  clear h
  go_enter Tryz.func41, Tryz.ntmps41
  go_wp2_with (first
    | (go_at_call 74; refine (pack_sized _ _ (by omega) (by omega)).mono ?_; rintro e w1 ⟨rfl, rfl⟩)
    | (go_at_call 73; refine Stop.here ?_))
  refine Stop.go ?_
  refine (reader_Bytes D rb rest size _ HR.out (by omega) (by omega)).mono ?_
  simp only [Int.toNat_natCast]
  rintro e w1 ⟨v, rfl, hown, hR, hK⟩
  obtain ⟨A, c, rfl, hs⟩ := Bytes.of_row (D := []) (bs := rest.take size) (by rw [List.length_take, Nat.min_eq_left h3]; exact hown) (by simp) (by simp; omega)
  rw [List.length_take, Nat.min_eq_left h3]
  have hbl : (rest.take size).length = size := by rw [List.length_take, Nat.min_eq_left h3]
  obtain ⟨bs, hbs⟩ : ∃ bs, bs = rest.take size := ⟨_, rfl⟩
  rw [← hbs] at hs hbl hm
  have HBS := Lib.hid hbs
  clear hbs
  have HBL := Lib.hid hbl
  have HS := Lib.hid hs
  clear hbl
  have HR1 := Lib.hid hR
  have HK := Lib.hid hK
  clear hown hR hK hs
  go_wp2_with fail
  go_loop [7, 15] (fun n i => ∃ k : Nat, k ≤ size ∧ i = .int .i64 k ∧ n = .int .u64 (leNat (bs.take k))) (fun _ i => size - (intOf i).toNat)
  case atStart => exact ⟨0, by omega, rfl, rfl⟩
  case round =>
    obtain ⟨k, hk, rfl, rfl⟩ := hrel
    by_cases hlt : k < size
    · obtain ⟨ad, rfl, hcell⟩ := HS.out.get (k := k) (by rw [HBL.out]; exact hlt)
      have hb : (bs[k]'(by rw [HBL.out]; exact hlt)).toNat < 256 := UInt8.toNat_lt _
      go_wp2_with fail
      refine ⟨⟨k + 1, by omega, by go_num, ?_⟩, by simp [intOf]; omega⟩
      have h256 := leNat_lt (bs.take k)
      rw [List.length_take, HBL.out, Nat.min_eq_left (by omega)] at h256
      rw [le_or_step _ _ _ h256 hb (by omega), ← le_take_succ bs k (by rw [HBL.out]; exact hlt)]
    · obtain rfl : k = size := by omega
      have hfull : bs.take k = bs := List.take_of_length_le (by rw [HBL.out]; omega)
      have HF := Lib.hid hfull
      clear hfull
      rw [HF.out]
      go_wp2_with (go_at_call 43; refine (reader_Err D rb _ _ HR1.out).mono ?_; rintro e w1 ⟨rfl, rfl⟩)
      go_ret
      exact ⟨by rw [← HBS.out]; rfl, HR1.out, HK.out⟩

theorem reader_Text (D : List Nat) (rb : Nat) (rest : List UInt8) (place : Nat) (s : List UInt8) (w : World) (h : Rd w D rb rest) (hD : Old D w) (h1 : 1 ≤ place) (h2 : place ≤ 255) (h3 : place + 1 ≤ rest.length)
    (hs : s.length ≤ place) (ht : rest.take (place + 1) = packText s place) :
    Calls Tryz.prog 42 #[.pointer (some ⟨rb, 0, none⟩), .int .i64 place] w fun e w' => ∃ A c,
      e = .returned (.slice A s.length c) ∧ Bytes w' D A c s ∧ Rd w' D rb (rest.drop (place + 1)) ∧ Kept [rb] w w' := by
  have HR := Lib.hid h
  have HT := Lib.hid ht
  clear h ht
  go_enter Tryz.func42, Tryz.ntmps42
  go_wp2_with (go_at_call 73; refine Stop.here ?_)
  refine Stop.go ?_
  refine (reader_Bytes D rb rest (place + 1) _ HR.out (by omega) (by omega)).mono ?_
  rw [show ((place : Int) + 1).toNat = place + 1 from by omega]
  rintro e w1 ⟨v, rfl, hown, hR, hK⟩
  rw [HT.out] at hown
  have hpl := packText_length s place hs
  obtain ⟨A, c, rfl, hb⟩ := Bytes.of_row (D := D) (bs := packText s place) (by rw [hpl]; exact hown) hD (by omega)
  rw [hpl]
  have hc := hb.cap
  have hcm := hb.capm
  rw [hpl] at hc
  obtain ⟨ad, rfl, hcell⟩ := hb.get (k := 0) (by omega)
  have hn : (packText s place)[0]'(by omega) = UInt8.ofNat s.length := rfl
  rw [hn, UInt8.toNat_ofNat_of_lt' (show s.length < 256 by omega)] at hcell
  replace hcell : w1.cell? ad = some (.int .u8 s.length) := hcell
  have hz : (packText s place).drop (1 + s.length) = List.replicate (place - s.length) 0 := by
    simp [packText, Nat.add_comm 1]
  have ht1 : ((packText s place).drop 1).take s.length = s := by
    simp [packText]
  obtain ⟨A', hA', hcut⟩ : ∃ A', (if c = 1 + s.length then some ad else some (ad.add (1 + s.length))) = A' ∧ Bytes w1 D A' (c - (1 + s.length)) ((packText s place).drop (1 + s.length)) := ⟨_, rfl, hb.cut (by omega)⟩
  have hcut1 := hb.cut (k := 1) (by omega)
  rw [if_neg (by omega)] at hcut1
  have hs1 := hcut1.take (k := s.length) (by simp; omega)
  rw [ht1] at hs1
  have hall : allZero (List.replicate (place - s.length) (0 : UInt8)) = true := by simp [allZero]
  have h2c : 2 ≤ c := by omega
  have HALL := Lib.hid hall
  have HB := Lib.hid hs1
  have HC := Lib.hid hcut
  have HZ := Lib.hid hz
  have HR1 := Lib.hid hR
  have HK := Lib.hid hK
  have HPL := Lib.hid hpl
  clear hown hR hK hb hpl hn hz ht1 hcut1 hs1 hcut hall
  go_wp2_with (go_at_call 76; refine Stop.here ?_)
  refine Stop.go ?_
  refine (pack_zero_n D A' _ _ _ _ HC.out (by rw [List.length_drop, HPL.out])).mono ?_
  rintro e w2 ⟨rfl, nd, rfl⟩
  rw [HZ.out, HALL.out]
  go_wp2_with fail
  go_ret
  exact ⟨_, _, ret_slice (by omega), HB.out.keep0 ((Kept.refl _ _).drewN nd), HR1.out.keep0 ((Kept.refl _ _).drewN nd), HK.out.drewN nd⟩

theorem reader_Rest (D : List Nat) (rb : Nat) (rest : List UInt8) (w : World) (h : Rd w D rb rest) (hz : allZero rest = true) :
    Calls Tryz.prog 103 #[.pointer (some ⟨rb, 0, none⟩)] w fun e w' => e = .returned (.int .i64 0) ∧ ∃ n, w' = w.drewN n := by
  have HZ := Lib.hid hz
  have HR := Lib.hid h
  obtain ⟨A, c, hb, hs⟩ := h
  have h0 : w.cell? ⟨rb, 0, none⟩ = some (.slice A rest.length c) := by simpa using hb.cell 0
  have HS := Lib.hid hs
  clear hb hs hz
  go_enter Tryz.func103, Tryz.ntmps103
  go_wp2_with (first
    | (go_at_call 43; refine (reader_Err D rb rest _ HR.out).mono ?_; rintro e w1 ⟨rfl, rfl⟩)
    | (go_at_call 76; refine Stop.here ?_))
  refine Stop.go ?_
  refine (pack_zero D A _ _ _ HS.out).mono ?_
  rintro e w2 ⟨rfl, nd, rfl⟩
  rw [HZ.out]
  go_wp2_with (go_at_call 43; refine (reader_Err D rb rest _ (HR.out.keep0 ((Kept.refl _ _).drewN nd))).mono ?_; rintro e w1 ⟨rfl, rfl⟩)
  go_ret
  exact ⟨rfl, nd, rfl⟩
end Go.Proofs.YtcbdjmlkjifamaaGreatDoor

/- pack.Num at the sizes 2, 4 and 8. Condition: the slice's cells; a number below 2^64. -/
namespace Go.Proofs.YtcbdjmlkjifamaaGreatDoor
open Go.RowKit
set_option maxRecDepth 100000

theorem b8_nat (n : Nat) : b8 (UInt8.ofNat n) = .int .u8 ((n : Int) % 256) := by
  show Value.int .u8 ((UInt8.ofNat n).toNat : Int) = _
  simp

theorem pack_Num2 (D : List Nat) (A : Option Addr) (c n : Nat) (bs : List UInt8) (V : Nat) (w : World) (h : Bytes w D A c bs) (hn : bs.length = n) (hn2 : n ≤ 100000) (hV : V < 65536) :
    Calls Tryz.prog 111 #[.slice A n c, .int .u64 V, .int .i64 2] w fun e w' => ∃ v, e = .returned v ∧ w'.ownsRow w.heap.size 5 1 v (n + 2) ((bs ++ leBytes V 2).map b8) ∧ Kept [] w w' := by
  obtain ⟨i0, hi, hz0, hz1, hz2⟩ := info_parts u8_info
  have HB := Lib.hid h
  have HN := Lib.hid hn
  have HV := Lib.hid hV
  clear h hn
  go_enter Tryz.func111, Tryz.ntmps111
  go_wp2_with (go_at_call 98; refine Stop.here ?_)
  refine Stop.go ?_
  refine (bytes_Clone_n D A c n bs _ HB.out HN.out).mono ?_
  rintro e w1 ⟨v, rfl, hown, hk⟩
  obtain ⟨A0, c0, rfl⟩ := own_form hown
  have HO := Lib.hid hown
  have HK := Lib.hid hk
  clear hown hk
  go_wp2_with (first | (go_at_call 74; refine (pack_sized _ _ (by omega) (by omega)).mono ?_; rintro e w' ⟨rfl, rfl⟩) | (at_builtin; refine Stop.here ?_))
  refine Stop.go ?_
  refine wpList_append_new (W0 := w) rfl (.tmp 68) (.tmp 71) _ rfl w.heap.size 5 i0 _ 1 1 Tryz.underlying56 hi hz0 hz1 hz2 rfl (by omega) (.slice A0 n c0) n _ rfl HO.out _ [_] rfl rfl rfl (by simp [Value.oneCell']) (by simp only [maxLen]; omega) (by omega) HK.out.size HK.out (Nat.le_refl _) ?_
  clear HO HK
  intro v2 w2 hown hg2 hk _
  obtain ⟨A0, c0, rfl⟩ := own_form hown
  have HO := Lib.hid hown
  have HK := Lib.hid hk
  clear hown hk hg2
  go_wp2_with (at_builtin; refine Stop.here ?_)
  refine Stop.go ?_
  refine wpList_append_new (W0 := w) rfl (.tmp 75) (.tmp 78) _ rfl w.heap.size 5 i0 _ 1 1 Tryz.underlying56 hi hz0 hz1 hz2 rfl (by omega) (.slice A0 (n + 1) c0) (n + 1) _ rfl HO.out _ [_] rfl rfl rfl (by simp [Value.oneCell']) (by simp only [maxLen]; omega) (by omega) HK.out.size HK.out (Nat.le_refl _) ?_
  clear HO HK
  intro v2 w2 hown hg2 hk _
  obtain ⟨A0, c0, rfl⟩ := own_form hown
  have HO := Lib.hid hown
  have HK := Lib.hid hk
  clear hown hk hg2
  clear hV
  go_wp2_with fail
  go_ret
  refine ⟨.slice A0 ((n + 1) + 1) c0, rfl, ?_, HK.out⟩
  have hr : (bs ++ leBytes V 2).map b8 = bs.map b8 ++ [b8 (UInt8.ofNat (V)), b8 (UInt8.ofNat (V / 256))] := by simp [leBytes]
  have ho := HO.out
  have hV := HV.out
  have ht : ((V : Int) / 256) % 256 = (V : Int) / 256 := by omega
  simp only [List.append_assoc, List.cons_append, List.nil_append] at ho
  rw [hr]
  simp only [b8_nat, Int.natCast_ediv, Int.cast_ofNat_Int]
  rw [ht]
  exact ho

theorem pack_Num4 (D : List Nat) (A : Option Addr) (c n : Nat) (bs : List UInt8) (V : Nat) (w : World) (h : Bytes w D A c bs) (hn : bs.length = n) (hn2 : n ≤ 100000) (hV : V < 4294967296) :
    Calls Tryz.prog 111 #[.slice A n c, .int .u64 V, .int .i64 4] w fun e w' => ∃ v, e = .returned v ∧ w'.ownsRow w.heap.size 5 1 v (n + 4) ((bs ++ leBytes V 4).map b8) ∧ Kept [] w w' := by
  obtain ⟨i0, hi, hz0, hz1, hz2⟩ := info_parts u8_info
  have HB := Lib.hid h
  have HN := Lib.hid hn
  have HV := Lib.hid hV
  clear h hn
  go_enter Tryz.func111, Tryz.ntmps111
  go_wp2_with (go_at_call 98; refine Stop.here ?_)
  refine Stop.go ?_
  refine (bytes_Clone_n D A c n bs _ HB.out HN.out).mono ?_
  rintro e w1 ⟨v, rfl, hown, hk⟩
  obtain ⟨A0, c0, rfl⟩ := own_form hown
  have HO := Lib.hid hown
  have HK := Lib.hid hk
  clear hown hk
  go_wp2_with (first | (go_at_call 74; refine (pack_sized _ _ (by omega) (by omega)).mono ?_; rintro e w' ⟨rfl, rfl⟩) | (at_builtin; refine Stop.here ?_))
  refine Stop.go ?_
  refine wpList_append_new (W0 := w) rfl (.tmp 54) (.tmp 57) _ rfl w.heap.size 5 i0 _ 1 1 Tryz.underlying56 hi hz0 hz1 hz2 rfl (by omega) (.slice A0 n c0) n _ rfl HO.out _ [_] rfl rfl rfl (by simp [Value.oneCell']) (by simp only [maxLen]; omega) (by omega) HK.out.size HK.out (Nat.le_refl _) ?_
  clear HO HK
  intro v2 w2 hown hg2 hk _
  obtain ⟨A0, c0, rfl⟩ := own_form hown
  have HO := Lib.hid hown
  have HK := Lib.hid hk
  clear hown hk hg2
  go_wp2_with (at_builtin; refine Stop.here ?_)
  refine Stop.go ?_
  refine wpList_append_new (W0 := w) rfl (.tmp 61) (.tmp 64) _ rfl w.heap.size 5 i0 _ 1 1 Tryz.underlying56 hi hz0 hz1 hz2 rfl (by omega) (.slice A0 (n + 1) c0) (n + 1) _ rfl HO.out _ [_] rfl rfl rfl (by simp [Value.oneCell']) (by simp only [maxLen]; omega) (by omega) HK.out.size HK.out (Nat.le_refl _) ?_
  clear HO HK
  intro v2 w2 hown hg2 hk _
  obtain ⟨A0, c0, rfl⟩ := own_form hown
  have HO := Lib.hid hown
  have HK := Lib.hid hk
  clear hown hk hg2
  go_wp2_with (at_builtin; refine Stop.here ?_)
  refine Stop.go ?_
  refine wpList_append_new (W0 := w) rfl (.tmp 68) (.tmp 71) _ rfl w.heap.size 5 i0 _ 1 1 Tryz.underlying56 hi hz0 hz1 hz2 rfl (by omega) (.slice A0 ((n + 1) + 1) c0) ((n + 1) + 1) _ rfl HO.out _ [_] rfl rfl rfl (by simp [Value.oneCell']) (by simp only [maxLen]; omega) (by omega) HK.out.size HK.out (Nat.le_refl _) ?_
  clear HO HK
  intro v2 w2 hown hg2 hk _
  obtain ⟨A0, c0, rfl⟩ := own_form hown
  have HO := Lib.hid hown
  have HK := Lib.hid hk
  clear hown hk hg2
  go_wp2_with (at_builtin; refine Stop.here ?_)
  refine Stop.go ?_
  refine wpList_append_new (W0 := w) rfl (.tmp 75) (.tmp 78) _ rfl w.heap.size 5 i0 _ 1 1 Tryz.underlying56 hi hz0 hz1 hz2 rfl (by omega) (.slice A0 (((n + 1) + 1) + 1) c0) (((n + 1) + 1) + 1) _ rfl HO.out _ [_] rfl rfl rfl (by simp [Value.oneCell']) (by simp only [maxLen]; omega) (by omega) HK.out.size HK.out (Nat.le_refl _) ?_
  clear HO HK
  intro v2 w2 hown hg2 hk _
  obtain ⟨A0, c0, rfl⟩ := own_form hown
  have HO := Lib.hid hown
  have HK := Lib.hid hk
  clear hown hk hg2
  clear hV
  go_wp2_with fail
  go_ret
  refine ⟨.slice A0 ((((n + 1) + 1) + 1) + 1) c0, rfl, ?_, HK.out⟩
  have hr : (bs ++ leBytes V 4).map b8 = bs.map b8 ++ [b8 (UInt8.ofNat (V)), b8 (UInt8.ofNat (V / 256)), b8 (UInt8.ofNat (V / 256 / 256)), b8 (UInt8.ofNat (V / 256 / 256 / 256))] := by simp [leBytes]
  have ho := HO.out
  have hV := HV.out
  have ht : ((V : Int) / 256 / 256 / 256) % 256 = (V : Int) / 256 / 256 / 256 := by omega
  simp only [List.append_assoc, List.cons_append, List.nil_append] at ho
  rw [hr]
  simp only [b8_nat, Int.natCast_ediv, Int.cast_ofNat_Int]
  rw [ht]
  exact ho

theorem pack_Num8 (D : List Nat) (A : Option Addr) (c n : Nat) (bs : List UInt8) (V : Nat) (w : World) (h : Bytes w D A c bs) (hn : bs.length = n) (hn2 : n ≤ 100000) (hV : V < 18446744073709551616) :
    Calls Tryz.prog 111 #[.slice A n c, .int .u64 V, .int .i64 8] w fun e w' => ∃ v, e = .returned v ∧ w'.ownsRow w.heap.size 5 1 v (n + 8) ((bs ++ leBytes V 8).map b8) ∧ Kept [] w w' := by
  obtain ⟨i0, hi, hz0, hz1, hz2⟩ := info_parts u8_info
  have HB := Lib.hid h
  have HN := Lib.hid hn
  have HV := Lib.hid hV
  clear h hn
  go_enter Tryz.func111, Tryz.ntmps111
  go_wp2_with (go_at_call 98; refine Stop.here ?_)
  refine Stop.go ?_
  refine (bytes_Clone_n D A c n bs _ HB.out HN.out).mono ?_
  rintro e w1 ⟨v, rfl, hown, hk⟩
  obtain ⟨A0, c0, rfl⟩ := own_form hown
  have HO := Lib.hid hown
  have HK := Lib.hid hk
  clear hown hk
  go_wp2_with (first | (go_at_call 74; refine (pack_sized _ _ (by omega) (by omega)).mono ?_; rintro e w' ⟨rfl, rfl⟩) | (at_builtin; refine Stop.here ?_))
  refine Stop.go ?_
  refine wpList_append_new (W0 := w) rfl (.tmp 26) (.tmp 29) _ rfl w.heap.size 5 i0 _ 1 1 Tryz.underlying56 hi hz0 hz1 hz2 rfl (by omega) (.slice A0 n c0) n _ rfl HO.out _ [_] rfl rfl rfl (by simp [Value.oneCell']) (by simp only [maxLen]; omega) (by omega) HK.out.size HK.out (Nat.le_refl _) ?_
  clear HO HK
  intro v2 w2 hown hg2 hk _
  obtain ⟨A0, c0, rfl⟩ := own_form hown
  have HO := Lib.hid hown
  have HK := Lib.hid hk
  clear hown hk hg2
  go_wp2_with (at_builtin; refine Stop.here ?_)
  refine Stop.go ?_
  refine wpList_append_new (W0 := w) rfl (.tmp 33) (.tmp 36) _ rfl w.heap.size 5 i0 _ 1 1 Tryz.underlying56 hi hz0 hz1 hz2 rfl (by omega) (.slice A0 (n + 1) c0) (n + 1) _ rfl HO.out _ [_] rfl rfl rfl (by simp [Value.oneCell']) (by simp only [maxLen]; omega) (by omega) HK.out.size HK.out (Nat.le_refl _) ?_
  clear HO HK
  intro v2 w2 hown hg2 hk _
  obtain ⟨A0, c0, rfl⟩ := own_form hown
  have HO := Lib.hid hown
  have HK := Lib.hid hk
  clear hown hk hg2
  go_wp2_with (at_builtin; refine Stop.here ?_)
  refine Stop.go ?_
  refine wpList_append_new (W0 := w) rfl (.tmp 40) (.tmp 43) _ rfl w.heap.size 5 i0 _ 1 1 Tryz.underlying56 hi hz0 hz1 hz2 rfl (by omega) (.slice A0 ((n + 1) + 1) c0) ((n + 1) + 1) _ rfl HO.out _ [_] rfl rfl rfl (by simp [Value.oneCell']) (by simp only [maxLen]; omega) (by omega) HK.out.size HK.out (Nat.le_refl _) ?_
  clear HO HK
  intro v2 w2 hown hg2 hk _
  obtain ⟨A0, c0, rfl⟩ := own_form hown
  have HO := Lib.hid hown
  have HK := Lib.hid hk
  clear hown hk hg2
  go_wp2_with (at_builtin; refine Stop.here ?_)
  refine Stop.go ?_
  refine wpList_append_new (W0 := w) rfl (.tmp 47) (.tmp 50) _ rfl w.heap.size 5 i0 _ 1 1 Tryz.underlying56 hi hz0 hz1 hz2 rfl (by omega) (.slice A0 (((n + 1) + 1) + 1) c0) (((n + 1) + 1) + 1) _ rfl HO.out _ [_] rfl rfl rfl (by simp [Value.oneCell']) (by simp only [maxLen]; omega) (by omega) HK.out.size HK.out (Nat.le_refl _) ?_
  clear HO HK
  intro v2 w2 hown hg2 hk _
  obtain ⟨A0, c0, rfl⟩ := own_form hown
  have HO := Lib.hid hown
  have HK := Lib.hid hk
  clear hown hk hg2
  go_wp2_with (at_builtin; refine Stop.here ?_)
  refine Stop.go ?_
  refine wpList_append_new (W0 := w) rfl (.tmp 54) (.tmp 57) _ rfl w.heap.size 5 i0 _ 1 1 Tryz.underlying56 hi hz0 hz1 hz2 rfl (by omega) (.slice A0 ((((n + 1) + 1) + 1) + 1) c0) ((((n + 1) + 1) + 1) + 1) _ rfl HO.out _ [_] rfl rfl rfl (by simp [Value.oneCell']) (by simp only [maxLen]; omega) (by omega) HK.out.size HK.out (Nat.le_refl _) ?_
  clear HO HK
  intro v2 w2 hown hg2 hk _
  obtain ⟨A0, c0, rfl⟩ := own_form hown
  have HO := Lib.hid hown
  have HK := Lib.hid hk
  clear hown hk hg2
  go_wp2_with (at_builtin; refine Stop.here ?_)
  refine Stop.go ?_
  refine wpList_append_new (W0 := w) rfl (.tmp 61) (.tmp 64) _ rfl w.heap.size 5 i0 _ 1 1 Tryz.underlying56 hi hz0 hz1 hz2 rfl (by omega) (.slice A0 (((((n + 1) + 1) + 1) + 1) + 1) c0) (((((n + 1) + 1) + 1) + 1) + 1) _ rfl HO.out _ [_] rfl rfl rfl (by simp [Value.oneCell']) (by simp only [maxLen]; omega) (by omega) HK.out.size HK.out (Nat.le_refl _) ?_
  clear HO HK
  intro v2 w2 hown hg2 hk _
  obtain ⟨A0, c0, rfl⟩ := own_form hown
  have HO := Lib.hid hown
  have HK := Lib.hid hk
  clear hown hk hg2
  go_wp2_with (at_builtin; refine Stop.here ?_)
  refine Stop.go ?_
  refine wpList_append_new (W0 := w) rfl (.tmp 68) (.tmp 71) _ rfl w.heap.size 5 i0 _ 1 1 Tryz.underlying56 hi hz0 hz1 hz2 rfl (by omega) (.slice A0 ((((((n + 1) + 1) + 1) + 1) + 1) + 1) c0) ((((((n + 1) + 1) + 1) + 1) + 1) + 1) _ rfl HO.out _ [_] rfl rfl rfl (by simp [Value.oneCell']) (by simp only [maxLen]; omega) (by omega) HK.out.size HK.out (Nat.le_refl _) ?_
  clear HO HK
  intro v2 w2 hown hg2 hk _
  obtain ⟨A0, c0, rfl⟩ := own_form hown
  have HO := Lib.hid hown
  have HK := Lib.hid hk
  clear hown hk hg2
  go_wp2_with (at_builtin; refine Stop.here ?_)
  refine Stop.go ?_
  refine wpList_append_new (W0 := w) rfl (.tmp 75) (.tmp 78) _ rfl w.heap.size 5 i0 _ 1 1 Tryz.underlying56 hi hz0 hz1 hz2 rfl (by omega) (.slice A0 (((((((n + 1) + 1) + 1) + 1) + 1) + 1) + 1) c0) (((((((n + 1) + 1) + 1) + 1) + 1) + 1) + 1) _ rfl HO.out _ [_] rfl rfl rfl (by simp [Value.oneCell']) (by simp only [maxLen]; omega) (by omega) HK.out.size HK.out (Nat.le_refl _) ?_
  clear HO HK
  intro v2 w2 hown hg2 hk _
  obtain ⟨A0, c0, rfl⟩ := own_form hown
  have HO := Lib.hid hown
  have HK := Lib.hid hk
  clear hown hk hg2
  clear hV
  go_wp2_with fail
  go_ret
  refine ⟨.slice A0 ((((((((n + 1) + 1) + 1) + 1) + 1) + 1) + 1) + 1) c0, rfl, ?_, HK.out⟩
  have hr : (bs ++ leBytes V 8).map b8 = bs.map b8 ++ [b8 (UInt8.ofNat (V)), b8 (UInt8.ofNat (V / 256)), b8 (UInt8.ofNat (V / 256 / 256)), b8 (UInt8.ofNat (V / 256 / 256 / 256)), b8 (UInt8.ofNat (V / 256 / 256 / 256 / 256)), b8 (UInt8.ofNat (V / 256 / 256 / 256 / 256 / 256)), b8 (UInt8.ofNat (V / 256 / 256 / 256 / 256 / 256 / 256)), b8 (UInt8.ofNat (V / 256 / 256 / 256 / 256 / 256 / 256 / 256))] := by simp [leBytes]
  have ho := HO.out
  have hV := HV.out
  have ht : ((V : Int) / 256 / 256 / 256 / 256 / 256 / 256 / 256) % 256 = (V : Int) / 256 / 256 / 256 / 256 / 256 / 256 / 256 := by omega
  simp only [List.append_assoc, List.cons_append, List.nil_append] at ho
  rw [hr]
  simp only [b8_nat, Int.natCast_ediv, Int.cast_ofNat_Int]
  rw [ht]
  exact ho
end Go.Proofs.YtcbdjmlkjifamaaGreatDoor
