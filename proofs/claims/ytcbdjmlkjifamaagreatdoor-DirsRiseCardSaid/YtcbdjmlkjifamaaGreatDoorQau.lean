/-
  Strings and slices of bytes: what a conversion either way gives; bytes.Equal. Conditions: the slices read as lists of bytes. name.May. No condition beyond a string's length.
-/
import Derived.Test.YtcbdjmlkjifamaaGreatDoorQaf
import Derived.Laws.IdiomStrings
import Derived.Lib.ConvBytes
import Derived.Laws.RangeAny
set_option linter.unusedVariables false
set_option linter.unusedSimpArgs false

/- Strings and slices of bytes: what a conversion either way gives; bytes.Equal. Conditions: the slices read as lists of bytes. -/
namespace Go.Proofs.YtcbdjmlkjifamaaGreatDoor
open Go.RowKit
set_option maxRecDepth 100000

/-- A string, by its bytes. -/
abbrev str (bs : List UInt8) : ByteArray := ⟨bs.toArray⟩
theorem str_size (bs : List UInt8) : (str bs).size = bs.length := by simp [str, ByteArray.size]
theorem str_of (s : ByteArray) : ∃ bs, s = str bs := ⟨s.data.toList, by cases s; simp [str]⟩

theorem run_conv_str {w : World} {D : List Nat} {A : Option Addr} {c n : Nat} {bs : List UInt8} (h : Bytes w D A c bs) (hn : bs.length = n) :
    (convert 56 9 (.slice A n c)).run Tryz.prog w = .ok (.string (str bs)) w := by
  subst hn
  have hs : Tryz.prog.underlying 56 = some (.slice 5) := Tryz.underlying56
  have he : Tryz.prog.underlying 5 = some (.int .u8) := Tryz.underlying5
  have hd : Tryz.prog.underlying 9 = some .string := Tryz.underlying9
  rcases A with _ | ad
  · have hb : bs = [] := by
      rcases bs with _ | ⟨x, l⟩
      · rfl
      · obtain ⟨ad, hA, _⟩ := h.get (k := 0) (by simp)
        cases hA
    subst hb
    rw [run_convert_bytes_string w _ _ _ _ _ _ hs he hd]
    simp [Conv.bytesToString]
    rfl
  · exact run_convert_bytes_back w _ _ _ ad c bs hs he hd (fun j hj => by
      obtain ⟨ad', hA, hc⟩ := h.get hj
      injection hA with hA
      subst hA
      exact hc)

theorem bytes_Equal (D D' : List Nat) (A B : Option Addr) (c d n m : Nat) (xs ys : List UInt8) (w : World) (hx : Bytes w D A c xs) (hn : xs.length = n) (hy : Bytes w D' B d ys) (hm : ys.length = m) :
    Calls Tryz.prog 62 #[.slice A n c, .slice B m d] w fun e w' => e = .returned (.bool (xs == ys)) ∧ w = w' := by
  have h1 := run_conv_str hx hn
  have h2 := run_conv_str hy hm
  clear hx hy hn hm
  go_enter Tryz.func62, Tryz.ntmps62
  go_wp2_with fail
  go_ret
  exact ⟨rfl, rfl⟩

/-- '[]byte(s)': a new row of the call's own that reads as the string's bytes. -/
theorem run_conv_bytes (w : World) (bs : List UInt8) (hl : bs.length ≤ 100000) : ∃ A c w', (convert 9 56 (.string (str bs))).run Tryz.prog w = .ok (.slice A bs.length c) w' ∧ Bytes w' [] A c bs ∧ Kept [] w w' := by
  have hd : Tryz.prog.underlying 56 = some (.slice 5) := Tryz.underlying56
  have he : Tryz.prog.underlying 5 = some (.int .u8) := Tryz.underlying5
  have hs : Tryz.prog.underlying 9 = some .string := Tryz.underlying9
  have hr := Lib.run_convert_string_bytes (P := Tryz.prog) w 9 56 5 (str bs) hs hd he
  rw [str_size] at hr
  have hge := grownCap_ge w bs.length 0 5
  have hcm : grownCap w bs.length 0 5 ≤ maxLen := grownCap_le_maxLen w bs.length 0 5 (by simp only [maxLen]; omega)
  refine ⟨_, _, _, hr, ⟨by simp, by omega, hge, by simpa [maxLen] using hcm, fun _ => ⟨_, rfl, by simp, ⟨_, _, Lib.bytesWorld_at_new w 5 (str bs)⟩, fun j u hu => ?_⟩⟩, ⟨rfl, rfl, rfl, by rw [Lib.bytesWorld_size]; omega, fun k hk _ => Lib.bytesWorld_at_old w _ _ k hk⟩⟩
  have hj : j < bs.length := by
    have := (List.getElem?_eq_some_iff.1 hu).1
    simpa using this
  rw [add_lit0, Lib.bytesWorld_cell w _ _ j (by rw [str_size]; exact hj)]
  rw [List.getElem?_map, List.getElem?_eq_getElem hj] at hu
  injection hu with hu
  rw [← hu]
  simp [str, List.getD_eq_getElem?_getD, List.getElem?_eq_getElem hj]
end Go.Proofs.YtcbdjmlkjifamaaGreatDoor

/- name.May. No condition beyond a string's length. -/
namespace Go.Proofs.YtcbdjmlkjifamaaGreatDoor
open Go.RowKit
set_option maxRecDepth 100000

/-- A byte that no name has. -/
def badB (x : UInt8) : Bool := x == 0 || x == 47
def nameMay (s : List UInt8) : Int := if s = [] ∨ s = [46] ∨ s = [46, 46] then 1 else if s.any badB then 1 else if 24 < s.length then 15 else 0

theorem get_bang (s : ByteArray) (k : Nat) (h : k < s.size) : s.get! k = s[k] := by
  simp [ByteArray.get!, getElem!_pos, h]
  rfl
/-- Within a rune that is not ASCII no byte is. -/
theorem decode_skip (s : ByteArray) (pos : Nat) (h : pos < s.size) (ha : 128 ≤ (s[pos]'h).toNat) :
    pos + (Utf8.decode s pos).2 ≤ s.size ∧ ∀ j (hj : j < s.size), pos ≤ j → j < pos + (Utf8.decode s pos).2 → 128 ≤ (s[j]'hj).toNat := by
  have hn : ¬ (s[pos]'h).toNat < 128 := by omega
  have key : ∀ n, 1 ≤ n → n ≤ 4 → (∀ k, 1 ≤ k → k < n → pos + k < s.size ∧ (s.get! (pos + k)).toNat / 64 = 2) →
      pos + n ≤ s.size ∧ ∀ j (hj : j < s.size), pos ≤ j → j < pos + n → 128 ≤ (s[j]'hj).toNat := fun n h1 h4 hc => by
    refine ⟨?_, fun j hj hp hl => ?_⟩
    · by_cases e : n = 1
      · omega
      · have := (hc (n - 1) (by omega) (by omega)).1
        omega
    · by_cases e : j = pos
      · subst e; exact ha
      · have h2 := hc (j - pos) (by omega) (by omega)
        have e2 : s.get! (pos + (j - pos)) = s[j] := by
          rw [show pos + (j - pos) = j from by omega]
          exact get_bang s j hj
        rw [e2] at h2
        omega
  simp only [Utf8.decode, get_at s pos h, hn, if_false]
  split
  · rename_i hc
    simp only [Bool.and_eq_true, decide_eq_true_eq, beq_iff_eq] at hc
    split
    · exact key 2 (by omega) (by omega) (fun k h1 h2 => (show k = 1 by omega) ▸ hc.2)
    · exact key 1 (by omega) (by omega) (fun k h1 h2 => by omega)
  · split
    · rename_i hc
      simp only [Bool.and_eq_true, decide_eq_true_eq, beq_iff_eq] at hc
      split
      · refine key 3 (by omega) (by omega) (fun k h1 h2 => ?_)
        rcases (show k = 1 ∨ k = 2 by omega) with rfl | rfl
        · exact hc.1.2
        · exact hc.2
      · exact key 1 (by omega) (by omega) (fun k h1 h2 => by omega)
    · split
      · rename_i hc
        simp only [Bool.and_eq_true, decide_eq_true_eq, beq_iff_eq] at hc
        split
        · refine key 4 (by omega) (by omega) (fun k h1 h2 => ?_)
          rcases (show k = 1 ∨ k = 2 ∨ k = 3 by omega) with rfl | rfl | rfl
          · exact hc.1.1.2
          · exact hc.1.2
          · exact hc.2
        · exact key 1 (by omega) (by omega) (fun k h1 h2 => by omega)
      · exact key 1 (by omega) (by omega) (fun k h1 h2 => by omega)

theorem str_at (bs : List UInt8) (j : Nat) (h : j < (str bs).size) : (str bs)[j] = bs[j]'(by rw [str_size] at h; exact h) := by
  show bs.toArray[j]'_ = _
  simp

/-- What the loop of May knows. -/
def NamRel (w : World) (bs : List UInt8) (wr : World) : Prop := ∃ pos, wr = w.iter (str bs) pos ∧ pos ≤ bs.length ∧ ∀ j (hj : j < bs.length), j < pos → badB bs[j] = false
theorem Kept.iter (w : World) (s : ByteArray) (pos : Nat) : Kept [] w (w.iter s pos) := (Kept.refl _ _).alloc _

theorem name_May (bs : List UInt8) (w : World) (hl : bs.length ≤ 100000) : Calls Tryz.prog 45 #[.string (str bs)] w fun e w' => e = .returned (.int .i64 (nameMay bs)) ∧ Kept [] w w' := by
  by_cases hs : bs = [] ∨ bs = [46] ∨ bs = [46, 46]
  · have e : nameMay bs = 1 := by rw [nameMay, if_pos hs]
    rw [e]
    rcases hs with rfl | rfl | rfl
    all_goals
      go_enter Tryz.func45, Tryz.ntmps45
      go_wp2
      go_ret
      exact ⟨rfl, Kept.refl _ _⟩
  · have h1 : (bs == []) = false := by simpa using fun h => hs (.inl h)
    have h2 : (bs == [46]) = false := by simpa using fun h => hs (.inr (.inl h))
    have h3 : (bs == [46, 46]) = false := by simpa using fun h => hs (.inr (.inr h))
    have h1' : bs.isEmpty = false := by simpa using fun h => hs (.inl h)
    have h1'' : ¬ bs = [] := fun h => hs (.inl h)
    have e : nameMay bs = if bs.any badB then 1 else if 24 < bs.length then 15 else 0 := by rw [nameMay, if_neg hs]
    have hsz := str_size bs
    have HE := Lib.hid e
    clear e hs
    go_enter Tryz.func45, Tryz.ntmps45
    go_wp2_with fail
    go_loopw [2] (fun a wr => a = .int .i64 0 ∧ NamRel w bs wr) (fun _ wr => bs.length - wr.iterPos w.heap.size)
    case atStart => exact ⟨rfl, 0, rfl, Nat.zero_le _, fun j _ hj => by omega⟩
    case round =>
      obtain ⟨rfl, pos, rfl, hpl, hno⟩ := hrel
      have HN := Lib.hid hno
      clear hno
      by_cases hp : pos < bs.length
      · have hps : pos < (str bs).size := by rw [hsz]; exact hp
        have hnx : ∀ ty, (Instr.next (.pointer (some ⟨w.heap.size, 0, none⟩)) true ty).run Tryz.prog (w.iter (str bs) pos) = _ := fun ty => run_next_any w (str bs) pos ty hps
        obtain ⟨r, hr⟩ : ∃ r, r = (Utf8.decode (str bs) pos).1 := ⟨_, rfl⟩
        obtain ⟨k, hk⟩ : ∃ k, k = (Utf8.decode (str bs) pos).2 := ⟨_, rfl⟩
        have hrb : 1 ≤ k ∧ pos + k ≤ bs.length ∧ (r = 0 ∨ r = 47 ↔ badB bs[pos] = true) ∧ ∀ j (hj : j < bs.length), pos < j → j < pos + k → badB bs[j] = false := by
          have hat := str_at bs pos hps
          by_cases ha : ((str bs)[pos]'hps).toNat < 128
          · have hd := decode_ascii (str bs) pos hps ha
            rw [hd] at hr hk
            simp only at hr hk
            subst hr; subst hk
            refine ⟨by omega, by omega, ?_, fun j hj h4 h5 => by omega⟩
            rw [hat]
            unfold badB
            rw [Bool.or_eq_true, beq_iff_eq, beq_iff_eq, ← UInt8.toNat_inj, ← UInt8.toNat_inj]
            exact Iff.rfl
          · obtain ⟨d1, d2⟩ := decode_high (str bs) pos hps (by omega)
            obtain ⟨d3, d4⟩ := decode_skip (str bs) pos hps (by omega)
            rw [← hk] at d2 d3 d4
            rw [← hr] at d1
            rw [hsz] at d3
            have hbig : ∀ x : UInt8, 128 ≤ x.toNat → badB x = false := fun x hx => by
              unfold badB
              rw [Bool.or_eq_false_iff, beq_eq_false_iff_ne, beq_eq_false_iff_ne]
              exact ⟨fun h => by rw [h] at hx; exact absurd hx (by decide), fun h => by rw [h] at hx; exact absurd hx (by decide)⟩
            refine ⟨d2, d3, ?_, fun j hj h4 h5 => ?_⟩
            · have hb := hbig bs[pos] (by rw [← hat]; omega)
              rw [hb]
              exact ⟨fun h => by omega, fun h => by cases h⟩
            · have := d4 j (by rw [hsz]; exact hj) (by omega) h5
              rw [str_at] at this
              exact hbig _ this
        obtain ⟨hk1, hk2, hbad, hskip⟩ := hrb
        rw [← hr, ← hk] at hnx
        have HB := Lib.hid hbad
        have HS := Lib.hid hskip
        have HNX := Lib.hid hnx
        clear hbad hskip hr hk hnx
        by_cases hz : r = 0 ∨ r = 47
        · have hany : nameMay bs = 1 := by
            rw [HE.out, if_pos]
            rw [List.any_eq_true]
            exact ⟨bs[pos], List.getElem_mem hp, HB.out.1 hz⟩
          have HA := Lib.hid hany
          clear hany
          have hnx := HNX.out
          rcases hz with rfl | rfl
          · go_wp2_with fail
            go_ret
            rw [HA.out]
            exact ⟨rfl, Kept.iter _ _ _⟩
          · go_wp2_with fail
            go_ret
            rw [HA.out]
            exact ⟨rfl, Kept.iter _ _ _⟩
        · have hz0 : ((r : Int) == 0) = false := by rw [beq_eq_false_iff_ne]; omega
          have hz7 : ((r : Int) == 47) = false := by rw [beq_eq_false_iff_ne]; omega
          have hgd : badB bs[pos] = false := by
            cases hc : badB bs[pos] with
            | true => exact absurd (HB.out.2 hc) hz
            | false => rfl
          have hno2 : ∀ j (hj : j < bs.length), j < pos + k → badB bs[j] = false := fun j hj hjk => by
            rcases Nat.lt_trichotomy j pos with h4 | h4 | h4
            · exact HN.out j hj h4
            · subst h4; exact hgd
            · exact HS.out j hj h4 hjk
          have HN2 := Lib.hid hno2
          have hnx := HNX.out
          clear hno2 hgd hz
          go_wp2_with fail
          go_roundw
          case rel => exact ⟨rfl, pos + k, rfl, hk2, HN2.out⟩
          case measure => simp; omega
      · obtain rfl : pos = bs.length := by omega
        have hnx : ∀ ty, (Instr.next (.pointer (some ⟨w.heap.size, 0, none⟩)) true ty).run Tryz.prog (w.iter (str bs) bs.length) = _ := fun ty => run_next_end w (str bs) bs.length ty (by rw [hsz]; omega)
        have hany : bs.any badB = false := by
          rw [List.any_eq_false]
          intro x hx
          obtain ⟨j, hj, rfl⟩ := List.getElem_of_mem hx
          rw [HN.out j hj hj]
          simp
        by_cases h24 : 24 < bs.length
        · have hm : nameMay bs = 15 := by rw [HE.out, hany, if_neg (by simp), if_pos h24]
          have HM := Lib.hid hm
          have hi : (24 : Int) < bs.length := by omega
          clear hm hany
          go_wp2_with fail
          go_ret
          rw [HM.out]
          exact ⟨rfl, Kept.iter _ _ _⟩
        · have hm : nameMay bs = 0 := by rw [HE.out, hany, if_neg (by simp), if_neg h24]
          have HM := Lib.hid hm
          have hi : ¬ (24 : Int) < bs.length := by omega
          clear hm hany
          go_wp2_with fail
          go_ret
          rw [HM.out]
          exact ⟨rfl, Kept.iter _ _ _⟩
end Go.Proofs.YtcbdjmlkjifamaaGreatDoor
