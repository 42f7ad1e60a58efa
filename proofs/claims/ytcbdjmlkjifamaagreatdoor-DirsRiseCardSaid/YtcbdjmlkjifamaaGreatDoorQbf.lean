/-
  image.New, and that the pages' row is new. Condition: how many pages.
-/
import Derived.Test.YtcbdjmlkjifamaaGreatDoorQam
set_option linter.unusedVariables false
set_option linter.unusedSimpArgs false

namespace Go.Proofs.YtcbdjmlkjifamaaGreatDoor
open Go.RowKit
set_option maxRecDepth 100000
theorem image_New_at (n : Nat) (w : World) (h1 : 1 ≤ n) (h2 : n ≤ 216) :
    Calls Tryz.prog 25 #[.int .i64 n] w fun e w' => ∃ ib pb ab, e = .returned (.tuple #[.pointer (some ⟨ib, 0, none⟩), .int .i64 0]) ∧
      Img w' ib pb ab (List.replicate n (List.replicate 256 0)) ∧ Kept [] w w' ∧ w.heap.size ≤ ab := by
  obtain ⟨i0, hi, hz0, hz1, hz2⟩ := info_parts bytes_info
  have hmk := fun W => run_make_bytes 256 256 rfl (by omega) W
  go_enter Tryz.func25, Tryz.ntmps25
  go_wp2_with fail
  go_loopw [14] (fun a wr => NewRel w w.heap.size n a wr) (fun a _ => n - (intOf a).toNat)
  case atStart => exact ⟨0, .slice none 0 0, [], rfl, by omega, Blk.new _ _ _, World.ownsRow_nil _ _ _ _, fun i hi => by omega, (Kept.refl _ _).alloc _⟩
  case round =>
    obtain ⟨k, v, vs, rfl, hk, hpb, ho, hvs, hkp⟩ := hrel
    have HPB := Lib.hid hpb
    have HO := Lib.hid ho
    have HVS := Lib.hid hvs
    have HK := Lib.hid hkp
    obtain ⟨A0, c0, rfl⟩ := own_form ho
    by_cases hlt : k < n
    · have hc0 : wr.drew.cell? ⟨w.heap.size, 0, none⟩ = some (.slice A0 k c0) := by rw [hpb.drew.cell]; rfl
      have hc3 : ∀ o, (wr.alloc o).drew.cell? ⟨w.heap.size, 0, none⟩ = some (.slice A0 k c0) := fun o => by rw [(hpb.alloc o).drew.cell]; rfl
      have hc4 : ∀ o o', ((wr.alloc o).alloc o').drew.cell? ⟨w.heap.size, 0, none⟩ = some (.slice A0 k c0) := fun o o' => by rw [((hpb.alloc o).alloc o').drew.cell]; rfl
      have hc1 : ∀ o, (wr.drew.alloc o).cell? ⟨w.heap.size, 0, none⟩ = some (.slice A0 k c0) := fun o => by rw [(hpb.drew.alloc o).cell]; rfl
      have hc2 : ∀ o o', ((wr.drew.alloc o).alloc o').cell? ⟨w.heap.size, 0, none⟩ = some (.slice A0 k c0) := fun o o' => by rw [((hpb.drew.alloc o).alloc o').cell]; rfl
      clear hpb ho hvs hkp
      obtain ⟨W2, hW2⟩ : ∃ W2, W2 = ((wr.alloc (.cells (zeros 256) 5)).alloc (.cells #[.slice (some ⟨wr.heap.size, 0, none⟩) 256 256] 56)).drew := ⟨_, rfl⟩
      have hoA : W2.ownsRow w.heap.size 56 1 (.slice A0 k c0) k vs := by rw [hW2]; exact ((HO.out.alloc _).alloc _).drew
      have hsA : Sl W2 [] 56 1 (some ⟨wr.heap.size + 1, 0, none⟩) 1 1 [.slice (some ⟨wr.heap.size, 0, none⟩) 256 256] := by
        rw [hW2]
        exact (Sl.new (w := wr.alloc (.cells (zeros 256) 5)) (xs := [.slice (some ⟨wr.heap.size, 0, none⟩) 256 256]) (by simp) (by simp) rfl (by omega)).keep0 (Kept.refl [] _).drew
      have hpA : Blk W2 w.heap.size 109 #[.slice A0 k c0] := by rw [hW2]; exact ((HPB.out.alloc _).alloc _).drew
      have hkA : Kept [] wr W2 := by rw [hW2]; exact (((Kept.refl [] wr).alloc _).alloc _).drew
      have hbA : Bytes W2 [] (some ⟨wr.heap.size, 0, none⟩) 256 (List.replicate 256 0) := by
        have h3 : Blk W2 wr.heap.size 5 ((List.replicate 256 (0 : UInt8)).map b8).toArray := by
          rw [hW2, ← replicate_b8]
          exact ((Blk.new wr 5 (zeros 256)).alloc _).drew
        have h4 := Bytes.of_blk (D := []) (bs := List.replicate 256 0) h3 (by simp) (by simp)
        simpa using h4
      have hszA : w.heap.size ≤ W2.heap.size := Nat.le_trans HK.out.size hkA.size
      have HOA := Lib.hid hoA
      have HSA := Lib.hid hsA
      have HPA := Lib.hid hpA
      have HKA := Lib.hid hkA
      have HBA := Lib.hid hbA
      have HW2 := Lib.hid hW2
      clear hoA hsA hpA hkA hbA hW2
      go_wp2_with fail
      go_region_law (refine step_append_any _ rfl (.tmp 20) (.tmp 22) _ rfl w.heap.size 56 i0 _ 1 24 Tryz.underlying86 hi hz0 hz1 hz2 rfl (by omega) (.slice A0 k c0) k vs (by simp [Act.eval, Act.put]) (HW2.out ▸ HOA.out) [] 56 (some ⟨wr.heap.size + 1, 0, none⟩) 1 1 [.slice (some ⟨wr.heap.size, 0, none⟩) 256 256] (by simp [Act.eval, Act.put]) (HW2.out ▸ HSA.out) (by simp [Value.oneCell']) (by simp only [maxLen]; omega) (by omega) (HW2.out ▸ hszA) ?_; intro v5 w5 ho5 hg5 _; obtain ⟨A5, c5, rfl⟩ := own_form ho5; rw [← HW2.out] at hg5; have hb5 := HPA.out.grown hg5 (own_ne HOA.out HPA.out (by decide)); (have hc5 : w5.cell? ⟨w.heap.size, 0, none⟩ = some (.slice A0 k c0) := by rw [hb5.cell]; rfl); (have hf5 : w5.frozen? ⟨w.heap.size, 0, none⟩ = false := hb5.frozen 0); have HB5 := Lib.hid hb5; have HO5 := Lib.hid ho5; have HG5 := Lib.hid hg5; clear hb5 ho5 hg5)
      all_goals
        have hkk5 : Kept [] w w5 := (HK.out.trans HKA.out).grown HG5.out (fun j hj => .inl (HOA.out.lt j hj).1)
        have hb6 := HB5.out.set_ 0 (.slice A5 (k + 1) c5)
        have ho6 := ownsRow_far HO5.out HB5.out (by decide) 0 (.slice A5 (k + 1) c5)
        have hk6 : Kept [] w (w5.setCell ⟨w.heap.size, 0, none⟩ (.slice A5 (k + 1) c5)) := hkk5.setCell (.inl (Nat.le_refl _)) _
        have hks : Kept [w.heap.size] w5 (w5.setCell ⟨w.heap.size, 0, none⟩ (.slice A5 (k + 1) c5)) := (Kept.refl _ _).setCell (.inr (by simp)) _
        have hvs6 : ∀ i, i < k + 1 → ∃ A c, (vs ++ [.slice (some ⟨wr.heap.size, 0, none⟩) 256 256])[i]? = some (.slice A 256 c) ∧ Bytes (w5.setCell ⟨w.heap.size, 0, none⟩ (.slice A5 (k + 1) c5)) [] A c (List.replicate 256 0) := by
          intro i hi
          have hvl : vs.length = k := by simpa using HO.out.1
          rcases Nat.lt_or_eq_of_le (Nat.le_of_lt_succ hi) with h3 | h3
          · obtain ⟨A, c, h4, h5⟩ := HVS.out i h3
            exact ⟨A, c, by rw [List.getElem?_append_left (by omega)]; exact h4, ((h5.keep0 HKA.out).grown HOA.out (by decide) HG5.out).other hks HB5.out (by decide)⟩
          · subst h3
            exact ⟨_, _, by rw [List.getElem?_append_right (by omega), hvl]; simp, (HBA.out.grown HOA.out (by decide) HG5.out).other hks HB5.out (by decide)⟩
        have HB6 := Lib.hid hb6
        have HO6 := Lib.hid ho6
        have HK6 := Lib.hid hk6
        have HV6 := Lib.hid hvs6
        clear hkk5 hb6 ho6 hk6 hvs6 hks
        go_wp2_with fail
        go_roundw
        case rel => exact ⟨k + 1, _, _, by go_num, by omega, HB6.out, HO6.out, HV6.out, HK6.out⟩
        case measure => simp [intOf]; omega
    · obtain rfl : k = n := by omega
      clear hpb ho hvs hkp
      go_wp2_with fail
      go_ret2
      rcases HO.out.2 with ⟨_, h0⟩ | ⟨g, cap, cur, hv, hg, hh, hnc, hcm, hcs, htake⟩
      · omega
      injection hv with hv1 hv2 hv3
      subst hv1; subst hv3
      refine ⟨wr.heap.size, w.heap.size, g, rfl, ⟨Blk.new _ _ _, ⟨c0, cur, ?_, ?_, ?_, ?_, ?_, fun i hi => ?_⟩, ?_, ?_⟩, (HK.out.alloc _), hg⟩
      · rw [List.length_replicate]; exact HPB.out.alloc _
      · exact Blk.alloc hh _
      · rw [List.length_replicate]; omega
      · rw [List.length_replicate]; exact hnc
      · simpa [maxLen] using hcm
      · rw [List.length_replicate] at hi
        obtain ⟨A, c, h4, h5⟩ := HVS.out i hi
        rw [Nat.mul_one] at htake
        refine ⟨A, c, ?_, ?_⟩
        · rw [← htake, List.getElem?_take_of_lt hi, Array.getElem?_toList] at h4
          exact h4
        · rw [List.getElem_replicate]
          exact h5.keep0 ((Kept.refl _ _).alloc _)
      · intro p hp
        rw [(List.mem_replicate.1 hp).2]
        simp
      · rw [List.length_replicate]; exact h2
end Go.Proofs.YtcbdjmlkjifamaaGreatDoor
