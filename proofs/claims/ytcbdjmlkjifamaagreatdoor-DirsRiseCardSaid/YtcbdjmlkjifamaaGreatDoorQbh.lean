/-
  THE ROW OF 'carlinglaw28.DirsRise' AND ITS TIED CARD, PROVED: for every input the law returns true, and the input reads as it did. Condition: none but the listed tables' ('laid'), which the card ties to the program's text.
-/
import Derived.Test.YtcbdjmlkjifamaaGreatDoorQab
import Derived.Test.YtcbdjmlkjifamaaGreatDoorQbg
import Derived.Test.YtcbdjmlkjifamaaGreatDoorCards
import Derived.Test.YtcbdjmlkjifamaaGreatDoorTie
set_option linter.unusedVariables false
set_option linter.unusedSimpArgs false

namespace Go.Proofs.YtcbdjmlkjifamaaGreatDoor
open Go.ChangeShapes Go.WideShapes Go.ChangeAt Go.RowKit Go.Deep Go.Joins
set_option maxRecDepth 100000

section
variable {H : Type} {enc : TypeId × Value → H} {P : Program} {w : World} {base : Nat} {spare : Nat → Bool} {held : Bool}
theorem trod_five {t : TypeId} {f0 f1 f2 f3 f4 : Field} {fuel : Nat} {cs : List Value} {x : DataW H × List MemPlace} (hs : P.underlying t = some (.struct #[f0, f1, f2, f3, f4])) (hone : oneCellFields P #[f0, f1, f2, f3, f4] = true) (hl : cs.length = 5) (h : DataW.trod enc P w base spare held fuel t cs = some x) :
    ∃ (v0 v1 v2 v3 v4 : Value) (y0 y1 y2 y3 y4 : DataW H × List MemPlace) (n : Nat), cs = [v0, v1, v2, v3, v4] ∧
      DataW.trod enc P w base spare held n f0.type [v0] = some y0 ∧ DataW.trod enc P w base spare held n f1.type [v1] = some y1 ∧ DataW.trod enc P w base spare held n f2.type [v2] = some y2 ∧ DataW.trod enc P w base spare held n f3.type [v3] = some y3 ∧
      DataW.trod enc P w base spare held n f4.type [v4] = some y4 := by
  obtain ⟨y0, y1, y2, y3, y4, n, _, h0, h1, h2, h3, h4⟩ := trod_struct5 hs h
  obtain ⟨o0, k0⟩ := hone_of hone 0 f0 rfl
  obtain ⟨o1, k1⟩ := hone_of hone 1 f1 rfl
  obtain ⟨o2, k2⟩ := hone_of hone 2 f2 rfl
  obtain ⟨o3, k3⟩ := hone_of hone 3 f3 rfl
  obtain ⟨o4, k4⟩ := hone_of hone 4 f4 rfl
  match cs, hl with
  | [c0, c1, c2, c3, c4], _ => exact ⟨c0, c1, c2, c3, c4, y0, y1, y2, y3, y4, n, rfl, by simpa [o0, k0] using h0, by simpa [o1, k1] using h1, by simpa [o2, k2] using h2, by simpa [o3, k3] using h3, by simpa [o4, k4] using h4⟩
end
theorem cells_step2 : Tryz.prog.cellsOf 23 = 5 := by kernel_rfl
theorem laid_out : laidOutB Tryz.checked.prog = true := by kernel_rfl
theorem steps_open {H : Type} {enc : TypeId × Value → H} {W : World} {A : Option Addr} {n c : Nat} {d : DataW H} {p : List MemPlace} (h : DataW.Trod enc Tryz.prog W 0 (fun _ => true) true 40 (.slice A n c) d p) :
    n ≤ c ∧ c ≤ 9223372036854775807 ∧ (A = none → c = 0) ∧ StepsAt W A n := by
  obtain ⟨fuel, hf⟩ := h
  rcases open_slice Tryz.underlying40 hf with ⟨hcs, _⟩ | ⟨a, len, cap, m, k, D, Pl, hcs, _, hl, hm, hmm, _, hel⟩
  · simp only [Value.cells, List.cons.injEq, Value.slice.injEq, and_true] at hcs
    obtain ⟨rfl, rfl, rfl⟩ := hcs
    exact ⟨Nat.le_refl _, Nat.zero_le _, fun _ => rfl, fun i hi => absurd hi (Nat.not_lt_zero _)⟩
  · simp only [Value.cells, List.cons.injEq, Value.slice.injEq, and_true] at hcs
    obtain ⟨rfl, rfl, rfl⟩ := hcs
    refine ⟨hl, by simpa [maxLen] using hm, (fun h => nomatch h), fun i hi => ?_⟩
    obtain ⟨cs, h1, h2⟩ := hel i (by rw [hmm]; simp; omega)
    rw [cells_step2] at h1
    obtain ⟨_, hlen, hcell⟩ := World.cells?_some h1
    obtain ⟨c0, c1, c2, c3, c4, y0, y1, y2, y3, y4, q, rfl, g0, g1, g2, g3, g4⟩ := trod_five Tryz.underlying23 (by kernel_rfl) hlen h2
    obtain ⟨o, e0, _, w0⟩ := DataW.trod_int (k := .u8) (by kernel_rfl) g0
    obtain ⟨x1, e1, _, w1⟩ := DataW.trod_int (k := .i64) (by kernel_rfl) g1
    obtain ⟨x2, e2, _, w2⟩ := DataW.trod_string (by kernel_rfl) g2
    obtain ⟨x3, e3, _, w3⟩ := DataW.trod_int (k := .i64) (by kernel_rfl) g3
    obtain ⟨x4, e4, _, w4⟩ := DataW.trod_int (k := .i64) (by kernel_rfl) g4
    simp only [List.cons.injEq, and_true] at e0 e1 e2 e3 e4
    subst e0; subst e1; subst e2; subst e3; subst e4
    obtain ⟨s, rfl⟩ := str_of x2
    have hw0 : 0 ≤ o ∧ o ≤ 255 := bounds_u8 w0
    obtain ⟨o', rfl⟩ := Int.eq_ofNat_of_zero_le hw0.1
    refine ⟨a, o', x1, x3, x4, s, rfl, by omega, ?_, ?_, ?_, ?_, ?_⟩
    · have := hcell 0 (by omega)
      rw [show (a.add (i * 5)).add 0 = a.add (i * 5) from by simp [Addr.add]] at this
      exact this
    · have := hcell 1 (by omega)
      rw [add_pos _ 1 (by omega)] at this
      exact this
    · have := hcell 2 (by omega)
      rw [add_pos _ 2 (by omega)] at this
      exact this
    · have := hcell 3 (by omega)
      rw [add_pos _ 3 (by omega)] at this
      exact this
    · have := hcell 4 (by omega)
      rw [add_pos _ 4 (by omega)] at this
      exact this
theorem rise_lifted (os : Os) (started : os.Started) (H : Type) (enc : TypeId × Value → H) :
    ReturnsInHanded {} Tryz.checked os 4 .any (fun w args => (Rows.dirsRiseSpec.pre enc Tryz.prog Tryz.f4 [] false w args ∧ laidMetH Tryz.prog seatLaid w) ∧ sizedMet enc Tryz.prog Tryz.f4 (OpenSpec.ofChange Rows.dirsRiseSpec) false w args)
      (Rows.dirsRiseSpec.post enc Tryz.prog Tryz.f4 false true false false) := by
  refine returnsInHanded_of_change_and (C := Tryz.checked) (X := fun w _ => laidMetH Tryz.prog seatLaid w) (fun _ _ _ hh h => h.of_heap hh) own_ started (by kernel_rfl) Tryz.func4
    (ChangeSpec.witness_shaped (enc := enc) (C := Tryz.checked) (os := os) (X := fun w _ => laidMetH Tryz.prog seatLaid w) false (World.laidAll Tryz.prog os seatLaid) #[.slice none 0 0] 8 (World.laidAll_os _ _ _) (World.shaped_of_RefB (by kernel_rfl) (by kernel_rfl)) (by kernel_rfl) (by kernel_rfl) (by kernel_rfl) (seat_met os _)) ?_
  intro W base args ds gs before hval0 hW _ _ _ _
  have hval : ∀ (j : Nat) t v, Tryz.f4.params[j]? = some t → args[j]? = some v → Value.okWide Tryz.prog W .any base t v := hval0
  have hW' := hW
  obtain ⟨p, q, hA0, hV, rfl, _, _⟩ := hW
  have hA : DataW.TrodAll enc Tryz.prog W 0 (fun _ => true) true Tryz.f4.params.toList args.toList ds p := hA0
  rw [Tryz.params4] at hA hval
  obtain ⟨v0, d0, rfl, rfl, h0⟩ := trodAll_one hA
  obtain ⟨rfl, rfl⟩ := trodVars_none hV
  obtain ⟨A, n, c, rfl⟩ := okWide_slice Tryz.underlying40 (hval 0 40 v0 rfl rfl)
  clear hA0 hval0 hval hA hV
  simp only [List.append_nil] at hW'
  have hlt : ∀ x ∈ p, x.block < W.heap.size := fun x hx => by simpa using hW'.lt x hx
  obtain ⟨hnc, hc, hAn, hst⟩ := steps_open h0
  refine (law_DirsRise A n c W hnc hc hAn hst).mono ?_
  rintro e W' ⟨rfl, hk⟩
  refine ⟨_, rfl, _, _, _, [], p, [], hW', ?_, ?_, ?_, hk.below.frame _, fun h => by cases h⟩
  · exact trodAll_mk1 (shut_bool Tryz.underlying4 _)
  · exact trodAll_mk1 (Below.trod laid_out (by kernel_rfl) (of_decide_eq_true (by kernel_rfl)) h0 hk.below hlt)
  · rfl

theorem rise_holds : Rows.DirsRiseSaid :=
  OpenClaim.holds_of_wide 4 Tryz.f4 rfl rfl rfl rfl rfl rfl rfl ⟨rfl, rfl, rfl, rfl, rfl⟩ rfl rfl rfl rfl rfl (by kernel_rfl) Tryz.func4 (by kernel_rfl)
    (of_decide_eq_true (by kernel_rfl)) (by unfold Func.isWrapper; rw [if_neg (of_decide_eq_false (by kernel_rfl))]; exact ⟨rfl, rfl⟩)
    (fun os started H enc _ => rise_lifted os started H enc)

/-- THE TIED CARD. -/
theorem rise_card : Rows.DirsRiseCardSaid :=
  Claim7.holds_tied_plain_at .later [] [.data, .pinned] true (true, "4800646fe59c22894dd5a038c0780827b29f49cd9fade8b15cc6306a17a9b971") false
    rise_holds (fun _ h => by cases h) (by kernel_rfl) (fun _ h => by cases h) dirsRise_row_tie rfl ⟨rfl, rfl⟩ (by kernel_rfl) rfl
    (fun f fn hf hfn => by
      obtain rfl : f = 4 := Option.some.inj ((show Tryz.prog.funcNamed "carling/carlinglaw28.DirsRise" = some 4 by kernel_rfl).symm.trans hf) |>.symm
      obtain rfl : fn = Tryz.f4 := (Option.some.inj (Tryz.func4.symm.trans hfn)).symm
      exact ⟨by kernel_rfl, fun j t ht => by
        rw [Tryz.params4] at ht
        have h3 : t = 40 := by
          rcases j with _ | j
          · simpa using ht.symm
          · simp at ht
        subst h3
        exact (show Tryz.prog.wantsStandIn 40 = false by kernel_rfl)⟩)
    (by kernel_rfl)
#print axioms rise_card
end Go.Proofs.YtcbdjmlkjifamaaGreatDoor
