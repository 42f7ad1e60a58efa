/-
  THE ROW OF 'carlinglaw28.DirsNobody' AND ITS TIED CARD, PROVED: for every input the law returns true, and the input reads as it did. Condition: none but the listed tables' ('laid'), which the card ties to the program's text.
-/
import Derived.Test.YtcbdjmlkjifamaaGreatDoorQab
import Derived.Test.YtcbdjmlkjifamaaGreatDoorQbg
import Derived.Test.YtcbdjmlkjifamaaGreatDoorCards
import Derived.Test.YtcbdjmlkjifamaaGreatDoorTie
set_option linter.unusedVariables false
set_option linter.unusedSimpArgs false

namespace Go.Proofs.YtcbdjmlkjifamaaGreatDoor
open Go.ChangeShapes Go.WideShapes Go.ChangeAt Go.RowKit Go.Deep Go.Joins
set_option maxRecDepth 100000

theorem cells_step : Tryz.prog.cellsOf 23 = 5 := by kernel_rfl
theorem nobody_lifted (os : Os) (started : os.Started) (H : Type) (enc : TypeId × Value → H) :
    ReturnsInHanded {} Tryz.checked os 3 .any (fun w args => (Rows.dirsNobodySpec.pre enc Tryz.prog Tryz.f3 [] false w args ∧ laidMetH Tryz.prog seatLaid w) ∧ sizedMet enc Tryz.prog Tryz.f3 (OpenSpec.ofChange Rows.dirsNobodySpec) false w args)
      (Rows.dirsNobodySpec.post enc Tryz.prog Tryz.f3 false true false false) := by
  refine returnsInHanded_of_change_and (C := Tryz.checked) (X := fun w _ => laidMetH Tryz.prog seatLaid w) (fun _ _ _ hh h => h.of_heap hh) own_ started (by kernel_rfl) Tryz.func3
    (ChangeSpec.witness_shaped (enc := enc) (C := Tryz.checked) (os := os) (X := fun w _ => laidMetH Tryz.prog seatLaid w) false (World.laidAll Tryz.prog os seatLaid) #[.agg #[.int .u8 0, .int .i64 0, .string ⟨#[]⟩, .int .i64 0, .int .i64 0]] 8 (World.laidAll_os _ _ _) (World.shaped_of_RefB (by kernel_rfl) (by kernel_rfl)) (by kernel_rfl) (by kernel_rfl) (by kernel_rfl) (seat_met os _)) ?_
  intro W base args ds gs before hval0 hW _ _ _ _
  have hval : ∀ (j : Nat) t v, Tryz.f3.params[j]? = some t → args[j]? = some v → Value.okWide Tryz.prog W .any base t v := hval0
  have hW' := hW
  obtain ⟨p, q, hA0, hV, rfl, _, _⟩ := hW
  have hA : DataW.TrodAll enc Tryz.prog W 0 (fun _ => true) true Tryz.f3.params.toList args.toList ds p := hA0
  rw [Tryz.params3] at hA hval
  obtain ⟨v0, d0, rfl, rfl, h0⟩ := trodAll_one hA
  obtain ⟨rfl, rfl⟩ := trodVars_none hV
  obtain ⟨c0, c1, c2, c3, c4, y0, y1, y2, y3, y4, n, rfl, rfl, rfl, g0, g1, g2, g3, g4⟩ := open_agg5 Tryz.underlying23 (by kernel_rfl) cells_step (hval 0 23 v0 rfl rfl) h0
  obtain ⟨a0, e0, rfl, w0⟩ := DataW.trod_int (k := .u8) (by kernel_rfl) g0
  obtain ⟨a1, e1, rfl, w1⟩ := DataW.trod_int (k := .i64) (by kernel_rfl) g1
  obtain ⟨a2, e2, rfl, w2⟩ := DataW.trod_string (by kernel_rfl) g2
  obtain ⟨a3, e3, rfl, w3⟩ := DataW.trod_int (k := .i64) (by kernel_rfl) g3
  obtain ⟨a4, e4, rfl, w4⟩ := DataW.trod_int (k := .i64) (by kernel_rfl) g4
  simp only [List.cons.injEq, and_true] at e0 e1 e2 e3 e4
  subst e0; subst e1; subst e2; subst e3; subst e4
  obtain ⟨s, rfl⟩ := str_of a2
  clear hA0 hval0 hval hA hV
  refine (law_DirsNobody W a0 a1 a3 a4 s).mono ?_
  rintro e W' ⟨rfl, hk⟩
  refine ⟨_, rfl, _, _, _, [], [], [], hW', ?_, ?_, ?_, hk.below.frame _, fun h => by cases h⟩
  · exact trodAll_mk1 (shut_bool Tryz.underlying4 _)
  · exact trodAll_mk1 (shut_agg5 (y0 := (.lit (.int .u8 a0), [])) (y1 := (.lit (.int .i64 a1), [])) (y2 := (.lit (.string (str s).data.toList), [])) (y3 := (.lit (.int .i64 a3), [])) (y4 := (.lit (.int .i64 a4), [])) Tryz.underlying23 (by kernel_rfl) cells_step 1
      (trod_int_mk 0 (by kernel_rfl) w0) (trod_int_mk 0 (by kernel_rfl) w1) (trod_str_mk 0 (by kernel_rfl) w2) (trod_int_mk 0 (by kernel_rfl) w3) (trod_int_mk 0 (by kernel_rfl) w4))
  · rfl

theorem nobody_holds : Rows.DirsNobodySaid :=
  OpenClaim.holds_of_wide 3 Tryz.f3 rfl rfl rfl rfl rfl rfl rfl ⟨rfl, rfl, rfl, rfl, rfl⟩ rfl rfl rfl rfl rfl (by kernel_rfl) Tryz.func3 (by kernel_rfl)
    (of_decide_eq_true (by kernel_rfl)) (by unfold Func.isWrapper; rw [if_neg (of_decide_eq_false (by kernel_rfl))]; exact ⟨rfl, rfl⟩)
    (fun os started H enc _ => nobody_lifted os started H enc)

/-- THE TIED CARD. -/
theorem nobody_card : Rows.DirsNobodyCardSaid :=
  Claim7.holds_tied_plain_at .later [] [.data, .pinned] true (true, "4800646fe59c22894dd5a038c0780827b29f49cd9fade8b15cc6306a17a9b971") false
    nobody_holds (fun _ h => by cases h) (by kernel_rfl) (fun _ h => by cases h) dirsNobody_row_tie rfl ⟨rfl, rfl⟩ (by kernel_rfl) rfl
    (fun f fn hf hfn => by
      obtain rfl : f = 3 := Option.some.inj ((show Tryz.prog.funcNamed "carling/carlinglaw28.DirsNobody" = some 3 by kernel_rfl).symm.trans hf) |>.symm
      obtain rfl : fn = Tryz.f3 := (Option.some.inj (Tryz.func3.symm.trans hfn)).symm
      exact ⟨by kernel_rfl, fun j t ht => by
        rw [Tryz.params3] at ht
        have h3 : t = 23 := by
          rcases j with _ | j
          · simpa using ht.symm
          · simp at ht
        subst h3
        exact (show Tryz.prog.wantsStandIn 23 = false by kernel_rfl)⟩)
    (by kernel_rfl)
#print axioms nobody_card
end Go.Proofs.YtcbdjmlkjifamaaGreatDoor
