/-
  dirent.Lay. Conditions: the entries may be.
-/
import Derived.Test.YtcbdjmlkjifamaaGreatDoorQam
import Derived.Test.YtcbdjmlkjifamaaGreatDoorQay
import Derived.Deep.RegionLaw
set_option linter.unusedVariables false
set_option linter.unusedSimpArgs false

namespace Go.Proofs.YtcbdjmlkjifamaaGreatDoor
open Go.RowKit
set_option maxRecDepth 100000

theorem run_conv_bytes_D (w : World) (bs : List UInt8) (hl : bs.length ≤ 100000) (D : List Nat) (hD : Old D w) : ∃ A c w', (convert 9 56 (.string (str bs))).run Tryz.prog w = .ok (.slice A bs.length c) w' ∧ Bytes w' D A c bs ∧ Kept [] w w' := by
  have hd : Tryz.prog.underlying 56 = some (.slice 5) := Tryz.underlying56
  have he : Tryz.prog.underlying 5 = some (.int .u8) := Tryz.underlying5
  have hs : Tryz.prog.underlying 9 = some .string := Tryz.underlying9
  have hr := Lib.run_convert_string_bytes (P := Tryz.prog) w 9 56 5 (str bs) hs hd he
  rw [str_size] at hr
  have hge := grownCap_ge w bs.length 0 5
  have hcm : grownCap w bs.length 0 5 ≤ maxLen := grownCap_le_maxLen w bs.length 0 5 (by simp only [maxLen]; omega)
  refine ⟨_, _, _, hr, ⟨by simp, by omega, hge, by simpa [maxLen] using hcm, fun _ => ⟨_, rfl, hD.new (Nat.le_refl _), ⟨_, _, Lib.bytesWorld_at_new w 5 (str bs)⟩, fun j u hu => ?_⟩⟩, ⟨rfl, rfl, rfl, by rw [Lib.bytesWorld_size]; omega, fun k hk _ => Lib.bytesWorld_at_old w _ _ k hk⟩⟩
  have hj : j < bs.length := by
    have := (List.getElem?_eq_some_iff.1 hu).1
    simpa using this
  rw [add_lit0, Lib.bytesWorld_cell w _ _ j (by rw [str_size]; exact hj)]
  rw [List.getElem?_map, List.getElem?_eq_getElem hj] at hu
  injection hu with hu
  rw [← hu]
  simp [str, List.getD_eq_getElem?_getD, List.getElem?_eq_getElem hj]
theorem step_conv_bytes {ops : Array Oper} {o : Oper} {a : Act} {w : World} {K : Act → World → Prop} {Q : Exit → Act → World → Prop} {E : Prop} (hgd : o.guard = none) (x : Operand) (ho : o.op = .convert 9 56 x)
    (bs : List UInt8) (hl : bs.length ≤ 100000) (hx : a.eval x = .string (str bs)) (D : List Nat) (hD : Old D w) (h : ∀ A c w', Bytes w' D A c bs → Kept [] w w' → K (a.put o.dst (.slice A bs.length c)) w') :
    if Region.wanted o (yielded ops a.tmps) = true then Oper.wp Tryz.prog o a w K Q else E := by
  have hw : Region.wanted o (yielded ops a.tmps) = true := by simp [Region.wanted, hgd]
  rw [if_pos hw]
  obtain ⟨A, c, w', hr, hb, hk⟩ := run_conv_bytes_D w bs hl D hD
  have h2 := h A c w' hb hk
  unfold Oper.wp
  simp only [execOp, ho, hx, Sem.run_bind, hr, Result.andThen, Sem.run_pure]
  exact h2
/-- What the own block of a slice is to who avoids it. -/
theorem own_old {w : World} {base : Nat} {e : TypeId} {size n : Nat} {v : Value} {xs : List Value} (h : w.ownsRow base e size v n xs) : Old v.ownBlock.toList w := fun d hd => by
  rw [Option.mem_toList] at hd
  exact (h.lt d hd).2
theorem keep_grown {w w' : World} {D : List Nat} {A : Option Addr} {c : Nat} {bs : List UInt8} {v : Value} (h : Bytes w D A c bs) (hD : D = v.ownBlock.toList) (hg : w.grownBy w' v.ownBlock) : Bytes w' D A c bs := by
  subst hD
  exact h.keep (Kept.of_grown hg _ (fun k hk => by rw [Option.mem_toList]; exact hk))

/-- What the loop of Lay knows. -/
def LayRel (w : World) (l : List Ent) (v a : Value) (wr : World) : Prop := ∃ k : Nat, k ≤ l.length ∧ a = .int .i64 k ∧ wr.ownsRow w.heap.size 5 1 v (26 * k) ((entsB (l.take k)).map b8) ∧ Kept [] w wr

set_option maxHeartbeats 4000000 in
theorem dirent_Lay (D : List Nat) (A : Option Addr) (c n : Nat) (l : List Ent) (w : World) (h : Ents w D A c l) (hn : l.length = n) (hl : EntsOk l) (hs : n ≤ 2000) :
    Calls Tryz.prog 47 #[.slice A n c] w fun r w' => ∃ v, r = .returned (.tuple #[v, .int .i64 0]) ∧ w'.ownsRow w.heap.size 5 1 v (26 * n) ((entsB l).map b8) ∧ Kept [] w w' := by
  subst hn
  have hsm := h.small
  obtain ⟨i0, hi, hz0, hz1, hz2⟩ := info_parts u8_info
  have CM := Lib.hid (dirent_May D A c l.length l w h rfl hl)
  have H := Lib.hid h
  have HL := Lib.hid hl
  clear h hl
  go_enter Tryz.func47, Tryz.ntmps47
  go_wp2_with (go_at_call 44; refine Stop.here ?_)
  refine Stop.go ?_
  refine CM.out.mono ?_
  rintro r w1 ⟨rfl, hk1⟩
  have HK1 := Lib.hid hk1
  have H1 := Lib.hid (H.out.keep0 hk1)
  clear hk1
  go_wp2_with fail
  go_loopw [4, 12] (fun v a wr => LayRel w l v a wr) (fun _ a _ => l.length - (intOf a).toNat)
  case atStart => exact ⟨0, Nat.zero_le _, rfl, by simpa [entsB] using World.ownsRow_nil _ _ _ _, HK1.out⟩
  case round =>
    obtain ⟨k, hk, rfl, ho, hkr⟩ := hrel
    obtain ⟨A1, c1, rfl⟩ := own_form ho
    have HOR := Lib.hid ho
    have HKR := Lib.hid hkr
    clear ho hkr
    by_cases hlt : k < l.length
    · obtain ⟨ad, rfl, hc0, hc1⟩ := (H.out.keep0 HKR.out).get hlt
      have hok := HL.out.ok _ (List.getElem_mem hlt)
      obtain ⟨e, he⟩ : ∃ e, e = l[k] := ⟨_, rfl⟩
      rw [← he] at hc0 hc1 hok
      obtain ⟨_, hok2, _, hok4⟩ := hok
      obtain ⟨nm, hnm⟩ : ∃ nm, nm = e.name := ⟨_, rfl⟩
      obtain ⟨nd, hnd⟩ : ∃ nd, nd = e.node := ⟨_, rfl⟩
      rw [← hnm] at hc0 hok2
      rw [← hnd] at hc1 hok4
      have hnl : nm.length ≤ 100000 := by omega
      have hel := entsB_length (l.take k) (fun x hx => HL.out.ok x (List.mem_of_mem_take hx))
      rw [List.length_take, Nat.min_eq_left (by omega)] at hel
      have henb : entsB (l.take (k + 1)) = (entsB (l.take k) ++ [UInt8.ofNat nd]) ++ packText nm 24 := by
        rw [List.take_succ_eq_append_getElem hlt, entsB, List.flatMap_append, ← he, hnm, hnd]
        simp [entsB, entB]
      have HENB := Lib.hid henb
      have HEL := Lib.hid hel
      clear he hnm hnd hel henb
      go_wp2_with fail
      refine wp_region_any (by kernel_rfl) ?_
      change wpAny _ _ _ _ _ _ _ (World.drew _)
      obtain ⟨W0, hW0⟩ : ∃ W0, W0 = wr.alloc (.cells #[.string (str nm), .int .i64 nd] 50) := ⟨_, rfl⟩
      have hkW : Kept [] wr W0 := by rw [hW0]; exact (Kept.refl _ _).alloc _
      have hbW : Blk W0 wr.heap.size 50 #[.string (str nm), .int .i64 nd] := by rw [hW0]; exact Blk.new _ _ _
      rw [← hW0]
      clear hW0
      obtain ⟨pb, hpb⟩ : ∃ pb, pb = wr.heap.size := ⟨_, rfl⟩
      rw [← hpb] at hbW ⊢
      have HB := Lib.hid hbW.drew
      have HO := Lib.hid (own_keep0 HOR.out hkW.drew)
      have HK := Lib.hid (HKR.out.trans hkW.drew)
      have hw8 : IntKind.u8.wrap (nd : Int) = nd := by rw [IntKind.wrap_u8]; omega
      clear hkW hbW hpb hc0 hc1
      -- ORDERS
      refine wpAny_take (i := 0) (v := .slice A1 (26 * k) c1) rfl (by kernel_rfl) (by kernel_rfl) (by kernel_rfl) (fun _ _ _ h => h) (Or.inl ⟨by rfl, ?_⟩) ?_
      · intro w
        go_simp
      refine wpAny_take (i := 1) (v := .pointer (some ⟨pb, 1, none⟩)) rfl (by kernel_rfl) (by kernel_rfl) (by kernel_rfl) (fun _ _ _ h => h) (Or.inl ⟨by rfl, ?_⟩) ?_
      · intro w
        go_simp
      refine wpAny_take (i := 6) (v := .pointer (some ⟨pb, 0, none⟩)) rfl (by kernel_rfl) (by kernel_rfl) (by kernel_rfl) (fun _ _ _ h => h) (Or.inl ⟨by rfl, ?_⟩) ?_
      · intro w
        go_simp
      refine wpAny_ready (rs := [2, 7]) (by kernel_rfl) (by simp) ?_
      refine (AllReady.cons rfl (fun K hK => ?_) (AllReady.cons rfl (fun K hK => ?_) AllReady.nil))
      · skip
        have hcn := (HB.out.cell 1)
        simp only [show (#[Value.string (str nm), Value.int .i64 nd] : Array Value)[1]? = some (.int .i64 nd) from rfl] at hcn
        go_simp
        refine hK _ _ ?_
        clear hK K hcn
        refine wpAny_take (i := 3) (v := .int .u8 nd) rfl (by kernel_rfl) (by kernel_rfl) (by kernel_rfl) (fun _ _ _ h => h) (Or.inl ⟨by rfl, ?_⟩) ?_
        · intro w
          go_simp
        refine wpAny_ready (rs := [4, 7]) (by kernel_rfl) (by simp) ?_
        refine (AllReady.cons rfl (fun K hK => ?_) (AllReady.cons rfl (fun K hK => ?_) AllReady.nil))
        · skip
          go_simp
          refine hK _ _ ?_
          clear hK K
          have HBb := Lib.hid (show Blk (W0.alloc (.cells #[.int .u8 nd] 5)).drew pb 50 #[.string (str nm), .int .i64 nd] from HB.out.alloc (.cells #[.int .u8 nd] 5))
          have HOb := Lib.hid (show ((W0.alloc (.cells #[.int .u8 nd] 5)).drew).ownsRow w.heap.size 5 1 (.slice A1 (26 * k) c1) (26 * k) ((entsB (l.take k)).map b8) from HO.out.alloc (.cells #[.int .u8 nd] 5))
          have HKb := Lib.hid (show Kept [] w (W0.alloc (.cells #[.int .u8 nd] 5)).drew from HK.out.alloc (.cells #[.int .u8 nd] 5))
          have HSb := Lib.hid (show Sl (W0.alloc (.cells #[.int .u8 nd] 5)).drew [] 5 1 (some ⟨W0.heap.size, 0, none⟩) 1 1 [.int .u8 nd] from Sl.new (w := W0.drew) rfl (by simp) rfl (by omega))
          refine wpAny_ready (rs := [5, 7]) (by kernel_rfl) (by simp) ?_
          refine (AllReady.cons rfl (fun K hK => ?_) (AllReady.cons rfl (fun K hK => ?_) AllReady.nil))
          · skip
            refine step_append_any _ rfl (.tmp 17) (.tmp 21) _ rfl w.heap.size 5 i0 _ 1 1 Tryz.underlying56 hi hz0 hz1 hz2 rfl (by omega) (.slice A1 (26 * k) c1) (26 * k) _ (by simp [Act.eval, Act.put]) HOb.out [] 5 (some ⟨W0.heap.size, 0, none⟩) 1 1 [.int .u8 nd] (by simp [Act.eval, Act.put]) HSb.out (by simp [Value.oneCell']) (by simp only [maxLen]; omega) (by omega) HKb.out.size ?_
            intro v5 w5 ho5 hg5 _
            obtain ⟨A5, c5, rfl⟩ := own_form ho5
            refine hK _ _ ?_
            clear hK K
            have HBbc := Lib.hid (HBb.out.grown hg5 (own_ne HOb.out HBb.out (by decide)))
            have HObc := Lib.hid ho5
            have HKbc := Lib.hid (HKb.out.grown hg5 (fun j hj => .inl (HOb.out.lt j hj).1))
            clear ho5 hg5
            refine wpAny_ready (rs := [7]) (by kernel_rfl) (by simp) ?_
            refine (AllReady.cons rfl (fun K hK => ?_) AllReady.nil)
            have hcn := (HBbc.out.cell 0)
            simp only [show (#[Value.string (str nm), Value.int .i64 nd] : Array Value)[0]? = some (.string (str nm)) from rfl] at hcn
            go_simp
            refine hK _ _ ?_
            clear hK K hcn
            refine wpAny_ready (rs := [8]) (by kernel_rfl) (by simp) ?_
            refine (AllReady.cons rfl (fun K hK => ?_) AllReady.nil)
            refine step_conv_bytes rfl (.tmp 24) rfl nm hnl (by simp [Act.eval, Act.put]) (Value.slice A5 (26 * k + 1) c5).ownBlock.toList (own_old HObc.out) ?_
            intro A8 c8 w8 hn8 hk8
            refine hK _ _ ?_
            clear hK K
            have HBbce := Lib.hid (HBbc.out.keep0 hk8)
            have HObce := Lib.hid (own_keep0 HObc.out hk8)
            have HKbce := Lib.hid (HKbc.out.trans hk8)
            have HNbce := Lib.hid hn8
            clear hn8 hk8
            refine wpAny_ready (rs := [9]) (by kernel_rfl) (by simp) ?_
            refine (AllReady.cons rfl (fun K hK => ?_) AllReady.nil)
            have ho := HObce.out
            have eL : (entsB (l.take k)).map b8 ++ [Value.int .u8 nd] = (entsB (l.take k) ++ [UInt8.ofNat nd]).map b8 := by rw [List.map_append, List.map_cons, List.map_nil, b8_ofNat (by omega)]
            rw [eL] at ho
            have hlb : (entsB (l.take k) ++ [UInt8.ofNat nd]).length = 26 * k + 1 := by rw [List.length_append, HEL.out]; rfl
            have hbb := Bytes.of_own (D := []) ho hlb (by simp) (by omega)
            have hT := pack_Text [] _ _ _ _ _ nm 24 _ hbb (HNbce.out.less (fun d hd => by cases hd)) (by omega) (by omega) hok2 (by rw [hlb]; omega)
            rw [hlb, show ((24 : Nat) : Int) = 24 from rfl, ← HENB.out] at hT
            have HT := Lib.hid hT
            clear hT hbb hlb eL ho
            go_simp
            refine Calls.mono HT.out ?_
            rintro r w9 ⟨v9, rfl, ho9, hk9⟩
            obtain ⟨A9, c9, rfl⟩ := own_form ho9
            refine hK _ _ ?_
            clear hK K
            have HK9 := Lib.hid (HKbce.out.trans hk9)
            have HO9 := Lib.hid (ho9.mono (base' := w.heap.size) HKbce.out.size)
            clear ho9 hk9
            refine wpAny_take (i := 10) (v := .tuple #[.slice A9 (26 * k + 1 + 1 + 24) c9, .int .i64 0]) rfl (by kernel_rfl) (by kernel_rfl) (by kernel_rfl) (fun _ _ _ h => h) (Or.inl ⟨by rfl, ?_⟩) ?_
            · intro w
              go_simp
            refine wpAny_take (i := 11) (v := .slice A9 (26 * k + 1 + 1 + 24) c9) rfl (by kernel_rfl) (by kernel_rfl) (by kernel_rfl) (fun _ _ _ h => h) (Or.inl ⟨by rfl, ?_⟩) ?_
            · intro w
              go_simp
            refine wpAny_take (i := 12) (v := .int .i64 0) rfl (by kernel_rfl) (by kernel_rfl) (by kernel_rfl) (fun _ _ _ h => h) (Or.inl ⟨by rfl, ?_⟩) ?_
            · intro w
              go_simp
            refine wpAny_ready (rs := [13]) (by kernel_rfl) (by simp) ?_
            refine (AllReady.cons rfl (fun K hK => ?_) AllReady.nil)
            go_simp
            refine hK _ _ ?_
            clear hK K
            refine wpAny_done (by kernel_rfl) ?_ _
            go_wp2_with fail
            go_roundw
            case rel => exact ⟨k + 1, by omega, by go_num, by rw [show 26 * (k + 1) = 26 * k + 1 + 1 + 24 from by omega]; exact HO9.out, HK9.out⟩
            case measure => simp [intOf]; omega
          · skip
            have hcn := (HBb.out.cell 0)
            simp only [show (#[Value.string (str nm), Value.int .i64 nd] : Array Value)[0]? = some (.string (str nm)) from rfl] at hcn
            go_simp
            refine hK _ _ ?_
            clear hK K hcn
            refine wpAny_ready (rs := [5, 8]) (by kernel_rfl) (by simp) ?_
            refine (AllReady.cons rfl (fun K hK => ?_) (AllReady.cons rfl (fun K hK => ?_) AllReady.nil))
            · skip
              refine step_append_any _ rfl (.tmp 17) (.tmp 21) _ rfl w.heap.size 5 i0 _ 1 1 Tryz.underlying56 hi hz0 hz1 hz2 rfl (by omega) (.slice A1 (26 * k) c1) (26 * k) _ (by simp [Act.eval, Act.put]) HOb.out [] 5 (some ⟨W0.heap.size, 0, none⟩) 1 1 [.int .u8 nd] (by simp [Act.eval, Act.put]) HSb.out (by simp [Value.oneCell']) (by simp only [maxLen]; omega) (by omega) HKb.out.size ?_
              intro v5 w5 ho5 hg5 _
              obtain ⟨A5, c5, rfl⟩ := own_form ho5
              refine hK _ _ ?_
              clear hK K
              have HBbc := Lib.hid (HBb.out.grown hg5 (own_ne HOb.out HBb.out (by decide)))
              have HObc := Lib.hid ho5
              have HKbc := Lib.hid (HKb.out.grown hg5 (fun j hj => .inl (HOb.out.lt j hj).1))
              clear ho5 hg5
              refine wpAny_ready (rs := [8]) (by kernel_rfl) (by simp) ?_
              refine (AllReady.cons rfl (fun K hK => ?_) AllReady.nil)
              refine step_conv_bytes rfl (.tmp 24) rfl nm hnl (by simp [Act.eval, Act.put]) (Value.slice A5 (26 * k + 1) c5).ownBlock.toList (own_old HObc.out) ?_
              intro A8 c8 w8 hn8 hk8
              refine hK _ _ ?_
              clear hK K
              have HBbce := Lib.hid (HBbc.out.keep0 hk8)
              have HObce := Lib.hid (own_keep0 HObc.out hk8)
              have HKbce := Lib.hid (HKbc.out.trans hk8)
              have HNbce := Lib.hid hn8
              clear hn8 hk8
              refine wpAny_ready (rs := [9]) (by kernel_rfl) (by simp) ?_
              refine (AllReady.cons rfl (fun K hK => ?_) AllReady.nil)
              have ho := HObce.out
              have eL : (entsB (l.take k)).map b8 ++ [Value.int .u8 nd] = (entsB (l.take k) ++ [UInt8.ofNat nd]).map b8 := by rw [List.map_append, List.map_cons, List.map_nil, b8_ofNat (by omega)]
              rw [eL] at ho
              have hlb : (entsB (l.take k) ++ [UInt8.ofNat nd]).length = 26 * k + 1 := by rw [List.length_append, HEL.out]; rfl
              have hbb := Bytes.of_own (D := []) ho hlb (by simp) (by omega)
              have hT := pack_Text [] _ _ _ _ _ nm 24 _ hbb (HNbce.out.less (fun d hd => by cases hd)) (by omega) (by omega) hok2 (by rw [hlb]; omega)
              rw [hlb, show ((24 : Nat) : Int) = 24 from rfl, ← HENB.out] at hT
              have HT := Lib.hid hT
              clear hT hbb hlb eL ho
              go_simp
              refine Calls.mono HT.out ?_
              rintro r w9 ⟨v9, rfl, ho9, hk9⟩
              obtain ⟨A9, c9, rfl⟩ := own_form ho9
              refine hK _ _ ?_
              clear hK K
              have HK9 := Lib.hid (HKbce.out.trans hk9)
              have HO9 := Lib.hid (ho9.mono (base' := w.heap.size) HKbce.out.size)
              clear ho9 hk9
              refine wpAny_take (i := 10) (v := .tuple #[.slice A9 (26 * k + 1 + 1 + 24) c9, .int .i64 0]) rfl (by kernel_rfl) (by kernel_rfl) (by kernel_rfl) (fun _ _ _ h => h) (Or.inl ⟨by rfl, ?_⟩) ?_
              · intro w
                go_simp
              refine wpAny_take (i := 11) (v := .slice A9 (26 * k + 1 + 1 + 24) c9) rfl (by kernel_rfl) (by kernel_rfl) (by kernel_rfl) (fun _ _ _ h => h) (Or.inl ⟨by rfl, ?_⟩) ?_
              · intro w
                go_simp
              refine wpAny_take (i := 12) (v := .int .i64 0) rfl (by kernel_rfl) (by kernel_rfl) (by kernel_rfl) (fun _ _ _ h => h) (Or.inl ⟨by rfl, ?_⟩) ?_
              · intro w
                go_simp
              refine wpAny_ready (rs := [13]) (by kernel_rfl) (by simp) ?_
              refine (AllReady.cons rfl (fun K hK => ?_) AllReady.nil)
              go_simp
              refine hK _ _ ?_
              clear hK K
              refine wpAny_done (by kernel_rfl) ?_ _
              go_wp2_with fail
              go_roundw
              case rel => exact ⟨k + 1, by omega, by go_num, by rw [show 26 * (k + 1) = 26 * k + 1 + 1 + 24 from by omega]; exact HO9.out, HK9.out⟩
              case measure => simp [intOf]; omega
            · skip
              refine step_conv_bytes rfl (.tmp 24) rfl nm hnl (by simp [Act.eval, Act.put]) (Value.slice A1 (26 * k) c1).ownBlock.toList (own_old HOb.out) ?_
              intro A8 c8 w8 hn8 hk8
              refine hK _ _ ?_
              clear hK K
              have HBbe := Lib.hid (HBb.out.keep0 hk8)
              have HObe := Lib.hid (own_keep0 HOb.out hk8)
              have HKbe := Lib.hid (HKb.out.trans hk8)
              have HNbe := Lib.hid hn8
              have HSbe := Lib.hid (HSb.out.keep0 hk8)
              clear hn8 hk8
              refine wpAny_ready (rs := [5]) (by kernel_rfl) (by simp) ?_
              refine (AllReady.cons rfl (fun K hK => ?_) AllReady.nil)
              refine step_append_any _ rfl (.tmp 17) (.tmp 21) _ rfl w.heap.size 5 i0 _ 1 1 Tryz.underlying56 hi hz0 hz1 hz2 rfl (by omega) (.slice A1 (26 * k) c1) (26 * k) _ (by simp [Act.eval, Act.put]) HObe.out [] 5 (some ⟨W0.heap.size, 0, none⟩) 1 1 [.int .u8 nd] (by simp [Act.eval, Act.put]) HSbe.out (by simp [Value.oneCell']) (by simp only [maxLen]; omega) (by omega) HKbe.out.size ?_
              intro v5 w5 ho5 hg5 _
              obtain ⟨A5, c5, rfl⟩ := own_form ho5
              refine hK _ _ ?_
              clear hK K
              have HBbec := Lib.hid (HBbe.out.grown hg5 (own_ne HObe.out HBbe.out (by decide)))
              have HObec := Lib.hid ho5
              have HKbec := Lib.hid (HKbe.out.grown hg5 (fun j hj => .inl (HObe.out.lt j hj).1))
              have HNbec := Lib.hid (keep_grown HNbe.out rfl hg5)
              clear ho5 hg5
              refine wpAny_ready (rs := [9]) (by kernel_rfl) (by simp) ?_
              refine (AllReady.cons rfl (fun K hK => ?_) AllReady.nil)
              have ho := HObec.out
              have eL : (entsB (l.take k)).map b8 ++ [Value.int .u8 nd] = (entsB (l.take k) ++ [UInt8.ofNat nd]).map b8 := by rw [List.map_append, List.map_cons, List.map_nil, b8_ofNat (by omega)]
              rw [eL] at ho
              have hlb : (entsB (l.take k) ++ [UInt8.ofNat nd]).length = 26 * k + 1 := by rw [List.length_append, HEL.out]; rfl
              have hbb := Bytes.of_own (D := []) ho hlb (by simp) (by omega)
              have hT := pack_Text [] _ _ _ _ _ nm 24 _ hbb (HNbec.out.less (fun d hd => by cases hd)) (by omega) (by omega) hok2 (by rw [hlb]; omega)
              rw [hlb, show ((24 : Nat) : Int) = 24 from rfl, ← HENB.out] at hT
              have HT := Lib.hid hT
              clear hT hbb hlb eL ho
              go_simp
              refine Calls.mono HT.out ?_
              rintro r w9 ⟨v9, rfl, ho9, hk9⟩
              obtain ⟨A9, c9, rfl⟩ := own_form ho9
              refine hK _ _ ?_
              clear hK K
              have HK9 := Lib.hid (HKbec.out.trans hk9)
              have HO9 := Lib.hid (ho9.mono (base' := w.heap.size) HKbec.out.size)
              clear ho9 hk9
              refine wpAny_take (i := 10) (v := .tuple #[.slice A9 (26 * k + 1 + 1 + 24) c9, .int .i64 0]) rfl (by kernel_rfl) (by kernel_rfl) (by kernel_rfl) (fun _ _ _ h => h) (Or.inl ⟨by rfl, ?_⟩) ?_
              · intro w
                go_simp
              refine wpAny_take (i := 11) (v := .slice A9 (26 * k + 1 + 1 + 24) c9) rfl (by kernel_rfl) (by kernel_rfl) (by kernel_rfl) (fun _ _ _ h => h) (Or.inl ⟨by rfl, ?_⟩) ?_
              · intro w
                go_simp
              refine wpAny_take (i := 12) (v := .int .i64 0) rfl (by kernel_rfl) (by kernel_rfl) (by kernel_rfl) (fun _ _ _ h => h) (Or.inl ⟨by rfl, ?_⟩) ?_
              · intro w
                go_simp
              refine wpAny_ready (rs := [13]) (by kernel_rfl) (by simp) ?_
              refine (AllReady.cons rfl (fun K hK => ?_) AllReady.nil)
              go_simp
              refine hK _ _ ?_
              clear hK K
              refine wpAny_done (by kernel_rfl) ?_ _
              go_wp2_with fail
              go_roundw
              case rel => exact ⟨k + 1, by omega, by go_num, by rw [show 26 * (k + 1) = 26 * k + 1 + 1 + 24 from by omega]; exact HO9.out, HK9.out⟩
              case measure => simp [intOf]; omega
        · skip
          have hcn := (HB.out.cell 0)
          simp only [show (#[Value.string (str nm), Value.int .i64 nd] : Array Value)[0]? = some (.string (str nm)) from rfl] at hcn
          go_simp
          refine hK _ _ ?_
          clear hK K hcn
          refine wpAny_ready (rs := [4, 8]) (by kernel_rfl) (by simp) ?_
          refine (AllReady.cons rfl (fun K hK => ?_) (AllReady.cons rfl (fun K hK => ?_) AllReady.nil))
          · skip
            go_simp
            refine hK _ _ ?_
            clear hK K
            have HBb := Lib.hid (show Blk (W0.alloc (.cells #[.int .u8 nd] 5)).drew pb 50 #[.string (str nm), .int .i64 nd] from HB.out.alloc (.cells #[.int .u8 nd] 5))
            have HOb := Lib.hid (show ((W0.alloc (.cells #[.int .u8 nd] 5)).drew).ownsRow w.heap.size 5 1 (.slice A1 (26 * k) c1) (26 * k) ((entsB (l.take k)).map b8) from HO.out.alloc (.cells #[.int .u8 nd] 5))
            have HKb := Lib.hid (show Kept [] w (W0.alloc (.cells #[.int .u8 nd] 5)).drew from HK.out.alloc (.cells #[.int .u8 nd] 5))
            have HSb := Lib.hid (show Sl (W0.alloc (.cells #[.int .u8 nd] 5)).drew [] 5 1 (some ⟨W0.heap.size, 0, none⟩) 1 1 [.int .u8 nd] from Sl.new (w := W0.drew) rfl (by simp) rfl (by omega))
            refine wpAny_ready (rs := [5, 8]) (by kernel_rfl) (by simp) ?_
            refine (AllReady.cons rfl (fun K hK => ?_) (AllReady.cons rfl (fun K hK => ?_) AllReady.nil))
            · skip
              refine step_append_any _ rfl (.tmp 17) (.tmp 21) _ rfl w.heap.size 5 i0 _ 1 1 Tryz.underlying56 hi hz0 hz1 hz2 rfl (by omega) (.slice A1 (26 * k) c1) (26 * k) _ (by simp [Act.eval, Act.put]) HOb.out [] 5 (some ⟨W0.heap.size, 0, none⟩) 1 1 [.int .u8 nd] (by simp [Act.eval, Act.put]) HSb.out (by simp [Value.oneCell']) (by simp only [maxLen]; omega) (by omega) HKb.out.size ?_
              intro v5 w5 ho5 hg5 _
              obtain ⟨A5, c5, rfl⟩ := own_form ho5
              refine hK _ _ ?_
              clear hK K
              have HBbc := Lib.hid (HBb.out.grown hg5 (own_ne HOb.out HBb.out (by decide)))
              have HObc := Lib.hid ho5
              have HKbc := Lib.hid (HKb.out.grown hg5 (fun j hj => .inl (HOb.out.lt j hj).1))
              clear ho5 hg5
              refine wpAny_ready (rs := [8]) (by kernel_rfl) (by simp) ?_
              refine (AllReady.cons rfl (fun K hK => ?_) AllReady.nil)
              refine step_conv_bytes rfl (.tmp 24) rfl nm hnl (by simp [Act.eval, Act.put]) (Value.slice A5 (26 * k + 1) c5).ownBlock.toList (own_old HObc.out) ?_
              intro A8 c8 w8 hn8 hk8
              refine hK _ _ ?_
              clear hK K
              have HBbce := Lib.hid (HBbc.out.keep0 hk8)
              have HObce := Lib.hid (own_keep0 HObc.out hk8)
              have HKbce := Lib.hid (HKbc.out.trans hk8)
              have HNbce := Lib.hid hn8
              clear hn8 hk8
              refine wpAny_ready (rs := [9]) (by kernel_rfl) (by simp) ?_
              refine (AllReady.cons rfl (fun K hK => ?_) AllReady.nil)
              have ho := HObce.out
              have eL : (entsB (l.take k)).map b8 ++ [Value.int .u8 nd] = (entsB (l.take k) ++ [UInt8.ofNat nd]).map b8 := by rw [List.map_append, List.map_cons, List.map_nil, b8_ofNat (by omega)]
              rw [eL] at ho
              have hlb : (entsB (l.take k) ++ [UInt8.ofNat nd]).length = 26 * k + 1 := by rw [List.length_append, HEL.out]; rfl
              have hbb := Bytes.of_own (D := []) ho hlb (by simp) (by omega)
              have hT := pack_Text [] _ _ _ _ _ nm 24 _ hbb (HNbce.out.less (fun d hd => by cases hd)) (by omega) (by omega) hok2 (by rw [hlb]; omega)
              rw [hlb, show ((24 : Nat) : Int) = 24 from rfl, ← HENB.out] at hT
              have HT := Lib.hid hT
              clear hT hbb hlb eL ho
              go_simp
              refine Calls.mono HT.out ?_
              rintro r w9 ⟨v9, rfl, ho9, hk9⟩
              obtain ⟨A9, c9, rfl⟩ := own_form ho9
              refine hK _ _ ?_
              clear hK K
              have HK9 := Lib.hid (HKbce.out.trans hk9)
              have HO9 := Lib.hid (ho9.mono (base' := w.heap.size) HKbce.out.size)
              clear ho9 hk9
              refine wpAny_take (i := 10) (v := .tuple #[.slice A9 (26 * k + 1 + 1 + 24) c9, .int .i64 0]) rfl (by kernel_rfl) (by kernel_rfl) (by kernel_rfl) (fun _ _ _ h => h) (Or.inl ⟨by rfl, ?_⟩) ?_
              · intro w
                go_simp
              refine wpAny_take (i := 11) (v := .slice A9 (26 * k + 1 + 1 + 24) c9) rfl (by kernel_rfl) (by kernel_rfl) (by kernel_rfl) (fun _ _ _ h => h) (Or.inl ⟨by rfl, ?_⟩) ?_
              · intro w
                go_simp
              refine wpAny_take (i := 12) (v := .int .i64 0) rfl (by kernel_rfl) (by kernel_rfl) (by kernel_rfl) (fun _ _ _ h => h) (Or.inl ⟨by rfl, ?_⟩) ?_
              · intro w
                go_simp
              refine wpAny_ready (rs := [13]) (by kernel_rfl) (by simp) ?_
              refine (AllReady.cons rfl (fun K hK => ?_) AllReady.nil)
              go_simp
              refine hK _ _ ?_
              clear hK K
              refine wpAny_done (by kernel_rfl) ?_ _
              go_wp2_with fail
              go_roundw
              case rel => exact ⟨k + 1, by omega, by go_num, by rw [show 26 * (k + 1) = 26 * k + 1 + 1 + 24 from by omega]; exact HO9.out, HK9.out⟩
              case measure => simp [intOf]; omega
            · skip
              refine step_conv_bytes rfl (.tmp 24) rfl nm hnl (by simp [Act.eval, Act.put]) (Value.slice A1 (26 * k) c1).ownBlock.toList (own_old HOb.out) ?_
              intro A8 c8 w8 hn8 hk8
              refine hK _ _ ?_
              clear hK K
              have HBbe := Lib.hid (HBb.out.keep0 hk8)
              have HObe := Lib.hid (own_keep0 HOb.out hk8)
              have HKbe := Lib.hid (HKb.out.trans hk8)
              have HNbe := Lib.hid hn8
              have HSbe := Lib.hid (HSb.out.keep0 hk8)
              clear hn8 hk8
              refine wpAny_ready (rs := [5]) (by kernel_rfl) (by simp) ?_
              refine (AllReady.cons rfl (fun K hK => ?_) AllReady.nil)
              refine step_append_any _ rfl (.tmp 17) (.tmp 21) _ rfl w.heap.size 5 i0 _ 1 1 Tryz.underlying56 hi hz0 hz1 hz2 rfl (by omega) (.slice A1 (26 * k) c1) (26 * k) _ (by simp [Act.eval, Act.put]) HObe.out [] 5 (some ⟨W0.heap.size, 0, none⟩) 1 1 [.int .u8 nd] (by simp [Act.eval, Act.put]) HSbe.out (by simp [Value.oneCell']) (by simp only [maxLen]; omega) (by omega) HKbe.out.size ?_
              intro v5 w5 ho5 hg5 _
              obtain ⟨A5, c5, rfl⟩ := own_form ho5
              refine hK _ _ ?_
              clear hK K
              have HBbec := Lib.hid (HBbe.out.grown hg5 (own_ne HObe.out HBbe.out (by decide)))
              have HObec := Lib.hid ho5
              have HKbec := Lib.hid (HKbe.out.grown hg5 (fun j hj => .inl (HObe.out.lt j hj).1))
              have HNbec := Lib.hid (keep_grown HNbe.out rfl hg5)
              clear ho5 hg5
              refine wpAny_ready (rs := [9]) (by kernel_rfl) (by simp) ?_
              refine (AllReady.cons rfl (fun K hK => ?_) AllReady.nil)
              have ho := HObec.out
              have eL : (entsB (l.take k)).map b8 ++ [Value.int .u8 nd] = (entsB (l.take k) ++ [UInt8.ofNat nd]).map b8 := by rw [List.map_append, List.map_cons, List.map_nil, b8_ofNat (by omega)]
              rw [eL] at ho
              have hlb : (entsB (l.take k) ++ [UInt8.ofNat nd]).length = 26 * k + 1 := by rw [List.length_append, HEL.out]; rfl
              have hbb := Bytes.of_own (D := []) ho hlb (by simp) (by omega)
              have hT := pack_Text [] _ _ _ _ _ nm 24 _ hbb (HNbec.out.less (fun d hd => by cases hd)) (by omega) (by omega) hok2 (by rw [hlb]; omega)
              rw [hlb, show ((24 : Nat) : Int) = 24 from rfl, ← HENB.out] at hT
              have HT := Lib.hid hT
              clear hT hbb hlb eL ho
              go_simp
              refine Calls.mono HT.out ?_
              rintro r w9 ⟨v9, rfl, ho9, hk9⟩
              obtain ⟨A9, c9, rfl⟩ := own_form ho9
              refine hK _ _ ?_
              clear hK K
              have HK9 := Lib.hid (HKbec.out.trans hk9)
              have HO9 := Lib.hid (ho9.mono (base' := w.heap.size) HKbec.out.size)
              clear ho9 hk9
              refine wpAny_take (i := 10) (v := .tuple #[.slice A9 (26 * k + 1 + 1 + 24) c9, .int .i64 0]) rfl (by kernel_rfl) (by kernel_rfl) (by kernel_rfl) (fun _ _ _ h => h) (Or.inl ⟨by rfl, ?_⟩) ?_
              · intro w
                go_simp
              refine wpAny_take (i := 11) (v := .slice A9 (26 * k + 1 + 1 + 24) c9) rfl (by kernel_rfl) (by kernel_rfl) (by kernel_rfl) (fun _ _ _ h => h) (Or.inl ⟨by rfl, ?_⟩) ?_
              · intro w
                go_simp
              refine wpAny_take (i := 12) (v := .int .i64 0) rfl (by kernel_rfl) (by kernel_rfl) (by kernel_rfl) (fun _ _ _ h => h) (Or.inl ⟨by rfl, ?_⟩) ?_
              · intro w
                go_simp
              refine wpAny_ready (rs := [13]) (by kernel_rfl) (by simp) ?_
              refine (AllReady.cons rfl (fun K hK => ?_) AllReady.nil)
              go_simp
              refine hK _ _ ?_
              clear hK K
              refine wpAny_done (by kernel_rfl) ?_ _
              go_wp2_with fail
              go_roundw
              case rel => exact ⟨k + 1, by omega, by go_num, by rw [show 26 * (k + 1) = 26 * k + 1 + 1 + 24 from by omega]; exact HO9.out, HK9.out⟩
              case measure => simp [intOf]; omega
          · skip
            refine step_conv_bytes rfl (.tmp 24) rfl nm hnl (by simp [Act.eval, Act.put]) (Value.slice A1 (26 * k) c1).ownBlock.toList (own_old HO.out) ?_
            intro A8 c8 w8 hn8 hk8
            refine hK _ _ ?_
            clear hK K
            have HBe := Lib.hid (HB.out.keep0 hk8)
            have HOe := Lib.hid (own_keep0 HO.out hk8)
            have HKe := Lib.hid (HK.out.trans hk8)
            have HNe := Lib.hid hn8
            clear hn8 hk8
            refine wpAny_ready (rs := [4]) (by kernel_rfl) (by simp) ?_
            refine (AllReady.cons rfl (fun K hK => ?_) AllReady.nil)
            go_simp
            refine hK _ _ ?_
            clear hK K
            have HBeb := Lib.hid (show Blk (w8.alloc (.cells #[.int .u8 nd] 5)) pb 50 #[.string (str nm), .int .i64 nd] from HBe.out.alloc (.cells #[.int .u8 nd] 5))
            have HOeb := Lib.hid (show ((w8.alloc (.cells #[.int .u8 nd] 5))).ownsRow w.heap.size 5 1 (.slice A1 (26 * k) c1) (26 * k) ((entsB (l.take k)).map b8) from HOe.out.alloc (.cells #[.int .u8 nd] 5))
            have HKeb := Lib.hid (show Kept [] w (w8.alloc (.cells #[.int .u8 nd] 5)) from HKe.out.alloc (.cells #[.int .u8 nd] 5))
            have HSeb := Lib.hid (show Sl (w8.alloc (.cells #[.int .u8 nd] 5)) [] 5 1 (some ⟨w8.heap.size, 0, none⟩) 1 1 [.int .u8 nd] from Sl.new (w := w8) rfl (by simp) rfl (by omega))
            have HNeb := Lib.hid (show Bytes (w8.alloc (.cells #[.int .u8 nd] 5)) (Value.slice A1 (26 * k) c1).ownBlock.toList A8 c8 nm from HNe.out.keep0 ((Kept.refl [] _).alloc (.cells #[.int .u8 nd] 5)))
            refine wpAny_ready (rs := [5]) (by kernel_rfl) (by simp) ?_
            refine (AllReady.cons rfl (fun K hK => ?_) AllReady.nil)
            refine step_append_any _ rfl (.tmp 17) (.tmp 21) _ rfl w.heap.size 5 i0 _ 1 1 Tryz.underlying56 hi hz0 hz1 hz2 rfl (by omega) (.slice A1 (26 * k) c1) (26 * k) _ (by simp [Act.eval, Act.put]) HOeb.out [] 5 (some ⟨w8.heap.size, 0, none⟩) 1 1 [.int .u8 nd] (by simp [Act.eval, Act.put]) HSeb.out (by simp [Value.oneCell']) (by simp only [maxLen]; omega) (by omega) HKeb.out.size ?_
            intro v5 w5 ho5 hg5 _
            obtain ⟨A5, c5, rfl⟩ := own_form ho5
            refine hK _ _ ?_
            clear hK K
            have HBebc := Lib.hid (HBeb.out.grown hg5 (own_ne HOeb.out HBeb.out (by decide)))
            have HOebc := Lib.hid ho5
            have HKebc := Lib.hid (HKeb.out.grown hg5 (fun j hj => .inl (HOeb.out.lt j hj).1))
            have HNebc := Lib.hid (keep_grown HNeb.out rfl hg5)
            clear ho5 hg5
            refine wpAny_ready (rs := [9]) (by kernel_rfl) (by simp) ?_
            refine (AllReady.cons rfl (fun K hK => ?_) AllReady.nil)
            have ho := HOebc.out
            have eL : (entsB (l.take k)).map b8 ++ [Value.int .u8 nd] = (entsB (l.take k) ++ [UInt8.ofNat nd]).map b8 := by rw [List.map_append, List.map_cons, List.map_nil, b8_ofNat (by omega)]
            rw [eL] at ho
            have hlb : (entsB (l.take k) ++ [UInt8.ofNat nd]).length = 26 * k + 1 := by rw [List.length_append, HEL.out]; rfl
            have hbb := Bytes.of_own (D := []) ho hlb (by simp) (by omega)
            have hT := pack_Text [] _ _ _ _ _ nm 24 _ hbb (HNebc.out.less (fun d hd => by cases hd)) (by omega) (by omega) hok2 (by rw [hlb]; omega)
            rw [hlb, show ((24 : Nat) : Int) = 24 from rfl, ← HENB.out] at hT
            have HT := Lib.hid hT
            clear hT hbb hlb eL ho
            go_simp
            refine Calls.mono HT.out ?_
            rintro r w9 ⟨v9, rfl, ho9, hk9⟩
            obtain ⟨A9, c9, rfl⟩ := own_form ho9
            refine hK _ _ ?_
            clear hK K
            have HK9 := Lib.hid (HKebc.out.trans hk9)
            have HO9 := Lib.hid (ho9.mono (base' := w.heap.size) HKebc.out.size)
            clear ho9 hk9
            refine wpAny_take (i := 10) (v := .tuple #[.slice A9 (26 * k + 1 + 1 + 24) c9, .int .i64 0]) rfl (by kernel_rfl) (by kernel_rfl) (by kernel_rfl) (fun _ _ _ h => h) (Or.inl ⟨by rfl, ?_⟩) ?_
            · intro w
              go_simp
            refine wpAny_take (i := 11) (v := .slice A9 (26 * k + 1 + 1 + 24) c9) rfl (by kernel_rfl) (by kernel_rfl) (by kernel_rfl) (fun _ _ _ h => h) (Or.inl ⟨by rfl, ?_⟩) ?_
            · intro w
              go_simp
            refine wpAny_take (i := 12) (v := .int .i64 0) rfl (by kernel_rfl) (by kernel_rfl) (by kernel_rfl) (fun _ _ _ h => h) (Or.inl ⟨by rfl, ?_⟩) ?_
            · intro w
              go_simp
            refine wpAny_ready (rs := [13]) (by kernel_rfl) (by simp) ?_
            refine (AllReady.cons rfl (fun K hK => ?_) AllReady.nil)
            go_simp
            refine hK _ _ ?_
            clear hK K
            refine wpAny_done (by kernel_rfl) ?_ _
            go_wp2_with fail
            go_roundw
            case rel => exact ⟨k + 1, by omega, by go_num, by rw [show 26 * (k + 1) = 26 * k + 1 + 1 + 24 from by omega]; exact HO9.out, HK9.out⟩
            case measure => simp [intOf]; omega
      · skip
        have hcn := (HB.out.cell 0)
        simp only [show (#[Value.string (str nm), Value.int .i64 nd] : Array Value)[0]? = some (.string (str nm)) from rfl] at hcn
        go_simp
        refine hK _ _ ?_
        clear hK K hcn
        refine wpAny_ready (rs := [2, 8]) (by kernel_rfl) (by simp) ?_
        refine (AllReady.cons rfl (fun K hK => ?_) (AllReady.cons rfl (fun K hK => ?_) AllReady.nil))
        · skip
          have hcn := (HB.out.cell 1)
          simp only [show (#[Value.string (str nm), Value.int .i64 nd] : Array Value)[1]? = some (.int .i64 nd) from rfl] at hcn
          go_simp
          refine hK _ _ ?_
          clear hK K hcn
          refine wpAny_take (i := 3) (v := .int .u8 nd) rfl (by kernel_rfl) (by kernel_rfl) (by kernel_rfl) (fun _ _ _ h => h) (Or.inl ⟨by rfl, ?_⟩) ?_
          · intro w
            go_simp
          refine wpAny_ready (rs := [4, 8]) (by kernel_rfl) (by simp) ?_
          refine (AllReady.cons rfl (fun K hK => ?_) (AllReady.cons rfl (fun K hK => ?_) AllReady.nil))
          · skip
            go_simp
            refine hK _ _ ?_
            clear hK K
            have HBb := Lib.hid (show Blk (W0.alloc (.cells #[.int .u8 nd] 5)).drew pb 50 #[.string (str nm), .int .i64 nd] from HB.out.alloc (.cells #[.int .u8 nd] 5))
            have HOb := Lib.hid (show ((W0.alloc (.cells #[.int .u8 nd] 5)).drew).ownsRow w.heap.size 5 1 (.slice A1 (26 * k) c1) (26 * k) ((entsB (l.take k)).map b8) from HO.out.alloc (.cells #[.int .u8 nd] 5))
            have HKb := Lib.hid (show Kept [] w (W0.alloc (.cells #[.int .u8 nd] 5)).drew from HK.out.alloc (.cells #[.int .u8 nd] 5))
            have HSb := Lib.hid (show Sl (W0.alloc (.cells #[.int .u8 nd] 5)).drew [] 5 1 (some ⟨W0.heap.size, 0, none⟩) 1 1 [.int .u8 nd] from Sl.new (w := W0.drew) rfl (by simp) rfl (by omega))
            refine wpAny_ready (rs := [5, 8]) (by kernel_rfl) (by simp) ?_
            refine (AllReady.cons rfl (fun K hK => ?_) (AllReady.cons rfl (fun K hK => ?_) AllReady.nil))
            · skip
              refine step_append_any _ rfl (.tmp 17) (.tmp 21) _ rfl w.heap.size 5 i0 _ 1 1 Tryz.underlying56 hi hz0 hz1 hz2 rfl (by omega) (.slice A1 (26 * k) c1) (26 * k) _ (by simp [Act.eval, Act.put]) HOb.out [] 5 (some ⟨W0.heap.size, 0, none⟩) 1 1 [.int .u8 nd] (by simp [Act.eval, Act.put]) HSb.out (by simp [Value.oneCell']) (by simp only [maxLen]; omega) (by omega) HKb.out.size ?_
              intro v5 w5 ho5 hg5 _
              obtain ⟨A5, c5, rfl⟩ := own_form ho5
              refine hK _ _ ?_
              clear hK K
              have HBbc := Lib.hid (HBb.out.grown hg5 (own_ne HOb.out HBb.out (by decide)))
              have HObc := Lib.hid ho5
              have HKbc := Lib.hid (HKb.out.grown hg5 (fun j hj => .inl (HOb.out.lt j hj).1))
              clear ho5 hg5
              refine wpAny_ready (rs := [8]) (by kernel_rfl) (by simp) ?_
              refine (AllReady.cons rfl (fun K hK => ?_) AllReady.nil)
              refine step_conv_bytes rfl (.tmp 24) rfl nm hnl (by simp [Act.eval, Act.put]) (Value.slice A5 (26 * k + 1) c5).ownBlock.toList (own_old HObc.out) ?_
              intro A8 c8 w8 hn8 hk8
              refine hK _ _ ?_
              clear hK K
              have HBbce := Lib.hid (HBbc.out.keep0 hk8)
              have HObce := Lib.hid (own_keep0 HObc.out hk8)
              have HKbce := Lib.hid (HKbc.out.trans hk8)
              have HNbce := Lib.hid hn8
              clear hn8 hk8
              refine wpAny_ready (rs := [9]) (by kernel_rfl) (by simp) ?_
              refine (AllReady.cons rfl (fun K hK => ?_) AllReady.nil)
              have ho := HObce.out
              have eL : (entsB (l.take k)).map b8 ++ [Value.int .u8 nd] = (entsB (l.take k) ++ [UInt8.ofNat nd]).map b8 := by rw [List.map_append, List.map_cons, List.map_nil, b8_ofNat (by omega)]
              rw [eL] at ho
              have hlb : (entsB (l.take k) ++ [UInt8.ofNat nd]).length = 26 * k + 1 := by rw [List.length_append, HEL.out]; rfl
              have hbb := Bytes.of_own (D := []) ho hlb (by simp) (by omega)
              have hT := pack_Text [] _ _ _ _ _ nm 24 _ hbb (HNbce.out.less (fun d hd => by cases hd)) (by omega) (by omega) hok2 (by rw [hlb]; omega)
              rw [hlb, show ((24 : Nat) : Int) = 24 from rfl, ← HENB.out] at hT
              have HT := Lib.hid hT
              clear hT hbb hlb eL ho
              go_simp
              refine Calls.mono HT.out ?_
              rintro r w9 ⟨v9, rfl, ho9, hk9⟩
              obtain ⟨A9, c9, rfl⟩ := own_form ho9
              refine hK _ _ ?_
              clear hK K
              have HK9 := Lib.hid (HKbce.out.trans hk9)
              have HO9 := Lib.hid (ho9.mono (base' := w.heap.size) HKbce.out.size)
              clear ho9 hk9
              refine wpAny_take (i := 10) (v := .tuple #[.slice A9 (26 * k + 1 + 1 + 24) c9, .int .i64 0]) rfl (by kernel_rfl) (by kernel_rfl) (by kernel_rfl) (fun _ _ _ h => h) (Or.inl ⟨by rfl, ?_⟩) ?_
              · intro w
                go_simp
              refine wpAny_take (i := 11) (v := .slice A9 (26 * k + 1 + 1 + 24) c9) rfl (by kernel_rfl) (by kernel_rfl) (by kernel_rfl) (fun _ _ _ h => h) (Or.inl ⟨by rfl, ?_⟩) ?_
              · intro w
                go_simp
              refine wpAny_take (i := 12) (v := .int .i64 0) rfl (by kernel_rfl) (by kernel_rfl) (by kernel_rfl) (fun _ _ _ h => h) (Or.inl ⟨by rfl, ?_⟩) ?_
              · intro w
                go_simp
              refine wpAny_ready (rs := [13]) (by kernel_rfl) (by simp) ?_
              refine (AllReady.cons rfl (fun K hK => ?_) AllReady.nil)
              go_simp
              refine hK _ _ ?_
              clear hK K
              refine wpAny_done (by kernel_rfl) ?_ _
              go_wp2_with fail
              go_roundw
              case rel => exact ⟨k + 1, by omega, by go_num, by rw [show 26 * (k + 1) = 26 * k + 1 + 1 + 24 from by omega]; exact HO9.out, HK9.out⟩
              case measure => simp [intOf]; omega
            · skip
              refine step_conv_bytes rfl (.tmp 24) rfl nm hnl (by simp [Act.eval, Act.put]) (Value.slice A1 (26 * k) c1).ownBlock.toList (own_old HOb.out) ?_
              intro A8 c8 w8 hn8 hk8
              refine hK _ _ ?_
              clear hK K
              have HBbe := Lib.hid (HBb.out.keep0 hk8)
              have HObe := Lib.hid (own_keep0 HOb.out hk8)
              have HKbe := Lib.hid (HKb.out.trans hk8)
              have HNbe := Lib.hid hn8
              have HSbe := Lib.hid (HSb.out.keep0 hk8)
              clear hn8 hk8
              refine wpAny_ready (rs := [5]) (by kernel_rfl) (by simp) ?_
              refine (AllReady.cons rfl (fun K hK => ?_) AllReady.nil)
              refine step_append_any _ rfl (.tmp 17) (.tmp 21) _ rfl w.heap.size 5 i0 _ 1 1 Tryz.underlying56 hi hz0 hz1 hz2 rfl (by omega) (.slice A1 (26 * k) c1) (26 * k) _ (by simp [Act.eval, Act.put]) HObe.out [] 5 (some ⟨W0.heap.size, 0, none⟩) 1 1 [.int .u8 nd] (by simp [Act.eval, Act.put]) HSbe.out (by simp [Value.oneCell']) (by simp only [maxLen]; omega) (by omega) HKbe.out.size ?_
              intro v5 w5 ho5 hg5 _
              obtain ⟨A5, c5, rfl⟩ := own_form ho5
              refine hK _ _ ?_
              clear hK K
              have HBbec := Lib.hid (HBbe.out.grown hg5 (own_ne HObe.out HBbe.out (by decide)))
              have HObec := Lib.hid ho5
              have HKbec := Lib.hid (HKbe.out.grown hg5 (fun j hj => .inl (HObe.out.lt j hj).1))
              have HNbec := Lib.hid (keep_grown HNbe.out rfl hg5)
              clear ho5 hg5
              refine wpAny_ready (rs := [9]) (by kernel_rfl) (by simp) ?_
              refine (AllReady.cons rfl (fun K hK => ?_) AllReady.nil)
              have ho := HObec.out
              have eL : (entsB (l.take k)).map b8 ++ [Value.int .u8 nd] = (entsB (l.take k) ++ [UInt8.ofNat nd]).map b8 := by rw [List.map_append, List.map_cons, List.map_nil, b8_ofNat (by omega)]
              rw [eL] at ho
              have hlb : (entsB (l.take k) ++ [UInt8.ofNat nd]).length = 26 * k + 1 := by rw [List.length_append, HEL.out]; rfl
              have hbb := Bytes.of_own (D := []) ho hlb (by simp) (by omega)
              have hT := pack_Text [] _ _ _ _ _ nm 24 _ hbb (HNbec.out.less (fun d hd => by cases hd)) (by omega) (by omega) hok2 (by rw [hlb]; omega)
              rw [hlb, show ((24 : Nat) : Int) = 24 from rfl, ← HENB.out] at hT
              have HT := Lib.hid hT
              clear hT hbb hlb eL ho
              go_simp
              refine Calls.mono HT.out ?_
              rintro r w9 ⟨v9, rfl, ho9, hk9⟩
              obtain ⟨A9, c9, rfl⟩ := own_form ho9
              refine hK _ _ ?_
              clear hK K
              have HK9 := Lib.hid (HKbec.out.trans hk9)
              have HO9 := Lib.hid (ho9.mono (base' := w.heap.size) HKbec.out.size)
              clear ho9 hk9
              refine wpAny_take (i := 10) (v := .tuple #[.slice A9 (26 * k + 1 + 1 + 24) c9, .int .i64 0]) rfl (by kernel_rfl) (by kernel_rfl) (by kernel_rfl) (fun _ _ _ h => h) (Or.inl ⟨by rfl, ?_⟩) ?_
              · intro w
                go_simp
              refine wpAny_take (i := 11) (v := .slice A9 (26 * k + 1 + 1 + 24) c9) rfl (by kernel_rfl) (by kernel_rfl) (by kernel_rfl) (fun _ _ _ h => h) (Or.inl ⟨by rfl, ?_⟩) ?_
              · intro w
                go_simp
              refine wpAny_take (i := 12) (v := .int .i64 0) rfl (by kernel_rfl) (by kernel_rfl) (by kernel_rfl) (fun _ _ _ h => h) (Or.inl ⟨by rfl, ?_⟩) ?_
              · intro w
                go_simp
              refine wpAny_ready (rs := [13]) (by kernel_rfl) (by simp) ?_
              refine (AllReady.cons rfl (fun K hK => ?_) AllReady.nil)
              go_simp
              refine hK _ _ ?_
              clear hK K
              refine wpAny_done (by kernel_rfl) ?_ _
              go_wp2_with fail
              go_roundw
              case rel => exact ⟨k + 1, by omega, by go_num, by rw [show 26 * (k + 1) = 26 * k + 1 + 1 + 24 from by omega]; exact HO9.out, HK9.out⟩
              case measure => simp [intOf]; omega
          · skip
            refine step_conv_bytes rfl (.tmp 24) rfl nm hnl (by simp [Act.eval, Act.put]) (Value.slice A1 (26 * k) c1).ownBlock.toList (own_old HO.out) ?_
            intro A8 c8 w8 hn8 hk8
            refine hK _ _ ?_
            clear hK K
            have HBe := Lib.hid (HB.out.keep0 hk8)
            have HOe := Lib.hid (own_keep0 HO.out hk8)
            have HKe := Lib.hid (HK.out.trans hk8)
            have HNe := Lib.hid hn8
            clear hn8 hk8
            refine wpAny_ready (rs := [4]) (by kernel_rfl) (by simp) ?_
            refine (AllReady.cons rfl (fun K hK => ?_) AllReady.nil)
            go_simp
            refine hK _ _ ?_
            clear hK K
            have HBeb := Lib.hid (show Blk (w8.alloc (.cells #[.int .u8 nd] 5)) pb 50 #[.string (str nm), .int .i64 nd] from HBe.out.alloc (.cells #[.int .u8 nd] 5))
            have HOeb := Lib.hid (show ((w8.alloc (.cells #[.int .u8 nd] 5))).ownsRow w.heap.size 5 1 (.slice A1 (26 * k) c1) (26 * k) ((entsB (l.take k)).map b8) from HOe.out.alloc (.cells #[.int .u8 nd] 5))
            have HKeb := Lib.hid (show Kept [] w (w8.alloc (.cells #[.int .u8 nd] 5)) from HKe.out.alloc (.cells #[.int .u8 nd] 5))
            have HSeb := Lib.hid (show Sl (w8.alloc (.cells #[.int .u8 nd] 5)) [] 5 1 (some ⟨w8.heap.size, 0, none⟩) 1 1 [.int .u8 nd] from Sl.new (w := w8) rfl (by simp) rfl (by omega))
            have HNeb := Lib.hid (show Bytes (w8.alloc (.cells #[.int .u8 nd] 5)) (Value.slice A1 (26 * k) c1).ownBlock.toList A8 c8 nm from HNe.out.keep0 ((Kept.refl [] _).alloc (.cells #[.int .u8 nd] 5)))
            refine wpAny_ready (rs := [5]) (by kernel_rfl) (by simp) ?_
            refine (AllReady.cons rfl (fun K hK => ?_) AllReady.nil)
            refine step_append_any _ rfl (.tmp 17) (.tmp 21) _ rfl w.heap.size 5 i0 _ 1 1 Tryz.underlying56 hi hz0 hz1 hz2 rfl (by omega) (.slice A1 (26 * k) c1) (26 * k) _ (by simp [Act.eval, Act.put]) HOeb.out [] 5 (some ⟨w8.heap.size, 0, none⟩) 1 1 [.int .u8 nd] (by simp [Act.eval, Act.put]) HSeb.out (by simp [Value.oneCell']) (by simp only [maxLen]; omega) (by omega) HKeb.out.size ?_
            intro v5 w5 ho5 hg5 _
            obtain ⟨A5, c5, rfl⟩ := own_form ho5
            refine hK _ _ ?_
            clear hK K
            have HBebc := Lib.hid (HBeb.out.grown hg5 (own_ne HOeb.out HBeb.out (by decide)))
            have HOebc := Lib.hid ho5
            have HKebc := Lib.hid (HKeb.out.grown hg5 (fun j hj => .inl (HOeb.out.lt j hj).1))
            have HNebc := Lib.hid (keep_grown HNeb.out rfl hg5)
            clear ho5 hg5
            refine wpAny_ready (rs := [9]) (by kernel_rfl) (by simp) ?_
            refine (AllReady.cons rfl (fun K hK => ?_) AllReady.nil)
            have ho := HOebc.out
            have eL : (entsB (l.take k)).map b8 ++ [Value.int .u8 nd] = (entsB (l.take k) ++ [UInt8.ofNat nd]).map b8 := by rw [List.map_append, List.map_cons, List.map_nil, b8_ofNat (by omega)]
            rw [eL] at ho
            have hlb : (entsB (l.take k) ++ [UInt8.ofNat nd]).length = 26 * k + 1 := by rw [List.length_append, HEL.out]; rfl
            have hbb := Bytes.of_own (D := []) ho hlb (by simp) (by omega)
            have hT := pack_Text [] _ _ _ _ _ nm 24 _ hbb (HNebc.out.less (fun d hd => by cases hd)) (by omega) (by omega) hok2 (by rw [hlb]; omega)
            rw [hlb, show ((24 : Nat) : Int) = 24 from rfl, ← HENB.out] at hT
            have HT := Lib.hid hT
            clear hT hbb hlb eL ho
            go_simp
            refine Calls.mono HT.out ?_
            rintro r w9 ⟨v9, rfl, ho9, hk9⟩
            obtain ⟨A9, c9, rfl⟩ := own_form ho9
            refine hK _ _ ?_
            clear hK K
            have HK9 := Lib.hid (HKebc.out.trans hk9)
            have HO9 := Lib.hid (ho9.mono (base' := w.heap.size) HKebc.out.size)
            clear ho9 hk9
            refine wpAny_take (i := 10) (v := .tuple #[.slice A9 (26 * k + 1 + 1 + 24) c9, .int .i64 0]) rfl (by kernel_rfl) (by kernel_rfl) (by kernel_rfl) (fun _ _ _ h => h) (Or.inl ⟨by rfl, ?_⟩) ?_
            · intro w
              go_simp
            refine wpAny_take (i := 11) (v := .slice A9 (26 * k + 1 + 1 + 24) c9) rfl (by kernel_rfl) (by kernel_rfl) (by kernel_rfl) (fun _ _ _ h => h) (Or.inl ⟨by rfl, ?_⟩) ?_
            · intro w
              go_simp
            refine wpAny_take (i := 12) (v := .int .i64 0) rfl (by kernel_rfl) (by kernel_rfl) (by kernel_rfl) (fun _ _ _ h => h) (Or.inl ⟨by rfl, ?_⟩) ?_
            · intro w
              go_simp
            refine wpAny_ready (rs := [13]) (by kernel_rfl) (by simp) ?_
            refine (AllReady.cons rfl (fun K hK => ?_) AllReady.nil)
            go_simp
            refine hK _ _ ?_
            clear hK K
            refine wpAny_done (by kernel_rfl) ?_ _
            go_wp2_with fail
            go_roundw
            case rel => exact ⟨k + 1, by omega, by go_num, by rw [show 26 * (k + 1) = 26 * k + 1 + 1 + 24 from by omega]; exact HO9.out, HK9.out⟩
            case measure => simp [intOf]; omega
        · skip
          refine step_conv_bytes rfl (.tmp 24) rfl nm hnl (by simp [Act.eval, Act.put]) (Value.slice A1 (26 * k) c1).ownBlock.toList (own_old HO.out) ?_
          intro A8 c8 w8 hn8 hk8
          refine hK _ _ ?_
          clear hK K
          have HBe := Lib.hid (HB.out.keep0 hk8)
          have HOe := Lib.hid (own_keep0 HO.out hk8)
          have HKe := Lib.hid (HK.out.trans hk8)
          have HNe := Lib.hid hn8
          clear hn8 hk8
          refine wpAny_ready (rs := [2]) (by kernel_rfl) (by simp) ?_
          refine (AllReady.cons rfl (fun K hK => ?_) AllReady.nil)
          have hcn := (HBe.out.cell 1)
          simp only [show (#[Value.string (str nm), Value.int .i64 nd] : Array Value)[1]? = some (.int .i64 nd) from rfl] at hcn
          go_simp
          refine hK _ _ ?_
          clear hK K hcn
          refine wpAny_take (i := 3) (v := .int .u8 nd) rfl (by kernel_rfl) (by kernel_rfl) (by kernel_rfl) (fun _ _ _ h => h) (Or.inl ⟨by rfl, ?_⟩) ?_
          · intro w
            go_simp
          refine wpAny_ready (rs := [4]) (by kernel_rfl) (by simp) ?_
          refine (AllReady.cons rfl (fun K hK => ?_) AllReady.nil)
          go_simp
          refine hK _ _ ?_
          clear hK K
          have HBeb := Lib.hid (show Blk (w8.alloc (.cells #[.int .u8 nd] 5)) pb 50 #[.string (str nm), .int .i64 nd] from HBe.out.alloc (.cells #[.int .u8 nd] 5))
          have HOeb := Lib.hid (show ((w8.alloc (.cells #[.int .u8 nd] 5))).ownsRow w.heap.size 5 1 (.slice A1 (26 * k) c1) (26 * k) ((entsB (l.take k)).map b8) from HOe.out.alloc (.cells #[.int .u8 nd] 5))
          have HKeb := Lib.hid (show Kept [] w (w8.alloc (.cells #[.int .u8 nd] 5)) from HKe.out.alloc (.cells #[.int .u8 nd] 5))
          have HSeb := Lib.hid (show Sl (w8.alloc (.cells #[.int .u8 nd] 5)) [] 5 1 (some ⟨w8.heap.size, 0, none⟩) 1 1 [.int .u8 nd] from Sl.new (w := w8) rfl (by simp) rfl (by omega))
          have HNeb := Lib.hid (show Bytes (w8.alloc (.cells #[.int .u8 nd] 5)) (Value.slice A1 (26 * k) c1).ownBlock.toList A8 c8 nm from HNe.out.keep0 ((Kept.refl [] _).alloc (.cells #[.int .u8 nd] 5)))
          refine wpAny_ready (rs := [5]) (by kernel_rfl) (by simp) ?_
          refine (AllReady.cons rfl (fun K hK => ?_) AllReady.nil)
          refine step_append_any _ rfl (.tmp 17) (.tmp 21) _ rfl w.heap.size 5 i0 _ 1 1 Tryz.underlying56 hi hz0 hz1 hz2 rfl (by omega) (.slice A1 (26 * k) c1) (26 * k) _ (by simp [Act.eval, Act.put]) HOeb.out [] 5 (some ⟨w8.heap.size, 0, none⟩) 1 1 [.int .u8 nd] (by simp [Act.eval, Act.put]) HSeb.out (by simp [Value.oneCell']) (by simp only [maxLen]; omega) (by omega) HKeb.out.size ?_
          intro v5 w5 ho5 hg5 _
          obtain ⟨A5, c5, rfl⟩ := own_form ho5
          refine hK _ _ ?_
          clear hK K
          have HBebc := Lib.hid (HBeb.out.grown hg5 (own_ne HOeb.out HBeb.out (by decide)))
          have HOebc := Lib.hid ho5
          have HKebc := Lib.hid (HKeb.out.grown hg5 (fun j hj => .inl (HOeb.out.lt j hj).1))
          have HNebc := Lib.hid (keep_grown HNeb.out rfl hg5)
          clear ho5 hg5
          refine wpAny_ready (rs := [9]) (by kernel_rfl) (by simp) ?_
          refine (AllReady.cons rfl (fun K hK => ?_) AllReady.nil)
          have ho := HOebc.out
          have eL : (entsB (l.take k)).map b8 ++ [Value.int .u8 nd] = (entsB (l.take k) ++ [UInt8.ofNat nd]).map b8 := by rw [List.map_append, List.map_cons, List.map_nil, b8_ofNat (by omega)]
          rw [eL] at ho
          have hlb : (entsB (l.take k) ++ [UInt8.ofNat nd]).length = 26 * k + 1 := by rw [List.length_append, HEL.out]; rfl
          have hbb := Bytes.of_own (D := []) ho hlb (by simp) (by omega)
          have hT := pack_Text [] _ _ _ _ _ nm 24 _ hbb (HNebc.out.less (fun d hd => by cases hd)) (by omega) (by omega) hok2 (by rw [hlb]; omega)
          rw [hlb, show ((24 : Nat) : Int) = 24 from rfl, ← HENB.out] at hT
          have HT := Lib.hid hT
          clear hT hbb hlb eL ho
          go_simp
          refine Calls.mono HT.out ?_
          rintro r w9 ⟨v9, rfl, ho9, hk9⟩
          obtain ⟨A9, c9, rfl⟩ := own_form ho9
          refine hK _ _ ?_
          clear hK K
          have HK9 := Lib.hid (HKebc.out.trans hk9)
          have HO9 := Lib.hid (ho9.mono (base' := w.heap.size) HKebc.out.size)
          clear ho9 hk9
          refine wpAny_take (i := 10) (v := .tuple #[.slice A9 (26 * k + 1 + 1 + 24) c9, .int .i64 0]) rfl (by kernel_rfl) (by kernel_rfl) (by kernel_rfl) (fun _ _ _ h => h) (Or.inl ⟨by rfl, ?_⟩) ?_
          · intro w
            go_simp
          refine wpAny_take (i := 11) (v := .slice A9 (26 * k + 1 + 1 + 24) c9) rfl (by kernel_rfl) (by kernel_rfl) (by kernel_rfl) (fun _ _ _ h => h) (Or.inl ⟨by rfl, ?_⟩) ?_
          · intro w
            go_simp
          refine wpAny_take (i := 12) (v := .int .i64 0) rfl (by kernel_rfl) (by kernel_rfl) (by kernel_rfl) (fun _ _ _ h => h) (Or.inl ⟨by rfl, ?_⟩) ?_
          · intro w
            go_simp
          refine wpAny_ready (rs := [13]) (by kernel_rfl) (by simp) ?_
          refine (AllReady.cons rfl (fun K hK => ?_) AllReady.nil)
          go_simp
          refine hK _ _ ?_
          clear hK K
          refine wpAny_done (by kernel_rfl) ?_ _
          go_wp2_with fail
          go_roundw
          case rel => exact ⟨k + 1, by omega, by go_num, by rw [show 26 * (k + 1) = 26 * k + 1 + 1 + 24 from by omega]; exact HO9.out, HK9.out⟩
          case measure => simp [intOf]; omega
      -- ORDERS END
    · obtain rfl : k = l.length := by omega
      go_wp2_with fail
      go_ret2
      refine ⟨_, rfl, ?_, HKR.out⟩
      have := HOR.out
      rw [List.take_length] at this
      exact this
end Go.Proofs.YtcbdjmlkjifamaaGreatDoor
