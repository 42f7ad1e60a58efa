/-
  Package dirs: unlike, change, Put, Add, Del. Conditions: a directory's bytes are entries that may be; there is room. Package dirs: Put, Add, Del, Empty, Names. Conditions: a directory's bytes are entries that may be; there is room.
-/
import Derived.Test.YtcbdjmlkjifamaaGreatDoorQba
import Derived.Test.YtcbdjmlkjifamaaGreatDoorQbc
import Derived.Test.YtcbdjmlkjifamaaGreatDoorQbd
set_option linter.unusedVariables false
set_option linter.unusedSimpArgs false

/- Package dirs: unlike, change, Put, Add, Del. Conditions: a directory's bytes are entries that may be; there is room. -/
namespace Go.Proofs.YtcbdjmlkjifamaaGreatDoor
open Go.RowKit
set_option maxRecDepth 100000

/-- Where two lists of bytes differ first. -/
def unlikeN : List UInt8 → List UInt8 → Nat
  | a :: x, b :: y => if a = b then unlikeN x y + 1 else 0
  | _, _ => 0
theorem unlikeN_eq : ∀ (k : Nat) (a b : List UInt8), k ≤ a.length → k ≤ b.length → (∀ j, j < k → a.getD j 0 = b.getD j 0) → (k = min a.length b.length ∨ a.getD k 0 ≠ b.getD k 0) → unlikeN a b = k := by
  intro k
  induction k with
  | zero =>
    intro a b _ _ _ h
    cases a with
    | nil => rfl
    | cons x a =>
      cases b with
      | nil => rfl
      | cons y b =>
        rcases h with h | h
        · simp at h
        · have : x ≠ y := h
          rw [unlikeN, if_neg this]
  | succ k ih =>
    intro a b h1 h2 h3 h4
    cases a with
    | nil => simp at h1
    | cons x a =>
      cases b with
      | nil => simp at h2
      | cons y b =>
        have hxy : x = y := h3 0 (by omega)
        rw [unlikeN, if_pos hxy, ih a b (by simpa using h1) (by simpa using h2) (fun j hj => h3 (j + 1) (by omega)) ?_]
        rcases h4 with h4 | h4
        · left
          simp only [List.length_cons] at h4
          omega
        · right
          exact h4
theorem unlikeN_spec : ∀ (a b : List UInt8), unlikeN a b ≤ a.length ∧ unlikeN a b ≤ b.length ∧ ∀ j, j < unlikeN a b → a.getD j 0 = b.getD j 0 := by
  intro a
  induction a with
  | nil => intro b; exact ⟨Nat.zero_le _, Nat.zero_le _, fun j hj => absurd hj (Nat.not_lt_zero _)⟩
  | cons x a ih =>
    intro b
    cases b with
    | nil => exact ⟨Nat.zero_le _, Nat.zero_le _, fun j hj => absurd hj (Nat.not_lt_zero _)⟩
    | cons y b =>
      obtain ⟨i1, i2, i3⟩ := ih b
      rw [unlikeN]
      by_cases c : x = y
      · rw [if_pos c]
        refine ⟨by simp; omega, by simp; omega, fun j hj => ?_⟩
        cases j with
        | zero => exact c
        | succ j => exact i3 j (by omega)
      · rw [if_neg c]
        exact ⟨Nat.zero_le _, Nat.zero_le _, fun j hj => absurd hj (Nat.not_lt_zero _)⟩

def UnRel (w : World) (a b : List UInt8) (v : Value) (wr : World) : Prop := ∃ k : Nat, k ≤ a.length ∧ k ≤ b.length ∧ v = .int .i64 k ∧ (∀ j, j < k → a.getD j 0 = b.getD j 0) ∧ Kept [] w wr
theorem dirs_unlike (A B : Option Addr) (c d n m : Nat) (a b : List UInt8) (w : World) (ha : Bytes w [] A c a) (hb : Bytes w [] B d b) (hn : a.length = n) (hm : b.length = m) :
    Calls Tryz.prog 48 #[.slice A n c, .slice B m d] w fun e w' => e = .returned (.int .i64 (unlikeN a b : Nat)) ∧ Kept [] w w' := by
  subst hn; subst hm
  have hs1 := ha.small
  have hs2 := hb.small
  have HA := Lib.hid ha
  have HB := Lib.hid hb
  clear ha hb
  go_enter Tryz.func48, Tryz.ntmps48
  go_wp2_with fail
  go_loopw [5] (fun v wr => UnRel w a b v wr) (fun v _ => a.length - (intOf v).toNat)
  case atStart => exact ⟨0, Nat.zero_le _, Nat.zero_le _, rfl, fun j hj => absurd hj (Nat.not_lt_zero _), Kept.refl _ _⟩
  case round =>
    obtain ⟨k, hk1, hk2, rfl, hpre, hkr⟩ := hrel
    have HP := Lib.hid hpre
    have HK := Lib.hid hkr
    clear hpre hkr
    by_cases hlt : k < a.length ∧ k < b.length
    · obtain ⟨l1, l2⟩ := hlt
      obtain ⟨ad, rfl, hca⟩ := (HA.out.keep0 HK.out).get l1
      obtain ⟨bd, rfl, hcb⟩ := (HB.out.keep0 HK.out).get l2
      have ga : a.getD k 0 = a[k] := by rw [List.getD_eq_getElem?_getD, List.getElem?_eq_getElem l1]; rfl
      have gb : b.getD k 0 = b[k] := by rw [List.getD_eq_getElem?_getD, List.getElem?_eq_getElem l2]; rfl
      rw [← ga] at hca
      rw [← gb] at hcb
      have hmin : (k : Int) < min (a.length : Int) (b.length : Int) := by omega
      have i0 : (0 : Int) ≤ (k : Int) := by omega
      have i1 : (k : Int) < (a.length : Int) := by omega
      have i2 : (k : Int) < (b.length : Int) := by omega
      obtain ⟨x, hx⟩ : ∃ x, x = (a.getD k 0).toNat := ⟨_, rfl⟩
      obtain ⟨y, hy⟩ : ∃ y, y = (b.getD k 0).toNat := ⟨_, rfl⟩
      rw [← hx] at hca
      rw [← hy] at hcb
      by_cases hxy : x = y
      · have he : a.getD k 0 = b.getD k 0 := UInt8.toNat_inj.1 (by omega)
        have HE := Lib.hid he
        clear hx hy ga gb he
        subst hxy
        go_wp2_with fail
        go_quiet (fail)
        go_wp2_with fail
        go_roundw
        case rel =>
          refine ⟨k + 1, by omega, by omega, by go_num, fun j hj => ?_, HK.out.drewN _⟩
          rcases Nat.lt_or_eq_of_le (Nat.le_of_lt_succ hj) with h1 | h1
          · exact HP.out j h1
          · subst h1
            exact HE.out
        case measure => simp [intOf]; omega
      · have hun : unlikeN a b = k := unlikeN_eq k a b hk1 hk2 HP.out (.inr (fun hc => hxy (by rw [hx, hy, hc])))
        have HUN := Lib.hid hun
        have hne : ((x : Int) == y) = false := by rw [beq_eq_false_iff_ne]; omega
        clear hx hy ga gb hun hxy
        go_wp2_with fail
        go_quiet (fail)
        go_wp2_with fail
        go_ret
        rw [HUN.out]
        exact ⟨rfl, HK.out.drewN _⟩
    · have hun : unlikeN a b = k := unlikeN_eq k a b hk1 hk2 HP.out (.inl (by omega))
      have HUN := Lib.hid hun
      have hmin : ¬ (k : Int) < min (a.length : Int) (b.length : Int) := by omega
      have hmd : decide ((k : Int) < min (a.length : Int) (b.length : Int)) = false := decide_eq_false hmin
      clear hun
      go_wp2_with fail
      go_quiet (fail)
      go_wp2_with fail
      go_ret
      rw [HUN.out]
      exact ⟨rfl, HK.out.drewN _⟩

/-- A directory's inode behind a change: its bytes are others. -/
def Nod.turned (y : Nod) (b : List UInt8) (t : Nat) : Nod :=
  (if b.length - unlikeN y.data b = 0 then y else y.write (b.drop (unlikeN y.data b)) (unlikeN y.data b) t).trunc b.length t
theorem turned_kind (y : Nod) (b : List UInt8) (t : Nat) : (y.turned b t).kind = y.kind := by
  unfold Nod.turned
  split <;> rfl
theorem turned_data (y : Nod) (b : List UInt8) (t : Nat) : (y.turned b t).data = b := by
  obtain ⟨h1, h2, h3⟩ := unlikeN_spec y.data b
  unfold Nod.turned
  obtain ⟨P, hP⟩ : ∃ P, P = unlikeN y.data b := ⟨_, rfl⟩
  rw [← hP] at h1 h2 h3 ⊢
  have ext : ∀ d : List UInt8, (∀ i, i < b.length → d.getD i 0 = b.getD i 0) → resize d b.length = b := fun d hd => by
    refine List.ext_getElem (resize_length _ _) (fun i _ hi => ?_)
    have e := resize_at d b.length i
    rw [if_pos hi, hd i hi, List.getD_eq_getElem?_getD, List.getD_eq_getElem?_getD, List.getElem?_eq_getElem (by rw [resize_length]; exact hi), List.getElem?_eq_getElem hi] at e
    exact e
  by_cases c : b.length - P = 0
  · rw [if_pos c]
    exact ext y.data (fun i hi => h3 i (by omega))
  · rw [if_neg c]
    refine ext _ (fun i hi => ?_)
    show (overlay y.data (b.drop P) P).getD i 0 = _
    rw [overlay_at, List.length_drop]
    by_cases ci : P ≤ i
    · rw [if_pos (by omega), List.getD_eq_getElem?_getD, List.getElem?_drop, show P + (i - P) = i from by omega, List.getD_eq_getElem?_getD]
    · rw [if_neg (by omega)]
      exact h3 i (by omega)

set_option maxHeartbeats 2000000 in
theorem dirs_change (fn : Nat) (hf : fn = 23 ∨ fn = 21) (cs : Array Value) (w : World) (fb ib pb ab table np d t nd : Nat) (S : List Nod) (y : Nod) (l k : List Ent) (A : Option Addr) (c : Nat)
    (h : Sys w fb ib pb ab table np S) (hd : IsDir S d y l) (hA : Ents w [] A c l) (hk : EntsOk k) (hkl : k.length ≤ 315) (hyl : l.length ≤ 2000) (ht : t ≤ 9223372036854775807)
    (hC : ∀ W, Kept [] w W → Calls Tryz.prog fn (#[.slice A l.length c] ++ cs) W fun e w' => ∃ A' c', e = .returned (.tuple #[.slice A' k.length c', .int .i64 nd, .int .i64 0]) ∧ Ents w' [] A' c' k ∧ Kept [] W w')
    (hroom : (entsB k).length - unlikeN y.data (entsB k) ≠ 0 → y.need (unlikeN y.data (entsB k)) ((entsB k).length - unlikeN y.data (entsB k)) ≤ leftOf table np S) :
    Calls Tryz.prog 20 #[.pointer (some ⟨fb, 0, none⟩), .int .i64 d, .slice A l.length c, .int .i64 t, .func (.func fn) #[] cs] w fun e w' => e = .returned (.tuple #[.int .i64 nd, .int .i64 0]) ∧
      Sys w' fb ib pb ab table np (S.set d (y.turned (entsB k) t)) ∧ Kept [ab] w w' := by
  have htn : ¬ (t : Int) < 0 := by omega
  have hlb := entsB_length l hd.ok.ok
  have hkb := entsB_length k hk.ok
  have hun := unlikeN_spec y.data (entsB k)
  obtain ⟨P, hP⟩ : ∃ P, P = unlikeN y.data (entsB k) := ⟨_, rfl⟩
  have HPE := Lib.hid hP
  rw [← hP] at hroom hun
  have hP1 : P ≤ 26 * k.length := by rw [← hkb]; exact hun.2.1
  have HC := Lib.hid hC
  have H := Lib.hid h
  have HD := Lib.hid hd
  have HAE := Lib.hid hA
  have HKO := Lib.hid hk
  have HR := Lib.hid hroom
  have HLB := Lib.hid hlb
  have HKB := Lib.hid hkb
  clear hC h hd hA hk hroom hlb hkb hun hP
  rcases hf with rfl | rfl
  all_goals
    go_enter Tryz.func20, Tryz.ntmps20
    go_wp2_with fail
    refine (HC.out w (Kept.refl _ _)).mono ?_
    rintro e w1 ⟨A1, c1, rfl, he1, hk1⟩
    have HE1 := Lib.hid he1
    have HK1 := Lib.hid hk1
    clear he1 hk1
    go_wp2_with (go_at_call 47; refine Stop.here ?_)
    refine Stop.go ?_
    refine (dirent_Lay [] A c l.length l w1 (HAE.out.keep0 HK1.out) rfl HD.out.ok hyl).mono ?_
    rintro e w2 ⟨v2, rfl, ho2, hk2⟩
    obtain ⟨A2, c2, rfl⟩ := own_form ho2
    have hb2 := Bytes.of_own (D := []) ho2 HLB.out (by simp) (by omega)
    have HB2 := Lib.hid hb2
    have HE2 := Lib.hid (HE1.out.keep0 hk2)
    have HK2 := Lib.hid (HK1.out.trans hk2)
    clear ho2 hk2 hb2
    go_wp2_with (go_at_call 47; refine Stop.here ?_)
    refine Stop.go ?_
    refine (dirent_Lay [] A1 c1 k.length k w2 HE2.out rfl HKO.out (by omega)).mono ?_
    rintro e w3 ⟨v3, rfl, ho3, hk3⟩
    obtain ⟨A3, c3, rfl⟩ := own_form ho3
    have hb3 := Bytes.of_own (D := []) ho3 HKB.out (by simp) (by omega)
    have HB3 := Lib.hid hb3
    have HB2' := Lib.hid (HB2.out.keep0 hk3)
    have HK3 := Lib.hid (HK2.out.trans hk3)
    clear ho3 hk3 hb3
    go_wp2_with (go_at_call 48; refine Stop.here ?_)
    refine Stop.go ?_
    have cU := dirs_unlike A2 A3 c2 c3 (26 * l.length) (26 * k.length) (entsB l) (entsB k) w3 HB2'.out HB3.out HLB.out HKB.out
    rw [← HD.out.data, ← HPE.out] at cU
    refine cU.mono ?_
    rintro e w4 ⟨rfl, hk4⟩
    have hb4 := HB3.out.keep0 hk4
    have HK4 := Lib.hid (HK3.out.trans hk4)
    obtain ⟨A4, hA4, hcut⟩ : ∃ A4, (if c3 = P then A3 else Option.map (fun x => x.add P) A3) = A4 ∧ Bytes w4 [] A4 (c3 - P) ((entsB k).drop P) := ⟨_, rfl, hb4.cut (by rw [HKB.out]; exact hP1)⟩
    have hcap := hb4.cap
    rw [HKB.out] at hcap
    have HCUT := Lib.hid hcut
    have hP2 : (P : Int) ≤ ((26 * k.length : Nat) : Int) := by omega
    have hkl2 : 26 * k.length ≤ 8192 := by omega
    obtain ⟨M, hM⟩ : ∃ M, M = 26 * k.length := ⟨_, rfl⟩
    have HM := Lib.hid hM
    rw [← hM] at hP1 hP2 hcap hkl2 ⊢
    clear cU hk4 hb4 hcut hM
    go_wp2_with (go_at_call 49; refine Stop.here ?_)
    refine Stop.go ?_
    have hkl3 : (entsB k).length = M := by rw [HKB.out, HM.out]
    have hroom := HR.out
    rw [hkl3] at hroom
    have hsy := H.out.keep0 HK4.out
    have hkd : y.kind ≠ 0 := by rw [HD.out.kind]; omega
    have hdl := (List.getElem?_eq_some_iff.1 HD.out.at_).1
    have HSY := Lib.hid hsy
    have HKL3 := Lib.hid hkl3
    have HDL := Lib.hid hdl
    have hun := HPE.out
    by_cases hz : M - P = 0
    · have htd : y.turned (entsB k) t = y.trunc M t := by
        unfold Nod.turned
        rw [← hun, hkl3, if_pos hz]
      have HTD := Lib.hid htd
      rw [hz]
      have cW := sys_Write_nil w4 fb ib pb ab table np d P t S y A4 (c3 - P) HSY.out HD.out.at_ hkd (by omega) ht
      have CW := Lib.hid cW
      clear hroom hsy hdl hun htd cW hkl3
      refine CW.out.mono ?_
      rintro e w5 ⟨rfl, hk5⟩
      have cT := sys_Trunc w5 fb ib pb ab table np d M t S y (HSY.out.keep0 hk5) HD.out.at_ hkd hkl2 ht
      have CT := Lib.hid cT
      have HK5 := Lib.hid (HK4.out.trans hk5)
      clear hk5 cT hz hkd
      go_wp2_with (go_at_call 50; refine Stop.here ?_)
      refine Stop.go ?_
      refine CT.out.mono ?_
      rintro e w6 ⟨rfl, hs6, hk6⟩
      have HS6 := Lib.hid hs6
      have HK6 := Lib.hid (HK5.out.any.trans hk6)
      clear hs6 hk6
      go_wp2_with fail
      go_ret2
      rw [HTD.out]
      exact ⟨rfl, HS6.out, HK6.out⟩
    · have htd : y.turned (entsB k) t = (y.write ((entsB k).drop P) P t).trunc M t := by
        unfold Nod.turned
        rw [← hun, hkl3, if_neg hz]
      have HTD := Lib.hid htd
      have cW := sys_Write w4 fb ib pb ab table np d P (M - P) t S y A4 (c3 - P) _ HSY.out HD.out.at_ hkd HCUT.out (by rw [List.length_drop, hkl3]) hz (by omega) ht (hroom hz)
      have CW := Lib.hid cW
      clear hroom hsy hun htd cW hkl3
      refine CW.out.mono ?_
      rintro e w5 ⟨rfl, hs5, hk5⟩
      have cT := sys_Trunc w5 fb ib pb ab table np d M t _ (y.write ((entsB k).drop P) P t) hs5 (List.getElem?_set_self HDL.out) hkd hkl2 ht
      rw [List.set_set, ← HTD.out] at cT
      have CT := Lib.hid cT
      have HK5 := Lib.hid (HK4.out.any.trans hk5)
      clear hk5 hs5 cT hz hkd hdl
      go_wp2_with (go_at_call 50; refine Stop.here ?_)
      refine Stop.go ?_
      refine CT.out.mono ?_
      rintro e w6 ⟨rfl, hs6, hk6⟩
      have HS6 := Lib.hid hs6
      have HK6 := Lib.hid (HK5.out.trans hk6)
      clear hs6 hk6
      go_wp2_with fail
      go_ret2
      exact ⟨rfl, HS6.out, HK6.out⟩
end Go.Proofs.YtcbdjmlkjifamaaGreatDoor

/- Package dirs: Put, Add, Del, Empty, Names. Conditions: a directory's bytes are entries that may be; there is room. -/
namespace Go.Proofs.YtcbdjmlkjifamaaGreatDoor
open Go.RowKit
set_option maxRecDepth 100000

theorem nameMay_zero {s : List UInt8} (h : nameMay s = 0) : s ≠ [] ∧ s.length ≤ 24 := by
  unfold nameMay at h
  split at h
  · omega
  · rename_i h1
    split at h
    · omega
    · split at h
      · omega
      · exact ⟨fun hc => h1 (.inl hc), by omega⟩
theorem nameMay_ok {s : List UInt8} (h : nameMay s = 0) {nd : Nat} (h1 : 1 ≤ nd) (h2 : nd ≤ 63) : Ent.Ok ⟨s, nd⟩ := by
  obtain ⟨h3, h4⟩ := nameMay_zero h
  refine ⟨?_, h4, h1, by show nd < 64; omega⟩
  show 0 < s.length
  cases s with
  | nil => exact absurd rfl h3
  | cons => simp
theorem entNode_pos {l : List Ent} (hl : EntsOk l) (s : List UInt8) : entNode l s = 0 ↔ isThere l s = false := by
  constructor
  · intro h
    cases ht : isThere l s with
    | false => rfl
    | true =>
      obtain ⟨hi, _, hn⟩ := entNode_there hl ht
      have := (hl.ok _ (List.getElem_mem hi)).2.2.1
      omega
  · exact entNode_not

theorem dirs_Put1 (A : Option Addr) (c sb nb nd : Nat) (l : List Ent) (s : List UInt8) (w : World) (h : Ents w [] A c l) (hl : EntsOk l) (he : Ent.Ok ⟨s, nd⟩) (hs : l.length ≤ 2000)
    (h1 : Blk w sb 9 #[.string (str s)]) (h2 : Blk w nb 3 #[.int .i64 nd]) :
    Calls Tryz.prog 23 (#[.slice A l.length c] ++ #[.pointer (some ⟨sb, 0, none⟩), .pointer (some ⟨nb, 0, none⟩)]) w fun e w' => ∃ A' c', e = .returned (.tuple #[.slice A' (entPut l ⟨s, nd⟩).length c', .int .i64 (entNode l s : Nat), .int .i64 0]) ∧
      Ents w' [] A' c' (entPut l ⟨s, nd⟩) ∧ Kept [] w w' := by
  have c1 : w.cell? ⟨sb, 0, none⟩ = some (.string (str s)) := by rw [h1.cell]; rfl
  have c2 : w.cell? ⟨nb, 0, none⟩ = some (.int .i64 nd) := by rw [h2.cell]; rfl
  have CP := Lib.hid (dirent_Put A c l.length l ⟨s, nd⟩ w h rfl hl he hs)
  clear h hl he h1 h2
  show Calls Tryz.prog 23 #[.slice A l.length c, .pointer (some ⟨sb, 0, none⟩), .pointer (some ⟨nb, 0, none⟩)] w _
  go_enter Tryz.func23, Tryz.ntmps23
  go_wp2_with (go_at_call 24; refine Stop.here ?_)
  refine Stop.go ?_
  refine CP.out.mono ?_
  rintro e w1 ⟨A1, cc1, rfl, he1, hk1⟩
  have HE1 := Lib.hid he1
  have HK1 := Lib.hid hk1
  clear he1 hk1
  go_wp2_with fail
  go_ret3
  exact ⟨A1, cc1, rfl, HE1.out, HK1.out⟩
theorem dirs_Del1 (A : Option Addr) (c sb : Nat) (l : List Ent) (s : List UInt8) (w : World) (h : Ents w [] A c l) (hl : EntsOk l) (ht : isThere l s = true) (hs : l.length ≤ 2000) (h1 : Blk w sb 9 #[.string (str s)]) :
    Calls Tryz.prog 21 (#[.slice A l.length c] ++ #[.pointer (some ⟨sb, 0, none⟩)]) w fun e w' => ∃ A' c', e = .returned (.tuple #[.slice A' (entDel l s).length c', .int .i64 (entNode l s : Nat), .int .i64 0]) ∧
      Ents w' [] A' c' (entDel l s) ∧ Kept [] w w' := by
  have c1 : w.cell? ⟨sb, 0, none⟩ = some (.string (str s)) := by rw [h1.cell]; rfl
  have CP := Lib.hid (dirent_Remove A c l.length l s w h rfl hl hs ht)
  clear h hl ht h1
  show Calls Tryz.prog 21 #[.slice A l.length c, .pointer (some ⟨sb, 0, none⟩)] w _
  go_enter Tryz.func21, Tryz.ntmps21
  go_wp2_with (go_at_call 22; refine Stop.here ?_)
  refine Stop.go ?_
  refine CP.out.mono ?_
  rintro e w1 ⟨A1, cc1, rfl, he1, hk1⟩
  have HE1 := Lib.hid he1
  have HK1 := Lib.hid hk1
  clear he1 hk1
  go_wp2_with fail
  go_ret3
  exact ⟨A1, cc1, rfl, HE1.out, HK1.out⟩

/-- There is room for other bytes of a directory. -/
def RoomFor (table np : Nat) (S : List Nod) (y : Nod) (b : List UInt8) : Prop := b.length - unlikeN y.data b ≠ 0 → y.need (unlikeN y.data b) (b.length - unlikeN y.data b) ≤ leftOf table np S

set_option maxHeartbeats 2000000 in
theorem dirs_Put (w : World) (fb ib pb ab table np d t nd : Nat) (S : List Nod) (y : Nod) (l : List Ent) (s : List UInt8) (h : Sys w fb ib pb ab table np S) (hd : IsDir S d y l) (hm : nameMay s = 0) (h1 : 1 ≤ nd) (h2 : nd ≤ 63) (hl : l.length ≤ 314) (ht : t ≤ 9223372036854775807)
    (hroom : RoomFor table np S y (entsB (entPut l ⟨s, nd⟩))) :
    Calls Tryz.prog 8 #[.pointer (some ⟨fb, 0, none⟩), .int .i64 d, .string (str s), .int .i64 nd, .int .i64 t] w fun e w' => e = .returned (.tuple #[.int .i64 (entNode l s : Nat), .int .i64 0]) ∧
      Sys w' fb ib pb ab table np (S.set d (y.turned (entsB (entPut l ⟨s, nd⟩)) t)) ∧ Kept [ab] w w' := by
  have hok := nameMay_ok hm h1 h2
  have hslen := (nameMay_zero hm).2
  have hk0 : Kept [] w ((w.alloc (.cells #[.string (str s)] 9)).alloc (.cells #[.int .i64 nd] 3)) := ((Kept.refl _ _).alloc _).alloc _
  have hb1 : Blk ((w.alloc (.cells #[.string (str s)] 9)).alloc (.cells #[.int .i64 nd] 3)) w.heap.size 9 #[.string (str s)] := (Blk.new _ _ _).alloc _
  have hb2 : Blk ((w.alloc (.cells #[.string (str s)] 9)).alloc (.cells #[.int .i64 nd] 3)) (w.heap.size + 1) 3 #[.int .i64 nd] := by
    have := Blk.new (w.alloc (.cells #[.string (str s)] 9)) 3 #[.int .i64 nd]
    simpa using this
  have cF := dirs_find _ fb ib pb ab table np d S y l s (h.keep0 hk0) hd (by omega)
  rw [hm] at cF
  have CF := Lib.hid cF
  have H := Lib.hid (h.keep0 hk0)
  have HD := Lib.hid hd
  have HOK := Lib.hid hok
  have HR := Lib.hid hroom
  have HK0 := Lib.hid hk0
  have HB1 := Lib.hid hb1
  have HB2 := Lib.hid hb2
  clear cF h hd hok hroom hk0 hb1 hb2 hm
  go_enter Tryz.func8, Tryz.ntmps8
  go_wp2_with (go_at_call 19; refine Stop.here ?_)
  refine Stop.go ?_
  refine CF.out.mono ?_
  rintro e w1 ⟨A1, c1, rfl, he1, hk1⟩
  have cC := dirs_change 23 (.inl rfl) #[.pointer (some ⟨w.heap.size, 0, none⟩), .pointer (some ⟨w.heap.size + 1, 0, none⟩)] w1 fb ib pb ab table np d t (entNode l s) S y l (entPut l ⟨s, nd⟩) A1 c1 (H.out.keep0 hk1) HD.out he1 (HD.out.ok.put HOK.out)
    (by have := entPut_length ⟨s, nd⟩ HD.out.ok; omega) (by omega) ht (fun W hW => dirs_Put1 A1 c1 _ _ nd l s W (he1.keep0 hW) HD.out.ok HOK.out (by omega) ((HB1.out.keep0 hk1).keep0 hW) ((HB2.out.keep0 hk1).keep0 hW)) HR.out
  have CC := Lib.hid cC
  have HK1 := Lib.hid (HK0.out.trans hk1)
  clear cC he1 hk1
  go_wp2_with (go_at_call 20; refine Stop.here ?_)
  refine Stop.go ?_
  refine CC.out.mono ?_
  rintro e w2 ⟨rfl, hs2, hk2⟩
  have HS2 := Lib.hid hs2
  have HK2 := Lib.hid (HK1.out.any.trans hk2)
  clear hs2 hk2
  go_wp2_with fail
  go_ret2
  exact ⟨rfl, HS2.out, HK2.out⟩
theorem dirs_Put_bad (p : Value) (n : Int) (s : List UInt8) (nd t : Int) (e0 : Int) (w : World) (he : e0 ≠ 0) (he1 : -100 ≤ e0) (he2 : e0 ≤ 100)
    (hL : ∀ W, Kept [] w W → Calls Tryz.prog 19 #[p, .int .i64 n, .string (str s)] W fun e w' => ∃ A m c k, e = .returned (.tuple #[.slice A m c, .int .i64 k, .int .i64 e0]) ∧ Kept [] W w') :
    Calls Tryz.prog 8 #[p, .int .i64 n, .string (str s), .int .i64 nd, .int .i64 t] w fun e w' => e = .returned (.tuple #[.int .i64 0, .int .i64 e0]) ∧ Kept [] w w' := by
  have hz : (e0 == 0) = false := by rw [beq_eq_false_iff_ne]; exact he
  have hk0 : Kept [] w ((w.alloc (.cells #[.string (str s)] 9)).alloc (.cells #[.int .i64 nd] 3)) := ((Kept.refl _ _).alloc _).alloc _
  have HL := Lib.hid (hL _ hk0)
  have HK0 := Lib.hid hk0
  clear hL he hk0
  go_enter Tryz.func8, Tryz.ntmps8
  go_wp2_with (go_at_call 19; refine Stop.here ?_)
  refine Stop.go ?_
  refine HL.out.mono ?_
  rintro e w1 ⟨A, m, c, k, rfl, hk1⟩
  have HK1 := Lib.hid (HK0.out.trans hk1)
  clear hk1
  go_wp2_with fail
  go_ret2
  exact ⟨rfl, HK1.out⟩

theorem dirs_Add_bad (p : Value) (n : Int) (s : List UInt8) (nd t : Int) (e0 : Int) (w : World) (he : e0 ≠ 0) (he1 : -100 ≤ e0) (he2 : e0 ≤ 100)
    (hL : ∀ W, Kept [] w W → Calls Tryz.prog 19 #[p, .int .i64 n, .string (str s)] W fun e w' => ∃ A m c k, e = .returned (.tuple #[.slice A m c, .int .i64 k, .int .i64 e0]) ∧ Kept [] W w') :
    Calls Tryz.prog 11 #[p, .int .i64 n, .string (str s), .int .i64 nd, .int .i64 t] w fun e w' => e = .returned (.int .i64 e0) ∧ Kept [] w w' := by
  have hz : (e0 == 0) = false := by rw [beq_eq_false_iff_ne]; exact he
  have HL := Lib.hid (hL w (Kept.refl _ _))
  clear hL he
  go_enter Tryz.func11, Tryz.ntmps11
  go_wp2_with (go_at_call 19; refine Stop.here ?_)
  refine Stop.go ?_
  refine HL.out.mono ?_
  rintro e w1 ⟨A, m, c, k, rfl, hk1⟩
  have HK1 := Lib.hid hk1
  clear hk1
  go_wp2_with fail
  go_ret
  exact ⟨rfl, HK1.out⟩
/-- What Add tells. -/
def addErr (l : List Ent) (s : List UInt8) : Int := if nameMay s ≠ 0 then nameMay s else if entNode l s ≠ 0 then 7 else 0
theorem dirs_Add_there (w : World) (fb ib pb ab table np d : Nat) (nd t : Int) (S : List Nod) (y : Nod) (l : List Ent) (s : List UInt8) (h : Sys w fb ib pb ab table np S) (hd : IsDir S d y l) (hs : s.length ≤ 100000) (hm : nameMay s = 0) (hn : entNode l s ≠ 0) :
    Calls Tryz.prog 11 #[.pointer (some ⟨fb, 0, none⟩), .int .i64 d, .string (str s), .int .i64 nd, .int .i64 t] w fun e w' => e = .returned (.int .i64 7) ∧ Kept [] w w' := by
  have hf := dirs_find w fb ib pb ab table np d S y l s h hd hs
  rw [hm] at hf
  have hz : (((entNode l s : Nat) : Int) == 0) = false := by rw [beq_eq_false_iff_ne]; omega
  have HF := Lib.hid hf
  clear hf h hd hm hn
  go_enter Tryz.func11, Tryz.ntmps11
  go_wp2_with (go_at_call 19; refine Stop.here ?_)
  refine Stop.go ?_
  refine HF.out.mono ?_
  rintro e w1 ⟨A1, c1, rfl, _, hk1⟩
  have HK1 := Lib.hid hk1
  clear hk1
  go_wp2_with fail
  go_ret
  exact ⟨rfl, HK1.out⟩
theorem dirs_Add (w : World) (fb ib pb ab table np d t nd : Nat) (S : List Nod) (y : Nod) (l : List Ent) (s : List UInt8) (h : Sys w fb ib pb ab table np S) (hd : IsDir S d y l) (hm : nameMay s = 0) (hn : entNode l s = 0) (h1 : 1 ≤ nd) (h2 : nd ≤ 63) (hl : l.length ≤ 314) (ht : t ≤ 9223372036854775807)
    (hroom : RoomFor table np S y (entsB (entPut l ⟨s, nd⟩))) :
    Calls Tryz.prog 11 #[.pointer (some ⟨fb, 0, none⟩), .int .i64 d, .string (str s), .int .i64 nd, .int .i64 t] w fun e w' => e = .returned (.int .i64 0) ∧
      Sys w' fb ib pb ab table np (S.set d (y.turned (entsB (entPut l ⟨s, nd⟩)) t)) ∧ Kept [ab] w w' := by
  have hslen := (nameMay_zero hm).2
  have hf := dirs_find w fb ib pb ab table np d S y l s h hd (by omega)
  rw [hm, hn] at hf
  have HF := Lib.hid hf
  have HP := Lib.hid (fun W (hW : Kept [] w W) => dirs_Put W fb ib pb ab table np d t nd S y l s (h.keep0 hW) hd hm h1 h2 hl ht hroom)
  clear hf h hd hm hn hroom
  go_enter Tryz.func11, Tryz.ntmps11
  go_wp2_with (go_at_call 19; refine Stop.here ?_)
  refine Stop.go ?_
  refine HF.out.mono ?_
  rintro e w1 ⟨A1, c1, rfl, _, hk1⟩
  have HK1 := Lib.hid hk1
  clear hk1
  go_wp2_with (go_at_call 8; refine Stop.here ?_)
  refine Stop.go ?_
  refine (HP.out w1 HK1.out).mono ?_
  rintro e w2 ⟨rfl, hs2, hk2⟩
  have HS2 := Lib.hid hs2
  have HK2 := Lib.hid (HK1.out.any.trans hk2)
  clear hs2 hk2
  go_wp2_with fail
  go_ret
  exact ⟨rfl, HS2.out, HK2.out⟩

theorem dirs_Del_bad (p : Value) (n : Int) (s : List UInt8) (t : Int) (e0 : Int) (w : World) (he : e0 ≠ 0) (he1 : -100 ≤ e0) (he2 : e0 ≤ 100)
    (hL : ∀ W, Kept [] w W → Calls Tryz.prog 19 #[p, .int .i64 n, .string (str s)] W fun e w' => ∃ A m c k, e = .returned (.tuple #[.slice A m c, .int .i64 k, .int .i64 e0]) ∧ Kept [] W w') :
    Calls Tryz.prog 7 #[p, .int .i64 n, .string (str s), .int .i64 t] w fun e w' => e = .returned (.tuple #[.int .i64 0, .int .i64 e0]) ∧ Kept [] w w' := by
  have hz : (e0 == 0) = false := by rw [beq_eq_false_iff_ne]; exact he
  have hk0 : Kept [] w (w.alloc (.cells #[.string (str s)] 9)) := (Kept.refl _ _).alloc _
  have HL := Lib.hid (hL _ hk0)
  have HK0 := Lib.hid hk0
  clear hL he hk0
  go_enter Tryz.func7, Tryz.ntmps7
  go_wp2_with (go_at_call 19; refine Stop.here ?_)
  refine Stop.go ?_
  refine HL.out.mono ?_
  rintro e w1 ⟨A, m, c, k, rfl, hk1⟩
  have HK1 := Lib.hid (HK0.out.trans hk1)
  clear hk1
  go_wp2_with fail
  go_ret2
  exact ⟨rfl, HK1.out⟩
theorem dirs_Del_none (w : World) (fb ib pb ab table np d : Nat) (t : Int) (S : List Nod) (y : Nod) (l : List Ent) (s : List UInt8) (h : Sys w fb ib pb ab table np S) (hd : IsDir S d y l) (hs : s.length ≤ 100000) (hm : nameMay s = 0) (hn : entNode l s = 0) :
    Calls Tryz.prog 7 #[.pointer (some ⟨fb, 0, none⟩), .int .i64 d, .string (str s), .int .i64 t] w fun e w' => e = .returned (.tuple #[.int .i64 0, .int .i64 6]) ∧ Kept [] w w' := by
  have hk0 : Kept [] w (w.alloc (.cells #[.string (str s)] 9)) := (Kept.refl _ _).alloc _
  have hf := dirs_find _ fb ib pb ab table np d S y l s (h.keep0 hk0) hd hs
  rw [hm, hn] at hf
  have HF := Lib.hid hf
  have HK0 := Lib.hid hk0
  clear hf h hd hm hn hk0
  go_enter Tryz.func7, Tryz.ntmps7
  go_wp2_with (go_at_call 19; refine Stop.here ?_)
  refine Stop.go ?_
  refine HF.out.mono ?_
  rintro e w1 ⟨A1, c1, rfl, _, hk1⟩
  have HK1 := Lib.hid (HK0.out.trans hk1)
  clear hk1
  go_wp2_with fail
  go_ret2
  exact ⟨rfl, HK1.out⟩
set_option maxHeartbeats 2000000 in
theorem dirs_Del (w : World) (fb ib pb ab table np d t : Nat) (S : List Nod) (y : Nod) (l : List Ent) (s : List UInt8) (h : Sys w fb ib pb ab table np S) (hd : IsDir S d y l) (hm : nameMay s = 0) (hn : entNode l s ≠ 0) (hl : l.length ≤ 315) (ht : t ≤ 9223372036854775807)
    (hroom : RoomFor table np S y (entsB (entDel l s))) :
    Calls Tryz.prog 7 #[.pointer (some ⟨fb, 0, none⟩), .int .i64 d, .string (str s), .int .i64 t] w fun e w' => e = .returned (.tuple #[.int .i64 (entNode l s : Nat), .int .i64 0]) ∧
      Sys w' fb ib pb ab table np (S.set d (y.turned (entsB (entDel l s)) t)) ∧ Kept [ab] w w' := by
  have hslen := (nameMay_zero hm).2
  have hth : isThere l s = true := by
    cases hc : isThere l s with
    | true => rfl
    | false => exact absurd (entNode_not hc) hn
  have hz : (((entNode l s : Nat) : Int) == 0) = false := by rw [beq_eq_false_iff_ne]; omega
  have hk0 : Kept [] w (w.alloc (.cells #[.string (str s)] 9)) := (Kept.refl _ _).alloc _
  have cF := dirs_find _ fb ib pb ab table np d S y l s (h.keep0 hk0) hd (by omega)
  rw [hm] at cF
  have CF := Lib.hid cF
  have H := Lib.hid (h.keep0 hk0)
  have HD := Lib.hid hd
  have HR := Lib.hid hroom
  have HK0 := Lib.hid hk0
  have HTH := Lib.hid hth
  have HB1 := Lib.hid (Blk.new w 9 #[.string (str s)])
  clear cF h hd hroom hk0 hm hn hth
  go_enter Tryz.func7, Tryz.ntmps7
  go_wp2_with (go_at_call 19; refine Stop.here ?_)
  refine Stop.go ?_
  refine CF.out.mono ?_
  rintro e w1 ⟨A1, c1, rfl, he1, hk1⟩
  have cC := dirs_change 21 (.inr rfl) #[.pointer (some ⟨w.heap.size, 0, none⟩)] w1 fb ib pb ab table np d t (entNode l s) S y l (entDel l s) A1 c1 (H.out.keep0 hk1) HD.out he1 (HD.out.ok.del s)
    (by have := entDel_length l s; omega) (by omega) ht (fun W hW => dirs_Del1 A1 c1 _ l s W (he1.keep0 hW) HD.out.ok HTH.out (by omega) ((HB1.out.keep0 hk1).keep0 hW)) HR.out
  have CC := Lib.hid cC
  have HK1 := Lib.hid (HK0.out.trans hk1)
  clear cC he1 hk1
  go_wp2_with (go_at_call 20; refine Stop.here ?_)
  refine Stop.go ?_
  refine CC.out.mono ?_
  rintro e w2 ⟨rfl, hs2, hk2⟩
  have HS2 := Lib.hid hs2
  have HK2 := Lib.hid (HK1.out.any.trans hk2)
  clear hs2 hk2
  go_wp2_with fail
  go_ret2
  exact ⟨rfl, HS2.out, HK2.out⟩

theorem dirs_Empty_bad (p : Value) (n : Int) (e0 : Int) (w : World) (he : e0 ≠ 0) (he1 : -100 ≤ e0) (he2 : e0 ≤ 100)
    (hL : Calls Tryz.prog 5 #[p, .int .i64 n] w fun e w' => e = .returned (.tuple #[.slice none 0 0, .int .i64 e0]) ∧ Kept [] w w') :
    Calls Tryz.prog 9 #[p, .int .i64 n] w fun e w' => e = .returned (.tuple #[.bool false, .int .i64 e0]) ∧ Kept [] w w' := by
  have hz : (e0 == 0) = false := by rw [beq_eq_false_iff_ne]; exact he
  have HL := Lib.hid hL
  clear hL he
  go_enter Tryz.func9, Tryz.ntmps9
  go_wp2_with (go_at_call 5; refine Stop.here ?_)
  refine Stop.go ?_
  refine HL.out.mono ?_
  rintro e w1 ⟨rfl, hk1⟩
  have HK1 := Lib.hid hk1
  clear hk1
  go_wp2_with fail
  go_ret2
  exact ⟨rfl, HK1.out⟩
theorem dirs_Empty (w : World) (fb ib pb ab table np n : Nat) (S : List Nod) (y : Nod) (l : List Ent) (h : Sys w fb ib pb ab table np S) (hd : IsDir S n y l) :
    Calls Tryz.prog 9 #[.pointer (some ⟨fb, 0, none⟩), .int .i64 n] w fun e w' => e = .returned (.tuple #[.bool (decide (l.length = 0)), .int .i64 0]) ∧ Kept [] w w' := by
  have HL := Lib.hid (dirs_List w fb ib pb ab table np n S y l h hd)
  obtain ⟨m, hm⟩ : ∃ m, m = l.length := ⟨_, rfl⟩
  rw [← hm] at HL ⊢
  clear h hd hm
  by_cases c : m = 0
  · subst c
    go_enter Tryz.func9, Tryz.ntmps9
    go_wp2_with (go_at_call 5; refine Stop.here ?_)
    refine Stop.go ?_
    refine HL.out.mono ?_
    rintro e w1 ⟨A, c, rfl, _, hk1⟩
    have HK1 := Lib.hid hk1
    clear hk1
    go_wp2_with fail
    go_ret2
    exact ⟨rfl, HK1.out⟩
  · have hz : ((m : Int) == 0) = false := by rw [beq_eq_false_iff_ne]; omega
    have e : decide (m = 0) = false := decide_eq_false c
    rw [e]
    clear c e
    go_enter Tryz.func9, Tryz.ntmps9
    go_wp2_with (go_at_call 5; refine Stop.here ?_)
    refine Stop.go ?_
    refine HL.out.mono ?_
    rintro e w1 ⟨A, c, rfl, _, hk1⟩
    have HK1 := Lib.hid hk1
    clear hk1
    go_wp2_with fail
    go_ret2
    exact ⟨rfl, HK1.out⟩

theorem string_info : (Tryz.prog.info? 9).map (fun i => (i.zero, i.size, i.bytes)) = some (some (.string (str [])), 1, 16) := by kernel_rfl
/-- A slice of strings. -/
def Strs (w : World) (D : List Nat) (A : Option Addr) (c : Nat) (l : List (List UInt8)) : Prop := Sl w D 9 1 A l.length c (l.map fun s => .string (str s))
def NamsRel (w : World) (l : List Ent) (v a : Value) (wr : World) : Prop := ∃ k : Nat, k ≤ l.length ∧ a = .int .i64 k ∧ wr.ownsRow w.heap.size 9 1 v k ((l.take k).map fun e => .string (str e.name)) ∧ Kept [] w wr
theorem dirs_Names_walk (p : Value) (n e0 : Int) (l : List Ent) (w : World) (he1 : -100 ≤ e0) (he2 : e0 ≤ 100) (hs : l.length ≤ 2000)
    (hL : Calls Tryz.prog 5 #[p, .int .i64 n] w fun e w' => ∃ A c, e = .returned (.tuple #[.slice A l.length c, .int .i64 e0]) ∧ Ents w' [] A c l ∧ Kept [] w w') :
    Calls Tryz.prog 10 #[p, .int .i64 n] w fun e w' => ∃ A c, e = .returned (.tuple #[.slice A l.length c, .int .i64 e0]) ∧ Strs w' [] A c (l.map (·.name)) ∧ Kept [] w w' := by
  obtain ⟨i0, hi, hz0, hz1, hz2⟩ := info_parts string_info
  have HL := Lib.hid hL
  clear hL
  go_enter Tryz.func10, Tryz.ntmps10
  go_wp2_with (go_at_call 5; refine Stop.here ?_)
  refine Stop.go ?_
  refine HL.out.mono ?_
  rintro e w1 ⟨A1, c1, rfl, he1', hk1⟩
  have HE := Lib.hid he1'
  have HK1 := Lib.hid hk1
  clear he1' hk1
  go_wp2_with fail
  go_loopw [8, 19] (fun v a wr => NamsRel w1 l v a wr) (fun _ a _ => l.length - (intOf a).toNat)
  case atStart => exact ⟨0, Nat.zero_le _, rfl, World.ownsRow_nil _ _ _ _, Kept.refl _ _⟩
  case round =>
    obtain ⟨k, hk, rfl, ho, hkr⟩ := hrel
    obtain ⟨A2, c2, rfl⟩ := own_form ho
    have HO := Lib.hid ho
    have HK := Lib.hid hkr
    clear ho hkr
    by_cases hlt : k < l.length
    · obtain ⟨ad, rfl, hc0, hc1⟩ := (HE.out.keep0 HK.out).get hlt
      have htk : (l.take (k + 1)).map (fun e => Value.string (str e.name)) = (l.take k).map (fun e => Value.string (str e.name)) ++ [.string (str l[k].name)] := by
        rw [List.take_succ_eq_append_getElem hlt, List.map_append]
        rfl
      obtain ⟨nm, hnm⟩ : ∃ nm, nm = l[k].name := ⟨_, rfl⟩
      obtain ⟨nd, hnd⟩ : ∃ nd, nd = l[k].node := ⟨_, rfl⟩
      rw [← hnm] at hc0 htk
      rw [← hnd] at hc1
      have HT := Lib.hid htk
      have hcell : ∀ o o', ((wr.alloc o).alloc o').cell? ⟨wr.heap.size, 0, none⟩ = (wr.alloc o).cell? ⟨wr.heap.size, 0, none⟩ := fun o o' => World.cell?_alloc_lt _ _ _ (by simp)
      clear htk hnm hnd
      go_wp2_with (at_builtin; refine Stop.here ?_)
      refine Stop.go ?_
      refine wpList_append_new (W0 := w1) rfl (.tmp 23) (.tmp 26) _ rfl w1.heap.size 9 i0 _ 1 16 Tryz.underlying34 hi hz0 hz1 hz2 rfl (by omega) (.slice A2 k c2) k _ rfl (HO.out.alloc _) _ [.string (str nm)] rfl (by simp) rfl (by simp [Value.oneCell']) (by simp only [maxLen]; omega) (by omega) (by have := HK.out.size; simp; omega) (HK.out.alloc _) (Nat.le_refl _) ?_
      intro v3 w3 ho3 hg3 hk3 _
      rw [← HT.out] at ho3
      have HO3 := Lib.hid ho3
      have HK3 := Lib.hid hk3
      clear ho3 hg3 hk3
      go_wp2_with fail
      go_roundw
      case rel => exact ⟨k + 1, by omega, by go_num, HO3.out, HK3.out⟩
      case measure => simp [intOf]; omega
    · obtain rfl : k = l.length := by omega
      have ho := HO.out
      rw [List.take_length] at ho
      obtain ⟨A', c', hv, hsl⟩ := Sl.of_row (D := []) ho (by simp) (by omega)
      injection hv with a1 _ a3
      subst a1; subst a3
      have hst : Strs wr [] A2 c2 (l.map (·.name)) := by
        unfold Strs
        rw [List.length_map, List.map_map]
        exact hsl
      have HST := Lib.hid hst
      clear ho hsl hst
      go_wp2_with fail
      go_ret2
      exact ⟨A2, c2, rfl, HST.out, HK1.out.trans HK.out⟩
end Go.Proofs.YtcbdjmlkjifamaaGreatDoor
