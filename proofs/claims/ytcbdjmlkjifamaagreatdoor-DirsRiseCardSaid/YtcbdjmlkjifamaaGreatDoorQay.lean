/-
  Package dirent: isOne, May, the comparison of names, Find. Conditions: the entries may be.
-/
import Derived.Test.YtcbdjmlkjifamaaGreatDoorQau
import Derived.Test.YtcbdjmlkjifamaaGreatDoorQax
import Derived.Laws.Cover1
set_option linter.unusedVariables false
set_option linter.unusedSimpArgs false

namespace Go.Proofs.YtcbdjmlkjifamaaGreatDoor
open Go.RowKit
set_option maxRecDepth 100000

def entCells (l : List Ent) : List Value := l.flatMap fun e => [.string (str e.name), .int .i64 e.node]
theorem entCells_length (l : List Ent) : (entCells l).length = l.length * 2 := by
  induction l with
  | nil => rfl
  | cons e l ih =>
    rw [entCells, List.flatMap_cons, List.length_append, List.length_cons]
    rw [entCells] at ih
    rw [ih]
    simp
    omega
theorem entCells_append (a b : List Ent) : entCells (a ++ b) = entCells a ++ entCells b := by simp [entCells]
theorem entCells_at : ∀ (l : List Ent) (k : Nat) (h : k < l.length), (entCells l)[k * 2]? = some (.string (str l[k].name)) ∧ (entCells l)[k * 2 + 1]? = some (.int .i64 l[k].node) := by
  intro l
  induction l with
  | nil => intro k h; simp at h
  | cons e l ih =>
    intro k h
    cases k with
    | zero => exact ⟨rfl, rfl⟩
    | succ k =>
      have := ih k (by simpa using h)
      rw [show (k + 1) * 2 = k * 2 + 1 + 1 from by omega, show k * 2 + 1 + 1 + 1 = (k * 2 + 1) + 1 + 1 from by omega]
      exact this
/-- A slice of entries. -/
def Ents (w : World) (D : List Nat) (A : Option Addr) (c : Nat) (l : List Ent) : Prop := Sl w D 50 2 A l.length c (entCells l)
theorem Ents.keep0 {w w' : World} {D : List Nat} {A : Option Addr} {c : Nat} {l : List Ent} (h : Ents w D A c l) (k : Kept [] w w') : Ents w' D A c l := Sl.keep0 h k
theorem Ents.get {w : World} {D : List Nat} {A : Option Addr} {c : Nat} {l : List Ent} (h : Ents w D A c l) {k : Nat} (hk : k < l.length) :
    ∃ ad, A = some ad ∧ w.cell? (ad.add (k * 2)) = some (.string (str l[k].name)) ∧ w.cell? ⟨(ad.add (k * 2)).block, (ad.add (k * 2)).off + 1, none⟩ = some (.int .i64 l[k].node) := by
  obtain ⟨ad, hA, _, _, hc⟩ := h.at_ (by omega)
  obtain ⟨h0, h1⟩ := entCells_at l k hk
  refine ⟨ad, hA, hc _ _ h0, ?_⟩
  have h2 := hc _ _ h1
  rw [← add_of_add, add_pos _ 1 (by omega)] at h2
  exact h2
abbrev Ent.val (e : Ent) : Value := .agg #[.string (str e.name), .int .i64 e.node]
theorem ent_info : (Tryz.prog.info? 50).map (fun i => (i.zero, i.size, i.bytes)) = some (some (.agg #[.string (str []), .int .i64 0]), 2, 24) := by kernel_rfl

def Ent.one (e : Ent) : Bool := !(e.name == []) && decide (e.name.length ≤ 24) && decide (0 < e.node) && decide (e.node < 64)
theorem Ent.Ok.one {e : Ent} (h : e.Ok) : e.name ≠ [] ∧ e.name.length ≤ 24 ∧ 0 < e.node ∧ e.node < 64 := ⟨fun h0 => by have := h.1; rw [h0] at this; simp at this, h.2⟩

theorem entry_isOne (e : Ent) (w : World) (h : e.Ok) : Calls Tryz.prog 53 #[e.val] w fun r w' => r = .returned (.bool true) ∧ Kept [] w w' := by
  obtain ⟨h1, h2, h3, h4⟩ := h.one
  have hsz := str_size e.name
  have hne : (e.name == []) = false := by simpa using h1
  have i1 : ((e.name.length : Nat) : Int) ≤ 24 := by omega
  have i2 : (0 : Int) < (e.node : Nat) := by omega
  have i3 : ((e.node : Nat) : Int) < 64 := by omega
  go_enter Tryz.func53, Tryz.ntmps53
  go_wp2_with fail
  go_ret
  exact ⟨rfl, (Kept.refl _ _).alloc _⟩

/-- How names compare. -/
def cmpI (a b : List UInt8) : Int := if blt a b then -1 else if blt b a then 1 else 0
theorem cmp_Compare (a b : List UInt8) (w : World) : Calls Tryz.prog 90 #[.string (str a), .string (str b)] w fun r w' => r = .returned (.int .i64 (cmpI a b)) ∧ w = w' := by
  have haa : (a == a) = true := beq_self_eq_true a
  have hbb : (b == b) = true := beq_self_eq_true b
  rcases blt_tri a b with c | c | c
  · have e : cmpI a b = -1 := by rw [cmpI, if_pos c]
    have hi : Op.bytesLess a b = true := c
    clear c
    rw [e]
    go_enter Tryz.func90, Tryz.ntmps90
    go_wp2
    go_ret
    exact ⟨rfl, rfl⟩
  · subst c
    have e : cmpI a a = 0 := by rw [cmpI, if_neg (by rw [blt_irrefl]; simp), if_neg (by rw [blt_irrefl]; simp)]
    have hi : Op.bytesLess a a = false := blt_irrefl a
    rw [e]
    go_enter Tryz.func90, Tryz.ntmps90
    go_wp2
    go_ret
    exact ⟨rfl, rfl⟩
  · have e : cmpI a b = 1 := by rw [cmpI, if_neg (by rw [blt_asymm c]; simp), if_pos c]
    have hi : Op.bytesLess a b = false := blt_asymm c
    have hne : (a == b) = false := by
      have := (blt_ne c).symm
      simpa using this
    clear c
    rw [e]
    go_enter Tryz.func90, Tryz.ntmps90
    go_wp2
    go_ret
    exact ⟨rfl, rfl⟩
theorem cmpI_neg (a b : List UInt8) : cmpI a b < 0 ↔ blt a b = true := by
  unfold cmpI
  split
  · simp [*]
  · split <;> simp [*]
theorem cmpI_zero (a b : List UInt8) : cmpI a b = 0 ↔ a = b := by
  unfold cmpI
  rcases blt_tri a b with c | c | c
  · rw [if_pos c]
    exact ⟨fun h => by omega, fun h => absurd h (blt_ne c)⟩
  · subst c
    simp [blt_irrefl]
  · rw [if_neg (by rw [blt_asymm c]; simp), if_pos c]
    exact ⟨fun h => by omega, fun h => absurd h.symm (blt_ne c)⟩
theorem dirent_place1 (e : Ent) (s : List UInt8) (w : World) (n : Int) (x : ByteArray) (hn : n = e.node) (hx : x = str e.name) : Calls Tryz.prog 89 #[.agg #[.string x, .int .i64 n], .string (str s)] w fun r w' => r = .returned (.int .i64 (cmpI e.name s)) ∧ Kept [] w w' := by
  subst hn; subst hx
  go_enter Tryz.func89, Tryz.ntmps89
  go_wp2_with (go_at_call 90; refine (cmp_Compare _ _ _).mono ?_; rintro r w' ⟨rfl, rfl⟩)
  go_ret
  exact ⟨rfl, (Kept.refl _ _).alloc _⟩

/-- What the loop of May knows. -/
def MayRel (w : World) (l : List Ent) (v a : Value) (wr : World) : Prop := ∃ k : Nat, k ≤ l.length ∧ v = .string (str (if k = 0 then [] else (l.map (·.name)).getD (k - 1) [])) ∧ a = .int .i64 k ∧ Kept [] w wr
theorem dirent_May (D : List Nat) (A : Option Addr) (c n : Nat) (l : List Ent) (w : World) (h : Ents w D A c l) (hn : l.length = n) (hl : EntsOk l) :
    Calls Tryz.prog 44 #[.slice A n c] w fun r w' => r = .returned (.bool true) ∧ Kept [] w w' := by
  subst hn
  have hsm := h.small
  have H := Lib.hid h
  have HL := Lib.hid hl
  clear h hl
  go_enter Tryz.func44, Tryz.ntmps44
  go_wp2_with fail
  go_loopw [3, 8] (fun v a wr => MayRel w l v a wr) (fun _ a _ => l.length - (intOf a).toNat)
  case atStart => exact ⟨0, Nat.zero_le _, rfl, rfl, Kept.refl _ _⟩
  case round =>
    obtain ⟨k, hk, rfl, rfl, hkr⟩ := hrel
    have HK := Lib.hid hkr
    clear hkr
    obtain ⟨last, hlast⟩ : ∃ last, last = (if k = 0 then [] else (l.map (·.name)).getD (k - 1) []) := ⟨_, rfl⟩
    rw [← hlast]
    by_cases hlt : k < l.length
    · obtain ⟨ad, rfl, hc0, hc1⟩ := (H.out.keep0 HK.out).get hlt
      have hok := HL.out.ok _ (List.getElem_mem hlt)
      obtain ⟨e, he⟩ : ∃ e, e = l[k] := ⟨_, rfl⟩
      have hlast2 : blt last e.name = true := by
        by_cases h0 : k = 0
        · rw [hlast, if_pos h0]
          have := hok.1
          rw [← he] at this
          cases hen : e.name with
          | nil => rw [hen] at this; simp at this
          | cons => rfl
        · rw [hlast, if_neg h0, he]
          have := List.pairwise_iff_getElem.1 HL.out.sort (k - 1) k (by omega) hlt (by omega)
          rw [List.getD_eq_getElem?_getD, List.getElem?_map, List.getElem?_eq_getElem (by omega)]
          exact this
      rw [← he] at hc0 hc1 hok
      have hb1 : Op.bytesLess e.name last = false := blt_asymm hlast2
      have hb2 : (e.name == last) = false := by
        have := (blt_ne hlast2).symm
        simpa using this
      have HE := Lib.hid he
      have HOK := Lib.hid hok
      clear he hok hlast hlast2
      go_wp2_with (go_at_call 53; refine Stop.here ?_)
      refine Stop.go ?_
      refine (entry_isOne e _ HOK.out).mono ?_
      rintro r w1 ⟨rfl, hk1⟩
      have hb := (Blk.new wr 50 #[.string (str e.name), .int .i64 e.node]).keep0 hk1
      have hc : w1.cell? ⟨wr.heap.size, 0, none⟩ = some (.string (str e.name)) := by rw [hb.cell]; rfl
      have HK1 := Lib.hid ((HK.out.alloc (.cells #[.string (str e.name), .int .i64 e.node] 50)).trans hk1)
      clear hk1 hb
      go_wp2_with fail
      go_roundw
      case rel =>
        refine ⟨k + 1, by omega, ?_, by go_num, HK1.out⟩
        rw [if_neg (by omega), Nat.add_sub_cancel, List.getD_eq_getElem?_getD, List.getElem?_map, List.getElem?_eq_getElem hlt, HE.out]
        rfl
      case measure => simp [intOf]; omega
    · obtain rfl : k = l.length := by omega
      clear hlast
      go_wp2_with fail
      go_ret
      exact ⟨rfl, HK.out⟩

/-- What the search knows. -/
def BinRel (w : World) (l : List Ent) (s : List UInt8) (a b : Value) (wr : World) : Prop := ∃ lo hi : Nat, lo ≤ place l s ∧ place l s ≤ hi ∧ hi ≤ l.length ∧ a = .int .i64 lo ∧ b = .int .i64 hi ∧ Kept [] w wr
theorem slices_BinarySearch (D : List Nat) (A : Option Addr) (c n : Nat) (l : List Ent) (s : List UInt8) (w : World) (h : Ents w D A c l) (hn : l.length = n) (hl : EntsOk l) (hn2 : n ≤ 100000) :
    Calls Tryz.prog 88 #[.slice A n c, .string (str s), .func (.func 89) #[] #[]] w fun r w' =>
      r = .returned (.tuple #[.int .i64 (place l s : Nat), .bool (isThere l s)]) ∧ Kept [] w w' := by
  subst hn
  have H := Lib.hid h
  have HL := Lib.hid hl
  have hpl := place_le l s
  clear h hl
  go_enter Tryz.func88, Tryz.ntmps88
  go_wp2_with fail
  go_loopw [9, 10] (fun a b wr => BinRel w l s a b wr) (fun a b _ => (intOf b).toNat - (intOf a).toNat)
  case atStart => exact ⟨0, l.length, Nat.zero_le _, hpl, Nat.le_refl _, rfl, rfl, Kept.refl _ _⟩
  case round =>
    obtain ⟨lo, hi, h1, h2, h3, rfl, rfl, hkr⟩ := hrel
    have HK := Lib.hid hkr
    clear hkr
    by_cases hlt : lo < hi
    · obtain ⟨m, hm⟩ : ∃ m, m = (lo + hi) / 2 := ⟨_, rfl⟩
      have hml : m < l.length := by omega
      have hmi : ((lo : Int) + hi) / 2 = (m : Nat) := by omega
      obtain ⟨ad, rfl, hc0, hc1⟩ := (H.out.keep0 HK.out).get hml
      obtain ⟨e, he⟩ : ∃ e, e = l[m] := ⟨_, rfl⟩
      have hp := place_lt HL.out s hml
      rw [← he] at hc0 hc1 hp
      have hlm : lo ≤ m ∧ m < hi := by omega
      have hmb : (m : Int) < l.length := by omega
      clear he hm
      go_wp2_with (go_at_call 89; refine Stop.here ?_)
      refine Stop.go ?_
      refine (dirent_place1 e s wr _ _ rfl rfl).mono ?_
      rintro r w1 ⟨rfl, hk1⟩
      have HK1 := Lib.hid (HK.out.trans hk1)
      clear hk1
      by_cases hb : blt e.name s = true
      · have hneg := (cmpI_neg e.name s).2 hb
        rw [hb] at hp
        have hmp := of_decide_eq_true hp.symm
        clear hp hb
        go_wp2_with fail
        go_roundw
        case rel => exact ⟨m + 1, hi, by omega, h2, h3, by go_num, rfl, HK1.out⟩
        case measure => simp [intOf]; omega
      · have hneg : ¬ cmpI e.name s < 0 := fun hc => hb ((cmpI_neg e.name s).1 hc)
        have hpf : blt e.name s = false := by simpa using hb
        rw [hpf] at hp
        have hmp := of_decide_eq_false hp.symm
        clear hp hb hpf
        go_wp2_with fail
        go_roundw
        case rel => exact ⟨lo, m, h1, by omega, by omega, rfl, by go_num, HK1.out⟩
        case measure => simp [intOf]; omega
    · have hlp := place_there HL.out s
      obtain ⟨i, hi'⟩ : ∃ i, i = place l s := ⟨_, rfl⟩
      have hlo : lo = i := by omega
      have hhi : hi = i := by omega
      subst hlo; subst hhi
      have HI' := Lib.hid hi'
      by_cases hlen : hi < l.length
      · obtain ⟨ad, rfl, hc0, hc1⟩ := (H.out.keep0 HK.out).get hlen
        obtain ⟨e, he⟩ : ∃ e, e = l[hi] := ⟨_, rfl⟩
        have hth : isThere l s = decide (e.name = s) := by
          have he2 : e = l[place l s]'(by omega) := by rw [he]; congr 1
          cases ht : isThere l s with
          | true => rw [ht] at hlp; exact (decide_eq_true (by rw [he2]; exact (hlp.1 rfl).2)).symm
          | false =>
            rw [ht] at hlp
            exact (decide_eq_false (fun hc => by have := hlp.2 ⟨by omega, by rw [← he2]; exact hc⟩; cases this)).symm
        rw [← he] at hc0 hc1
        have hz : (cmpI e.name s == 0) = isThere l s := by
          rw [hth]
          by_cases c : e.name = s
          · rw [decide_eq_true c, beq_iff_eq]
            exact (cmpI_zero _ _).2 c
          · rw [decide_eq_false c, beq_eq_false_iff_ne]
            exact fun hc => c ((cmpI_zero _ _).1 hc)
        have HZ := Lib.hid hz
        clear he hth hlp hz hi' h1 h2 hpl
        have hli : (hi : Int) < l.length := by omega
        go_wp2_with (go_at_call 89; refine Stop.here ?_)
        refine Stop.go ?_
        refine (dirent_place1 e s wr _ _ rfl rfl).mono ?_
        rintro r w1 ⟨rfl, hk1⟩
        have HK1 := Lib.hid (HK.out.trans hk1)
        clear hk1
        go_wp2_with fail
        go_ret2
        rw [← HZ.out, ← HI'.out]
        exact ⟨rfl, HK1.out⟩
      · have hth : isThere l s = false := by
          cases ht : isThere l s with
          | true => rw [ht] at hlp; obtain ⟨hc, _⟩ := hlp.1 rfl; omega
          | false => rfl
        have HTH := Lib.hid hth
        have hli : ¬ (hi : Int) < l.length := by omega
        clear hth hlp hi' h1 h2
        go_wp2_with fail
        go_ret2
        rw [HTH.out, ← HI'.out]
        exact ⟨rfl, HK.out⟩

theorem dirent_place (D : List Nat) (A : Option Addr) (c n : Nat) (l : List Ent) (s : List UInt8) (w : World) (h : Ents w D A c l) (hn : l.length = n) (hl : EntsOk l) (hn2 : n ≤ 100000) :
    Calls Tryz.prog 51 #[.slice A n c, .string (str s)] w fun r w' => r = .returned (.tuple #[.int .i64 (place l s : Nat), .bool (isThere l s)]) ∧ Kept [] w w' := by
  have HB := Lib.hid (slices_BinarySearch D A c n l s w h hn hl hn2)
  clear h hl hn
  go_enter Tryz.func51, Tryz.ntmps51
  go_wp2_with (go_at_call 88; refine Stop.here ?_)
  refine Stop.go ?_
  refine HB.out.mono ?_
  rintro r w1 ⟨rfl, hk1⟩
  have HK1 := Lib.hid hk1
  clear hk1
  go_wp2_with fail
  go_ret2
  exact ⟨rfl, HK1.out⟩

theorem dirent_Find1 (e : Ent) (s : List UInt8) (sb : Nat) (w : World) (n : Int) (x : ByteArray) (hn : n = e.node) (hx : x = str e.name) (hs : Blk w sb 9 #[.string (str s)]) :
    Calls Tryz.prog 78 #[.agg #[.string x, .int .i64 n], .pointer (some ⟨sb, 0, none⟩)] w fun r w' => r = .returned (.bool (e.name == s)) ∧ Kept [] w w' := by
  subst hn; subst hx
  have hc : ∀ o, (w.alloc o).cell? ⟨sb, 0, none⟩ = some (.string (str s)) := fun o => by rw [(hs.alloc o).cell]; rfl
  go_enter Tryz.func78, Tryz.ntmps78
  go_wp2
  go_ret
  exact ⟨rfl, (Kept.refl _ _).alloc _⟩

theorem slices_IndexFunc_ent (D : List Nat) (A : Option Addr) (c n sb : Nat) (l : List Ent) (s : List UInt8) (w : World) (h : Ents w D A c l) (hn : l.length = n) (hs : Blk w sb 9 #[.string (str s)]) :
    Calls Tryz.prog 77 #[.slice A n c, .func (.func 78) #[] #[.pointer (some ⟨sb, 0, none⟩)]] w fun r w' =>
      r = .returned (.int .i64 (entIdxI l s)) ∧ Kept [] w w' := by
  subst hn
  have hsm := h.small
  have H := Lib.hid h
  have HS := Lib.hid hs
  clear h hs
  go_enter Tryz.func77, Tryz.ntmps77
  go_wp2_with fail
  go_loopw [8] (fun a wr => ∃ k : Nat, k ≤ l.length ∧ a = .int .i64 k ∧ (∀ j (hj : j < l.length), j < k → (l[j].name == s) = false) ∧ Kept [] w wr) (fun a _ => l.length - (intOf a).toNat)
  case atStart => exact ⟨0, Nat.zero_le _, rfl, fun j _ hj => by omega, Kept.refl _ _⟩
  case round =>
    obtain ⟨k, hk, rfl, hno, hkr⟩ := hrel
    have HK := Lib.hid hkr
    have HN := Lib.hid hno
    clear hkr hno
    by_cases hlt : k < l.length
    · obtain ⟨ad, rfl, hc0, hc1⟩ := (H.out.keep0 HK.out).get hlt
      obtain ⟨e, he⟩ : ∃ e, e = l[k] := ⟨_, rfl⟩
      rw [← he] at hc0 hc1
      have HE := Lib.hid he
      clear he
      go_wp2_with (go_at_call 78; refine Stop.here ?_)
      refine Stop.go ?_
      refine (dirent_Find1 e s sb wr _ _ rfl rfl (HS.out.keep0 HK.out)).mono ?_
      rintro r w1 ⟨rfl, hk1⟩
      have HK1 := Lib.hid (HK.out.trans hk1)
      clear hk1
      cases hb : (e.name == s) with
      | true =>
        have hix : entIdxI l s = k := by
          have hi : entIdx l s = k := by
            unfold entIdx
            rw [List.findIdx_eq (by omega)]
            exact ⟨by rw [← HE.out]; exact hb, fun j hj => by simpa using HN.out j (by omega) hj⟩
          rw [entIdxI, hi, if_pos hlt]
        have HIX := Lib.hid hix
        clear hix
        go_wp2_with fail
        go_ret
        rw [HIX.out]
        exact ⟨rfl, HK1.out⟩
      | false =>
        go_wp2_with fail
        go_roundw
        case rel =>
          refine ⟨k + 1, by omega, by go_num, fun j hj hjk => ?_, HK1.out⟩
          rcases Nat.lt_or_eq_of_le (Nat.le_of_lt_succ hjk) with h1 | h1
          · exact HN.out j hj h1
          · subst h1
            rw [← HE.out]
            exact hb
        case measure => simp [intOf]; omega
    · obtain rfl : k = l.length := by omega
      have hix0 : ¬ entIdx l s < l.length := fun hc => by
        have h1 := List.findIdx_getElem (w := hc)
        have h2 := HN.out _ hc hc
        have h3 : (l[entIdx l s].name == s) = true := h1
        rw [h2] at h3
        cases h3
      have hix : entIdxI l s = -1 := by rw [entIdxI, if_neg hix0]
      clear hix0
      have HIX := Lib.hid hix
      clear hix
      go_wp2_with fail
      go_ret
      rw [HIX.out]
      exact ⟨rfl, HK.out⟩

theorem dirent_Find (D : List Nat) (A : Option Addr) (c n : Nat) (l : List Ent) (s : List UInt8) (w : World) (h : Ents w D A c l) (hn : l.length = n) :
    Calls Tryz.prog 46 #[.slice A n c, .string (str s)] w fun r w' => r = .returned (.tuple #[.int .i64 (entNode l s : Nat), .bool (entHas l s)]) ∧ Kept [] w w' := by
  have hsm := h.small
  have hk0 : Kept [] w (w.alloc (.cells #[.string (str s)] 9)) := (Kept.refl _ _).alloc _
  have HB := Lib.hid (slices_IndexFunc_ent D A c n w.heap.size l s _ (h.keep0 hk0) hn (Blk.new _ _ _))
  have H := Lib.hid h
  have HK0 := Lib.hid hk0
  have HN := Lib.hid hn
  clear h hn hk0
  go_enter Tryz.func46, Tryz.ntmps46
  go_wp2_with (go_at_call 77; refine Stop.here ?_)
  refine Stop.go ?_
  refine HB.out.mono ?_
  rintro r w1 ⟨rfl, hk1⟩
  have hkk := HK0.out.trans hk1
  by_cases hlt : entIdx l s < l.length
  · have hnode : entNode l s = l[entIdx l s].node := by
      unfold entNode
      rw [List.getElem?_eq_getElem hlt]
    have hix : entIdxI l s = (entIdx l s : Nat) := by rw [entIdxI, if_pos hlt]
    have hdec : entHas l s = true := decide_eq_true hlt
    obtain ⟨ad, rfl, hc0, hc1⟩ := (H.out.keep0 hkk).get hlt
    rw [← hnode] at hc1
    obtain ⟨i, hi⟩ : ∃ i, i = entIdx l s := ⟨_, rfl⟩
    obtain ⟨nd, hnd⟩ : ∃ nd, nd = entNode l s := ⟨_, rfl⟩
    clear hc0
    rw [← hi] at hc1 hlt hix
    rw [← hnd] at hc1
    have HKK := Lib.hid hkk
    have HND := Lib.hid hnd
    have HD := Lib.hid hdec
    have hin : (i : Int) < (n : Nat) := by have := HN.out; omega
    rw [hix]
    clear hi hnd hnode hdec hk1 hkk hix
    go_wp2_with fail
    go_ret2
    rw [← HND.out, HD.out]
    exact ⟨rfl, HKK.out⟩
  · have hnode : entNode l s = 0 := by
      unfold entNode
      rw [List.getElem?_eq_none (by omega)]
    have hix : entIdxI l s = -1 := by rw [entIdxI, if_neg hlt]
    have hdec : entHas l s = false := decide_eq_false hlt
    have HKK := Lib.hid hkk
    have HND := Lib.hid hnode
    have HD := Lib.hid hdec
    rw [hix]
    clear hnode hdec hk1 hkk hlt hix
    go_wp2_with fail
    go_ret2
    rw [HND.out, HD.out]
    exact ⟨rfl, HKK.out⟩
end Go.Proofs.YtcbdjmlkjifamaaGreatDoor
