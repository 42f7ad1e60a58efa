/-
  What the functions compute, in plain Lean: numbers, lists of bytes, no program and no memory. No condition. Laws of the map's bits: set, cleared, taken, given. No program. No condition.
-/
set_option linter.unusedVariables false
set_option linter.unusedSimpArgs false

/- What the functions compute, in plain Lean: numbers, lists of bytes, no program and no memory. No condition. -/
namespace Go.Proofs.YtcbdjmlkjifamaaGreatDoor

/-! ### spans -/
def spanMay (pos size : Int) : Int := if pos < 0 ∨ size < 0 then 1 else if 8192 < pos ∨ 8192 - pos < size then 18 else 0
def pagesOf (size : Int) : Int := if size < 1 then 0 else (size - 1) / 256 + 1
structure Part where
  page : Nat
  off : Nat
  size : Nat
deriving DecidableEq
def partsFrom (pos : Nat) (stop : Nat) : List Part :=
  if _h : pos < stop then ⟨pos / 256, pos % 256, min (256 - pos % 256) (stop - pos)⟩ :: partsFrom (pos + min (256 - pos % 256) (stop - pos)) stop else []
termination_by stop - pos
decreasing_by omega
def spanParts (pos size : Nat) : List Part := partsFrom pos (pos + size)
def spanCut (pos size stop : Int) : Int := if spanMay pos size ≠ 0 ∨ stop ≤ pos then 0 else min size (stop - pos)
theorem spanMay_zero {pos size : Int} (h : spanMay pos size = 0) : 0 ≤ pos ∧ 0 ≤ size ∧ pos ≤ 8192 ∧ size ≤ 8192 - pos := by
  unfold spanMay at h
  split at h
  · omega
  · split at h <;> omega
theorem partsFrom_step {pos stop : Nat} (h : pos < stop) : partsFrom pos stop = ⟨pos / 256, pos % 256, min (256 - pos % 256) (stop - pos)⟩ :: partsFrom (pos + min (256 - pos % 256) (stop - pos)) stop := by
  rw [partsFrom]
  simp [h]
theorem partsFrom_end {pos stop : Nat} (h : stop ≤ pos) : partsFrom pos stop = [] := by
  rw [partsFrom]
  rw [dif_neg (by omega)]
theorem partsFrom_length (pos stop : Nat) : (partsFrom pos stop).length ≤ stop - pos := by
  induction h : stop - pos using Nat.strongRecOn generalizing pos with
  | _ d ih =>
    by_cases hlt : pos < stop
    · rw [partsFrom_step hlt, List.length_cons]
      have := ih (stop - (pos + min (256 - pos % 256) (stop - pos))) (by omega) _ rfl
      omega
    · rw [partsFrom_end (by omega)]
      simp
theorem spanParts_length (pos size : Nat) : (spanParts pos size).length ≤ size := by
  have := partsFrom_length pos (pos + size)
  unfold spanParts
  omega
theorem partsFrom_mem {pos stop : Nat} {p : Part} (h : p ∈ partsFrom pos stop) : p.page * 256 + p.off + p.size ≤ stop ∧ pos ≤ p.page * 256 + p.off ∧ p.off + p.size ≤ 256 ∧ 0 < p.size := by
  induction hd : stop - pos using Nat.strongRecOn generalizing pos with
  | _ d ih =>
    by_cases hlt : pos < stop
    · rw [partsFrom_step hlt] at h
      rcases List.mem_cons.1 h with rfl | h
      · simp only
        omega
      · have := ih (stop - (pos + min (256 - pos % 256) (stop - pos))) (by omega) h rfl
        omega
    · rw [partsFrom_end (by omega)] at h
      cases h
def missing (pages : List UInt8) (ps : List Part) : List Nat := (ps.filter fun p => pages.getD p.page 0 == 0).map (·.page)

/-! ### gathering -/
def pad256 (pg : List UInt8) : List UInt8 := pg ++ List.replicate (256 - pg.length) 0
def piece (p : Part) (pg : List UInt8) : List UInt8 := ((pad256 pg).drop p.off).take p.size
def gather (ps : List Part) (pgs : List (List UInt8)) : List UInt8 := (ps.zip pgs).flatMap fun x => piece x.1 x.2
theorem pad256_length (pg : List UInt8) (h : pg.length ≤ 256) : (pad256 pg).length = 256 := by
  simp [pad256]
  omega
theorem piece_length (p : Part) (pg : List UInt8) (h : pg.length ≤ 256) (hp : p.off + p.size ≤ 256) : (piece p pg).length = p.size := by
  simp [piece, pad256_length pg h]
  omega
theorem gather_succ (ps : List Part) (pgs : List (List UInt8)) (k : Nat) (h1 : k < ps.length) (h2 : k < pgs.length) :
    gather (ps.take (k + 1)) (pgs.take (k + 1)) = gather (ps.take k) (pgs.take k) ++ piece ps[k] pgs[k] := by
  unfold gather
  rw [List.take_succ_eq_append_getElem h1, List.take_succ_eq_append_getElem h2, List.zip_append (by simp; omega)]
  simp

def spreadB (p : Part) (pg b : List UInt8) (from_ : Nat) : List UInt8 := pg.take p.off ++ ((b.drop from_).take p.size ++ pg.drop (p.off + p.size))
theorem spreadB_length (p : Part) (pg b : List UInt8) (f : Nat) (h1 : pg.length = 256) (h2 : p.off + p.size ≤ 256) (h3 : f + p.size ≤ b.length) : (spreadB p pg b f).length = 256 := by
  simp [spreadB]
  omega

/-! ### bitmaps -/
def bit (b : List UInt8) (n : Nat) : Bool := decide ((b.getD (n / 8) 0).toNat / 2 ^ (n % 8) % 2 = 1)
def setBit (b : List UInt8) (n : Nat) : List UInt8 := b.set (n / 8) (UInt8.ofNat ((b.getD (n / 8) 0).toNat ||| 2 ^ (n % 8)))
def clrBit (b : List UInt8) (n : Nat) : List UInt8 := b.set (n / 8) (UInt8.ofNat ((b.getD (n / 8) 0).toNat &&& (255 - 2 ^ (n % 8))))
/-- The first free place from n on, of k places. -/
def firstIn (b : List UInt8) : Nat → Nat → Option Nat
  | _, 0 => none
  | n, k + 1 => if bit b n then firstIn b (n + 1) k else some n
def bmFirst (b : List UInt8) (from_ to_ : Nat) : Option Nat := firstIn b from_ (min to_ (8 * b.length) - from_)
/-- How many are free from n on, of k places. -/
def freeIn (b : List UInt8) : Nat → Nat → Nat
  | _, 0 => 0
  | n, k + 1 => (if bit b n then 0 else 1) + freeIn b (n + 1) k
def bmFree (b : List UInt8) (from_ to_ : Nat) : Nat := freeIn b from_ (min to_ (8 * b.length) - from_)
def bmTake (b : List UInt8) (from_ to_ : Nat) : Nat → Option (List Nat × List UInt8)
  | 0 => some ([], b)
  | k + 1 => (bmFirst b from_ to_).bind fun n => (bmTake (setBit b n) from_ to_ k).map fun r => (n :: r.1, r.2)
def bmGive (b : List UInt8) : List Nat → List UInt8
  | [] => b
  | n :: l => bmGive (clrBit b n) l
def giveOk (b : List UInt8) : List Nat → Prop
  | [] => True
  | n :: l => n / 8 < b.length ∧ bit b n = true ∧ giveOk (clrBit b n) l
theorem setBit_length (b : List UInt8) (n : Nat) : (setBit b n).length = b.length := by simp [setBit]
theorem clrBit_length (b : List UInt8) (n : Nat) : (clrBit b n).length = b.length := by simp [clrBit]
theorem bmGive_length (l : List Nat) : ∀ b : List UInt8, (bmGive b l).length = b.length := by
  induction l with
  | nil => intro b; rfl
  | cons n l ih => intro b; simp [bmGive, ih, clrBit_length]
theorem firstIn_some {b : List UInt8} {n k m : Nat} (h : firstIn b n k = some m) : n ≤ m ∧ m < n + k ∧ bit b m = false := by
  induction k generalizing n with
  | zero => simp [firstIn] at h
  | succ k ih =>
    simp only [firstIn] at h
    split at h
    · have h3 := ih h
      exact ⟨by omega, by omega, h3.2.2⟩
    · rename_i hb
      injection h with h
      subst h
      exact ⟨by omega, by omega, by simpa using hb⟩
theorem bmFirst_some {b : List UInt8} {f t m : Nat} (h : bmFirst b f t = some m) : f ≤ m ∧ m < t ∧ m < 8 * b.length ∧ bit b m = false := by
  have h3 := firstIn_some h
  exact ⟨h3.1, by omega, by omega, h3.2.2⟩

theorem freeIn_of_some {b : List UInt8} {n k m : Nat} (h : firstIn b n k = some m) : freeIn b n k = 1 + freeIn b (m + 1) (n + k - (m + 1)) := by
  induction k generalizing n with
  | zero => simp [firstIn] at h
  | succ k ih =>
    simp only [firstIn] at h
    split at h
    · rename_i hb
      simp only [freeIn, hb, if_true]
      rw [ih h, show n + 1 + k = n + (k + 1) from by omega]
      omega
    · rename_i hb
      injection h with h
      subst h
      simp only [freeIn, hb]
      rw [show n + (k + 1) - (n + 1) = k from by omega]
      rfl
theorem freeIn_of_none {b : List UInt8} {n k : Nat} (h : firstIn b n k = none) : freeIn b n k = 0 := by
  induction k generalizing n with
  | zero => rfl
  | succ k ih =>
    simp only [firstIn] at h
    split at h
    · rename_i hb
      simp only [freeIn, hb, if_true]
      rw [ih h]
    · cases h
theorem bmFree_of_some {b : List UInt8} {f t m : Nat} (h : bmFirst b f t = some m) : bmFree b f t = 1 + bmFree b (m + 1) t := by
  have h1 := bmFirst_some h
  unfold bmFree
  rw [freeIn_of_some h]
  rw [show f + (min t (8 * b.length) - f) - (m + 1) = min t (8 * b.length) - (m + 1) from by omega]
theorem bmFree_of_none {b : List UInt8} {f t : Nat} (h : bmFirst b f t = none) : bmFree b f t = 0 := freeIn_of_none h

/-! ### texts in their places -/
/-- A text in its place. -/
def packText (s : List UInt8) (place : Nat) : List UInt8 := UInt8.ofNat s.length :: s ++ List.replicate (place - s.length) 0
theorem packText_length (s : List UInt8) (place : Nat) (h : s.length ≤ place) : (packText s place).length = place + 1 := by
  simp [packText]
  omega

/-! ### numbers as bytes -/
/-- The number of bytes, the least first. -/
def leNat : List UInt8 → Nat
  | [] => 0
  | b :: l => b.toNat + 256 * leNat l
/-- A number's bytes, the least first. -/
def leBytes (n : Nat) : Nat → List UInt8
  | 0 => []
  | k + 1 => UInt8.ofNat n :: leBytes (n / 256) k
theorem leBytes_length (n k : Nat) : (leBytes n k).length = k := by
  induction k generalizing n with
  | zero => rfl
  | succ k ih => simp [leBytes, ih]
theorem leNat_leBytes (n k : Nat) (h : n < 256 ^ k) : leNat (leBytes n k) = n := by
  induction k generalizing n with
  | zero =>
    simp at h
    simp [leBytes, leNat, h]
  | succ k ih =>
    have h2 : n / 256 < 256 ^ k := by
      rw [Nat.div_lt_iff_lt_mul (by omega)]
      rw [Nat.pow_succ] at h
      exact h
    simp only [leBytes, leNat]
    rw [ih _ h2]
    simp
    omega
theorem leNat_lt (l : List UInt8) : leNat l < 256 ^ l.length := by
  induction l with
  | nil => simp [leNat]
  | cons b l ih =>
    have := UInt8.toNat_lt b
    simp only [leNat, List.length_cons, Nat.pow_succ]
    omega
theorem leNat_append (l m : List UInt8) : leNat (l ++ m) = leNat l + 256 ^ l.length * leNat m := by
  induction l with
  | nil => simp [leNat]
  | cons b l ih =>
    simp only [List.cons_append, leNat, ih, List.length_cons, Nat.pow_succ]
    rw [Nat.mul_add, ← Nat.mul_assoc, Nat.mul_comm 256 (256 ^ l.length)]
    omega
end Go.Proofs.YtcbdjmlkjifamaaGreatDoor

/- Laws of the map's bits: set, cleared, taken, given. No program. No condition. -/
namespace Go.Proofs.YtcbdjmlkjifamaaGreatDoor

theorem bit_test (b : List UInt8) (n : Nat) : bit b n = (b.getD (n / 8) 0).toNat.testBit (n % 8) := by
  unfold bit
  rw [Nat.testBit_eq_decide_div_mod_eq]
theorem toNat_or (x : UInt8) (k : Nat) (hk : k < 8) : (UInt8.ofNat (x.toNat ||| 2 ^ k)).toNat = x.toNat ||| 2 ^ k := by
  refine UInt8.toNat_ofNat_of_lt' ?_
  exact Nat.or_lt_two_pow (n := 8) (UInt8.toNat_lt x) (Nat.pow_lt_pow_right (by omega) hk)
theorem toNat_and (x : UInt8) (m : Nat) : (UInt8.ofNat (x.toNat &&& m)).toNat = x.toNat &&& m := by
  refine UInt8.toNat_ofNat_of_lt' ?_
  exact Nat.lt_of_le_of_lt Nat.and_le_left (UInt8.toNat_lt x)
theorem testBit_mask (k i : Nat) (hk : k < 8) (hi : i < 8) : (255 - 2 ^ k).testBit i = !decide (k = i) := by
  have key : ∀ (k i : Fin 8), (255 - 2 ^ k.val).testBit i.val = !decide (k.val = i.val) := by decide
  exact key ⟨k, hk⟩ ⟨i, hi⟩

theorem bit_setBit (b : List UInt8) (n m : Nat) (hn : n / 8 < b.length) : bit (setBit b n) m = (decide (n = m) || bit b m) := by
  rw [bit_test, bit_test]
  unfold setBit
  by_cases h : n / 8 = m / 8
  · rw [h] at hn
    rw [h, List.getD_eq_getElem?_getD, List.getElem?_set_self hn, Option.getD_some, toNat_or _ _ (Nat.mod_lt _ (by omega)), Nat.testBit_or, Nat.testBit_two_pow, Bool.or_comm]
    congr 1
    apply decide_eq_decide.2
    omega
  · rw [List.getD_eq_getElem?_getD, List.getElem?_set_ne h, ← List.getD_eq_getElem?_getD]
    have : decide (n = m) = false := by simp; rintro rfl; exact h rfl
    rw [this, Bool.false_or]
theorem bit_clrBit (b : List UInt8) (n m : Nat) (hn : n / 8 < b.length) : bit (clrBit b n) m = (!decide (n = m) && bit b m) := by
  rw [bit_test, bit_test]
  unfold clrBit
  by_cases h : n / 8 = m / 8
  · rw [h] at hn
    rw [h, List.getD_eq_getElem?_getD, List.getElem?_set_self hn, Option.getD_some, toNat_and, Nat.testBit_and, testBit_mask _ _ (Nat.mod_lt _ (by omega)) (Nat.mod_lt _ (by omega)), Bool.and_comm]
    congr 2
    apply decide_eq_decide.2
    omega
  · rw [List.getD_eq_getElem?_getD, List.getElem?_set_ne h, ← List.getD_eq_getElem?_getD]
    have : decide (n = m) = false := by simp; rintro rfl; exact h rfl
    rw [this, Bool.not_false, Bool.true_and]
theorem bit_len {b : List UInt8} {n : Nat} (h : bit b n = true) : n / 8 < b.length := by
  rcases Nat.lt_or_ge (n / 8) b.length with h1 | h1
  · exact h1
  · unfold bit at h
    rw [List.getD_eq_getElem?_getD, List.getElem?_eq_none h1] at h
    simp at h

/-- What take takes: free places, each once; they are taken then, and all else is as it was. -/
theorem bmTake_spec (f t : Nat) : ∀ (k : Nat) (b : List UInt8) (l : List Nat) (b2 : List UInt8), bmTake b f t k = some (l, b2) →
    l.length = k ∧ b2.length = b.length ∧ l.Nodup ∧ (∀ p ∈ l, f ≤ p ∧ p < t ∧ p < 8 * b.length ∧ bit b p = false) ∧ ∀ m, bit b2 m = (decide (m ∈ l) || bit b m) := by
  intro k
  induction k with
  | zero =>
    intro b l b2 h
    simp only [bmTake, Option.some.injEq, Prod.mk.injEq] at h
    obtain ⟨rfl, rfl⟩ := h
    exact ⟨rfl, rfl, List.nodup_nil, (fun p hp => by cases hp), (fun m => by simp)⟩
  | succ k ih =>
    intro b l b2 h
    simp only [bmTake, Option.bind_eq_some_iff, Option.map_eq_some_iff] at h
    obtain ⟨n, hn, r, hr, he⟩ := h
    injection he with h1 h2
    subst h1; subst h2
    obtain ⟨g1, g2, g3, g4⟩ := bmFirst_some hn
    have hn8 : n / 8 < b.length := by omega
    obtain ⟨i1, i2, i3, i4, i5⟩ := ih (setBit b n) r.1 r.2 hr
    rw [setBit_length] at i2 i4
    have hbs : ∀ m, bit (setBit b n) m = (decide (n = m) || bit b m) := fun m => bit_setBit b n m hn8
    refine ⟨by rw [List.length_cons, i1], i2, List.nodup_cons.2 ⟨fun hm => ?_, i3⟩, fun p hp => ?_, fun m => ?_⟩
    · have := (i4 n hm).2.2.2
      rw [hbs] at this
      simp at this
    · rcases List.mem_cons.1 hp with rfl | hp
      · exact ⟨g1, g2, g3, g4⟩
      · obtain ⟨j1, j2, j3, j4⟩ := i4 p hp
        rw [hbs] at j4
        simp only [Bool.or_eq_false_iff] at j4
        exact ⟨j1, j2, j3, j4.2⟩
    · rw [i5, hbs]
      simp only [List.mem_cons]
      by_cases e : m = n
      · subst e; simp
      · have e2 : ¬ n = m := fun h => e h.symm
        simp [e, e2]
/-- What give does. -/
theorem bmGive_spec : ∀ (l : List Nat) (b : List UInt8), l.Nodup → (∀ p ∈ l, bit b p = true) → giveOk b l ∧ ∀ m, bit (bmGive b l) m = (!decide (m ∈ l) && bit b m) := by
  intro l
  induction l with
  | nil => intro b _ _; exact ⟨trivial, fun m => by simp [bmGive]⟩
  | cons n l ih =>
    intro b hd hb
    obtain ⟨hn, hd⟩ := List.nodup_cons.1 hd
    have hn1 := hb n (by simp)
    have hn8 := bit_len hn1
    have hbs : ∀ m, bit (clrBit b n) m = (!decide (n = m) && bit b m) := fun m => bit_clrBit b n m hn8
    obtain ⟨i1, i2⟩ := ih (clrBit b n) hd (fun p hp => by
      rw [hbs, hb p (by simp [hp])]
      have : ¬ n = p := by rintro rfl; exact hn hp
      simp [this])
    refine ⟨⟨hn8, hn1, i1⟩, fun m => ?_⟩
    show bit (bmGive (clrBit b n) l) m = _
    rw [i2, hbs]
    simp only [List.mem_cons]
    by_cases e : m = n
    · subst e; simp
    · have e2 : ¬ n = m := fun h => e h.symm
      simp [e, e2]
end Go.Proofs.YtcbdjmlkjifamaaGreatDoor
