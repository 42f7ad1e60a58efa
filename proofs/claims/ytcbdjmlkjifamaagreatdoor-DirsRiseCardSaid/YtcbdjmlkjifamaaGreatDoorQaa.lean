/-
  Words on memory that all walks of this seat use: a world kept but for some blocks, a slice that reads as a list, a block known whole, append onto a row of the call's own. No condition.
-/
import Derived.Test.YtcbdjmlkjifamaaGreatDoorProg
import Derived.Below
import Derived.Deep.Draws
import Derived.Deep.AppendLies
import Derived.Maps.AppendAt
import Derived.OwnWalk
import Derived.WalkKit
import Derived.KernelRfl
import Derived.RowKit3
import Derived.Deep.LoopGhost
import Derived.Deep.QuietTactic
import Derived.BigQuiet
import Derived.Laws.OwnMore
import Derived.Laws.Rows
import Derived.Lib.Hide
import Derived.Deep.DeepMust
import Derived.Outline
set_option linter.unusedVariables false
set_option linter.unusedSimpArgs false

namespace Go.Proofs.YtcbdjmlkjifamaaGreatDoor
open Go.RowKit

/-- All blocks that were there, but those of D, are as they were. -/
structure Kept (D : List Nat) (w w' : World) : Prop where
  os : w'.os = w.os
  tape : w'.tape = w.tape
  output : w'.output = w.output
  size : w.heap.size ≤ w'.heap.size
  block : ∀ k, k < w.heap.size → k ∉ D → w'.heap[k]? = w.heap[k]?

/-- The blocks of D are there. -/
def Old (D : List Nat) (w : World) : Prop := ∀ d ∈ D, d < w.heap.size

/-- The walk stops at a goal under this name. -/
def Stop (p : Prop) : Prop := p
theorem Stop.here {p : Prop} (h : Stop p) : p := h
theorem Stop.go {p : Prop} (h : p) : Stop p := h

/-- The walk stops ahead of a copy; a store; a load. -/
theorem stop_copy {P : Program} {ops : Array Oper} {rest : List Oper} {a : Act} {w : World} {Q : Exit → Act → World → Prop} {dst : Option Tmp} {args : Array Operand} {ats : Array TypeId} {ty : TypeId} {pos : String} {after : Array Edge} {g : Option (Nat × Bool)}
    (h : Stop (wpList P ops Q ({ dst := dst, op := .call { callee := .builtin .copy, args := args, argTypes := ats }, type := ty, pos := pos, after := after, guard := g } :: rest) a w)) :
    wpList P ops Q ({ dst := dst, op := .call { callee := .builtin .copy, args := args, argTypes := ats }, type := ty, pos := pos, after := after, guard := g } :: rest) a w := h
theorem stop_store {P : Program} {ops : Array Oper} {rest : List Oper} {a : Act} {w : World} {Q : Exit → Act → World → Prop} {dst : Option Tmp} {t : TypeId} {x y : Operand} {ty : TypeId} {pos : String} {after : Array Edge} {g : Option (Nat × Bool)}
    (h : Stop (wpList P ops Q ({ dst := dst, op := .store t x y, type := ty, pos := pos, after := after, guard := g } :: rest) a w)) :
    wpList P ops Q ({ dst := dst, op := .store t x y, type := ty, pos := pos, after := after, guard := g } :: rest) a w := h
theorem stop_load {P : Program} {ops : Array Oper} {rest : List Oper} {a : Act} {w : World} {Q : Exit → Act → World → Prop} {dst : Option Tmp} {t : TypeId} {x : Operand} {ty : TypeId} {pos : String} {after : Array Edge} {g : Option (Nat × Bool)}
    (h : Stop (wpList P ops Q ({ dst := dst, op := .load t x, type := ty, pos := pos, after := after, guard := g } :: rest) a w)) :
    wpList P ops Q ({ dst := dst, op := .load t x, type := ty, pos := pos, after := after, guard := g } :: rest) a w := h

theorem block_of_add (a : Addr) (n : Nat) : (a.add n).block = a.block := by unfold Addr.add; split <;> rfl
theorem add_of_add (a : Addr) (i j : Nat) : (a.add i).add j = a.add (i + j) := by
  unfold Addr.add
  by_cases hi : i = 0 <;> by_cases hj : j = 0 <;> simp [hi, hj, Nat.add_assoc]
theorem add_pos (a : Addr) (i : Nat) (h : 0 < i) : a.add i = ⟨a.block, a.off + i, none⟩ := by
  unfold Addr.add
  rw [if_neg (by omega)]

namespace Kept
variable {D D' : List Nat} {w w' w'' : World}
theorem refl (D : List Nat) (w : World) : Kept D w w := ⟨rfl, rfl, rfl, Nat.le_refl _, fun _ _ _ => rfl⟩
theorem trans (h : Kept D w w') (k : Kept D w' w'') : Kept D w w'' :=
  ⟨k.os.trans h.os, k.tape.trans h.tape, k.output.trans h.output, Nat.le_trans h.size k.size,
   fun i hi hn => (k.block i (Nat.lt_of_lt_of_le hi h.size) hn).trans (h.block i hi hn)⟩
theorem mono (h : Kept D w w') (hs : ∀ d ∈ D, d ∈ D') : Kept D' w w' :=
  ⟨h.os, h.tape, h.output, h.size, fun i hi hn => h.block i hi (fun hm => hn (hs i hm))⟩
theorem any (h : Kept [] w w') : Kept D w w' := h.mono (fun _ hd => by cases hd)
/-- What a call changes among the blocks that it made itself is nothing to who called. -/
theorem narrow (h : Kept D w w') (hs : ∀ d ∈ D, d < w.heap.size → d ∈ D') : Kept D' w w' :=
  ⟨h.os, h.tape, h.output, h.size, fun i hi hn => h.block i hi (fun hm => hn (hs i hm hi))⟩
theorem cell (h : Kept D w w') {a : Addr} (ha : a.block < w.heap.size) (hn : a.block ∉ D) : w'.cell? a = w.cell? a := World.cell?_of_block (h.block a.block ha hn)
theorem frozen (h : Kept D w w') {a : Addr} (ha : a.block < w.heap.size) (hn : a.block ∉ D) : w'.frozen? a = w.frozen? a := World.frozen?_of_block (h.block a.block ha hn)
theorem drew (h : Kept D w w') : Kept D w w'.drew := ⟨h.os, h.tape, h.output, h.size, h.block⟩
theorem drewN (h : Kept D w w') (n : Nat) : Kept D w (w'.drewN n) := ⟨h.os, h.tape, h.output, h.size, h.block⟩
theorem alloc (h : Kept D w w') (o : Obj) : Kept D w (w'.alloc o) :=
  ⟨h.os, h.tape, h.output, Nat.le_trans h.size (by simp), fun i hi hn => (Below.heap_alloc w' o i (Nat.lt_of_lt_of_le hi h.size)).trans (h.block i hi hn)⟩
theorem setCell (h : Kept D w w') {p : Addr} (hp : w.heap.size ≤ p.block ∨ p.block ∈ D) (u : Value) : Kept D w (w'.setCell p u) :=
  ⟨h.os, h.tape, h.output, by simpa [World.setCell] using h.size, fun i hi hn => (Below.heap_setCell w' p u i (by
    rintro rfl
    rcases hp with hp | hp
    · omega
    · exact hn hp)).trans (h.block i hi hn)⟩
theorem grown {row : Option Nat} (h : Kept D w w') (hg : w'.grownBy w'' row) (hr : ∀ k, row = some k → w.heap.size ≤ k ∨ k ∈ D) : Kept D w w'' :=
  ⟨hg.os.trans h.os, hg.tape.trans h.tape, hg.output.trans h.output, Nat.le_trans h.size hg.size,
   fun i hi hn => (hg.block i (Nat.lt_of_lt_of_le hi h.size) (fun e => by
     rcases hr i e.symm with h1 | h1
     · omega
     · exact hn h1)).trans (h.block i hi hn)⟩
theorem of_below (h : Below w.heap.size w w') : Kept D w w' := ⟨h.os, h.tape, h.output, h.size, fun i hi _ => h.block i hi⟩
theorem behind {B : Nat} (h : Kept D w w') (k : Below B w' w'') (hB : w.heap.size ≤ B) : Kept D w w'' :=
  ⟨k.os.trans h.os, k.tape.trans h.tape, k.output.trans h.output, Nat.le_trans h.size k.size, fun i hi hn => (k.block i (by omega)).trans (h.block i hi hn)⟩
theorem below (h : Kept [] w w') : Below w.heap.size w w' := ⟨h.os, h.tape, h.output, h.size, fun i hi => h.block i hi (by simp)⟩
end Kept

namespace Old
variable {D : List Nat} {w w' : World}
theorem kept {D' : List Nat} (h : Old D w) (k : Kept D' w w') : Old D w' := fun d hd => Nat.lt_of_lt_of_le (h d hd) k.size
theorem size (h : Old D w) (k : w.heap.size ≤ w'.heap.size) : Old D w' := fun d hd => Nat.lt_of_lt_of_le (h d hd) k
theorem new (h : Old D w) {b : Nat} (hb : w.heap.size ≤ b) : b ∉ D := fun hd => by have := h b hd; omega
theorem nil (w : World) : Old [] w := fun _ hd => by cases hd
theorem cons {d : Nat} (h : Old D w) (hd : d < w.heap.size) : Old (d :: D) w := fun x hx => by
  rcases List.mem_cons.1 hx with rfl | hx
  · exact hd
  · exact h x hx
end Old

/-- The slice '.slice A n c' reads in w as the cells xs (size cells an element); its block holds elements of type e, and is none of D. -/
structure Sl (w : World) (D : List Nat) (e : TypeId) (size : Nat) (A : Option Addr) (n c : Nat) (xs : List Value) : Prop where
  len : xs.length = n * size
  small : n ≤ 140737488355328
  cap : n ≤ c
  capm : c ≤ 9223372036854775807
  at_ : 0 < n → ∃ ad, A = some ad ∧ ad.block ∉ D ∧ (∃ cs fr, w.heap[ad.block]? = some (.cells cs e fr)) ∧ ∀ j u, xs[j]? = some u → w.cell? (ad.add j) = some u

theorem lt_of_heap {w : World} {b : Nat} {o : Obj} (h : w.heap[b]? = some o) : b < w.heap.size := (Array.getElem?_eq_some_iff.1 h).1

namespace Sl
variable {w w' : World} {D D' : List Nat} {e : TypeId} {size : Nat} {A : Option Addr} {n c : Nat} {xs : List Value}
theorem nil_ (w : World) (D : List Nat) (e : TypeId) (size : Nat) (A : Option Addr) {c : Nat} (hc : c ≤ 9223372036854775807) : Sl w D e size A 0 c [] :=
  ⟨by simp, by omega, by omega, hc, fun h => by omega⟩
theorem kept (h : Sl w D e size A n c xs) (k : Kept D' w w') (hs : ∀ d ∈ D', d ∈ D ∨ w.heap.size ≤ d) : Sl w' D e size A n c xs := by
  refine ⟨h.len, h.small, h.cap, h.capm, fun hn => ?_⟩
  obtain ⟨ad, hA, hD, ⟨cs, fr, hb⟩, hc⟩ := h.at_ hn
  have hlt := lt_of_heap hb
  have hnd : ad.block ∉ D' := fun hm => by
    rcases hs _ hm with h1 | h1
    · exact hD h1
    · omega
  have hbl := k.block ad.block hlt hnd
  exact ⟨ad, hA, hD, ⟨cs, fr, hbl.trans hb⟩, fun j u hu => (World.cell?_of_block (by rw [block_of_add]; exact hbl)).trans (hc j u hu)⟩
theorem keep (h : Sl w D e size A n c xs) (k : Kept D w w') : Sl w' D e size A n c xs := h.kept k (fun _ hd => .inl hd)
theorem keep0 (h : Sl w D e size A n c xs) (k : Kept [] w w') : Sl w' D e size A n c xs := h.kept k (fun _ hd => by cases hd)
theorem less (h : Sl w D e size A n c xs) (hs : ∀ d ∈ D', d ∈ D) : Sl w D' e size A n c xs :=
  ⟨h.len, h.small, h.cap, h.capm, fun hn => by
    obtain ⟨ad, hA, hD, r⟩ := h.at_ hn
    exact ⟨ad, hA, fun hm => hD (hs _ hm), r⟩⟩
/-- Blocks that come behind w may be avoided, too. -/
theorem more (h : Sl w D e size A n c xs) (hs : ∀ d ∈ D', d ∈ D ∨ w.heap.size ≤ d) : Sl w D' e size A n c xs :=
  ⟨h.len, h.small, h.cap, h.capm, fun hn => by
    obtain ⟨ad, hA, hD, ⟨cs, fr, hb⟩, r⟩ := h.at_ hn
    refine ⟨ad, hA, fun hm => ?_, ⟨cs, fr, hb⟩, r⟩
    rcases hs _ hm with h1 | h1
    · exact hD h1
    · have := lt_of_heap hb; omega⟩
/-- Behind writes to one row of other elements. -/
theorem other (h : Sl w D e size A n c xs) {g : Nat} (k : Kept [g] w w') {e' : TypeId} {cs' : Array Value} {fr' : Nat × Nat} (hg : w.heap[g]? = some (.cells cs' e' fr')) (hne : e ≠ e') : Sl w' D e size A n c xs := by
  refine ⟨h.len, h.small, h.cap, h.capm, fun hn => ?_⟩
  obtain ⟨ad, hA, hD, ⟨cs, fr, hb⟩, hc⟩ := h.at_ hn
  have hnd : ad.block ∉ [g] := fun hm => by
    rw [List.mem_singleton] at hm
    rw [hm, hg] at hb
    injection hb with hb
    injection hb with _ ht
    exact hne ht.symm
  have hbl := k.block ad.block (lt_of_heap hb) hnd
  exact ⟨ad, hA, hD, ⟨cs, fr, hbl.trans hb⟩, fun j u hu => (World.cell?_of_block (by rw [block_of_add]; exact hbl)).trans (hc j u hu)⟩
theorem cut (h : Sl w D e size A n c xs) {k : Nat} (hk : k ≤ n) : Sl w D e size (if c = k then A else A.map (·.add (k * size))) (n - k) (c - k) (xs.drop (k * size)) := by
  refine ⟨by rw [List.length_drop, h.len, Nat.sub_mul], by have := h.small; omega, by have := h.cap; omega, by have := h.capm; omega, fun hn => ?_⟩
  obtain ⟨ad, rfl, hD, ⟨cs, fr, hb⟩, hcell⟩ := h.at_ (by omega)
  rw [if_neg (by have := h.cap; omega)]
  refine ⟨ad.add (k * size), rfl, by rw [block_of_add]; exact hD, ⟨cs, fr, by rw [block_of_add]; exact hb⟩, fun j u hu => ?_⟩
  rw [add_of_add]
  exact hcell _ u (by rw [← hu, List.getElem?_drop])
theorem take (h : Sl w D e size A n c xs) {k : Nat} (hk : k ≤ n) : Sl w D e size A k c (xs.take (k * size)) := by
  refine ⟨?_, by have := h.small; omega, by have := h.cap; omega, h.capm, fun hn => ?_⟩
  · rw [List.length_take, h.len]
    exact Nat.min_eq_left (Nat.mul_le_mul_right _ hk)
  · obtain ⟨ad, rfl, hD, hb, hcell⟩ := h.at_ (by omega)
    refine ⟨ad, rfl, hD, hb, fun j u hu => hcell j u ?_⟩
    rw [List.getElem?_take] at hu
    split at hu
    · exact hu
    · cases hu
/-- The cell of element k (one cell an element). -/
theorem one {k : Nat} (h : Sl w D e 1 A n c xs) (hk : k < n) : ∃ ad u, A = some ad ∧ xs[k]? = some u ∧ w.cell? (ad.add k) = some u := by
  obtain ⟨ad, hA, _, _, hc⟩ := h.at_ (by omega)
  have hl : k < xs.length := by have := h.len; omega
  exact ⟨ad, xs[k], hA, List.getElem?_eq_getElem hl, hc k _ (List.getElem?_eq_getElem hl)⟩
theorem of_own {base cap : Nat} {g : Nat} (h : w.ownsRow base e size (.slice (some ⟨g, 0, none⟩) n cap) n xs) (hg : g ∉ D) (hs : n ≤ 140737488355328) : Sl w D e size (some ⟨g, 0, none⟩) n cap xs := by
  rcases h.2 with ⟨h0, _⟩ | ⟨g', cap', cur, hv, _, hh, hnc, hcm, _, _⟩
  · cases h0
  · have e1 : g = g' := by injection hv with h1; injection h1 with h1; injection h1
    have e2 : cap = cap' := by injection hv
    subst e1; subst e2
    exact ⟨h.1, hs, hnc, by simpa [maxLen] using hcm, fun _ => ⟨_, rfl, hg, ⟨_, _, hh⟩, h.cells (g := g) rfl⟩⟩
/-- A row of the call's own reads as what it holds, whatever blocks that were there ahead of it are avoided. -/
theorem of_row {base : Nat} {v : Value} (h : w.ownsRow base e size v n xs) (hD : ∀ d ∈ D, d < base) (hs : n ≤ 140737488355328) :
    ∃ A cap, v = .slice A n cap ∧ Sl w D e size A n cap xs := by
  rcases h.2 with ⟨rfl, rfl⟩ | ⟨g, cap, cur, rfl, hbg, hh, hnc, hcm, _, _⟩
  · have hx : xs = [] := List.eq_nil_of_length_eq_zero (by simpa using h.1)
    subst hx
    exact ⟨none, 0, rfl, Sl.nil_ w D e size none (by omega)⟩
  · exact ⟨_, cap, rfl, of_own h (fun hm => by have := hD g hm; omega) hs⟩
/-- A row that was laid this moment. -/
theorem new {w : World} {D : List Nat} {e : TypeId} {size n : Nat} {xs : List Value} {b : Nat} (hb : b = w.heap.size) (hD : b ∉ D) (hs : xs.length = n * size) (hn : n ≤ 140737488355328) :
    Sl (w.alloc (.cells xs.toArray e)) D e size (some ⟨b, 0, none⟩) n n xs := by
  subst hb
  refine ⟨hs, hn, Nat.le_refl _, by omega, fun _ => ⟨_, rfl, hD, ⟨_, _, heap_alloc_new w _⟩, fun j u hu => ?_⟩⟩
  have hadd : (⟨w.heap.size, 0, none⟩ : Addr).add j = ⟨w.heap.size, j, none⟩ := by unfold Addr.add; split <;> simp_all
  rw [hadd, cell_of_row _ w.heap.size j xs.toArray e (0, 0) (heap_alloc_new w _)]
  simpa using hu
end Sl

theorem below_alloc2 {B : Nat} {w : World} (hB : B ≤ w.heap.size) (o1 o2 : Obj) : Below B w ((w.alloc o1).alloc o2) := ((Below.refl _ _).alloc hB o1).alloc (by simp; omega) o2
theorem below_of_row {W : World} {base : Nat} {e : TypeId} {size n : Nat} {v : Value} {xs : List Value} {w w' : World} (hk : Below base W w) (h : w.ownsRow base e size v n xs) (hg : w.grownBy w' v.ownBlock) (hb : base ≤ w.heap.size) : Below base W w' :=
  hk.grown hg hb (fun k hkk => (h.lt k hkk).1)
theorem ownsRow_far {w : World} {base : Nat} {e : TypeId} {size n : Nat} {v : Value} {xs : List Value} (h : w.ownsRow base e size v n xs) {g : Nat} {t : TypeId} {cs : Array Value} (hg : w.heap[g]? = some (.cells cs t (0, 0))) (hne : e ≠ t) (i : Nat) (u : Value) :
    (w.setCell ⟨g, i, none⟩ u).ownsRow base e size v n xs := by
  refine ⟨h.1, ?_⟩
  rcases h.2 with hn | ⟨g', cap, cur, rfl, hb, hgg, rest⟩
  · exact .inl hn
  · refine .inr ⟨g', cap, cur, rfl, hb, ?_, rest⟩
    rw [Below.heap_setCell]
    · exact hgg
    · rintro rfl
      rw [hg] at hgg
      injection hgg with hgg
      injection hgg with _ ht
      exact hne ht.symm
theorem own_form {w : World} {base : Nat} {e : TypeId} {size n : Nat} {v : Value} {xs : List Value} (h : w.ownsRow base e size v n xs) : ∃ A c, v = .slice A n c := by
  rcases h.2 with ⟨rfl, rfl⟩ | ⟨g, cap, _, rfl, _⟩
  · exact ⟨_, _, rfl⟩
  · exact ⟨_, _, rfl⟩
theorem own_ne {w : World} {base : Nat} {e : TypeId} {size n : Nat} {v : Value} {xs : List Value} (h : w.ownsRow base e size v n xs) {g : Nat} {t : TypeId} {cs : Array Value} (hg : w.heap[g]? = some (.cells cs t (0, 0))) (hne : e ≠ t) : some g ≠ v.ownBlock := by
  rcases h.2 with ⟨rfl, _⟩ | ⟨g', cap, cur, rfl, _, hh, _⟩
  · simp [Value.ownBlock]
  · intro he
    have : g' = g := by simpa [Value.ownBlock] using he.symm
    subst this
    rw [hh] at hg
    injection hg with hg
    injection hg with _ ht
    exact hne ht

theorem own_own_ne {w : World} {b1 b2 : Nat} {e1 e2 : TypeId} {s1 s2 n1 n2 : Nat} {v1 v2 : Value} {xs1 xs2 : List Value} (h1 : w.ownsRow b1 e1 s1 v1 n1 xs1) (h2 : w.ownsRow b2 e2 s2 v2 n2 xs2) (hne : e1 ≠ e2) : v1.ownBlock = none ∨ v1.ownBlock ≠ v2.ownBlock := by
  rcases h1.2 with ⟨rfl, _⟩ | ⟨g, cap, cur, rfl, _, hh, _⟩
  · exact .inl rfl
  · refine .inr ?_
    intro he
    exact own_ne h2 hh (fun e => hne e.symm) (by simpa [Value.ownBlock] using he)

/-- Block g is just the cells cs of element type t, none frozen. -/
def Blk (w : World) (g : Nat) (t : TypeId) (cs : Array Value) : Prop := w.heap[g]? = some (.cells cs t (0, 0))
namespace Blk
variable {w w' : World} {g : Nat} {t : TypeId} {cs : Array Value} {D : List Nat}
theorem lt (h : Blk w g t cs) : g < w.heap.size := lt_of_heap h
theorem cell (h : Blk w g t cs) (i : Nat) : w.cell? ⟨g, i, none⟩ = cs[i]? := cell_of_row w g i cs t (0, 0) h
theorem frozen (h : Blk w g t cs) (i : Nat) : w.frozen? ⟨g, i, none⟩ = false := by
  unfold Blk at h
  simp [World.frozen?, h]
theorem new (w : World) (t : TypeId) (cs : Array Value) : Blk (w.alloc (.cells cs t)) w.heap.size t cs := heap_alloc_new w _
theorem drew (h : Blk w g t cs) : Blk w.drew g t cs := h
theorem drewN (h : Blk w g t cs) (n : Nat) : Blk (w.drewN n) g t cs := h
theorem alloc (h : Blk w g t cs) (o : Obj) : Blk (w.alloc o) g t cs := (Below.heap_alloc w o g h.lt).trans h
theorem set_ (h : Blk w g t cs) (i : Nat) (u : Value) : Blk (w.setCell ⟨g, i, none⟩ u) g t (cs.setIfInBounds i u) := by
  unfold Blk at h ⊢
  simp [World.setCell, Array.getElem?_modify, h]
theorem far (h : Blk w g t cs) {p : Addr} (hp : g ≠ p.block) (u : Value) : Blk (w.setCell p u) g t cs := (Below.heap_setCell w p u g hp).trans h
theorem keep (h : Blk w g t cs) (k : Kept D w w') (hg : g ∉ D) : Blk w' g t cs := (k.block g h.lt hg).trans h
theorem keep0 (h : Blk w g t cs) (k : Kept [] w w') : Blk w' g t cs := (k.block g h.lt (by simp)).trans h
theorem grown {row : Option Nat} (h : Blk w g t cs) (hb : w.grownBy w' row) (hg : some g ≠ row) : Blk w' g t cs := (hb.block g h.lt hg).trans h
theorem ne_ {g' : Nat} {t' : TypeId} {cs' : Array Value} (h : Blk w g t cs) (h' : Blk w g' t' cs') (hne : t ≠ t') : g ≠ g' := by
  rintro rfl
  unfold Blk at h h'
  rw [h] at h'
  injection h' with h'
  injection h' with _ ht
  exact hne ht
end Blk

theorem grown_own_none {w w' : World} {base : Nat} {e : TypeId} {size n : Nat} {v : Value} {xs : List Value} {W : World} (h : w.ownsRow base e size v n xs) (hk : Kept [] W w) (hb : W.heap.size ≤ base) (hg : w.grownBy w' v.ownBlock) : Kept [] W w' :=
  hk.grown hg (fun k hkk => .inl (by have := (h.lt k hkk).1; omega))

section append_any
variable {P : Program} (w : World)
theorem run_append_of_nil (base : Nat) (t ty e : TypeId) (i : TypeInfo) (size : Nat) (ht : P.underlying t = some (.slice e)) (hi : P.info? e = some i)
    (v : Value) (n : Nat) (xs : List Value) (hown : w.ownsRow base e size v n xs) (c : Nat) : (Builtin.append_ #[t, t] ty #[v, .slice none 0 c]).run P w = .ok v w := by
  rcases hown.2 with ⟨rfl, rfl⟩ | ⟨g, cap, cur, rfl, _, _, hnc, _⟩
  · simp [Builtin.append_, run_underlying ht, sizeOf, typeInfo, hi, Builtin.lenOf, Builtin.firstCells]
  · simp [Builtin.append_, run_underlying ht, sizeOf, typeInfo, hi, Builtin.lenOf, Builtin.firstCells, hnc, storeCells]

theorem run_append_any (base : Nat) (t ty e : TypeId) (i : TypeInfo) (z : Value) (size bytes : Nat) (ht : P.underlying t = some (.slice e)) (hi : P.info? e = some i) (hz : i.zero = some z)
    (hsize : i.size = size) (hby : i.bytes = bytes) (hzs : z.cells.size = size) (hsz : 0 < size)
    (v : Value) (n : Nat) (xs : List Value) (hown : w.ownsRow base e size v n xs)
    (D : List Nat) (e' : TypeId) (A : Option Addr) (m c : Nat) (news : List Value) (hr : Sl w D e' size A m c news) (h1 : ∀ u ∈ news, u.oneCell' = true)
    (h63 : n + m ≤ maxLen) (hbytes : (n + m) * bytes ≤ 140737488355328) (hbase : base ≤ w.heap.size) :
    ∃ v' w', (Builtin.append_ #[t, t] ty #[v, .slice A m c]).run P w = .ok v' w' ∧ w'.ownsRow base e size v' (n + m) (xs ++ news) ∧ w.grownBy w' v.ownBlock ∧
      (v'.ownBlock = v.ownBlock ∨ v'.ownBlock = some w.heap.size) := by
  have hnil : m = 0 → news = [] := fun h0 => List.eq_nil_of_length_eq_zero (by rw [hr.len, h0]; simp)
  rcases A with _ | ad
  · have hm : m = 0 := by
      rcases Nat.eq_zero_or_pos m with h0 | h0
      · exact h0
      · obtain ⟨ad, h, _⟩ := hr.at_ h0
        cases h
    have hn := hnil hm
    subst hm; subst hn
    exact ⟨v, w, run_append_of_nil w base t ty e i size ht hi v n xs hown c, by simpa using hown, World.grownBy.refl w _, .inl rfl⟩
  · have hcells : ∀ j u, news[j]? = some u → w.cell? (ad.add j) = some u := by
      intro j u hu
      rcases Nat.eq_zero_or_pos m with h0 | h0
      · rw [hnil h0] at hu
        simp at hu
      · obtain ⟨ad', h, _, _, hc⟩ := hr.at_ h0
        injection h with h
        subst h
        exact hc j u hu
    obtain ⟨v', w', hrun, h2, h3, _, h5⟩ := run_append_own_at (P := P) w base t ty e i z size bytes ht hi hz hsize hby hzs hsz v n xs hown ad m c news hr.len hcells h1 h63 hbytes hbase
    exact ⟨v', w', hrun, h2, h3, h5⟩

theorem wp_append_any {o : Oper} {a : Act} {K : Act → World → Prop} {Q : Exit → Act → World → Prop} (s x : Operand) (t : TypeId)
    (ho : o.op = .call { callee := .builtin .append, args := #[s, x], argTypes := #[t, t] })
    (base : Nat) (e : TypeId) (i : TypeInfo) (z : Value) (size bytes : Nat) (ht : P.underlying t = some (.slice e)) (hi : P.info? e = some i) (hz : i.zero = some z)
    (hsize : i.size = size) (hby : i.bytes = bytes) (hzs : z.cells.size = size) (hsz : 0 < size)
    (v : Value) (n : Nat) (xs : List Value) (hs : a.eval s = v) (hown : w.ownsRow base e size v n xs)
    (D : List Nat) (e' : TypeId) (A : Option Addr) (m c : Nat) (news : List Value) (hx : a.eval x = .slice A m c) (hr : Sl w D e' size A m c news) (h1 : ∀ u ∈ news, u.oneCell' = true)
    (h63 : n + m ≤ maxLen) (hbytes : (n + m) * bytes ≤ 140737488355328) (hbase : base ≤ w.heap.size)
    (h : ∀ v' w', w'.ownsRow base e size v' (n + m) (xs ++ news) → w.grownBy w' v.ownBlock → (v'.ownBlock = v.ownBlock ∨ v'.ownBlock = some w.heap.size) → K (a.put o.dst v') w') : o.wp P a w K Q := by
  obtain ⟨v', w', hrun, h2, h3, h4⟩ := run_append_any (P := P) w base t o.type e i z size bytes ht hi hz hsize hby hzs hsz v n xs hown D e' A m c news hr h1 h63 hbytes hbase
  unfold Oper.wp execOp
  simp only [ho, resolve, invoke, builtin, Sem.run_bind, Sem.run_pure, Result.andThen_ok, List.map_toArray, List.map_cons, List.map_nil, hs, hx, hrun]
  exact h v' w' h2 h3 h4

theorem wpList_append_any {ops : Array Oper} {rest : List Oper} {o : Oper} {a : Act} {Q : Exit → Act → World → Prop} (hgd : o.guard = none) (s x : Operand) (t : TypeId)
    (ho : o.op = .call { callee := .builtin .append, args := #[s, x], argTypes := #[t, t] })
    (base : Nat) (e : TypeId) (i : TypeInfo) (z : Value) (size bytes : Nat) (ht : P.underlying t = some (.slice e)) (hi : P.info? e = some i) (hz : i.zero = some z)
    (hsize : i.size = size) (hby : i.bytes = bytes) (hzs : z.cells.size = size) (hsz : 0 < size)
    (v : Value) (n : Nat) (xs : List Value) (hs : a.eval s = v) (hown : w.ownsRow base e size v n xs)
    (D : List Nat) (e' : TypeId) (A : Option Addr) (m c : Nat) (news : List Value) (hx : a.eval x = .slice A m c) (hr : Sl w D e' size A m c news) (h1 : ∀ u ∈ news, u.oneCell' = true)
    (h63 : n + m ≤ maxLen) (hbytes : (n + m) * bytes ≤ 140737488355328) (hbase : base ≤ w.heap.size)
    (h : ∀ v' w', w'.ownsRow base e size v' (n + m) (xs ++ news) → w.grownBy w' v.ownBlock → (v'.ownBlock = v.ownBlock ∨ v'.ownBlock = some w.heap.size) → wpList P ops Q rest (a.put o.dst v') w') : wpList P ops Q (o :: rest) a w :=
  wpList_plain hgd fun _ hK => wp_append_any w s x t ho base e i z size bytes ht hi hz hsize hby hzs hsz v n xs hs hown D e' A m c news hx hr h1 h63 hbytes hbase fun v' w' h2 h3 h4 => hK _ _ (h v' w' h2 h3 h4)

theorem step_append_any {ops : Array Oper} {o : Oper} {a : Act} {K : Act → World → Prop} {Q : Exit → Act → World → Prop} {E : Prop} (hgd : o.guard = none) (s x : Operand) (t : TypeId)
    (ho : o.op = .call { callee := .builtin .append, args := #[s, x], argTypes := #[t, t] })
    (base : Nat) (e : TypeId) (i : TypeInfo) (z : Value) (size bytes : Nat) (ht : P.underlying t = some (.slice e)) (hi : P.info? e = some i) (hz : i.zero = some z)
    (hsize : i.size = size) (hby : i.bytes = bytes) (hzs : z.cells.size = size) (hsz : 0 < size)
    (v : Value) (n : Nat) (xs : List Value) (hs : a.eval s = v) (hown : w.ownsRow base e size v n xs)
    (D : List Nat) (e' : TypeId) (A : Option Addr) (m c : Nat) (news : List Value) (hx : a.eval x = .slice A m c) (hr : Sl w D e' size A m c news) (h1 : ∀ u ∈ news, u.oneCell' = true)
    (h63 : n + m ≤ maxLen) (hbytes : (n + m) * bytes ≤ 140737488355328) (hbase : base ≤ w.heap.size)
    (h : ∀ v' w', w'.ownsRow base e size v' (n + m) (xs ++ news) → w.grownBy w' v.ownBlock → (v'.ownBlock = v.ownBlock ∨ v'.ownBlock = some w.heap.size) → K (a.put o.dst v') w') :
    if Region.wanted o (yielded ops a.tmps) = true then Oper.wp P o a w K Q else E := by
  have hw : Region.wanted o (yielded ops a.tmps) = true := by simp [Region.wanted, hgd]
  rw [if_pos hw]
  exact wp_append_any w s x t ho base e i z size bytes ht hi hz hsize hby hzs hsz v n xs hs hown D e' A m c news hx hr h1 h63 hbytes hbase h
end append_any

/-- A byte's value. -/
abbrev b8 (x : UInt8) : Value := .int .u8 x.toNat
theorem b8_ofNat {n : Nat} (h : n < 256) : b8 (UInt8.ofNat n) = .int .u8 n := by
  show Value.int .u8 ((UInt8.ofNat n).toNat : Int) = .int .u8 n
  rw [UInt8.toNat_ofNat_of_lt' h]
theorem oneCell_b8 (l : List UInt8) : ∀ u ∈ l.map b8, u.oneCell' = true := fun u hu => by
  obtain ⟨x, _, rfl⟩ := List.mem_map.1 hu
  rfl
theorem ret_bool {a b : Bool} (h : a = b) : Ending.returned (.bool a) = .returned (.bool b) := by rw [h]
theorem ret_int {k : IntKind} {a b : Int} (h : a = b) : Ending.returned (.int k a) = .returned (.int k b) := by rw [h]

theorem ret_slice {A : Option Addr} {n m c : Nat} (h : n = m) : Ending.returned (.slice A n c) = .returned (.slice A m c) := by rw [h]

/-- A slice of bytes. -/
def Bytes (w : World) (D : List Nat) (A : Option Addr) (c : Nat) (bs : List UInt8) : Prop := Sl w D 5 1 A bs.length c (bs.map b8)
namespace Bytes
variable {w w' : World} {D D' : List Nat} {A : Option Addr} {c : Nat} {bs : List UInt8}
theorem keep (h : Bytes w D A c bs) (k : Kept D w w') : Bytes w' D A c bs := Sl.keep h k
theorem keep0 (h : Bytes w D A c bs) (k : Kept [] w w') : Bytes w' D A c bs := Sl.keep0 h k
theorem other (h : Bytes w D A c bs) {g : Nat} (k : Kept [g] w w') {t : TypeId} {cs : Array Value} (hg : w.heap[g]? = some (.cells cs t (0, 0))) (hne : 5 ≠ t) : Bytes w' D A c bs := Sl.other h k hg hne
theorem drew (h : Bytes w D A c bs) : Bytes w.drew D A c bs := Sl.keep0 h ((Kept.refl [] w).drew)
theorem less (h : Bytes w D A c bs) (hs : ∀ d ∈ D', d ∈ D) : Bytes w D' A c bs := Sl.less h hs
theorem more (h : Bytes w D A c bs) (hs : ∀ d ∈ D', d ∈ D ∨ w.heap.size ≤ d) : Bytes w D' A c bs := Sl.more h hs
theorem small (h : Bytes w D A c bs) : bs.length ≤ 140737488355328 := Sl.small h
theorem cap (h : Bytes w D A c bs) : bs.length ≤ c := Sl.cap h
theorem capm (h : Bytes w D A c bs) : c ≤ 9223372036854775807 := Sl.capm h
theorem get (h : Bytes w D A c bs) {k : Nat} (hk : k < bs.length) : ∃ ad, A = some ad ∧ w.cell? (ad.add k) = some (.int .u8 (bs[k]).toNat) := by
  obtain ⟨ad, u, hA, hu, hc⟩ := Sl.one h hk
  rw [List.getElem?_map, List.getElem?_eq_getElem hk] at hu
  injection hu with hu
  exact ⟨ad, hA, by rw [hc, ← hu]⟩
theorem nil_ (w : World) (D : List Nat) : Bytes w D none 0 [] := Sl.nil_ w D _ 1 none (by omega)
theorem cut (h : Bytes w D A c bs) {k : Nat} (hk : k ≤ bs.length) : Bytes w D (if c = k then A else A.map (·.add k)) (c - k) (bs.drop k) := by
  have h1 := Sl.cut h hk
  simp only [Nat.mul_one] at h1
  unfold Bytes
  rw [List.length_drop, List.map_drop]
  exact h1
theorem take (h : Bytes w D A c bs) {k : Nat} (hk : k ≤ bs.length) : Bytes w D A c (bs.take k) := by
  have h1 := Sl.take h hk
  simp only [Nat.mul_one] at h1
  unfold Bytes
  rw [List.length_take, Nat.min_eq_left hk, List.map_take]
  exact h1
theorem of_row {base : Nat} {v : Value} (h : w.ownsRow base 5 1 v bs.length (bs.map b8)) (hD : ∀ d ∈ D, d < base) (hs : bs.length ≤ 140737488355328) :
    ∃ A cap, v = .slice A bs.length cap ∧ Bytes w D A cap bs := Sl.of_row h hD hs
theorem of_own {base n : Nat} (h : w.ownsRow base 5 1 (.slice A n c) n (bs.map b8)) (hn : bs.length = n) (hD : ∀ d ∈ D, d < base) (hs : n ≤ 140737488355328) : Bytes w D A c bs := by
  subst hn
  obtain ⟨A', c', he, hb⟩ := Bytes.of_row h hD hs
  injection he with e1 _ e3
  subst e1; subst e3
  exact hb
end Bytes
theorem u8_info : (Tryz.prog.info? 5).map (fun i => (i.zero, i.size, i.bytes)) = some (some (.int .u8 0), 1, 1) := by kernel_rfl
end Go.Proofs.YtcbdjmlkjifamaaGreatDoor
