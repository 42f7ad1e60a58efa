/-
  Entries of directories, in plain Lean: names in order, what is put and taken out, an entry's bytes. No program and no memory. No condition.
-/
import Derived.Test.YtcbdjmlkjifamaaGreatDoorQae
import GoSem.Op.String
set_option linter.unusedVariables false
set_option linter.unusedSimpArgs false

namespace Go.Proofs.YtcbdjmlkjifamaaGreatDoor

/-- Is a name less than another one? -/
abbrev blt (a b : List UInt8) : Bool := Op.bytesLess a b
theorem blt_irrefl (a : List UInt8) : blt a a = false := by
  induction a with
  | nil => rfl
  | cons x a ih => simp [blt, Op.bytesLess] at ih ⊢; exact ih
theorem blt_trans : ∀ {a b c : List UInt8}, blt a b = true → blt b c = true → blt a c = true := by
  intro a
  induction a with
  | nil =>
    intro b c h1 h2
    cases b with
    | nil => simp [blt, Op.bytesLess] at h1
    | cons y b =>
      cases c with
      | nil => simp [blt, Op.bytesLess] at h2
      | cons z c => rfl
  | cons x a ih =>
    intro b c h1 h2
    cases b with
    | nil => simp [blt, Op.bytesLess] at h1
    | cons y b =>
      cases c with
      | nil => simp [blt, Op.bytesLess] at h2
      | cons z c =>
        simp only [blt, Op.bytesLess, Bool.or_eq_true, Bool.and_eq_true, decide_eq_true_eq, beq_iff_eq] at h1 h2 ⊢
        rcases h1 with h1 | ⟨rfl, h1⟩
        · rcases h2 with h2 | ⟨rfl, h2⟩
          · exact .inl (UInt8.lt_trans h1 h2)
          · exact .inl h1
        · rcases h2 with h2 | ⟨rfl, h2⟩
          · exact .inl h2
          · exact .inr ⟨rfl, ih h1 h2⟩
theorem blt_tri : ∀ (a b : List UInt8), blt a b = true ∨ a = b ∨ blt b a = true := by
  intro a
  induction a with
  | nil =>
    intro b
    cases b with
    | nil => exact .inr (.inl rfl)
    | cons y b => exact .inl rfl
  | cons x a ih =>
    intro b
    cases b with
    | nil => exact .inr (.inr rfl)
    | cons y b =>
      simp only [blt, Op.bytesLess, Bool.or_eq_true, Bool.and_eq_true, decide_eq_true_eq, beq_iff_eq, List.cons.injEq]
      rcases UInt8.lt_or_lt_of_ne (a := x) (b := y) |> fun h => Classical.em (x = y) |>.elim (fun e => Or.inr e) (fun e => Or.inl (h e)) with h | h
      · rcases h with h | h
        · exact .inl (.inl h)
        · exact .inr (.inr (.inl h))
      · subst h
        rcases ih b with h | h | h
        · exact .inl (.inr ⟨rfl, h⟩)
        · exact .inr (.inl ⟨rfl, h⟩)
        · exact .inr (.inr (.inr ⟨rfl, h⟩))
theorem blt_asymm {a b : List UInt8} (h : blt a b = true) : blt b a = false := by
  cases hb : blt b a with
  | false => rfl
  | true => have := blt_trans h hb; rw [blt_irrefl] at this; cases this
theorem blt_ne {a b : List UInt8} (h : blt a b = true) : a ≠ b := by
  rintro rfl
  rw [blt_irrefl] at h
  cases h

/-- An entry. -/
structure Ent where
  name : List UInt8
  node : Nat
  deriving DecidableEq
def Ent.Ok (e : Ent) : Prop := 0 < e.name.length ∧ e.name.length ≤ 24 ∧ 0 < e.node ∧ e.node < 64
structure EntsOk (l : List Ent) : Prop where
  ok : ∀ e ∈ l, e.Ok
  sort : l.Pairwise fun a b => blt a.name b.name = true

/-- How many names are less. -/
def place (l : List Ent) (s : List UInt8) : Nat := (l.filter fun e => blt e.name s).length
def isThere (l : List Ent) (s : List UInt8) : Bool := l.any fun e => e.name == s
def entIdx (l : List Ent) (s : List UInt8) : Nat := l.findIdx fun e => e.name == s
def entIdxI (l : List Ent) (s : List UInt8) : Int := if entIdx l s < l.length then (entIdx l s : Nat) else -1
def entHas (l : List Ent) (s : List UInt8) : Bool := decide (entIdx l s < l.length)
def entNode (l : List Ent) (s : List UInt8) : Nat := match l[entIdx l s]? with | some e => e.node | none => 0
def entPut (l : List Ent) (e : Ent) : List Ent := l.filter (fun x => blt x.name e.name) ++ e :: l.filter (fun x => blt e.name x.name)
def entDel (l : List Ent) (s : List UInt8) : List Ent := l.filter fun x => !(x.name == s)

theorem EntsOk.tail {e : Ent} {l : List Ent} (h : EntsOk (e :: l)) : EntsOk l := ⟨fun x hx => h.ok x (List.mem_cons_of_mem _ hx), (List.pairwise_cons.1 h.sort).2⟩
theorem EntsOk.filter {l : List Ent} (h : EntsOk l) (p : Ent → Bool) : EntsOk (l.filter p) := ⟨fun e he => h.ok e (List.mem_filter.1 he).1, h.sort.filter p⟩

/-- In an ordered list the lesser names stand first. -/
theorem place_split {l : List Ent} (h : EntsOk l) (s : List UInt8) : l.take (place l s) = l.filter (fun e => blt e.name s) ∧ l.drop (place l s) = l.filter (fun e => !blt e.name s) := by
  induction l with
  | nil => exact ⟨rfl, rfl⟩
  | cons e l ih =>
    obtain ⟨i1, i2⟩ := ih h.tail
    by_cases c : blt e.name s = true
    · have e1 : place (e :: l) s = place l s + 1 := by simp [place, c]
      rw [e1, List.filter_cons_of_pos (p := fun e : Ent => blt e.name s) c, List.filter_cons_of_neg (p := fun e : Ent => !blt e.name s) (by simp [c])]
      exact ⟨by rw [List.take_succ_cons, i1], by rw [List.drop_succ_cons, i2]⟩
    · have hall : ∀ x ∈ l, ¬ blt x.name s = true := fun x hx hb => c (blt_trans ((List.pairwise_cons.1 h.sort).1 x hx) hb)
      have e0 : l.filter (fun e => blt e.name s) = [] := List.filter_eq_nil_iff.2 hall
      have e1 : place (e :: l) s = 0 := by
        unfold place
        rw [List.filter_cons_of_neg (p := fun e : Ent => blt e.name s) c, e0]
        rfl
      rw [e1, List.filter_cons_of_neg (p := fun e : Ent => blt e.name s) c, e0]
      refine ⟨rfl, ?_⟩
      rw [List.drop_zero, List.filter_cons_of_pos (p := fun e : Ent => !blt e.name s) (by simp [c])]
      congr 1
      exact (List.filter_eq_self.2 (fun x hx => by simpa using hall x hx)).symm
theorem place_le (l : List Ent) (s : List UInt8) : place l s ≤ l.length := List.length_filter_le _ _
theorem place_lt {l : List Ent} (h : EntsOk l) (s : List UInt8) {i : Nat} (hi : i < l.length) : blt l[i].name s = decide (i < place l s) := by
  obtain ⟨h1, h2⟩ := place_split h s
  by_cases c : i < place l s
  · rw [decide_eq_true c]
    have : l[i] ∈ l.take (place l s) := by
      rw [List.mem_take_iff_getElem]
      exact ⟨i, by omega, rfl⟩
    rw [h1] at this
    exact (List.mem_filter.1 this).2
  · rw [decide_eq_false c]
    have : l[i] ∈ l.drop (place l s) := by
      rw [List.mem_drop_iff_getElem]
      exact ⟨i - place l s, by omega, by congr 1; omega⟩
    rw [h2] at this
    simpa using (List.mem_filter.1 this).2
/-- The name, if it is there, stands at its place. -/
theorem place_there {l : List Ent} (h : EntsOk l) (s : List UInt8) : isThere l s = true ↔ ∃ hi : place l s < l.length, l[place l s].name = s := by
  unfold isThere
  rw [List.any_eq_true]
  constructor
  · rintro ⟨e, he, hs⟩
    rw [beq_iff_eq] at hs
    obtain ⟨i, hi, rfl⟩ := List.getElem_of_mem he
    have hp := place_lt h s hi
    rw [hs, blt_irrefl] at hp
    have hpi : place l s ≤ i := by
      have := of_decide_eq_false hp.symm
      omega
    refine ⟨by omega, ?_⟩
    rcases Nat.lt_or_eq_of_le hpi with hl | hl
    · have h1 := List.pairwise_iff_getElem.1 h.sort (place l s) i (by omega) hi hl
      rw [hs] at h1
      have h2 := place_lt h s (i := place l s) (by omega)
      rw [h1] at h2
      have := of_decide_eq_true h2.symm
      omega
    · have : l[place l s] = l[i] := by congr 1
      rw [this]
      exact hs
  · rintro ⟨hi, hs⟩
    exact ⟨_, List.getElem_mem hi, by rw [hs]; simp⟩
theorem drop_there {l : List Ent} (h : EntsOk l) (s : List UInt8) (ht : isThere l s = true) : l.drop (place l s + 1) = l.filter (fun e => blt s e.name) := by
  obtain ⟨hi, hs⟩ := (place_there h s).1 ht
  have hd := (place_split h s).2
  rw [List.drop_eq_getElem_cons hi] at hd
  have e1 : l.filter (fun e => blt s e.name) = (l.filter (fun e => !blt e.name s)).filter (fun e => blt s e.name) := by
    rw [List.filter_filter]
    congr 1
    funext e
    cases c : blt s e.name with
    | false => simp
    | true => simp [blt_asymm c]
  rw [e1, ← hd, List.filter_cons_of_neg (by rw [hs, blt_irrefl]; simp)]
  symm
  rw [List.filter_eq_self]
  intro x hx
  have hp := List.pairwise_cons.1 (by rw [← List.drop_eq_getElem_cons hi]; exact h.sort.sublist (List.drop_sublist _ _) : (l[place l s] :: l.drop (place l s + 1)).Pairwise fun a b => blt a.name b.name = true)
  have := hp.1 x hx
  rw [hs] at this
  exact this
theorem drop_not {l : List Ent} (h : EntsOk l) (s : List UInt8) (ht : isThere l s = false) : l.drop (place l s) = l.filter (fun e => blt s e.name) := by
  rw [(place_split h s).2]
  refine List.filter_congr fun e he => ?_
  rcases blt_tri e.name s with c | c | c
  · rw [c, blt_asymm c]
    rfl
  · exfalso
    have : isThere l s = true := List.any_eq_true.2 ⟨e, he, by rw [c]; simp⟩
    rw [ht] at this
    cases this
  · rw [c, blt_asymm c]
    rfl
theorem put_there {l : List Ent} (e : Ent) (h : EntsOk l) (ht : isThere l e.name = true) : l.set (place l e.name) e = entPut l e := by
  obtain ⟨hi, _⟩ := (place_there h e.name).1 ht
  rw [List.set_eq_take_append_cons_drop, if_pos hi, (place_split h e.name).1, drop_there h e.name ht]
  rfl
theorem put_not {l : List Ent} (e : Ent) (h : EntsOk l) (ht : isThere l e.name = false) : l.take (place l e.name) ++ e :: l.drop (place l e.name) = entPut l e := by
  rw [(place_split h e.name).1, drop_not h e.name ht]
  rfl
theorem del_there {l : List Ent} (s : List UInt8) (h : EntsOk l) (ht : isThere l s = true) : l.take (place l s) ++ l.drop (place l s + 1) = entDel l s := by
  obtain ⟨hi, hs⟩ := (place_there h s).1 ht
  have hne : ∀ x ∈ l.take (place l s) ++ l.drop (place l s + 1), (!(x.name == s)) = true := fun x hx => by
    rw [(place_split h s).1, drop_there h s ht] at hx
    rcases List.mem_append.1 hx with hx | hx
    · have := blt_ne (List.mem_filter.1 hx).2
      simpa using this
    · have := (blt_ne (List.mem_filter.1 hx).2).symm
      simpa using this
  have e1 : l = l.take (place l s) ++ l[place l s] :: l.drop (place l s + 1) := by
    rw [← List.drop_eq_getElem_cons hi, List.take_append_drop]
  unfold entDel
  conv => rhs; rw [e1]
  rw [List.filter_append, List.filter_cons_of_neg (by rw [hs]; simp), ← List.filter_append]
  exact (List.filter_eq_self.2 hne).symm
theorem EntsOk.put {l : List Ent} {e : Ent} (h : EntsOk l) (he : e.Ok) : EntsOk (entPut l e) := by
  refine ⟨fun x hx => ?_, ?_⟩
  · rcases List.mem_append.1 hx with hx | hx
    · exact h.ok x (List.mem_filter.1 hx).1
    · rcases List.mem_cons.1 hx with rfl | hx
      · exact he
      · exact h.ok x (List.mem_filter.1 hx).1
  · refine List.pairwise_append.2 ⟨h.sort.filter _, List.pairwise_cons.2 ⟨fun x hx => (List.mem_filter.1 hx).2, h.sort.filter _⟩, fun x hx y hy => ?_⟩
    have h1 := (List.mem_filter.1 hx).2
    rcases List.mem_cons.1 hy with rfl | hy
    · exact h1
    · exact blt_trans h1 (List.mem_filter.1 hy).2
theorem EntsOk.del {l : List Ent} (h : EntsOk l) (s : List UInt8) : EntsOk (entDel l s) := h.filter _

/-- A directory's bytes. -/
def entB (e : Ent) : List UInt8 := UInt8.ofNat e.node :: packText e.name 24
def entsB (l : List Ent) : List UInt8 := l.flatMap entB
theorem entB_length (e : Ent) (h : e.Ok) : (entB e).length = 26 := by
  rw [entB, List.length_cons, packText_length _ _ h.2.1]
theorem entsB_length (l : List Ent) (h : ∀ e ∈ l, e.Ok) : (entsB l).length = 26 * l.length := by
  induction l with
  | nil => rfl
  | cons e l ih =>
    rw [entsB, List.flatMap_cons, List.length_append, entB_length e (h e (by simp))]
    have := ih (fun x hx => h x (List.mem_cons_of_mem _ hx))
    rw [entsB] at this
    rw [this, List.length_cons]
    omega
end Go.Proofs.YtcbdjmlkjifamaaGreatDoor
