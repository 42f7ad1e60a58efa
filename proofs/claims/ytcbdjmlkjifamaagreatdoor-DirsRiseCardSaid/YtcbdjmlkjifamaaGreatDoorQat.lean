/-
  How much room there is, and what a fresh system is. Plain Lean: no program and no memory. No condition.
-/
import Derived.Test.YtcbdjmlkjifamaaGreatDoorQar
import Derived.Test.YtcbdjmlkjifamaaGreatDoorQas
set_option linter.unusedVariables false
set_option linter.unusedSimpArgs false

namespace Go.Proofs.YtcbdjmlkjifamaaGreatDoor
set_option maxRecDepth 100000

/-! ### counting -/
def cnt (b : List UInt8) (m : Nat) : Nat := ((List.range m).filter fun q => !bit b q).length
theorem freeIn_range (b : List UInt8) : ∀ (k n : Nat), freeIn b n k = ((List.range' n k).filter fun q => !bit b q).length := by
  intro k
  induction k with
  | zero => intro n; rfl
  | succ k ih =>
    intro n
    rw [freeIn, ih, List.range'_succ]
    cases c : bit b n with
    | true => rw [List.filter_cons_of_neg (by simp [c])]; simp
    | false => rw [List.filter_cons_of_pos (by simp [c])]; simp; omega
theorem bmFree_cnt (b : List UInt8) (t : Nat) (hb : b.length = 27) (ht : t ≤ 216) : bmFree b 0 t = cnt b t := by
  unfold bmFree cnt
  rw [freeIn_range, hb, show min t (8 * 27) - 0 = t from by omega, List.range_eq_range']
theorem cnt_set {b : List UInt8} {n t : Nat} (hn : n / 8 < b.length) (hnt : n < t) (h0 : bit b n = false) : cnt (setBit b n) t = cnt b t - 1 := by
  unfold cnt
  have e : (List.range t).filter (fun q => !bit (setBit b n) q) = ((List.range t).filter (fun q => !bit b q)).erase n := by
    rw [List.Nodup.erase_eq_filter ((List.nodup_range).filter _), List.filter_filter]
    refine List.filter_congr fun q _ => ?_
    rw [bit_setBit b n q hn]
    by_cases c : n = q
    · subst c; simp
    · have c2 : (q != n) = true := by simpa using fun h => c h.symm
      rw [c2, decide_eq_false c]
      simp
  rw [e, List.length_erase_of_mem]
  exact List.mem_filter.2 ⟨List.mem_range.2 hnt, by rw [h0]; rfl⟩
theorem take_room : ∀ (k : Nat) (b : List UInt8) (t : Nat), b.length = 27 → t ≤ 216 → ((∃ r, bmTake b 0 t k = some r) ↔ k ≤ bmFree b 0 t) := by
  intro k
  induction k with
  | zero => intro b t _ _; exact ⟨fun _ => Nat.zero_le _, fun _ => ⟨_, rfl⟩⟩
  | succ k ih =>
    intro b t hb ht
    cases hf : bmFirst b 0 t with
    | none =>
      rw [bmFree_of_none hf]
      simp [bmTake, hf]
    | some n =>
      obtain ⟨_, h2, h3, h4⟩ := bmFirst_some hf
      have hi := ih (setBit b n) t (by rw [setBit_length, hb]) ht
      have hpos : 1 ≤ bmFree b 0 t := by rw [bmFree_of_some hf]; omega
      rw [bmFree_cnt _ _ (by rw [setBit_length, hb]) ht, cnt_set (by omega) h2 h4, ← bmFree_cnt b t hb ht] at hi
      constructor
      · rintro ⟨r, hr⟩
        simp only [bmTake, hf, Option.bind_some, Option.map_eq_some_iff] at hr
        obtain ⟨r2, hr2, _⟩ := hr
        have := hi.1 ⟨r2, hr2⟩
        omega
      · intro h
        obtain ⟨r2, hr2⟩ := hi.2 (by omega)
        exact ⟨_, by simp only [bmTake, hf, Option.bind_some, hr2, Option.map_some]; rfl⟩

/-- How many pages an inode of the document has. -/
def Nod.used (y : Nod) : Nat := ((List.range 32).filter y.has).length + if y.att = [] then 0 else 1
theorem pages_map (x : Ino) (h : x.pages.length = 32) : x.pages.map (·.toNat) = (List.range 32).map x.pg := by
  refine List.ext_getElem (by simp [h]) (fun i h1 h2 => ?_)
  rw [List.getElem_map, List.getElem_map, List.getElem_range, Ino.pg, List.getD_eq_getElem?_getD, List.getElem?_eq_getElem (by simpa using h1)]
  rfl
theorem used_all {g : List (List UInt8)} {x : Ino} {y : Nod} (h32 : x.pages.length = 32) (h : IsNod g x y) (hpl : ∀ (q : Nat) (pg : List UInt8), g[q]? = some pg → pg.length = 256) : x.all.length = y.used := by
  unfold Ino.all Nod.used
  have e1 : ((x.pages.map (·.toNat)).filter fun z => !(z == 0)).length = ((List.range 32).filter y.has).length := by
    rw [pages_map x h32, List.filter_map, List.length_map]
    congr 1
    refine List.filter_congr fun i hi => ?_
    rw [h.has i (List.mem_range.1 hi)]
    show (!(x.pg i == 0)) = decide (x.pg i ≠ 0)
    by_cases c : x.pg i = 0
    · simp [c]
    · simp [c]
  rcases h.att with ⟨a, b⟩ | ⟨a, b⟩
  · rw [List.filter_cons_of_neg (by simp [a]), e1, if_pos b, Nat.add_zero]
  · have hne : y.att ≠ [] := fun hc => by
      have := hpl _ _ b
      rw [hc] at this
      simp at this
    rw [List.filter_cons_of_pos (by simpa using a), List.length_cons, e1, if_neg hne]

/-- How many pages are free. -/
def leftOf (table np : Nat) (S : List Nod) : Nat := np - (table + 1) - (S.map Nod.used).sum
theorem room_count {table : Nat} {g : List (List UInt8)} {bm : List UInt8} {xs : List Ino} {S : List Nod} (h : Abs table g bm xs S) : bmFree bm 0 g.length + (table + 1) + (S.map Nod.used).sum = g.length := by
  have hlen : ∀ x ∈ xs, x.pages.length = 32 := fun x hx => (h.fs.good x hx).lim.len
  have hnd : ∀ x ∈ xs, x.all.Nodup := fun x hx => by
    rcases h.fs.good x hx with ho | rfl
    · exact ho.nodup
    · rw [zero_all]; exact List.nodup_nil
  have hU : (xs.flatMap Ino.all).Nodup := by
    refine List.pairwise_flatMap.2 ⟨fun x hx => hnd x hx, List.pairwise_iff_getElem.2 fun i j hi hj hl a ha b hb he => ?_⟩
    subst he
    have := h.dis i j _ _ a (List.getElem?_eq_getElem hi) (List.getElem?_eq_getElem hj) ha hb
    omega
  have hUs : (xs.flatMap Ino.all).length = (S.map Nod.used).sum := by
    have hz : xs.map (fun x => x.all.length) = S.map Nod.used := by
      refine List.ext_getElem (by simp [h.len]) (fun i h1 h2 => ?_)
      rw [List.getElem_map, List.getElem_map]
      have hi : i < xs.length := by simpa using h1
      have hi2 : i < S.length := by simpa using h2
      exact used_all (hlen _ (List.getElem_mem hi)) (h.one i _ _ (List.getElem?_eq_getElem hi) (List.getElem?_eq_getElem hi2)) h.pl
    rw [List.length_flatMap, hz]
  have hroom := h.fs.room
  have hLl : ((List.range g.length).filter (bit bm)).length = (table + 1) + (S.map Nod.used).sum := by
    have hp : ((List.range g.length).filter (bit bm)).Perm (List.range (table + 1) ++ xs.flatMap Ino.all) := by
      refine (List.perm_ext_iff_of_nodup ((List.nodup_range).filter _) ?_).2 fun q => ?_
      · refine List.nodup_append.2 ⟨List.nodup_range, hU, fun a ha b hb he => ?_⟩
        subst he
        obtain ⟨x, hx, hq⟩ := List.mem_flatMap.1 hb
        obtain ⟨i, hi, rfl⟩ := List.getElem_of_mem hx
        have := (h.own i _ a (List.getElem?_eq_getElem hi) hq).1
        have := List.mem_range.1 ha
        omega
      · rw [List.mem_filter, List.mem_append, List.mem_range, List.mem_range, List.mem_flatMap]
        constructor
        · rintro ⟨h1, h2⟩
          by_cases c : q < table + 1
          · exact .inl c
          · obtain ⟨n, x, hx, hq⟩ := h.all q (by omega) h1 h2
            exact .inr ⟨x, List.mem_of_getElem? hx, hq⟩
        · rintro (h1 | ⟨x, hx, hq⟩)
          · exact ⟨by omega, h.low q (by omega)⟩
          · obtain ⟨i, hi, rfl⟩ := List.getElem_of_mem hx
            exact (h.own i _ q (List.getElem?_eq_getElem hi) hq).2
    rw [hp.length_eq, List.length_append, List.length_range, hUs]
  have hc := List.length_eq_countP_add_countP (bit bm) (l := List.range g.length)
  rw [List.countP_eq_length_filter, List.countP_eq_length_filter, List.length_range, hLl] at hc
  rw [bmFree_cnt bm _ h.fs.bml h.small]
  unfold cnt
  have e : (List.range g.length).filter (fun a => decide ¬bit bm a = true) = (List.range g.length).filter (fun q => !bit bm q) := List.filter_congr fun q _ => by cases bit bm q <;> rfl
  rw [e] at hc
  omega

/-- How many pages a write wants. -/
def Nod.need (y : Nod) (P m : Nat) : Nat := ((List.range 32).filter fun i => decide (P / 256 ≤ i ∧ i * 256 < P + m) && !y.has i).length
theorem need_missing {g : List (List UInt8)} {x : Ino} {y : Nod} (h : IsNod g x y) {P m : Nat} (hm : 0 < m) (hP : P + m ≤ 8192) : (missing x.pages (spanParts P m)).length = y.need P m := by
  unfold Nod.need
  refine List.Perm.length_eq ((List.perm_ext_iff_of_nodup (missing_nodup _ _ _) ((List.nodup_range).filter _)).2 fun i => ?_)
  rw [missing_mem, List.mem_filter, List.mem_range]
  constructor
  · rintro ⟨⟨_, h1, h2⟩, h3⟩
    refine ⟨by omega, ?_⟩
    rw [h.has i (by omega), decide_eq_true ⟨h1, h2⟩, decide_eq_false (fun hc => hc h3)]
    rfl
  · rintro ⟨h1, h2⟩
    rw [Bool.and_eq_true, decide_eq_true_eq, Bool.not_eq_true', h.has i h1, decide_eq_false_iff_not] at h2
    exact ⟨⟨hm, h2.1⟩, by have := h2.2; show x.pg i = 0; omega⟩
/-- There is room just where the document says so. -/
theorem room_take {table P m : Nat} {g : List (List UInt8)} {bm : List UInt8} {xs : List Ino} {S : List Nod} (h : Abs table g bm xs S) {n : Nat} {x : Ino} {y : Nod} (hx : xs[n]? = some x) (hy : S[n]? = some y) (hm : 0 < m) (hP : P + m ≤ 8192) :
    (y.need P m ≤ leftOf table g.length S → ∃ l p1 b1, takeSt table g bm (missing x.pages (spanParts P m)).length = some (l, p1, b1)) ∧
    (¬ y.need P m ≤ leftOf table g.length S → (missing x.pages (spanParts P m)).length ≠ 0 ∧ bmTake bm 0 g.length (missing x.pages (spanParts P m)).length = none) := by
  have hc := room_count h
  have hl : leftOf table g.length S = bmFree bm 0 g.length := by unfold leftOf; omega
  have hn := need_missing (h.one n x y hx hy) hm hP
  have ht := take_room (missing x.pages (spanParts P m)).length bm g.length h.fs.bml h.small
  rw [hl, ← hn]
  refine ⟨fun hle => ?_, fun hle => ⟨by omega, ?_⟩⟩
  · unfold takeSt
    by_cases c : (missing x.pages (spanParts P m)).length = 0
    · rw [if_pos c]
      exact ⟨_, _, _, rfl⟩
    · rw [if_neg c]
      obtain ⟨r, hr⟩ := ht.2 hle
      rw [hr]
      exact ⟨_, _, _, rfl⟩
  · cases hb : bmTake bm 0 g.length (missing x.pages (spanParts P m)).length with
    | none => rfl
    | some r => exact absurd (ht.1 ⟨r, hb⟩) hle

/-! ### a fresh system -/
theorem firstIn_first {b : List UInt8} {k : Nat} : ∀ (m n : Nat), n ≤ k → k < n + m → (∀ q, n ≤ q → q < k → bit b q = true) → bit b k = false → firstIn b n m = some k := by
  intro m
  induction m with
  | zero => intro n h1 h2; omega
  | succ m ih =>
    intro n h1 h2 h3 h4
    rw [firstIn]
    by_cases c : n = k
    · subst c
      rw [if_neg (by rw [h4]; simp)]
    · rw [if_pos (h3 n (Nat.le_refl _) (by omega))]
      exact ih (n + 1) (by omega) (by omega) (fun q h5 h6 => h3 q (by omega) h6) h4
theorem own_take : ∀ (j k : Nat) (b : List UInt8), b.length = 27 → (∀ q, q < 216 → bit b q = decide (q < k)) → k + j ≤ 216 → ∃ r, bmTake b 0 216 j = some r ∧ ∀ q, q < 216 → bit r.2 q = decide (q < k + j) := by
  intro j
  induction j with
  | zero => intro k b _ h _; exact ⟨_, rfl, h⟩
  | succ j ih =>
    intro k b hb h hk
    have hf : bmFirst b 0 216 = some k := by
      unfold bmFirst
      rw [hb]
      exact firstIn_first _ _ (Nat.zero_le _) (by omega) (fun q _ h2 => by rw [h q (by omega)]; exact decide_eq_true h2) (by rw [h k (by omega)]; exact decide_eq_false (by omega))
    obtain ⟨r, hr, hr2⟩ := ih (k + 1) (setBit b k) (by rw [setBit_length, hb]) (fun q hq => by
      rw [bit_setBit b k q (by omega), h q hq]
      by_cases c : k = q
      · subst c; simp
      · rw [decide_eq_false c, Bool.false_or]
        congr 1
        exact propext ⟨fun h => by omega, fun h => by omega⟩) (by omega)
    refine ⟨(k :: r.1, r.2), by simp only [bmTake, hf, Option.bind_some, hr, Option.map_some], fun q hq => ?_⟩
    rw [hr2 q hq, show k + 1 + j = k + (j + 1) from by omega]
theorem ownB_bits (table : Nat) (h : table ≤ 16) (q : Nat) (hq : q < 216) : bit (ownB table) q = decide (q ≤ table) := by
  have hz : ∀ q, q < 216 → bit (List.replicate 27 0) q = decide (q < 0) := fun q hq => by
    unfold bit
    rw [List.getD_eq_getElem?_getD, List.getElem?_replicate, if_pos (by omega)]
    simp
  obtain ⟨r, hr, hr2⟩ := own_take (table + 1) 0 (List.replicate 27 0) (by simp) hz (by omega)
  have e : ownB table = r.2 := by unfold ownB; rw [hr]
  rw [e, hr2 q hq]
  congr 1
  exact propext ⟨fun h => by omega, fun h => by omega⟩

def freshS (table t : Nat) : List Nod := ⟨2, 7, 1, t, [], fun _ => false, []⟩ :: List.replicate (4 * table - 1) ⟨0, 0, 0, 0, [], fun _ => false, []⟩
def freshX (table t : Nat) : List Ino := rootIno t :: List.replicate (4 * table - 1) Ino.zero
def freshG (table t np : Nat) : List (List UInt8) := fmtPages table t ++ List.replicate (np - (table + 1)) (List.replicate 256 0)
theorem zero_bytes : Ino.zero.bytes = List.replicate 64 0 := by decide
theorem zpage_drop (k : Nat) (h : k < 4) : ((List.replicate 256 (0 : UInt8)).drop (64 * k)).take 64 = List.replicate 64 0 := by
  rw [List.drop_replicate, List.take_replicate]
  congr 1
  omega
theorem root_all (t : Nat) : (rootIno t).all = [] := rfl
theorem fresh_isnod (g : List (List UInt8)) (x : Ino) (y : Nod) (h1 : x.pages = List.replicate 32 0) (h2 : x.attr = 0) (h3 : x.size = 0) (h4 : y.data = []) (h5 : y.has = fun _ => false) (h6 : y.att = []) (h7 : x.kind = y.kind ∧ x.mode = y.mode ∧ x.links = y.links ∧ x.time = y.time) : IsNod g x y := by
  have hp : ∀ i, x.pg i = 0 := fun i => by
    unfold Ino.pg
    rw [h1, List.getD_eq_getElem?_getD, List.getElem?_replicate]
    split <;> rfl
  refine ⟨h7.1, h7.2.1, h7.2.2.1, h7.2.2.2, by rw [h3, h4]; rfl, fun i _ => ?_, fun i _ => by rw [h5, hp]; rfl, .inl ⟨h2, h6⟩⟩
  unfold ibyte
  rw [if_pos (hp _), h4]
  rfl
theorem abs_fresh (table t np : Nat) (h1 : 1 ≤ table) (h2 : table ≤ 16) (h3 : table + 2 ≤ np) (h4 : np ≤ 216) (ht : t ≤ 9223372036854775807) : Abs table (freshG table t np) (ownB table) (freshX table t) (freshS table t) ∧ (freshG table t np).length = np := by
  obtain ⟨_, _, hol⟩ := ownB_is table h2
  have hfl : (fmtPages table t).length = table + 1 := by
    unfold fmtPages
    simp
    omega
  have hgl : (freshG table t np).length = np := by
    unfold freshG
    rw [List.length_append, hfl, List.length_replicate]
    omega
  have hrl := (rootIno t).bytes_length rfl
  have hp1 : (putIno (List.replicate 256 0) 0 (rootIno t)).length = 256 := putIno_length _ _ _ (by simp) (by omega) rfl
  have hget : ∀ q, q < np → (freshG table t np)[q]? = some (if q = 0 then layB table (ownB table) else if q = 1 then putIno (List.replicate 256 0) 0 (rootIno t) else List.replicate 256 0) := fun q hq => by
    unfold freshG fmtPages
    rcases q with _ | _ | q
    · rfl
    · rfl
    · rw [if_neg (by omega), if_neg (by omega)]
      show (List.replicate (table - 1) (List.replicate 256 (0 : UInt8)) ++ List.replicate (np - (table + 1)) (List.replicate 256 0))[q]? = _
      rw [List.replicate_append_replicate, List.getElem?_replicate, if_pos (by omega)]
  have hxn : ∀ (n : Nat) (x : Ino), (freshX table t)[n]? = some x → (n = 0 ∧ x = rootIno t) ∨ (0 < n ∧ n < 4 * table ∧ x = Ino.zero) := fun n x hx => by
    rcases n with _ | n
    · simp only [freshX, List.getElem?_cons_zero, Option.some.injEq] at hx
      exact .inl ⟨rfl, hx.symm⟩
    · simp only [freshX, List.getElem?_cons_succ, List.getElem?_replicate] at hx
      split at hx
      · injection hx with hx
        exact .inr ⟨by omega, by omega, hx.symm⟩
      · cases hx
  have hall : ∀ (n : Nat) (x : Ino), (freshX table t)[n]? = some x → x.all = [] := fun n x hx => by
    rcases hxn n x hx with ⟨_, rfl⟩ | ⟨_, _, rfl⟩
    · exact root_all t
    · exact zero_all
  have hfs : Fs table (freshG table t np) (ownB table) (freshX table t) := by
    refine ⟨⟨h1, h2⟩, by rw [hgl]; exact h3, hol, by rw [hget 0 (by omega)]; rfl, by simp [freshX]; omega, fun n x hx => ?_⟩
    rcases hxn n x hx with ⟨rfl, rfl⟩ | ⟨h5, h6, rfl⟩
    · refine ⟨.inl (rootIno_ok t ht), _, hget 1 (by omega), ?_⟩
      show (List.take 64 (List.drop 0 (List.take 0 _ ++ (rootIno t).bytes ++ _))) = _
      rw [List.drop_zero, List.take_zero, List.nil_append]
      rw [List.take_append_of_le_length (by omega), List.take_of_length_le (by omega)]
    · refine ⟨.inr rfl, _, hget (1 + n / 4) (by omega), ?_⟩
      rw [zero_bytes, if_neg (by omega)]
      by_cases c : n / 4 = 0
      · rw [if_pos (by omega)]
        unfold putIno
        rw [show 64 * 0 = 0 from rfl, List.take_zero, List.nil_append, List.drop_append, List.drop_of_length_le (by omega), List.nil_append, hrl, List.drop_replicate, List.drop_replicate, List.take_replicate]
        congr 1
        omega
      · rw [if_neg (by omega)]
        exact zpage_drop _ (Nat.mod_lt _ (by omega))
  refine ⟨⟨hfs, by simp [freshS, freshX], fun n x y hx hy => ?_, fun i hi => ?_, fun n x q hx hq => ?_, fun n m x y q hx _ hq => ?_, fun q a b c => ?_, fun q pg hq => ?_, by rw [hgl]; exact h4⟩, hgl⟩
  · rcases hxn n x hx with ⟨rfl, rfl⟩ | ⟨h5, h6, rfl⟩
    · simp only [freshS, List.getElem?_cons_zero, Option.some.injEq] at hy
      subst hy
      exact fresh_isnod _ _ _ rfl rfl rfl rfl rfl rfl ⟨rfl, rfl, rfl, rfl⟩
    · rcases n with _ | n
      · omega
      · simp only [freshS, List.getElem?_cons_succ, List.getElem?_replicate] at hy
        split at hy
        · injection hy with hy
          subst hy
          exact fresh_isnod _ _ _ rfl rfl rfl rfl rfl rfl ⟨rfl, rfl, rfl, rfl⟩
        · cases hy
  · rw [ownB_bits table h2 i (by omega)]
    exact decide_eq_true hi
  · rw [hall n x hx] at hq
    cases hq
  · rw [hall n x hx] at hq
    cases hq
  · rw [hgl] at b
    rw [ownB_bits table h2 q (by omega)] at c
    have := of_decide_eq_true c
    omega
  · have hqn : q < np := by rw [← hgl]; exact (List.getElem?_eq_some_iff.1 hq).1
    rw [hget q hqn] at hq
    injection hq with hq
    rw [← hq]
    split
    · exact layB_length _ _ (by omega)
    · split
      · exact hp1
      · simp
/-- What Open asks of the map. -/
theorem fresh_open (table np : Nat) (h2 : table ≤ 16) (h3 : table + 2 ≤ np) (h4 : np ≤ 216) : bmFree (ownB table) 0 (table + 1) = 0 ∧ 216 - np ≤ bmFree (ownB table) np 216 := by
  obtain ⟨_, _, hol⟩ := ownB_is table h2
  constructor
  · rw [bmFree_cnt _ _ hol (by omega)]
    unfold cnt
    rw [List.length_eq_zero_iff, List.filter_eq_nil_iff]
    intro q hq
    have := List.mem_range.1 hq
    rw [ownB_bits table h2 q (by omega), decide_eq_true (by omega)]
    simp
  · unfold bmFree
    rw [freeIn_range, hol, show min 216 (8 * 27) - np = 216 - np from by omega, List.filter_eq_self.2, List.length_range']
    · exact Nat.le_refl _
    · intro q hq
      have := List.mem_range'_1.1 hq
      rw [ownB_bits table h2 q (by omega), decide_eq_false (by omega)]
      rfl
end Go.Proofs.YtcbdjmlkjifamaaGreatDoor
