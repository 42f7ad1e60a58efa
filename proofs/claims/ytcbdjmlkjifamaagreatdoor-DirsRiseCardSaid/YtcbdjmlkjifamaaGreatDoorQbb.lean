/-
  slices.Clone, slices.Insert of one entry, at rows of entries. Conditions: as the theorems say. slices.Grow of nil, slices.Concat of two rows of entries. Conditions: as the theorems say.
-/
import Derived.Test.YtcbdjmlkjifamaaGreatDoorQam
import Derived.Test.YtcbdjmlkjifamaaGreatDoorQay
import Derived.Lib.Overlaps
import Derived.Laws.Externs
import Derived.Lib.AppendZeros
set_option linter.unusedVariables false
set_option linter.unusedSimpArgs false

/- slices.Clone, slices.Insert of one entry, at rows of entries. Conditions: as the theorems say. -/
namespace Go.Proofs.YtcbdjmlkjifamaaGreatDoor
open Go.RowKit
set_option maxRecDepth 100000

section copyk
variable {P : Program}
/-- 'copy(d, s)' at elements of any size. -/
theorem run_copy_row_k (w : World) (dT sT ty elem : TypeId) (size g o dLen dCap : Nat) (a : Addr) (sLen sCap : Nat) (cur : Array Value) (t : TypeId) (cs : List Value) (hu : P.underlying dT = some (.slice elem)) (hs : (P.info? elem).map (·.size) = some size)
    (hg : w.heap[g]? = some (.cells cur t (0, 0))) (hn : cs.length = Nat.min sLen dLen * size) (hsrc : ∀ j v, cs[j]? = some v → w.cell? (a.add j) = some v) (hfit : o + cs.length ≤ cur.size) (h1 : ∀ v ∈ cs, v.oneCell' = true) :
    (Builtin.copy_ #[dT, sT] ty #[.slice (some ⟨g, o, none⟩) dLen dCap, .slice (some a) sLen sCap]).run P w =
      .ok (goInt (Nat.min sLen dLen)) (w.setRow g (cur.toList.take o ++ cs ++ cur.toList.drop (o + cs.length)).toArray) := by
  have hl := run_loadCells_list (P := P) w a cs hsrc
  have hst := run_storeCells_at P g o t cs 0 cur w hg (by simpa using hfit) h1
  cases hq : P.info? elem with
  | none => simp [hq] at hs
  | some i =>
    have hi : i.size = size := by simpa [hq] using hs
    rw [hn] at hl
    simp only [Nat.min_def] at hl
    simp [Builtin.copy_, run_underlying hu, Builtin.lenOf, Builtin.firstCells, sizeOf, typeInfo, hq, hi, hl, hst, Nat.min_def]
theorem wpList_copy_run {w : World} {ops : Array Oper} {rest : List Oper} {o : Oper} {a : Act} {Q : Exit → Act → World → Prop} (hgd : o.guard = none) (d s : Operand) (t t' : TypeId)
    (ho : o.op = .call { callee := .builtin .copy, args := #[d, s], argTypes := #[t, t'] }) (v u : Value) (hd : a.eval d = v) (hs : a.eval s = u) {v' : Value} {w' : World}
    (hr : (Builtin.copy_ #[t, t'] o.type #[v, u]).run P w = .ok v' w') (h : wpList P ops Q rest (a.put o.dst v') w') : wpList P ops Q (o :: rest) a w :=
  wpList_plain hgd fun _ hK => by
    unfold Oper.wp execOp
    simp only [ho, resolve, invoke, builtin, Sem.run_bind, Sem.run_pure, Result.andThen_ok, List.map_toArray, List.map_cons, List.map_nil, hd, hs, hr]
    exact hK _ _ h
theorem step_copy_run {ops : Array Oper} {o : Oper} {a : Act} {w : World} {K : Act → World → Prop} {Q : Exit → Act → World → Prop} {E : Prop} (hg : o.guard = none) (d x : Operand) (dT sT : TypeId)
    (hop : o.op = Op.call { callee := Callee.builtin Builtin.copy, args := #[d, x], argTypes := #[dT, sT] }) (v u : Value) (hd : a.eval d = v) (hx : a.eval x = u) {v' : Value} {w' : World}
    (hr : (Builtin.copy_ #[dT, sT] o.type #[v, u]).run P w = .ok v' w') (hK : K (a.put o.dst v') w') : if Region.wanted o (yielded ops a.tmps) = true then Oper.wp P o a w K Q else E := by
  have hw : Region.wanted o (yielded ops a.tmps) = true := by simp [Region.wanted, hg]
  rw [if_pos hw]
  unfold Oper.wp
  simp [execOp, hop, resolve, invoke, builtin, hd, hx, hr, Result.andThen]
  exact hK
end copyk

theorem oneCell_ent (l : List Ent) : ∀ u ∈ entCells l, u.oneCell' = true := fun u hu => by
  obtain ⟨e, _, he⟩ := List.mem_flatMap.1 hu
  simp at he
  rcases he with rfl | rfl <;> rfl

theorem slices_Clone_ent (D : List Nat) (A : Option Addr) (c n : Nat) (l : List Ent) (w : World) (h : Ents w D A c l) (hn : l.length = n) (hs : n ≤ 100000) :
    Calls Tryz.prog 54 #[.slice A n c] w fun r w' => ∃ v, r = .returned v ∧ w'.ownsRow w.heap.size 50 2 v n (entCells l) ∧ Kept [] w w' := by
  subst hn
  have HH := Lib.hid h
  clear h
  rcases A with _ | ad
  · have hl : l = [] := by
      rcases l with _ | ⟨x, l⟩
      · rfl
      · obtain ⟨ad, hA, _⟩ := HH.out.get (k := 0) (by simp)
        cases hA
    subst hl
    have he := fun W => Lib.run_eql_slice_nil (P := Tryz.prog) W 24 50 none 0 c 0 0 Tryz.underlying24
    go_enter Tryz.func54, Tryz.ntmps54
    go_wp2
    go_ret
    exact ⟨_, rfl, World.ownsRow_nil _ _ _ _, Kept.refl _ _⟩
  · obtain ⟨i0, hi, hz0, hz1, hz2⟩ := info_parts ent_info
    have he := fun W => Lib.run_eql_slice_nil (P := Tryz.prog) W 24 50 (some ad) l.length c 0 0 Tryz.underlying24
    go_enter Tryz.func54, Tryz.ntmps54
    go_wp2_with (at_builtin; refine Stop.here ?_)
    refine Stop.go ?_
    have hown0 : (w.alloc (.cells #[] 50)).ownsRow w.heap.size 50 2 (.slice (some ⟨w.heap.size, 0, none⟩) 0 0) 0 [] := World.ownsRow_made w #[] 0 (Nat.le_refl _) (by simp only [maxLen]; omega) rfl
    refine wpList_append_any _ rfl (.tmp 5) (.tmp 6) _ rfl w.heap.size 50 i0 _ 2 24 Tryz.underlying24 hi hz0 hz1 hz2 rfl (by omega) _ 0 [] rfl hown0 D _ _ l.length c (entCells l) rfl (HH.out.keep0 ((Kept.refl _ _).alloc _)) (oneCell_ent l) ?_ ?_ ?_ ?_
    · simp only [maxLen]; omega
    · omega
    · simp
    intro v1 w1 hown1 hg1 _
    have hk : Kept [] w w1 := grown_own_none hown0 ((Kept.refl _ _).alloc _) (Nat.le_refl _) hg1
    simp only [Nat.zero_add, List.nil_append] at hown1
    have HO := Lib.hid hown1
    have HK := Lib.hid hk
    clear hown1 hk hg1 hown0
    go_wp2_with fail
    go_ret
    exact ⟨_, rfl, HO.out, HK.out⟩

/-- At the end. -/
theorem slices_Insert_end (base n b : Nat) (v : Value) (l : List Ent) (e : Ent) (w : World) (ho : w.ownsRow base 50 2 v n (entCells l)) (hn : l.length = n) (hs : n ≤ 100000) (hb : Blk w b 50 #[.string (str e.name), .int .i64 e.node]) (hbase : base ≤ w.heap.size) :
    Calls Tryz.prog 55 #[v, .int .i64 n, .slice (some ⟨b, 0, none⟩) 1 1] w fun r w' => ∃ v', r = .returned v' ∧
      w'.ownsRow base 50 2 v' (n + 1) (entCells (l ++ [e])) ∧ Kept v.ownBlock.toList w w' := by
  obtain ⟨i0, hi, hz0, hz1, hz2⟩ := info_parts ent_info
  obtain ⟨A, c, rfl⟩ := own_form ho
  have hsl : Sl w [] 50 2 (some ⟨b, 0, none⟩) 1 1 [.string (str e.name), .int .i64 e.node] := ⟨rfl, by omega, by omega, by omega, fun _ => ⟨_, rfl, by simp, ⟨_, _, hb⟩, fun j u hu => by
    rw [add_lit0, hb.cell]
    simpa using hu⟩⟩
  have HO := Lib.hid ho
  have HS := Lib.hid hsl
  have hec : entCells (l ++ [e]) = entCells l ++ [.string (str e.name), .int .i64 e.node] := entCells_append _ _
  have HEC := Lib.hid hec
  have hcap : n ≤ c ∧ c ≤ 9223372036854775807 := by
    rcases ho.2 with ⟨h0, h1⟩ | ⟨_, _, _, hv, _, _, h1, h2, _⟩
    · injection h0 with _ _ h2
      omega
    · injection hv with _ _ h3
      simp only [maxLen] at h2
      omega
  obtain ⟨bk, hbk⟩ : ∃ bk, bk = (Value.slice A n c).ownBlock.toList := ⟨_, rfl⟩
  have HBK := Lib.hid hbk
  rw [← hbk]
  clear ho hsl hec hb hn hbk
  rcases Nat.lt_or_eq_of_le hcap.1 with hlt | hlt
  case' inl => have hne : ¬ c = n := by omega
  case' inr => subst hlt
  all_goals
    go_enter Tryz.func55, Tryz.ntmps55
    go_wp2_with (at_builtin; refine Stop.here ?_)
    refine Stop.go ?_
    refine wpList_append_any _ rfl (.tmp 23) (.tmp 24) _ rfl base 50 i0 _ 2 24 Tryz.underlying24 hi hz0 hz1 hz2 rfl (by omega) _ n _ rfl HO.out [] _ _ 1 1 _ rfl HS.out (by simp [Value.oneCell']) (by simp only [maxLen]; omega) (by omega) hbase ?_
    intro v1 w1 ho1 hg1 _
    rw [← HEC.out] at ho1
    have HO1 := Lib.hid ho1
    have HK1 := Lib.hid (Kept.of_grown hg1 bk (fun k hk => by rw [HBK.out, Option.mem_toList]; exact hk))
    clear ho1 hg1
    go_wp2_with fail
    go_ret
    exact ⟨_, rfl, HO1.out, HK1.out⟩

set_option maxHeartbeats 4000000 in
/-- There is room: in place. -/
theorem slices_Insert_room (base n c g i b : Nat) (l : List Ent) (e : Ent) (w : World) (ho : w.ownsRow base 50 2 (.slice (some ⟨g, 0, none⟩) n c) n (entCells l)) (hn : l.length = n) (hs : n ≤ 100000) (hi : i < n) (hc : n + 1 ≤ c)
    (hb : Blk w b 50 #[.string (str e.name), .int .i64 e.node]) (hne : b ≠ g) :
    Calls Tryz.prog 55 #[.slice (some ⟨g, 0, none⟩) n c, .int .i64 i, .slice (some ⟨b, 0, none⟩) 1 1] w fun r w' => ∃ v', r = .returned v' ∧
      w'.ownsRow base 50 2 v' (n + 1) (entCells (l.take i ++ e :: l.drop i)) ∧ Kept [g] w w' := by
  have hu : Tryz.prog.underlying 24 = some (.slice 50) := Tryz.underlying24
  obtain ⟨i0, hi0, hz0, hz1, hz2⟩ := info_parts ent_info
  have hsz : (Tryz.prog.info? 50).map (·.size) = some 2 := by rw [hi0]; simp [hz1]
  have hso : ∀ w, (Go.sizeOf 50).run Tryz.prog w = .ok 2 w := fun w => by simp [sizeOf, typeInfo, hi0, hz1]
  obtain ⟨cur, hbg, hg, hcm, hcs, htk⟩ : ∃ cur : Array Value, base ≤ g ∧ w.heap[g]? = some (.cells cur 50 (0, 0)) ∧ c ≤ maxLen ∧ cur.size = c * 2 ∧ cur.toList.take (n * 2) = entCells l := by
    rcases ho.2 with ⟨h0, _⟩ | ⟨g', cap, cur, hv, h1, h2, _, h4, h5, h6⟩
    · cases h0
    · injection hv with a1 _ a3
      injection a1 with a1
      injection a1 with a1
      subst a1; subst a3
      exact ⟨cur, h1, h2, h4, h5, h6⟩
  have hcm2 : c ≤ 9223372036854775807 := by simpa [maxLen] using hcm
  have hsa : w.shape? b = some (50, 2) := by
    have h := hb
    unfold Blk at h
    simp [World.shape?, h]
  have hsb : w.shape? g = some (50, c * 2) := by simp [World.shape?, hg, hcs]
  have hfa : w.frozen? ⟨b, 0, none⟩ = false := hb.frozen 0
  have hfe : w.frozen? { block := b, off := 2 } = false := hb.frozen 2
  have hov : ∀ o lb cb, (callFunc 92 #[.slice (some ⟨b, 0, none⟩) 1 1, .slice (some ⟨g, o, none⟩) lb cb]).run Tryz.prog w = .ok (.value (.bool false)) w := fun o lb cb => by
    rw [run_callFunc_extern Tryz.func92 (by kernel_rfl) (by kernel_rfl) (by kernel_rfl) (e := Extern.SlicesOverlaps.overlaps #[24, 24] #[4]) (by kernel_rfl),
      Lib.run_overlaps_apart w 24 4 50 hu 2 hso ⟨b, 0, none⟩ ⟨g, o, none⟩ 1 1 lb cb hne _ _ 2 (c * 2) hsa hsb (by omega) hfa hfe]
    rfl
  have hb2 : ¬ (c = i + 1) := by omega
  have hb4 : ¬ (c = i) := by omega
  have hX : (entCells (l.drop i)).length = (n - i) * 2 := by rw [entCells_length, List.length_drop, hn]
  have hcl : cur.toList.length = c * 2 := by rw [Array.length_toList, hcs]
  have hrd : ∀ j u, (entCells (l.drop i))[j]? = some u → w.cell? ⟨g, i * 2 + j, none⟩ = some u := fun j u hj => by
    have hj2 : j < (n - i) * 2 := by rw [← hX]; exact (List.getElem?_eq_some_iff.1 hj).1
    rw [cell_of_row w g _ cur _ (0, 0) hg, ← Array.getElem?_toList]
    have e1 : entCells l = entCells (l.take i) ++ entCells (l.drop i) := by rw [← entCells_append, List.take_append_drop]
    have h2 : (entCells l)[i * 2 + j]? = some u := by
      rw [e1, List.getElem?_append_right (by rw [entCells_length, List.length_take, hn]; omega), entCells_length, List.length_take, hn, show i * 2 + j - min i n * 2 = j from by omega]
      exact hj
    rw [← htk, List.getElem?_take_of_lt (by omega)] at h2
    exact h2
  have hcp1 : ∀ ty dc sc, (Builtin.copy_ #[24, 24] ty #[.slice (some ⟨g, (i + 1) * 2, none⟩) (n - i) dc, .slice (some ⟨g, i * 2, none⟩) (n + 1 - i) sc]).run Tryz.prog w.drew =
      .ok (goInt (Nat.min (n + 1 - i) (n - i))) (w.drew.setRow g (cur.toList.take ((i + 1) * 2) ++ entCells (l.drop i) ++ cur.toList.drop ((i + 1) * 2 + (entCells (l.drop i)).length)).toArray) := fun ty dc sc =>
    run_copy_row_k w.drew _ _ ty 50 2 g ((i + 1) * 2) (n - i) dc ⟨g, i * 2, none⟩ (n + 1 - i) sc cur _ (entCells (l.drop i)) hu hsz hg (by rw [hX]; simp only [Nat.min_def]; split <;> omega)
      (fun j u hj => by
        have hadd : (⟨g, i * 2, none⟩ : Addr).add j = ⟨g, i * 2 + j, none⟩ := by unfold Addr.add; split <;> simp_all
        rw [hadd]
        exact hrd j u hj) (by rw [hX, hcs]; omega) (oneCell_ent _)
  obtain ⟨C1, hC1⟩ : ∃ C1, C1 = (cur.toList.take ((i + 1) * 2) ++ entCells (l.drop i) ++ cur.toList.drop ((i + 1) * 2 + (entCells (l.drop i)).length)) := ⟨_, rfl⟩
  rw [← hC1] at hcp1
  have hC1l : C1.length = c * 2 := by
    rw [hC1]
    simp only [List.length_append, List.length_take, List.length_drop, hX, hcl]
    omega
  obtain ⟨W1, hW1⟩ : ∃ W1, W1 = w.drew.setRow g C1.toArray := ⟨_, rfl⟩
  rw [← hW1] at hcp1
  have hg1 : W1.heap[g]? = some (.cells C1.toArray 50 (0, 0)) := by rw [hW1]; exact setRow_heap _ _ _ _ _ _ hg
  have hb1 : Blk W1 b 50 #[.string (str e.name), .int .i64 e.node] := by rw [hW1]; exact hb.drew.row_far _ hne
  have hk1 : Kept [g] w W1 := by rw [hW1]; exact ((Kept.refl [g] w).drew).setRow g _ (.inr (by simp))
  have hE : [Value.string (str e.name), Value.int .i64 e.node] = entCells [e] := rfl
  have hcp2 : ∀ ty dc, (Builtin.copy_ #[24, 24] ty #[.slice (some ⟨g, i * 2, none⟩) (n + 1 - i) dc, .slice (some ⟨b, 0, none⟩) 1 1]).run Tryz.prog W1 =
      .ok (goInt (Nat.min 1 (n + 1 - i))) (W1.setRow g (C1.take (i * 2) ++ entCells [e] ++ C1.drop (i * 2 + (entCells [e]).length)).toArray) := fun ty dc =>
    run_copy_row_k W1 _ _ ty 50 2 g (i * 2) (n + 1 - i) dc ⟨b, 0, none⟩ 1 1 C1.toArray _ (entCells [e]) hu hsz hg1 (by simp only [Nat.min_def]; rw [if_pos (by omega)]; rfl)
      (fun j u hj => by
        rw [add_lit0, hb1.cell]
        simpa [entCells] using hj) (by simp only [List.size_toArray, hC1l]; simp [entCells]; omega) (oneCell_ent _)
  obtain ⟨C2, hC2⟩ : ∃ C2, C2 = C1.take (i * 2) ++ entCells [e] ++ C1.drop (i * 2 + (entCells [e]).length) := ⟨_, rfl⟩
  obtain ⟨W2, hW2⟩ : ∃ W2, W2 = W1.setRow g C2.toArray := ⟨_, rfl⟩
  rw [← hC2, ← hW2] at hcp2
  have hfin : W2.ownsRow base 50 2 (.slice (some ⟨g, 0, none⟩) (n + 1) c) (n + 1) (entCells (l.take i ++ e :: l.drop i)) := by
    have hl3 : (entCells (l.take i ++ e :: l.drop i)).length = (n + 1) * 2 := by
      rw [entCells_length, List.length_append, List.length_take, List.length_cons, List.length_drop, hn]
      omega
    refine ⟨hl3, .inr ⟨g, c, C2.toArray, rfl, hbg, by rw [hW2]; exact setRow_heap _ _ _ _ _ _ hg1, hc, hcm, ?_, ?_⟩⟩
    · rw [hC2]
      simp only [List.size_toArray, List.length_append, List.length_take, List.length_drop, hC1l]
      simp [entCells]
      omega
    · have t1 : C1.take (i * 2) = entCells (l.take i) := by
        rw [hC1, List.append_assoc, List.take_append_of_le_length (by rw [List.length_take, hcl]; omega), List.take_take, show min (i * 2) ((i + 1) * 2) = min (i * 2) (n * 2) from by omega, ← List.take_take, htk]
        have e1 : entCells l = entCells (l.take i) ++ entCells (l.drop i) := by rw [← entCells_append, List.take_append_drop]
        rw [e1, List.take_append_of_le_length (by rw [entCells_length, List.length_take, hn]; omega), List.take_of_length_le (by rw [entCells_length, List.length_take, hn]; omega)]
      have t2 : C1.drop (i * 2 + (entCells [e]).length) = entCells (l.drop i) ++ cur.toList.drop ((i + 1) * 2 + (entCells (l.drop i)).length) := by
        rw [hC1, List.append_assoc, show i * 2 + (entCells [e]).length = (cur.toList.take ((i + 1) * 2)).length from by rw [List.length_take, hcl, entCells_length]; simp; omega, List.drop_left]
      rw [hC2, t1, t2]
      have e3 : entCells (l.take i ++ e :: l.drop i) = entCells (l.take i) ++ entCells [e] ++ entCells (l.drop i) := by
        rw [entCells_append, show e :: l.drop i = [e] ++ l.drop i from rfl, entCells_append, List.append_assoc]
      rw [← List.append_assoc, ← e3, ← hl3]
      exact List.take_left
  have hk2 : Kept [g] w W2 := by rw [hW2]; exact hk1.setRow g _ (.inr (by simp))
  have HF := Lib.hid hfin
  have HK2 := Lib.hid hk2
  have HCP1 := Lib.hid hcp1
  have HCP2 := Lib.hid hcp2
  have hw1 : IntKind.i64.wrap ((i : Int) + 1) = (i : Int) + 1 := by rw [IntKind.wrap_i64]; omega
  have hp1 : (0 : Int) ≤ (i : Int) + 1 := by omega
  have hin : i ≤ n := by omega
  have hp2 : (i : Int) ≤ (n : Int) + 1 := by omega
  have htn : ((i : Int) + 1).toNat = i + 1 := by omega
  clear hsa hsb hfa hfe hfin hk1 hk2 hcp1 hcp2 hW1 hW2 hC1 hC2 hC1l hg1 hb1 hrd hX hcl htk hE hg hb ho hcs
  go_enter Tryz.func55, Tryz.ntmps55
  go_wp2_with (simp only [hov])
  go_region_law (refine step_copy_run rfl (.tmp 73) (.tmp 76) 24 24 rfl _ _ (by simp [Act.eval, Act.put]) (by simp [Act.eval, Act.put]) (HCP1.out _ (c - (i + 1)) (c - i)) ?_)
  go_wp2_with (with_reducible refine stop_copy ?_)
  refine Stop.go ?_
  refine wpList_copy_run rfl (.tmp 80) (.tmp 81) 24 24 rfl _ _ rfl rfl (HCP2.out _ (c - i)) ?_
  go_wp2_with fail
  go_ret
  exact ⟨_, rfl, HF.out, HK2.out⟩

set_option maxHeartbeats 4000000 in
/-- There is no room: a new row. -/
theorem slices_Insert_grow (base n c g i b : Nat) (l : List Ent) (e : Ent) (w : World) (ho : w.ownsRow base 50 2 (.slice (some ⟨g, 0, none⟩) n c) n (entCells l)) (hn : l.length = n) (hs : n ≤ 100000) (hi : i < n) (hc : c < n + 1)
    (hb : Blk w b 50 #[.string (str e.name), .int .i64 e.node]) (hbase : base ≤ w.heap.size) :
    Calls Tryz.prog 55 #[.slice (some ⟨g, 0, none⟩) n c, .int .i64 i, .slice (some ⟨b, 0, none⟩) 1 1] w fun r w' => ∃ v', r = .returned v' ∧
      w'.ownsRow base 50 2 v' (n + 1) (entCells (l.take i ++ e :: l.drop i)) ∧ Kept [] w w' := by
  have hu : Tryz.prog.underlying 24 = some (.slice 50) := Tryz.underlying24
  obtain ⟨i0, hi0, hz0, hz1, hz2⟩ := info_parts ent_info
  have hsz : (Tryz.prog.info? 50).map (·.size) = some 2 := by rw [hi0]; simp [hz1]
  have hnc : n ≤ c := by
    rcases ho.2 with ⟨h0, _⟩ | ⟨g', cap, cur, hv, _, _, h3, _⟩
    · cases h0
    · injection hv with _ _ a3
      omega
  obtain rfl : c = n := by omega
  have hrow := ho.cells (g := g) rfl
  have hX : (entCells (l.drop i)).length = (c - i) * 2 := by rw [entCells_length, List.length_drop, hn]
  have hTl : (entCells (l.take i)).length = i * 2 := by rw [entCells_length, List.length_take, hn, Nat.min_eq_left (by omega)]
  have e1 : entCells l = entCells (l.take i) ++ entCells (l.drop i) := by rw [← entCells_append, List.take_append_drop]
  have hlo : ∀ j u, (entCells (l.take i))[j]? = some u → w.cell? ((⟨g, 0, none⟩ : Addr).add j) = some u := fun j u hj => by
    refine hrow j u ?_
    have hj2 := (List.getElem?_eq_some_iff.1 hj).1
    rw [e1, List.getElem?_append_left hj2]
    exact hj
  have hhi : ∀ j u, (entCells (l.drop i))[j]? = some u → w.cell? ⟨g, i * 2 + j, none⟩ = some u := fun j u hj => by
    have := hrow (i * 2 + j) u (by rw [e1, List.getElem?_append_right (by omega), hTl, show i * 2 + j - i * 2 = j from by omega]; exact hj)
    rw [add_lit0] at this
    exact this
  have hfc : (Builtin.firstCells i0.size i (.slice (some ⟨g, 0, none⟩) i c)).run Tryz.prog w.drew = .ok (entCells (l.take i)).toArray w.drew :=
    run_firstCells_some (P := Tryz.prog) w.drew i0.size i ⟨g, 0, none⟩ i c _ (by rw [hz1]; exact hTl) (fun j u hj => hlo j u hj)
  have hap := Lib.run_append_grow_zeros (P := Tryz.prog) w 24 3 24 50 i0 _ .i64 .i64 hu Tryz.underlying3 hi0 hz0 (some ⟨g, 0, none⟩) i c (entCells (l.take i)) hfc (c + 1 - i) (by omega) (by omega) (by omega) (by omega) (by rw [hz2]; omega) (by rw [hz2]; exact growslice_fits (by omega) (by omega))
  rw [show i + (c + 1 - i) = c + 1 from by omega, show ((c + 1 - i : Nat) : Int) = (c : Int) + 1 - i from by omega] at hap
  have hge := grownCap_ge w (c + 1) c 50
  have hgm : grownCap w (c + 1) c 50 ≤ maxLen := grownCap_le_maxLen w (c + 1) c 50 (by simp only [maxLen]; omega)
  obtain ⟨N, hN⟩ : ∃ N, N = grownCap w (c + 1) c 50 := ⟨_, rfl⟩
  rw [← hN] at hap hge hgm
  have hzl : ∀ k, (Builtin.zeroCells (Value.agg #[.string (str []), .int .i64 0]).cells k).size = k * 2 := fun k => by
    have h0 : (Value.agg #[.string (str []), .int .i64 0]).cells.size = 2 := rfl
    rw [size_zeroCells, h0]
  obtain ⟨Z, hZ⟩ : ∃ Z : List Value, Z = ((entCells (l.take i)).toArray ++ Builtin.zeroCells (Value.agg #[.string (str []), .int .i64 0]).cells (c + 1 - i) ++ Builtin.zeroCells (Value.agg #[.string (str []), .int .i64 0]).cells (N - (c + 1))).toList := ⟨_, rfl⟩
  have hZa : ((entCells (l.take i)).toArray ++ Builtin.zeroCells (Value.agg #[.string (str []), .int .i64 0]).cells (c + 1 - i) ++ Builtin.zeroCells (Value.agg #[.string (str []), .int .i64 0]).cells (N - (c + 1))) = Z.toArray := by rw [hZ]
  rw [hZa] at hap
  have hZl : Z.length = N * 2 := by
    rw [hZ]
    simp only [Array.length_toList, Array.size_append, hzl, List.size_toArray, hTl]
    omega
  have hZt : Z.take (i * 2) = entCells (l.take i) := by
    rw [hZ]
    simp only [Array.toList_append, List.append_assoc]
    rw [← hTl]
    exact List.take_left
  obtain ⟨g2, hg2⟩ : ∃ g2, g2 = w.heap.size := ⟨_, rfl⟩
  obtain ⟨W0, hW0⟩ : ∃ W0, W0 = w.drew.alloc (.cells Z.toArray 50) := ⟨_, rfl⟩
  have hr0 : W0.heap[g2]? = some (.cells Z.toArray 50 (0, 0)) := by rw [hW0, hg2]; exact heap_alloc_new w.drew _
  have hk0 : Kept [] w W0 := by rw [hW0]; exact ((Kept.refl [] w).drew).alloc _
  have hgw : g < w.heap.size := by
    rcases ho.2 with ⟨h0, _⟩ | ⟨g', cap, cur, hv, _, h3, _⟩
    · cases h0
    · injection hv with a1 _ _
      injection a1 with a1
      injection a1 with a1
      subst a1
      exact lt_of_heap h3
  have hbw := hb.lt
  have hgne : g ≠ g2 := by omega
  have hbne : b ≠ g2 := by omega
  have hap2 : ∀ ty, (Builtin.append_ #[24, 3] ty #[.slice (some ⟨g, 0, none⟩) i c, .int .i64 ((c : Int) + 1 - i)]).run Tryz.prog w = .ok (.slice (some ⟨g2, 0, none⟩) (c + 1) N) W0 := fun ty => by
    rw [hg2, hW0]
    exact hap
  have hE : (entCells [e]).length = 2 := rfl
  have hcp1 : ∀ ty dc, (Builtin.copy_ #[24, 24] ty #[.slice (some ⟨g2, i * 2, none⟩) (c + 1 - i) dc, .slice (some ⟨b, 0, none⟩) 1 1]).run Tryz.prog W0 =
      .ok (goInt (Nat.min 1 (c + 1 - i))) (W0.setRow g2 (Z.take (i * 2) ++ entCells [e] ++ Z.drop (i * 2 + (entCells [e]).length)).toArray) := fun ty dc =>
    run_copy_row_k W0 _ _ ty 50 2 g2 (i * 2) (c + 1 - i) dc ⟨b, 0, none⟩ 1 1 Z.toArray _ (entCells [e]) hu hsz hr0 (by simp only [Nat.min_def]; rw [if_pos (by omega)]; rfl)
      (fun j u hj => by
        rw [add_lit0, (hb.keep0 hk0).cell]
        simpa [entCells] using hj) (by simp only [List.size_toArray, hZl, hE]; omega) (oneCell_ent _)
  obtain ⟨C1, hC1⟩ : ∃ C1, C1 = Z.take (i * 2) ++ entCells [e] ++ Z.drop (i * 2 + (entCells [e]).length) := ⟨_, rfl⟩
  rw [← hC1] at hcp1
  have hC1l : C1.length = N * 2 := by
    rw [hC1]
    simp only [List.length_append, List.length_take, List.length_drop, hZl, hE]
    omega
  have hC1t : C1.take ((i + 1) * 2) = entCells (l.take i) ++ entCells [e] := by
    rw [hC1, hZt, show (i + 1) * 2 = (entCells (l.take i) ++ entCells [e]).length from by rw [List.length_append, hTl, hE]; omega]
    exact List.take_left
  obtain ⟨W1, hW1⟩ : ∃ W1, W1 = W0.setRow g2 C1.toArray := ⟨_, rfl⟩
  rw [← hW1] at hcp1
  have hr1 : W1.heap[g2]? = some (.cells C1.toArray 50 (0, 0)) := by rw [hW1]; exact setRow_heap _ _ _ _ _ _ hr0
  have hk1 : Kept [] w W1 := by rw [hW1]; exact hk0.setRow g2 _ (.inl (by omega))
  have hcp2 : ∀ ty dc sc, (Builtin.copy_ #[24, 24] ty #[.slice (some ⟨g2, (i + 1) * 2, none⟩) (c - i) dc, .slice (some ⟨g, i * 2, none⟩) (c - i) sc]).run Tryz.prog W1.drew =
      .ok (goInt (Nat.min (c - i) (c - i))) (W1.drew.setRow g2 (C1.take ((i + 1) * 2) ++ entCells (l.drop i) ++ C1.drop ((i + 1) * 2 + (entCells (l.drop i)).length)).toArray) := fun ty dc sc =>
    run_copy_row_k W1.drew _ _ ty 50 2 g2 ((i + 1) * 2) (c - i) dc ⟨g, i * 2, none⟩ (c - i) sc C1.toArray _ (entCells (l.drop i)) hu hsz hr1 (by rw [hX, show Nat.min (c - i) (c - i) = c - i from Nat.min_self _])
      (fun j u hj => by
        have hadd : (⟨g, i * 2, none⟩ : Addr).add j = ⟨g, i * 2 + j, none⟩ := by unfold Addr.add; split <;> simp_all
        rw [hadd, ← hhi j u hj]
        exact hk1.drew.cell hgw (by simp)) (by simp only [List.size_toArray, hC1l, hX]; omega) (oneCell_ent _)
  obtain ⟨C2, hC2⟩ : ∃ C2, C2 = C1.take ((i + 1) * 2) ++ entCells (l.drop i) ++ C1.drop ((i + 1) * 2 + (entCells (l.drop i)).length) := ⟨_, rfl⟩
  obtain ⟨W2, hW2⟩ : ∃ W2, W2 = W1.drew.setRow g2 C2.toArray := ⟨_, rfl⟩
  rw [← hC2, ← hW2] at hcp2
  have hfin : W2.ownsRow base 50 2 (.slice (some ⟨g2, 0, none⟩) (c + 1) N) (c + 1) (entCells (l.take i ++ e :: l.drop i)) := by
    have hl3 : (entCells (l.take i ++ e :: l.drop i)).length = (c + 1) * 2 := by
      rw [entCells_length, List.length_append, List.length_take, List.length_cons, List.length_drop, hn]
      omega
    refine ⟨hl3, .inr ⟨g2, N, C2.toArray, rfl, by omega, by rw [hW2]; exact setRow_heap _ _ _ _ _ _ hr1, hge, hgm, ?_, ?_⟩⟩
    · rw [hC2]
      simp only [List.size_toArray, List.length_append, List.length_take, List.length_drop, hC1l, hX]
      omega
    · have e3 : entCells (l.take i ++ e :: l.drop i) = entCells (l.take i) ++ entCells [e] ++ entCells (l.drop i) := by
        rw [entCells_append, show e :: l.drop i = [e] ++ l.drop i from rfl, entCells_append, List.append_assoc]
      rw [hC2, hC1t, ← e3, ← hl3]
      exact List.take_left
  have hk2 : Kept [] w W2 := by rw [hW2]; exact hk1.drew.setRow g2 _ (.inl (by omega))
  have HF := Lib.hid hfin
  have HK2 := Lib.hid hk2
  have HAP := Lib.hid hap2
  have HCP1 := Lib.hid hcp1
  have HCP2 := Lib.hid hcp2
  have hw1 : IntKind.i64.wrap ((i : Int) + 1) = (i : Int) + 1 := by rw [IntKind.wrap_i64]; omega
  have hp1 : (0 : Int) ≤ (i : Int) + 1 := by omega
  have hin : i ≤ c := by omega
  have htn : ((i : Int) + 1).toNat = i + 1 := by omega
  have hb2 : ¬ (N = i + 1) := by omega
  have hb4 : ¬ (N = i) := by omega
  have hb5 : ¬ (c = i) := by omega
  clear hfin hk1 hk2 hcp1 hcp2 hap2 hW1 hW2 hC1 hC2 hC1l hC1t hr0 hr1 hk0 hhi hlo hX hTl e1 hrow hfc hap hZ hZa hZl hZt hzl hg2 hW0 hN hE hb ho hn hz0 hz1 hz2 hi0
  go_enter Tryz.func55, Tryz.ntmps55
  go_wp2_with (at_builtin; refine Stop.here ?_)
  refine Stop.go ?_
  refine Lib.wpList_append_run w rfl (.tmp 34) (.tmp 39) 24 3 rfl _ _ rfl rfl _ _ (HAP.out _) ?_
  go_wp2_with (with_reducible refine stop_copy ?_)
  refine Stop.go ?_
  refine wpList_copy_run rfl (.tmp 43) (.tmp 44) 24 24 rfl _ _ rfl rfl (HCP1.out _ (N - i)) ?_
  go_wp2_with fail
  go_region_law (refine step_copy_run rfl (.tmp 50) (.tmp 53) 24 24 rfl _ _ (by simp [Act.eval, Act.put]) (by simp [Act.eval, Act.put]) (HCP2.out _ (N - (i + 1)) (c - i)) ?_)
  go_wp2_with fail
  go_ret
  exact ⟨_, rfl, HF.out, HK2.out⟩
end Go.Proofs.YtcbdjmlkjifamaaGreatDoor

/- slices.Grow of nil, slices.Concat of two rows of entries. Conditions: as the theorems say. -/
namespace Go.Proofs.YtcbdjmlkjifamaaGreatDoor
open Go.RowKit
set_option maxRecDepth 100000

theorem slices_Grow_nil (n : Nat) (w : World) (hs : n ≤ 100000) :
    Calls Tryz.prog 91 #[.slice none 0 0, .int .i64 n] w fun r w' => ∃ v, r = .returned v ∧ w'.ownsRow w.heap.size 50 2 v 0 (entCells []) ∧ Kept [] w w' := by
  by_cases h0 : n = 0
  · subst h0
    go_enter Tryz.func91, Tryz.ntmps91
    go_wp2_with fail
    go_ret
    exact ⟨_, rfl, World.ownsRow_nil _ _ _ _, Kept.refl _ _⟩
  · have hu : Tryz.prog.underlying 24 = some (.slice 50) := Tryz.underlying24
    obtain ⟨i0, hi0, hz0, hz1, hz2⟩ := info_parts ent_info
    have hap := Lib.run_append_nil_zeros (P := Tryz.prog) w 24 3 24 50 i0 _ .i64 .i64 hu Tryz.underlying3 hi0 hz0 n (by omega) (by omega) (by omega) (by rw [hz2]; omega)
    have hge := grownCap_ge w n 0 50
    have hgm : grownCap w n 0 50 ≤ maxLen := grownCap_le_maxLen w n 0 50 (by simp only [maxLen]; omega)
    obtain ⟨N, hN⟩ : ∃ N, N = grownCap w n 0 50 := ⟨_, rfl⟩
    rw [← hN] at hap hge hgm
    obtain ⟨Z, hZ⟩ : ∃ Z : Array Value, Z = Builtin.zeroCells (Value.agg #[.string (str []), .int .i64 0]).cells n ++ Builtin.zeroCells (Value.agg #[.string (str []), .int .i64 0]).cells (N - n) := ⟨_, rfl⟩
    have hZl : Z.size = N * 2 := by
      rw [hZ, Array.size_append, size_zeroCells, size_zeroCells]
      have h0 : (Value.agg #[.string (str []), .int .i64 0]).cells.size = 2 := rfl
      rw [h0]
      omega
    rw [← hZ] at hap
    obtain ⟨W0, hW0⟩ : ∃ W0, W0 = w.drew.alloc (.cells Z 50) := ⟨_, rfl⟩
    have hown : W0.ownsRow w.heap.size 50 2 (.slice (some ⟨w.heap.size, 0, none⟩) 0 N) 0 (entCells []) :=
      ⟨rfl, .inr ⟨w.heap.size, N, Z, rfl, Nat.le_refl _, by rw [hW0]; exact heap_alloc_new w.drew _, Nat.zero_le _, hgm, hZl, by simp [entCells]⟩⟩
    have hk : Kept [] w W0 := by rw [hW0]; exact ((Kept.refl [] w).drew).alloc _
    rw [← hW0] at hap
    have HAP := Lib.hid (fun ty => (show (Builtin.append_ #[24, 3] ty #[.slice none 0 0, .int .i64 n]).run Tryz.prog w = .ok (.slice (some ⟨w.heap.size, 0, none⟩) n N) W0 from hap))
    have HO := Lib.hid hown
    have HK := Lib.hid hk
    have hpos : (0 : Int) < n := by omega
    clear hap hown hk hW0 hZ hZl hN hi0 hz0 hz1 hz2
    go_enter Tryz.func91, Tryz.ntmps91
    go_wp2_with (at_builtin; refine Stop.here ?_)
    refine Stop.go ?_
    refine Lib.wpList_append_run w rfl (.tmp 20) (.tmp 21) 24 3 rfl _ _ rfl rfl _ _ (HAP.out _) ?_
    go_wp2_with fail
    go_ret
    exact ⟨_, rfl, HO.out, HK.out⟩

def ConRel (w : World) (n1 n2 : Nat) (s a : Value) (wr : World) : Prop := w = wr ∧ ((a = .int .i64 0 ∧ s = .int .i64 0) ∨ (a = .int .i64 1 ∧ s = .int .i64 n1) ∨ (a = .int .i64 2 ∧ s = .int .i64 (n1 + n2 : Nat)))
def CouRel (w : World) (base : Nat) (l1 l2 : List Ent) (v a : Value) (wr : World) : Prop :=
  ∃ k : Nat, k ≤ 2 ∧ a = .int .i64 k ∧ wr.ownsRow base 50 2 v (if k = 0 then 0 else if k = 1 then l1.length else l1.length + l2.length) (entCells (if k = 0 then [] else if k = 1 then l1 else l1 ++ l2)) ∧ Kept [] w wr

set_option maxHeartbeats 4000000 in
theorem slices_Concat_ent (b : Nat) (A1 A2 : Option Addr) (n1 c1 n2 c2 : Nat) (l1 l2 : List Ent) (w : World) (h1 : Ents w [] A1 c1 l1) (h2 : Ents w [] A2 c2 l2) (hn1 : l1.length = n1) (hn2 : l2.length = n2) (hs1 : n1 ≤ 40000) (hs2 : n2 ≤ 40000)
    (hb : Blk w b 24 #[.slice A1 n1 c1, .slice A2 n2 c2]) :
    Calls Tryz.prog 52 #[.slice (some ⟨b, 0, none⟩) 2 2] w fun r w' => ∃ v, r = .returned v ∧ w'.ownsRow w.heap.size 50 2 v (n1 + n2) (entCells (l1 ++ l2)) ∧ Kept [] w w' := by
  subst hn1; subst hn2
  obtain ⟨i0, hi0, hz0, hz1, hz2⟩ := info_parts ent_info
  have b0 : w.cell? ⟨b, 0, none⟩ = some (.slice A1 l1.length c1) := by rw [hb.cell]; rfl
  have b1 : w.cell? ⟨b, 1, none⟩ = some (.slice A2 l2.length c2) := by rw [hb.cell]; rfl
  have H1 := Lib.hid h1
  have H2 := Lib.hid h2
  have HB := Lib.hid hb
  clear h1 h2 hb
  go_enter Tryz.func52, Tryz.ntmps52
  go_wp2_with fail
  go_loopw [3, 11] (fun s a wr => ConRel w l1.length l2.length s a wr) (fun _ a _ => 2 - (intOf a).toNat)
  case atStart => exact ⟨rfl, .inl ⟨rfl, rfl⟩⟩
  case round =>
    obtain ⟨rfl, ⟨rfl, rfl⟩ | ⟨rfl, rfl⟩ | ⟨rfl, rfl⟩⟩ := hrel
    · go_wp2_with fail
      go_roundw
      case rel => exact ⟨rfl, .inr (.inl ⟨rfl, by go_num⟩)⟩
      case measure => simp [intOf]
    · go_wp2_with fail
      go_roundw
      case rel => exact ⟨rfl, .inr (.inr ⟨rfl, by go_num⟩)⟩
      case measure => simp [intOf]
    · go_wp2_with (go_at_call 91; refine Stop.here ?_)
      refine Stop.go ?_
      refine (slices_Grow_nil (l1.length + l2.length) _ (by omega)).mono ?_
      rintro r w1 ⟨v1, rfl, ho1, hk1⟩
      have HO1 := Lib.hid ho1
      have HK1 := Lib.hid hk1
      clear ho1 hk1
      go_wp2_with fail
      go_loopw [6, 27] (fun v a wr => CouRel w w.heap.size l1 l2 v a wr) (fun _ a _ => 2 - (intOf a).toNat)
      case atStart => exact ⟨0, by omega, rfl, HO1.out, HK1.out⟩
      case round =>
        obtain ⟨k, hk, rfl, ho, hkr⟩ := hrel
        obtain ⟨A3, c3, rfl⟩ := own_form ho
        have HK := Lib.hid hkr
        have hb2 := HB.out.keep0 hkr
        have d0 : wr.cell? ⟨b, 0, none⟩ = some (.slice A1 l1.length c1) := by rw [hb2.cell]; rfl
        have d1 : wr.cell? ⟨b, 1, none⟩ = some (.slice A2 l2.length c2) := by rw [hb2.cell]; rfl
        clear hkr hb2
        rcases (show k = 0 ∨ k = 1 ∨ k = 2 by omega) with rfl | rfl | rfl
        · simp only [if_true] at ho
          have HO := Lib.hid ho
          clear ho
          go_wp2_with (at_builtin; refine Stop.here ?_)
          refine Stop.go ?_
          refine wpList_append_sl (W0 := w) rfl (.tmp 31) (.tmp 32) _ rfl w.heap.size 50 i0 _ 2 24 Tryz.underlying24 hi0 hz0 hz1 hz2 rfl (by omega) _ 0 _ rfl HO.out [] _ _ _ _ _ rfl (H1.out.keep0 HK.out) (oneCell_ent l1) (by simp only [maxLen]; omega) (by omega) HK.out.size HK.out (Nat.le_refl _) ?_
          intro v4 w4 ho4 hg4 hk4 _
          rw [Nat.zero_add, ← entCells_append, List.nil_append] at ho4
          have HO4 := Lib.hid ho4
          have HK4 := Lib.hid hk4
          clear ho4 hg4 hk4
          go_wp2_with fail
          go_roundw
          case rel => exact ⟨1, by omega, rfl, by simpa using HO4.out, HK4.out⟩
          case measure => simp [intOf]
        · simp only [if_true, Nat.one_ne_zero, if_false] at ho
          have HO := Lib.hid ho
          clear ho
          go_wp2_with (at_builtin; refine Stop.here ?_)
          refine Stop.go ?_
          refine wpList_append_sl (W0 := w) rfl (.tmp 31) (.tmp 32) _ rfl w.heap.size 50 i0 _ 2 24 Tryz.underlying24 hi0 hz0 hz1 hz2 rfl (by omega) _ l1.length _ rfl HO.out [] _ _ _ _ _ rfl (H2.out.keep0 HK.out) (oneCell_ent l2) (by simp only [maxLen]; omega) (by omega) HK.out.size HK.out (Nat.le_refl _) ?_
          intro v4 w4 ho4 hg4 hk4 _
          rw [← entCells_append] at ho4
          have HO4 := Lib.hid ho4
          have HK4 := Lib.hid hk4
          clear ho4 hg4 hk4
          go_wp2_with fail
          go_roundw
          case rel => exact ⟨2, by omega, rfl, by simpa using HO4.out, HK4.out⟩
          case measure => simp [intOf]
        · have ho2 : wr.ownsRow w.heap.size 50 2 (.slice A3 (l1.length + l2.length) c3) (l1.length + l2.length) (entCells (l1 ++ l2)) := ho
          have HO := Lib.hid ho2
          clear ho ho2
          go_wp2_with fail
          go_ret
          exact ⟨_, rfl, HO.out, HK.out⟩
end Go.Proofs.YtcbdjmlkjifamaaGreatDoor
