/-
  Package inode: all, Used, May, Lay: what each returns at inodes that may be. Condition: the inode may be.
-/
import Derived.Test.YtcbdjmlkjifamaaGreatDoorQac
import Derived.Test.YtcbdjmlkjifamaaGreatDoorQaf
import Derived.Test.YtcbdjmlkjifamaaGreatDoorQag
import Derived.Test.YtcbdjmlkjifamaaGreatDoorQai
import Derived.Deep.RegionLaw
set_option linter.unusedVariables false
set_option linter.unusedSimpArgs false

namespace Go.Proofs.YtcbdjmlkjifamaaGreatDoor
open Go.RowKit
set_option maxRecDepth 100000

/-- An inode, as its numbers. -/
structure Ino where
  kind : Nat
  mode : Nat
  links : Nat
  size : Nat
  time : Nat
  attr : Nat
  pages : List UInt8
  deriving DecidableEq

def Ino.cells (x : Ino) : Array Value := #[.int .i64 x.kind, .int .i64 x.mode, .int .i64 x.links, .int .i64 x.size, .int .i64 x.time, .int .i64 x.attr] ++ pgCells x.pages
def Ino.all (x : Ino) : List Nat := (x.attr :: x.pages.map (·.toNat)).filter (fun z => !(z == 0))

theorem Ino.at0 (x : Ino) : x.cells[0]? = some (.int .i64 x.kind) := by unfold Ino.cells; rw [Array.getElem?_append_left (by simp)]; rfl
theorem Ino.at1 (x : Ino) : x.cells[1]? = some (.int .i64 x.mode) := by unfold Ino.cells; rw [Array.getElem?_append_left (by simp)]; rfl
theorem Ino.at2 (x : Ino) : x.cells[2]? = some (.int .i64 x.links) := by unfold Ino.cells; rw [Array.getElem?_append_left (by simp)]; rfl
theorem Ino.at3 (x : Ino) : x.cells[3]? = some (.int .i64 x.size) := by unfold Ino.cells; rw [Array.getElem?_append_left (by simp)]; rfl
theorem Ino.at4 (x : Ino) : x.cells[4]? = some (.int .i64 x.time) := by unfold Ino.cells; rw [Array.getElem?_append_left (by simp)]; rfl
theorem Ino.at5 (x : Ino) : x.cells[5]? = some (.int .i64 x.attr) := by unfold Ino.cells; rw [Array.getElem?_append_left (by simp)]; rfl
theorem Ino.at6 (x : Ino) (j : Nat) : x.cells[6 + j]? = (pgCells x.pages)[j]? := by
  unfold Ino.cells
  rw [Array.getElem?_append_right (by simp)]
  simp
theorem Ino.cells_size (x : Ino) (h : x.pages.length = 32) : x.cells.size = 38 := by simp [Ino.cells, pgCells, h]
theorem ino_info : (Tryz.prog.info? 53).map (·.size) = some 38 := by kernel_rfl
theorem arr_info : (Tryz.prog.info? 51).map (·.size) = some 32 := by kernel_rfl

theorem run_loadVar_part {P : Program} (w : World) (g off : Nat) (t ty : TypeId) (cs ps : Array Value) (fr : Nat × Nat) (d : TypeDesc) (hg : w.heap[g]? = some (.cells cs t fr))
    (hu : P.underlying ty = some d) (hd : (match d with | .struct _ | .array _ _ => true | _ => false) = true) (hi : (P.info? ty).map (·.size) = some ps.size) (hps : ∀ j, j < ps.size → cs[off + j]? = ps[j]?) :
    (loadVar ty ⟨g, off, none⟩).run P w = .ok (.agg ps) w := by
  have hl : (loadCells ⟨g, off, none⟩ ps.toList.length).run P w = .ok ps.toList.toArray w :=
    run_loadCells_list (P := P) w ⟨g, off, none⟩ ps.toList (fun j v hv => by
      have hadd : (⟨g, off, none⟩ : Addr).add j = ⟨g, off + j, none⟩ := by unfold Addr.add; split <;> simp_all
      have hj : j < ps.size := by
        have := (List.getElem?_eq_some_iff.1 hv).1
        simpa using this
      rw [hadd, cell_of_row w g _ cs t fr hg, hps j hj]
      simpa using hv)
  cases hq : P.info? ty with
  | none => simp [hq] at hi
  | some i =>
    have hs : i.size = ps.size := by simpa [hq] using hi
    have hagg : (isAgg ty).run P w = .ok true w := by
      unfold isAgg
      rw [Sem.run_bind, run_underlying hu w]
      cases d <;> simp_all
    simp only [Array.length_toList, Array.toArray_toList] at hl
    simp [loadVar, Sem.run_bind, hagg, sizeOf, typeInfo, hq, hs, hl]
theorem wpList_load_part {P : Program} {ops : Array Oper} {rest : List Oper} {o : Oper} {a : Act} {w : World} {Q : Exit → Act → World → Prop} (hgd : o.guard = none) (ty : TypeId) (x : Operand) (ho : o.op = .load ty x)
    (g off : Nat) (hx : a.eval x = .pointer (some ⟨g, off, none⟩)) (t : TypeId) (cs ps : Array Value) (fr : Nat × Nat) (d : TypeDesc) (hg : w.heap[g]? = some (.cells cs t fr))
    (hu : P.underlying ty = some d) (hd : (match d with | .struct _ | .array _ _ => true | _ => false) = true) (hi : (P.info? ty).map (·.size) = some ps.size) (hps : ∀ j, j < ps.size → cs[off + j]? = ps[j]?)
    (h : wpList P ops Q rest (a.put o.dst (.agg ps)) w) : wpList P ops Q (o :: rest) a w :=
  wpList_plain hgd fun _ hK => by
    unfold Oper.wp execOp
    simp only [ho, hx, Instr.loadAt, Instr.sureAddr, Sem.run_bind, Sem.run_pure, Result.andThen_ok, run_loadVar_part w g off t ty cs ps fr d hg hu hd hi hps]
    exact hK _ _ h

theorem step_load_row {P : Program} {ops : Array Oper} {o : Oper} {a : Act} {w : World} {K : Act → World → Prop} {Q : Exit → Act → World → Prop} {E : Prop} (hgd : o.guard = none) (ty : TypeId) (x : Operand) (ho : o.op = .load ty x)
    (g : Nat) (hx : a.eval x = .pointer (some ⟨g, 0, none⟩)) (t : TypeId) (cs : Array Value) (fr : Nat × Nat) (d : TypeDesc) (hg : w.heap[g]? = some (.cells cs t fr))
    (hu : P.underlying ty = some d) (hd : (match d with | .struct _ | .array _ _ => true | _ => false) = true) (hi : (P.info? ty).map (·.size) = some cs.size)
    (h : K (a.put o.dst (.agg cs)) w) : if Region.wanted o (yielded ops a.tmps) = true then Oper.wp P o a w K Q else E := by
  have hw : Region.wanted o (yielded ops a.tmps) = true := by simp [Region.wanted, hgd]
  rw [if_pos hw]
  exact wp_load_row ty x ho g hx t cs fr d hg hu hd hi h

theorem run_index_arr (cs : Array Value) (k : Nat) (v : Value) (hk : k < 32) (hv : cs[k]? = some v) (w : World) : (Instr.index 51 (.agg cs) (.int .i64 k)).run Tryz.prog w = .ok v w := by
  have hk2 : (k : Int) < 32 := by omega
  have ha : (isAgg 5).run Tryz.prog w = .ok false w := by kernel_rfl
  obtain ⟨i0, hi, hz0, hz1, hz2⟩ := info_parts u8_info
  have hs : (sizeOf 5).run Tryz.prog w = .ok 1 w := by simp [sizeOf, typeInfo, hi, hz1]
  simp [Instr.index, run_underlying Tryz.underlying51, asIntOf, hk2, part, ha, hs, hv]
  intro h
  omega

theorem inode_all (x : Ino) (w : World) (hl : x.pages.length = 32) :
    Calls Tryz.prog 102 #[.agg x.cells] w fun e w' => ∃ g c, e = .returned (.slice (some ⟨g, 0, none⟩) x.all.length c) ∧ w'.ownsRow w.heap.size 3 1 (.slice (some ⟨g, 0, none⟩) x.all.length c) x.all.length (x.all.map i64) ∧ Kept [] w w' := by
  go_enter Tryz.func102, Tryz.ntmps102
  have h5 := x.at5
  obtain ⟨i0, hi, hz0, hz1, hz2⟩ := info_parts int_info
  have HL := Lib.hid hl
  clear hl
  go_wp2_with (with_reducible refine stop_load (t := 51) ?_)
  refine Stop.go ?_
  refine wpList_load_part rfl 51 _ rfl w.heap.size 6 rfl 53 x.cells (pgCells x.pages) (0, 0) _ ((Blk.new w 53 x.cells).alloc _) Tryz.underlying51 rfl (by rw [pgCells_size, HL.out]; exact arr_info) (fun j _ => x.at6 j) ?_
  have hown := own_new (w := w.alloc (.cells x.cells 53)) (base := w.heap.size) (e := 3) (size := 1) (n := 1) (xs := [.int .i64 x.attr]) rfl (by simp) rfl (by simp [maxLen])
  have hk := ((Kept.refl [] w).alloc (.cells x.cells 53)).alloc (.cells #[.int .i64 x.attr] 3)
  have HO := Lib.hid hown
  have HK := Lib.hid hk
  clear hown hk
  go_wp2_with fail
  go_loopw [3, 5, 11] (fun v _ i wr => ∃ k : Nat, k ≤ 32 ∧ i = .int .i64 k ∧ wr.ownsRow w.heap.size 3 1 v (k + 1) ((x.attr :: (x.pages.take k).map (·.toNat)).map i64) ∧ Kept [] w wr) (fun _ _ i _ => 32 - (intOf i).toNat)
  case atStart => exact ⟨0, by omega, rfl, by simpa using HO.out, HK.out⟩
  case round =>
    obtain ⟨k, hk, rfl, ho, hkp⟩ := hrel
    obtain ⟨A1, c1, rfl⟩ := own_form ho
    have HO1 := Lib.hid ho
    have HK1 := Lib.hid hkp
    clear ho hkp
    by_cases hlt : k < 32
    · have hp := pgCells_get x.pages k (by rw [HL.out]; exact hlt)
      obtain ⟨y, hy⟩ : ∃ y, y = (x.pages.getD k 0).toNat := ⟨_, rfl⟩
      have hy8 : y < 256 := by rw [hy]; exact UInt8.toNat_lt _
      rw [← hy] at hp
      have HY := Lib.hid hy
      have hps := run_index_arr _ k _ hlt hp
      clear hy hp
      go_wp2_with (at_builtin; refine Stop.here ?_)
      refine Stop.go ?_
      refine wpList_append_new (W0 := w) rfl (.tmp 14) (.tmp 17) _ rfl w.heap.size 3 i0 _ 1 8 Tryz.underlying140 hi hz0 hz1 hz2 rfl (by omega) (.slice A1 (k + 1) c1) (k + 1) _ rfl HO1.out _ [.int .i64 y] rfl rfl rfl (by simp [Value.oneCell']) (by simp only [maxLen]; omega) (by omega) HK1.out.size HK1.out (Nat.le_refl _) ?_
      intro v2 w2 hown hg2 hk2 _
      have HO2 := Lib.hid hown
      have HK2 := Lib.hid hk2
      clear hown hk2 hg2
      go_wp2_with fail
      go_roundw
      case rel =>
        refine ⟨k + 1, by omega, by go_num, ?_, HK2.out⟩
        have ho := HO2.out
        have e : ((x.attr :: (x.pages.take k).map (·.toNat)).map i64) ++ [.int .i64 y] = (x.attr :: (x.pages.take (k + 1)).map (·.toNat)).map i64 := by
          rw [HY.out, List.take_succ_eq_append_getElem (by rw [HL.out]; exact hlt)]
          simp only [List.map_cons, List.map_append, List.map_nil, List.cons_append, List.getD_eq_getElem?_getD, List.getElem?_eq_getElem (show k < x.pages.length by rw [HL.out]; exact hlt), Option.getD_some]
        rw [← e]
        exact ho
      case measure => simp [intOf]; omega
    · obtain rfl : k = 32 := by omega
      have ho := HO1.out
      rw [List.take_of_length_le (by rw [HL.out]; exact Nat.le_refl _)] at ho
      obtain ⟨g, cap, hv, hb, hlt2⟩ := ho.form (by omega)
      injection hv with hv1 hv2 hv3
      subst hv1; subst hv3
      have HO2 := Lib.hid ho
      clear ho HO1
      go_wp2_with (go_at_call 115; refine Stop.here ?_)
      refine Stop.go ?_
      refine (slices_DeleteFunc_int _ (.inl rfl) (fun z => z == 0) w.heap.size g 33 c1 _ _ (by simp [HL.out]) (by omega) HO2.out (fun z W => inode_all1 z W)).mono ?_
      rintro e w2 ⟨rfl, ho2, hk2⟩
      have HO3 := Lib.hid ho2
      have HK3 := Lib.hid ((HK1.out.any.trans hk2).narrow (D' := []) (fun d hd hdl => by rw [List.mem_singleton] at hd; omega))
      clear ho2 hk2
      go_wp2_with fail
      go_ret
      exact ⟨g, c1, rfl, HO3.out, HK3.out⟩
end Go.Proofs.YtcbdjmlkjifamaaGreatDoor
