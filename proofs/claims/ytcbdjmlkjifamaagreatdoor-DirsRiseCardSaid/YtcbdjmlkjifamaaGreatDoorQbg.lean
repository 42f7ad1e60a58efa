/-
  carlinglaw28.made: a new system with a directory in place 1 and a plain file in place 2, with the document's own beside it. Condition: how many pages there are. A directory in place 1 of the system that carlinglaw28.made makes, with room for forty names: what Add, Del, Names do. Condition: nine pages or more. carlinglaw28.alive answers true. No condition. What DirsRise does at a step: Del, Put, Add on a directory with room, whatever the name; that the directory's entries rise. Conditions: thirty pages; names of at most 300 bytes. carlinglaw28.short and far. Conditions: the steps' cells read as told. carlinglaw28.DirsRise answers true. Conditions: the steps' cells read as told.
-/
import Derived.Test.YtcbdjmlkjifamaaGreatDoorQam
import Derived.Test.YtcbdjmlkjifamaaGreatDoorQbe
import Derived.Test.YtcbdjmlkjifamaaGreatDoorQbf
import Derived.Laws.Cover1
set_option linter.unusedVariables false
set_option linter.unusedSimpArgs false

/- carlinglaw28.made: a new system with a directory in place 1 and a plain file in place 2, with the document's own beside it. Condition: how many pages there are. -/
namespace Go.Proofs.YtcbdjmlkjifamaaGreatDoor
open Go.RowKit
set_option maxRecDepth 100000

theorem Kept.past_new {w w' w'' : World} {g : Nat} (h : Kept [] w w') (k : Kept [g] w' w'') (hg : w.heap.size ≤ g) : Kept [] w w'' :=
  (h.any.trans k).narrow (fun d hd hlt => by simp only [List.mem_singleton] at hd; omega)
theorem step_store_row {P : Program} {ops : Array Oper} {o : Oper} {a : Act} {w : World} {K : Act → World → Prop} {Q : Exit → Act → World → Prop} {E : Prop} (hgd : o.guard = none) (ty : TypeId) (x y : Operand) (ho : o.op = .store ty x y)
    (g : Nat) (hx : a.eval x = .pointer (some ⟨g, 0, none⟩)) (cells : Array Value) (hy : a.eval y = .agg cells) (t : TypeId) (old : Array Value) (hg : w.heap[g]? = some (.cells old t (0, 0)))
    (hi : (P.info? ty).map (·.size) = some cells.size) (hs : old.size = cells.size) (h1 : cells.all (·.oneCell') = true)
    (h : K (a.put o.dst undef) (w.setRow g cells)) : if Region.wanted o (yielded ops a.tmps) = true then Oper.wp P o a w K Q else E := by
  have hw : Region.wanted o (yielded ops a.tmps) = true := by simp [Region.wanted, hgd]
  rw [if_pos hw]
  unfold Oper.wp execOp
  simp only [ho, hx, hy, Instr.storeAt, Instr.sureAddr, Sem.run_bind, Sem.run_pure, Result.andThen_ok, run_storeVar_row w g t ty old cells hg hi hs h1]
  exact h

theorem results_tmp_cell_tmp {fn : Func} {t p u : Tmp} {ty : TypeId} (h : fn.results = #[.tmp t, .cell p ty, .tmp u]) (tmps : Array Value) (P : Program) (w : World) :
    (results fn tmps).run P w =
      ((asAddr (tmps.getD p undef)).run P w).andThen fun a w₁ => ((loadVar ty a).run P w₁).andThen fun v w₂ => .ok (.tuple #[tmps.getD t undef, v, tmps.getD u undef]) w₂ := by
  simp only [results, h]
  simp [Sem.run_bind, Result.andThen]
/-- The system that carlinglaw28.made makes. -/
def madeS : List Nod := [⟨2, 7, 1, 1, [], fun _ => false, []⟩, ⟨2, 7, 0, 2, [], fun _ => false, []⟩, ⟨1, 7, 0, 2, [], fun _ => false, []⟩] ++ List.replicate 13 ⟨0, 0, 0, 0, [], fun _ => false, []⟩
theorem madeS_eq : ((freshS 4 1).set 1 ⟨2, 7, 0, 2, [], fun _ => false, []⟩).set 2 ⟨1, 7, 0, 2, [], fun _ => false, []⟩ = madeS := rfl
theorem made_z1 (y : Nod) (hy : (freshS 4 1)[1]? = some y) : y.kind = 0 := by cases hy; rfl
theorem made_n1 (j : Nat) (y : Nod) (hj : j < 1) (hy : (freshS 4 1)[j]? = some y) : y.kind ≠ 0 := by
  obtain rfl : j = 0 := by omega
  cases hy
  exact (by decide : (2 : Nat) ≠ 0)
theorem made_z2 (y : Nod) (hy : ((freshS 4 1).set 1 ⟨2, 7, 0, 2, [], fun _ => false, []⟩)[2]? = some y) : y.kind = 0 := by cases hy; rfl
theorem made_n2 (j : Nat) (y : Nod) (hj : j < 2) (hy : ((freshS 4 1).set 1 ⟨2, 7, 0, 2, [], fun _ => false, []⟩)[j]? = some y) : y.kind ≠ 0 := by
  rcases (by omega : j = 0 ∨ j = 1) with rfl | rfl <;> (cases hy; exact (by decide : (2 : Nat) ≠ 0))
theorem made_r1 (j : Nat) (hj : j < (2 :: List.replicate 15 0).length) (h : j < 1) : (2 :: List.replicate 15 0)[j] ≠ 0 := by
  obtain rfl : j = 0 := by omega
  exact (by decide : (2 : Nat) ≠ 0)
theorem made_r2 (j : Nat) (hj : j < ((2 :: List.replicate 15 0).set 1 2).length) (h : j < 2) : ((2 :: List.replicate 15 0).set 1 2)[j] ≠ 0 := by
  rcases (by omega : j = 0 ∨ j = 1) with rfl | rfl <;> exact (by decide : (2 : Nat) ≠ 0)
/-- A system stays, where only the document's block was written. -/
theorem Fsys.ref_ {w w' : World} {fb ib pb ab table : Nat} {pgs : List (List UInt8)} {bm : List UInt8} {nodes : List Ino} (h : Fsys w fb ib pb ab table pgs bm nodes) {xb : Nat} {cs : Array Value} (hx : Blk w xb 44 cs) (hk : Kept [xb] w w') :
    Fsys w' fb ib pb ab table pgs bm nodes := by
  obtain ⟨cap, vs, h5, h6, h7, h8, h9, h10⟩ := h.img.row
  have n1 : ib ∉ [xb] := by rw [List.mem_singleton]; exact h.img.image.ne_ hx (by decide)
  have n2 : pb ∉ [xb] := by rw [List.mem_singleton]; exact h5.ne_ hx (by decide)
  have n3 : ab ∉ [xb] := by rw [List.mem_singleton]; exact h6.ne_ hx (by decide)
  have n4 : fb ∉ [xb] := by rw [List.mem_singleton]; exact h.files.ne_ hx (by decide)
  refine ⟨h.files.keep hk n4, ⟨h.img.image.keep hk n1, ⟨cap, vs, h5.keep hk n2, h6.keep hk n3, h7, h8, h9, fun n hn => ?_⟩, h.img.len, h.img.small⟩, h.fs⟩
  obtain ⟨A, c, a1, a2⟩ := h10 n hn
  exact ⟨A, c, a1, a2.other hk hx (by decide)⟩
theorem Sys.ref_ {w w' : World} {fb ib pb ab table np : Nat} {S : List Nod} (h : Sys w fb ib pb ab table np S) {xb : Nat} {cs : Array Value} (hx : Blk w xb 44 cs) (hk : Kept [xb] w w') : Sys w' fb ib pb ab table np S := by
  obtain ⟨g, bm, xs, h1, h2, h3⟩ := h.ex
  exact ⟨g, bm, xs, h1.ref_ hx hk, h2, h3⟩
theorem ref_info : (Tryz.prog.info? 44).map (·.size) = some 3 := by kernel_rfl

set_option maxHeartbeats 4000000 in
theorem law_made (w : World) (np : Nat) (h1 : 6 ≤ np) (h2 : np ≤ 216) :
    Calls Tryz.prog 13 #[.int .i64 np] w fun e w' => ∃ fb ib pb ab cs, e = .returned (.tuple #[.pointer (some ⟨fb, 0, none⟩), .agg cs, .bool true]) ∧ cs.size = 3 ∧ cs.all (·.oneCell') = true ∧ Sys w' fb ib pb ab 4 np madeS ∧ Kept [] w w' ∧ w.heap.size ≤ ab := by
  go_enter Tryz.func13, Tryz.ntmps13
  have hb0 := Blk.new w 44 #[.int .i64 0, .int .i64 0, .slice none 0 0]
  go_wp2_with (go_at_call 25; refine Stop.here ?_)
  refine Stop.go ?_
  refine (image_New_at np _ (by omega) h2).mono ?_
  rintro e w1 ⟨ib, pb, ab, rfl, hi1, hk1, hab⟩
  have hab : w.heap.size ≤ ab := by simp at hab; omega
  have K1 := Lib.hid (((Kept.refl [] w).alloc _).trans hk1)
  have HAB := Lib.hid hab
  have hb1 := hb0.keep0 hk1
  have HI1 := Lib.hid hi1
  have HB1 := Lib.hid hb1
  have hg1 : w.heap.size < w1.heap.size := hb1.lt
  clear hi1 hb0 hk1 hb1 hab
  go_wp2_with (go_at_call 26; refine Stop.here ?_)
  refine Stop.go ?_
  refine (ref_Format w1 np 4 1 (by omega) (by omega) (by omega) (by omega) (by omega)).mono ?_
  rintro e w2 ⟨A2, c2, xs2, rfl, hs2, hl2, hk2⟩
  have hb2 := HB1.out.keep0 hk2
  have hi2 := HI1.out.keep0 hk2
  have HS2 := Lib.hid hs2
  have HL2 := Lib.hid hl2
  have HB2 := Lib.hid hb2
  have HI2 := Lib.hid hi2
  have K2 := Lib.hid (K1.out.trans hk2)
  have HG12 := Lib.hid (Nat.lt_of_lt_of_le hg1 hk2.size)
  clear hs2 hl2 hk2 hb2 hi2 HB1 HI1 hg1 K1
  go_wp2_with (with_reducible refine stop_store (t := 44) ?_)
  refine Stop.go ?_
  obtain ⟨rb, hrb⟩ : ∃ rb, rb = w2.heap.size := ⟨_, rfl⟩
  obtain ⟨cs, hcs⟩ : ∃ cs : Array Value, cs = #[.int .i64 np, .int .i64 ((4 + 1 : Nat) : Int), .slice A2 (4 * 4) c2] := ⟨_, rfl⟩
  obtain ⟨W3, hW3⟩ : ∃ W3, W3 = (w2.alloc (.cells #[.int .i64 0, .int .i64 0, .slice none 0 0] 44)).setRow rb cs := ⟨_, rfl⟩
  have hcs3 : cs.size = 3 := by rw [hcs]; rfl
  have hcs1 : cs.all (·.oneCell') = true := by rw [hcs]; simp [Value.oneCell']
  refine wpList_store_row rfl 44 (.tmp 7) (.tmp 19) rfl rb (by rw [hrb]; rfl) cs (by rw [hcs]; rfl) 44 _ (by rw [hrb]; exact Blk.new w2 44 #[.int .i64 0, .int .i64 0, .slice none 0 0]) (by rw [hcs3]; exact ref_info) (by rw [hcs3]; rfl) hcs1 ?_
  rw [← hW3]
  have hk3 : Kept [] w2 W3 := by rw [hW3]; exact ((Kept.refl [] w2).alloc _).setRow rb cs (.inl (by omega))
  have K3 := Lib.hid (K2.out.trans hk3)
  have hb3 : Blk W3 rb 44 cs := by
    rw [hW3, hrb]
    exact (Blk.new w2 44 #[.int .i64 0, .int .i64 0, .slice none 0 0]).row cs
  have hr3 : Ref W3 rb (2 :: List.replicate 15 0) := ⟨np, _, A2, c2, xs2, by have hh := hb3; rw [hcs] at hh; exact hh, HS2.out.keep0 hk3, HL2.out⟩
  have HR3 := Lib.hid hr3
  have HB3 := Lib.hid (HB2.out.keep0 hk3)
  have HI3 := Lib.hid (HI2.out.keep0 hk3)
  show wpList _ _ _ _ _ W3
  clear hk3 hb3 hr3 hW3 HS2 HL2 HB2 HI2 K2
  have HCS := Lib.hid hcs
  have HC3 := Lib.hid hcs3
  have HC1 := Lib.hid hcs1
  clear hcs hcs3 hcs1
  subst hrb
  go_wp2_with (go_at_call 27; refine Stop.here ?_)
  refine Stop.go ?_
  refine (sys_Format W3 ib pb ab 4 1 np HI3.out (by omega) (by omega) (by omega) (by omega)).mono ?_
  rintro e w4 ⟨rfl, hi4, hk4⟩
  obtain ⟨np1, own, A, c, xs, p1, p2, p3⟩ := HR3.out
  have hr4 : Ref w4 w2.heap.size (2 :: List.replicate 15 0) := ⟨np1, own, A, c, xs, p1.past HI3.out hk4 (by decide), p2.past HI3.out hk4 (by decide), p3⟩
  have hb4 := HB3.out.past HI3.out hk4 (by decide)
  have K4 := Lib.hid (K3.out.past_new hk4 HAB.out)
  have HR4 := Lib.hid hr4
  have HB4 := Lib.hid hb4
  have HI4 := Lib.hid hi4
  clear hi4 hk4 p1 p2 p3 hr4 hb4 HR3 HB3 HI3 K3
  go_wp2_with (go_at_call 28; refine Stop.here ?_)
  refine Stop.go ?_
  refine (sys_Open w4 ib pb ab 4 1 np HI4.out (by omega) (by omega) (by omega) (by omega) (by omega)).mono ?_
  rintro e w5 ⟨fb, rfl, hs5, hk5⟩
  have K5 := Lib.hid (K4.out.trans hk5)
  have HR5 := Lib.hid (HR4.out.keep0 hk5)
  have HB5 := Lib.hid (HB4.out.keep0 hk5)
  have HS5 := Lib.hid hs5
  clear hs5 hk5 HR4 HB4 HI4 K4
  go_wp2_with (go_at_call 29; refine Stop.here ?_)
  refine Stop.go ?_
  refine (sys_Make w5 fb ib pb ab 4 np 1 2 7 2 (freshS 4 1) HS5.out (by omega) (by omega) (by omega) (by omega) (by decide) (fun y hy => made_z1 y hy) (fun j y hj hy => made_n1 j y hj hy)).mono ?_
  rintro e w6 ⟨rfl, hs6, hk6⟩
  obtain ⟨_, _, _, f5, _, _⟩ := HS5.out.ex
  obtain ⟨np1, own, A, c, xs, p1, p2, p3⟩ := HR5.out
  have hr6 : Ref w6 w2.heap.size (2 :: List.replicate 15 0) := ⟨np1, own, A, c, xs, p1.past f5.img hk6 (by decide), p2.past f5.img hk6 (by decide), p3⟩
  have K6 := Lib.hid (K5.out.past_new hk6 HAB.out)
  have HR6 := Lib.hid hr6
  have HB6 := Lib.hid (HB5.out.past f5.img hk6 (by decide))
  have HS6 := Lib.hid hs6
  clear hs6 hk6 p1 p2 p3 hr6 HR5 HB5 HS5 f5 K5
  go_wp2_with (go_at_call 29; refine Stop.here ?_)
  refine Stop.go ?_
  refine (sys_Make w6 fb ib pb ab 4 np 2 1 7 2 _ HS6.out (by omega) (by omega) (by omega) (by omega) (by decide) (fun y hy => made_z2 y hy) (fun j y hj hy => made_n2 j y hj hy)).mono ?_
  rintro e w7 ⟨rfl, hs7, hk7⟩
  rw [madeS_eq] at hs7
  obtain ⟨_, _, _, f6, _, _⟩ := HS6.out.ex
  obtain ⟨np1, own, A, c, xs, p1, p2, p3⟩ := HR6.out
  have hr7 : Ref w7 w2.heap.size (2 :: List.replicate 15 0) := ⟨np1, own, A, c, xs, p1.past f6.img hk7 (by decide), p2.past f6.img hk7 (by decide), p3⟩
  have K7 := Lib.hid (K6.out.past_new hk7 HAB.out)
  have HR7 := Lib.hid hr7
  have HB7 := Lib.hid (HB6.out.past f6.img hk7 (by decide))
  have HS7 := Lib.hid hs7
  clear hs7 hk7 p1 p2 p3 hr7 HR6 HB6 HS6 f6 K6
  go_wp2_with (go_at_call 30; refine Stop.here ?_)
  refine Stop.go ?_
  refine (ref_Make w7 w2.heap.size 1 2 7 2 _ HR7.out (by decide) (by decide) (by decide) made_r1 (by omega) (by omega) (by omega) (by omega)).mono ?_
  rintro e w8 ⟨rfl, hr8, hk8⟩
  obtain ⟨np1, own, A, c, xs, p1, p2, p3⟩ := HR7.out
  have HS8 := Lib.hid (HS7.out.ref_ p1 hk8)
  have hne : w2.heap.size ≠ w.heap.size := by have := HG12.out; omega
  have HB8 := Lib.hid (HB7.out.keep hk8 (by rw [List.mem_singleton]; exact Ne.symm hne))
  have K8 := Lib.hid (K7.out.past_new hk8 (Nat.le_of_lt HG12.out))
  have HR8 := Lib.hid hr8
  clear hr8 hk8 HS7 HB7 HR7 K7 p1 p2 p3 np1 own A c xs
  go_wp2_with (go_at_call 30; refine Stop.here ?_)
  refine Stop.go ?_
  refine (ref_Make w8 w2.heap.size 2 1 7 2 _ HR8.out (by decide) (by decide) (by decide) made_r2 (by omega) (by omega) (by omega) (by omega)).mono ?_
  rintro e w9 ⟨rfl, hr9, hk9⟩
  obtain ⟨np1, own, A, c, xs, p1, p2, p3⟩ := HR8.out
  have K9 := Lib.hid (K8.out.past_new hk9 (Nat.le_of_lt HG12.out))
  have HS9 := Lib.hid ((HS8.out.ref_ p1 hk9))
  have HB9 := Lib.hid ((HB8.out.keep hk9 (by rw [List.mem_singleton]; exact Ne.symm hne)))
  obtain ⟨np1, own, A, c, xs, p1, p2, p3⟩ := hr9
  obtain ⟨ln, hln⟩ : ∃ ln, ln = (((2 :: List.replicate 15 0).set 1 2).set 2 1).length := ⟨_, rfl⟩
  rw [← hln] at p1
  have c10 : w9.drew.cell? ⟨w2.heap.size, 0, none⟩ = some (.int .i64 np1) := by rw [p1.drew.cell]; rfl
  have c11 : w9.drew.cell? ⟨w2.heap.size, 1, none⟩ = some (.int .i64 own) := by rw [p1.drew.cell]; rfl
  have c12 : w9.drew.cell? ⟨w2.heap.size, 2, none⟩ = some (.slice A ln c) := by rw [p1.drew.cell]; rfl
  have b9 := HB9.out.drew
  have c00 : w9.drew.cell? ⟨w.heap.size, 0, none⟩ = some (.int .i64 0) := by rw [b9.cell]; rfl
  have c01 : w9.drew.cell? ⟨w.heap.size, 1, none⟩ = some (.int .i64 0) := by rw [b9.cell]; rfl
  have c02 : w9.drew.cell? ⟨w.heap.size, 2, none⟩ = some (.slice none 0 0) := by rw [b9.cell]; rfl
  have z00 := b9.frozen 0
  have z01 := b9.frozen 1
  have z02 := b9.frozen 2
  have d00 : w9.cell? ⟨w.heap.size, 0, none⟩ = some (.int .i64 0) := c00
  have d01 : w9.cell? ⟨w.heap.size, 1, none⟩ = some (.int .i64 0) := c01
  have d02 : w9.cell? ⟨w.heap.size, 2, none⟩ = some (.slice none 0 0) := c02
  have y00 : w9.frozen? ⟨w.heap.size, 0, none⟩ = false := z00
  have y01 : w9.frozen? ⟨w.heap.size, 1, none⟩ = false := z01
  have y02 : w9.frozen? ⟨w.heap.size, 2, none⟩ = false := z02
  clear p2 p3 hln hk9 p1 b9 HR8 HS8 HB8 K8
  go_wp2_with fail
  go_region
  go_wp2_with fail
  have hb := (((HB9.out.set_ 0 (.int .i64 np1)).set_ 1 (.int .i64 own)).set_ 2 (.slice A ln c)).drew
  have hkq : Kept [w.heap.size] w9 (((w9.setCell ⟨w.heap.size, 0, none⟩ (.int .i64 np1)).setCell ⟨w.heap.size, 1, none⟩ (.int .i64 own)).setCell ⟨w.heap.size, 2, none⟩ (.slice A ln c)).drew :=
    ((((Kept.refl _ _).setCell (.inr (by simp)) _).setCell (.inr (by simp)) _).setCell (.inr (by simp)) _).drew
  have hs := HS9.out.ref_ HB9.out hkq
  have K10 := K9.out.past_new hkq (Nat.le_refl _)
  obtain ⟨W3, hW3⟩ : ∃ W3, W3 = (((w9.setCell ⟨w.heap.size, 0, none⟩ (.int .i64 np1)).setCell ⟨w.heap.size, 1, none⟩ (.int .i64 own)).setCell ⟨w.heap.size, 2, none⟩ (.slice A ln c)).drew := ⟨_, rfl⟩
  rw [← hW3] at hb hs K10 ⊢
  clear hW3 hkq
  refine bodyPost_ret (v := .tuple #[.pointer (some ⟨fb, 0, none⟩), .agg #[.int .i64 np1, .int .i64 own, .slice A ln c], .bool true]) ?_ rfl ⟨fb, ib, pb, ab, _, rfl, rfl, by simp [Value.oneCell'], hs, K10, HAB.out⟩
  rw [results_tmp_cell_tmp rfl]
  have hld := run_loadVar_row (P := Tryz.prog) W3 w.heap.size 44 44 _ (0, 0) _ hb Tryz.underlying44 rfl rfl
  simp [asAddr, hld]
end Go.Proofs.YtcbdjmlkjifamaaGreatDoor

/- A directory in place 1 of the system that carlinglaw28.made makes, with room for forty names: what Add, Del, Names do. Condition: nine pages or more. -/
namespace Go.Proofs.YtcbdjmlkjifamaaGreatDoor
open Go.RowKit
set_option maxRecDepth 100000

theorem filter_two {α : Type} (p q r : α → Bool) (hp : ∀ x, p x = true → r x = true) (hq : ∀ x, q x = true → r x = true) (hn : ∀ x, p x = true → q x = true → False) (l : List α) : (l.filter p).length + (l.filter q).length ≤ (l.filter r).length := by
  induction l with
  | nil => simp
  | cons a l ih =>
    simp only [List.filter_cons]
    have h1 := hp a
    have h2 := hq a
    have h3 := hn a
    cases c1 : p a <;> cases c2 : q a <;> cases c3 : r a <;> simp_all <;> omega

/-- A directory with the entries l that fill at most K pages. -/
structure Dir1 (K : Nat) (y : Nod) (l : List Ent) : Prop where
  kind : y.kind = 2
  data : y.data = entsB l
  ok : EntsOk l
  att : y.att = []
  has : ∀ i, y.has i = true → i < K
namespace Dir1
variable {K : Nat} {y : Nod} {l : List Ent}
theorem isDir (h : Dir1 K y l) : IsDir (madeS.set 1 y) 1 y l := ⟨rfl, h.kind, h.data, h.ok⟩
theorem sum (y : Nod) : ((madeS.set 1 y).map Nod.used).sum = y.used := by
  show (((⟨2, 7, 1, 1, [], fun _ => false, []⟩ : Nod) :: y :: (⟨1, 7, 0, 2, [], fun _ => false, []⟩ : Nod) :: List.replicate 13 (⟨0, 0, 0, 0, [], fun _ => false, []⟩ : Nod)).map Nod.used).sum = y.used
  rw [List.map_cons, List.map_cons, List.sum_cons, List.sum_cons, show Nod.used ⟨2, 7, 1, 1, [], fun _ => false, []⟩ = 0 from rfl, show (((⟨1, 7, 0, 2, [], fun _ => false, []⟩ : Nod) :: List.replicate 13 (⟨0, 0, 0, 0, [], fun _ => false, []⟩ : Nod)).map Nod.used).sum = 0 from rfl]
  omega
theorem room (h : Dir1 K y l) {np : Nat} (hn : K + 5 ≤ np) (hK : K ≤ 32) {b : List UInt8} (hb : b.length ≤ K * 256) : RoomFor 4 np (madeS.set 1 y) y b := by
  intro _
  obtain ⟨h1, h2, _⟩ := unlikeN_spec y.data b
  unfold leftOf
  rw [sum]
  have h3 := filter_two (fun i => decide (unlikeN y.data b / 256 ≤ i ∧ i * 256 < unlikeN y.data b + (b.length - unlikeN y.data b)) && !y.has i) y.has (fun i => decide (i < K)) (fun i hi => by
    simp only [Bool.and_eq_true, decide_eq_true_eq] at hi ⊢
    omega) (fun i hi => by simpa using h.has i hi) (fun i h1 h2 => by simp [h2] at h1) (List.range 32)
  have h4 : ((List.range 32).filter fun i => decide (i < K)).length = K := by
    have : ∀ K, K < 33 → ((List.range 32).filter fun i => decide (i < K)).length = K := by decide
    exact this K (by omega)
  have h5 : y.used = ((List.range 32).filter y.has).length := by unfold Nod.used; rw [if_pos h.att]; rfl
  rw [h4, ← h5] at h3
  have h6 : y.need (unlikeN y.data b) (b.length - unlikeN y.data b) + y.used ≤ K := h3
  omega
theorem turned (h : Dir1 K y l) {l' : List Ent} (hl : EntsOk l') (hb : l'.length * 26 ≤ K * 256) (t : Nat) : Dir1 K (y.turned (entsB l') t) l' := by
  have hlen := entsB_length l' hl.ok
  obtain ⟨h1, h2, _⟩ := unlikeN_spec y.data (entsB l')
  refine ⟨(turned_kind _ _ _).trans h.kind, turned_data _ _ _, hl, ?_, fun i hi => ?_⟩
  · unfold Nod.turned
    split <;> exact h.att
  · unfold Nod.turned at hi
    split at hi
    · simp only [Nod.trunc, Bool.and_eq_true] at hi
      exact h.has i hi.1
    · simp only [Nod.trunc, Nod.write, Bool.and_eq_true, Bool.or_eq_true, decide_eq_true_eq, List.length_drop] at hi
      rcases hi.1 with h3 | h3
      · exact h.has i h3
      · omega
end Dir1
theorem dir1_made (K : Nat) : Dir1 K ⟨2, 7, 0, 2, [], fun _ => false, []⟩ [] := ⟨rfl, rfl, ⟨(fun _ h => nomatch h), List.Pairwise.nil⟩, rfl, (fun _ h => nomatch h)⟩
theorem madeS_dir1 : madeS.set 1 ⟨2, 7, 0, 2, [], fun _ => false, []⟩ = madeS := rfl

theorem law_Add (w : World) (K fb ib pb ab np t nd : Nat) (y : Nod) (l : List Ent) (s : List UInt8) (h : Sys w fb ib pb ab 4 np (madeS.set 1 y)) (hd : Dir1 K y l) (hn9 : K + 5 ≤ np) (hK : K ≤ 32) (hm : nameMay s = 0) (hn : entNode l s = 0) (h1 : 1 ≤ nd) (h2 : nd ≤ 63) (hl : l.length * 26 + 26 ≤ K * 256) (ht : t ≤ 9223372036854775807) :
    Calls Tryz.prog 11 #[.pointer (some ⟨fb, 0, none⟩), .int .i64 (1 : Nat), .string (str s), .int .i64 nd, .int .i64 t] w fun e w' => e = .returned (.int .i64 0) ∧
      (∃ y', Sys w' fb ib pb ab 4 np (madeS.set 1 y') ∧ Dir1 K y' (entPut l ⟨s, nd⟩)) ∧ Kept [ab] w w' := by
  have hok := hd.ok.put (nameMay_ok hm h1 h2)
  have hpl := entPut_length ⟨s, nd⟩ hd.ok
  have hbl := entsB_length _ hok.ok
  refine (dirs_Add w fb ib pb ab 4 np 1 t nd (madeS.set 1 y) y l s h hd.isDir hm hn h1 h2 (by omega) ht (hd.room hn9 hK (by omega))).mono ?_
  rintro e w' ⟨rfl, hs, hk⟩
  rw [List.set_set] at hs
  exact ⟨rfl, ⟨_, hs, hd.turned hok (by omega) t⟩, hk⟩
theorem law_Del (w : World) (K fb ib pb ab np t : Nat) (y : Nod) (l : List Ent) (s : List UInt8) (h : Sys w fb ib pb ab 4 np (madeS.set 1 y)) (hd : Dir1 K y l) (hn9 : K + 5 ≤ np) (hK : K ≤ 32) (hm : nameMay s = 0) (hn : entNode l s ≠ 0) (hl : l.length * 26 ≤ K * 256) (ht : t ≤ 9223372036854775807) :
    Calls Tryz.prog 7 #[.pointer (some ⟨fb, 0, none⟩), .int .i64 (1 : Nat), .string (str s), .int .i64 t] w fun e w' => e = .returned (.tuple #[.int .i64 (entNode l s : Nat), .int .i64 0]) ∧
      (∃ y', Sys w' fb ib pb ab 4 np (madeS.set 1 y') ∧ Dir1 K y' (entDel l s)) ∧ Kept [ab] w w' := by
  have hok := hd.ok.del s
  have hpl := entDel_length l s
  have hbl := entsB_length _ hok.ok
  refine (dirs_Del w fb ib pb ab 4 np 1 t (madeS.set 1 y) y l s h hd.isDir hm hn (by omega) ht (hd.room hn9 hK (by omega))).mono ?_
  rintro e w' ⟨rfl, hs, hk⟩
  rw [List.set_set] at hs
  exact ⟨rfl, ⟨_, hs, hd.turned hok (by omega) t⟩, hk⟩
theorem law_Put (w : World) (K fb ib pb ab np t nd : Nat) (y : Nod) (l : List Ent) (s : List UInt8) (h : Sys w fb ib pb ab 4 np (madeS.set 1 y)) (hd : Dir1 K y l) (hn9 : K + 5 ≤ np) (hK : K ≤ 32) (hm : nameMay s = 0) (h1 : 1 ≤ nd) (h2 : nd ≤ 63) (hl : l.length * 26 + 26 ≤ K * 256) (ht : t ≤ 9223372036854775807) :
    Calls Tryz.prog 8 #[.pointer (some ⟨fb, 0, none⟩), .int .i64 (1 : Nat), .string (str s), .int .i64 nd, .int .i64 t] w fun e w' => e = .returned (.tuple #[.int .i64 (entNode l s : Nat), .int .i64 0]) ∧
      (∃ y', Sys w' fb ib pb ab 4 np (madeS.set 1 y') ∧ Dir1 K y' (entPut l ⟨s, nd⟩)) ∧ Kept [ab] w w' := by
  have hok := hd.ok.put (nameMay_ok hm h1 h2)
  have hpl := entPut_length ⟨s, nd⟩ hd.ok
  have hbl := entsB_length _ hok.ok
  refine (dirs_Put w fb ib pb ab 4 np 1 t nd (madeS.set 1 y) y l s h hd.isDir hm h1 h2 (by omega) ht (hd.room hn9 hK (by omega))).mono ?_
  rintro e w' ⟨rfl, hs, hk⟩
  rw [List.set_set] at hs
  exact ⟨rfl, ⟨_, hs, hd.turned hok (by omega) t⟩, hk⟩
theorem law_Names (w : World) (K fb ib pb ab np : Nat) (y : Nod) (l : List Ent) (h : Sys w fb ib pb ab 4 np (madeS.set 1 y)) (hd : Dir1 K y l) (hl : l.length ≤ 2000) :
    Calls Tryz.prog 10 #[.pointer (some ⟨fb, 0, none⟩), .int .i64 (1 : Nat)] w fun e w' => ∃ A c, e = .returned (.tuple #[.slice A l.length c, .int .i64 0]) ∧ Strs w' [] A c (l.map (·.name)) ∧ Kept [] w w' :=
  dirs_Names_walk _ _ 0 l w (by omega) (by omega) (by omega) (dirs_List w fb ib pb ab 4 np 1 (madeS.set 1 y) y l h hd.isDir)
end Go.Proofs.YtcbdjmlkjifamaaGreatDoor

/- carlinglaw28.alive answers true. No condition. -/
namespace Go.Proofs.YtcbdjmlkjifamaaGreatDoor
open Go.RowKit
set_option maxRecDepth 100000

theorem list_file (w : World) (fb ib pb ab np : Nat) (y : Nod) (h : Sys w fb ib pb ab 4 np (madeS.set 1 y)) :
    ∀ W, Kept [] w W → Calls Tryz.prog 5 #[.pointer (some ⟨fb, 0, none⟩), .int .i64 (2 : Nat)] W fun e w' => e = .returned (.tuple #[.slice none 0 0, .int .i64 12]) ∧ Kept [] W w' := by
  intro W hW
  obtain ⟨x, ⟨hx1, hx2, hx3, hx4⟩, hI⟩ := sys_Inode W fb ib pb ab 4 np 2 (madeS.set 1 y) ⟨1, 7, 0, 2, [], fun _ => false, []⟩ (h.keep0 hW) rfl
  have hr := dirs_List_bad (.pointer (some ⟨fb, 0, none⟩)) ((2 : Nat) : Int) x 0 W hx3 (.inr (by rw [hx1]; decide)) (by omega) (by omega) hI
  rw [hx1] at hr
  exact hr
theorem Find_file (w : World) (fb ib pb ab np : Nat) (y : Nod) (s : List UInt8) (h : Sys w fb ib pb ab 4 np (madeS.set 1 y)) :
    Calls Tryz.prog 6 #[.pointer (some ⟨fb, 0, none⟩), .int .i64 (2 : Nat), .string (str s)] w fun e w' => e = .returned (.tuple #[.int .i64 0, .int .i64 12]) ∧ Kept [] w w' := by
  refine dirs_Find_bad _ _ s 12 w (by decide) (by decide) (by decide) ?_
  refine (dirs_find_bad _ _ s 12 w (by decide) (by decide) (by decide) (list_file w fb ib pb ab np y h)).mono ?_
  rintro e w' ⟨rfl, hk⟩
  exact ⟨_, _, rfl, hk⟩

set_option maxHeartbeats 4000000 in
theorem law_alive (w : World) : Calls Tryz.prog 12 #[] w fun e w' => e = .returned (.bool true) ∧ Kept [] w w' := by
  go_enter Tryz.func12, Tryz.ntmps12
  go_wp2_with (go_at_call 13; refine Stop.here ?_)
  refine Stop.go ?_
  refine (law_made w 9 (by omega) (by omega)).mono ?_
  rintro e w1 ⟨fb, ib, pb, ab, cs, rfl, hc3, hc1, hs1, hk1, hab⟩
  have K1 := Lib.hid hk1
  have HAB := Lib.hid hab
  have HC3 := Lib.hid hc3
  have HC1 := Lib.hid hc1
  have HS1 := Lib.hid hs1
  clear hc3 hc1 hs1 hk1 hab
  go_wp2_with (with_reducible refine stop_store (t := 44) ?_)
  refine Stop.go ?_
  refine wpList_store_row rfl 44 (.tmp 2) (.tmp 13) rfl w1.heap.size rfl cs rfl 44 _ (Blk.new w1 44 #[.int .i64 0, .int .i64 0, .slice none 0 0]) (by rw [HC3.out]; exact ref_info) (by rw [HC3.out]; rfl) HC1.out ?_
  obtain ⟨w2, hw2⟩ : ∃ w2, w2 = (w1.alloc (.cells #[.int .i64 0, .int .i64 0, .slice none 0 0] 44)).setRow w1.heap.size cs := ⟨_, rfl⟩
  have hk2 : Kept [] w1 w2 := by rw [hw2]; exact ((Kept.refl [] w1).alloc _).setRow _ cs (.inl (Nat.le_refl _))
  rw [← hw2]
  have K2 := Lib.hid (K1.out.trans hk2)
  have HS2 := Lib.hid (HS1.out.keep0 hk2)
  clear hw2 hk2 HS1 K1
  go_wp2_with (go_at_call 11; refine Stop.here ?_)
  refine Stop.go ?_
  refine (law_Add w2 4 fb ib pb ab 9 3 2 _ [] [98] HS2.out (dir1_made 4) (by omega) (by omega) (by decide) (by decide) (by omega) (by omega) (by decide) (by omega)).mono ?_
  rintro e w3 ⟨rfl, ⟨y3, hs3, hd3⟩, hk3⟩
  have K3 := Lib.hid (K2.out.past_new hk3 HAB.out)
  have HS3 := Lib.hid hs3
  have HD3 := Lib.hid hd3
  clear hs3 hd3 hk3 HS2 K2
  go_wp2_with (go_at_call 11; refine Stop.here ?_)
  refine Stop.go ?_
  refine (law_Add w3 4 fb ib pb ab 9 3 3 y3 _ [97] HS3.out HD3.out (by omega) (by omega) (by decide) (by decide) (by omega) (by omega) (by decide) (by omega)).mono ?_
  rintro e w4 ⟨rfl, ⟨y4, hs4, hd4⟩, hk4⟩
  have hd4 : Dir1 4 y4 [⟨[97], 3⟩, ⟨[98], 2⟩] := hd4
  have K4 := Lib.hid (K3.out.past_new hk4 HAB.out)
  have HS4 := Lib.hid hs4
  have HD4 := Lib.hid hd4
  clear hs4 hd4 hk4 HS3 HD3 K3
  go_wp2_with (go_at_call 10; refine Stop.here ?_)
  refine Stop.go ?_
  refine (law_Names w4 4 fb ib pb ab 9 y4 _ HS4.out HD4.out (by decide)).mono ?_
  rintro e w5 ⟨A5, c5, rfl, hn5, hk5⟩
  have hl5 : (([⟨[97], 3⟩, ⟨[98], 2⟩] : List Ent)).length = 2 := rfl
  rw [hl5]
  have HN5 := Lib.hid hn5
  have K5 := Lib.hid (K4.out.trans hk5)
  have HS5 := Lib.hid (HS4.out.keep0 hk5)
  clear K4 hn5 hk5 HS4 hl5
  go_wp2_with (go_at_call 7; refine Stop.here ?_)
  refine Stop.go ?_
  refine (law_Del w5 4 fb ib pb ab 9 4 y4 _ [98] HS5.out HD4.out (by omega) (by omega) (by decide) (by decide) (by decide) (by omega)).mono ?_
  rintro e w6 ⟨rfl, ⟨y6, hs6, hd6⟩, hk6⟩
  have hn6 : Strs w6 [] A5 c5 [[97], [98]] := HS5.out.past HN5.out hk6 (by decide)
  rw [show entNode [⟨[97], 3⟩, ⟨[98], 2⟩] [98] = 2 from by decide]
  have K6 := Lib.hid (K5.out.past_new hk6 HAB.out)
  have HN6 := Lib.hid hn6
  have HS6 := Lib.hid hs6
  clear hn6 hs6 hd6 hk6 K5 HS5 HN5 HD4
  go_wp2_with (go_at_call 6; refine Stop.here ?_)
  refine Stop.go ?_
  refine (Find_file w6 fb ib pb ab 9 y6 [120] HS6.out).mono ?_
  rintro e w7 ⟨rfl, hk7⟩
  have hn7 := HN6.out.keep0 hk7
  obtain ⟨ad, hA, _, _, hcell⟩ := hn7.at_ (by decide)
  subst hA
  have hc0 : w7.cell? ad = some (.string { data := #[97] }) := by
    have h := hcell 0 _ rfl
    rw [show ad.add 0 = ad from by cases ad; simp [Addr.add]] at h
    exact h
  have K7 := Lib.hid (K6.out.trans hk7)
  clear hk7 K6 hn7 hcell HN6 HS6
  go_wp2_with fail
  go_ret
  exact ⟨rfl, K7.out⟩
end Go.Proofs.YtcbdjmlkjifamaaGreatDoor

/- What DirsRise does at a step: Del, Put, Add on a directory with room, whatever the name; that the directory's entries rise. Conditions: thirty pages; names of at most 300 bytes. -/
namespace Go.Proofs.YtcbdjmlkjifamaaGreatDoor
open Go.RowKit
set_option maxRecDepth 100000

def NamesOk (l : List Ent) : Prop := ∀ e ∈ l, nameMay e.name = 0
theorem NamesOk.put {l : List Ent} (h : NamesOk l) {e : Ent} (he : nameMay e.name = 0) : NamesOk (entPut l e) := fun x hx => by
  unfold entPut at hx
  rcases List.mem_append.1 hx with hx | hx
  · exact h x (List.mem_filter.1 hx).1
  · rcases List.mem_cons.1 hx with rfl | hx
    · exact he
    · exact h x (List.mem_filter.1 hx).1
theorem NamesOk.del {l : List Ent} (h : NamesOk l) (s : List UInt8) : NamesOk (entDel l s) := fun x hx => h x (List.mem_filter.1 hx).1
theorem entNode_at {l : List Ent} (hl : EntsOk l) {k : Nat} (hk : k < l.length) : entNode l l[k].name = l[k].node := by
  have hi : entIdx l l[k].name = k := by
    unfold entIdx
    rw [List.findIdx_eq hk]
    refine ⟨by simp, fun j hj => ?_⟩
    have := List.pairwise_iff_getElem.1 hl.sort j k (by omega) hk hj
    have hne : l[j].name ≠ l[k].name := fun e => by
      rw [e, blt_irrefl] at this
      cases this
    simpa using hne
  unfold entNode
  rw [hi, List.getElem?_eq_getElem hk]
theorem findAns_at {l : List Ent} (hl : EntsOk l) (hn : NamesOk l) {k : Nat} (hk : k < l.length) : findAns l l[k].name = (((l[k].node : Nat) : Int), 0) := by
  have h1 := hn l[k] (List.getElem_mem hk)
  have h2 := (hl.ok l[k] (List.getElem_mem hk)).2.2.1
  have h3 := entNode_at hl hk
  unfold findAns
  rw [if_neg (by rw [h1]; simp), if_neg (by omega), h3]
theorem and31 (nd : Int) : ∃ m : Nat, m ≤ 31 ∧ bits .and .i64 nd 31 = (m : Int) := by
  refine ⟨(BitVec.ofInt 64 nd &&& BitVec.ofInt 64 31).toNat, ?_, ?_⟩
  · rw [BitVec.toNat_and]
    exact Nat.le_trans Nat.and_le_right (by decide)
  · have h : (BitVec.ofInt 64 nd &&& BitVec.ofInt 64 31).toNat ≤ 31 := by
      rw [BitVec.toNat_and]
      exact Nat.le_trans Nat.and_le_right (by decide)
    show IntKind.i64.wrap ((BitVec.ofInt 64 nd &&& BitVec.ofInt 64 31).toNat : Int) = _
    rw [IntKind.wrap_i64]
    omega

/-- The directory behind i steps. -/
def Rise (fb ib pb ab i : Nat) (w : World) : Prop := ∃ y l, Sys w fb ib pb ab 4 30 (madeS.set 1 y) ∧ Dir1 5 y l ∧ NamesOk l ∧ l.length ≤ i
theorem Rise.keep0 {fb ib pb ab i : Nat} {w w' : World} (h : Rise fb ib pb ab i w) (k : Kept [] w w') : Rise fb ib pb ab i w' := by
  obtain ⟨y, l, h1, h2, h3, h4⟩ := h
  exact ⟨y, l, h1.keep0 k, h2, h3, h4⟩
theorem Rise.more {fb ib pb ab i j : Nat} {w : World} (h : Rise fb ib pb ab i w) (hj : i ≤ j) : Rise fb ib pb ab j w := by
  obtain ⟨y, l, h1, h2, h3, h4⟩ := h
  exact ⟨y, l, h1, h2, h3, by omega⟩

section step
variable {w : World} {fb ib pb ab i : Nat} {s : List UInt8}
theorem rise_find {y : Nod} {l : List Ent} (h : Sys w fb ib pb ab 4 30 (madeS.set 1 y)) (hd : Dir1 5 y l) (hs : s.length ≤ 300) :
    ∀ W, Kept [] w W → Calls Tryz.prog 19 #[.pointer (some ⟨fb, 0, none⟩), .int .i64 (1 : Nat), .string (str s)] W fun e w' => ∃ A m c k, e = .returned (.tuple #[.slice A m c, .int .i64 k, .int .i64 (nameMay s)]) ∧ Kept [] W w' := fun W hW => by
  refine (dirs_find W fb ib pb ab 4 30 1 (madeS.set 1 y) y l s (h.keep0 hW) hd.isDir (by omega)).mono ?_
  rintro e w' ⟨A, c, rfl, _, hk⟩
  exact ⟨_, _, _, _, rfl, hk⟩
theorem rise_Del (h : Rise fb ib pb ab i w) (hi : i < 40) (hs : s.length ≤ 300) :
    Calls Tryz.prog 7 #[.pointer (some ⟨fb, 0, none⟩), .int .i64 (1 : Nat), .string (str s), .int .i64 (4 : Nat)] w fun e w' => (∃ v, e = .returned v) ∧ Rise fb ib pb ab (i + 1) w' ∧ Kept [ab] w w' := by
  obtain ⟨y, l, h1, h2, h3, h4⟩ := h
  by_cases hm : nameMay s = 0
  · by_cases hn : entNode l s = 0
    · refine (dirs_Del_none w fb ib pb ab 4 30 1 (4 : Nat) (madeS.set 1 y) y l s h1 h2.isDir (by omega) hm hn).mono ?_
      rintro e w' ⟨rfl, hk⟩
      exact ⟨⟨_, rfl⟩, ⟨y, l, h1.keep0 hk, h2, h3, by omega⟩, hk.any⟩
    · refine (law_Del w 5 fb ib pb ab 30 4 y l s h1 h2 (by omega) (by omega) hm hn (by omega) (by omega)).mono ?_
      rintro e w' ⟨rfl, ⟨y', h1', h2'⟩, hk⟩
      have := entDel_length l s
      exact ⟨⟨_, rfl⟩, ⟨y', _, h1', h2', h3.del s, by omega⟩, hk⟩
  · have hr := nameMay_range s
    refine (dirs_Del_bad _ ((1 : Nat) : Int) s (4 : Nat) (nameMay s) w hm (by omega) (by omega) (rise_find h1 h2 hs)).mono ?_
    rintro e w' ⟨rfl, hk⟩
    exact ⟨⟨_, rfl⟩, ⟨y, l, h1.keep0 hk, h2, h3, by omega⟩, hk.any⟩
theorem rise_Put {nd : Nat} (h : Rise fb ib pb ab i w) (hi : i < 40) (hs : s.length ≤ 300) (hn1 : 1 ≤ nd) (hn2 : nd ≤ 32) :
    Calls Tryz.prog 8 #[.pointer (some ⟨fb, 0, none⟩), .int .i64 (1 : Nat), .string (str s), .int .i64 nd, .int .i64 (4 : Nat)] w fun e w' => (∃ v, e = .returned v) ∧ Rise fb ib pb ab (i + 1) w' ∧ Kept [ab] w w' := by
  obtain ⟨y, l, h1, h2, h3, h4⟩ := h
  by_cases hm : nameMay s = 0
  · refine (law_Put w 5 fb ib pb ab 30 4 nd y l s h1 h2 (by omega) (by omega) hm hn1 (by omega) (by omega) (by omega)).mono ?_
    rintro e w' ⟨rfl, ⟨y', h1', h2'⟩, hk⟩
    have := entPut_length ⟨s, nd⟩ h2.ok
    exact ⟨⟨_, rfl⟩, ⟨y', _, h1', h2', h3.put hm, by omega⟩, hk⟩
  · have hr := nameMay_range s
    refine (dirs_Put_bad _ ((1 : Nat) : Int) s nd (4 : Nat) (nameMay s) w hm (by omega) (by omega) (rise_find h1 h2 hs)).mono ?_
    rintro e w' ⟨rfl, hk⟩
    exact ⟨⟨_, rfl⟩, ⟨y, l, h1.keep0 hk, h2, h3, by omega⟩, hk.any⟩
theorem rise_Add {nd : Nat} (h : Rise fb ib pb ab i w) (hi : i < 40) (hs : s.length ≤ 300) (hn1 : 1 ≤ nd) (hn2 : nd ≤ 32) :
    Calls Tryz.prog 11 #[.pointer (some ⟨fb, 0, none⟩), .int .i64 (1 : Nat), .string (str s), .int .i64 nd, .int .i64 (4 : Nat)] w fun e w' => (∃ v, e = .returned v) ∧ Rise fb ib pb ab (i + 1) w' ∧ Kept [ab] w w' := by
  obtain ⟨y, l, h1, h2, h3, h4⟩ := h
  by_cases hm : nameMay s = 0
  · by_cases hn : entNode l s = 0
    · refine (law_Add w 5 fb ib pb ab 30 4 nd y l s h1 h2 (by omega) (by omega) hm hn hn1 (by omega) (by omega) (by omega)).mono ?_
      rintro e w' ⟨rfl, ⟨y', h1', h2'⟩, hk⟩
      have := entPut_length ⟨s, nd⟩ h2.ok
      exact ⟨⟨_, rfl⟩, ⟨y', _, h1', h2', h3.put hm, by omega⟩, hk⟩
    · refine (dirs_Add_there w fb ib pb ab 4 30 1 nd (4 : Nat) (madeS.set 1 y) y l s h1 h2.isDir (by omega) hm hn).mono ?_
      rintro e w' ⟨rfl, hk⟩
      exact ⟨⟨_, rfl⟩, ⟨y, l, h1.keep0 hk, h2, h3, by omega⟩, hk.any⟩
  · have hr := nameMay_range s
    refine (dirs_Add_bad _ ((1 : Nat) : Int) s nd (4 : Nat) (nameMay s) w hm (by omega) (by omega) (rise_find h1 h2 hs)).mono ?_
    rintro e w' ⟨rfl, hk⟩
    exact ⟨⟨_, rfl⟩, ⟨y, l, h1.keep0 hk, h2, h3, by omega⟩, hk.any⟩
end step
end Go.Proofs.YtcbdjmlkjifamaaGreatDoor

/- carlinglaw28.short and far. Conditions: the steps' cells read as told. -/
namespace Go.Proofs.YtcbdjmlkjifamaaGreatDoor
open Go.RowKit
set_option maxRecDepth 100000

theorem str_inj {a b : List UInt8} (h : str a = str b) : a = b := by
  have h2 := congrArg (fun x : ByteArray => x.data.toList) h
  simpa [str] using h2
/-- The steps' cells. -/
def StepsAt (w : World) (A : Option Addr) (n : Nat) : Prop :=
  ∀ i, i < n → ∃ (ad : Addr) (o : Nat) (d nd t : Int) (s : List UInt8), A = some ad ∧ o ≤ 255 ∧ w.cell? (ad.add (i * 5)) = some (.int .u8 o) ∧ w.cell? ⟨(ad.add (i * 5)).block, (ad.add (i * 5)).off + 1, none⟩ = some (.int .i64 d) ∧
    w.cell? ⟨(ad.add (i * 5)).block, (ad.add (i * 5)).off + 2, none⟩ = some (.string (str s)) ∧ w.cell? ⟨(ad.add (i * 5)).block, (ad.add (i * 5)).off + 3, none⟩ = some (.int .i64 nd) ∧ w.cell? ⟨(ad.add (i * 5)).block, (ad.add (i * 5)).off + 4, none⟩ = some (.int .i64 t)
theorem cell_keep0 {w w' : World} (k : Kept [] w w') {a : Addr} {v : Value} (h : w.cell? a = some v) : w'.cell? a = some v := by
  have hlt : a.block < w.heap.size := by
    rcases Nat.lt_or_ge a.block w.heap.size with h1 | h1
    · exact h1
    · unfold World.cell? at h
      rw [Array.getElem?_eq_none h1] at h
      simp at h
  rw [k.cell hlt (by simp)]
  exact h
theorem StepsAt.keep0 {w w' : World} {A : Option Addr} {n : Nat} (h : StepsAt w A n) (k : Kept [] w w') : StepsAt w' A n := fun i hi => by
  obtain ⟨ad, o, d, nd, t, s, h0, ho, h1, h2, h3, h4, h5⟩ := h i hi
  exact ⟨ad, o, d, nd, t, s, h0, ho, cell_keep0 k h1, cell_keep0 k h2, cell_keep0 k h3, cell_keep0 k h4, cell_keep0 k h5⟩
theorem StepsAt.less {w : World} {A : Option Addr} {n m : Nat} (h : StepsAt w A n) (hm : m ≤ n) : StepsAt w A m := fun i hi => h i (by omega)

theorem law_short (A : Option Addr) (n c : Nat) (w : World) (hnc : n ≤ c) (hc : c ≤ 9223372036854775807) (hA : A = none → c = 0) :
    Calls Tryz.prog 15 #[.slice A n c] w fun e w' => e = .returned (.slice A (min n 40) c) ∧ w = w' := by
  by_cases hn : n ≤ 40
  · have h1 : ¬ ((40 : Int) < n) := by omega
    have h3 : (n : Int) ≤ c := by omega
    rw [Nat.min_eq_left hn]
    cases A with
    | none =>
      obtain rfl := hA rfl
      obtain rfl : n = 0 := by omega
      clear hA
      go_enter Tryz.func15, Tryz.ntmps15
      go_wp2_with fail
      go_ret
      exact ⟨rfl, rfl⟩
    | some ad =>
      clear hA
      go_enter Tryz.func15, Tryz.ntmps15
      go_wp2_with fail
      go_ret
      refine ⟨?_, rfl⟩
      show Ending.returned (.slice (some ad) (min (n : Int) 40).toNat c) = _
      rw [show (min (n : Int) 40).toNat = n from by omega]
  · have h1 : ((40 : Int) < n) := by omega
    have h3 : (40 : Int) ≤ c := by omega
    rw [Nat.min_eq_right (by omega)]
    cases A with
    | none => have := hA rfl; omega
    | some ad =>
      clear hA
      go_enter Tryz.func15, Tryz.ntmps15
      go_wp2_with fail
      go_ret
      refine ⟨?_, rfl⟩
      show Ending.returned (.slice (some ad) (min (n : Int) 40).toNat c) = _
      rw [show (min (n : Int) 40).toNat = 40 from by omega]

def FarRel (w : World) (A : Option Addr) (m : Nat) (a : Value) (wr : World) : Prop := ∃ k : Nat, k ≤ m ∧ a = .int .i64 k ∧ Kept [] w wr ∧ ∀ i, i < k → ∀ ad s, A = some ad → w.cell? ⟨(ad.add (i * 5)).block, (ad.add (i * 5)).off + 2, none⟩ = some (.string (str s)) → s.length ≤ 300
set_option maxHeartbeats 2000000 in
theorem law_far (A : Option Addr) (n c : Nat) (w : World) (hnc : n ≤ c) (hc : c ≤ 9223372036854775807) (hA : A = none → c = 0) (h : StepsAt w A n) :
    Calls Tryz.prog 14 #[.slice A n c] w fun e w' => Kept [] w w' ∧ (e = .returned (.bool true) ∨ (e = .returned (.bool false) ∧ ∀ i, i < min n 40 → ∀ ad s, A = some ad → w.cell? ⟨(ad.add (i * 5)).block, (ad.add (i * 5)).off + 2, none⟩ = some (.string (str s)) → s.length ≤ 300)) := by
  have hm : min n 40 ≤ 40 := Nat.min_le_right _ _
  have hmn : min n 40 ≤ n := Nat.min_le_left _ _
  have CS := Lib.hid (law_short A n c w hnc hc hA)
  obtain ⟨m, hmm⟩ : ∃ m, m = min n 40 := ⟨_, rfl⟩
  rw [← hmm] at CS hm hmn ⊢
  have H := Lib.hid (h.less hmn)
  clear hmm h hA hnc hmn
  go_enter Tryz.func14, Tryz.ntmps14
  go_wp2_with (go_at_call 15; refine Stop.here ?_)
  refine Stop.go ?_
  refine CS.out.mono ?_
  rintro e w1 ⟨rfl, rfl⟩
  clear CS
  go_wp2_with fail
  go_loopw [8] (fun a wr => FarRel w A m a wr) (fun a _ => m - (intOf a).toNat)
  case atStart => exact ⟨0, Nat.zero_le _, rfl, Kept.refl _ _, fun i hi => absurd hi (Nat.not_lt_zero _)⟩
  case round =>
    obtain ⟨k, hk, rfl, hkr, hall⟩ := hrel
    have HK := Lib.hid hkr
    have HALL := Lib.hid hall
    clear hkr hall
    by_cases hlt : k < m
    · obtain ⟨ad, o, d, nd, t, s, rfl, ho, c0, c1, c2, c3, c4⟩ := (H.out.keep0 HK.out) k hlt
      obtain ⟨ad', o', d', nd', t', s', hh, _, _, _, c2', _, _⟩ := H.out k hlt
      injection hh with hh
      subst hh
      have hss : s' = s := by
        have := cell_keep0 HK.out c2'
        rw [c2] at this
        injection this with this
        injection this with this
        exact (str_inj this).symm
      subst hss
      have C2 := Lib.hid c2'
      have hki : (k : Int) < m := by omega
      have hsz := str_size s'
      clear ho c2'
      by_cases hl : s'.length ≤ 300
      · have h300 : ¬ ((300 : Int) < s'.length) := by omega
        go_wp2_with fail
        go_roundw
        case rel =>
          refine ⟨k + 1, by omega, by go_num, HK.out.alloc _, fun i hi ad' s hA hc => ?_⟩
          rcases Nat.lt_or_ge i k with h1 | h1
          · exact HALL.out i h1 ad' s hA hc
          · obtain rfl : i = k := by omega
            injection hA with hA
            subst hA
            rw [C2.out] at hc
            injection hc with hc
            injection hc with hc
            rw [← str_inj hc]
            exact hl
        case measure => simp [intOf]; omega
      · have h300 : ((300 : Int) < s'.length) := by omega
        go_wp2_with fail
        go_ret
        exact ⟨HK.out.alloc _, .inl rfl⟩
    · obtain rfl : k = m := by omega
      go_wp2_with fail
      go_ret
      exact ⟨HK.out, .inr ⟨rfl, HALL.out⟩⟩
end Go.Proofs.YtcbdjmlkjifamaaGreatDoor

/- carlinglaw28.DirsRise answers true. Conditions: the steps' cells read as told. -/
namespace Go.Proofs.YtcbdjmlkjifamaaGreatDoor
open Go.RowKit
set_option maxRecDepth 100000

def RiseRel (w : World) (fb ib pb ab m : Nat) (a : Value) (wr : World) : Prop := ∃ k : Nat, k ≤ m ∧ a = .int .i64 k ∧ Rise fb ib pb ab k wr ∧ Kept [] w wr
def LookRel (w : World) (m : Nat) (a : Value) (wr : World) : Prop := ∃ k : Nat, k ≤ m ∧ a = .int .i64 k ∧ Kept [] w wr
theorem rem5 (o : Nat) : (o : Int).tmod 5 = ((o % 5 : Nat) : Int) := by
  rw [Int.tmod_eq_emod_of_nonneg (by omega)]
  omega
set_option maxHeartbeats 8000000 in
theorem law_DirsRise (A : Option Addr) (n c : Nat) (w : World) (hnc : n ≤ c) (hc : c ≤ 9223372036854775807) (hA : A = none → c = 0) (h : StepsAt w A n) :
    Calls Tryz.prog 4 #[.slice A n c] w fun e w' => e = .returned (.bool true) ∧ Kept [] w w' := by
  have H := Lib.hid h
  have CF := Lib.hid (fun W (hW : Kept [] w W) => law_far A n c W hnc hc hA (h.keep0 hW))
  have CS := Lib.hid (fun W => law_short A n c W hnc hc hA)
  clear h
  go_enter Tryz.func4, Tryz.ntmps4
  go_wp2_with (go_at_call 13; refine Stop.here ?_)
  refine Stop.go ?_
  refine (law_made w 30 (by omega) (by omega)).mono ?_
  rintro e w1 ⟨fb, ib, pb, ab, cs, rfl, hc3, hc1, hs1, hk1, hab⟩
  have K1 := Lib.hid hk1
  have HAB := Lib.hid hab
  have HC3 := Lib.hid hc3
  have HC1 := Lib.hid hc1
  have HS1 := Lib.hid hs1
  clear hc3 hc1 hs1 hk1 hab
  go_wp2_with (with_reducible refine stop_store (t := 44) ?_)
  refine Stop.go ?_
  refine wpList_store_row rfl 44 (.tmp 4) (.tmp 21) rfl w1.heap.size rfl cs rfl 44 _ (Blk.new w1 44 #[.int .i64 0, .int .i64 0, .slice none 0 0]) (by rw [HC3.out]; exact ref_info) (by rw [HC3.out]; rfl) HC1.out ?_
  obtain ⟨w2, hw2⟩ : ∃ w2, w2 = (w1.alloc (.cells #[.int .i64 0, .int .i64 0, .slice none 0 0] 44)).setRow w1.heap.size cs := ⟨_, rfl⟩
  have hk2 : Kept [] w1 w2 := by rw [hw2]; exact ((Kept.refl [] w1).alloc _).setRow _ cs (.inl (Nat.le_refl _))
  rw [← hw2]
  have K2 := Lib.hid (K1.out.trans hk2)
  have HS2 := Lib.hid (HS1.out.keep0 hk2)
  clear hw2 hk2 HS1 K1 hnc hc hA
  go_wp2_with (go_at_call 14; refine Stop.here ?_)
  refine Stop.go ?_
  refine (CF.out w2 K2.out).mono ?_
  rintro e w3 ⟨hk3, rfl | ⟨rfl, hall⟩⟩
  · have K3 := Lib.hid (K2.out.trans hk3)
    clear hk3 HS2 CS CF
    go_wp2_with (go_at_call 12; refine Stop.here ?_)
    refine Stop.go ?_
    refine (law_alive w3).mono ?_
    rintro e w4 ⟨rfl, hk4⟩
    have K4 := Lib.hid (K3.out.trans hk4)
    clear hk4
    go_wp2_with fail
    go_ret
    exact ⟨rfl, K4.out⟩
  have K3 := Lib.hid (K2.out.trans hk3)
  have HS3 := Lib.hid (HS2.out.keep0 hk3)
  have hm : min n 40 ≤ 40 := Nat.min_le_right _ _
  have hmn : min n 40 ≤ n := Nat.min_le_left _ _
  have cs3 := CS.out w3
  have h3 := H.out.less hmn
  have hall3 : ∀ i, i < min n 40 → ∀ ad s, A = some ad → w.cell? ⟨(ad.add (i * 5)).block, (ad.add (i * 5)).off + 2, none⟩ = some (.string (str s)) → s.length ≤ 300 := fun i hi ad s hA hc => hall i hi ad s hA (cell_keep0 K2.out hc)
  obtain ⟨m, hmm⟩ : ∃ m, m = min n 40 := ⟨_, rfl⟩
  rw [← hmm] at cs3 hm hmn h3 hall3
  have CS3 := Lib.hid cs3
  have H3 := Lib.hid h3
  have HALL := Lib.hid hall3
  clear hmm hmn cs3 h3 hall3 hall hk3 HS2 K2 CS CF H
  go_wp2_with (go_at_call 15; refine Stop.here ?_)
  refine Stop.go ?_
  refine CS3.out.mono ?_
  rintro e w4 ⟨rfl, rfl⟩
  clear CS3
  go_wp2_with fail
  go_loopw [36] (fun a wr => RiseRel w fb ib pb ab m a wr) (fun a _ => m - (intOf a).toNat)
  case atStart => exact ⟨0, Nat.zero_le _, rfl, ⟨_, [], HS3.out, dir1_made 5, (fun _ h => nomatch h), Nat.le_refl _⟩, K3.out⟩
  case round =>
    obtain ⟨k, hk, rfl, hri, hkr⟩ := hrel
    have HRI := Lib.hid hri
    have HK := Lib.hid hkr
    clear hri hkr
    by_cases hlt : k < m
    · obtain ⟨ad, o, d, nd, t, s, rfl, ho, c0, c1, c2, c3, c4⟩ := (H3.out.keep0 HK.out) k hlt
      have hs300 : s.length ≤ 300 := by
        obtain ⟨ad', o', d', nd', t', s', hh, _, _, _, c2', _, _⟩ := H3.out k hlt
        injection hh with hh
        subst hh
        have hw := cell_keep0 HK.out c2'
        rw [c2] at hw
        injection hw with hw
        injection hw with hw
        rw [str_inj hw]
        exact HALL.out k hlt ad s' rfl c2'
      have hki : (k : Int) < m := by omega
      have hrem := rem5 o
      obtain ⟨q, hq⟩ : ∃ q, q = o % 5 := ⟨_, rfl⟩
      rw [← hq] at hrem
      have hq5 : q < 5 := by omega
      have hwq : IntKind.u8.wrap (q : Int) = q := by rw [IntKind.wrap_u8]; omega
      have hk0 : Kept [] wr (wr.alloc (.cells #[.int .u8 o, .int .i64 d, .string (str s), .int .i64 nd, .int .i64 t] 23)) := (Kept.refl _ _).alloc _
      have HR0 := Lib.hid (HRI.out.keep0 hk0)
      have HK0 := Lib.hid (HK.out.trans hk0)
      obtain ⟨b, hb, hbits⟩ := and31 nd
      have hwb : IntKind.i64.wrap (1 + (b : Int)) = ((b + 1 : Nat) : Int) := by rw [IntKind.wrap_i64]; omega
      have HS300 := Lib.hid hs300
      clear hq hk0 hs300
      by_cases hq2 : q = 2
      case' pos =>
        subst hq2
        go_wp2_with (go_at_call 7; refine Stop.here ?_)
        refine Stop.go ?_
        refine (rise_Del HR0.out (by omega) HS300.out).mono ?_
        rintro e w5 ⟨⟨v5, rfl⟩, hr5, hk5⟩
      case' neg =>
        have hz2 : ((q : Int) == 2) = false := by rw [beq_eq_false_iff_ne]; omega
        by_cases hq3 : q = 3
        case' pos =>
          subst hq3
          go_wp2_with (go_at_call 8; refine Stop.here ?_)
          refine Stop.go ?_
          refine (rise_Put (nd := b + 1) HR0.out (by omega) HS300.out (by omega) (by omega)).mono ?_
          rintro e w5 ⟨⟨v5, rfl⟩, hr5, hk5⟩
        case' neg =>
          have hz3 : ((q : Int) == 3) = false := by rw [beq_eq_false_iff_ne]; omega
          go_wp2_with (go_at_call 11; refine Stop.here ?_)
          refine Stop.go ?_
          refine (rise_Add (nd := b + 1) HR0.out (by omega) HS300.out (by omega) (by omega)).mono ?_
          rintro e w5 ⟨⟨v5, rfl⟩, hr5, hk5⟩
      all_goals
        obtain ⟨y5, l5, hs5, hd5, hn5, hl5⟩ := hr5
        have hl40 : l5.length ≤ 40 := by omega
        have hdec : decide (l5.length = 0) = (((l5.length : Nat) : Int) == 0) := by
          by_cases c : l5.length = 0
          · rw [c]; rfl
          · rw [decide_eq_false c, eq_comm, beq_eq_false_iff_ne]; omega
        have K5 := Lib.hid (HK0.out.past_new hk5 HAB.out)
        have HS5 := Lib.hid hs5
        have HD5 := Lib.hid hd5
        have HN5 := Lib.hid hn5
        have HL5 := Lib.hid hl5
        have HDEC := Lib.hid hdec
        clear hs5 hd5 hn5 hl5 hdec hk5 HR0 HK0 HK HRI c0 c1 c2 c3 c4 hrem hwq hwb hbits
        go_wp2_with (go_at_call 10; refine Stop.here ?_)
        refine Stop.go ?_
        refine (law_Names w5 5 fb ib pb ab 30 y5 l5 HS5.out HD5.out (by omega)).mono ?_
        rintro e w6 ⟨A6, c6, rfl, hn6, hk6⟩
        have HNM6 := Lib.hid hn6
        have HS6 := Lib.hid (HS5.out.keep0 hk6)
        have K6 := Lib.hid (K5.out.trans hk6)
        clear hn6 hk6 HS5 K5
        go_wp2_with (go_at_call 5; refine Stop.here ?_)
        refine Stop.go ?_
        refine (dirs_List w6 fb ib pb ab 4 30 1 (madeS.set 1 y5) y5 l5 HS6.out HD5.out.isDir).mono ?_
        rintro e w7 ⟨A7, c7, rfl, he7, hk7⟩
        have HE7 := Lib.hid he7
        have HS7 := Lib.hid (HS6.out.keep0 hk7)
        have K7 := Lib.hid (K6.out.trans hk7)
        have HNM7 := Lib.hid (HNM6.out.keep0 hk7)
        clear he7 hk7 HS6 K6 HNM6
        go_wp2_with (go_at_call 9; refine Stop.here ?_)
        refine Stop.go ?_
        refine (dirs_Empty w7 fb ib pb ab 4 30 1 (madeS.set 1 y5) y5 l5 HS7.out HD5.out.isDir).mono ?_
        rintro e w8 ⟨rfl, hk8⟩
        rw [HDEC.out]
        have HE8 := Lib.hid (HE7.out.keep0 hk8)
        have HS8 := Lib.hid (HS7.out.keep0 hk8)
        have K8 := Lib.hid (K7.out.trans hk8)
        have HNM8 := Lib.hid (HNM7.out.keep0 hk8)
        clear hk8 HE7 HS7 K7 HNM7 HDEC
        go_wp2_with fail
        go_loopw [108] (fun a wr2 => LookRel w8 l5.length a wr2) (fun a _ => l5.length - (intOf a).toNat)
        case atStart => exact ⟨0, Nat.zero_le _, rfl, Kept.refl _ _⟩
        case round =>
          obtain ⟨k2, hk2, rfl, hkr2⟩ := hrel
          have HKR := Lib.hid hkr2
          clear hkr2
          by_cases hlt2 : k2 < l5.length
          case' neg =>
            obtain rfl : k2 = l5.length := by omega
            go_wp2_with fail
            exact ⟨⟨k + 1, by omega, by go_num, ⟨y5, l5, HS8.out.keep0 HKR.out, HD5.out, HN5.out, HL5.out⟩, K8.out.trans HKR.out⟩, by simp [intOf]; omega⟩
          have hki2 : (k2 : Int) < l5.length := by omega
          obtain ⟨nm, hnm⟩ : ∃ nm, nm = l5[k2].name := ⟨_, rfl⟩
          obtain ⟨nod, hnod⟩ : ∃ nod, nod = l5[k2].node := ⟨_, rfl⟩
          have hfa := findAns_at HD5.out.ok HN5.out hlt2
          rw [← hnm, ← hnod] at hfa
          obtain ⟨ad6, rfl, _, _, hc6⟩ := (HNM8.out.keep0 HKR.out).at_ (by rw [List.length_map]; omega)
          have hc60 := hc6 k2 (.string (str nm)) (by rw [List.map_map, List.getElem?_map, List.getElem?_eq_getElem hlt2, hnm]; rfl)
          have hnl : nm.length ≤ 100000 := by
            have := (HD5.out.ok.ok l5[k2] (List.getElem_mem hlt2)).2.1
            rw [hnm]
            omega
          have HF := Lib.hid (dirs_Find wr fb ib pb ab 4 30 1 (madeS.set 1 y5) y5 l5 nm (HS8.out.keep0 HKR.out) HD5.out.isDir hnl)
          rw [hfa] at HF
          have HNM := Lib.hid hnm
          have HNOD := Lib.hid hnod
          clear hc6 hfa hnm hnod hnl
          go_wp2_with (go_at_call 6; refine Stop.here ?_)
          refine Stop.go ?_
          refine HF.out.mono ?_
          rintro e w9 ⟨rfl, hk9⟩
          obtain ⟨ad7, rfl, e0, e1⟩ := (HE8.out.keep0 (HKR.out.trans hk9)).get hlt2
          rw [← HNM.out] at e0
          rw [← HNOD.out] at e1
          obtain ⟨ad6', hA6, _, _, hc6⟩ := (HNM8.out.keep0 (HKR.out.trans hk9)).at_ (by rw [List.length_map]; omega)
          injection hA6 with hA6
          subst hA6
          have K9 := Lib.hid (HKR.out.trans hk9)
          have haa : (nm == nm) = true := beq_self_eq_true nm
          clear hk9 HF hc60
          by_cases hz : k2 = 0
          case' pos =>
            subst hz
            clear hc6
            rw [show ad7.add (0 * 2) = ad7 from by cases ad7; simp [Addr.add]] at e0 e1
            have hnil : ¬ (l5 = []) := List.ne_nil_of_length_pos hlt2
            go_wp2_with fail
            all_goals first | exact ⟨⟨0 + 1, by omega, by go_num, K9.out⟩, by simp [intOf]; omega⟩ | (rename_i hx; exact absurd hx hnil)
          case' neg =>
            obtain ⟨j, rfl⟩ : ∃ j, k2 = j + 1 := ⟨k2 - 1, by omega⟩
            have hj : j < l5.length := by omega
            have hbl : Op.bytesLess l5[j].name nm = true := by
              rw [HNM.out]
              exact List.pairwise_iff_getElem.1 HD5.out.ok.sort j (j + 1) hj hlt2 (by omega)
            obtain ⟨pn, hpn⟩ : ∃ pn, pn = l5[j].name := ⟨_, rfl⟩
            rw [← hpn] at hbl
            have hcj := hc6 j (.string (str pn)) (by rw [List.map_map, List.getElem?_map, List.getElem?_eq_getElem hj, hpn]; rfl)
            have hjl : (j : Int) < l5.length := by omega
            clear hc6 hpn
            go_wp2_with fail
            exact ⟨⟨j + 1 + 1, by omega, by go_num, K9.out⟩, by simp [intOf]; omega⟩
    · obtain rfl : k = m := by omega
      have K9 := Lib.hid HK.out
      go_wp2_with (go_at_call 12; refine Stop.here ?_)
      refine Stop.go ?_
      refine (law_alive wr).mono ?_
      rintro e w4 ⟨rfl, hk4⟩
      have K4 := Lib.hid (K9.out.trans hk4)
      clear hk4
      go_wp2_with fail
      go_ret
      exact ⟨rfl, K4.out⟩
end Go.Proofs.YtcbdjmlkjifamaaGreatDoor
