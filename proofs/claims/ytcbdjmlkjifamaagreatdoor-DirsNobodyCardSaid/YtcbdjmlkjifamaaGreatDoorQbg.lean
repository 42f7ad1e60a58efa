/-
  carlinglaw28.made: a new system with a directory in place 1 and a plain file in place 2, with the document's own beside it. Condition: how many pages there are. A directory in place 1 of the system that carlinglaw28.made makes, with room for forty names: what Add, Del, Names do. Condition: nine pages or more. carlinglaw28.alive answers true. No condition. carlinglaw28.DirsNobody answers true, whatever step it is told of. No condition.
-/
import Derived.Test.YtcbdjmlkjifamaaGreatDoorQam
import Derived.Test.YtcbdjmlkjifamaaGreatDoorQbe
import Derived.Test.YtcbdjmlkjifamaaGreatDoorQbf
set_option linter.unusedVariables false
set_option linter.unusedSimpArgs false

/- carlinglaw28.made: a new system with a directory in place 1 and a plain file in place 2, with the document's own beside it. Condition: how many pages there are. -/
namespace Go.Proofs.YtcbdjmlkjifamaaGreatDoor
open Go.RowKit
set_option maxRecDepth 100000

theorem Kept.past_new {w w' w'' : World} {g : Nat} (h : Kept [] w w') (k : Kept [g] w' w'') (hg : w.heap.size ≤ g) : Kept [] w w'' :=
  (h.any.trans k).narrow (fun d hd hlt => by simp only [List.mem_singleton] at hd; omega)
theorem step_store_row {P : Program} {ops : Array Oper} {o : Oper} {a : Act} {w : World} {K : Act → World → Prop} {Q : Exit → Act → World → Prop} {E : Prop} (hgd : o.guard = none) (ty : TypeId) (x y : Operand) (ho : o.op = .store ty x y)
    (g : Nat) (hx : a.eval x = .pointer (some ⟨g, 0, none⟩)) (cells : Array Value) (hy : a.eval y = .agg cells) (t : TypeId) (old : Array Value) (hg : w.heap[g]? = some (.cells old t (0, 0)))
    (hi : (P.info? ty).map (·.size) = some cells.size) (hs : old.size = cells.size) (h1 : cells.all (·.oneCell') = true)
    (h : K (a.put o.dst undef) (w.setRow g cells)) : if Region.wanted o (yielded ops a.tmps) = true then Oper.wp P o a w K Q else E := by
  have hw : Region.wanted o (yielded ops a.tmps) = true := by simp [Region.wanted, hgd]
  rw [if_pos hw]
  unfold Oper.wp execOp
  simp only [ho, hx, hy, Instr.storeAt, Instr.sureAddr, Sem.run_bind, Sem.run_pure, Result.andThen_ok, run_storeVar_row w g t ty old cells hg hi hs h1]
  exact h

theorem results_tmp_cell_tmp {fn : Func} {t p u : Tmp} {ty : TypeId} (h : fn.results = #[.tmp t, .cell p ty, .tmp u]) (tmps : Array Value) (P : Program) (w : World) :
    (results fn tmps).run P w =
      ((asAddr (tmps.getD p undef)).run P w).andThen fun a w₁ => ((loadVar ty a).run P w₁).andThen fun v w₂ => .ok (.tuple #[tmps.getD t undef, v, tmps.getD u undef]) w₂ := by
  simp only [results, h]
  simp [Sem.run_bind, Result.andThen]
/-- The system that carlinglaw28.made makes. -/
def madeS : List Nod := [⟨2, 7, 1, 1, [], fun _ => false, []⟩, ⟨2, 7, 0, 2, [], fun _ => false, []⟩, ⟨1, 7, 0, 2, [], fun _ => false, []⟩] ++ List.replicate 13 ⟨0, 0, 0, 0, [], fun _ => false, []⟩
theorem madeS_eq : ((freshS 4 1).set 1 ⟨2, 7, 0, 2, [], fun _ => false, []⟩).set 2 ⟨1, 7, 0, 2, [], fun _ => false, []⟩ = madeS := rfl
theorem made_z1 (y : Nod) (hy : (freshS 4 1)[1]? = some y) : y.kind = 0 := by cases hy; rfl
theorem made_n1 (j : Nat) (y : Nod) (hj : j < 1) (hy : (freshS 4 1)[j]? = some y) : y.kind ≠ 0 := by
  obtain rfl : j = 0 := by omega
  cases hy
  exact (by decide : (2 : Nat) ≠ 0)
theorem made_z2 (y : Nod) (hy : ((freshS 4 1).set 1 ⟨2, 7, 0, 2, [], fun _ => false, []⟩)[2]? = some y) : y.kind = 0 := by cases hy; rfl
theorem made_n2 (j : Nat) (y : Nod) (hj : j < 2) (hy : ((freshS 4 1).set 1 ⟨2, 7, 0, 2, [], fun _ => false, []⟩)[j]? = some y) : y.kind ≠ 0 := by
  rcases (by omega : j = 0 ∨ j = 1) with rfl | rfl <;> (cases hy; exact (by decide : (2 : Nat) ≠ 0))
theorem made_r1 (j : Nat) (hj : j < (2 :: List.replicate 15 0).length) (h : j < 1) : (2 :: List.replicate 15 0)[j] ≠ 0 := by
  obtain rfl : j = 0 := by omega
  exact (by decide : (2 : Nat) ≠ 0)
theorem made_r2 (j : Nat) (hj : j < ((2 :: List.replicate 15 0).set 1 2).length) (h : j < 2) : ((2 :: List.replicate 15 0).set 1 2)[j] ≠ 0 := by
  rcases (by omega : j = 0 ∨ j = 1) with rfl | rfl <;> exact (by decide : (2 : Nat) ≠ 0)
/-- A system stays, where only the document's block was written. -/
theorem Fsys.ref_ {w w' : World} {fb ib pb ab table : Nat} {pgs : List (List UInt8)} {bm : List UInt8} {nodes : List Ino} (h : Fsys w fb ib pb ab table pgs bm nodes) {xb : Nat} {cs : Array Value} (hx : Blk w xb 44 cs) (hk : Kept [xb] w w') :
    Fsys w' fb ib pb ab table pgs bm nodes := by
  obtain ⟨cap, vs, h5, h6, h7, h8, h9, h10⟩ := h.img.row
  have n1 : ib ∉ [xb] := by rw [List.mem_singleton]; exact h.img.image.ne_ hx (by decide)
  have n2 : pb ∉ [xb] := by rw [List.mem_singleton]; exact h5.ne_ hx (by decide)
  have n3 : ab ∉ [xb] := by rw [List.mem_singleton]; exact h6.ne_ hx (by decide)
  have n4 : fb ∉ [xb] := by rw [List.mem_singleton]; exact h.files.ne_ hx (by decide)
  refine ⟨h.files.keep hk n4, ⟨h.img.image.keep hk n1, ⟨cap, vs, h5.keep hk n2, h6.keep hk n3, h7, h8, h9, fun n hn => ?_⟩, h.img.len, h.img.small⟩, h.fs⟩
  obtain ⟨A, c, a1, a2⟩ := h10 n hn
  exact ⟨A, c, a1, a2.other hk hx (by decide)⟩
theorem Sys.ref_ {w w' : World} {fb ib pb ab table np : Nat} {S : List Nod} (h : Sys w fb ib pb ab table np S) {xb : Nat} {cs : Array Value} (hx : Blk w xb 44 cs) (hk : Kept [xb] w w') : Sys w' fb ib pb ab table np S := by
  obtain ⟨g, bm, xs, h1, h2, h3⟩ := h.ex
  exact ⟨g, bm, xs, h1.ref_ hx hk, h2, h3⟩
theorem ref_info : (Tryz.prog.info? 44).map (·.size) = some 3 := by kernel_rfl

set_option maxHeartbeats 4000000 in
theorem law_made (w : World) (np : Nat) (h1 : 6 ≤ np) (h2 : np ≤ 216) :
    Calls Tryz.prog 13 #[.int .i64 np] w fun e w' => ∃ fb ib pb ab cs, e = .returned (.tuple #[.pointer (some ⟨fb, 0, none⟩), .agg cs, .bool true]) ∧ cs.size = 3 ∧ cs.all (·.oneCell') = true ∧ Sys w' fb ib pb ab 4 np madeS ∧ Kept [] w w' ∧ w.heap.size ≤ ab := by
  go_enter Tryz.func13, Tryz.ntmps13
  have hb0 := Blk.new w 44 #[.int .i64 0, .int .i64 0, .slice none 0 0]
  go_wp2_with (go_at_call 25; refine Stop.here ?_)
  refine Stop.go ?_
  refine (image_New_at np _ (by omega) h2).mono ?_
  rintro e w1 ⟨ib, pb, ab, rfl, hi1, hk1, hab⟩
  have hab : w.heap.size ≤ ab := by simp at hab; omega
  have K1 := Lib.hid (((Kept.refl [] w).alloc _).trans hk1)
  have HAB := Lib.hid hab
  have hb1 := hb0.keep0 hk1
  have HI1 := Lib.hid hi1
  have HB1 := Lib.hid hb1
  have hg1 : w.heap.size < w1.heap.size := hb1.lt
  clear hi1 hb0 hk1 hb1 hab
  go_wp2_with (go_at_call 26; refine Stop.here ?_)
  refine Stop.go ?_
  refine (ref_Format w1 np 4 1 (by omega) (by omega) (by omega) (by omega) (by omega)).mono ?_
  rintro e w2 ⟨A2, c2, xs2, rfl, hs2, hl2, hk2⟩
  have hb2 := HB1.out.keep0 hk2
  have hi2 := HI1.out.keep0 hk2
  have HS2 := Lib.hid hs2
  have HL2 := Lib.hid hl2
  have HB2 := Lib.hid hb2
  have HI2 := Lib.hid hi2
  have K2 := Lib.hid (K1.out.trans hk2)
  have HG12 := Lib.hid (Nat.lt_of_lt_of_le hg1 hk2.size)
  clear hs2 hl2 hk2 hb2 hi2 HB1 HI1 hg1 K1
  go_wp2_with (with_reducible refine stop_store (t := 44) ?_)
  refine Stop.go ?_
  obtain ⟨rb, hrb⟩ : ∃ rb, rb = w2.heap.size := ⟨_, rfl⟩
  obtain ⟨cs, hcs⟩ : ∃ cs : Array Value, cs = #[.int .i64 np, .int .i64 ((4 + 1 : Nat) : Int), .slice A2 (4 * 4) c2] := ⟨_, rfl⟩
  obtain ⟨W3, hW3⟩ : ∃ W3, W3 = (w2.alloc (.cells #[.int .i64 0, .int .i64 0, .slice none 0 0] 44)).setRow rb cs := ⟨_, rfl⟩
  have hcs3 : cs.size = 3 := by rw [hcs]; rfl
  have hcs1 : cs.all (·.oneCell') = true := by rw [hcs]; simp [Value.oneCell']
  refine wpList_store_row rfl 44 (.tmp 7) (.tmp 19) rfl rb (by rw [hrb]; rfl) cs (by rw [hcs]; rfl) 44 _ (by rw [hrb]; exact Blk.new w2 44 #[.int .i64 0, .int .i64 0, .slice none 0 0]) (by rw [hcs3]; exact ref_info) (by rw [hcs3]; rfl) hcs1 ?_
  rw [← hW3]
  have hk3 : Kept [] w2 W3 := by rw [hW3]; exact ((Kept.refl [] w2).alloc _).setRow rb cs (.inl (by omega))
  have K3 := Lib.hid (K2.out.trans hk3)
  have hb3 : Blk W3 rb 44 cs := by
    rw [hW3, hrb]
    exact (Blk.new w2 44 #[.int .i64 0, .int .i64 0, .slice none 0 0]).row cs
  have hr3 : Ref W3 rb (2 :: List.replicate 15 0) := ⟨np, _, A2, c2, xs2, by have hh := hb3; rw [hcs] at hh; exact hh, HS2.out.keep0 hk3, HL2.out⟩
  have HR3 := Lib.hid hr3
  have HB3 := Lib.hid (HB2.out.keep0 hk3)
  have HI3 := Lib.hid (HI2.out.keep0 hk3)
  show wpList _ _ _ _ _ W3
  clear hk3 hb3 hr3 hW3 HS2 HL2 HB2 HI2 K2
  have HCS := Lib.hid hcs
  have HC3 := Lib.hid hcs3
  have HC1 := Lib.hid hcs1
  clear hcs hcs3 hcs1
  subst hrb
  go_wp2_with (go_at_call 27; refine Stop.here ?_)
  refine Stop.go ?_
  refine (sys_Format W3 ib pb ab 4 1 np HI3.out (by omega) (by omega) (by omega) (by omega)).mono ?_
  rintro e w4 ⟨rfl, hi4, hk4⟩
  obtain ⟨np1, own, A, c, xs, p1, p2, p3⟩ := HR3.out
  have hr4 : Ref w4 w2.heap.size (2 :: List.replicate 15 0) := ⟨np1, own, A, c, xs, p1.past HI3.out hk4 (by decide), p2.past HI3.out hk4 (by decide), p3⟩
  have hb4 := HB3.out.past HI3.out hk4 (by decide)
  have K4 := Lib.hid (K3.out.past_new hk4 HAB.out)
  have HR4 := Lib.hid hr4
  have HB4 := Lib.hid hb4
  have HI4 := Lib.hid hi4
  clear hi4 hk4 p1 p2 p3 hr4 hb4 HR3 HB3 HI3 K3
  go_wp2_with (go_at_call 28; refine Stop.here ?_)
  refine Stop.go ?_
  refine (sys_Open w4 ib pb ab 4 1 np HI4.out (by omega) (by omega) (by omega) (by omega) (by omega)).mono ?_
  rintro e w5 ⟨fb, rfl, hs5, hk5⟩
  have K5 := Lib.hid (K4.out.trans hk5)
  have HR5 := Lib.hid (HR4.out.keep0 hk5)
  have HB5 := Lib.hid (HB4.out.keep0 hk5)
  have HS5 := Lib.hid hs5
  clear hs5 hk5 HR4 HB4 HI4 K4
  go_wp2_with (go_at_call 29; refine Stop.here ?_)
  refine Stop.go ?_
  refine (sys_Make w5 fb ib pb ab 4 np 1 2 7 2 (freshS 4 1) HS5.out (by omega) (by omega) (by omega) (by omega) (by decide) (fun y hy => made_z1 y hy) (fun j y hj hy => made_n1 j y hj hy)).mono ?_
  rintro e w6 ⟨rfl, hs6, hk6⟩
  obtain ⟨_, _, _, f5, _, _⟩ := HS5.out.ex
  obtain ⟨np1, own, A, c, xs, p1, p2, p3⟩ := HR5.out
  have hr6 : Ref w6 w2.heap.size (2 :: List.replicate 15 0) := ⟨np1, own, A, c, xs, p1.past f5.img hk6 (by decide), p2.past f5.img hk6 (by decide), p3⟩
  have K6 := Lib.hid (K5.out.past_new hk6 HAB.out)
  have HR6 := Lib.hid hr6
  have HB6 := Lib.hid (HB5.out.past f5.img hk6 (by decide))
  have HS6 := Lib.hid hs6
  clear hs6 hk6 p1 p2 p3 hr6 HR5 HB5 HS5 f5 K5
  go_wp2_with (go_at_call 29; refine Stop.here ?_)
  refine Stop.go ?_
  refine (sys_Make w6 fb ib pb ab 4 np 2 1 7 2 _ HS6.out (by omega) (by omega) (by omega) (by omega) (by decide) (fun y hy => made_z2 y hy) (fun j y hj hy => made_n2 j y hj hy)).mono ?_
  rintro e w7 ⟨rfl, hs7, hk7⟩
  rw [madeS_eq] at hs7
  obtain ⟨_, _, _, f6, _, _⟩ := HS6.out.ex
  obtain ⟨np1, own, A, c, xs, p1, p2, p3⟩ := HR6.out
  have hr7 : Ref w7 w2.heap.size (2 :: List.replicate 15 0) := ⟨np1, own, A, c, xs, p1.past f6.img hk7 (by decide), p2.past f6.img hk7 (by decide), p3⟩
  have K7 := Lib.hid (K6.out.past_new hk7 HAB.out)
  have HR7 := Lib.hid hr7
  have HB7 := Lib.hid (HB6.out.past f6.img hk7 (by decide))
  have HS7 := Lib.hid hs7
  clear hs7 hk7 p1 p2 p3 hr7 HR6 HB6 HS6 f6 K6
  go_wp2_with (go_at_call 30; refine Stop.here ?_)
  refine Stop.go ?_
  refine (ref_Make w7 w2.heap.size 1 2 7 2 _ HR7.out (by decide) (by decide) (by decide) made_r1 (by omega) (by omega) (by omega) (by omega)).mono ?_
  rintro e w8 ⟨rfl, hr8, hk8⟩
  obtain ⟨np1, own, A, c, xs, p1, p2, p3⟩ := HR7.out
  have HS8 := Lib.hid (HS7.out.ref_ p1 hk8)
  have hne : w2.heap.size ≠ w.heap.size := by have := HG12.out; omega
  have HB8 := Lib.hid (HB7.out.keep hk8 (by rw [List.mem_singleton]; exact Ne.symm hne))
  have K8 := Lib.hid (K7.out.past_new hk8 (Nat.le_of_lt HG12.out))
  have HR8 := Lib.hid hr8
  clear hr8 hk8 HS7 HB7 HR7 K7 p1 p2 p3 np1 own A c xs
  go_wp2_with (go_at_call 30; refine Stop.here ?_)
  refine Stop.go ?_
  refine (ref_Make w8 w2.heap.size 2 1 7 2 _ HR8.out (by decide) (by decide) (by decide) made_r2 (by omega) (by omega) (by omega) (by omega)).mono ?_
  rintro e w9 ⟨rfl, hr9, hk9⟩
  obtain ⟨np1, own, A, c, xs, p1, p2, p3⟩ := HR8.out
  have K9 := Lib.hid (K8.out.past_new hk9 (Nat.le_of_lt HG12.out))
  have HS9 := Lib.hid ((HS8.out.ref_ p1 hk9))
  have HB9 := Lib.hid ((HB8.out.keep hk9 (by rw [List.mem_singleton]; exact Ne.symm hne)))
  obtain ⟨np1, own, A, c, xs, p1, p2, p3⟩ := hr9
  obtain ⟨ln, hln⟩ : ∃ ln, ln = (((2 :: List.replicate 15 0).set 1 2).set 2 1).length := ⟨_, rfl⟩
  rw [← hln] at p1
  have c10 : w9.drew.cell? ⟨w2.heap.size, 0, none⟩ = some (.int .i64 np1) := by rw [p1.drew.cell]; rfl
  have c11 : w9.drew.cell? ⟨w2.heap.size, 1, none⟩ = some (.int .i64 own) := by rw [p1.drew.cell]; rfl
  have c12 : w9.drew.cell? ⟨w2.heap.size, 2, none⟩ = some (.slice A ln c) := by rw [p1.drew.cell]; rfl
  have b9 := HB9.out.drew
  have c00 : w9.drew.cell? ⟨w.heap.size, 0, none⟩ = some (.int .i64 0) := by rw [b9.cell]; rfl
  have c01 : w9.drew.cell? ⟨w.heap.size, 1, none⟩ = some (.int .i64 0) := by rw [b9.cell]; rfl
  have c02 : w9.drew.cell? ⟨w.heap.size, 2, none⟩ = some (.slice none 0 0) := by rw [b9.cell]; rfl
  have z00 := b9.frozen 0
  have z01 := b9.frozen 1
  have z02 := b9.frozen 2
  have d00 : w9.cell? ⟨w.heap.size, 0, none⟩ = some (.int .i64 0) := c00
  have d01 : w9.cell? ⟨w.heap.size, 1, none⟩ = some (.int .i64 0) := c01
  have d02 : w9.cell? ⟨w.heap.size, 2, none⟩ = some (.slice none 0 0) := c02
  have y00 : w9.frozen? ⟨w.heap.size, 0, none⟩ = false := z00
  have y01 : w9.frozen? ⟨w.heap.size, 1, none⟩ = false := z01
  have y02 : w9.frozen? ⟨w.heap.size, 2, none⟩ = false := z02
  clear p2 p3 hln hk9 p1 b9 HR8 HS8 HB8 K8
  go_wp2_with fail
  go_region
  go_wp2_with fail
  have hb := (((HB9.out.set_ 0 (.int .i64 np1)).set_ 1 (.int .i64 own)).set_ 2 (.slice A ln c)).drew
  have hkq : Kept [w.heap.size] w9 (((w9.setCell ⟨w.heap.size, 0, none⟩ (.int .i64 np1)).setCell ⟨w.heap.size, 1, none⟩ (.int .i64 own)).setCell ⟨w.heap.size, 2, none⟩ (.slice A ln c)).drew :=
    ((((Kept.refl _ _).setCell (.inr (by simp)) _).setCell (.inr (by simp)) _).setCell (.inr (by simp)) _).drew
  have hs := HS9.out.ref_ HB9.out hkq
  have K10 := K9.out.past_new hkq (Nat.le_refl _)
  obtain ⟨W3, hW3⟩ : ∃ W3, W3 = (((w9.setCell ⟨w.heap.size, 0, none⟩ (.int .i64 np1)).setCell ⟨w.heap.size, 1, none⟩ (.int .i64 own)).setCell ⟨w.heap.size, 2, none⟩ (.slice A ln c)).drew := ⟨_, rfl⟩
  rw [← hW3] at hb hs K10 ⊢
  clear hW3 hkq
  refine bodyPost_ret (v := .tuple #[.pointer (some ⟨fb, 0, none⟩), .agg #[.int .i64 np1, .int .i64 own, .slice A ln c], .bool true]) ?_ rfl ⟨fb, ib, pb, ab, _, rfl, rfl, by simp [Value.oneCell'], hs, K10, HAB.out⟩
  rw [results_tmp_cell_tmp rfl]
  have hld := run_loadVar_row (P := Tryz.prog) W3 w.heap.size 44 44 _ (0, 0) _ hb Tryz.underlying44 rfl rfl
  simp [asAddr, hld]
end Go.Proofs.YtcbdjmlkjifamaaGreatDoor

/- A directory in place 1 of the system that carlinglaw28.made makes, with room for forty names: what Add, Del, Names do. Condition: nine pages or more. -/
namespace Go.Proofs.YtcbdjmlkjifamaaGreatDoor
open Go.RowKit
set_option maxRecDepth 100000

theorem filter_two {α : Type} (p q r : α → Bool) (hp : ∀ x, p x = true → r x = true) (hq : ∀ x, q x = true → r x = true) (hn : ∀ x, p x = true → q x = true → False) (l : List α) : (l.filter p).length + (l.filter q).length ≤ (l.filter r).length := by
  induction l with
  | nil => simp
  | cons a l ih =>
    simp only [List.filter_cons]
    have h1 := hp a
    have h2 := hq a
    have h3 := hn a
    cases c1 : p a <;> cases c2 : q a <;> cases c3 : r a <;> simp_all <;> omega

/-- A directory with the entries l that fill at most K pages. -/
structure Dir1 (K : Nat) (y : Nod) (l : List Ent) : Prop where
  kind : y.kind = 2
  data : y.data = entsB l
  ok : EntsOk l
  att : y.att = []
  has : ∀ i, y.has i = true → i < K
namespace Dir1
variable {K : Nat} {y : Nod} {l : List Ent}
theorem isDir (h : Dir1 K y l) : IsDir (madeS.set 1 y) 1 y l := ⟨rfl, h.kind, h.data, h.ok⟩
theorem sum (y : Nod) : ((madeS.set 1 y).map Nod.used).sum = y.used := by
  show (((⟨2, 7, 1, 1, [], fun _ => false, []⟩ : Nod) :: y :: (⟨1, 7, 0, 2, [], fun _ => false, []⟩ : Nod) :: List.replicate 13 (⟨0, 0, 0, 0, [], fun _ => false, []⟩ : Nod)).map Nod.used).sum = y.used
  rw [List.map_cons, List.map_cons, List.sum_cons, List.sum_cons, show Nod.used ⟨2, 7, 1, 1, [], fun _ => false, []⟩ = 0 from rfl, show (((⟨1, 7, 0, 2, [], fun _ => false, []⟩ : Nod) :: List.replicate 13 (⟨0, 0, 0, 0, [], fun _ => false, []⟩ : Nod)).map Nod.used).sum = 0 from rfl]
  omega
theorem room (h : Dir1 K y l) {np : Nat} (hn : K + 5 ≤ np) (hK : K ≤ 32) {b : List UInt8} (hb : b.length ≤ K * 256) : RoomFor 4 np (madeS.set 1 y) y b := by
  intro _
  obtain ⟨h1, h2, _⟩ := unlikeN_spec y.data b
  unfold leftOf
  rw [sum]
  have h3 := filter_two (fun i => decide (unlikeN y.data b / 256 ≤ i ∧ i * 256 < unlikeN y.data b + (b.length - unlikeN y.data b)) && !y.has i) y.has (fun i => decide (i < K)) (fun i hi => by
    simp only [Bool.and_eq_true, decide_eq_true_eq] at hi ⊢
    omega) (fun i hi => by simpa using h.has i hi) (fun i h1 h2 => by simp [h2] at h1) (List.range 32)
  have h4 : ((List.range 32).filter fun i => decide (i < K)).length = K := by
    have : ∀ K, K < 33 → ((List.range 32).filter fun i => decide (i < K)).length = K := by decide
    exact this K (by omega)
  have h5 : y.used = ((List.range 32).filter y.has).length := by unfold Nod.used; rw [if_pos h.att]; rfl
  rw [h4, ← h5] at h3
  have h6 : y.need (unlikeN y.data b) (b.length - unlikeN y.data b) + y.used ≤ K := h3
  omega
theorem turned (h : Dir1 K y l) {l' : List Ent} (hl : EntsOk l') (hb : l'.length * 26 ≤ K * 256) (t : Nat) : Dir1 K (y.turned (entsB l') t) l' := by
  have hlen := entsB_length l' hl.ok
  obtain ⟨h1, h2, _⟩ := unlikeN_spec y.data (entsB l')
  refine ⟨(turned_kind _ _ _).trans h.kind, turned_data _ _ _, hl, ?_, fun i hi => ?_⟩
  · unfold Nod.turned
    split <;> exact h.att
  · unfold Nod.turned at hi
    split at hi
    · simp only [Nod.trunc, Bool.and_eq_true] at hi
      exact h.has i hi.1
    · simp only [Nod.trunc, Nod.write, Bool.and_eq_true, Bool.or_eq_true, decide_eq_true_eq, List.length_drop] at hi
      rcases hi.1 with h3 | h3
      · exact h.has i h3
      · omega
end Dir1
theorem dir1_made (K : Nat) : Dir1 K ⟨2, 7, 0, 2, [], fun _ => false, []⟩ [] := ⟨rfl, rfl, ⟨(fun _ h => nomatch h), List.Pairwise.nil⟩, rfl, (fun _ h => nomatch h)⟩
theorem madeS_dir1 : madeS.set 1 ⟨2, 7, 0, 2, [], fun _ => false, []⟩ = madeS := rfl

theorem law_Add (w : World) (K fb ib pb ab np t nd : Nat) (y : Nod) (l : List Ent) (s : List UInt8) (h : Sys w fb ib pb ab 4 np (madeS.set 1 y)) (hd : Dir1 K y l) (hn9 : K + 5 ≤ np) (hK : K ≤ 32) (hm : nameMay s = 0) (hn : entNode l s = 0) (h1 : 1 ≤ nd) (h2 : nd ≤ 63) (hl : l.length * 26 + 26 ≤ K * 256) (ht : t ≤ 9223372036854775807) :
    Calls Tryz.prog 11 #[.pointer (some ⟨fb, 0, none⟩), .int .i64 (1 : Nat), .string (str s), .int .i64 nd, .int .i64 t] w fun e w' => e = .returned (.int .i64 0) ∧
      (∃ y', Sys w' fb ib pb ab 4 np (madeS.set 1 y') ∧ Dir1 K y' (entPut l ⟨s, nd⟩)) ∧ Kept [ab] w w' := by
  have hok := hd.ok.put (nameMay_ok hm h1 h2)
  have hpl := entPut_length ⟨s, nd⟩ hd.ok
  have hbl := entsB_length _ hok.ok
  refine (dirs_Add w fb ib pb ab 4 np 1 t nd (madeS.set 1 y) y l s h hd.isDir hm hn h1 h2 (by omega) ht (hd.room hn9 hK (by omega))).mono ?_
  rintro e w' ⟨rfl, hs, hk⟩
  rw [List.set_set] at hs
  exact ⟨rfl, ⟨_, hs, hd.turned hok (by omega) t⟩, hk⟩
theorem law_Del (w : World) (K fb ib pb ab np t : Nat) (y : Nod) (l : List Ent) (s : List UInt8) (h : Sys w fb ib pb ab 4 np (madeS.set 1 y)) (hd : Dir1 K y l) (hn9 : K + 5 ≤ np) (hK : K ≤ 32) (hm : nameMay s = 0) (hn : entNode l s ≠ 0) (hl : l.length * 26 ≤ K * 256) (ht : t ≤ 9223372036854775807) :
    Calls Tryz.prog 7 #[.pointer (some ⟨fb, 0, none⟩), .int .i64 (1 : Nat), .string (str s), .int .i64 t] w fun e w' => e = .returned (.tuple #[.int .i64 (entNode l s : Nat), .int .i64 0]) ∧
      (∃ y', Sys w' fb ib pb ab 4 np (madeS.set 1 y') ∧ Dir1 K y' (entDel l s)) ∧ Kept [ab] w w' := by
  have hok := hd.ok.del s
  have hpl := entDel_length l s
  have hbl := entsB_length _ hok.ok
  refine (dirs_Del w fb ib pb ab 4 np 1 t (madeS.set 1 y) y l s h hd.isDir hm hn (by omega) ht (hd.room hn9 hK (by omega))).mono ?_
  rintro e w' ⟨rfl, hs, hk⟩
  rw [List.set_set] at hs
  exact ⟨rfl, ⟨_, hs, hd.turned hok (by omega) t⟩, hk⟩
theorem law_Put (w : World) (K fb ib pb ab np t nd : Nat) (y : Nod) (l : List Ent) (s : List UInt8) (h : Sys w fb ib pb ab 4 np (madeS.set 1 y)) (hd : Dir1 K y l) (hn9 : K + 5 ≤ np) (hK : K ≤ 32) (hm : nameMay s = 0) (h1 : 1 ≤ nd) (h2 : nd ≤ 63) (hl : l.length * 26 + 26 ≤ K * 256) (ht : t ≤ 9223372036854775807) :
    Calls Tryz.prog 8 #[.pointer (some ⟨fb, 0, none⟩), .int .i64 (1 : Nat), .string (str s), .int .i64 nd, .int .i64 t] w fun e w' => e = .returned (.tuple #[.int .i64 (entNode l s : Nat), .int .i64 0]) ∧
      (∃ y', Sys w' fb ib pb ab 4 np (madeS.set 1 y') ∧ Dir1 K y' (entPut l ⟨s, nd⟩)) ∧ Kept [ab] w w' := by
  have hok := hd.ok.put (nameMay_ok hm h1 h2)
  have hpl := entPut_length ⟨s, nd⟩ hd.ok
  have hbl := entsB_length _ hok.ok
  refine (dirs_Put w fb ib pb ab 4 np 1 t nd (madeS.set 1 y) y l s h hd.isDir hm h1 h2 (by omega) ht (hd.room hn9 hK (by omega))).mono ?_
  rintro e w' ⟨rfl, hs, hk⟩
  rw [List.set_set] at hs
  exact ⟨rfl, ⟨_, hs, hd.turned hok (by omega) t⟩, hk⟩
theorem law_Names (w : World) (K fb ib pb ab np : Nat) (y : Nod) (l : List Ent) (h : Sys w fb ib pb ab 4 np (madeS.set 1 y)) (hd : Dir1 K y l) (hl : l.length ≤ 2000) :
    Calls Tryz.prog 10 #[.pointer (some ⟨fb, 0, none⟩), .int .i64 (1 : Nat)] w fun e w' => ∃ A c, e = .returned (.tuple #[.slice A l.length c, .int .i64 0]) ∧ Strs w' [] A c (l.map (·.name)) ∧ Kept [] w w' :=
  dirs_Names_walk _ _ 0 l w (by omega) (by omega) (by omega) (dirs_List w fb ib pb ab 4 np 1 (madeS.set 1 y) y l h hd.isDir)
end Go.Proofs.YtcbdjmlkjifamaaGreatDoor

/- carlinglaw28.alive answers true. No condition. -/
namespace Go.Proofs.YtcbdjmlkjifamaaGreatDoor
open Go.RowKit
set_option maxRecDepth 100000

theorem list_file (w : World) (fb ib pb ab np : Nat) (y : Nod) (h : Sys w fb ib pb ab 4 np (madeS.set 1 y)) :
    ∀ W, Kept [] w W → Calls Tryz.prog 5 #[.pointer (some ⟨fb, 0, none⟩), .int .i64 (2 : Nat)] W fun e w' => e = .returned (.tuple #[.slice none 0 0, .int .i64 12]) ∧ Kept [] W w' := by
  intro W hW
  obtain ⟨x, ⟨hx1, hx2, hx3, hx4⟩, hI⟩ := sys_Inode W fb ib pb ab 4 np 2 (madeS.set 1 y) ⟨1, 7, 0, 2, [], fun _ => false, []⟩ (h.keep0 hW) rfl
  have hr := dirs_List_bad (.pointer (some ⟨fb, 0, none⟩)) ((2 : Nat) : Int) x 0 W hx3 (.inr (by rw [hx1]; decide)) (by omega) (by omega) hI
  rw [hx1] at hr
  exact hr
theorem Find_file (w : World) (fb ib pb ab np : Nat) (y : Nod) (s : List UInt8) (h : Sys w fb ib pb ab 4 np (madeS.set 1 y)) :
    Calls Tryz.prog 6 #[.pointer (some ⟨fb, 0, none⟩), .int .i64 (2 : Nat), .string (str s)] w fun e w' => e = .returned (.tuple #[.int .i64 0, .int .i64 12]) ∧ Kept [] w w' := by
  refine dirs_Find_bad _ _ s 12 w (by decide) (by decide) (by decide) ?_
  refine (dirs_find_bad _ _ s 12 w (by decide) (by decide) (by decide) (list_file w fb ib pb ab np y h)).mono ?_
  rintro e w' ⟨rfl, hk⟩
  exact ⟨_, _, rfl, hk⟩

set_option maxHeartbeats 4000000 in
theorem law_alive (w : World) : Calls Tryz.prog 12 #[] w fun e w' => e = .returned (.bool true) ∧ Kept [] w w' := by
  go_enter Tryz.func12, Tryz.ntmps12
  go_wp2_with (go_at_call 13; refine Stop.here ?_)
  refine Stop.go ?_
  refine (law_made w 9 (by omega) (by omega)).mono ?_
  rintro e w1 ⟨fb, ib, pb, ab, cs, rfl, hc3, hc1, hs1, hk1, hab⟩
  have K1 := Lib.hid hk1
  have HAB := Lib.hid hab
  have HC3 := Lib.hid hc3
  have HC1 := Lib.hid hc1
  have HS1 := Lib.hid hs1
  clear hc3 hc1 hs1 hk1 hab
  go_wp2_with (with_reducible refine stop_store (t := 44) ?_)
  refine Stop.go ?_
  refine wpList_store_row rfl 44 (.tmp 2) (.tmp 13) rfl w1.heap.size rfl cs rfl 44 _ (Blk.new w1 44 #[.int .i64 0, .int .i64 0, .slice none 0 0]) (by rw [HC3.out]; exact ref_info) (by rw [HC3.out]; rfl) HC1.out ?_
  obtain ⟨w2, hw2⟩ : ∃ w2, w2 = (w1.alloc (.cells #[.int .i64 0, .int .i64 0, .slice none 0 0] 44)).setRow w1.heap.size cs := ⟨_, rfl⟩
  have hk2 : Kept [] w1 w2 := by rw [hw2]; exact ((Kept.refl [] w1).alloc _).setRow _ cs (.inl (Nat.le_refl _))
  rw [← hw2]
  have K2 := Lib.hid (K1.out.trans hk2)
  have HS2 := Lib.hid (HS1.out.keep0 hk2)
  clear hw2 hk2 HS1 K1
  go_wp2_with (go_at_call 11; refine Stop.here ?_)
  refine Stop.go ?_
  refine (law_Add w2 4 fb ib pb ab 9 3 2 _ [] [98] HS2.out (dir1_made 4) (by omega) (by omega) (by decide) (by decide) (by omega) (by omega) (by decide) (by omega)).mono ?_
  rintro e w3 ⟨rfl, ⟨y3, hs3, hd3⟩, hk3⟩
  have K3 := Lib.hid (K2.out.past_new hk3 HAB.out)
  have HS3 := Lib.hid hs3
  have HD3 := Lib.hid hd3
  clear hs3 hd3 hk3 HS2 K2
  go_wp2_with (go_at_call 11; refine Stop.here ?_)
  refine Stop.go ?_
  refine (law_Add w3 4 fb ib pb ab 9 3 3 y3 _ [97] HS3.out HD3.out (by omega) (by omega) (by decide) (by decide) (by omega) (by omega) (by decide) (by omega)).mono ?_
  rintro e w4 ⟨rfl, ⟨y4, hs4, hd4⟩, hk4⟩
  have hd4 : Dir1 4 y4 [⟨[97], 3⟩, ⟨[98], 2⟩] := hd4
  have K4 := Lib.hid (K3.out.past_new hk4 HAB.out)
  have HS4 := Lib.hid hs4
  have HD4 := Lib.hid hd4
  clear hs4 hd4 hk4 HS3 HD3 K3
  go_wp2_with (go_at_call 10; refine Stop.here ?_)
  refine Stop.go ?_
  refine (law_Names w4 4 fb ib pb ab 9 y4 _ HS4.out HD4.out (by decide)).mono ?_
  rintro e w5 ⟨A5, c5, rfl, hn5, hk5⟩
  have hl5 : (([⟨[97], 3⟩, ⟨[98], 2⟩] : List Ent)).length = 2 := rfl
  rw [hl5]
  have HN5 := Lib.hid hn5
  have K5 := Lib.hid (K4.out.trans hk5)
  have HS5 := Lib.hid (HS4.out.keep0 hk5)
  clear K4 hn5 hk5 HS4 hl5
  go_wp2_with (go_at_call 7; refine Stop.here ?_)
  refine Stop.go ?_
  refine (law_Del w5 4 fb ib pb ab 9 4 y4 _ [98] HS5.out HD4.out (by omega) (by omega) (by decide) (by decide) (by decide) (by omega)).mono ?_
  rintro e w6 ⟨rfl, ⟨y6, hs6, hd6⟩, hk6⟩
  have hn6 : Strs w6 [] A5 c5 [[97], [98]] := HS5.out.past HN5.out hk6 (by decide)
  rw [show entNode [⟨[97], 3⟩, ⟨[98], 2⟩] [98] = 2 from by decide]
  have K6 := Lib.hid (K5.out.past_new hk6 HAB.out)
  have HN6 := Lib.hid hn6
  have HS6 := Lib.hid hs6
  clear hn6 hs6 hd6 hk6 K5 HS5 HN5 HD4
  go_wp2_with (go_at_call 6; refine Stop.here ?_)
  refine Stop.go ?_
  refine (Find_file w6 fb ib pb ab 9 y6 [120] HS6.out).mono ?_
  rintro e w7 ⟨rfl, hk7⟩
  have hn7 := HN6.out.keep0 hk7
  obtain ⟨ad, hA, _, _, hcell⟩ := hn7.at_ (by decide)
  subst hA
  have hc0 : w7.cell? ad = some (.string { data := #[97] }) := by
    have h := hcell 0 _ rfl
    rw [show ad.add 0 = ad from by cases ad; simp [Addr.add]] at h
    exact h
  have K7 := Lib.hid (K6.out.trans hk7)
  clear hk7 K6 hn7 hcell HN6 HS6
  go_wp2_with fail
  go_ret
  exact ⟨rfl, K7.out⟩
end Go.Proofs.YtcbdjmlkjifamaaGreatDoor

/- carlinglaw28.DirsNobody answers true, whatever step it is told of. No condition. -/
namespace Go.Proofs.YtcbdjmlkjifamaaGreatDoor
open Go.RowKit
set_option maxRecDepth 100000

section nobody
variable (n : Int) (s : List UInt8)
theorem List_nobody (W : World) : Calls Tryz.prog 5 #[.pointer none, .int .i64 n] W fun e w' => e = .returned (.tuple #[.slice none 0 0, .int .i64 2]) ∧ Kept [] W w' :=
  dirs_List_bad (.pointer none) n Ino.zero 2 W rfl (.inl (by decide)) (by decide) (by decide) (fun W _ => files_Inode_nil W n)
theorem find_nobody (W : World) : Calls Tryz.prog 19 #[.pointer none, .int .i64 n, .string (str s)] W fun e w' => e = .returned (.tuple #[.slice none 0 0, .int .i64 0, .int .i64 2]) ∧ Kept [] W w' :=
  dirs_find_bad (.pointer none) n s 2 W (by decide) (by decide) (by decide) (fun W _ => List_nobody n W)
theorem find_nobody' (W : World) : Calls Tryz.prog 19 #[.pointer none, .int .i64 n, .string (str s)] W fun e w' => ∃ A m c k, e = .returned (.tuple #[.slice A m c, .int .i64 k, .int .i64 2]) ∧ Kept [] W w' := by
  refine (find_nobody n s W).mono ?_
  rintro e w' ⟨rfl, hk⟩
  exact ⟨_, _, _, _, rfl, hk⟩
theorem Find_nobody (W : World) : Calls Tryz.prog 6 #[.pointer none, .int .i64 n, .string (str s)] W fun e w' => e = .returned (.tuple #[.int .i64 0, .int .i64 2]) ∧ Kept [] W w' := by
  refine dirs_Find_bad (.pointer none) n s 2 W (by decide) (by decide) (by decide) ?_
  refine (find_nobody n s W).mono ?_
  rintro e w' ⟨rfl, hk⟩
  exact ⟨_, _, rfl, hk⟩
theorem Del_nobody (t : Int) (W : World) : Calls Tryz.prog 7 #[.pointer none, .int .i64 n, .string (str s), .int .i64 t] W fun e w' => e = .returned (.tuple #[.int .i64 0, .int .i64 2]) ∧ Kept [] W w' :=
  dirs_Del_bad (.pointer none) n s t 2 W (by decide) (by decide) (by decide) (fun W _ => find_nobody' n s W)
theorem Put_nobody (nd t : Int) (W : World) : Calls Tryz.prog 8 #[.pointer none, .int .i64 n, .string (str s), .int .i64 nd, .int .i64 t] W fun e w' => e = .returned (.tuple #[.int .i64 0, .int .i64 2]) ∧ Kept [] W w' :=
  dirs_Put_bad (.pointer none) n s nd t 2 W (by decide) (by decide) (by decide) (fun W _ => find_nobody' n s W)
theorem Add_nobody (nd t : Int) (W : World) : Calls Tryz.prog 11 #[.pointer none, .int .i64 n, .string (str s), .int .i64 nd, .int .i64 t] W fun e w' => e = .returned (.int .i64 2) ∧ Kept [] W w' :=
  dirs_Add_bad (.pointer none) n s nd t 2 W (by decide) (by decide) (by decide) (fun W _ => find_nobody' n s W)
theorem Empty_nobody (W : World) : Calls Tryz.prog 9 #[.pointer none, .int .i64 n] W fun e w' => e = .returned (.tuple #[.bool false, .int .i64 2]) ∧ Kept [] W w' :=
  dirs_Empty_bad (.pointer none) n 2 W (by decide) (by decide) (by decide) (List_nobody n W)
theorem Names_nobody (W : World) : Calls Tryz.prog 10 #[.pointer none, .int .i64 n] W fun e w' => ∃ A c, e = .returned (.tuple #[.slice A 0 c, .int .i64 2]) ∧ Kept [] W w' := by
  refine (dirs_Names_walk (.pointer none) n 2 [] W (by decide) (by decide) (by decide) ?_).mono ?_
  · refine (List_nobody n W).mono ?_
    rintro e w' ⟨rfl, hk⟩
    exact ⟨none, 0, rfl, Sl.nil_ w' [] _ 2 none (by omega), hk⟩
  · rintro e w' ⟨A, c, rfl, _, hk⟩
    exact ⟨A, c, rfl, hk⟩
end nobody

set_option maxHeartbeats 4000000 in
theorem law_DirsNobody (w : World) (op n nd t : Int) (s : List UInt8) :
    Calls Tryz.prog 3 #[.agg #[.int .u8 op, .int .i64 n, .string (str s), .int .i64 nd, .int .i64 t]] w fun e w' => e = .returned (.bool true) ∧ Kept [] w w' := by
  have hb0 := Blk.new w 23 #[.int .u8 op, .int .i64 n, .string (str s), .int .i64 nd, .int .i64 t]
  have hk : ∀ W, Kept [] (w.alloc (.cells #[.int .u8 op, .int .i64 n, .string (str s), .int .i64 nd, .int .i64 t] 23)) W → W.cell? ⟨w.heap.size, 1, none⟩ = some (.int .i64 n) ∧ W.cell? ⟨w.heap.size, 2, none⟩ = some (.string (str s)) ∧ W.cell? ⟨w.heap.size, 3, none⟩ = some (.int .i64 nd) ∧ W.cell? ⟨w.heap.size, 4, none⟩ = some (.int .i64 t) := fun W hW => by
    have h := hb0.keep0 hW
    refine ⟨?_, ?_, ?_, ?_⟩ <;> (rw [h.cell]; rfl)
  obtain ⟨a1, a2, a3, a4⟩ := hk _ (Kept.refl _ _)
  have HK := Lib.hid hk
  clear hb0 hk
  go_enter Tryz.func3, Tryz.ntmps3
  go_wp2_with (go_at_call 5; refine Stop.here ?_)
  refine Stop.go ?_
  refine (List_nobody n _).mono ?_
  rintro e w1 ⟨rfl, hk1⟩
  obtain ⟨b1, b2, b3, b4⟩ := HK.out _ hk1
  have HK1 := Lib.hid hk1
  clear hk1 a1 a2 a3 a4
  go_wp2_with (go_at_call 6; refine Stop.here ?_)
  refine Stop.go ?_
  refine (Find_nobody n s _).mono ?_
  rintro e w2 ⟨rfl, hk2⟩
  have hk2 := HK1.out.trans hk2
  obtain ⟨a1, a2, a3, a4⟩ := HK.out _ hk2
  have HK2 := Lib.hid hk2
  clear hk2 b1 b2 b3 b4 HK1
  go_wp2_with (go_at_call 7; refine Stop.here ?_)
  refine Stop.go ?_
  refine (Del_nobody n s t _).mono ?_
  rintro e w3 ⟨rfl, hk3⟩
  have hk3 := HK2.out.trans hk3
  obtain ⟨b1, b2, b3, b4⟩ := HK.out _ hk3
  have HK3 := Lib.hid hk3
  clear hk3 a1 a2 a3 a4 HK2
  go_wp2_with (go_at_call 8; refine Stop.here ?_)
  refine Stop.go ?_
  refine (Put_nobody n s nd t _).mono ?_
  rintro e w4 ⟨rfl, hk4⟩
  have hk4 := HK3.out.trans hk4
  obtain ⟨a1, a2, a3, a4⟩ := HK.out _ hk4
  have HK4 := Lib.hid hk4
  clear hk4 b1 b2 b3 b4 HK3
  go_wp2_with (go_at_call 9; refine Stop.here ?_)
  refine Stop.go ?_
  refine (Empty_nobody n _).mono ?_
  rintro e w5 ⟨rfl, hk5⟩
  have hk5 := HK4.out.trans hk5
  obtain ⟨b1, b2, b3, b4⟩ := HK.out _ hk5
  have HK5 := Lib.hid hk5
  clear hk5 a1 a2 a3 a4 HK4
  go_wp2_with (go_at_call 10; refine Stop.here ?_)
  refine Stop.go ?_
  refine (Names_nobody n _).mono ?_
  rintro e w6 ⟨A6, c6, rfl, hk6⟩
  have hk6 := HK5.out.trans hk6
  obtain ⟨a1, a2, a3, a4⟩ := HK.out _ hk6
  have HK6 := Lib.hid hk6
  clear hk6 b1 b2 b3 b4 HK5
  go_wp2_with (go_at_call 11; refine Stop.here ?_)
  refine Stop.go ?_
  refine (Add_nobody n s nd t _).mono ?_
  rintro e w7 ⟨rfl, hk7⟩
  have K7 := Lib.hid (((Kept.refl [] w).alloc _).trans (HK6.out.trans hk7))
  clear hk7 a1 a2 a3 a4 HK6
  go_wp2_with (go_at_call 12; refine Stop.here ?_)
  refine Stop.go ?_
  refine (law_alive w7).mono ?_
  rintro e w8 ⟨rfl, hk8⟩
  have K8 := Lib.hid (K7.out.trans hk8)
  clear hk8 K7
  go_wp2_with fail
  go_ret
  exact ⟨rfl, K8.out⟩
end Go.Proofs.YtcbdjmlkjifamaaGreatDoor
