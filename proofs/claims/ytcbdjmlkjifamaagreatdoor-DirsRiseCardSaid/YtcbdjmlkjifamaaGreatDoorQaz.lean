/-
  dirent.Parse at the bytes of entries that may be.
-/
import Derived.Test.YtcbdjmlkjifamaaGreatDoorQam
import Derived.Test.YtcbdjmlkjifamaaGreatDoorQay
set_option linter.unusedVariables false
set_option linter.unusedSimpArgs false

namespace Go.Proofs.YtcbdjmlkjifamaaGreatDoor
open Go.RowKit
set_option maxRecDepth 100000

def lenV : Value → Nat
  | .slice _ n _ => n
  | _ => 0
theorem entsB_drop (l : List Ent) (k : Nat) (h : k < l.length) : entsB (l.drop k) = UInt8.ofNat l[k].node :: (packText l[k].name 24 ++ entsB (l.drop (k + 1))) := by
  unfold entsB
  rw [List.drop_eq_getElem_cons h, List.flatMap_cons]
  rfl
theorem entCells_take (l : List Ent) (k : Nat) (h : k < l.length) : entCells (l.take (k + 1)) = entCells (l.take k) ++ [.string (str l[k].name), .int .i64 l[k].node] := by
  rw [List.take_succ_eq_append_getElem h, entCells_append]
  rfl

/-- What the loop of Parse knows. -/
def ParRel (w : World) (rb : Nat) (l : List Ent) (v : Value) (wr : World) : Prop :=
  ∃ k : Nat, k ≤ l.length ∧ Rd wr [] rb (entsB (l.drop k)) ∧ wr.ownsRow w.heap.size 50 2 v k (entCells (l.take k)) ∧ Kept [] w wr

set_option maxHeartbeats 2000000 in
theorem dirent_Parse (A : Option Addr) (c n : Nat) (l : List Ent) (w : World) (h : Bytes w [] A c (entsB l)) (hn : (entsB l).length = n) (hl : EntsOk l) (hs : l.length ≤ 2000) :
    Calls Tryz.prog 18 #[.slice A n c] w fun r w' => ∃ A' c', r = .returned (.tuple #[.slice A' l.length c', .int .i64 0]) ∧ Ents w' [] A' c' l ∧ Kept [] w w' := by
  subst hn
  obtain ⟨i0, hi, hz0, hz1, hz2⟩ := info_parts ent_info
  have H := Lib.hid h
  have HL := Lib.hid hl
  clear h hl
  go_enter Tryz.func18, Tryz.ntmps18
  go_wp2_with (go_at_call 39; refine Stop.here ?_)
  refine Stop.go ?_
  refine (pack_Read [] A c (entsB l) w H.out).mono ?_
  rintro r w1 ⟨rfl, hr1, hk1⟩
  obtain ⟨rb, hrb⟩ : ∃ rb, rb = w.heap.size := ⟨_, rfl⟩
  rw [← hrb] at hr1 ⊢
  have HR1 := Lib.hid hr1
  have HK1 := Lib.hid hk1
  have HRB := Lib.hid hrb
  clear hr1 hk1 hrb
  go_wp2_with fail
  go_loopw [5] (fun v wr => ParRel w rb l v wr) (fun v _ => l.length - lenV v)
  case atStart => exact ⟨0, Nat.zero_le _, HR1.out, by simpa [entCells] using World.ownsRow_nil _ _ _ _, HK1.out⟩
  case round =>
    obtain ⟨k, hk, hrd, ho, hkr⟩ := hrel
    obtain ⟨A1, c1, rfl⟩ := own_form ho
    have HR := Lib.hid hrd
    have HO := Lib.hid ho
    have HK := Lib.hid hkr
    clear hrd ho hkr
    have hlen := entsB_length (l.drop k) (fun x hx => HL.out.ok x (List.mem_of_mem_drop hx))
    rw [List.length_drop] at hlen
    by_cases hlt : k < l.length
    · have cL := reader_Left [] rb (entsB (l.drop k)) wr HR.out
      rw [hlen] at cL
      have hpos : (0 : Int) < ((26 * (l.length - k) : Nat) : Int) := by omega
      obtain ⟨M, hM⟩ : ∃ M, M = 26 * (l.length - k) := ⟨_, rfl⟩
      rw [← hM] at cL hpos hlen
      have CL := Lib.hid cL
      have hed := entsB_drop l k hlt
      have hec := entCells_take l k hlt
      have hok := HL.out.ok _ (List.getElem_mem hlt)
      obtain ⟨e, he⟩ : ∃ e, e = l[k] := ⟨_, rfl⟩
      rw [← he] at hed hec hok
      obtain ⟨ok1, ok2, ok3, ok4⟩ := hok
      have hrd := HR.out
      rw [hed, show UInt8.ofNat e.node :: (packText e.name 24 ++ entsB (l.drop (k + 1))) = leBytes e.node 1 ++ (packText e.name 24 ++ entsB (l.drop (k + 1))) from rfl] at hrd
      have cN := num_at [] rb e.node 1 (packText e.name 24 ++ entsB (l.drop (k + 1))) 63 wr hrd (Old.nil _) (by omega) (by omega) (by omega) (by omega) (by omega)
      have CN := Lib.hid cN
      have HEC := Lib.hid hec
      clear cL cN hrd hed hec he hlen hM
      go_wp2_with (go_at_call 40; refine Stop.here ?_)
      refine Stop.go ?_
      refine CL.out.mono ?_
      rintro r w' ⟨rfl, rfl⟩
      go_wp2_with (go_at_call 41; refine Stop.here ?_)
      refine Stop.go ?_
      refine CN.out.mono ?_
      rintro r w2 ⟨rfl, hr2, hk2⟩
      obtain ⟨Ar, cr, hbr, _⟩ := HR.out
      have hne := own_ne HO.out hbr (by decide)
      have ho2 := own_keep HO.out hk2 (fun d hd => by rw [List.mem_singleton] at hd; subst hd; exact hne.symm)
      have hpl : (packText e.name 24).length = 25 := packText_length _ _ ok2
      have cT := reader_Text [] rb _ 24 e.name w2 hr2 (Old.nil _) (by omega) (by omega) (by rw [List.length_append]; omega) ok2 (by rw [List.take_append_of_le_length (by omega), List.take_of_length_le (by omega)])
      rw [List.drop_append_of_le_length (by omega), List.drop_of_length_le (by omega), List.nil_append, show ((24 : Nat) : Int) = 24 from rfl] at cT
      have CT := Lib.hid cT
      have HO2 := Lib.hid ho2
      have HR2 := Lib.hid hr2
      have HK2 := Lib.hid ((HK.out.any.trans hk2).narrow (D' := []) (fun d hd hdl => by rw [List.mem_singleton] at hd; have := HRB.out; omega))
      clear cT ho2 hr2 hk2 hne hbr
      go_wp2_with (go_at_call 42; refine Stop.here ?_)
      refine Stop.go ?_
      refine CT.out.mono ?_
      rintro r w3 ⟨A3, c3, rfl, hb3, hr3, hk3⟩
      obtain ⟨Ar, cr, hbr, _⟩ := HR2.out
      have hne := own_ne HO2.out hbr (by decide)
      have ho3 := own_keep HO2.out hk3 (fun d hd => by rw [List.mem_singleton] at hd; subst hd; exact hne.symm)
      have hcv := run_conv_str hb3 rfl
      have HO3 := Lib.hid ho3
      have HR3 := Lib.hid hr3
      have HK3 := Lib.hid ((HK2.out.any.trans hk3).narrow (D' := []) (fun d hd hdl => by rw [List.mem_singleton] at hd; have := HRB.out; omega))
      clear ho3 hr3 hk3 hne hbr hb3
      go_wp2_with (at_builtin; refine Stop.here ?_)
      refine Stop.go ?_
      have hal := HO3.out.alloc (.cells #[.string (str e.name), .int .i64 e.node] 50)
      refine wpList_append_new (W0 := w) rfl (.tmp 11) (.tmp 19) _ rfl w.heap.size 50 i0 _ 2 24 Tryz.underlying24 hi hz0 hz1 hz2 rfl (by omega) (.slice A1 k c1) k _ rfl HO3.out w3.heap.size [.string (str e.name), .int .i64 e.node] rfl rfl rfl (by simp [Value.oneCell']) (by simp only [maxLen]; omega) (by omega) HK3.out.size HK3.out (Nat.le_refl _) ?_
      intro v4 w4 ho4 hg4 hk4 _
      obtain ⟨A4, c4, rfl⟩ := own_form ho4
      rw [← HEC.out] at ho4
      have hr4 : Rd w4 [] rb (entsB (l.drop (k + 1))) := by
        obtain ⟨Ar, cr, hbr, hbb⟩ := HR3.out
        refine ⟨Ar, cr, (hbr.alloc _).grown hg4 (own_ne hal (hbr.alloc _) (by decide)), (hbb.keep0 ((Kept.refl _ _).alloc _)).grown hal (by decide) hg4⟩
      have HO4 := Lib.hid ho4
      have HR4 := Lib.hid hr4
      have HK4 := Lib.hid hk4
      clear ho4 hg4 hk4 hr4 hal
      go_wp2_with fail
      go_roundw
      case rel => exact ⟨k + 1, by omega, HR4.out, HO4.out, HK4.out⟩
      case measure => simp [lenV]; omega
    · obtain rfl : k = l.length := by omega
      have cL := reader_Left [] rb (entsB (l.drop l.length)) wr HR.out
      rw [hlen, Nat.sub_self, Nat.mul_zero] at cL
      have cE := reader_Err [] rb (entsB (l.drop l.length)) wr HR.out
      have ho := HO.out
      rw [List.take_length] at ho
      obtain ⟨A', c', hv, hsl⟩ := Sl.of_row (D := []) ho (by simp) (by omega)
      injection hv with e1 _ e3
      subst e1; subst e3
      have hent : Ents wr [] A1 c1 l := hsl
      have cM := dirent_May [] A1 c1 l.length l wr hent rfl HL.out
      have CL := Lib.hid cL
      have CE := Lib.hid cE
      have CM := Lib.hid cM
      have HENT := Lib.hid hent
      clear cL cE cM hent hsl ho hlen
      go_wp2_with (go_at_call 40; refine Stop.here ?_)
      refine Stop.go ?_
      refine CL.out.mono ?_
      rintro r w' ⟨rfl, rfl⟩
      go_wp2_with (first | (go_at_call 43; refine CE.out.mono ?_; rintro r w' ⟨rfl, rfl⟩) | (go_at_call 44; refine Stop.here ?_))
      refine Stop.go ?_
      refine CM.out.mono ?_
      rintro r w5 ⟨rfl, hk5⟩
      have HK5 := Lib.hid (HK.out.trans hk5)
      have HE5 := Lib.hid (HENT.out.keep0 hk5)
      clear hk5
      go_wp2_with fail
      go_ret2
      exact ⟨A1, c1, rfl, HE5.out, HK5.out⟩
end Go.Proofs.YtcbdjmlkjifamaaGreatDoor
