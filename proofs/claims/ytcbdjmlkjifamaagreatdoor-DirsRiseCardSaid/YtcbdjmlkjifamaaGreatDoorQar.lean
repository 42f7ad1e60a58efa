/-
  Trunc and Read, as the document has them. Plain Lean: no program and no memory. No condition.
-/
import Derived.Test.YtcbdjmlkjifamaaGreatDoorQao
import Derived.Test.YtcbdjmlkjifamaaGreatDoorQaq
set_option linter.unusedVariables false
set_option linter.unusedSimpArgs false

namespace Go.Proofs.YtcbdjmlkjifamaaGreatDoor
set_option maxRecDepth 100000

def resize (d : List UInt8) (n : Nat) : List UInt8 := (List.range n).map fun i => d.getD i 0
theorem resize_length (d : List UInt8) (n : Nat) : (resize d n).length = n := by simp [resize]
theorem resize_at (d : List UInt8) (n i : Nat) : (resize d n).getD i 0 = if i < n then d.getD i 0 else 0 := by
  by_cases h : i < n
  · rw [if_pos h, List.getD_eq_getElem?_getD, resize, List.getElem?_map, List.getElem?_range h]
    rfl
  · rw [if_neg h, List.getD_eq_getElem?_getD, List.getElem?_eq_none (by rw [resize_length]; omega)]
    rfl
def Nod.trunc (y : Nod) (size t : Nat) : Nod := { y with time := t, data := resize y.data size, has := fun i => y.has i && decide (i < (size + 255) / 256) }

theorem behind_mem (x : Ino) (k0 q : Nat) (hk : k0 ≤ 32) : q ∈ behind x.pages k0 32 ↔ q ≠ 0 ∧ ∃ i, k0 ≤ i ∧ i < 32 ∧ x.pg i = q := by
  unfold behind
  rw [List.mem_filter, List.mem_map]
  simp only [Bool.not_eq_true', beq_eq_false_iff_ne, ne_eq, List.mem_range]
  constructor
  · rintro ⟨⟨j, hj, he⟩, h0⟩
    exact ⟨h0, k0 + j, by omega, by omega, he⟩
  · rintro ⟨h0, i, h1, h2, he⟩
    exact ⟨⟨i - k0, by omega, by rw [show k0 + (i - k0) = i from by omega]; exact he⟩, h0⟩
theorem behind_nodup (x : Ino) (k0 : Nat) (hk : k0 ≤ 32) (hinj : ∀ i j, i < 32 → j < 32 → x.pg i ≠ 0 → x.pg i = x.pg j → i = j) : (behind x.pages k0 32).Nodup := by
  unfold behind List.Nodup
  rw [List.pairwise_filter, List.pairwise_map, List.pairwise_iff_getElem]
  intro i j hi hj hl h1 h2 h3
  simp only [List.length_range] at hi hj
  simp only [List.getElem_range, Bool.not_eq_true', beq_eq_false_iff_ne, ne_eq] at h1 h2 h3
  have := hinj (k0 + i) (k0 + j) (by omega) (by omega) h1 h3
  omega

/-- Trunc: the pages that go are the system's, the inode behind it may be, and the state is the document's. -/
theorem abs_trunc {table n size t : Nat} {g : List (List UInt8)} {bm : List UInt8} {xs : List Ino} {S : List Nod} (h : Abs table g bm xs S) {x : Ino} {y : Nod} (hx : xs[n]? = some x) (hy : S[n]? = some y) (hk : x.kind ≠ 0) (hs : size ≤ 8192) (ht : t ≤ 9223372036854775807) :
    giveOk bm (behind x.pages ((size + 255) / 256) 32) ∧ (∀ i, i < 32 → (x.pages.getD i 0) ≠ 0 → table < (x.pages.getD i 0).toNat ∧ (x.pages.getD i 0).toNat < g.length) ∧ (truncIno x size t).Ok ∧
    ∀ pg : List UInt8, (truncPg table x size g bm)[1 + n / 4]? = some pg →
      Fs table ((truncPg table x size g bm).set (1 + n / 4) (putIno pg (n % 4) (truncIno x size t))) (bmGive bm (behind x.pages ((size + 255) / 256) 32)) (xs.set n (truncIno x size t)) →
      Abs table ((truncPg table x size g bm).set (1 + n / 4) (putIno pg (n % 4) (truncIno x size t))) (bmGive bm (behind x.pages ((size + 255) / 256) 32)) (xs.set n (truncIno x size t)) (S.set n (y.trunc size t)) := by
  have hnl := (List.getElem?_eq_some_iff.1 hx).1
  have hgood := h.fs.good x (List.mem_of_getElem? hx)
  have hok := hgood.ok hk
  have h32 := hok.len
  obtain ⟨k0, hk0⟩ : ∃ k0, k0 = (size + 255) / 256 := ⟨_, rfl⟩
  have hk32 : k0 ≤ 32 := by omega
  obtain ⟨N1, N2⟩ := (all_nodup x h32).1 hok.nodup
  have hown := h.own n x
  have hin : ∀ i, i < 32 → x.pg i ≠ 0 → x.pg i ∈ x.all := fun i hi h0 => (mem_all x h32 _).2 ⟨h0, .inr ⟨i, hi, rfl⟩⟩
  have hBm := fun q => behind_mem x k0 q hk32
  have hBn := behind_nodup x k0 hk32 N1
  have hBall : ∀ q ∈ behind x.pages k0 32, q ∈ x.all := fun q hq => by
    obtain ⟨h0, i, _, hi, he⟩ := (hBm q).1 hq
    exact he ▸ hin i hi (by omega)
  obtain ⟨hgive, hbits⟩ := bmGive_spec (behind x.pages k0 32) bm hBn (fun q hq => (hown q hx (hBall q hq)).2.2)
  have hpg' : ∀ i, (truncIno x size t).pg i = if k0 ≤ i ∧ i < 32 then 0 else x.pg i := fun i => by
    show ((cutTo x.pages ((size + 255) / 256) 32).getD i 0).toNat = _
    rw [cutTo_at, ← hk0]
    split
    · rfl
    · rfl
  have hpgc : ∀ i, (cutIno x size).pg i = (truncIno x size t).pg i := fun _ => rfl
  have hlen : (truncIno x size t).pages.length = 32 := by
    show (cutTo _ _ _).length = 32
    rw [cutTo_length, h32]
  have hattr : (truncIno x size t).attr = x.attr := rfl
  have hall : ∀ q, q ∈ (truncIno x size t).all ↔ q ∈ x.all ∧ q ∉ behind x.pages k0 32 := fun q => by
    constructor
    · intro hq
      obtain ⟨h0, hq⟩ := (mem_all _ hlen q).1 hq
      rcases hq with hq | ⟨i, hi, hq⟩
      · refine ⟨(mem_all x h32 q).2 ⟨h0, .inl (by rw [hq, hattr])⟩, fun hb => ?_⟩
        obtain ⟨_, i, _, hi, he⟩ := (hBm q).1 hb
        exact N2 (by rw [← hattr, ← hq]; exact h0) i hi (by rw [he, hq, hattr])
      · rw [hpg'] at hq
        split at hq
        · exact absurd hq.symm h0
        · rename_i hc
          refine ⟨hq ▸ hin i hi (by omega), fun hb => ?_⟩
          obtain ⟨_, j, hj, hj2, he⟩ := (hBm q).1 hb
          have := N1 j i hj2 hi (by omega) (by omega)
          omega
    · rintro ⟨hq, hb⟩
      obtain ⟨h0, hq⟩ := (mem_all x h32 q).1 hq
      refine (mem_all _ hlen q).2 ⟨h0, ?_⟩
      rcases hq with hq | ⟨i, hi, hq⟩
      · exact .inl (by rw [hq, hattr])
      · refine .inr ⟨i, hi, ?_⟩
        rw [hpg', if_neg]
        · exact hq
        · rintro ⟨h1, _⟩
          exact hb ((hBm q).2 ⟨h0, i, h1, hi, hq⟩)
  have hinj : ∀ i j, i < 32 → j < 32 → (truncIno x size t).pg i ≠ 0 → (truncIno x size t).pg i = (truncIno x size t).pg j → i = j := fun i j hi hj h0 he => by
    rw [hpg'] at h0 he
    rw [hpg'] at he
    split at h0
    · exact absurd rfl h0
    · rename_i hc
      rw [if_neg hc] at he
      split at he
      · exact absurd he h0
      · exact N1 i j hi hj h0 he
  have hbound : ∀ i, i < 32 → x.pg i ≠ 0 → table < x.pg i ∧ x.pg i < g.length := fun i hi h0 => by
    have := hown _ hx (hin i hi h0)
    exact ⟨this.1, this.2.1⟩
  have hok' : (truncIno x size t).Ok := by
    refine ⟨hok.kind, hok.mode, hok.links, hs, ht, hok.attr, hlen, fun i hi => ?_, (all_nodup _ hlen).2 ⟨hinj, fun ha i hi he => ?_⟩⟩
    · show (truncIno x size t).pg i < 216 ∧ ((truncIno x size t).pg i ≠ 0 → i < (size + 255) / 256)
      rw [hpg', ← hk0]
      split
      · exact ⟨by omega, fun hc => absurd rfl hc⟩
      · rename_i hc
        refine ⟨(hok.page i hi).1, fun h0 => by omega⟩
    · rw [hpg'] at he
      split at he
      · exact ha (by rw [← he])
      · exact N2 ha i hi he
  rw [← hk0]
  refine ⟨hgive, fun i hi h0 => hbound i hi (fun hc => h0 (UInt8.toNat_inj.1 hc)), hok', fun pg hpg hfs => ?_⟩
  -- the pages
  obtain ⟨g1, hg1⟩ : ∃ g1, g1 = g.set 0 (layB table (bmGive bm (behind x.pages k0 32))) := ⟨_, rfl⟩
  have hg1f : ∀ q, q ≠ 0 → g1[q]? = g[q]? := fun q hq => by rw [hg1, List.getElem?_set_ne (fun e => hq e.symm)]
  have hg1l : g1.length = g.length := by rw [hg1, List.length_set]
  have hg1p : ∀ (q : Nat) (pg : List UInt8), g1[q]? = some pg → pg.length = 256 := by
    rw [hg1]
    exact put_len h.pl (layB_length _ _ (by rw [bmGive_length, h.fs.bml]; omega))
  have htp : truncPg table x size g bm = if size < x.size then clearPg (cutIno x size) g1 else g1 := by
    unfold truncPg
    rw [hg1, hk0]
  obtain ⟨G, hG⟩ : ∃ G, G = truncPg table x size g bm := ⟨_, rfl⟩
  have key : G.length = g.length ∧ (∀ (q : Nat) (pg : List UInt8), G[q]? = some pg → pg.length = 256) ∧ (∀ q, table < q → q ∉ (truncIno x size t).all → G[q]? = g[q]?) ∧
      (∀ q, q = x.attr → q ≠ 0 → G[q]? = g[q]?) ∧ (∀ i, i < 8192 → ibyte G (truncIno x size t) i = (resize y.data size).getD i 0) := by
    have hdat := (h.one n x y hx hy).data
    have hsz := (h.one n x y hx hy).size
    have hsame : ∀ i, i < 8192 → ibyte g1 (truncIno x size t) i = if k0 ≤ i / 256 then 0 else ibyte g x i := fun i hi => by
      unfold ibyte
      by_cases c : k0 ≤ i / 256
      · have h0 : (truncIno x size t).pg (i / 256) = 0 := by rw [hpg', if_pos ⟨c, by omega⟩]
        rw [if_pos h0, if_pos c]
      · have h0 : (truncIno x size t).pg (i / 256) = x.pg (i / 256) := by rw [hpg', if_neg (fun hc => c hc.1)]
        rw [h0, if_neg c]
        by_cases h0 : x.pg (i / 256) = 0
        · rw [if_pos h0, if_pos h0]
        · rw [if_neg h0, if_neg h0]
          exact pbyte_same (hg1f _ h0) _
    by_cases hcl : size < x.size ∧ 256 * k0 - size ≠ 0 ∧ x.pg (size / 256) ≠ 0
    · obtain ⟨c1, c2, c3⟩ := hcl
      have hq0 : size / 256 < k0 := by omega
      have hGe : G = spreadPg (cutIno x size) (List.replicate (256 * k0 - size) 0) (partsFrom size (256 * k0)) 0 g1 := by
        rw [hG, htp, if_pos c1]
        unfold clearPg
        have hne : ¬ (256 * ((size + 255) / 256) - size = 0 ∨ (cutIno x size).pages.getD (size / 256) 0 = 0) := by
          rintro (hc | hc)
          · omega
          · have h2 := hpg' (size / 256)
            rw [if_neg (by omega)] at h2
            have h3 : (truncIno x size t).pg (size / 256) = 0 := by
              show ((cutIno x size).pages.getD (size / 256) 0).toNat = 0
              rw [hc]
              rfl
            omega
        rw [show (cutIno x size).size = size from rfl, if_neg hne, ← hk0]
        unfold spanParts
        rw [show size + (256 * k0 - size) = 256 * k0 from by omega]
      have hpp : ∀ i, size / 256 ≤ i → i * 256 < 256 * k0 → 0 < (cutIno x size).pg i ∧ (cutIno x size).pg i < g1.length := fun i h1 h2 => by
        obtain rfl : i = size / 256 := by omega
        rw [hpgc, hpg', if_neg (by omega), hg1l]
        have := hbound _ (by omega) c3
        omega
      obtain ⟨E1, E2, E3⟩ := spread_eff (cutIno x size) (List.replicate (256 * k0 - size) 0) hinj (256 * k0) size 0 g1 hg1p (by omega) (by rw [List.length_replicate]; omega) hpp
      rw [← hGe] at E1 E2 E3
      have hspan : ∀ i, size / 256 ≤ i → i * 256 < 256 * k0 → i = size / 256 := fun i h1 h2 => by omega
      refine ⟨by rw [hGe, spreadPg_length, hg1l], E3, fun q h1 h2 => ?_, fun q h1 h2 => ?_, fun i hi => ?_⟩
      · rw [E2 q (fun i a b he => h2 ((hall q).2 ?_)), hg1f q (by omega)]
        rw [hspan i a b, hpgc, hpg', if_neg (by omega)] at he
        refine ⟨he ▸ hin _ (by omega) c3, fun hb => ?_⟩
        obtain ⟨_, j, hj, hj2, he2⟩ := (hBm q).1 hb
        have := N1 j (size / 256) hj2 (by omega) (by omega) (by omega)
        omega
      · rw [E2 q (fun i a b he => ?_), hg1f q h2]
        rw [hspan i a b, hpgc, hpg', if_neg (by omega)] at he
        exact N2 (by rw [← h1]; exact h2) (size / 256) (by omega) (by rw [he, h1])
      · have := E1 i hi
        rw [show ibyte G (truncIno x size t) i = ibyte G (cutIno x size) i from rfl, this, resize_at]
        by_cases ca : size ≤ i ∧ i < 256 * k0
        · rw [if_pos ca, if_neg (by omega), List.getD_eq_getElem?_getD, List.getElem?_replicate]
          split <;> rfl
        · rw [if_neg ca, show ibyte g1 (cutIno x size) i = ibyte g1 (truncIno x size t) i from rfl, hsame i hi]
          by_cases cb : i < size
          · rw [if_neg (by omega), if_pos cb]
            exact hdat i hi
          · rw [if_pos (by omega), if_neg cb]
    · have hGe : G = g1 := by
        rw [hG, htp]
        by_cases c1 : size < x.size
        · rw [if_pos c1]
          unfold clearPg
          rw [show (cutIno x size).size = size from rfl, ← hk0]
          rw [if_pos]
          by_cases c2 : 256 * k0 - size = 0
          · exact .inl c2
          · have c3 : x.pg (size / 256) = 0 := by
              by_cases c3 : x.pg (size / 256) = 0
              · exact c3
              · exact absurd ⟨c1, c2, c3⟩ hcl
            refine .inr (UInt8.toNat_inj.1 ?_)
            have h2 := hpg' (size / 256)
            rw [if_neg (by omega), c3] at h2
            exact h2
        · rw [if_neg c1]
      refine ⟨by rw [hGe, hg1l], by rw [hGe]; exact hg1p, fun q h1 _ => by rw [hGe, hg1f q (by omega)], fun q _ h2 => by rw [hGe, hg1f q h2], fun i hi => ?_⟩
      rw [hGe, hsame i hi, resize_at]
      by_cases cb : i < size
      · rw [if_neg (by omega), if_pos cb]
        exact hdat i hi
      · rw [if_neg cb]
        by_cases ca : k0 ≤ i / 256
        · rw [if_pos ca]
        · rw [if_neg ca]
          by_cases c1 : size < x.size
          · have c3 : x.pg (size / 256) = 0 := by
              by_cases c3 : x.pg (size / 256) = 0
              · exact c3
              · exact absurd ⟨c1, by omega, c3⟩ hcl
            unfold ibyte
            rw [if_pos (by rw [show i / 256 = size / 256 from by omega]; exact c3)]
          · rw [hdat i hi, List.getD_eq_getElem?_getD, List.getElem?_eq_none (by omega)]
            rfl
  rw [← hG] at hpg hfs ⊢
  obtain ⟨K1, K2, K3, K4, K5⟩ := key
  have hnt := h.fs.nlen
  have hput : ∀ q, table < q → (G.set (1 + n / 4) (putIno pg (n % 4) (truncIno x size t)))[q]? = G[q]? := fun q hq => by rw [List.getElem?_set_ne (by omega)]
  refine abs_step h hx hfs ⟨(h.one n x y hx hy).kind, (h.one n x y hx hy).mode, (h.one n x y hx hy).links, rfl, ?_, fun i hi => ?_, fun i hi => ?_, ?_⟩ (by rw [List.length_set, K1]) (put_len K2 (putIno_length pg _ _ (K2 _ _ hpg) (Nat.mod_lt _ (by omega)) hlen))
    (fun q h1 _ h3 => by rw [hput q h1]; exact K3 q h1 h3) (fun q hq => .inl ((hall q).1 hq).1) (fun q => ?_)
  · show size = (resize y.data size).length
    rw [resize_length]
  · show _ = (resize y.data size).getD i 0
    rw [← K5 i hi]
    refine ibyte_same fun h0 => hput _ ?_
    rw [hpg'] at h0 ⊢
    split at h0
    · exact absurd rfl h0
    · rename_i hc
      rw [if_neg hc]
      exact (hbound _ (by omega) h0).1
  · show (y.has i && decide (i < (size + 255) / 256)) = _
    rw [(h.one n x y hx hy).has i hi, hpg', ← hk0]
    by_cases c : k0 ≤ i
    · rw [if_pos ⟨c, hi⟩, decide_eq_false (show ¬ i < k0 by omega), Bool.and_false]
      rfl
    · rw [if_neg (fun hc => c hc.1), decide_eq_true (show i < k0 by omega), Bool.and_true]
  · rcases (h.one n x y hx hy).att with a | ⟨a, b2⟩
    · exact .inl a
    · refine .inr ⟨a, ?_⟩
      show (G.set (1 + n / 4) _)[x.attr]? = _
      rw [hput _ (hown _ hx ((mem_all x h32 _).2 ⟨a, .inl rfl⟩)).1, K4 _ rfl a]
      exact b2
  · rw [hbits]
    by_cases a : q ∈ (truncIno x size t).all
    · obtain ⟨a1, a2⟩ := (hall q).1 a
      rw [if_pos a, decide_eq_false a2, (hown q hx a1).2.2]
      rfl
    · rw [if_neg a]
      by_cases b : q ∈ x.all
      · rw [if_pos b]
        have : q ∈ behind x.pages k0 32 := by
          by_cases c : q ∈ behind x.pages k0 32
          · exact c
          · exact absurd ((hall q).2 ⟨b, c⟩) a
        rw [decide_eq_true this]
        rfl
      · rw [if_neg b, decide_eq_false (fun hc => b (hBall q hc))]
        rfl

theorem gather_ibyte (g : List (List UInt8)) (x : Ino) (hpl : ∀ (q : Nat) (pg : List UInt8), g[q]? = some pg → pg.length = 256) : ∀ (stop pos : Nat), gather (partsFrom pos stop) (readPg g x (partsFrom pos stop)) = (List.range (stop - pos)).map fun j => ibyte g x (pos + j) := by
  intro stop pos
  induction hd : stop - pos using Nat.strongRecOn generalizing pos with
  | _ d ih =>
    subst hd
    by_cases hlt : pos < stop
    · rw [partsFrom_step hlt]
      obtain ⟨sz, hsz⟩ : ∃ sz, sz = min (256 - pos % 256) (stop - pos) := ⟨_, rfl⟩
      rw [← hsz]
      have h2 := ih (stop - (pos + sz)) (by omega) (pos + sz) rfl
      unfold gather readPg at h2 ⊢
      rw [List.map_cons, List.zip_cons_cons, List.flatMap_cons, h2]
      have hpiece : piece ⟨pos / 256, pos % 256, sz⟩ (if x.pageOf ⟨pos / 256, pos % 256, sz⟩ = 0 then [] else g.getD (x.pageOf ⟨pos / 256, pos % 256, sz⟩) []) = (List.range sz).map fun j => ibyte g x (pos + j) := by
        have hq : x.pageOf ⟨pos / 256, pos % 256, sz⟩ = x.pg (pos / 256) := rfl
        rw [hq]
        obtain ⟨pg, hpg⟩ : ∃ pg, pg = (if x.pg (pos / 256) = 0 then [] else g.getD (x.pg (pos / 256)) []) := ⟨_, rfl⟩
        rw [← hpg]
        have hl : pg.length ≤ 256 := by
          rw [hpg]
          split
          · simp
          · rw [List.getD_eq_getElem?_getD]
            cases hg : g[x.pg (pos / 256)]? with
            | none => simp
            | some q => exact Nat.le_of_eq (hpl _ _ hg)
        have hat : ∀ o, (pad256 pg).getD o 0 = if x.pg (pos / 256) = 0 then 0 else pbyte g (x.pg (pos / 256)) o := fun o => by
          have hp : (pad256 pg).getD o 0 = pg.getD o 0 := by
            unfold pad256
            simp only [List.getD_eq_getElem?_getD]
            by_cases c : o < pg.length
            · rw [List.getElem?_append_left c]
            · rw [List.getElem?_append_right (by omega), List.getElem?_replicate, List.getElem?_eq_none (by omega)]
              split <;> rfl
          rw [hp, hpg]
          split
          · rfl
          · rfl
        show ((pad256 pg).drop (pos % 256)).take sz = _
        refine List.ext_getElem (by rw [List.length_take, List.length_drop, pad256_length pg hl, List.length_map, List.length_range]; omega) (fun j h1 h3 => ?_)
        rw [List.getElem_map, List.getElem_range]
        have hj : j < sz := by simpa using h3
        rw [List.getElem_take, List.getElem_drop]
        have h4 := hat (pos % 256 + j)
        rw [List.getD_eq_getElem?_getD, List.getElem?_eq_getElem (by rw [pad256_length pg hl]; omega)] at h4
        simp only [Option.getD_some] at h4
        rw [h4]
        unfold ibyte
        rw [show (pos + j) / 256 = pos / 256 from by omega, show (pos + j) % 256 = pos % 256 + j from by omega]
      rw [hpiece, show stop - pos = sz + (stop - (pos + sz)) from by omega, List.range_add, List.map_append, List.map_map]
      congr 1
      refine List.map_congr_left fun j _ => ?_
      show ibyte g x (pos + sz + j) = ibyte g x (pos + (sz + j))
      rw [Nat.add_assoc]
    · rw [partsFrom_end (by omega), show stop - pos = 0 from by omega]
      rfl

/-- Read, as the document has it. -/
theorem abs_read {g : List (List UInt8)} {x : Ino} {y : Nod} (hpl : ∀ (q : Nat) (pg : List UInt8), g[q]? = some pg → pg.length = 256) (h : IsNod g x y) (hs : x.size ≤ 8192) (P S : Nat) : readB g x P S = (y.data.drop P).take S := by
  unfold readB spanParts
  rw [gather_ibyte g x hpl]
  have hsz := h.size
  refine List.ext_getElem (by simp only [List.length_map, List.length_range, List.length_take, List.length_drop, cutN]; split <;> omega) (fun j h1 h2 => ?_)
  simp only [List.length_map, List.length_range] at h1
  have hj : P + j < x.size := by
    unfold cutN at h1
    split at h1 <;> omega
  rw [List.getElem_map, List.getElem_range, List.getElem_take, List.getElem_drop, h.data _ (by omega), List.getD_eq_getElem?_getD, List.getElem?_eq_getElem (by omega)]
  rfl
end Go.Proofs.YtcbdjmlkjifamaaGreatDoor
