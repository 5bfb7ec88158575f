
import Derived.Test.YtnglindlofmknaaGreatDoorQA5
section
set_option maxHeartbeats 8000000
set_option maxRecDepth 100000
namespace Go.Proofs.YtnglindlofmknaaGreatDoor.B
open Go.RowKit Go.Proofs.YW.PrintWords Go.Proofs.YW.PrintLast Go.Proofs.YW.PrintMore
open Sp Lin
set_option linter.unusedVariables false
set_option linter.unusedSimpArgs false
set_option maxRecDepth 100000
theorem ref02_has {w : List Int} (h : Wf 64 w) (hl : w.length ≤ 1000000) (c : Nat) (hc : c < 1000000000) : zrd.f w (c : Int) = some ((val 64 w).testBit c) := by
 unfold zrd.f
 rw [if_neg (by omega), w64 (x := 64 * (w.length : Int)) (by omega) (by omega)]
 by_cases hi : c / 64 < w.length
 ·rw [if_neg (by omega), tdivE (by omega), tmodE (by omega), show (c : Int) / 64 = ((c / 64 : Nat) : Int) by omega, show (c : Int) % 64 = ((c % 64 : Nat) : Int) by omega, w64 (x := ((c / 64 : Nat) : Int)) (by omega) (by omega), if_pos (by omega), if_pos (by omega), zdf]
  have hx := h.getD (c / 64)
  have hlt := toNat_lt hx
  rw [zve (by decide) h]
  generalize w.getD (c / 64) 0 = x at hx hlt ⊢
  obtain ⟨y, rfl⟩ := Int.eq_ofNat_of_zero_le hx.1
  refine bind_of (ref02_bit (by simpa using hlt) (by omega)) ?_
  rw [Int.toNat_natCast]
 ·rw [if_pos (by omega)]
  have : val 64 w < 2 ^ c := Nat.lt_of_lt_of_le (val_lt h) (Nat.pow_le_pow_right (by decide) (by omega))
  rw [Nat.testBit_lt_two_pow this]
theorem ref11_lead {w : List Int} (h : Wf 64 w) (hl : w.length ≤ 1000) : ∃ c, Ev (fun k => ztb.f k w) c ∧ FirstIs (val 64 w) c := by
 have go : ∀ (m i : Nat), i + m = 64 * w.length → (∀ j, j < i → (val 64 w).testBit j = false) → ∃ c, Ev (fun k => ztb.l0 k w (i : Int)) c ∧ FirstIs (val 64 w) c := by
  intro m
  induction m with
  | zero =>
   intro i hi hz
   refine ⟨-1, ?_, .inl ⟨rfl, Nat.eq_of_testBit_eq fun j => ?_⟩⟩
   ·refine zqa ?_
    simp only [ztb.l0]
    rw [w64 (x := 64 * (w.length : Int)) (by omega) (by omega)]
    refine zbc (by omega) ?_
    exact zjd _
   ·rw [Nat.zero_testBit]
    by_cases hj : j < i
    ·exact hz j hj
    ·exact Nat.testBit_lt_two_pow (Nat.lt_of_lt_of_le (val_lt h) (Nat.pow_le_pow_right (by decide) (by omega)))
  | succ m ih =>
   intro i hi hz
   by_cases hb : (val 64 w).testBit i = true
   ·refine ⟨(i : Int), ?_, .inr ⟨i, rfl, hb, hz⟩⟩
    refine zqa ?_
    simp only [ztb.l0]
    rw [w64 (x := 64 * (w.length : Int)) (by omega) (by omega)]
    refine zx (by omega) ?_
    refine zle (ref02_has h (by omega) i (by omega)) ?_
    refine zx hb ?_
    exact zjd _
   ·obtain ⟨c, h1, h2⟩ := ih (i + 1) (by omega) (fun j hj => by
     by_cases e : j = i
     ·rw [e]; simpa using hb
     ·exact hz j (by omega))
    refine ⟨c, ?_, h2⟩
    refine zqa ?_
    simp only [ztb.l0]
    rw [w64 (x := 64 * (w.length : Int)) (by omega) (by omega), w64 (x := (i : Int) + 1) (by omega) (by omega)]
    refine zx (by omega) ?_
    refine zle (ref02_has h (by omega) i (by omega)) ?_
    refine zbc hb ?_
    exact h1
 exact go (64 * w.length) 0 (by omega) (fun j hj => by omega)
structure RowOk (n : Nat) (w : List Int) : Prop where
 wf : Wf 64 w
 len : w.length = sz n
 lt : val 64 w < 2 ^ n
theorem rowOk_xor {n : Nat} {a b : List Int} (ha : RowOk n a) (hb : RowOk n b) : RowOk n (xorL a b) := by
 have hl : a.length = b.length := by rw [ha.len, hb.len]
 exact ⟨xorL_wf ha.wf hb.wf, by rw [zce hl, ha.len], by rw [val_xorL (by decide) ha.wf hb.wf hl]; exact Nat.xor_lt_two_pow ha.lt hb.lt⟩
def rEq (w : List Int) : Eqn := row1 (val 64 w)
theorem rEq_xor {n : Nat} {a b : List Int} (ha : RowOk n a) (hb : RowOk n b) : rEq (xorL a b) = add (rEq a) (rEq b) := by
 have hl : a.length = b.length := by rw [ha.len, hb.len]
 unfold rEq row1 add
 rw [val_xorL (by decide) ha.wf hb.wf hl]; simp
theorem ref11_down_l1 {a : List Int} (ks : List (List Int)) (i : Nat) (hi : i < ks.length) (hki : ks.length ≤ 100000) (hl : a.length = ks[i].length) (ha : Wf 64 a) (hb : Wf 64 ks[i]) (hn : a.length ≤ 1000) (r : List Int)
  (hnext : Ev (fun k => zda.l0 k (xorL a ks[i]) ks ((i + 1 : Nat) : Int)) r) : ∀ (m j : Nat), j + m = a.length →
  Ev (fun k => zda.l1 k a ks (i : Int) ((xorL a ks[i]).take j) (j : Int)) r := by
 have e : rd_L3 ks (i : Int) = ks[i] := by
  unfold rd_L3; rw [Int.toNat_natCast, List.getD_eq_getElem?_getD, List.getElem?_eq_getElem hi]; rfl
 intro m
 induction m with
 | zero =>
  intro j hj
  refine zqa ?_
  simp only [zda.l1]
  refine zbc (by omega) ?_
  rw [List.take_of_length_le (by rw [zce hl]; omega), w64 (by omega) (by omega)]
  exact hnext
 | succ m ih =>
  intro j hj
  refine zqa ?_
  simp only [zda.l1]
  rw [e]
  refine zx (by omega) ?_
  refine zx (by omega) ?_
  refine zx (by omega) ?_
  refine zx (by omega) ?_
  refine zx (by omega) ?_
  refine zx (by rw [List.length_take, zce hl]; omega) ?_
  rw [zdf, zdf, bits_xor_u64 (ha.getD j) (hb.getD j), ← xorL_getD hl, getD_lt (by rw [zce hl]; omega), ← List.take_succ_eq_append_getElem, w64 (by omega) (by omega)]
  exact ih (j + 1) (by omega)
theorem ref11_down_l0 {n : Nat} (hn : n ≤ 4096) (ks : List (List Int)) (hk : ∀ w, w ∈ ks → RowOk n w) (hki : ks.length ≤ 100000) (ht : Tri (ks.map rEq)) (v : Eqn) : ∀ (m i : Nat) (a : List Int), i + m = ks.length → RowOk n a →
  Span (ks.map rEq) (add v (rEq a)) → (∀ w, w ∈ ks.take i → ∀ d, IsLead (val 64 w) d → (val 64 a).testBit d = false) →
  ∃ a', Ev (fun k => zda.l0 k a ks (i : Int)) a' ∧ RowOk n a' ∧ Red (ks.map rEq) v (rEq a') := by
 have hsz : sz n ≤ 1000 := by unfold sz; omega
 intro m
 induction m with
 | zero =>
  intro i a hi ha hs hl
  refine ⟨a, ?_, ha, hs, fun x hx d hd => ?_⟩
  ·refine zqa ?_
   simp only [zda.l0]
   refine zbc (by omega) ?_
   exact zjd _
  ·obtain ⟨w, hw, rfl⟩ := List.mem_map.1 hx
   exact hl w (by rwa [List.take_of_length_le (by omega)]) d hd
 | succ m ih =>
  intro i a hi ha hs hl
  have hil : i < ks.length := by omega
  have hmem := List.getElem_mem hil
  have hki' := hk _ hmem
  have e : rd_L3 ks (i : Int) = ks[i] := by
   unfold rd_L3; rw [Int.toNat_natCast, List.getD_eq_getElem?_getD, List.getElem?_eq_getElem hil]; rfl
  have hne : val 64 ks[i] ≠ 0 := ht.1 _ (List.mem_map.2 ⟨_, hmem, rfl⟩)
  obtain ⟨c, hc, hf⟩ := ref11_lead hki'.wf (by rw [hki'.len]; exact hsz)
  rcases hf with ⟨_, h0⟩ | ⟨d, rfl, hd⟩
  ·exact absurd h0 hne
  have hdn : d < n := hd.lt hki'.lt
  have htk : ks.take (i + 1) = ks.take i ++ [ks[i]] := by rw [List.take_succ_eq_append_getElem hil]
  have hhas := ref02_has ha.wf (by rw [ha.len]; omega) d (by omega)
  by_cases hb : (val 64 a).testBit d = true
  ·have hx := rowOk_xor ha hki'
   obtain ⟨a', h1, h2, h3⟩ := ih (i + 1) (xorL a ks[i]) (by omega) hx (by
     rw [rEq_xor ha hki', ← add_assoc]
     exact .step hs (List.mem_map.2 ⟨_, hmem, rfl⟩)) (fun w hw f hf => by
    rw [val_xorL (by decide) ha.wf hki'.wf (by rw [ha.len, hki'.len]), Nat.testBit_xor]
    rw [htk] at hw
    rcases List.mem_append.1 hw with hw | hw
    ·have q1 := hl w hw f hf
     have q2 : (val 64 ks[i]).testBit f = false := by
      have hp := ht.2
      rw [List.pairwise_map, List.pairwise_iff_getElem] at hp
      obtain ⟨j, hj, rfl⟩ := List.getElem_of_mem hw
      rw [List.getElem_take] at hf
      have hj2 : j < i := by rw [List.length_take] at hj; omega
      exact hp j i (by omega) hil hj2 f hf
     rw [q1, q2]; rfl
    ·rw [List.mem_singleton.1 hw] at hf
     rw [hf.uniq hd, hb, hd.1]; rfl)
   refine ⟨a', ?_, h2, h3⟩
   refine zqa ?_
   simp only [zda.l0]
   refine zx (by omega) ?_
   refine zx (by omega) ?_
   rw [e]
   refine zjb hc ?_
   refine zle hhas ?_
   refine zx hb ?_
   exact ref11_down_l1 ks i hil hki (by rw [ha.len, hki'.len]) ha.wf hki'.wf (by rw [ha.len]; exact hsz) a' h1 a.length 0 (by omega)
  ·obtain ⟨a', h1, h2, h3⟩ := ih (i + 1) a (by omega) ha hs (fun w hw f hf => by
    rw [htk] at hw
    rcases List.mem_append.1 hw with hw | hw
    ·exact hl w hw f hf
    ·rw [List.mem_singleton.1 hw] at hf
     rw [hf.uniq hd]; simpa using hb)
   refine ⟨a', ?_, h2, h3⟩
   refine zqa ?_
   simp only [zda.l0]
   refine zx (by omega) ?_
   refine zx (by omega) ?_
   rw [e]
   refine zjb hc ?_
   refine zle hhas ?_
   refine zbc hb ?_
   rw [w64 (by omega) (by omega)]
   exact h1
theorem ref11_rank_l0 {L : Nat} (hL : L ≤ 1000) (rows : List (List Nat)) (hr : rows.length ≤ 50000) (hok : ∀ r, r ∈ rows → ∀ x, x ∈ r → x < L) : ∀ (m i : Nat) (ks : List (List Int)), i + m = rows.length → ks.length ≤ i → (∀ w, w ∈ ks → RowOk L w) → Tri (ks.map rEq) →
  (∀ x, x ∈ ks.map rEq → Span (rowEqs (rows.take i)) x) → (∀ x, x ∈ rowEqs (rows.take i) → Span (ks.map rEq) x) →
  ∃ n : Nat, Ev (fun k => zdb.l0 k (pks L rows) ks (i : Int)) (n : Int) ∧ IsRank (rowEqs rows) n := by
 have hsz : sz L ≤ 1000 := by unfold sz; omega
 intro m
 induction m with
 | zero =>
  intro i ks hi hkl hk ht h1 h2
  rw [List.take_of_length_le (by omega)] at h1 h2
  refine ⟨ks.length, ?_, ks.map rEq, ht, by simp, h1, h2⟩
  refine zqa ?_
  simp only [zdb.l0]
  refine zbc (by unfold pks; rw [List.length_map]; omega) ?_
  exact zjd _
 | succ m ih =>
  intro i ks hi hkl hk ht h1 h2
  have hil : i < rows.length := by omega
  have hb := hok _ (List.getElem_mem hil)
  have he : RowOk L (pk L rows[i]) := ⟨pk_wf _ _, pk_len _ _, by rw [pk_val hb]; exact bitsOf_lt hb⟩
  have heq : rEq (pk L rows[i]) = row1 (bitsOf rows[i]) := by unfold rEq; rw [pk_val hb]
  obtain ⟨a, d1, d2, d3⟩ := ref11_down_l0 (by omega) ks hk (by omega) ht (rEq (pk L rows[i])) ks.length 0 (pk L rows[i]) (by omega) he (by rw [add_self]; exact .zero) (by simp)
  obtain ⟨c, hc, hf⟩ := ref11_lead d2.wf (by rw [d2.len]; exact hsz)
  have htk : rowEqs (rows.take (i + 1)) = rowEqs (rows.take i) ++ [row1 (bitsOf rows[i])] := by
   rw [List.take_succ_eq_append_getElem hil]; unfold rowEqs; rw [List.map_append]; rfl
  have e : rd_L3 (pks L rows) (i : Int) = pk L rows[i] := by
   unfold rd_L3; rw [Int.toNat_natCast, pks_get rows hil]
  have mono : ∀ x, Span (rowEqs (rows.take i)) x → Span (rowEqs (rows.take (i + 1))) x := fun x hx => by
   rw [htk]; exact hx.mono fun y hy => List.mem_append_left _ hy
  rw [heq] at d3
  rcases hf with ⟨rfl, h0⟩ | ⟨d, rfl, hd⟩
  ·have hsp : Span (ks.map rEq) (row1 (bitsOf rows[i])) := by
    have := d3.span_of_zero (show (rEq a).1 = 0 from h0)
    simpa [rEq, row1] using this
   obtain ⟨n, q1, q2⟩ := ih (i + 1) ks (by omega) (by omega) hk ht (fun x hx => mono x (h1 x hx)) (fun x hx => by
    rw [htk] at hx
    rcases List.mem_append.1 hx with hx | hx
    ·exact h2 x hx
    ·rw [List.mem_singleton.1 hx]; exact hsp)
   refine ⟨n, ?_, q2⟩
   refine zqa ?_
   simp only [zdb.l0]
   refine zx (by unfold pks; rw [List.length_map]; omega) ?_
   refine zx (by omega) ?_
   rw [e]
   refine zjb d1 ?_
   refine zjb hc ?_
   refine zbc (by decide) ?_
   rw [w64 (by omega) (by omega)]
   exact q1
  ·have hne : (rEq a).1 ≠ 0 := hd.ne
   have emap : (ks ++ [a]).map rEq = ks.map rEq ++ [rEq a] := by simp
   obtain ⟨n, q1, q2⟩ := ih (i + 1) (ks ++ [a]) (by omega) (by simp; omega) (fun w hw => by
     rcases List.mem_append.1 hw with hw | hw
     ·exact hk w hw
     ·rw [List.mem_singleton.1 hw]; exact d2) (by rw [emap]; exact ht.snoc d3 hne) (fun x hx => by
     rw [emap] at hx
     rcases List.mem_append.1 hx with hx | hx
     ·exact mono x (h1 x hx)
     ·rw [List.mem_singleton.1 hx, htk]
      refine Span.of (l := ks.map rEq ++ [row1 (bitsOf rows[i])]) (fun y hy => ?_) d3.snoc_span
      rcases List.mem_append.1 hy with hy | hy
      ·exact (h1 y hy).mono fun z hz => List.mem_append_left _ hz
      ·exact .mem (List.mem_append_right _ hy)) (fun x hx => by
     rw [emap]
     rw [htk] at hx
     rcases List.mem_append.1 hx with hx | hx
     ·exact (h2 x hx).mono fun y hy => List.mem_append_left _ hy
     ·rw [List.mem_singleton.1 hx]; exact d3.span_snoc)
   refine ⟨n, ?_, q2⟩
   refine zqa ?_
   simp only [zdb.l0]
   refine zx (by unfold pks; rw [List.length_map]; omega) ?_
   refine zx (by omega) ?_
   rw [e]
   refine zjb d1 ?_
   refine zjb hc ?_
   refine zx (by omega) ?_
   refine zx (by omega) ?_
   rw [w64 (by omega) (by omega)]
   exact q1
theorem ref11_rank {K seed : Nat} (h1 : 1 ≤ K) (h2 : K ≤ 128) (hs : seed < 65536) (esis : List Nat) (he : Esis esis) :
  ∃ n : Nat, Ev (fun k => zdb.f k (K : Int) (pS K) (pH K) (pL K) (pP K) seed (zs esis)) (n : Int) ∧ IsRank (rowEqs (rowsN K seed esis)) n := by
 have h := par h1 h2
 have hb := h.P1
 have hLP := h.nice.LP
 have hsum := h.sum
 have hlen := he.1
 obtain ⟨n, e1, e2⟩ := ref11_rank_l0 (L := pL K) (by omega) (rowsN K seed esis) (by rw [rows_len]; omega) (fun r hr => (rows_ok r hr).2) (rowsN K seed esis).length 0 [] (by omega) (by simp) (by simp) ⟨by simp, by simp⟩ (by simp) (by simp [rowEqs])
 refine ⟨n, ?_, e2⟩
 unfold zdb.f
 exact zjb (ref11_rows h1 h2 hs esis he) e1
end Go.Proofs.YtnglindlofmknaaGreatDoor.B
end
