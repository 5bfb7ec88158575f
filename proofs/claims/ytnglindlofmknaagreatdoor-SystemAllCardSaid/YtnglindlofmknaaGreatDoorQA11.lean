/- SystemAll holds: each number of source symbols from 1 to 128 has a seed, by which the rows of the first encoding symbols have the full rank. Condition: the library's table deBruijn64tab holds what the program's text lays (the card ties it). -/

import Derived.Test.YtnglindlofmknaaGreatDoorQA1
import Derived.Test.YtnglindlofmknaaGreatDoorQA3
import Derived.Test.YtnglindlofmknaaGreatDoorQA4
import Derived.Test.YtnglindlofmknaaGreatDoorQA5
import Derived.Test.YtnglindlofmknaaGreatDoorQA6
import Derived.Test.YtnglindlofmknaaGreatDoorQA7
import Derived.Test.YtnglindlofmknaaGreatDoorQA8
import Derived.Test.YtnglindlofmknaaGreatDoorQA9
import Derived.Test.YtnglindlofmknaaGreatDoorQA10
section
set_option maxHeartbeats 8000000
set_option maxRecDepth 100000
namespace Go.Proofs.YtnglindlofmknaaGreatDoor.B
open Go.RowKit Go.Proofs.YW.PrintWords Go.Proofs.YW.PrintLast Go.Proofs.YW.PrintMore
attribute [local go_sem] zva zta zmb zlb zia zha zua zsa
set_option linter.unusedVariables false
set_option linter.unusedSimpArgs false
def zhe.l0 : Nat → Int → Int → Int → Int → Int → Int → Int → Option (Int)
 | 0, _, _, _, _, _, _, _ => none
 | k + 1, x0, x4, x748000, x748001, x748002, x748003, x748004 => if x4 < 65536 then ((zrb.f k x0).bind fun t748 => ((zdb.f k x748000 x748001 x748002 x748003 x748004 x4 t748).bind fun t751 => (if t751 = x748003 then (some x4) else (zhe.l0 k x0 (wrap64 (x4 + 1)) x748000 x748001 x748002 x748003 x748004)))) else (some (-1))
def zhe.f (k : Nat) (a0 : Int) : Option (Int) := (zkb.f k a0).bind fun bt742 => (zhe.l0 k a0 0 bt742.1 bt742.2.1 bt742.2.2.1 bt742.2.2.2.1 bt742.2.2.2.2)
end Go.Proofs.YtnglindlofmknaaGreatDoor.B
end
section
set_option maxHeartbeats 8000000
set_option maxRecDepth 100000
namespace Go.Proofs.YtnglindlofmknaaGreatDoor.B
open Go.RowKit Go.Proofs.YW.PrintWords Go.Proofs.YW.PrintLast Go.Proofs.YW.PrintMore
open Sp Lin
set_option linter.unusedVariables false
set_option linter.unusedSimpArgs false
set_option maxRecDepth 100000
def Full (K s : Nat) : Prop := IsRank (rowEqs (rowsN K s (List.range K))) (pL K)
theorem ldpcB_bit (S row : Nat) : ∀ (n i c : Nat), (ldpcB S row n i).testBit c = (decide (i ≤ c ∧ c < i + n) && ldpc3 S row c)
 | 0, i, c => by simp [ldpcB]; intro h1 h2; omega
 | n + 1, i, c => by
  have e : ldpcB S row (n + 1) i = if ldpc3 S row i = true then 2 ^ i ||| ldpcB S row n (i + 1) else ldpcB S row n (i + 1) := rfl
  rw [e]
  by_cases h : ldpc3 S row i = true
  ·rw [if_pos h, Nat.testBit_or, ldpcB_bit S row n (i + 1) c, Nat.testBit_two_pow]
   by_cases hc : i = c
   ·subst hc; simp [h]
   ·have : decide (i + 1 ≤ c ∧ c < i + 1 + n) = decide (i ≤ c ∧ c < i + (n + 1)) := by rw [decide_eq_decide]; omega
    rw [this]; simp [hc]
  ·rw [if_neg h, ldpcB_bit S row n (i + 1) c]
   by_cases hc : i = c
   ·subst hc; simp [h]
   ·have : decide (i + 1 ≤ c ∧ c < i + 1 + n) = decide (i ≤ c ∧ c < i + (n + 1)) := by rw [decide_eq_decide]; omega
    rw [this]
theorem halfB_bit (h : Nat) : ∀ (g : List Nat) (i c : Nat), (halfB h g i).testBit c = (decide (i ≤ c ∧ c < i + g.length) && (g.getD (c - i) 0).testBit h)
 | [], i, c => by simp [halfB]
 | x :: t, i, c => by
  simp only [halfB]
  by_cases hc : i = c
  ·subst hc
   by_cases hx : x &&& 2 ^ h = 0
   ·rw [if_pos hx, halfB_bit h t (i + 1) i]
    have := (and_mask x h).1 hx
    have hd : decide (i + 1 ≤ i ∧ i < i + 1 + t.length) = false := by rw [decide_eq_false_iff_not]; omega
    rw [hd, Bool.false_and]
    simp [this]
   ·rw [if_neg hx, Nat.testBit_or, Nat.testBit_two_pow]
    have : x.testBit h = true := by
     cases hv : x.testBit h with
     | true => rfl
     | false => exact absurd ((and_mask x h).2 hv) hx
    simp [this]
  ·have e : decide (i + 1 ≤ c ∧ c < i + 1 + t.length) = decide (i ≤ c ∧ c < i + (t.length + 1)) := by rw [decide_eq_decide]; omega
   have e2 : i ≤ c → (x :: t).getD (c - i) 0 = t.getD (c - (i + 1)) 0 := fun hle => by
    obtain ⟨d, rfl⟩ : ∃ d, c = i + 1 + d := ⟨c - (i + 1), by omega⟩
    rw [show i + 1 + d - i = d + 1 by omega, show i + 1 + d - (i + 1) = d by omega]; rfl
   have hr : (halfB h t (i + 1)).testBit c = (decide (i ≤ c ∧ c < i + (x :: t).length) && ((x :: t).getD (c - i) 0).testBit h) := by
    rw [halfB_bit h t (i + 1) c, e]
    by_cases hle : i ≤ c
    ·rw [e2 hle]; rfl
    ·have h1 : decide (i ≤ c ∧ c < i + (t.length + 1)) = false := by rw [decide_eq_false_iff_not]; omega
     rw [h1, List.length_cons, h1]; rfl
   by_cases hx : x &&& 2 ^ h = 0
   ·rw [if_pos hx, hr]
   ·rw [if_neg hx, Nat.testBit_or, Nat.testBit_two_pow, hr]
    simp [hc]
theorem preB_ok {K : Nat} (h1 : 1 ≤ K) (h2 : K ≤ 128) : preB K (pS K) (pH K) (gray K) = (preRows K).map bitsOf := by
 unfold preB preRows
 rw [List.map_append, List.map_map, List.map_map]
 congr 1
 ·apply List.map_congr_left
  intro r hr
  have hr := List.mem_range.1 hr
  simp only [Function.comp]
  apply Nat.eq_of_testBit_eq
  intro c
  rw [Nat.testBit_or, Nat.testBit_two_pow, ldpcB_bit, zbe, ldpcRow_eq hr, Bool.eq_iff_iff]
  simp [List.mem_filter]
  constructor
  ·rintro (h | h)
   ·exact .inr h.symm
   ·exact .inl h
  ·rintro (h | h)
   ·exact .inr h
   ·exact .inl h.symm
 ·apply List.map_congr_left
  intro h hh
  simp only [Function.comp]
  apply Nat.eq_of_testBit_eq
  intro c
  rw [Nat.testBit_or, Nat.testBit_two_pow, halfB_bit, zbe, gray_len h1 h2, Bool.eq_iff_iff]
  simp [halfRow, List.mem_filter, halfN]
  constructor
  ·rintro (h | h)
   ·exact .inr h.symm
   ·exact .inl h
  ·rintro (h | h)
   ·exact .inr h
   ·exact .inl h.symm
theorem rowsB_ok {K : Nat} (h1 : 1 ≤ K) (h2 : K ≤ 128) (s : Nat) : rowsB K s = (rowsN K s (List.range K)).map bitsOf := by
 unfold rowsB rowsN
 rw [List.map_append, List.map_map, preB_ok h1 h2]
 congr 1
 apply List.map_congr_left
 intro e _
 simp only [Function.comp]
 exact bitsOf_congr fun c => (row_perm (par h1 h2).nice s e).mem_iff
theorem full_all {K : Nat} (h1 : 1 ≤ K) (h2 : K ≤ 128) : fullK K = true := by
 by_cases c1 : K ≤ 64
 ·have := List.all_eq_true.1 full_1 (K - 1) (List.mem_range.2 (by omega))
  rwa [show K - 1 + 1 = K by omega] at this
 by_cases c2 : K ≤ 96
 ·have := List.all_eq_true.1 full_2 (K - 65) (List.mem_range.2 (by omega))
  rwa [show K - 65 + 65 = K by omega] at this
 by_cases c3 : K ≤ 112
 ·have := List.all_eq_true.1 full_3 (K - 97) (List.mem_range.2 (by omega))
  rwa [show K - 97 + 97 = K by omega] at this
 ·have := List.all_eq_true.1 full_4 (K - 113) (List.mem_range.2 (by omega))
  rwa [show K - 113 + 113 = K by omega] at this
theorem pSeed_lt (K : Nat) : pSeed K < 65536 := by
 have h : tabSeed.all (fun x => decide (x < 65536)) = true := by decide +kernel
 unfold pSeed
 rw [List.getD_eq_getElem?_getD]
 cases e : tabSeed[K - 1]? with
 | none => simp
 | some x => simpa using List.all_eq_true.1 h x (List.mem_of_getElem? e)
theorem full_pSeed {K : Nat} (h1 : 1 ≤ K) (h2 : K ≤ 128) : Full K (pSeed K) := by
 have h := fullB_ok (full_all h1 h2)
 rw [rowsB_ok h1 h2] at h
 have hl : ((rowsN K (pSeed K) (List.range K)).map bitsOf).length = pL K := by
  rw [List.length_map, rows_len, List.length_range]; unfold pL; omega
 rw [hl, List.map_map] at h
 exact h
theorem least {p : Nat → Prop} : ∀ n, p n → ∃ m, m ≤ n ∧ p m ∧ ∀ j, j < m → ¬ p j := by
 intro n
 induction n using Nat.strongRecOn with
 | ind n ih =>
  intro hn
  by_cases h : ∃ j, j < n ∧ p j
  ·obtain ⟨j, hj, hp⟩ := h
   obtain ⟨m, h1, h2, h3⟩ := ih j hj hp
   exact ⟨m, by omega, h2, h3⟩
  ·exact ⟨n, Nat.le_refl _, hn, fun j hj hp => h ⟨j, hj, hp⟩⟩
theorem zwf {K : Nat} (h : K ≤ 128) : Esis (List.range K) := ⟨by simp; omega, fun e he => by have := List.mem_range.1 he; omega⟩
theorem rank_le {K s n : Nat} {esis : List Nat} (h : IsRank (rowEqs (rowsN K s esis)) n) : n ≤ pL K :=
 h.le fun x hx => by
  obtain ⟨r, hr, rfl⟩ := List.mem_map.1 hx
  exact bitsOf_lt (rows_ok r hr).2
structure SeedIs (K s : Nat) : Prop where
 lt : s < 65536
 full : Full K s
 own : Ev (fun k => zhc.f k (K : Int)) ((s : Int), none)
 ref : Ev (fun k => zhe.f k (K : Int)) (s : Int)
theorem seed_ex {K : Nat} (h1 : 1 ≤ K) (h2 : K ≤ 128) : ∃ s, SeedIs K s := by
 obtain ⟨s, hs, hf, hl⟩ := least (p := Full K) (pSeed K) (full_pSeed h1 h2)
 have hlt : s < 65536 := by have := pSeed_lt K; omega
 have h := par h1 h2
 have hb := h.P1
 have hLP := h.nice.LP
 have hsum := h.sum
 have own : ∀ (m i : Nat), i + m = s → Ev (fun k => zhc.l0 k (K : Int) (pS K) (pH K) (pL K) (pP K) (zs (List.range K)) (i : Int)) (s : Int) := by
  intro m
  induction m with
  | zero =>
   intro i hi
   obtain ⟨n, e1, e2⟩ := system_Rank_f h1 h2 (seed := i) (by omega) (List.range K) (zwf h2)
   have hn : n = pL K := by rw [show i = s by omega] at e2; exact e2.uniq hf
   refine zqa ?_
   simp only [zhc.l0]
   refine zx (by omega) ?_
   refine zjb e1 ?_
   refine zx rfl ?_
   refine zbc (by show ¬ (n : Int) < (pL K : Int); omega) ?_
   exact zpd (by omega)
  | succ m ih =>
   intro i hi
   obtain ⟨n, e1, e2⟩ := system_Rank_f h1 h2 (seed := i) (by omega) (List.range K) (zwf h2)
   have hn : n < pL K := by
    have h3 := rank_le e2
    have h4 : n ≠ pL K := fun e => hl i (by omega) (by rw [e] at e2; exact e2)
    omega
   refine zqa ?_
   simp only [zhc.l0]
   refine zx (by omega) ?_
   refine zjb e1 ?_
   refine zx rfl ?_
   refine zx (by show (n : Int) < (pL K : Int); omega) ?_
   exact ih (i + 1) (by omega)
 have ref : ∀ (m i : Nat), i + m = s → Ev (fun k => zhe.l0 k (K : Int) (i : Int) (K : Int) (pS K) (pH K) (pL K) (pP K)) (s : Int) := by
  intro m
  induction m with
  | zero =>
   intro i hi
   obtain ⟨n, e1, e2⟩ := ref11_rank h1 h2 (seed := i) (by omega) (List.range K) (zwf h2)
   have hn : n = pL K := by rw [show i = s by omega] at e2; exact e2.uniq hf
   refine zqa ?_
   simp only [zhe.l0]
   refine zx (by omega) ?_
   refine zjb (ref11_first (by omega)) ?_
   refine zjb e1 ?_
   refine zx (by omega) ?_
   exact zpd (by omega)
  | succ m ih =>
   intro i hi
   obtain ⟨n, e1, e2⟩ := ref11_rank h1 h2 (seed := i) (by omega) (List.range K) (zwf h2)
   have hn : n < pL K := by
    have h3 := rank_le e2
    have h4 : n ≠ pL K := fun e => hl i (by omega) (by rw [e] at e2; exact e2)
    omega
   refine zqa ?_
   simp only [zhe.l0]
   refine zx (by omega) ?_
   refine zjb (ref11_first (by omega)) ?_
   refine zjb e1 ?_
   refine zbc (by omega) ?_
   rw [w64 (by omega) (by omega)]
   exact ih (i + 1) (by omega)
 refine ⟨s, hlt, hf, ?_, ?_⟩
 ·unfold zhc.f
  refine zjb h.own ?_
  refine zx rfl ?_
  refine zjb (first_f (by omega)) ?_
  exact zjb (own s 0 (by omega)) (zjd _)
 ·unfold zhe.f
  exact zjb h.ref (ref s 0 (by omega))
end Go.Proofs.YtnglindlofmknaaGreatDoor.B
end
section
set_option maxHeartbeats 8000000
set_option maxRecDepth 100000
namespace Sp
open Lin
set_option linter.unusedSimpArgs false
theorem red_from {all : List Eqn} (ht : Tri all) (v0 : Eqn) : ∀ (t pre : List Eqn) (v : Eqn), all = pre ++ t → Span all (add v0 v) → (∀ x, x ∈ pre → ∀ c, IsLead x.1 c → v.1.testBit c = false) → ∃ w, Red all v0 w
 | [], pre, v, ha, hs, hp => ⟨v, hs, fun x hx c hc => hp x (by rwa [ha, List.append_nil] at hx) c hc⟩
 | r :: t, pre, v, ha, hs, hp => by
  have hmem : r ∈ all := by rw [ha]; simp
  obtain ⟨c, hlc⟩ := lead_of_ne (ht.1 r hmem)
  have ha' : all = (pre ++ [r]) ++ t := by rw [ha]; simp
  cases hb : v.1.testBit c with
  | false =>
   refine red_from ht v0 t (pre ++ [r]) v ha' hs fun x hx d hd => ?_
   rcases List.mem_append.1 hx with hx | hx
   ·exact hp x hx d hd
   ·rw [List.mem_singleton.1 hx] at hd
    rw [hd.uniq hlc]; exact hb
  | true =>
   refine red_from ht v0 t (pre ++ [r]) (add v r) ha' ?_ fun x hx d hd => ?_
   ·rw [← add_assoc]; exact .step hs hmem
   ·show (v.1 ^^^ r.1).testBit d = false
    rw [Nat.testBit_xor]
    rcases List.mem_append.1 hx with hx | hx
    ·have h1 := hp x hx d hd
     have h2 : r.1.testBit d = false := by
      have hpw := ht.2
      rw [ha', List.pairwise_append, List.pairwise_append] at hpw
      exact hpw.1.2.2 x hx r (by simp) d hd
     rw [h1, h2]; rfl
    ·rw [List.mem_singleton.1 hx] at hd
     rw [hd.uniq hlc, hb, hlc.1]; rfl
theorem red_ex {all : List Eqn} (ht : Tri all) (v : Eqn) : ∃ w, Red all v w := red_from ht v all [] v rfl (by rw [add_self]; exact .zero) (by simp)
theorem span_sym {l : List Eqn} (h : ∀ x, x ∈ l → x.2 = 0) {v : Eqn} (hv : Span l v) : v.2 = 0 := by
 induction hv with
 | zero => rfl
 | step _ hx ih => simp only [add, ih, h _ hx, Nat.xor_self]
theorem rank_ex (rows : List Nat) : ∃ n, n ≤ rows.length ∧ IsRank (rows.map row1) n := by
 have go : ∀ (t pre : List Nat), rows = pre ++ t → (∃ n, n ≤ pre.length ∧ IsRank (pre.map row1) n) → ∃ n, n ≤ rows.length ∧ IsRank (rows.map row1) n := by
  intro t
  induction t with
  | nil => intro pre h hn; rw [h, List.append_nil]; exact hn
  | cons v t ih =>
   intro pre h hn
   obtain ⟨n, hle, l, l1, l2, l3, l4⟩ := hn
   refine ih (pre ++ [v]) (by rw [h]; simp) ?_
   obtain ⟨w, hw⟩ := red_ex l1 (row1 v)
   have mono : ∀ x, Span (pre.map row1) x → Span ((pre ++ [v]).map row1) x := fun x hx => by
    rw [List.map_append]; exact hx.mono fun y hy => List.mem_append_left _ hy
   have hz : ∀ x, x ∈ l → x.2 = 0 := fun x hx => span_sym (fun y hy => by
    obtain ⟨r, _, rfl⟩ := List.mem_map.1 hy; rfl) (l3 x hx)
   by_cases h0 : w.1 = 0
   ·refine ⟨n, by simp; omega, l, l1, l2, fun x hx => mono x (l3 x hx), fun x hx => ?_⟩
    rw [List.map_append] at hx
    rcases List.mem_append.1 hx with hx | hx
    ·exact l4 x hx
    ·have hsp := hw.span_of_zero h0
     have h2 := span_sym hz hsp
     have : x = ((row1 v).1, (row1 v).2 ^^^ w.2) := by
      have hx' : x = row1 v := by simpa using hx
      rw [hx']
      exact Prod.ext rfl h2.symm
     rw [this]; exact hsp
   ·refine ⟨n + 1, by simp; omega, l ++ [w], l1.snoc hw h0, by simp [l2], fun x hx => ?_, fun x hx => ?_⟩
    ·rcases List.mem_append.1 hx with hx | hx
     ·exact mono x (l3 x hx)
     ·rw [List.mem_singleton.1 hx]
      refine Span.of (l := l ++ [row1 v]) (fun y hy => ?_) hw.snoc_span
      rcases List.mem_append.1 hy with hy | hy
      ·exact mono y (l3 y hy)
      ·rw [List.map_append]; exact .mem (List.mem_append_right _ (by simpa using hy))
    ·rw [List.map_append] at hx
     rcases List.mem_append.1 hx with hx | hx
     ·exact (l4 x hx).mono fun y hy => List.mem_append_left _ hy
     ·have hx' : x = row1 v := by simpa using hx
      rw [hx']; exact hw.span_snoc
 exact go rows [] rfl ⟨0, by simp, [], ⟨by simp, by simp⟩, rfl, by simp, by simp⟩
theorem IsRank.congr {a b : List Eqn} {n : Nat} (h : IsRank a n) (h1 : ∀ x, x ∈ a → Span b x) (h2 : ∀ x, x ∈ b → Span a x) : IsRank b n := by
 obtain ⟨l, l1, l2, l3, l4⟩ := h
 exact ⟨l, l1, l2, fun x hx => Span.of h1 (l3 x hx), fun x hx => Span.of l4 (h2 x hx)⟩
def Indep (rows : List Nat) : Prop := IsRank (rows.map row1) rows.length
theorem Indep.not_span {pre post : List Nat} {v : Nat} (h : Indep (pre ++ v :: post)) : ¬ Span ((pre ++ post).map row1) (row1 v) := by
 intro hs
 obtain ⟨n, hn, hr⟩ := rank_ex (pre ++ post)
 have h2 : IsRank ((pre ++ v :: post).map row1) n := hr.congr (fun x hx => .mem (by
   rw [List.map_append, List.map_cons] at *
   rcases List.mem_append.1 hx with hx | hx
   ·exact List.mem_append_left _ hx
   ·exact List.mem_append_right _ (List.mem_cons_of_mem _ hx))) (fun x hx => by
   rw [List.map_append, List.map_cons] at hx
   rcases List.mem_append.1 hx with hx | hx
   ·exact .mem (by rw [List.map_append]; exact List.mem_append_left _ hx)
   ·rcases List.mem_cons.1 hx with rfl | hx
    ·exact hs
    ·exact .mem (by rw [List.map_append]; exact List.mem_append_right _ hx))
 have := h2.uniq h
 simp at hn this; omega
theorem Indep.ahead {rows : List Nat} (h : Indep rows) {i : Nat} (hi : i < rows.length) : ¬ Span ((rows.take i).map row1) (row1 rows[i]) := by
 have e : rows = rows.take i ++ rows[i] :: rows.drop (i + 1) := by
  rw [← List.drop_eq_getElem_cons hi, List.take_append_drop]
 rw [e] at h
 intro hs
 exact h.not_span (hs.mono fun x hx => by rw [List.map_append]; exact List.mem_append_left _ hx)
theorem span_rows {l : List Eqn} {v : Eqn} (h : Span l v) : Span (l.map fun x => row1 x.1) (row1 v.1) := by
 induction h with
 | zero => exact .zero
 | step _ hx ih =>
  have := Span.step ih (List.mem_map.2 ⟨_, hx, rfl⟩)
  simpa [add, row1] using this
theorem span_dot {l : List Eqn} {m : Nat → Nat} : ∀ (n r : Nat), (∀ c, c < n → Span l (2 ^ c, m c)) → r < 2 ^ n → Span l (r, dot r m n)
 | 0, r, _, hr => by
  have : r = 0 := by simpa using hr
  subst this; exact .zero
 | n + 1, r, h, hr => by
  by_cases hb : r.testBit n = true
  ·have hlt : r ^^^ 2 ^ n < 2 ^ n := by
    apply Nat.lt_pow_two_of_testBit
    intro i hi
    rw [Nat.testBit_xor, Nat.testBit_two_pow]
    by_cases e : n = i
    ·subst e; simp [hb]
    ·have : r.testBit i = false := Nat.testBit_lt_two_pow (Nat.lt_of_lt_of_le hr (Nat.pow_le_pow_right (by decide) (by omega)))
     simp [this, e]
   have h1 := span_dot n (r ^^^ 2 ^ n) (fun c hc => h c (by omega)) hlt
   have h2 := h1.add (h n (by omega))
   have e1 : (r ^^^ 2 ^ n) ^^^ 2 ^ n = r := xor_self_cancel _ _
   have e2 : dot r m (n + 1) = dot (r ^^^ 2 ^ n) m n ^^^ m n := by
    simp only [dot, hb, if_true]
    rw [dot_xor]
    have : dot (2 ^ n) m n = 0 := by
     have aux : ∀ k, k ≤ n → dot (2 ^ n) m k = 0 := by
      intro k
      induction k with
      | zero => intro _; rfl
      | succ k ih =>
       intro hk
       simp only [dot]
       rw [if_neg (by rw [Nat.testBit_two_pow]; simp; omega), ih (by omega)]
     exact aux n (Nat.le_refl _)
    rw [this, Nat.xor_zero]
   rw [e2]
   simp only [add, e1] at h2
   exact h2
  ·have hlt : r < 2 ^ n := by
    apply Nat.lt_pow_two_of_testBit
    intro i hi
    by_cases e : i = n
    ·rw [e]; simpa using hb
    ·exact Nat.testBit_lt_two_pow (Nat.lt_of_lt_of_le hr (Nat.pow_le_pow_right (by decide) (by omega)))
   have : dot r m (n + 1) = dot r m n := by simp only [dot]; rw [if_neg hb]
   rw [this]
   exact span_dot n r (fun c hc => h c (by omega)) hlt
theorem ech_one {l : List Eqn} (h : Ech l) {r a b : Nat} (ha : Span l (r, a)) (hb : Span l (r, b)) : a = b := by
 have := ha.add hb
 have h2 := (h.span this).1 (by simp [add])
 exact xor_eq_zero_iff'.1 h2
theorem dot_bits : ∀ (l : List Nat) (m : Nat → Nat) (n : Nat), l.Nodup → (∀ x, x ∈ l → x < n) → dot (bitsOf l) m n = l.foldr (fun c a => m c ^^^ a) 0
 | [], m, n, _, _ => dot_zero m n
 | x :: l, m, n, hn, hb => by
  have hx := (List.nodup_cons.1 hn)
  have e : bitsOf (x :: l) = 2 ^ x ^^^ bitsOf l := by
   apply Nat.eq_of_testBit_eq
   intro i
   have e0 : bitsOf (x :: l) = 2 ^ x ||| bitsOf l := rfl
   rw [e0, Nat.testBit_or, Nat.testBit_xor, zbe, Nat.testBit_two_pow]
   by_cases h : x = i
   ·subst h; simp [hx.1]
   ·simp [h]
  rw [e, dot_xor, dot_one x m n (hb x (List.mem_cons_self ..)), dot_bits l m n hx.2 fun y hy => hb y (List.mem_cons_of_mem _ hy)]
  rfl
end Sp
end
section
set_option maxHeartbeats 8000000
set_option maxRecDepth 100000
namespace Go.Proofs.YtnglindlofmknaaGreatDoor.B
open Go.RowKit Go.Proofs.YW.PrintWords Go.Proofs.YW.PrintLast Go.Proofs.YW.PrintMore
open Sp Lin
set_option linter.unusedVariables false
set_option linter.unusedSimpArgs false
set_option maxRecDepth 100000
theorem eqns_lt {n size : Nat} {kept : List EQ2} {at_ : List Int} (hk : Keep n size kept at_) : ∀ x, x ∈ eqns kept → x.1 < 2 ^ n := fun x hx => by
 obtain ⟨e, he, rfl⟩ := List.mem_map.1 hx
 exact (hk.ok e he).lt
theorem value_f {n size : Nat} (hn : n ≤ 1000) (hs1 : 1 ≤ size) (hs2 : size ≤ 64) {kept : List EQ2} {at_ : List Int} (hk : Keep n size kept at_) (hfull : kept.length = n) {c : Nat} (hc : c < n) :
  ∃ s : List Int, Ev (fun k => zze.f k (n : Int) size kept at_ (c : Int)) s ∧ s.length = size ∧ Wf 8 s ∧ Span (eqns kept) (2 ^ c, val 8 s) := by
 have hb : ∀ x, x ∈ [c] → x < n := fun x hx => by rw [List.mem_singleton.1 hx]; exact hc
 have he : EqOk n size (pk n [c], List.replicate size 0) := pk_ok hb (by simp) (Wf.zeros _ _)
 have hv : val 64 (pk n [c]) = 2 ^ c := by rw [pk_val hb]; simp [bitsOf]
 have heq : eqn (pk n [c], List.replicate size 0) = (2 ^ c, 0) := by unfold eqn; rw [hv, val_zeros]
 obtain ⟨e', f, h1, h2, h3, h4⟩ := down_f (by omega) hs2 hk he
 have h0 : (eqn e').1 = 0 := h3.zero_of_full hk.tri.ech (eqns_lt hk) (by simp [eqns, hfull]) h2.lt
 have hf : f = -1 := by
  rcases h4 with ⟨h, _⟩ | ⟨m, _, hm⟩
  ·exact h
  ·exact absurd h0 hm.ne
 subst hf
 refine ⟨e'.2, ?_, h2.l2, h2.w2, ?_⟩
 ·unfold zze.f
  refine zx ⟨by omega, by omega, by omega, by omega⟩ ?_
  have hp := pack_f (L := n) hn (l := [c]) (by simp) hb
  refine zjb (g := fun k => zyb.f k [(c : Int)] (n : Int)) hp ?_
  rw [Int.toNat_natCast]
  refine zjb h1 ?_
  refine zbc (by show ¬ (0 : Int) ≤ -1; decide) ?_
  refine zx h2.l2 ?_
  exact zjd _
 ·have := h3.span_of_zero h0
  rw [heq] at this
  simpa [eqn] using this
structure Solved (n size : Nat) (kept : List EQ2) (mid : List (List Int)) : Prop where
 len : mid.length = n
 syms : Syms size mid
 val : ∀ c, c < n → Span (eqns kept) (2 ^ c, val 8 (mid.getD c []))
theorem all_f {n size : Nat} (hn : n ≤ 1000) (hs1 : 1 ≤ size) (hs2 : size ≤ 64) {kept : List EQ2} {at_ : List Int} (hk : Keep n size kept at_) (hfull : kept.length = n) :
  ∃ mid, Ev (fun k => zef.f k (n : Int) size kept at_) mid ∧ Solved n size kept mid := by
 have go : ∀ (m i : Nat) (out : List (List Int)), i + m = n → out.length = i → Syms size out → (∀ c, c < i → Span (eqns kept) (2 ^ c, val 8 (out.getD c []))) → ∃ mid, Ev (fun k => zef.l0 k (n : Int) size kept at_ (i : Int) out) mid ∧ Solved n size kept mid := by
  intro m
  induction m with
  | zero =>
   intro i out hi hl hs hv
   refine ⟨out, ?_, by omega, hs, fun c hc => hv c (by omega)⟩
   refine zqa ?_
   simp only [zef.l0]
   refine zbc (by omega) ?_
   exact zjd _
  | succ m ih =>
   intro i out hi hl hs hv
   obtain ⟨s, e1, e2, e3, e4⟩ := value_f hn hs1 hs2 hk hfull (c := i) (by omega)
   obtain ⟨mid, h1, h2⟩ := ih (i + 1) (out ++ [s]) (by omega) (by simp; omega) (fun x hx => by
    rcases List.mem_append.1 hx with hx | hx
    ·exact hs x hx
    ·rw [List.mem_singleton.1 hx]; exact ⟨e2, e3⟩) (fun c hc => by
    by_cases e : c = i
    ·subst e
     rw [List.getD_eq_getElem?_getD, List.getElem?_append_right (by omega), hl, Nat.sub_self]
     exact e4
    ·rw [List.getD_eq_getElem?_getD, List.getElem?_append_left (by omega), ← List.getD_eq_getElem?_getD]
     exact hv c (by omega))
   refine ⟨mid, ?_, h2⟩
   refine zqa ?_
   simp only [zef.l0]
   refine zx (by omega) ?_
   refine zx (by omega) ?_
   refine zjb e1 ?_
   refine zx (by omega) ?_
   exact h1
 exact go n 0 [] (by omega) rfl (fun x hx => by simp at hx) (fun c hc => by omega)
def mv (mid : List (List Int)) (c : Nat) : Nat := val 8 (mid.getD c [])
theorem Solved.sums {n size : Nat} {kept : List EQ2} {at_ : List Int} (hk : Keep n size kept at_) {mid : List (List Int)} (h : Solved n size kept mid) {e : Eqn} (he : Span (eqns kept) e) (hlt : e.1 < 2 ^ n) : dot e.1 (mv mid) n = e.2 :=
 ech_one hk.tri.ech (span_dot n e.1 h.val hlt) he
def pEqn (r : List Nat) (s : List Int) : Eqn := (bitsOf r, val 8 s)
theorem sym_wf {size : Nat} {src : List (List Int)} (hs : Syms size src) (S H : Nat) (i : Nat) (hi : i < S + H + src.length) : (zld src S H size i).length = size ∧ Wf 8 (zld src S H size i) := by
 unfold zld
 split
 ·have hlt : ((i : Int) - S - H).toNat < src.length := by omega
  rw [List.getD_eq_getElem?_getD, List.getElem?_eq_getElem hlt]
  exact hs _ (List.getElem_mem _)
 ·rw [Int.toNat_natCast]; exact ⟨by simp, Wf.zeros _ _⟩
def midEqs (rows : List (List Nat)) (src : List (List Int)) (S H size : Nat) : List Eqn := (List.range rows.length).map fun (i : Nat) => pEqn (rows.getD i []) (zld src S H size i)
theorem indep_of {rows : List (List Nat)} {L : Nat} (h : IsRank (rowEqs rows) L) (hl : rows.length = L) : Indep (rows.map bitsOf) := by
 unfold Indep
 rw [List.map_map, List.length_map, hl]; exact h
theorem span_take {rows : List (List Nat)} {src : List (List Int)} {S H size : Nat} {kept : List EQ2} {i : Nat} (hi : i < rows.length)
  (hs : Spans kept ((midEqs rows src S H size).take i)) {r : Nat} {s : Nat} (h : Span (eqns kept) (r, s)) : Span (((rows.map bitsOf).take i).map row1) (row1 r) := by
 have h1 := span_rows (Span.of hs.down h)
 refine h1.mono fun x hx => ?_
 obtain ⟨y, hy, rfl⟩ := List.mem_map.1 hx
 unfold midEqs at hy
 rw [← List.map_take, List.take_range] at hy
 obtain ⟨j, hj, rfl⟩ := List.mem_map.1 hy
 have hj := List.mem_range.1 hj
 refine List.mem_map.2 ⟨bitsOf (rows.getD j []), ?_, rfl⟩
 rw [← List.map_take]
 refine List.mem_map.2 ⟨rows.getD j [], ?_, rfl⟩
 have hjl : j < rows.length := by omega
 rw [(getD_mem hjl).1]
 exact List.mem_take_iff_getElem.2 ⟨j, by omega, rfl⟩
theorem middle_l0 {L S H size : Nat} (hL : L ≤ 1000) (h1 : 1 ≤ L) (hs2 : size ≤ 64) (rows : List (List Nat)) (hr : rows.length ≤ 1000) (hok : ∀ r, r ∈ rows → ∀ x, x ∈ r → x < L) (hin : Indep (rows.map bitsOf)) (src : List (List Int)) (hsrc : Syms size src) (hlen : rows.length ≤ S + H + src.length) : ∀ (m i : Nat) (kept : List EQ2) (at_ : List Int), i + m = rows.length → Keep L size kept at_ → kept.length = i → Spans kept ((midEqs rows src S H size).take i) →
  ∃ (kept' : List EQ2) (at' : List Int), Ev (fun k => zqb.l0 k (L : Int) S H size (pks L rows) src (i : Int) kept at_) (kept', at') ∧ Keep L size kept' at' ∧ kept'.length = rows.length ∧ Spans kept' (midEqs rows src S H size) := by
 intro m
 induction m with
 | zero =>
  intro i kept at_ hi hk hl hs
  refine ⟨kept, at_, ?_, hk, by omega, by rwa [List.take_of_length_le (by unfold midEqs; simp; omega)] at hs⟩
  refine zqa ?_
  simp only [zqb.l0]
  refine zbc (by unfold pks; rw [List.length_map]; omega) ?_
  exact zjd _
 | succ m ih =>
  intro i kept at_ hi hk hl hs
  have hil : i < rows.length := by omega
  have hb := hok _ (List.getElem_mem hil)
  obtain ⟨q1, q2⟩ := sym_wf hsrc S H i (by omega)
  have he : EqOk L size (pk L rows[i], zld src S H size i) := pk_ok hb q1 q2
  have heq : eqn (pk L rows[i], zld src S H size i) = pEqn (rows.getD i []) (zld src S H size i) := by
   unfold eqn pEqn; rw [pk_val hb, (getD_mem hil).1]
  have hnot := hin.ahead (i := i) (by simpa using hil)
  rw [List.getElem_map] at hnot
  obtain ⟨q, kept', at', cl, ha, hc⟩ := add_f (by omega) hs2 hk he
  have hb1 : (eqn (pk L rows[i], zld src S H size i)).1 = bitsOf rows[i] := by rw [heq]; unfold pEqn; rw [(getD_mem hil).1]
  have hfr : cl = false ∧ kept'.length = i + 1 := by
   cases hc with
   | fresh e' _ _ _ _ _ => exact ⟨rfl, by simp [hl]⟩
   | known h =>
    have := span_take hil hs (r := (eqn (pk L rows[i], zld src S H size i)).1) (s := (eqn (pk L rows[i], zld src S H size i)).2) h
    rw [hb1] at this
    exact absurd this hnot
   | clash s h _ =>
    have := span_take hil hs h
    rw [hb1] at this
    exact absurd this hnot
  obtain ⟨hcl, hl'⟩ := hfr
  subst hcl
  have hs' := hc.spans hs
  have htk : (midEqs rows src S H size).take (i + 1) = (midEqs rows src S H size).take i ++ [pEqn (rows.getD i []) (zld src S H size i)] := by
   have hlen2 : i < (midEqs rows src S H size).length := by unfold midEqs; simpa using hil
   rw [List.take_succ_eq_append_getElem hlen2]
   congr 1
   unfold midEqs
   simp
  rw [heq, ← htk] at hs'
  obtain ⟨kf, af, h5, h6, h7, h8⟩ := ih (i + 1) kept' at' (by omega) (hc.keep hk) hl' hs'
  refine ⟨kf, af, ?_, h6, h7, h8⟩
  refine zqa ?_
  simp only [zqb.l0]
  refine zx (by unfold pks; rw [List.length_map]; omega) ?_
  rw [Int.toNat_natCast, pks_get rows hil]
  refine zx ⟨fits_pk hL h1 hb, by omega, by rw [q1]⟩ ?_
  refine zjb ha ?_
  refine zx rfl ?_
  exact h5
structure MidOk (K s size : Nat) (src mid : List (List Int)) : Prop where
 len : mid.length = pL K
 syms : Syms size mid
 sums : ∀ i (h : i < (rowsN K s (List.range K)).length), dot (bitsOf (rowsN K s (List.range K))[i]) (mv mid) (pL K) = val 8 (zld src (pS K) (pH K) size i)
theorem middle_f {K s size : Nat} (h1 : 1 ≤ K) (h2 : K ≤ 128) (hs : s < 65536) (hf : Full K s) (hz1 : 1 ≤ size) (hz2 : size ≤ 64) {src : List (List Int)} (hl : src.length = K) (hsrc : Syms size src) :
  ∃ mid, Ev (fun k => zqb.f k (K : Int) (pS K) (pH K) (pL K) (pP K) s src size) (mid, none) ∧ MidOk K s size src mid := by
 have h := par h1 h2
 have hb := h.P1
 have hLP := h.nice.LP
 have hL0 := h.nice.L0
 have hsum := h.sum
 have hrl := rows_len K s (List.range K)
 rw [List.length_range] at hrl
 have hin := indep_of hf (by omega)
 obtain ⟨kept, at_, m1, m2, m3, m4⟩ := middle_l0 (L := pL K) (S := pS K) (H := pH K) (by omega) (by omega) hz2 (rowsN K s (List.range K)) (by omega) (fun r hr => (rows_ok r hr).2) hin src hsrc (by omega) (rowsN K s (List.range K)).length 0 [] (List.replicate (pL K) (-1)) (by omega) (keep_new _ _) rfl ⟨by simp [eqns], by simp⟩
 obtain ⟨mid, a1, a2⟩ := all_f (by omega) hz1 hz2 m2 (by omega)
 refine ⟨mid, ?_, a2.len, a2.syms, fun i hi => ?_⟩
 ·unfold zqb.f
  refine zx ⟨by omega, by omega, by omega, by omega, by omega, by omega, by omega, by omega, by omega, by omega⟩ ?_
  refine zjb (first_f (by omega)) ?_
  refine zjb (system_Rows_f h1 h2 hs (List.range K) (zwf h2)) ?_
  refine zx rfl ?_
  rw [Int.toNat_natCast]
  refine zjb m1 ?_
  refine zx (by show (kept.length : Int) = (pL K : Int); omega) ?_
  exact zjb a1 (zjd _)
 ·have hmem : pEqn (rowsN K s (List.range K))[i] (zld src (pS K) (pH K) size i) ∈ midEqs (rowsN K s (List.range K)) src (pS K) (pH K) size := by
   unfold midEqs
   exact List.mem_map.2 ⟨i, List.mem_range.2 hi, by rw [(getD_mem hi).1]⟩
  exact a2.sums m2 (m4.up _ hmem) (bitsOf_lt (rows_ok _ (List.getElem_mem hi)).2)
theorem ref04_add {a b : List Int} (ha : Wf 8 a) (hb : Wf 8 b) (hl : a.length = b.length) (hn : a.length ≤ 100000) : Ev (fun k => zpb.f k a b) (xorL a b) := by
 have go : ∀ (m i : Nat), i + m = a.length → Ev (fun k => zpb.l0 k a b ((xorL a b).take i ++ (List.replicate a.length 0).drop i) (i : Int)) (xorL a b) := by
  intro m
  induction m with
  | zero =>
   intro i hi
   refine zqa ?_
   simp only [zpb.l0]
   refine zbc (by omega) ?_
   refine zpd ?_
   rw [List.take_of_length_le (by rw [zce hl]; omega), List.drop_eq_nil_of_le (by simp; omega), List.append_nil]
  | succ m ih =>
   intro i hi
   refine zqa ?_
   simp only [zpb.l0]
   refine zx (by omega) ?_
   refine zx (by omega) ?_
   refine zx (by omega) ?_
   refine zx (by rw [List.length_append, List.length_take, List.length_drop, zce hl, List.length_replicate]; omega) ?_
   rw [zdf, zdf, Int.toNat_natCast, bits_xor_u8 (ha.getD i) (hb.getD i), ← xorL_getD hl, set_part (by rw [zce hl]; simp) (by rw [zce hl]; omega), w64 (by omega) (by omega)]
   exact ih (i + 1) (by omega)
 unfold zpb.f
 refine zx (by omega) ?_
 rw [Int.toNat_natCast]
 refine zx (by omega) ?_
 exact go a.length 0 (by omega)
theorem rdL5 {ls : List (List Int)} {i : Nat} (h : i < ls.length) : rd_L5 ls (i : Int) = ls[i] := by
 unfold rd_L5; rw [Int.toNat_natCast, List.getD_eq_getElem?_getD, List.getElem?_eq_getElem h]; rfl
theorem ref04_sum {n : Nat} (hn : n ≤ 100000) {ls : List (List Int)} (hls : Syms n ls) (hll : ls.length ≤ 100000) : Ev (fun k => znc.f k ls (n : Int)) (ls.foldl xorL (List.replicate n 0)) := by
 have go : ∀ (m i : Nat) (a : List Int), i + m = ls.length → a.length = n → Wf 8 a → Ev (fun k => znc.l0 k ls a (i : Int)) ((ls.drop i).foldl xorL a) := by
  intro m
  induction m with
  | zero =>
   intro i a hi ha hw
   refine zqa ?_
   simp only [znc.l0]
   refine zbc (by omega) ?_
   rw [List.drop_eq_nil_of_le (by omega)]
   exact zjd _
  | succ m ih =>
   intro i a hi ha hw
   have hil : i < ls.length := by omega
   obtain ⟨h1, h2⟩ := hls _ (List.getElem_mem hil)
   have hlen : a.length = ls[i].length := by rw [ha, h1]
   refine zqa ?_
   simp only [znc.l0]
   refine zx (by omega) ?_
   refine zx (by omega) ?_
   rw [rdL5 hil, List.drop_eq_getElem_cons hil, List.foldl_cons]
   refine zjb (ref04_add hw h2 hlen (by omega)) ?_
   rw [w64 (by omega) (by omega)]
   exact ih (i + 1) _ (by omega) (by rw [zce hlen, ha]) (xorL_wf hw h2)
 unfold znc.f
 refine zx (by omega) ?_
 rw [Int.toNat_natCast]
 refine zx (by omega) ?_
 exact go ls.length 0 _ (by omega) (by simp) (Wf.zeros _ _)
def picked (r : List Nat) (mid : List (List Int)) : List (List Int) := r.map fun c => mid.getD c []
theorem ref04_picked {r : List Nat} {mid : List (List Int)} (hr : r.length ≤ 100000) (hm : mid.length ≤ 100000) (hb : ∀ x, x ∈ r → x < mid.length) : Ev (fun k => zcc.f k (zs r) mid) (picked r mid) := by
 have go : ∀ (m i : Nat), i + m = r.length → Ev (fun k => zcc.l0 k (zs r) mid (picked (r.take i) mid) (i : Int)) (picked r mid) := by
  intro m
  induction m with
  | zero =>
   intro i hi
   refine zqa ?_
   simp only [zcc.l0]
   refine zbc (by rw [zcf]; omega) ?_
   refine zpd ?_
   rw [List.take_of_length_le (by omega)]
  | succ m ih =>
   intro i hi
   have hil : i < r.length := by omega
   have hx : r.getD i 0 = r[i] := by rw [List.getD_eq_getElem?_getD, List.getElem?_eq_getElem hil]; rfl
   have hlt := hb _ (List.getElem_mem hil)
   refine zqa ?_
   simp only [zcc.l0]
   rw [zdf, zs_getD, hx]
   refine zx (by rw [zcf]; omega) ?_
   refine zx (by omega) ?_
   refine zx (by omega) ?_
   refine zx (by omega) ?_
   refine zx (by unfold picked; rw [List.length_map, List.length_take]; omega) ?_
   rw [w64 (by omega) (by omega)]
   have := ih (i + 1) (by omega)
   rw [List.take_succ_eq_append_getElem hil] at this
   have e : picked (r.take i ++ [r[i]]) mid = picked (r.take i) mid ++ [rd_L5 mid (r[i] : Int)] := by
    unfold picked rd_L5; rw [List.map_append, Int.toNat_natCast]; rfl
   rw [e] at this
   exact this
 exact go r.length 0 (by omega)
theorem picked_syms {size : Nat} {mid : List (List Int)} (hm : Syms size mid) {r : List Nat} (hb : ∀ x, x ∈ r → x < mid.length) : Syms size (picked r mid) := fun s hs => by
 obtain ⟨c, hc, rfl⟩ := List.mem_map.1 hs
 have hlt := hb c hc
 rw [List.getD_eq_getElem?_getD, List.getElem?_eq_getElem hlt]
 exact hm _ (List.getElem_mem hlt)
theorem fold_val {size : Nat} : ∀ (ls : List (List Int)) (a : List Int), Syms size ls → a.length = size → Wf 8 a →
  (ls.foldl xorL a).length = size ∧ Wf 8 (ls.foldl xorL a) ∧ val 8 (ls.foldl xorL a) = val 8 a ^^^ ls.foldr (fun s t => val 8 s ^^^ t) 0
 | [], a, _, h1, h2 => ⟨h1, h2, by simp⟩
 | s :: ls, a, hs, h1, h2 => by
  obtain ⟨s1, s2⟩ := hs s (List.mem_cons_self ..)
  have hl : a.length = s.length := by rw [h1, s1]
  obtain ⟨q1, q2, q3⟩ := fold_val ls (xorL a s) (fun x hx => hs x (List.mem_cons_of_mem _ hx)) (by rw [zce hl, h1]) (xorL_wf h2 s2)
  refine ⟨q1, q2, ?_⟩
  rw [List.foldl_cons, q3, val_xorL (by decide) h2 s2 hl, List.foldr_cons, Nat.xor_assoc]
def rowSum (size : Nat) (r : List Nat) (mid : List (List Int)) : List Int := (picked r mid).foldl xorL (List.replicate size 0)
theorem rowSum_ok {size n : Nat} {mid : List (List Int)} (hm : Syms size mid) {r : List Nat} (hn : r.Pairwise (· < ·)) (hb : ∀ x, x ∈ r → x < mid.length) : (rowSum size r mid).length = size ∧ Wf 8 (rowSum size r mid) ∧ val 8 (rowSum size r mid) = dot (bitsOf r) (mv mid) mid.length := by
 obtain ⟨q1, q2, q3⟩ := fold_val (picked r mid) (List.replicate size 0) (picked_syms hm hb) (by simp) (Wf.zeros _ _)
 refine ⟨q1, q2, ?_⟩
 unfold rowSum
 rw [q3, val_zeros, Nat.zero_xor, dot_bits r (mv mid) mid.length (hn.imp fun {a b} h => Nat.ne_of_lt h) hb]
 unfold picked
 rw [List.foldr_map]; rfl
theorem ref11_sum {size : Nat} (hz : size ≤ 64) {mid : List (List Int)} (hml : mid.length ≤ 1000) (hm : Syms size mid) {r : List Nat} (hr : r.length ≤ 1000) (hb : ∀ x, x ∈ r → x < mid.length) : Ev (fun k => zqd.f k (zs r) mid (size : Int)) (rowSum size r mid) := by
 unfold zqd.f
 refine zjb (ref04_picked (by omega) (by omega) hb) ?_
 refine zjb (ref04_sum (by omega) (picked_syms hm hb) (by unfold picked; rw [List.length_map]; omega)) ?_
 exact zjd _
theorem ref04_check {size : Nat} (h1 : 1 ≤ size) (h2 : size ≤ 64) {ls : List (List Int)} (hs : Syms size ls) (hl : ls.length ≤ 100000) : Ev (fun k => zhb.f k ls (size : Int)) 0 := by
 have go : ∀ (m i : Nat), i + m = ls.length → Ev (fun k => zhb.l0 k ls (size : Int) (i : Int)) 0 := by
  intro m
  induction m with
  | zero =>
   intro i hi
   refine zqa ?_
   simp only [zhb.l0]
   refine zbc (by omega) ?_
   exact zjd _
  | succ m ih =>
   intro i hi
   have hil : i < ls.length := by omega
   refine zqa ?_
   simp only [zhb.l0]
   refine zx (by omega) ?_
   refine zx (by omega) ?_
   refine zx (by rw [rdL5 hil, (hs _ (List.getElem_mem hil)).1]) ?_
   rw [w64 (by omega) (by omega)]
   exact ih (i + 1) (by omega)
 unfold zhb.f
 refine zbc (by omega) ?_
 refine zqa ?_
 simp only [zhb.j0]
 refine zbc (by simp; omega) ?_
 exact go ls.length 0 (by omega)
theorem rdL2 {ls : List (List Nat)} {i : Nat} (h : i < ls.length) : rd_L2 (zss ls) (i : Int) = zs ls[i] := by
 unfold rd_L2; rw [Int.toNat_natCast, zss_get, (getD_mem h).1]
theorem row_len {r : List Nat} {L : Nat} (hp : r.Pairwise (· < ·)) (hb : ∀ x, x ∈ r → x < L) : r.length ≤ L := by
 have := zte (m := List.range L) (hp.imp fun {a b} h => Nat.ne_of_lt h) fun x hx => List.mem_range.2 (hb x hx)
 simpa using this
theorem ref11_holds {K s size : Nat} (h1 : 1 ≤ K) (h2 : K ≤ 128) (hs : s < 65536) (hz1 : 1 ≤ size) (hz2 : size ≤ 64) {src mid : List (List Int)} (hl : src.length = K) (hsrc : Syms size src) (hm : MidOk K s size src mid) :
  Ev (fun k => zr.f k (K : Int) (pS K) (pH K) (pL K) (pP K) s src size mid) true := by
 have h := par h1 h2
 have hb := h.P1
 have hLP := h.nice.LP
 have hsum := h.sum
 have hrl := rows_len K s (List.range K)
 rw [List.length_range] at hrl
 have hml := hm.len
 have go : ∀ (m i : Nat), i + m = (rowsN K s (List.range K)).length → Ev (fun k => zr.l0 k src (size : Int) mid (zss (rowsN K s (List.range K))) (i : Int) (K : Int) (pS K) (pH K) (pL K) (pP K)) true := by
  intro m
  induction m with
  | zero =>
   intro i hi
   refine zqa ?_
   simp only [zr.l0]
   refine zbc (by rw [zss_len]; omega) ?_
   exact zjd _
  | succ m ih =>
   intro i hi
   have hil : i < (rowsN K s (List.range K)).length := by omega
   have hok := rows_ok _ (List.getElem_mem hil)
   have hbm : ∀ x, x ∈ (rowsN K s (List.range K))[i] → x < mid.length := fun x hx => by rw [hml]; exact hok.2 x hx
   have hrow := row_len hok.1 hok.2
   obtain ⟨r1, r2, r3⟩ := rowSum_ok (n := 0) hm.syms hok.1 hbm
   have hsum2 := hm.sums i hil
   obtain ⟨q1, q2⟩ := sym_wf hsrc (pS K) (pH K) i (by omega)
   have heq : rowSum size (rowsN K s (List.range K))[i] mid = zld src (pS K) (pH K) size i := val_inj r2 q2 (by rw [r1, q1]) (by rw [r3, hml]; exact hsum2)
   have hev := ref11_sum hz2 (by omega) hm.syms (r := (rowsN K s (List.range K))[i]) (by omega) hbm
   rw [heq] at hev
   refine zqa ?_
   simp only [zr.l0]
   refine zx (by rw [zss_len]; omega) ?_
   refine zx (by omega) ?_
   refine zx (by rw [Int.toNat_natCast]; omega) ?_
   rw [w64 (x := (pS K : Int) + pH K) (by omega) (by omega), w64 (x := (i : Int) - pS K) (by omega) (by omega), w64 (x := (i : Int) - pS K - pH K) (by omega) (by omega), w64 (x := (i : Int) + 1) (by omega) (by omega), rdL2 hil]
   by_cases hc : pS K + pH K ≤ i
   ·refine zx (by omega) ?_
    refine zx (by omega) ?_
    refine zx (by omega) ?_
    refine zx (by omega) ?_
    refine zjb hev ?_
    refine zx ?_ ?_
    ·unfold zld
     rw [if_pos (by omega)]
     rfl
    ·exact ih (i + 1) (by omega)
   ·refine zbc (by omega) ?_
    refine zx (by omega) ?_
    refine zjb hev ?_
    refine zx ?_ ?_
    ·unfold zld
     rw [if_neg (by omega)]
    ·exact ih (i + 1) (by omega)
 unfold zr.f
 refine zx (by omega) ?_
 refine zjb (ref04_check hz1 hz2 hm.syms (by omega)) ?_
 refine zqa ?_
 simp only [zr.j0]
 refine zbc (by decide) ?_
 refine zjb (ref11_first (by omega)) ?_
 refine zjb (ref11_places h1 h2 hs (List.range K) (zwf h2)) ?_
 exact go (rowsN K s (List.range K)).length 0 (by omega)
theorem rank_own {K s : Nat} (h1 : 1 ≤ K) (h2 : K ≤ 128) (h : SeedIs K s) : Ev (fun k => zyc.f k (K : Int) (pS K) (pH K) (pL K) (pP K) s (zs (List.range K))) ((pL K : Int), none) := by
 obtain ⟨n, e1, e2⟩ := system_Rank_f h1 h2 h.lt (List.range K) (zwf h2)
 rw [e2.uniq h.full] at e1; exact e1
theorem rank_ref {K s : Nat} (h1 : 1 ≤ K) (h2 : K ≤ 128) (h : SeedIs K s) : Ev (fun k => zdb.f k (K : Int) (pS K) (pH K) (pL K) (pP K) s (zs (List.range K))) (pL K : Int) := by
 obtain ⟨n, e1, e2⟩ := ref11_rank h1 h2 h.lt (List.range K) (zwf h2)
 rw [e2.uniq h.full] at e1; exact e1
theorem awake11 : Ev (fun k => ztd.f k) true := by
 obtain ⟨s, hs⟩ := seed_ex (K := 1) (by decide) (by decide)
 have hp := par (K := 1) (by decide) (by decide)
 have hsy : Syms 1 [[(1 : Int)]] := fun x hx => by rw [List.mem_singleton.1 hx]; exact ⟨rfl, Wf.cons (by decide) (Wf.nil 8)⟩
 obtain ⟨mid, m1, m2⟩ := middle_f (K := 1) (by decide) (by decide) hs.lt hs.full (size := 1) (by decide) (by decide) (src := [[1]]) rfl hsy
 have hh := ref11_holds (K := 1) (by decide) (by decide) hs.lt (size := 1) (by decide) (by decide) (src := [[1]]) rfl hsy m2
 unfold ztd.f
 refine zjb hp.ref ?_
 refine zjb hs.own ?_
 refine zjb (rank_own (K := 1) (by decide) (by decide) hs) ?_
 refine zjb m1 ?_
 refine zx rfl ?_
 refine zx rfl ?_
 refine zx rfl ?_
 refine zx (by show ((pL 1 : Nat) : Int) = 8; decide) ?_
 exact zjb hh (zjd _)
theorem pure_SystemAll : zt.Pure := by
 intro a0 ha
 apply Ev_at
 have hu := IntKind.wrap_u64 a0
 have h0 : 0 ≤ IntKind.u64.wrap a0 := by rw [hu]; exact Int.emod_nonneg _ (by decide)
 have hK : ∃ K : Nat, wrap64 (1 + (wrap64 (Int.tmod (IntKind.u64.wrap a0) 128))) = (K : Int) ∧ 1 ≤ K ∧ K ≤ 128 := by
  rw [tmodE h0]
  generalize IntKind.u64.wrap a0 = u at h0
  rw [w64 (x := u % 128) (by omega) (by omega), w64 (by omega) (by omega)]
  exact ⟨(1 + u % 128).toNat, by omega, by omega, by omega⟩
 obtain ⟨K, hK, h1, h2⟩ := hK
 obtain ⟨s, hs⟩ := seed_ex h1 h2
 have hp := par h1 h2
 have hlt := hs.lt
 unfold zt.f
 rw [hK]
 refine zjb hp.ref ?_
 refine zjb hs.own ?_
 refine zx rfl ?_
 refine zbc (by show ¬ (s : Int) < 0; omega) ?_
 refine zqa ?_
 simp only [zt.j0]
 refine zbc (by simp; omega) ?_
 refine zjb (ref11_first (by omega)) ?_
 refine zjb (rank_ref h1 h2 hs) ?_
 refine zx rfl ?_
 exact zjb awake11 (zjd _)
end Go.Proofs.YtnglindlofmknaaGreatDoor.B
end
section
set_option maxHeartbeats 8000000
set_option maxRecDepth 100000
namespace Go.Proofs.YtnglindlofmknaaGreatDoor
theorem systemAll_holds : Rows.SystemAllCardSaid := systemAll.card B.pure_SystemAll
end Go.Proofs.YtnglindlofmknaaGreatDoor
end
