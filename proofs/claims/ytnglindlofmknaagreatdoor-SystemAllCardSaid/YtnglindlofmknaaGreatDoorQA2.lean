import Derived.IntWalk
import Derived.Shelf.Sort.Plain
import Derived.Sort.OwnSortedInts
import Derived.Test.YtnglindlofmknaaGreatDoorProg
import Derived.WalkLawsBesides
import Derived.WalkSpells
import Derived.Test.YtnglindlofmknaaGreatDoorQA1
section
set_option maxHeartbeats 8000000
set_option maxRecDepth 100000
namespace Go.Proofs.YtnglindlofmknaaGreatDoor.B
open Go.RowKit Go.Proofs.YW.PrintWords Go.Proofs.YW.PrintLast Go.Proofs.YW.PrintMore
attribute [local go_sem] zva zta zmb zlb zia zha zua zsa
set_option linter.unusedVariables false
set_option linter.unusedSimpArgs false
def zdc.l0 : Nat → Int → List EQ2 → List Int → List Int → List Int → Int → Int → Option (List Int × List Int × Int)
 | 0, _, _, _, _, _, _, _ => none
 | k + 1, n, kept, at_, row, sym, c, first => if 0 ≤ c then (if c < n then ((zmf.f row c).bind fun h => if h = true then (if c < (at_.length : Int) then (if rd at_ c < 0 then (if first < 0 then zdc.l0 k n kept at_ row sym (c + 1) c else zdc.l0 k n kept at_ row sym (c + 1) first) else (if rd at_ c < (kept.length : Int) then ((zxc.f k row (kept.getD (rd at_ c).toNat zEQ).1).bind fun x => (zkf.f k sym (kept.getD (rd at_ c).toNat zEQ).2).bind fun y => zdc.l0 k n kept at_ x.1 y.1 (c + 1) first) else none)) else none) else zdc.l0 k n kept at_ row sym (c + 1) first) else some (row, sym, first)) else some (row, sym, first)
def zdc.f (k : Nat) (n : Int) (kept : List EQ2) (at_ : List Int) (row sym : List Int) : Option (List Int × List Int × Int) :=
 if n ≤ 4096 then (if row.length ≤ 1000000 then (if sym.length ≤ 1000000 then ((zhd.f k row).bind fun c => if -1 ≤ c then (if c ≤ 100000000 then zdc.l0 k n kept at_ row sym c (-1) else none) else none) else none) else none) else none
def zdc.T1 : Bool × List (List Nat × List Nat) := (true, [([], []), ([], []), ([1], [1]), ([0, 2], [0, 2]), ([], []), ([], []), ([5], [5]), ([4, 6, 3], [4, 6]), ([3, 7], [3, 7]), ([], []), ([9, 8, 7, 0, 1, 2, 3, 4, 5, 6, 7, 8, 9], [8, 9])])
def zdc.B1 : List Nat := [0, 0, 2, 7, 0, 0, 32, 127, 255, 0, 1023]
theorem zdc.tab1 : rtab .any (opsOf Tryz.f66 1) = zdc.T1 := by kernel_rfl
theorem zdc.bits1 : waitsOk zdc.T1.2 zdc.B1 = true := by kernel_rfl
def zdc.T10 : Bool × List (List Nat × List Nat) := (true, [([], []), ([0], [0]), ([1], [1]), ([2], [2]), ([], []), ([4], [4]), ([5], [5]), ([6], [6]), ([], []), ([7, 8], [7, 8]), ([9], [9]), ([3, 10], [3, 10]), ([11], [11]), ([], []), ([13, 12, 0, 1, 2, 3, 4, 5, 6, 7, 8, 9, 10, 11, 12, 13], [12, 13])])
def zdc.B10 : List Nat := [0, 1, 3, 7, 0, 16, 48, 112, 0, 496, 1008, 2047, 4095, 0, 16383]
theorem zdc.tab10 : rtab .any (opsOf Tryz.f66 10) = zdc.T10 := by kernel_rfl
theorem zdc.bits10 : waitsOk zdc.T10.2 zdc.B10 = true := by kernel_rfl
theorem zdc.go (k : Nat) (g : Nat) (n size : Int) (kept : List EQ2) (at_ : List Int) (cl : Bool) (A1 : Option Addr) (c1 : Nat) (row : List Int) (A2 : Option Addr) (c2 : Nat) (sym : List Int) (r1 r2 : List Int) (r3 c : Int) (w : World)
  (h : SysR w g n size kept at_ cl) (hr1 : Kd.C (Kd.int .u64) w A1 row.length row) (hr2 : Kd.C (Kd.int .u8) w A2 sym.length sym) (hT : Tab w)
  (hn : n ≤ 4096) (hl1 : row.length ≤ 1000000) (hl2 : sym.length ≤ 1000000) (hc : zhd.f k row = some c) (hc1 : -1 ≤ c) (hc2 : c ≤ 100000000) (hf : zdc.l0 k n kept at_ row sym c (-1) = some (r1, r2, r3)) :
  Calls Tryz.prog 66 #[.pointer (some ⟨g, 0, none⟩), .agg #[.slice A1 row.length c1, .slice A2 sym.length c2]] w fun e w' => ∃ v1 v2, e = .returned (.tuple #[.agg #[v1, v2], .int .i64 r3]) ∧ Kd.R (Kd.int .u64) 104 w' w.heap.size (fun _ => True) v1 r1 ∧ Kd.R (Kd.int .u8) 5 w' w.heap.size (fun _ => True) v2 r2 ∧ Below w.heap.size w w' := by
 obtain ⟨Ak, ck, Aa, ca, hg0, hlk, hk0, hla, ha0⟩ := h.out
 have HS := za.mk hg0
 have HK := za.mk hk0
 have HAT := za.mk ha0
 have HT := za.mk hT
 have HLK := za.mk hlk
 have HLA := za.mk hla
 have HCB : za (-1 ≤ c ∧ c ≤ 100000000) := ⟨hc1, hc2⟩
 clear hg0 hk0 ha0 hT hc1 hc2 hlk hla
 have HR1 := za.mk hr1
 have HR2 := za.mk hr2
 have HC := za.mk hc
 have HF := za.mk hf
 clear h hr1 hr2 hc hf
 go_enter Tryz.func66, Tryz.ntmps66
 go_wp2
 go_step3
 go_wp2
 have BK := za.mk (show ((w.alloc (.cells #[.slice A1 row.length c1, .slice A2 sym.length c2] 112)).alloc (.cells #[.slice none 0 0, .slice none 0 0] 112)).heap[w.heap.size]? = some (.cells #[.slice A1 row.length c1, .slice A2 sym.length c2] 112 (0, 0)) from zi (zif w _) _)
 have HB := za.mk (ze (ze (Below.refl w.heap.size w) (.cells #[.slice A1 row.length c1, .slice A2 sym.length c2] 112)) (.cells #[.slice none 0 0, .slice none 0 0] 112))
 have BR := za.mk (show ((w.alloc (.cells #[.slice A1 row.length c1, .slice A2 sym.length c2] 112)).alloc (.cells #[.slice none 0 0, .slice none 0 0] 112)).heap[w.heap.size + 1]? = some (.cells #[.slice none 0 0, .slice none 0 0] 112 (0, 0)) from by have := zif (w.alloc (.cells #[.slice A1 row.length c1, .slice A2 sym.length c2] 112)) (.cells #[.slice none 0 0, .slice none 0 0] 112); simpa using this)
 have HCD : za (row.length * 8 ≤ 140737488355328 ∧ sym.length * 1 ≤ 140737488355328) := ⟨by omega, by omega⟩
 go_cut [6] (fun v6 wc => ∃ (g6 : Nat) (v1 v2 : Value), v6 = .pointer (some ⟨g6, 0, none⟩) ∧ za (w.heap.size + 1 < g6) ∧ za (wc.heap[w.heap.size + 1]? = some (.cells #[.slice none 0 0, .slice none 0 0] 112 (0, 0))) ∧ za (wc.heap[g6]? = some (.cells #[v1, v2] 112 (0, 0))) ∧ za (Kd.R (Kd.int .u64) 104 wc w.heap.size (fun _ => True) v1 row) ∧ za (Kd.R (Kd.int .u8) 5 wc w.heap.size (fun _ => True) v2 sym) ∧ za (Below w.heap.size w wc))
 case first =>
  generalize hw1 : (w.alloc (.cells #[.slice A1 row.length c1, .slice A2 sym.length c2] 112)).alloc (.cells #[.slice none 0 0, .slice none 0 0] 112) = w1 at BK BR HB ⊢
  clear hw1
  have n0_ := za.mk (zj BK.out)
  have n1_ := za.mk (zf HB.out)
  have n2_ := za.mk (zj BR.out)
  clear BK HB BR
  have BK := n0_
  have HB := n1_
  have BR := n2_
  clear n0_ n1_ n2_
  refine zsf (n := 11) (S := fun w' => True) (ds := []) #[false, false, false, false, false, false, false, false, false, false, false] (by kernel_rfl) rfl rfl trivial (fun hHeld => ?_)
  refine zke zdc.tab1 zdc.bits1 (fun HT_ HW_ => ?_)
  generalize w1.drew = w2 at BK BR HB hHeld ⊢
  refine pure_ (i := 1) (N := some 11) (v := ?_) (a' := ?_) #[false, true, false, false, false, false, false, false, false, false, false] rfl rfl (zvb HT_.out (by kernel_rfl)) (fun _ _ _ h => h) (Or.inl ⟨by rfl, ?_⟩) ?_ ?_
  rotate_left
  ·intro w'
   go_simp
   with_reducible rfl
  rotate_left
  ·simp only [Act.put, zw]
   rfl
  refine pure_ (i := 5) (N := some 15) (v := ?_) (a' := ?_) #[false, true, false, false, false, true, false, false, false, false, false] rfl rfl (zvb HT_.out (by kernel_rfl)) (fun _ _ _ h => h) (Or.inl ⟨by rfl, ?_⟩) ?_ ?_
  rotate_left
  ·intro w'
   go_simp
   with_reducible rfl
  rotate_left
  ·simp only [Act.put, zw]
   rfl
  refine inv_at [0, 2, 3, 4, 6, 7, 8, 9, 10] (fun a0_ b a w' => ∃ (v0 : Value) (v3 : Value) (v4 : Value) (v7 : Value) (g9 : Nat) (m8_ : Value) (m9_ : Value), a = putSel a0_ b [(0, 10, v0), (2, 12, .slice A1 row.length c1), (3, 13, v3), (4, 14, v4), (6, 16, .slice A2 sym.length c2), (7, 17, v7), (8, 18, m8_), (9, 6, m9_)] ∧ (w'.heap[w.heap.size]? = some (.cells #[.slice A1 row.length c1, .slice A2 sym.length c2] 112 (0, 0))) ∧ (w'.heap[w.heap.size + 1]? = some (.cells #[.slice none 0 0, .slice none 0 0] 112 (0, 0))) ∧ (Below w.heap.size w w') ∧ (b 0 = true → b 3 = false → Kd.R (Kd.int .u64) 104 w' w.heap.size (fun _ => True) v0 []) ∧ (b 3 = true → Kd.R (Kd.int .u64) 104 w' w.heap.size (fun _ => True) v3 row) ∧ (b 4 = true → b 7 = false → Kd.R (Kd.int .u8) 5 w' w.heap.size (fun _ => True) v4 []) ∧ (b 7 = true → Kd.R (Kd.int .u8) 5 w' w.heap.size (fun _ => True) v7 sym) ∧ (b 9 = true → w.heap.size + 1 < g9) ∧ (b 9 = true → b 10 = false → w'.heap[g9]? = some (.cells #[.slice none 0 0, .slice none 0 0] 112 (0, 0))) ∧ (b 10 = true → w'.heap[g9]? = some (.cells #[v3, v7] 112 (0, 0))) ∧ (b 8 = true → (m8_ : Value) = .agg #[v3, v7]) ∧ (b 9 = true → (m9_ : Value) = .pointer (some ⟨g9, 0, none⟩))) HT_.out HW_.out (by kernel_rfl) (by kernel_rfl) ?_ ?_ ?_
  ·exact ⟨.bool false, .bool false, .bool false, .bool false, 0, .bool false, .bool false, by simp only [putSel, Bool.false_eq_true, if_false], BK.out, BR.out, HB.out, fun h_ => absurd h_ (by decide), fun h_ => absurd h_ (by decide), fun h_ => absurd h_ (by decide), fun h_ => absurd h_ (by decide), fun h_ => absurd h_ (by decide), fun h_ => absurd h_ (by decide), fun h_ => absurd h_ (by decide), fun h_ => absurd h_ (by decide), fun h_ => absurd h_ (by decide)⟩
  ·skip
   clear BK BR HB
   refine zfa ?_ ?_
   ·rintro b a w' ⟨v0, v3, v4, v7, g9, m8_, m9_, ha, Q_BK, Q_BR, Q_HB, Q_R0, Q_R3, Q_R4, Q_R7, Q_G9, Q_B9, Q_B10, Q_X8_, Q_X9_⟩ hb_ hon hoff
    refine ⟨_, rfl, fun K hK => ?_⟩
    replace ha := za.mk ha
    have BK := za.mk Q_BK
    have BR := za.mk Q_BR
    have HB := za.mk Q_HB
    refine Kd.R_lit_step (Kd.int .u64) (w0 := w) w.heap.size 104 (by rfl) (N := 10) rfl (xs := []) (inner := []) (ok := fun _ => True) (okp := fun _ => True) (by go_simp) (Reps.none _ _) (fun _ h => h) trivial HB.out HB.out.size (by simp) ?_
    intro n0 w1' ho hb hg _
    refine hK.out _ _ ⟨n0, v3, v4, v7, g9, m8_, m9_, (by rw [ha.out]; exact zla 0 hb_ rfl rfl rfl), zwc BK.out hg (by simp), zwc BR.out hg (by simp), hb, fun _ _ => ho, fun h0_ => absurd ((hoff 3 (by kernel_rfl)).symm.trans h0_) (by decide), fun h0_ h1_ => Kd.R_grown (Q_R4 h0_ h1_) hg (by simp), fun h0_ => absurd ((hoff 7 (by kernel_rfl)).symm.trans h0_) (by decide), Q_G9, fun h0_ h1_ => zwc (Q_B9 h0_ h1_) hg (by simp), fun h0_ => absurd ((hoff 10 (by kernel_rfl)).symm.trans h0_) (by decide), fun h0_ => absurd ((hoff 8 (by kernel_rfl)).symm.trans h0_) (by decide), Q_X9_⟩
   refine zfa ?_ ?_
   ·rintro b a w' ⟨v0, v3, v4, v7, g9, m8_, m9_, ha, Q_BK, Q_BR, Q_HB, Q_R0, Q_R3, Q_R4, Q_R7, Q_G9, Q_B9, Q_B10, Q_X8_, Q_X9_⟩ hb_ hon hoff
    refine ⟨_, rfl, fun K hK => ?_⟩
    have e11 : a.tmps[11]? = some (.pointer (some ⟨w.heap.size, 0, none⟩)) := by rw [ha]; exact (zlc rfl).trans rfl
    replace ha := za.mk ha
    have BK := za.mk Q_BK
    have BR := za.mk Q_BR
    have HB := za.mk Q_HB
    have z_ := (zl BK.out 0).trans rfl
    refine zbd (w1 := w') (v := .slice A1 row.length c1) (by rfl) rfl ?_ ?_
    ·go_simp
     (try simp only [i64_w])
     try rfl
    refine hK.out _ _ ⟨v0, v3, v4, v7, g9, m8_, m9_, (by rw [ha.out]; exact zla 1 hb_ rfl rfl rfl), Q_BK, Q_BR, Q_HB, Q_R0, fun h0_ => absurd ((hoff 3 (by kernel_rfl)).symm.trans h0_) (by decide), Q_R4, fun h0_ => absurd ((hoff 7 (by kernel_rfl)).symm.trans h0_) (by decide), Q_G9, Q_B9, fun h0_ => absurd ((hoff 10 (by kernel_rfl)).symm.trans h0_) (by decide), fun h0_ => absurd ((hoff 8 (by kernel_rfl)).symm.trans h0_) (by decide), Q_X9_⟩
   refine zfa ?_ ?_
   ·rintro b a w' ⟨v0, v3, v4, v7, g9, m8_, m9_, ha, Q_BK, Q_BR, Q_HB, Q_R0, Q_R3, Q_R4, Q_R7, Q_G9, Q_B9, Q_B10, Q_X8_, Q_X9_⟩ hb_ hon hoff
    refine ⟨_, rfl, fun K hK => ?_⟩
    have e10 : a.tmps[10]? = some (v0) := by rw [ha]; exact zxa (e := (0, 10, v0)) 0 rfl rfl (hon 0 (by kernel_rfl)) rfl
    have e12 : a.tmps[12]? = some (.slice A1 row.length c1) := by rw [ha]; exact zxa (e := (2, 12, .slice A1 row.length c1)) 1 rfl rfl (hon 2 (by kernel_rfl)) rfl
    replace ha := za.mk ha
    have BK := za.mk Q_BK
    have BR := za.mk Q_BR
    have HB := za.mk Q_HB
    have R0 := za.mk (Q_R0 (hon 0 (by kernel_rfl)) hb_)
    refine Kd.R_append_rows_step (Kd.int .u64) (w0 := w) w.heap.size (by rfl) (.tmp 10) (.tmp 12) 71 104 (.int .u64 0) 8 rfl Tryz.underlying71 info104 rfl (by decide) (by decide) v0 [] row A1 row.length c1 (fun _ => True) (fun _ => False) (eval_of e10) (eval_of e12) R0.out (Kd.znd HR1.out HB.out) (fun _ _ h => h) (fun _ h => h.elim) (fun _ _ => trivial) HB.out HB.out.size (by have := HCD.out.1; simp only [List.length_nil]; omega) ?_
    intro n3 w1' ho hb hg _
    rw [List.nil_append] at ho
    refine hK.out _ _ ⟨v0, n3, v4, v7, g9, m8_, m9_, (by rw [ha.out]; exact zla 2 hb_ rfl rfl rfl), zwc BK.out hg (Kd.R_ne R0.out BK.out (by decide)), zwc BR.out hg (Kd.R_ne R0.out BR.out (by decide)), hb, fun _ h1_ => absurd ((zie b 3).symm.trans h1_) (by decide), fun _ => ho, fun h0_ h1_ => Kd.R_over (Q_R4 h0_ h1_) R0.out (by decide) hg, fun h0_ => absurd ((hoff 7 (by kernel_rfl)).symm.trans h0_) (by decide), Q_G9, fun h0_ h1_ => zwc (Q_B9 h0_ h1_) hg (Kd.R_ne R0.out (Q_B9 h0_ h1_) (by decide)), fun h0_ => absurd ((hoff 10 (by kernel_rfl)).symm.trans h0_) (by decide), fun h0_ => absurd ((hoff 8 (by kernel_rfl)).symm.trans h0_) (by decide), Q_X9_⟩
   refine zfa ?_ ?_
   ·rintro b a w' ⟨v0, v3, v4, v7, g9, m8_, m9_, ha, Q_BK, Q_BR, Q_HB, Q_R0, Q_R3, Q_R4, Q_R7, Q_G9, Q_B9, Q_B10, Q_X8_, Q_X9_⟩ hb_ hon hoff
    refine ⟨_, rfl, fun K hK => ?_⟩
    replace ha := za.mk ha
    have BK := za.mk Q_BK
    have BR := za.mk Q_BR
    have HB := za.mk Q_HB
    refine Kd.R_lit_step (Kd.int .u8) (w0 := w) w.heap.size 5 (by rfl) (N := 14) rfl (xs := []) (inner := []) (ok := fun _ => True) (okp := fun _ => True) (by go_simp) (Reps.none _ _) (fun _ h => h) trivial HB.out HB.out.size (by simp) ?_
    intro n4 w1' ho hb hg _
    refine hK.out _ _ ⟨v0, v3, n4, v7, g9, m8_, m9_, (by rw [ha.out]; exact zla 3 hb_ rfl rfl rfl), zwc BK.out hg (by simp), zwc BR.out hg (by simp), hb, fun h0_ h1_ => Kd.R_grown (Q_R0 h0_ h1_) hg (by simp), fun h0_ => Kd.R_grown (Q_R3 h0_) hg (by simp), fun _ _ => ho, fun h0_ => absurd ((hoff 7 (by kernel_rfl)).symm.trans h0_) (by decide), Q_G9, fun h0_ h1_ => zwc (Q_B9 h0_ h1_) hg (by simp), fun h0_ => absurd ((hoff 10 (by kernel_rfl)).symm.trans h0_) (by decide), fun h0_ => absurd ((hoff 8 (by kernel_rfl)).symm.trans h0_) (by decide), Q_X9_⟩
   refine zfa ?_ ?_
   ·rintro b a w' ⟨v0, v3, v4, v7, g9, m8_, m9_, ha, Q_BK, Q_BR, Q_HB, Q_R0, Q_R3, Q_R4, Q_R7, Q_G9, Q_B9, Q_B10, Q_X8_, Q_X9_⟩ hb_ hon hoff
    refine ⟨_, rfl, fun K hK => ?_⟩
    have e15 : a.tmps[15]? = some (.pointer (some ⟨w.heap.size, 1, none⟩)) := by rw [ha]; exact (zlc rfl).trans rfl
    replace ha := za.mk ha
    have BK := za.mk Q_BK
    have BR := za.mk Q_BR
    have HB := za.mk Q_HB
    have z_ := (zl BK.out 1).trans rfl
    refine zbd (w1 := w') (v := .slice A2 sym.length c2) (by rfl) rfl ?_ ?_
    ·go_simp
     (try simp only [i64_w])
     try rfl
    refine hK.out _ _ ⟨v0, v3, v4, v7, g9, m8_, m9_, (by rw [ha.out]; exact zla 4 hb_ rfl rfl rfl), Q_BK, Q_BR, Q_HB, Q_R0, Q_R3, Q_R4, fun h0_ => absurd ((hoff 7 (by kernel_rfl)).symm.trans h0_) (by decide), Q_G9, Q_B9, fun h0_ => absurd ((hoff 10 (by kernel_rfl)).symm.trans h0_) (by decide), fun h0_ => absurd ((hoff 8 (by kernel_rfl)).symm.trans h0_) (by decide), Q_X9_⟩
   refine zfa ?_ ?_
   ·rintro b a w' ⟨v0, v3, v4, v7, g9, m8_, m9_, ha, Q_BK, Q_BR, Q_HB, Q_R0, Q_R3, Q_R4, Q_R7, Q_G9, Q_B9, Q_B10, Q_X8_, Q_X9_⟩ hb_ hon hoff
    refine ⟨_, rfl, fun K hK => ?_⟩
    have e14 : a.tmps[14]? = some (v4) := by rw [ha]; exact zxa (e := (4, 14, v4)) 3 rfl rfl (hon 4 (by kernel_rfl)) rfl
    have e16 : a.tmps[16]? = some (.slice A2 sym.length c2) := by rw [ha]; exact zxa (e := (6, 16, .slice A2 sym.length c2)) 4 rfl rfl (hon 6 (by kernel_rfl)) rfl
    replace ha := za.mk ha
    have BK := za.mk Q_BK
    have BR := za.mk Q_BR
    have HB := za.mk Q_HB
    have R3 := za.mk (Q_R3 (hon 3 (by kernel_rfl)))
    have R4 := za.mk (Q_R4 (hon 4 (by kernel_rfl)) hb_)
    refine Kd.R_append_rows_step (Kd.int .u8) (w0 := w) w.heap.size (by rfl) (.tmp 14) (.tmp 16) 43 5 (.int .u8 0) 1 rfl Tryz.underlying43 info5 rfl (by decide) (by decide) v4 [] sym A2 sym.length c2 (fun _ => True) (fun _ => False) (eval_of e14) (eval_of e16) R4.out (Kd.znd HR2.out HB.out) (fun _ _ h => h) (fun _ h => h.elim) (fun _ _ => trivial) HB.out HB.out.size (by have := HCD.out.2; simp only [List.length_nil]; omega) ?_
    intro n7 w1' ho hb hg _
    rw [List.nil_append] at ho
    refine hK.out _ _ ⟨v0, v3, v4, n7, g9, m8_, m9_, (by rw [ha.out]; exact zla 5 hb_ rfl rfl rfl), zwc BK.out hg (Kd.R_ne R4.out BK.out (by decide)), zwc BR.out hg (Kd.R_ne R4.out BR.out (by decide)), hb, fun _ h1_ => absurd ((hon 3 (by kernel_rfl)).symm.trans h1_) (by decide), fun _ => Kd.R_over R3.out R4.out (by decide) hg, fun _ h1_ => absurd ((zie b 7).symm.trans h1_) (by decide), fun _ => ho, Q_G9, fun h0_ h1_ => zwc (Q_B9 h0_ h1_) hg (Kd.R_ne R4.out (Q_B9 h0_ h1_) (by decide)), fun h0_ => absurd ((hoff 10 (by kernel_rfl)).symm.trans h0_) (by decide), fun h0_ => absurd ((hoff 8 (by kernel_rfl)).symm.trans h0_) (by decide), Q_X9_⟩
   refine zfa ?_ ?_
   ·rintro b a w' ⟨v0, v3, v4, v7, g9, m8_, m9_, ha, Q_BK, Q_BR, Q_HB, Q_R0, Q_R3, Q_R4, Q_R7, Q_G9, Q_B9, Q_B10, Q_X8_, Q_X9_⟩ hb_ hon hoff
    refine ⟨_, rfl, fun K hK => ?_⟩
    have e13 : a.tmps[13]? = some (v3) := by rw [ha]; exact zxa (e := (3, 13, v3)) 2 rfl rfl (hon 3 (by kernel_rfl)) rfl
    have e17 : a.tmps[17]? = some (v7) := by rw [ha]; exact zxa (e := (7, 17, v7)) 5 rfl rfl (hon 7 (by kernel_rfl)) rfl
    replace ha := za.mk ha
    have BK := za.mk Q_BK
    have BR := za.mk Q_BR
    have HB := za.mk Q_HB
    have R3 := za.mk (Q_R3 (hon 3 (by kernel_rfl)))
    have R7 := za.mk (Q_R7 (hon 7 (by kernel_rfl)))
    obtain ⟨Ao3, co3, eo_⟩ := Kd.zsc R3.out
    subst eo_
    obtain ⟨Ao7, co7, eo_⟩ := Kd.zsc R7.out
    subst eo_
    refine zbd (w1 := w') (v := .agg #[.slice Ao3 row.length co3, .slice Ao7 sym.length co7]) (by rfl) rfl ?_ ?_
    ·go_simp
     (try simp only [i64_w])
     try rfl
    refine hK.out _ _ ⟨v0, .slice Ao3 row.length co3, v4, .slice Ao7 sym.length co7, g9, (.agg #[.slice Ao3 row.length co3, .slice Ao7 sym.length co7]), m9_, (by rw [ha.out]; exact zla 6 hb_ rfl rfl rfl), Q_BK, Q_BR, Q_HB, fun _ h1_ => absurd ((hon 3 (by kernel_rfl)).symm.trans h1_) (by decide), Q_R3, fun _ h1_ => absurd ((hon 7 (by kernel_rfl)).symm.trans h1_) (by decide), Q_R7, Q_G9, Q_B9, fun h0_ => absurd ((hoff 10 (by kernel_rfl)).symm.trans h0_) (by decide), fun _ => rfl, Q_X9_⟩
   refine zfa ?_ ?_
   ·rintro b a w' ⟨v0, v3, v4, v7, g9, m8_, m9_, ha, Q_BK, Q_BR, Q_HB, Q_R0, Q_R3, Q_R4, Q_R7, Q_G9, Q_B9, Q_B10, Q_X8_, Q_X9_⟩ hb_ hon hoff
    refine ⟨_, rfl, fun K hK => ?_⟩
    replace ha := za.mk ha
    have BK := za.mk Q_BK
    have BR := za.mk Q_BR
    have HB := za.mk Q_HB
    refine box_step (by rfl) (N := 6) rfl (cs := #[.slice none 0 0, .slice none 0 0]) (t := 112) (by go_simp) ?_
    intro n9 hn9 w1' hbox hb
    have hlt := zpe BR.out
    refine hK.out _ _ ⟨v0, v3, v4, v7, n9, m8_, (.pointer (some ⟨n9, 0, none⟩)), (by rw [ha.out]; exact zla 7 hb_ rfl rfl rfl), zy BK.out hb, zy BR.out hb, zk HB.out hb, fun h0_ h1_ => Kd.zvd (Q_R0 h0_ h1_) hb, fun h0_ => Kd.zvd (Q_R3 h0_) hb, fun h0_ h1_ => Kd.zvd (Q_R4 h0_ h1_) hb, fun h0_ => Kd.zvd (Q_R7 h0_) hb, fun _ => by omega, fun _ _ => hbox, fun h0_ => absurd ((hoff 10 (by kernel_rfl)).symm.trans h0_) (by decide), Q_X8_, fun _ => rfl⟩
   refine zfa ?_ ?_
   ·rintro b a w' ⟨v0, v3, v4, v7, g9, m8_, m9_, ha, Q_BK, Q_BR, Q_HB, Q_R0, Q_R3, Q_R4, Q_R7, Q_G9, Q_B9, Q_B10, Q_X8_, Q_X9_⟩ hb_ hon hoff
    refine ⟨_, rfl, fun K hK => ?_⟩
    have e6 : a.tmps[6]? = some (m9_) := by rw [ha]; exact zxa (e := (9, 6, m9_)) 7 rfl rfl (hon 9 (by kernel_rfl)) rfl
    rw [Q_X9_ (hon 9 (by kernel_rfl))] at e6
    have e18 : a.tmps[18]? = some (m8_) := by rw [ha]; exact zxa (e := (8, 18, m8_)) 6 rfl rfl (hon 8 (by kernel_rfl)) rfl
    rw [Q_X8_ (hon 8 (by kernel_rfl))] at e18
    replace ha := za.mk ha
    have BK := za.mk Q_BK
    have BR := za.mk Q_BR
    have HB := za.mk Q_HB
    have R3 := za.mk (Q_R3 (hon 3 (by kernel_rfl)))
    have R7 := za.mk (Q_R7 (hon 7 (by kernel_rfl)))
    have G9 := za.mk (Q_G9 (hon 9 (by kernel_rfl)))
    have B9 := za.mk (Q_B9 (hon 9 (by kernel_rfl)) hb_)
    obtain ⟨Ao3, co3, eo_⟩ := Kd.zsc R3.out
    subst eo_
    obtain ⟨Ao7, co7, eo_⟩ := Kd.zsc R7.out
    subst eo_
    have hg1 : w.heap.size ≠ g9 := by have := G9.out; omega
    have hg2 : w.heap.size ≤ g9 := by have := G9.out; omega
    have f0 := zxb B9.out 0
    have f1 := zxb B9.out 1
    have t0 := (zl B9.out 0).trans rfl
    have t1 := (zl B9.out 1).trans rfl
    refine skip_ (w1 := ?_) (by rfl) rfl ?_ ?_
    rotate_left
    ·go_simp
     rfl
    refine hK.out _ _ ⟨v0, (.slice Ao3 row.length co3), v4, (.slice Ao7 sym.length co7), g9, m8_, m9_, (by rw [ha.out]; exact putSel_none (v := undef) rfl), zre (zre BK.out hg1 _) hg1 _, zre (zre BR.out (Nat.ne_of_lt G9.out) _) (Nat.ne_of_lt G9.out) _, (HB.out.setCell hg2 _).setCell hg2 _, fun _ h1_ => absurd ((hon 3 (by kernel_rfl)).symm.trans h1_) (by decide), fun _ => Kd.R_set (Kd.R_set R3.out B9.out (by decide) _ _) (blk_set B9.out _ _) (by decide) _ _, fun _ h1_ => absurd ((hon 7 (by kernel_rfl)).symm.trans h1_) (by decide), fun _ => Kd.R_set (Kd.R_set R7.out B9.out (by decide) _ _) (blk_set B9.out _ _) (by decide) _ _, Q_G9, fun _ h1_ => absurd ((zie b 10).symm.trans h1_) (by decide), fun _ => blk_set (blk_set B9.out _ _) _ _, Q_X8_, Q_X9_⟩
   exact steps_nil
  rintro b a wl hall ⟨v0, v3, v4, v7, g9, m8_, m9_, ha, Q_BK, Q_BR, Q_HB, Q_R0, Q_R3, Q_R4, Q_R7, Q_G9, Q_B9, Q_B10, Q_X8_, Q_X9_⟩
  clear BK BR HB
  have hb0_ := hall 0 (by kernel_rfl)
  have hb2_ := hall 2 (by kernel_rfl)
  have hb3_ := hall 3 (by kernel_rfl)
  have hb4_ := hall 4 (by kernel_rfl)
  have hb6_ := hall 6 (by kernel_rfl)
  have hb7_ := hall 7 (by kernel_rfl)
  have hb8_ := hall 8 (by kernel_rfl)
  have hb9_ := hall 9 (by kernel_rfl)
  have hb10_ := hall 10 (by kernel_rfl)
  subst ha
  obtain rfl := Q_X8_ hb8_
  obtain rfl := Q_X9_ hb9_
  simp only [putSel, hb0_, hb2_, hb3_, hb4_, hb6_, hb7_, hb8_, hb9_, hb10_, if_true, Act.put, List.setIfInBounds_toArray, List.set_cons_zero, List.set_cons_succ]
  have BK := za.mk Q_BK
  clear Q_BK
  have BR := za.mk Q_BR
  clear Q_BR
  have HB := za.mk Q_HB
  clear Q_HB
  clear Q_R0
  have R3 := za.mk (Q_R3 hb3_)
  clear Q_R3
  clear Q_R4
  have R7 := za.mk (Q_R7 hb7_)
  clear Q_R7
  have G9 := za.mk (Q_G9 hb9_)
  clear Q_G9
  clear Q_B9
  have B10 := za.mk (Q_B10 hb10_)
  clear Q_B10
  clear hall hb0_ hb2_ hb3_ hb4_ hb6_ hb7_ hb8_ hb9_ hb10_
  go_wp2
  go_meet
  case rel => exact ⟨g9, v3, v7, rfl, G9, BR, B10, R3, R7, HB⟩
 case rest =>
  obtain ⟨g6, v1, v2, rfl, HG6, BR, HB6, HO1, HO2, HB⟩ := hcut
  obtain ⟨Ao1, co1, eo_⟩ := Kd.zsc HO1.out
  subst eo_
  have c60 : wc.cell? ⟨g6, 0, none⟩ = some (.slice Ao1 row.length co1) := (zl HB6.out 0).trans rfl
  go_wp2_with fail
  go_step3
  go_wp2_with fail
  refine (zhd.calls k Ao1 co1 row c _ (Kd.zsb HO1.out).2.2 (Kd.zsb HO1.out).2.1 HC.out (Tab.below HT.out HB.out)).mono ?_
  rintro e w' ⟨rfl, ⟨m1, rfl⟩⟩
  go_wp2
  clear c60
  go_loopg [7, 8] k (fun kq v7 v8 w' => ∃ (row' sym' : List Int) (cc ff : Int) (v1 v2 : Value), v7 = .int .i64 ff ∧ v8 = .int .i64 cc ∧ za (zdc.l0 kq n kept at_ row' sym' cc ff = some (r1, r2, r3)) ∧ za (w'.heap[g6]? = some (.cells #[v1, v2] 112 (0, 0))) ∧ za (Kd.R (Kd.int .u64) 104 w' w.heap.size (fun _ => True) v1 row') ∧ za (Kd.R (Kd.int .u8) 5 w' w.heap.size (fun _ => True) v2 sym') ∧ za (w'.heap[w.heap.size + 1]? = some (.cells #[.slice none 0 0, .slice none 0 0] 112 (0, 0))) ∧ za (Below w.heap.size w w'))
  case atStart => exact ⟨row, sym, c, -1, _, _, rfl, rfl, HF, ⟨zh HB6.out _⟩, ⟨Kd.zja HO1.out _⟩, ⟨Kd.zja HO2.out _⟩, ⟨zh BR.out _⟩, ⟨zb HB.out _⟩⟩
  case round =>
   obtain ⟨row', sym', cc, ff, v1, v2, rfl, rfl, HA, HB6, HO1, HO2, BR, HB⟩ := hrel
   cases gk with
   | zero => exact absurd HA.out (by simp [zdc.l0])
   | succ k1 =>
   have H := HA.out
   clear HA
   simp only [zdc.l0] at H
   obtain ⟨Ao1, co1, eo_⟩ := Kd.zsc HO1.out
   subst eo_
   obtain ⟨Ao2, co2, eo_⟩ := Kd.zsc HO2.out
   subst eo_
   by_cases t1 : 0 ≤ cc
   ·rw [if_pos t1] at H
    have b1 : decide (cc ≥ 0) = true := decide_eq_true t1
    by_cases t2 : cc < n
    ·rw [if_pos t2] at H
     have b2 : decide (cc < n) = true := decide_eq_true t2
     obtain ⟨hb, hh, H⟩ := Option.bind_eq_some_iff.mp H
     have HH := za.mk hh
     clear hh
     have q0 : wr.cell? ⟨g, 0, none⟩ = some (.int .i64 n) := (zl (zy HS.out HB.out) 0).trans rfl
     have q60 : wr.cell? ⟨g6, 0, none⟩ = some (.slice Ao1 row'.length co1) := (zl HB6.out 0).trans rfl
     go_wp2_with fail
     refine (zmf.calls Ao1 co1 row' cc hb _ (Kd.zsb HO1.out).2.2 (Kd.zsb HO1.out).2.1 HH.out).mono ?_
     rintro e w' ⟨rfl, ⟨m1, rfl⟩⟩
     have HWR : za (IntKind.i64.wrap (cc + 1) = cc + 1) := ⟨IntWalk.i64_in _ (by omega)⟩
     cases hb with
     | false =>
      have HF2 : za (zdc.l0 k1 n kept at_ row' sym' (cc + 1) ff = some (r1, r2, r3)) := ⟨by simpa using H⟩
      clear H
      go_wp2
      go_roundg k1
      case measure => omega
      case rel => exact ⟨row', sym', cc + 1, ff, _, _, rfl, rfl, HF2, ⟨zh HB6.out _⟩, ⟨Kd.zja HO1.out _⟩, ⟨Kd.zja HO2.out _⟩, ⟨zh BR.out _⟩, ⟨zb HB.out _⟩⟩
     | true =>
      simp only [if_true] at H
      by_cases t3 : cc < (at_.length : Int)
      ·rw [if_pos t3] at H
       have n1_ := za.mk (zh HB6.out m1)
       have n2_ := za.mk (Kd.zja HO1.out m1)
       have n3_ := za.mk (Kd.zja HO2.out m1)
       have n4_ := za.mk (zh BR.out m1)
       have n5_ := za.mk (zb HB.out m1)
       clear HB6 HO1 HO2 BR HB q60 q0
       have HB6 := n1_
       have HO1 := n2_
       have HO2 := n3_
       have BR := n4_
       have HB := n5_
       clear n1_ n2_ n3_ n4_ n5_
       generalize wr.drewN m1 = wx at *
       have b3 : decide (cc < (at_.length : Int)) = true := decide_eq_true t3
       obtain ⟨ad, ea, hx0⟩ := Kd.zqe HAT.out cc t1 t3
       cases ea
       have hx := (HB.out.cell (World.block_lt_of_cell? w _ hx0)).trans hx0
       clear hx0
       have q3 : wx.cell? ⟨g, 3, none⟩ = some (.slice (some ad) at_.length ca) := (zl (zy HS.out HB.out) 3).trans rfl
       have t1' := eq_true t1
       have t3' := eq_true t3
       by_cases t4 : rd at_ cc < 0
       ·rw [if_pos t4] at H
        have b4 : decide (rd at_ cc < 0) = true := decide_eq_true t4
        by_cases t5 : ff < 0
        ·rw [if_pos t5] at H
         have b5 : decide (ff < 0) = true := decide_eq_true t5
         have HF2 := za.mk H
         clear H t1 t3 t4 t5
         go_wp2
         go_roundg k1
         case measure => omega
         case rel => exact ⟨row', sym', cc + 1, cc, _, _, rfl, by rw [← i64_w, HWR.out], HF2, HB6, HO1, HO2, BR, HB⟩
        ·rw [if_neg t5] at H
         have b5 : decide (ff < 0) = false := decide_eq_false t5
         have HF2 := za.mk H
         clear H t1 t3 t4 t5
         go_wp2
         go_roundg k1
         case measure => omega
         case rel => exact ⟨row', sym', cc + 1, ff, _, _, rfl, by rw [← i64_w, HWR.out], HF2, HB6, HO1, HO2, BR, HB⟩
       ·rw [if_neg t4] at H
        have b4 : decide (rd at_ cc < 0) = false := decide_eq_false t4
        by_cases t6 : rd at_ cc < (kept.length : Int)
        ·rw [if_pos t6] at H
         obtain ⟨⟨x1, x2⟩, hX, H⟩ := Option.bind_eq_some_iff.mp H
         obtain ⟨⟨y1, y2⟩, hY, H⟩ := Option.bind_eq_some_iff.mp H
         have HF2 := za.mk H
         have HX := za.mk hX
         have HY := za.mk hY
         clear H hX hY
         obtain ⟨ak, B0, d0, B1, d1, ek, hy0, hy1, hl0, hc0, hl1, hc1⟩ := at_kEQ HK.out (rd at_ cc) (by omega) t6
         cases ek
         generalize kept.getD (rd at_ cc).toNat zEQ = by_ at *
         obtain ⟨z1, z2⟩ := by_
         have hz0 := (HB.out.cell (World.block_lt_of_cell? w _ hy0)).trans hy0
         have hz1 := (HB.out.cell (World.block_lt_of_cell? w _ hy1)).trans hy1
         have HC0 := za.mk hc0
         have HC1 := za.mk hc1
         have HL := za.mk (And.intro hl0 hl1)
         clear hy0 hy1 hc0 hc1 hl0 hl1
         have q2 : wx.cell? ⟨g, 2, none⟩ = some (.slice (some ak) kept.length ck) := (zl (zy HS.out HB.out) 2).trans rfl
         have t4' : (0 ≤ rd at_ cc) = True := eq_true (by omega)
         have t6' := eq_true t6
         clear t1 t3 t6
         go_wp2_with fail
         have BY1 : za (w.heap.size ≤ w.heap.size) := ⟨Nat.le_refl _⟩
         have n1_ := za.mk (zj HB6.out)
         have n2_ := za.mk (Kd.zya HO1.out)
         have n3_ := za.mk (Kd.zya HO2.out)
         have n4_ := za.mk (zj BR.out)
         have n5_ := za.mk (zf HB.out)
         clear HB6 HO1 HO2 BR HB
         have HB6 := n1_
         have HO1 := n2_
         have HO2 := n3_
         have BR := n4_
         have HB := n5_
         clear n1_ n2_ n3_ n4_ n5_
         have C2 := za.mk (show wx.drew.cell? ⟨g, 2, none⟩ = some (.slice (some ak) kept.length ck) from q2)
         have C3 := za.mk (show wx.drew.cell? ⟨g, 3, none⟩ = some (.slice (some ad) at_.length ca) from q3)
         have CA := za.mk (show wx.drew.cell? (ad.add cc.toNat) = some (.int .i64 (rd at_ cc)) from hx)
         have CK := za.mk (show wx.drew.cell? (ak.add ((rd at_ cc).toNat * 2)) = some (.slice B0 z1.length d0) from hz0)
         have CL := za.mk (show wx.drew.cell? ⟨(ak.add ((rd at_ cc).toNat * 2)).block, (ak.add ((rd at_ cc).toNat * 2)).off + 1, none⟩ = some (.slice B1 z2.length d1) from hz1)
         clear hx q3 q2 hz0 hz1
         refine zsf (n := 15) (S := fun w' => True) (ds := []) #[false, false, false, false, false, false, false, false, false, false, false, false, false, false, false] (by kernel_rfl) rfl rfl trivial (fun hHeld => ?_)
         refine zke zdc.tab10 zdc.bits10 (fun HT_ HW_ => ?_)
         generalize wx.drew = wy at HB6 HO1 HO2 BR HB C2 C3 CA CK CL hHeld ⊢
         refine pure_ (i := 0) (N := some 50) (v := ?_) (a' := ?_) #[true, false, false, false, false, false, false, false, false, false, false, false, false, false, false] rfl rfl (zvb HT_.out (by kernel_rfl)) (fun _ _ _ h => h) (Or.inl ⟨by rfl, ?_⟩) ?_ ?_
         rotate_left
         ·intro w'
          go_simp
          with_reducible rfl
         rotate_left
         ·simp only [Act.put, zw]
          rfl
         refine pure_ (i := 4) (N := some 54) (v := ?_) (a' := ?_) #[true, false, false, false, true, false, false, false, false, false, false, false, false, false, false] rfl rfl (zvb HT_.out (by kernel_rfl)) (fun _ _ _ h => h) (Or.inl ⟨by rfl, ?_⟩) ?_ ?_
         rotate_left
         ·intro w'
          go_simp
          with_reducible rfl
         rotate_left
         ·simp only [Act.put, zw]
          rfl
         refine pure_ (i := 8) (N := some 58) (v := ?_) (a' := ?_) #[true, false, false, false, true, false, false, false, true, false, false, false, false, false, false] rfl rfl (zvb HT_.out (by kernel_rfl)) (fun _ _ _ h => h) (Or.inl ⟨by rfl, ?_⟩) ?_ ?_
         rotate_left
         ·intro w'
          go_simp
          with_reducible rfl
         rotate_left
         ·simp only [Act.put, zw]
          rfl
         refine inv_at [1, 2, 3, 5, 6, 7, 9, 10, 11, 12, 13, 14] (fun a0_ b a w' => ∃ (g9 : Nat) (m13_ : Value), a = putSel a0_ b [(1, 51, .pointer (some ⟨g, 0, none⟩)), (2, 52, .pointer (some ⟨g, 2, none⟩)), (3, 53, .slice (some ak) kept.length ck), (5, 55, .pointer (some ⟨g, 0, none⟩)), (6, 56, .pointer (some ⟨g, 3, none⟩)), (7, 57, .slice (some ad) at_.length ca), (9, 59, .pointer (some (ad.add cc.toNat))), (10, 60, .int .i64 (rd at_ cc)), (11, 61, .pointer (some (ak.add ((rd at_ cc).toNat * 2)))), (12, 62, .agg #[.slice B0 z1.length d0, .slice B1 z2.length d1]), (13, 9, m13_)] ∧ (w'.heap[g6]? = some (.cells #[.slice Ao1 row'.length co1, .slice Ao2 sym'.length co2] 112 (0, 0))) ∧ (Kd.R (Kd.int .u64) 104 w' w.heap.size (fun _ => True) (.slice Ao1 row'.length co1) row') ∧ (Kd.R (Kd.int .u8) 5 w' w.heap.size (fun _ => True) (.slice Ao2 sym'.length co2) sym') ∧ (w'.heap[w.heap.size + 1]? = some (.cells #[.slice none 0 0, .slice none 0 0] 112 (0, 0))) ∧ (Below w.heap.size w w') ∧ (b 14 = false → w'.cell? ⟨g, 2, none⟩ = some (.slice (some ak) kept.length ck)) ∧ (b 14 = false → w'.cell? ⟨g, 3, none⟩ = some (.slice (some ad) at_.length ca)) ∧ (b 14 = false → w'.cell? (ad.add cc.toNat) = some (.int .i64 (rd at_ cc))) ∧ (b 14 = false → w'.cell? (ak.add ((rd at_ cc).toNat * 2)) = some (.slice B0 z1.length d0)) ∧ (b 14 = false → w'.cell? ⟨(ak.add ((rd at_ cc).toNat * 2)).block, (ak.add ((rd at_ cc).toNat * 2)).off + 1, none⟩ = some (.slice B1 z2.length d1)) ∧ (b 13 = true → g6 < g9 ∧ w.heap.size + 1 < g9) ∧ (b 13 = true → b 14 = false → w'.heap[g9]? = some (.cells #[.slice none 0 0, .slice none 0 0] 112 (0, 0))) ∧ (b 14 = true → w'.heap[g9]? = some (.cells #[.slice B0 z1.length d0, .slice B1 z2.length d1] 112 (0, 0))) ∧ (b 13 = true → (m13_ : Value) = .pointer (some ⟨g9, 0, none⟩))) HT_.out HW_.out (by kernel_rfl) (by kernel_rfl) ?_ ?_ ?_
         ·exact ⟨0, .bool false, by simp only [putSel, Bool.false_eq_true, if_false], HB6.out, HO1.out, HO2.out, BR.out, HB.out, fun _ => C2.out, fun _ => C3.out, fun _ => CA.out, fun _ => CK.out, fun _ => CL.out, fun h_ => absurd h_ (by decide), fun h_ => absurd h_ (by decide), fun h_ => absurd h_ (by decide), fun h_ => absurd h_ (by decide)⟩
         ·skip
          clear BR C2 C3 CA CK CL HB HB6 HO1 HO2
          refine zfa ?_ ?_
          ·rintro b a w' ⟨g9, m13_, ha, Q_HB6, Q_HO1, Q_HO2, Q_BR, Q_HB, Q_C2, Q_C3, Q_CA, Q_CK, Q_CL, Q_G9, Q_B9, Q_B10, Q_X13_⟩ hb_ hon hoff
           refine ⟨_, rfl, fun K hK => ?_⟩
           have e50 : a.tmps[50]? = some (.pointer (some ⟨g, 0, none⟩)) := by rw [ha]; exact (zlc rfl).trans rfl
           replace ha := za.mk ha
           have HB6 := za.mk Q_HB6
           have HO1 := za.mk Q_HO1
           have HO2 := za.mk Q_HO2
           have BR := za.mk Q_BR
           have HB := za.mk Q_HB
           have C2 := za.mk (Q_C2 (hoff 14 (by kernel_rfl)))
           have C3 := za.mk (Q_C3 (hoff 14 (by kernel_rfl)))
           have CA := za.mk (Q_CA (hoff 14 (by kernel_rfl)))
           have CK := za.mk (Q_CK (hoff 14 (by kernel_rfl)))
           have CL := za.mk (Q_CL (hoff 14 (by kernel_rfl)))
           refine zbd (w1 := w') (v := .pointer (some ⟨g, 0, none⟩)) (by rfl) rfl ?_ ?_
           ·go_simp
            (try simp only [i64_w])
            try rfl
           refine hK.out _ _ ⟨g9, m13_, (by rw [ha.out]; exact zla 0 hb_ rfl rfl rfl), Q_HB6, Q_HO1, Q_HO2, Q_BR, Q_HB, Q_C2, Q_C3, Q_CA, Q_CK, Q_CL, Q_G9, Q_B9, fun h0_ => absurd ((hoff 14 (by kernel_rfl)).symm.trans h0_) (by decide), Q_X13_⟩
          refine zfa ?_ ?_
          ·rintro b a w' ⟨g9, m13_, ha, Q_HB6, Q_HO1, Q_HO2, Q_BR, Q_HB, Q_C2, Q_C3, Q_CA, Q_CK, Q_CL, Q_G9, Q_B9, Q_B10, Q_X13_⟩ hb_ hon hoff
           refine ⟨_, rfl, fun K hK => ?_⟩
           have e51 : a.tmps[51]? = some (.pointer (some ⟨g, 0, none⟩)) := by rw [ha]; exact zxa (e := (1, 51, .pointer (some ⟨g, 0, none⟩))) 0 rfl rfl (hon 1 (by kernel_rfl)) rfl
           replace ha := za.mk ha
           have HB6 := za.mk Q_HB6
           have HO1 := za.mk Q_HO1
           have HO2 := za.mk Q_HO2
           have BR := za.mk Q_BR
           have HB := za.mk Q_HB
           have C2 := za.mk (Q_C2 (hoff 14 (by kernel_rfl)))
           have C3 := za.mk (Q_C3 (hoff 14 (by kernel_rfl)))
           have CA := za.mk (Q_CA (hoff 14 (by kernel_rfl)))
           have CK := za.mk (Q_CK (hoff 14 (by kernel_rfl)))
           have CL := za.mk (Q_CL (hoff 14 (by kernel_rfl)))
           refine zbd (w1 := w') (v := .pointer (some ⟨g, 2, none⟩)) (by rfl) rfl ?_ ?_
           ·go_simp
            (try simp only [i64_w])
            try rfl
           refine hK.out _ _ ⟨g9, m13_, (by rw [ha.out]; exact zla 1 hb_ rfl rfl rfl), Q_HB6, Q_HO1, Q_HO2, Q_BR, Q_HB, Q_C2, Q_C3, Q_CA, Q_CK, Q_CL, Q_G9, Q_B9, fun h0_ => absurd ((hoff 14 (by kernel_rfl)).symm.trans h0_) (by decide), Q_X13_⟩
          refine zfa ?_ ?_
          ·rintro b a w' ⟨g9, m13_, ha, Q_HB6, Q_HO1, Q_HO2, Q_BR, Q_HB, Q_C2, Q_C3, Q_CA, Q_CK, Q_CL, Q_G9, Q_B9, Q_B10, Q_X13_⟩ hb_ hon hoff
           refine ⟨_, rfl, fun K hK => ?_⟩
           have e52 : a.tmps[52]? = some (.pointer (some ⟨g, 2, none⟩)) := by rw [ha]; exact zxa (e := (2, 52, .pointer (some ⟨g, 2, none⟩))) 1 rfl rfl (hon 2 (by kernel_rfl)) rfl
           replace ha := za.mk ha
           have HB6 := za.mk Q_HB6
           have HO1 := za.mk Q_HO1
           have HO2 := za.mk Q_HO2
           have BR := za.mk Q_BR
           have HB := za.mk Q_HB
           have C2 := za.mk (Q_C2 (hoff 14 (by kernel_rfl)))
           have C3 := za.mk (Q_C3 (hoff 14 (by kernel_rfl)))
           have CA := za.mk (Q_CA (hoff 14 (by kernel_rfl)))
           have CK := za.mk (Q_CK (hoff 14 (by kernel_rfl)))
           have CL := za.mk (Q_CL (hoff 14 (by kernel_rfl)))
           have z_ := C2.out
           refine zbd (w1 := w') (v := .slice (some ak) kept.length ck) (by rfl) rfl ?_ ?_
           ·go_simp
            (try simp only [i64_w])
            try rfl
           refine hK.out _ _ ⟨g9, m13_, (by rw [ha.out]; exact zla 2 hb_ rfl rfl rfl), Q_HB6, Q_HO1, Q_HO2, Q_BR, Q_HB, Q_C2, Q_C3, Q_CA, Q_CK, Q_CL, Q_G9, Q_B9, fun h0_ => absurd ((hoff 14 (by kernel_rfl)).symm.trans h0_) (by decide), Q_X13_⟩
          refine zfa ?_ ?_
          ·rintro b a w' ⟨g9, m13_, ha, Q_HB6, Q_HO1, Q_HO2, Q_BR, Q_HB, Q_C2, Q_C3, Q_CA, Q_CK, Q_CL, Q_G9, Q_B9, Q_B10, Q_X13_⟩ hb_ hon hoff
           refine ⟨_, rfl, fun K hK => ?_⟩
           have e54 : a.tmps[54]? = some (.pointer (some ⟨g, 0, none⟩)) := by rw [ha]; exact (zlc rfl).trans rfl
           replace ha := za.mk ha
           have HB6 := za.mk Q_HB6
           have HO1 := za.mk Q_HO1
           have HO2 := za.mk Q_HO2
           have BR := za.mk Q_BR
           have HB := za.mk Q_HB
           have C2 := za.mk (Q_C2 (hoff 14 (by kernel_rfl)))
           have C3 := za.mk (Q_C3 (hoff 14 (by kernel_rfl)))
           have CA := za.mk (Q_CA (hoff 14 (by kernel_rfl)))
           have CK := za.mk (Q_CK (hoff 14 (by kernel_rfl)))
           have CL := za.mk (Q_CL (hoff 14 (by kernel_rfl)))
           refine zbd (w1 := w') (v := .pointer (some ⟨g, 0, none⟩)) (by rfl) rfl ?_ ?_
           ·go_simp
            (try simp only [i64_w])
            try rfl
           refine hK.out _ _ ⟨g9, m13_, (by rw [ha.out]; exact zla 3 hb_ rfl rfl rfl), Q_HB6, Q_HO1, Q_HO2, Q_BR, Q_HB, Q_C2, Q_C3, Q_CA, Q_CK, Q_CL, Q_G9, Q_B9, fun h0_ => absurd ((hoff 14 (by kernel_rfl)).symm.trans h0_) (by decide), Q_X13_⟩
          refine zfa ?_ ?_
          ·rintro b a w' ⟨g9, m13_, ha, Q_HB6, Q_HO1, Q_HO2, Q_BR, Q_HB, Q_C2, Q_C3, Q_CA, Q_CK, Q_CL, Q_G9, Q_B9, Q_B10, Q_X13_⟩ hb_ hon hoff
           refine ⟨_, rfl, fun K hK => ?_⟩
           have e55 : a.tmps[55]? = some (.pointer (some ⟨g, 0, none⟩)) := by rw [ha]; exact zxa (e := (5, 55, .pointer (some ⟨g, 0, none⟩))) 3 rfl rfl (hon 5 (by kernel_rfl)) rfl
           replace ha := za.mk ha
           have HB6 := za.mk Q_HB6
           have HO1 := za.mk Q_HO1
           have HO2 := za.mk Q_HO2
           have BR := za.mk Q_BR
           have HB := za.mk Q_HB
           have C2 := za.mk (Q_C2 (hoff 14 (by kernel_rfl)))
           have C3 := za.mk (Q_C3 (hoff 14 (by kernel_rfl)))
           have CA := za.mk (Q_CA (hoff 14 (by kernel_rfl)))
           have CK := za.mk (Q_CK (hoff 14 (by kernel_rfl)))
           have CL := za.mk (Q_CL (hoff 14 (by kernel_rfl)))
           refine zbd (w1 := w') (v := .pointer (some ⟨g, 3, none⟩)) (by rfl) rfl ?_ ?_
           ·go_simp
            (try simp only [i64_w])
            try rfl
           refine hK.out _ _ ⟨g9, m13_, (by rw [ha.out]; exact zla 4 hb_ rfl rfl rfl), Q_HB6, Q_HO1, Q_HO2, Q_BR, Q_HB, Q_C2, Q_C3, Q_CA, Q_CK, Q_CL, Q_G9, Q_B9, fun h0_ => absurd ((hoff 14 (by kernel_rfl)).symm.trans h0_) (by decide), Q_X13_⟩
          refine zfa ?_ ?_
          ·rintro b a w' ⟨g9, m13_, ha, Q_HB6, Q_HO1, Q_HO2, Q_BR, Q_HB, Q_C2, Q_C3, Q_CA, Q_CK, Q_CL, Q_G9, Q_B9, Q_B10, Q_X13_⟩ hb_ hon hoff
           refine ⟨_, rfl, fun K hK => ?_⟩
           have e56 : a.tmps[56]? = some (.pointer (some ⟨g, 3, none⟩)) := by rw [ha]; exact zxa (e := (6, 56, .pointer (some ⟨g, 3, none⟩))) 4 rfl rfl (hon 6 (by kernel_rfl)) rfl
           replace ha := za.mk ha
           have HB6 := za.mk Q_HB6
           have HO1 := za.mk Q_HO1
           have HO2 := za.mk Q_HO2
           have BR := za.mk Q_BR
           have HB := za.mk Q_HB
           have C2 := za.mk (Q_C2 (hoff 14 (by kernel_rfl)))
           have C3 := za.mk (Q_C3 (hoff 14 (by kernel_rfl)))
           have CA := za.mk (Q_CA (hoff 14 (by kernel_rfl)))
           have CK := za.mk (Q_CK (hoff 14 (by kernel_rfl)))
           have CL := za.mk (Q_CL (hoff 14 (by kernel_rfl)))
           have z_ := C3.out
           refine zbd (w1 := w') (v := .slice (some ad) at_.length ca) (by rfl) rfl ?_ ?_
           ·go_simp
            (try simp only [i64_w])
            try rfl
           refine hK.out _ _ ⟨g9, m13_, (by rw [ha.out]; exact zla 5 hb_ rfl rfl rfl), Q_HB6, Q_HO1, Q_HO2, Q_BR, Q_HB, Q_C2, Q_C3, Q_CA, Q_CK, Q_CL, Q_G9, Q_B9, fun h0_ => absurd ((hoff 14 (by kernel_rfl)).symm.trans h0_) (by decide), Q_X13_⟩
          refine zfa ?_ ?_
          ·rintro b a w' ⟨g9, m13_, ha, Q_HB6, Q_HO1, Q_HO2, Q_BR, Q_HB, Q_C2, Q_C3, Q_CA, Q_CK, Q_CL, Q_G9, Q_B9, Q_B10, Q_X13_⟩ hb_ hon hoff
           refine ⟨_, rfl, fun K hK => ?_⟩
           have e57 : a.tmps[57]? = some (.slice (some ad) at_.length ca) := by rw [ha]; exact zxa (e := (7, 57, .slice (some ad) at_.length ca)) 5 rfl rfl (hon 7 (by kernel_rfl)) rfl
           have e58 : a.tmps[58]? = some (.int .i64 cc) := by rw [ha]; exact (zlc rfl).trans rfl
           replace ha := za.mk ha
           have HB6 := za.mk Q_HB6
           have HO1 := za.mk Q_HO1
           have HO2 := za.mk Q_HO2
           have BR := za.mk Q_BR
           have HB := za.mk Q_HB
           have C2 := za.mk (Q_C2 (hoff 14 (by kernel_rfl)))
           have C3 := za.mk (Q_C3 (hoff 14 (by kernel_rfl)))
           have CA := za.mk (Q_CA (hoff 14 (by kernel_rfl)))
           have CK := za.mk (Q_CK (hoff 14 (by kernel_rfl)))
           have CL := za.mk (Q_CL (hoff 14 (by kernel_rfl)))
           refine zbd (w1 := w') (v := .pointer (some (ad.add cc.toNat))) (by rfl) rfl ?_ ?_
           ·go_simp
            (try simp only [i64_w])
            try rfl
           refine hK.out _ _ ⟨g9, m13_, (by rw [ha.out]; exact zla 6 hb_ rfl rfl rfl), Q_HB6, Q_HO1, Q_HO2, Q_BR, Q_HB, Q_C2, Q_C3, Q_CA, Q_CK, Q_CL, Q_G9, Q_B9, fun h0_ => absurd ((hoff 14 (by kernel_rfl)).symm.trans h0_) (by decide), Q_X13_⟩
          refine zfa ?_ ?_
          ·rintro b a w' ⟨g9, m13_, ha, Q_HB6, Q_HO1, Q_HO2, Q_BR, Q_HB, Q_C2, Q_C3, Q_CA, Q_CK, Q_CL, Q_G9, Q_B9, Q_B10, Q_X13_⟩ hb_ hon hoff
           refine ⟨_, rfl, fun K hK => ?_⟩
           have e59 : a.tmps[59]? = some (.pointer (some (ad.add cc.toNat))) := by rw [ha]; exact zxa (e := (9, 59, .pointer (some (ad.add cc.toNat)))) 6 rfl rfl (hon 9 (by kernel_rfl)) rfl
           replace ha := za.mk ha
           have HB6 := za.mk Q_HB6
           have HO1 := za.mk Q_HO1
           have HO2 := za.mk Q_HO2
           have BR := za.mk Q_BR
           have HB := za.mk Q_HB
           have C2 := za.mk (Q_C2 (hoff 14 (by kernel_rfl)))
           have C3 := za.mk (Q_C3 (hoff 14 (by kernel_rfl)))
           have CA := za.mk (Q_CA (hoff 14 (by kernel_rfl)))
           have CK := za.mk (Q_CK (hoff 14 (by kernel_rfl)))
           have CL := za.mk (Q_CL (hoff 14 (by kernel_rfl)))
           have z_ := CA.out
           refine zbd (w1 := w') (v := .int .i64 (rd at_ cc)) (by rfl) rfl ?_ ?_
           ·go_simp
            (try simp only [i64_w])
            try rfl
           refine hK.out _ _ ⟨g9, m13_, (by rw [ha.out]; exact zla 7 hb_ rfl rfl rfl), Q_HB6, Q_HO1, Q_HO2, Q_BR, Q_HB, Q_C2, Q_C3, Q_CA, Q_CK, Q_CL, Q_G9, Q_B9, fun h0_ => absurd ((hoff 14 (by kernel_rfl)).symm.trans h0_) (by decide), Q_X13_⟩
          refine zfa ?_ ?_
          ·rintro b a w' ⟨g9, m13_, ha, Q_HB6, Q_HO1, Q_HO2, Q_BR, Q_HB, Q_C2, Q_C3, Q_CA, Q_CK, Q_CL, Q_G9, Q_B9, Q_B10, Q_X13_⟩ hb_ hon hoff
           refine ⟨_, rfl, fun K hK => ?_⟩
           have e53 : a.tmps[53]? = some (.slice (some ak) kept.length ck) := by rw [ha]; exact zxa (e := (3, 53, .slice (some ak) kept.length ck)) 2 rfl rfl (hon 3 (by kernel_rfl)) rfl
           have e60 : a.tmps[60]? = some (.int .i64 (rd at_ cc)) := by rw [ha]; exact zxa (e := (10, 60, .int .i64 (rd at_ cc))) 7 rfl rfl (hon 10 (by kernel_rfl)) rfl
           replace ha := za.mk ha
           have HB6 := za.mk Q_HB6
           have HO1 := za.mk Q_HO1
           have HO2 := za.mk Q_HO2
           have BR := za.mk Q_BR
           have HB := za.mk Q_HB
           have C2 := za.mk (Q_C2 (hoff 14 (by kernel_rfl)))
           have C3 := za.mk (Q_C3 (hoff 14 (by kernel_rfl)))
           have CA := za.mk (Q_CA (hoff 14 (by kernel_rfl)))
           have CK := za.mk (Q_CK (hoff 14 (by kernel_rfl)))
           have CL := za.mk (Q_CL (hoff 14 (by kernel_rfl)))
           refine zbd (w1 := w') (v := .pointer (some (ak.add ((rd at_ cc).toNat * 2)))) (by rfl) rfl ?_ ?_
           ·go_simp
            (try simp only [i64_w])
            try rfl
           refine hK.out _ _ ⟨g9, m13_, (by rw [ha.out]; exact zla 8 hb_ rfl rfl rfl), Q_HB6, Q_HO1, Q_HO2, Q_BR, Q_HB, Q_C2, Q_C3, Q_CA, Q_CK, Q_CL, Q_G9, Q_B9, fun h0_ => absurd ((hoff 14 (by kernel_rfl)).symm.trans h0_) (by decide), Q_X13_⟩
          refine zfa ?_ ?_
          ·rintro b a w' ⟨g9, m13_, ha, Q_HB6, Q_HO1, Q_HO2, Q_BR, Q_HB, Q_C2, Q_C3, Q_CA, Q_CK, Q_CL, Q_G9, Q_B9, Q_B10, Q_X13_⟩ hb_ hon hoff
           refine ⟨_, rfl, fun K hK => ?_⟩
           have e61 : a.tmps[61]? = some (.pointer (some (ak.add ((rd at_ cc).toNat * 2)))) := by rw [ha]; exact zxa (e := (11, 61, .pointer (some (ak.add ((rd at_ cc).toNat * 2))))) 8 rfl rfl (hon 11 (by kernel_rfl)) rfl
           replace ha := za.mk ha
           have HB6 := za.mk Q_HB6
           have HO1 := za.mk Q_HO1
           have HO2 := za.mk Q_HO2
           have BR := za.mk Q_BR
           have HB := za.mk Q_HB
           have C2 := za.mk (Q_C2 (hoff 14 (by kernel_rfl)))
           have C3 := za.mk (Q_C3 (hoff 14 (by kernel_rfl)))
           have CA := za.mk (Q_CA (hoff 14 (by kernel_rfl)))
           have CK := za.mk (Q_CK (hoff 14 (by kernel_rfl)))
           have CL := za.mk (Q_CL (hoff 14 (by kernel_rfl)))
           have z_ := CK.out
           have z2_ := CL.out
           refine zbd (w1 := w') (v := .agg #[.slice B0 z1.length d0, .slice B1 z2.length d1]) (by rfl) rfl ?_ ?_
           ·go_simp
            (try simp only [i64_w])
            try rfl
           refine hK.out _ _ ⟨g9, m13_, (by rw [ha.out]; exact zla 9 hb_ rfl rfl rfl), Q_HB6, Q_HO1, Q_HO2, Q_BR, Q_HB, Q_C2, Q_C3, Q_CA, Q_CK, Q_CL, Q_G9, Q_B9, fun h0_ => absurd ((hoff 14 (by kernel_rfl)).symm.trans h0_) (by decide), Q_X13_⟩
          refine zfa ?_ ?_
          ·rintro b a w' ⟨g9, m13_, ha, Q_HB6, Q_HO1, Q_HO2, Q_BR, Q_HB, Q_C2, Q_C3, Q_CA, Q_CK, Q_CL, Q_G9, Q_B9, Q_B10, Q_X13_⟩ hb_ hon hoff
           refine ⟨_, rfl, fun K hK => ?_⟩
           replace ha := za.mk ha
           have HB6 := za.mk Q_HB6
           have HO1 := za.mk Q_HO1
           have HO2 := za.mk Q_HO2
           have BR := za.mk Q_BR
           have HB := za.mk Q_HB
           have C2 := za.mk (Q_C2 (hoff 14 (by kernel_rfl)))
           have C3 := za.mk (Q_C3 (hoff 14 (by kernel_rfl)))
           have CA := za.mk (Q_CA (hoff 14 (by kernel_rfl)))
           have CK := za.mk (Q_CK (hoff 14 (by kernel_rfl)))
           have CL := za.mk (Q_CL (hoff 14 (by kernel_rfl)))
           refine box_step (by rfl) (N := 9) rfl (cs := #[.slice none 0 0, .slice none 0 0]) (t := 112) (by go_simp) ?_
           intro n9 hn9 w1' hbox hb
           have hlt := zpe HB6.out
           have hlt2 := zpe BR.out
           refine hK.out _ _ ⟨n9, (.pointer (some ⟨n9, 0, none⟩)), (by rw [ha.out]; exact zla 10 hb_ rfl rfl rfl), zy HB6.out hb, Kd.zvd HO1.out hb, Kd.zvd HO2.out hb, zy BR.out hb, zk HB.out hb, fun _ => (hb.cell (World.block_lt_of_cell? _ _ C2.out)).trans C2.out, fun _ => (hb.cell (World.block_lt_of_cell? _ _ C3.out)).trans C3.out, fun _ => (hb.cell (World.block_lt_of_cell? _ _ CA.out)).trans CA.out, fun _ => (hb.cell (World.block_lt_of_cell? _ _ CK.out)).trans CK.out, fun _ => (hb.cell (World.block_lt_of_cell? _ _ CL.out)).trans CL.out, fun _ => ⟨by omega, by omega⟩, fun _ _ => hbox, fun h0_ => absurd ((hoff 14 (by kernel_rfl)).symm.trans h0_) (by decide), fun _ => rfl⟩
          refine zfa ?_ ?_
          ·rintro b a w' ⟨g9, m13_, ha, Q_HB6, Q_HO1, Q_HO2, Q_BR, Q_HB, Q_C2, Q_C3, Q_CA, Q_CK, Q_CL, Q_G9, Q_B9, Q_B10, Q_X13_⟩ hb_ hon hoff
           refine ⟨_, rfl, fun K hK => ?_⟩
           have e9 : a.tmps[9]? = some (m13_) := by rw [ha]; exact zxa (e := (13, 9, m13_)) 10 rfl rfl (hon 13 (by kernel_rfl)) rfl
           rw [Q_X13_ (hon 13 (by kernel_rfl))] at e9
           have e62 : a.tmps[62]? = some (.agg #[.slice B0 z1.length d0, .slice B1 z2.length d1]) := by rw [ha]; exact zxa (e := (12, 62, .agg #[.slice B0 z1.length d0, .slice B1 z2.length d1])) 9 rfl rfl (hon 12 (by kernel_rfl)) rfl
           replace ha := za.mk ha
           have HB6 := za.mk Q_HB6
           have HO1 := za.mk Q_HO1
           have HO2 := za.mk Q_HO2
           have BR := za.mk Q_BR
           have HB := za.mk Q_HB
           have C2 := za.mk (Q_C2 hb_)
           have C3 := za.mk (Q_C3 hb_)
           have CA := za.mk (Q_CA hb_)
           have CK := za.mk (Q_CK hb_)
           have CL := za.mk (Q_CL hb_)
           have G9 := za.mk (Q_G9 (hon 13 (by kernel_rfl)))
           have B9 := za.mk (Q_B9 (hon 13 (by kernel_rfl)) hb_)
           have hg0 : w.heap.size ≤ g9 := by have := G9.out.2; omega
           have f0 := zxb B9.out 0
           have f1 := zxb B9.out 1
           have t0 := (zl B9.out 0).trans rfl
           have t1 := (zl B9.out 1).trans rfl
           refine skip_ (w1 := ?_) (by rfl) rfl ?_ ?_
           rotate_left
           ·go_simp
            rfl
           refine hK.out _ _ ⟨g9, m13_, (by rw [ha.out]; exact putSel_none (v := undef) rfl), zre (zre HB6.out (Nat.ne_of_lt G9.out.1) _) (Nat.ne_of_lt G9.out.1) _, Kd.R_set (Kd.R_set HO1.out B9.out (by decide) _ _) (blk_set B9.out _ _) (by decide) _ _, Kd.R_set (Kd.R_set HO2.out B9.out (by decide) _ _) (blk_set B9.out _ _) (by decide) _ _, zre (zre BR.out (Nat.ne_of_lt G9.out.2) _) (Nat.ne_of_lt G9.out.2) _, (HB.out.setCell hg0 _).setCell hg0 _, fun h0_ => absurd ((zie b 14).symm.trans h0_) (by decide), fun h0_ => absurd ((zie b 14).symm.trans h0_) (by decide), fun h0_ => absurd ((zie b 14).symm.trans h0_) (by decide), fun h0_ => absurd ((zie b 14).symm.trans h0_) (by decide), fun h0_ => absurd ((zie b 14).symm.trans h0_) (by decide), Q_G9, fun _ h1_ => absurd ((zie b 14).symm.trans h1_) (by decide), fun _ => blk_set (blk_set B9.out _ _) _ _, Q_X13_⟩
          exact steps_nil
         rintro b a wl hall ⟨g9, m13_, ha, Q_HB6, Q_HO1, Q_HO2, Q_BR, Q_HB, Q_C2, Q_C3, Q_CA, Q_CK, Q_CL, Q_G9, Q_B9, Q_B10, Q_X13_⟩
         clear BR C2 C3 CA CK CL HB HB6 HO1 HO2
         have hb1_ := hall 1 (by kernel_rfl)
         have hb2_ := hall 2 (by kernel_rfl)
         have hb3_ := hall 3 (by kernel_rfl)
         have hb5_ := hall 5 (by kernel_rfl)
         have hb6_ := hall 6 (by kernel_rfl)
         have hb7_ := hall 7 (by kernel_rfl)
         have hb9_ := hall 9 (by kernel_rfl)
         have hb10_ := hall 10 (by kernel_rfl)
         have hb11_ := hall 11 (by kernel_rfl)
         have hb12_ := hall 12 (by kernel_rfl)
         have hb13_ := hall 13 (by kernel_rfl)
         have hb14_ := hall 14 (by kernel_rfl)
         subst ha
         obtain rfl := Q_X13_ hb13_
         simp only [putSel, hb1_, hb2_, hb3_, hb5_, hb6_, hb7_, hb9_, hb10_, hb11_, hb12_, hb13_, hb14_, if_true, Act.put, List.setIfInBounds_toArray, List.set_cons_zero, List.set_cons_succ]
         have HB6 := za.mk Q_HB6
         clear Q_HB6
         have HO1 := za.mk Q_HO1
         clear Q_HO1
         have HO2 := za.mk Q_HO2
         clear Q_HO2
         have BR := za.mk Q_BR
         clear Q_BR
         have HB := za.mk Q_HB
         clear Q_HB
         clear Q_C2
         clear Q_C3
         clear Q_CA
         clear Q_CK
         clear Q_CL
         have G9 := za.mk (Q_G9 hb13_)
         clear Q_G9
         clear Q_B9
         have B10 := za.mk (Q_B10 hb14_)
         clear Q_B10
         clear hall hb1_ hb2_ hb3_ hb5_ hb6_ hb7_ hb9_ hb10_ hb11_ hb12_ hb13_ hb14_
         have q60 : wl.cell? ⟨g6, 0, none⟩ = some (.slice Ao1 row'.length co1) := (zl HB6.out 0).trans rfl
         have q90 : wl.cell? ⟨g9, 0, none⟩ = some (.slice B0 z1.length d0) := (zl B10.out 0).trans rfl
         go_wp2_with fail
         refine (zxc.calls k1 Ao1 co1 row' B0 d0 z1 x1 x2 _ (Kd.zsb HO1.out).2.2 (Kd.zsb HO1.out).2.1 (Kd.znd HC0.out HB.out) HL.out.1 HX.out).mono ?_
         rintro e w4 ⟨u1, rfl, ho, hb⟩
         have n1_ := za.mk (zy HB6.out hb)
         have n3_ := za.mk (Kd.zvd HO2.out hb)
         have n4_ := za.mk (zy BR.out hb)
         have n5_ := za.mk (zk HB.out hb)
         have n6_ := za.mk (zy B10.out hb)
         have n2_ := za.mk (Kd.zcd ho HB.out.size)
         clear HB6 HO1 HO2 BR HB B10 q60 q90 ho hb
         have HB6 := n1_
         have HO1 := n2_
         have HO2 := n3_
         have BR := n4_
         have HB := n5_
         have B10 := n6_
         clear n1_ n2_ n3_ n4_ n5_ n6_
         obtain ⟨Ao3, co3, eo_⟩ := Kd.zsc HO1.out
         subst eo_
         have q60 : w4.cell? ⟨g6, 0, none⟩ = some (.slice Ao1 row'.length co1) := (zl HB6.out 0).trans rfl
         have f60 : w4.frozen? ⟨g6, 0, none⟩ = false := zxb HB6.out 0
         have hg6 : w.heap.size ≤ g6 := by have := HG6.out; omega
         have hn9 : g9 ≠ g6 := by have := G9.out.1; omega
         have hnR : w.heap.size + 1 ≠ g6 := by have := HG6.out; omega
         have q91 : (w4.setCell ⟨g6, 0, none⟩ (.slice Ao3 x1.length co3)).cell? ⟨g9, 1, none⟩ = some (.slice B1 z2.length d1) := (zl (zre B10.out hn9 _) 1).trans rfl
         have q61 : (w4.setCell ⟨g6, 0, none⟩ (.slice Ao3 x1.length co3)).cell? ⟨g6, 1, none⟩ = some (.slice Ao2 sym'.length co2) := (zl (zzc (cs' := #[.slice Ao3 x1.length co3, .slice Ao2 sym'.length co2]) HB6.out 0 _ rfl) 1).trans rfl
         have n1_ := za.mk (zzc (cs' := #[.slice Ao3 x1.length co3, .slice Ao2 sym'.length co2]) HB6.out 0 (.slice Ao3 x1.length co3) rfl)
         have n2_ := za.mk (Kd.R_set HO1.out HB6.out (by decide) 0 (.slice Ao3 x1.length co3))
         have n3_ := za.mk (Kd.R_set HO2.out HB6.out (by decide) 0 (.slice Ao3 x1.length co3))
         have n4_ := za.mk (zre BR.out hnR (p := ⟨g6, 0, none⟩) (.slice Ao3 x1.length co3))
         have n5_ := za.mk (zg (j := 0) (v := .slice Ao3 x1.length co3) HB.out hg6)
         clear HB6 HO1 HO2 BR HB B10
         have HB6 := n1_
         have HO1 := n2_
         have HO2 := n3_
         have BR := n4_
         have HB := n5_
         clear n1_ n2_ n3_ n4_ n5_
         go_wp2_with fail
         clear q60 f60
         generalize w4.setCell ⟨g6, 0, none⟩ (.slice Ao3 x1.length co3) = w5 at *
         refine (zkf.calls k1 Ao2 co2 sym' B1 d1 z2 y1 y2 _ (Kd.zsb HO2.out).2.2 (Kd.zsb HO2.out).2.1 (Kd.znd HC1.out HB.out) HL.out.2 HY.out).mono ?_
         rintro e w6 ⟨u2, rfl, ho, hb⟩
         have n1_ := za.mk (zy HB6.out hb)
         have n2_ := za.mk (Kd.zvd HO1.out hb)
         have n4_ := za.mk (zy BR.out hb)
         have n5_ := za.mk (zk HB.out hb)
         have n3_ := za.mk (Kd.zcd ho HB.out.size)
         clear HB6 HO1 HO2 BR HB q61 q91 ho hb
         have HB6 := n1_
         have HO1 := n2_
         have HO2 := n3_
         have BR := n4_
         have HB := n5_
         clear n1_ n2_ n3_ n4_ n5_
         obtain ⟨Ao4, co4, eo_⟩ := Kd.zsc HO2.out
         subst eo_
         have q61 : w6.cell? ⟨g6, 1, none⟩ = some (.slice Ao2 sym'.length co2) := (zl HB6.out 1).trans rfl
         have f61 : w6.frozen? ⟨g6, 1, none⟩ = false := zxb HB6.out 1
         go_wp2
         go_roundg k1
         case measure => omega
         case rel => exact ⟨x1, y1, cc + 1, ff, _, _, rfl, by first | rfl | rw [← i64_w, HWR.out] | rw [HWR.out], HF2, ⟨zzc (cs' := #[.slice Ao3 x1.length co3, .slice Ao4 y1.length co4]) HB6.out 1 _ rfl⟩, ⟨Kd.R_set HO1.out HB6.out (by decide) _ _⟩, ⟨Kd.R_set HO2.out HB6.out (by decide) _ _⟩, ⟨zre BR.out hnR _⟩, ⟨zg HB.out hg6⟩⟩
        ·rw [if_neg t6] at H
         exact absurd H (by simp)
      ·rw [if_neg t3] at H
       exact absurd H (by simp)
    ·rw [if_neg t2] at H
     have b2 : decide (cc < n) = false := decide_eq_false t2
     simp only [Option.some.injEq, Prod.mk.injEq] at H
     obtain ⟨rfl, rfl, rfl⟩ := H
     have q0 : wr.cell? ⟨g, 0, none⟩ = some (.int .i64 n) := (zl (zy HS.out HB.out) 0).trans rfl
     have q60 : wr.cell? ⟨g6, 0, none⟩ = some (.slice Ao1 row'.length co1) := (zl HB6.out 0).trans rfl
     have q61 : wr.cell? ⟨g6, 1, none⟩ = some (.slice Ao2 sym'.length co2) := (zl HB6.out 1).trans rfl
     have r0 : wr.cell? ⟨w.heap.size + 1, 0, none⟩ = some (.slice none 0 0) := (zl BR.out 0).trans rfl
     have r1 : wr.cell? ⟨w.heap.size + 1, 1, none⟩ = some (.slice none 0 0) := (zl BR.out 1).trans rfl
     have f0 : wr.frozen? ⟨w.heap.size + 1, 0, none⟩ = false := zxb BR.out 0
     have f1 : wr.frozen? ⟨w.heap.size + 1, 1, none⟩ = false := zxb BR.out 1
     go_wp2
     refine bodyPost_ret (results_ct rfl _ _ (w.heap.size + 1) 112 #[.slice Ao1 row'.length co1, .slice Ao2 sym'.length co2] (0, 0) _ rfl (zzc (cs := #[.slice Ao1 row'.length co1, .slice none 0 0]) (zzc (cs := #[.slice none 0 0, .slice none 0 0]) BR.out 0 _ rfl) 1 _ rfl) Tryz.underlying112 rfl (by kernel_rfl)) rfl ⟨_, _, rfl, Kd.R_set (Kd.R_set HO1.out BR.out (by decide) _ _) (blk_set BR.out _ _) (by decide) _ _, Kd.R_set (Kd.R_set HO2.out BR.out (by decide) _ _) (blk_set BR.out _ _) (by decide) _ _, zg (zg HB.out (by omega)) (by omega)⟩
   ·rw [if_neg t1] at H
    have b1 : decide (cc ≥ 0) = false := decide_eq_false t1
    simp only [Option.some.injEq, Prod.mk.injEq] at H
    obtain ⟨rfl, rfl, rfl⟩ := H
    have q0 : wr.cell? ⟨g, 0, none⟩ = some (.int .i64 n) := (zl (zy HS.out HB.out) 0).trans rfl
    have q60 : wr.cell? ⟨g6, 0, none⟩ = some (.slice Ao1 row'.length co1) := (zl HB6.out 0).trans rfl
    have q61 : wr.cell? ⟨g6, 1, none⟩ = some (.slice Ao2 sym'.length co2) := (zl HB6.out 1).trans rfl
    have r0 : wr.cell? ⟨w.heap.size + 1, 0, none⟩ = some (.slice none 0 0) := (zl BR.out 0).trans rfl
    have r1 : wr.cell? ⟨w.heap.size + 1, 1, none⟩ = some (.slice none 0 0) := (zl BR.out 1).trans rfl
    have f0 : wr.frozen? ⟨w.heap.size + 1, 0, none⟩ = false := zxb BR.out 0
    have f1 : wr.frozen? ⟨w.heap.size + 1, 1, none⟩ = false := zxb BR.out 1
    go_wp2
    refine bodyPost_ret (results_ct rfl _ _ (w.heap.size + 1) 112 #[.slice Ao1 row'.length co1, .slice Ao2 sym'.length co2] (0, 0) _ rfl (zzc (cs := #[.slice Ao1 row'.length co1, .slice none 0 0]) (zzc (cs := #[.slice none 0 0, .slice none 0 0]) BR.out 0 _ rfl) 1 _ rfl) Tryz.underlying112 rfl (by kernel_rfl)) rfl ⟨_, _, rfl, Kd.R_set (Kd.R_set HO1.out BR.out (by decide) _ _) (blk_set BR.out _ _) (by decide) _ _, Kd.R_set (Kd.R_set HO2.out BR.out (by decide) _ _) (blk_set BR.out _ _) (by decide) _ _, zg (zg HB.out (by omega)) (by omega)⟩
def zde.f (a0 : Int) : Option (Int) := if a0 < 0 then (some 0) else (if a0 > 4096 then (some 0) else (some (wrap64 (Int.tdiv (wrap64 (a0 + 63)) 64))))
theorem zde.calls (a0 : Int) (r : Int) (w : World) (h : zde.f a0 = some r) :
  Calls Tryz.prog 77 #[.int .i64 a0] w fun e w' => e = .returned (.int .i64 r) ∧ zz w w' := by
 have H : (if a0 < 0 then (some 0) else (if a0 > 4096 then (some 0) else (some (wrap64 (Int.tdiv (wrap64 (a0 + 63)) 64))))) = some r := h
 clear h
 by_cases c2 : a0 < 0
 ·rw [if_pos c2] at H
  have c2b0 : decide (a0 < 0) = true := decide_eq_true c2
  clear c2
  obtain rfl := Option.some.inj H
  go_enter Tryz.func77, Tryz.ntmps77
  go_wp2
  go_ret
  exact ⟨by first | rfl | (simp; done) | (simp [*]; done), by repeat (first | exact zz.refl _ | apply zz.step)⟩
 ·rw [if_neg c2] at H
  have c2b0 : decide (a0 < 0) = false := decide_eq_false c2
  clear c2
  by_cases c3 : a0 > 4096
  ·rw [if_pos c3] at H
   have c3b0 : decide (4096 < a0) = true := decide_eq_true c3
   clear c3
   obtain rfl := Option.some.inj H
   go_enter Tryz.func77, Tryz.ntmps77
   go_wp2
   go_ret
   exact ⟨by first | rfl | (simp; done) | (simp [*]; done), by repeat (first | exact zz.refl _ | apply zz.step)⟩
  ·rw [if_neg c3] at H
   have c3b0 : decide (4096 < a0) = false := decide_eq_false c3
   clear c3
   obtain rfl := Option.some.inj H
   go_enter Tryz.func77, Tryz.ntmps77
   go_wp2
   go_ret
   exact ⟨by first | rfl | (simp; done) | (simp [*]; done), by repeat (first | exact zz.refl _ | apply zz.step)⟩
theorem elim_fits.go (g : Nat) (n size : Int) (kept : List EQ2) (at_ : List Int) (cl : Bool) (A1 : Option Addr) (c1 : Nat) (row : List Int) (w : World) (h : SysR w g n size kept at_ cl) (hn0 : 0 ≤ n) (hn1 : n ≤ 4096) (hz : zde.f n = some (row.length : Int)) (h64 : n % 64 ≠ 0) (hr : Kd.C (Kd.int .u64) w A1 row.length row) (hl : 0 < row.length) (hx : rd row ((row.length : Int) - 1) / 2 ^ (n % 64).toNat = 0) :
  Calls Tryz.prog 65 #[.pointer (some ⟨g, 0, none⟩), .slice A1 row.length c1] w fun e w' => e = .returned (.bool true) ∧ zz w w' := by
 obtain ⟨Ak, ck, Aa, ca, h1, h2, h3, h4, h5⟩ := h.out
 have c0 : w.cell? ⟨g, 0, none⟩ = some (.int .i64 n) := (zl h1 0).trans rfl
 obtain ⟨ad, e, hc⟩ := Kd.zqe hr ((row.length : Int) - 1) (by omega) (by omega)
 cases e
 have hmax := Kd.C_max hr
 rw [show ((row.length : Int) - 1).toNat = row.length - 1 from by omega] at hc
 have H1 := za.mk h1
 have H3 := za.mk h3
 have H5 := za.mk h5
 have HR := za.mk hr
 have HZ := za.mk hz
 have eb : ((n % 64) == 0) = false := beq_eq_false_iff_ne.mpr h64
 have es : ((row.length : Int) == (row.length : Int)) = true := by simp
 have ht : n.tmod 64 = n % 64 := Int.tmod_eq_emod_of_nonneg hn0
 have hi0 : 0 ≤ (row.length : Int) - 1 := by omega
 have hi1 : (row.length : Int) - 1 < (row.length : Int) := by omega
 have hi2 : 1 ≤ (row.length : Int) := by omega
 have hi3 : decide (0 ≤ (row.length : Int) - 1) = true := decide_eq_true hi0
 have hw : IntKind.i64.wrap ((row.length : Int) - 1) = (row.length : Int) - 1 := IntWalk.i64_in _ (by omega)
 have hi4 : decide ((row.length : Int) - 1 < (row.length : Int)) = true := decide_eq_true hi1
 clear h1 h3 h5 h hr hz h64
 have HX := za.mk hx
 clear hx
 go_enter Tryz.func65, Tryz.ntmps65
 go_wp2_with fail
 go_quiet ((go_at_call 77; exact Calls.quiet_of ((zde.calls n _ _ HZ.out).mono fun _ _ hz => ⟨hz.1, hz.2.out⟩)))
 go_wp2
 go_ret
 refine ⟨?_, by repeat (first | exact zz.refl _ | apply zz.step)⟩
 show Ending.returned (.bool (rd row ((row.length : Int) - 1) / 2 ^ (n % 64).toNat == 0)) = _
 rw [HX.out]
 rfl
theorem elim_fits.go0 (g : Nat) (n size : Int) (kept : List EQ2) (at_ : List Int) (cl : Bool) (A1 : Option Addr) (c1 : Nat) (row : List Int) (w : World) (h : SysR w g n size kept at_ cl) (hn0 : 0 ≤ n) (hn1 : n ≤ 4096) (hz : zde.f n = some (row.length : Int)) (h64 : n % 64 = 0) :
  Calls Tryz.prog 65 #[.pointer (some ⟨g, 0, none⟩), .slice A1 row.length c1] w fun e w' => e = .returned (.bool true) ∧ zz w w' := by
 obtain ⟨Ak, ck, Aa, ca, h1, h2, h3, h4, h5⟩ := h.out
 have c0 : w.cell? ⟨g, 0, none⟩ = some (.int .i64 n) := (zl h1 0).trans rfl
 have H1 := za.mk h1
 have H3 := za.mk h3
 have H5 := za.mk h5
 have HZ := za.mk hz
 have eb : ((n % 64) == 0) = true := beq_iff_eq.mpr h64
 have es : ((row.length : Int) == (row.length : Int)) = true := by simp
 have ht : n.tmod 64 = n % 64 := Int.tmod_eq_emod_of_nonneg hn0
 clear h1 h3 h5 h hz h64
 go_enter Tryz.func65, Tryz.ntmps65
 go_wp2_with fail
 go_quiet ((go_at_call 77; exact Calls.quiet_of ((zde.calls n _ _ HZ.out).mono fun _ _ hz => ⟨hz.1, hz.2.out⟩)))
 go_wp2
 go_ret
 exact ⟨rfl, by repeat (first | exact zz.refl _ | apply zz.step)⟩
structure Fits (n : Int) (row : List Int) : Prop where
 lo : 0 ≤ n
 hi : n ≤ 4096
 size : zde.f n = some (row.length : Int)
 top : n % 64 = 0 ∨ (0 < row.length ∧ rd row ((row.length : Int) - 1) / 2 ^ (n % 64).toNat = 0)
theorem elim_fits.calls (g : Nat) (n size : Int) (kept : List EQ2) (at_ : List Int) (cl : Bool) (A1 : Option Addr) (c1 : Nat) (row : List Int) (w : World) (h : SysR w g n size kept at_ cl) (hr : Kd.C (Kd.int .u64) w A1 row.length row) (hf : Fits n row) :
  Calls Tryz.prog 65 #[.pointer (some ⟨g, 0, none⟩), .slice A1 row.length c1] w fun e w' => e = .returned (.bool true) ∧ zz w w' := by
 by_cases h64 : n % 64 = 0
 ·exact elim_fits.go0 g n size kept at_ cl A1 c1 row w h hf.lo hf.hi hf.size h64
 ·rcases hf.top with h | ⟨h0, h1⟩
  ·exact absurd h h64
  ·exact elim_fits.go g n size kept at_ cl A1 c1 row w h hf.lo hf.hi hf.size h64 hr h0 h1
def zyd.l0 : Nat → List Int → Int → Int → Option (Bool)
 | 0, _, _, _ => none
 | k + 1, x5, x6, x7 => if x7 < x6 then (if 0 ≤ x7 then (if x7 < (x5.length : Int) then (if (rd x5 x7) = 0 then (zyd.l0 k x5 x6 (wrap64 (x7 + 1))) else (some false)) else (none)) else (none)) else (some true)
def zyd.f (k : Nat) (l0 : List Int) : Option (Bool) := zyd.l0 k l0 (l0.length : Int) 0
theorem zyd.calls (k : Nat) (A0 : Option Addr) (c0 : Nat) (l0 : List Int) (r : Bool) (w : World) (hr0 : Kd.C (Kd.int .u8) w A0 l0.length l0) (hc0 : l0.length ≤ c0) (h : zyd.f k l0 = some r) :
  Calls Tryz.prog 67 #[.slice A0 l0.length c0] w fun e w' => e = .returned (.bool r) ∧ zz w w' := by
 have HR0 := za.mk hr0
 have HC0 := za.mk hc0
 clear hr0 hc0
 have H : (zyd.l0 k l0 (l0.length : Int) 0) = some r := h
 clear h
 have H' := za.mk H
 clear H
 go_enter Tryz.func67, Tryz.ntmps67
 go_wp2
 go_loopg [7] k (fun kq v7 w' => ∃ (x7_1 : Int), v7 = .int .i64 x7_1 ∧ za (zyd.l0 kq l0 (l0.length : Int) x7_1 = some r) ∧ za (kq ≤ k) ∧ zz w w')
 case atStart => exact ⟨(0), (by first | rfl | simp [*]), H', ⟨Nat.le_refl _⟩, by repeat (first | exact zz.refl _ | apply zz.step)⟩
 case round =>
  clear H'
  obtain ⟨x7_1, rfl, HA, HK1, ⟨m1, rfl⟩⟩ := hrel
  cases gk with
  | zero => exact absurd HA.out (by simp [zyd.l0])
  | succ k1 =>
   have H := HA.out
   clear HA
   simp only [zyd.l0] at H
   by_cases c2 : x7_1 < (l0.length : Int)
   ·rw [if_pos c2] at H
    have c2b0 : decide (x7_1 < (l0.length : Int)) = true := decide_eq_true c2
    clear c2
    by_cases c3 : 0 ≤ x7_1
    ·rw [if_pos c3] at H
     have c3b0 : decide (0 ≤ x7_1) = true := decide_eq_true c3
     clear c3
     by_cases c4 : x7_1 < (l0.length : Int)
     ·rw [if_pos c4] at H
      have c4b0 : decide (x7_1 < (l0.length : Int)) = true := decide_eq_true c4
      clear c4
      by_cases c5 : (rd l0 x7_1) = 0
      ·rw [if_pos c5] at H
       have c5b0 : ((rd l0 x7_1) == 0) = true := beq_iff_eq.mpr c5
       have c5b1 : ((rd l0 x7_1) != 0) = false := bne_eq_false_iff_eq.mpr c5
       clear c5
       have H' := za.mk H
       clear H
       have p366 : 0 ≤ (x7_1 : Int) := of_decide_eq_true (by first | (with_reducible assumption) | assumption)
       have q366 : x7_1 < (l0.length : Int) := of_decide_eq_true (by first | (with_reducible assumption) | assumption)
       obtain ⟨ad366, e366, hx366_0⟩ := Kd.zqe HR0.out x7_1 p366 q366
       cases e366
       replace p366 := eq_true p366
       replace q366 := eq_true q366
       go_wp2
       go_roundg k1
       case measure => have := HK1.out; omega
       case rel => exact ⟨(wrap64 (x7_1 + 1)), (by first | rfl | simp [*]), H', ⟨by have := HK1.out; omega⟩, by repeat (first | exact zz.refl _ | apply zz.step)⟩
      ·rw [if_neg c5] at H
       have c5b0 : ((rd l0 x7_1) == 0) = false := beq_eq_false_iff_ne.mpr c5
       have c5b1 : ((rd l0 x7_1) != 0) = true := bne_iff_ne.mpr c5
       obtain rfl := Option.some.inj H
       have p366 : 0 ≤ (x7_1 : Int) := of_decide_eq_true (by first | (with_reducible assumption) | assumption)
       have q366 : x7_1 < (l0.length : Int) := of_decide_eq_true (by first | (with_reducible assumption) | assumption)
       obtain ⟨ad366, e366, hx366_0⟩ := Kd.zqe HR0.out x7_1 p366 q366
       cases e366
       replace p366 := eq_true p366
       replace q366 := eq_true q366
       go_wp2
       go_ret
       exact ⟨by first | rfl | (simp; done) | (simp [*]; done), by repeat (first | exact zz.refl _ | apply zz.step)⟩
     ·rw [if_neg c4] at H
      exact absurd H (by simp)
    ·rw [if_neg c3] at H
     exact absurd H (by simp)
   ·rw [if_neg c2] at H
    have c2b0 : decide (x7_1 < (l0.length : Int)) = false := decide_eq_false c2
    clear c2
    obtain rfl := Option.some.inj H
    go_wp2
    go_ret
    exact ⟨by first | rfl | (simp; done) | (simp [*]; done), by repeat (first | exact zz.refl _ | apply zz.step)⟩
theorem ty_ne {w : World} {g k t q : Nat} {cs cells : Array Value} (hb : w.heap[g]? = some (.cells cs t (0, 0))) (hk : w.heap[k]? = some (.cells cells q (0, 0))) (hne : q ≠ t) : k ≠ g := blk_ne hk hb hne
theorem own_ne {w : World} {v : Value} {k t q : Nat} {cells : Array Value} (hty : ∀ k, v.ownBlock = some k → ∃ cells, w.heap[k]? = some (.cells cells t (0, 0))) (hk : w.heap[k]? = some (.cells cells q (0, 0))) (hne : q ≠ t) : some k ≠ v.ownBlock := fun he => by
 obtain ⟨c, hc⟩ := hty k he.symm
 exact blk_ne hk hc hne rfl
theorem info112 : (Tryz.prog.info? 112).map (fun i => (i.zero, i.size, i.bytes)) = some (some (.agg #[(.slice none 0 0), (.slice none 0 0)]), 2, 48) := by kernel_rfl
def zkd.f (k : Nat) (n : Int) (kept : List EQ2) (at_ : List Int) (row sym : List Int) : Option (Int × List EQ2 × List Int × Bool) :=
 (zdc.f k n kept at_ row sym).bind fun d => if 0 ≤ d.2.2 then (if d.2.2 < (at_.length : Int) then (if kept.length ≤ 1000000 then some (1, kept ++ [(d.1, d.2.1)], at_.set d.2.2.toNat (kept.length : Int), false) else none) else none) else ((zyd.f k d.2.1).bind fun z => if z = true then some (2, kept, at_, false) else some (3, kept, at_, true))
def zkd.T7 : Bool × List (List Nat × List Nat) := (true, [([], []), ([0], [0]), ([1], [1]), ([2], [2]), ([], []), ([], []), ([5], [5]), ([6], [6]), ([7], [7]), ([8], [8]), ([3, 4, 0, 1, 2, 3, 4, 5, 6, 7, 8, 9], [3, 4]), ([10, 9, 0, 1, 2, 3, 4, 5, 6, 7, 8, 9], [9, 10])])
def zkd.B7 : List Nat := [0, 1, 3, 7, 0, 0, 32, 96, 224, 480, 1023, 2047]
theorem zkd.tab7 : rtab .any (opsOf Tryz.f42 7) = zkd.T7 := by kernel_rfl
theorem zkd.bits7 : waitsOk zkd.T7.2 zkd.B7 = true := by kernel_rfl
def zkd.T8 : Bool × List (List Nat × List Nat) := (true, [([], []), ([], []), ([1], [1]), ([2], [2]), ([3], [3]), ([], []), ([5], [5]), ([4, 6], [4, 6]), ([0, 0, 1, 2, 3, 4, 5, 6, 7], [0]), ([8, 0, 1, 2, 3, 4, 5, 6, 7], [8]), ([9, 7, 7, 0, 1, 2, 3, 4, 5, 6, 7], [7, 9])])
def zkd.B8 : List Nat := [0, 0, 2, 6, 14, 0, 32, 126, 255, 511, 1023]
theorem zkd.tab8 : rtab .any (opsOf Tryz.f42 8) = zkd.T8 := by kernel_rfl
theorem zkd.bits8 : waitsOk zkd.T8.2 zkd.B8 = true := by kernel_rfl
theorem zkd.calls (k : Nat) (base : Nat) (P : Nat → Prop) (g : Nat) (n size : Int) (kept : List EQ2) (at_ : List Int) (A1 : Option Addr) (c1 : Nat) (row : List Int) (A2 : Option Addr) (c2 : Nat) (sym : List Int) (r0 : Int) (kept' : List EQ2) (at' : List Int) (cl' : Bool) (w : World)
  (h : SysO w base P g n size kept at_ false) (hr1 : Kd.C (Kd.int .u64) w A1 row.length row) (hr2 : Kd.C (Kd.int .u8) w A2 sym.length sym) (hT : Tab w) (hF : Fits n row) (hs : (sym.length : Int) = size) (hf : zkd.f k n kept at_ row sym = some (r0, kept', at', cl')) :
  Calls Tryz.prog 42 #[.pointer (some ⟨g, 0, none⟩), .slice A1 row.length c1, .slice A2 sym.length c2] w fun e w' => e = .returned (.tuple #[.int .i64 r0, .nilIface]) ∧ SysO w' base (fun k => P k ∨ w.heap.size ≤ k) g n size kept' at' cl' ∧ Below base w w' ∧ Kept w w' P := by
 obtain ⟨vk, va, h1, hbg, hpg, h4, h5⟩ := h.out
 obtain ⟨Ak, ck, rfl⟩ := Kd.zbf h4
 obtain ⟨Aa, ca, rfl⟩ := Kd.zsc h5
 have HBG : za (base ≤ g ∧ P g ∧ g < w.heap.size) := ⟨hbg, hpg, zpe h1⟩
 have hbw : base ≤ w.heap.size := by have := zpe h1; omega
 have HSYS := za.mk h.reads
 have HG := za.mk h1
 have HN := za.mk h4
 have HA := za.mk h5
 have HR1 := za.mk hr1
 have HR2 := za.mk hr2
 have HT := za.mk hT
 have HF := za.mk hF
 subst hs
 have c0 : w.cell? ⟨g, 1, none⟩ = some (.int .i64 (sym.length : Int)) := (zl h1 1).trans rfl
 have c4 : w.cell? ⟨g, 4, none⟩ = some (.bool false) := (zl h1 4).trans rfl
 have es : ((sym.length : Int) == (sym.length : Int)) = true := by simp
 unfold zkd.f at hf
 obtain ⟨⟨d1, d2, d3⟩, hd, hf⟩ := Option.bind_eq_some_iff.mp hf
 unfold zdc.f at hd
 by_cases x1 : n ≤ 4096
 case neg => rw [if_neg x1] at hd; exact absurd hd (by simp)
 by_cases x2 : row.length ≤ 1000000
 case neg => rw [if_pos x1, if_neg x2] at hd; exact absurd hd (by simp)
 by_cases x3 : sym.length ≤ 1000000
 case neg => rw [if_pos x1, if_pos x2, if_neg x3] at hd; exact absurd hd (by simp)
 rw [if_pos x1, if_pos x2, if_pos x3] at hd
 obtain ⟨c, hc, hd⟩ := Option.bind_eq_some_iff.mp hd
 by_cases x4 : -1 ≤ c
 case neg => rw [if_neg x4] at hd; exact absurd hd (by simp)
 by_cases x5 : c ≤ 100000000
 case neg => rw [if_pos x4, if_neg x5] at hd; exact absurd hd (by simp)
 rw [if_pos x4, if_pos x5] at hd
 have HFIN := za.mk hf
 clear hf h h1 h4 h5 hr1 hr2 hT hF
 have HD : za (∀ w2, Below w.heap.size w w2 → Calls Tryz.prog 66 #[.pointer (some ⟨g, 0, none⟩), .agg #[.slice A1 row.length c1, .slice A2 sym.length c2]] w2 fun e w' => ∃ v1 v2, e = .returned (.tuple #[.agg #[v1, v2], .int .i64 d3]) ∧ Kd.R (Kd.int .u64) 104 w' w2.heap.size (fun _ => True) v1 d1 ∧ Kd.R (Kd.int .u8) 5 w' w2.heap.size (fun _ => True) v2 d2 ∧ Below w2.heap.size w2 w') := ⟨fun w2 hb => zdc.go k g n _ kept at_ false A1 c1 row A2 c2 sym d1 d2 d3 c w2 (SysR.below HSYS.out hb) (Kd.znd HR1.out hb) (Kd.znd HR2.out hb) (Tab.below HT.out hb) x1 x2 x3 hc x4 x5 hd⟩
 clear hc hd x1 x4 x5
 go_enter Tryz.func42, Tryz.ntmps42
 go_wp2_with fail
 refine (elim_fits.calls g n _ kept at_ false A1 c1 row _ HSYS.out HR1.out HF.out).mono ?_
 rintro e w1 ⟨rfl, ⟨m1, rfl⟩⟩
 go_wp2_with fail
 refine (HD.out _ (zb (Below.refl _ _) _)).mono ?_
 rintro e w1 ⟨v1, v2, rfl, e1, e2, hb⟩
 have hsz : (w.drewN m1).heap.size = w.heap.size := rfl
 rw [hsz] at e1 e2 hb
 have n1_ := za.mk (zy (zh HG.out m1) hb)
 have n2_ := za.mk (Kd.N_below (Kd.zjc HN.out m1) hb)
 have n3_ := za.mk (Kd.zvd (Kd.zja HA.out m1) hb)
 have HB := za.mk (zk (zb (Below.refl w.heap.size w) m1) hb)
 clear HG HN HA
 have HG := n1_
 have HN := n2_
 have HA := n3_
 have E1 := za.mk e1
 have E2 := za.mk e2
 clear n1_ n2_ n3_ e1 e2 hb hsz
 have hsl := HB.out.size
 obtain ⟨Ao1, co1, eo_⟩ := Kd.zsc E1.out
 subst eo_
 obtain ⟨Ao2, co2, eo_⟩ := Kd.zsc E2.out
 subst eo_
 by_cases t1 : 0 ≤ d3
 ·have b1 : decide (d3 ≥ 0) = true := decide_eq_true t1
  have hf := HFIN.out
  clear HFIN
  rw [if_pos t1] at hf
  by_cases t2 : d3 < (at_.length : Int)
  case neg => rw [if_neg t2] at hf; exact absurd hf (by simp)
  rw [if_pos t2] at hf
  by_cases t3 : kept.length ≤ 1000000
  case neg => rw [if_neg t3] at hf; exact absurd hf (by simp)
  rw [if_pos t3] at hf
  simp only [Option.some.injEq, Prod.mk.injEq] at hf
  obtain ⟨rfl, rfl, rfl, rfl⟩ := hf
  obtain ⟨ga, cap, eo_, hga, hga2, hcells⟩ := Kd.R_form HA.out (by omega)
  injection eo_ with f1_ f2_ f3_
  subst f1_
  subst f3_
  have HCAP := za.mk hcells
  have B8 : za ((w1.alloc (.cells #[.slice Ao1 d1.length co1, .slice Ao2 d2.length co2] 112)).heap[w1.heap.size]? = some (.cells #[.slice Ao1 d1.length co1, .slice Ao2 d2.length co2] 112 (0, 0))) := ⟨zif _ _⟩
  have n1_ := za.mk (zi HG.out (.cells #[.slice Ao1 d1.length co1, .slice Ao2 d2.length co2] 112))
  have n2_ := za.mk (Kd.zkc HN.out (.cells #[.slice Ao1 d1.length co1, .slice Ao2 d2.length co2] 112))
  have n3_ := za.mk (Kd.zka HA.out (.cells #[.slice Ao1 d1.length co1, .slice Ao2 d2.length co2] 112))
  have n4_ := za.mk (Kd.zka E1.out (.cells #[.slice Ao1 d1.length co1, .slice Ao2 d2.length co2] 112))
  have n5_ := za.mk (Kd.zka E2.out (.cells #[.slice Ao1 d1.length co1, .slice Ao2 d2.length co2] 112))
  have HBB := za.mk (show Below base w (w1.alloc (.cells #[.slice Ao1 d1.length co1, .slice Ao2 d2.length co2] 112)) from (HB.out.mono hbw).alloc (by omega) _)
  have HK := za.mk ((Kept.of_below HB.out P).alloc (.cells #[.slice Ao1 d1.length co1, .slice Ao2 d2.length co2] 112))
  have H8 : za (w.heap.size ≤ w1.heap.size) := ⟨hsl⟩
  clear HG HN HA E1 E2 HB HCAP hcells
  have HG := n1_
  have HN := n2_
  have HA := n3_
  have E1 := n4_
  have E2 := n5_
  clear n1_ n2_ n3_ n4_ n5_ hsl
  go_wp2_with fail
  generalize hW : w1.alloc (.cells #[.slice Ao1 d1.length co1, .slice Ao2 d2.length co2] 112) = W at HG HN HA E1 E2 B8 HBB HK ⊢
  clear hW
  generalize hg8 : w1.heap.size = g8 at B8 H8 ⊢
  clear hg8
  have n1_ := za.mk (zj HG.out)
  have n2_ := za.mk (Kd.zvc HN.out)
  have n3_ := za.mk (Kd.zya HA.out)
  have n4_ := za.mk (Kd.zya E1.out)
  have n5_ := za.mk (Kd.zya E2.out)
  have n6_ := za.mk (zj B8.out)
  have n7_ := za.mk (zf HBB.out)
  have n8_ := za.mk (Kept.drew HK.out)
  clear HG HN HA E1 E2 B8 HBB HK
  have HG := n1_
  have HN := n2_
  have HA := n3_
  have E1 := n4_
  have E2 := n5_
  have B8 := n6_
  have HBB := n7_
  have HK := n8_
  clear n1_ n2_ n3_ n4_ n5_ n6_ n7_ n8_
  have HGA : za (base ≤ ga ∧ P ga) := ⟨hga, HA.out.1 ga rfl⟩
  have HGG : za (base ≤ g ∧ P g) := ⟨hbg, hpg⟩
  have t1' := eq_true t1
  have t2' := eq_true t2
  refine zsf (n := 12) (S := fun w' => True) (ds := []) #[false, false, false, false, false, false, false, false, false, false, false, false] (by kernel_rfl) rfl rfl trivial (fun hHeld => ?_)
  refine zke zkd.tab7 zkd.bits7 (fun HT_ HW_ => ?_)
  generalize W.drew = W2 at HG HN HA E1 E2 B8 HBB HK hHeld ⊢
  refine pure_ (i := 0) (N := some 44) (v := ?_) (a' := ?_) #[true, false, false, false, false, false, false, false, false, false, false, false] rfl rfl (zvb HT_.out (by kernel_rfl)) (fun _ _ _ h => h) (Or.inl ⟨by rfl, ?_⟩) ?_ ?_
  rotate_left
  ·intro w'
   go_simp
   with_reducible rfl
  rotate_left
  ·simp only [Act.put, zw]
   rfl
  refine pure_ (i := 4) (N := some 48) (v := ?_) (a' := ?_) #[true, false, false, false, true, false, false, false, false, false, false, false] rfl rfl (zvb HT_.out (by kernel_rfl)) (fun _ _ _ h => h) (Or.inl ⟨by rfl, ?_⟩) ?_ ?_
  rotate_left
  ·intro w'
   go_simp
   with_reducible rfl
  rotate_left
  ·simp only [Act.put, zw]
   rfl
  refine pure_ (i := 5) (N := some 49) (v := ?_) (a' := ?_) #[true, false, false, false, true, true, false, false, false, false, false, false] rfl rfl (zvb HT_.out (by kernel_rfl)) (fun _ _ _ h => h) (Or.inl ⟨by rfl, ?_⟩) ?_ ?_
  rotate_left
  ·intro w'
   go_simp
   with_reducible rfl
  rotate_left
  ·simp only [Act.put, zw]
   rfl
  refine inv_at [1, 2, 3, 6, 7, 8, 9, 10, 11] (fun a0_ b a w' => a = putSel a0_ b [(1, 45, .pointer (some ⟨g, 0, none⟩)), (2, 46, .pointer (some ⟨g, 3, none⟩)), (3, 47, .slice (some ⟨ga, 0, none⟩) at_.length ca), (6, 50, .pointer (some ⟨g, 0, none⟩)), (7, 51, .pointer (some ⟨g, 2, none⟩)), (8, 52, .slice Ak kept.length ck), (9, 53, .int .i64 (kept.length : Int)), (10, 54, .pointer (some ⟨ga, d3.toNat, none⟩))] ∧ (w'.heap[g]? = some (.cells #[.int .i64 n, .int .i64 (sym.length : Int), .slice Ak kept.length ck, .slice (some ⟨ga, 0, none⟩) at_.length ca, .bool false] 109 (0, 0))) ∧ (Kd.N kEQ 112 w' base (fun k => P k ∧ k ≠ g ∧ some k ≠ (Value.slice (some ⟨ga, 0, none⟩) at_.length ca).ownBlock) (.slice Ak kept.length ck) kept) ∧ (b 11 = false → Kd.R (Kd.int .i64) 3 w' base P (.slice (some ⟨ga, 0, none⟩) at_.length ca) (at_)) ∧ (b 11 = true → Kd.R (Kd.int .i64) 3 w' base P (.slice (some ⟨ga, 0, none⟩) at_.length ca) (at_.set d3.toNat (kept.length : Int))) ∧ (Kd.R (Kd.int .u64) 104 w' w.heap.size (fun _ => True) (.slice Ao1 d1.length co1) d1) ∧ (Kd.R (Kd.int .u8) 5 w' w.heap.size (fun _ => True) (.slice Ao2 d2.length co2) d2) ∧ (w'.heap[g8]? = some (.cells #[.slice Ao1 d1.length co1, .slice Ao2 d2.length co2] 112 (0, 0))) ∧ (Below base w w') ∧ (Kept w w' P)) HT_.out HW_.out (by kernel_rfl) (by kernel_rfl) ?_ ?_ ?_
  ·exact ⟨by simp only [putSel, Bool.false_eq_true, if_false], HG.out, HN.out, fun _ => HA.out, fun h_ => absurd h_ (by decide), E1.out, E2.out, B8.out, HBB.out, HK.out⟩
  ·skip
   clear B8 E1 E2 HA HBB HG HK HN
   refine zfa ?_ ?_
   ·rintro b a w' ⟨ha, Q_HG, Q_HN, Q_HA, Q_HA2, Q_E1, Q_E2, Q_B8, Q_HBB, Q_HK⟩ hb_ hon hoff
    refine ⟨_, rfl, fun K hK => ?_⟩
    have e44 : a.tmps[44]? = some (.pointer (some ⟨g, 0, none⟩)) := by rw [ha]; exact (zlc rfl).trans rfl
    replace ha := za.mk ha
    have HG := za.mk Q_HG
    have HN := za.mk Q_HN
    have HA := za.mk (Q_HA (hoff 11 (by kernel_rfl)))
    have E1 := za.mk Q_E1
    have E2 := za.mk Q_E2
    have B8 := za.mk Q_B8
    have HBB := za.mk Q_HBB
    have HK := za.mk Q_HK
    refine zbd (w1 := w') (v := .pointer (some ⟨g, 0, none⟩)) (by rfl) rfl ?_ ?_
    ·go_simp
     (try simp only [i64_w])
     try rfl
    refine hK.out _ _ ⟨(by rw [ha.out]; exact zla 0 hb_ rfl rfl rfl), Q_HG, Q_HN, Q_HA, fun h0_ => absurd ((hoff 11 (by kernel_rfl)).symm.trans h0_) (by decide), Q_E1, Q_E2, Q_B8, Q_HBB, Q_HK⟩
   refine zfa ?_ ?_
   ·rintro b a w' ⟨ha, Q_HG, Q_HN, Q_HA, Q_HA2, Q_E1, Q_E2, Q_B8, Q_HBB, Q_HK⟩ hb_ hon hoff
    refine ⟨_, rfl, fun K hK => ?_⟩
    have e45 : a.tmps[45]? = some (.pointer (some ⟨g, 0, none⟩)) := by rw [ha]; exact zxa (e := (1, 45, .pointer (some ⟨g, 0, none⟩))) 0 rfl rfl (hon 1 (by kernel_rfl)) rfl
    replace ha := za.mk ha
    have HG := za.mk Q_HG
    have HN := za.mk Q_HN
    have HA := za.mk (Q_HA (hoff 11 (by kernel_rfl)))
    have E1 := za.mk Q_E1
    have E2 := za.mk Q_E2
    have B8 := za.mk Q_B8
    have HBB := za.mk Q_HBB
    have HK := za.mk Q_HK
    refine zbd (w1 := w') (v := .pointer (some ⟨g, 3, none⟩)) (by rfl) rfl ?_ ?_
    ·go_simp
     (try simp only [i64_w])
     try rfl
    refine hK.out _ _ ⟨(by rw [ha.out]; exact zla 1 hb_ rfl rfl rfl), Q_HG, Q_HN, Q_HA, fun h0_ => absurd ((hoff 11 (by kernel_rfl)).symm.trans h0_) (by decide), Q_E1, Q_E2, Q_B8, Q_HBB, Q_HK⟩
   refine zfa ?_ ?_
   ·rintro b a w' ⟨ha, Q_HG, Q_HN, Q_HA, Q_HA2, Q_E1, Q_E2, Q_B8, Q_HBB, Q_HK⟩ hb_ hon hoff
    refine ⟨_, rfl, fun K hK => ?_⟩
    have e46 : a.tmps[46]? = some (.pointer (some ⟨g, 3, none⟩)) := by rw [ha]; exact zxa (e := (2, 46, .pointer (some ⟨g, 3, none⟩))) 1 rfl rfl (hon 2 (by kernel_rfl)) rfl
    replace ha := za.mk ha
    have HG := za.mk Q_HG
    have HN := za.mk Q_HN
    have HA := za.mk (Q_HA (hoff 11 (by kernel_rfl)))
    have E1 := za.mk Q_E1
    have E2 := za.mk Q_E2
    have B8 := za.mk Q_B8
    have HBB := za.mk Q_HBB
    have HK := za.mk Q_HK
    have z_ := (zl HG.out 3).trans rfl
    refine zbd (w1 := w') (v := .slice (some ⟨ga, 0, none⟩) at_.length ca) (by rfl) rfl ?_ ?_
    ·go_simp
     (try simp only [i64_w])
     try rfl
    refine hK.out _ _ ⟨(by rw [ha.out]; exact zla 2 hb_ rfl rfl rfl), Q_HG, Q_HN, Q_HA, fun h0_ => absurd ((hoff 11 (by kernel_rfl)).symm.trans h0_) (by decide), Q_E1, Q_E2, Q_B8, Q_HBB, Q_HK⟩
   refine zfa ?_ ?_
   ·rintro b a w' ⟨ha, Q_HG, Q_HN, Q_HA, Q_HA2, Q_E1, Q_E2, Q_B8, Q_HBB, Q_HK⟩ hb_ hon hoff
    refine ⟨_, rfl, fun K hK => ?_⟩
    have e49 : a.tmps[49]? = some (.pointer (some ⟨g, 0, none⟩)) := by rw [ha]; exact (zlc rfl).trans rfl
    replace ha := za.mk ha
    have HG := za.mk Q_HG
    have HN := za.mk Q_HN
    have HA := za.mk (Q_HA (hoff 11 (by kernel_rfl)))
    have E1 := za.mk Q_E1
    have E2 := za.mk Q_E2
    have B8 := za.mk Q_B8
    have HBB := za.mk Q_HBB
    have HK := za.mk Q_HK
    refine zbd (w1 := w') (v := .pointer (some ⟨g, 0, none⟩)) (by rfl) rfl ?_ ?_
    ·go_simp
     (try simp only [i64_w])
     try rfl
    refine hK.out _ _ ⟨(by rw [ha.out]; exact zla 3 hb_ rfl rfl rfl), Q_HG, Q_HN, Q_HA, fun h0_ => absurd ((hoff 11 (by kernel_rfl)).symm.trans h0_) (by decide), Q_E1, Q_E2, Q_B8, Q_HBB, Q_HK⟩
   refine zfa ?_ ?_
   ·rintro b a w' ⟨ha, Q_HG, Q_HN, Q_HA, Q_HA2, Q_E1, Q_E2, Q_B8, Q_HBB, Q_HK⟩ hb_ hon hoff
    refine ⟨_, rfl, fun K hK => ?_⟩
    have e50 : a.tmps[50]? = some (.pointer (some ⟨g, 0, none⟩)) := by rw [ha]; exact zxa (e := (6, 50, .pointer (some ⟨g, 0, none⟩))) 3 rfl rfl (hon 6 (by kernel_rfl)) rfl
    replace ha := za.mk ha
    have HG := za.mk Q_HG
    have HN := za.mk Q_HN
    have HA := za.mk (Q_HA (hoff 11 (by kernel_rfl)))
    have E1 := za.mk Q_E1
    have E2 := za.mk Q_E2
    have B8 := za.mk Q_B8
    have HBB := za.mk Q_HBB
    have HK := za.mk Q_HK
    refine zbd (w1 := w') (v := .pointer (some ⟨g, 2, none⟩)) (by rfl) rfl ?_ ?_
    ·go_simp
     (try simp only [i64_w])
     try rfl
    refine hK.out _ _ ⟨(by rw [ha.out]; exact zla 4 hb_ rfl rfl rfl), Q_HG, Q_HN, Q_HA, fun h0_ => absurd ((hoff 11 (by kernel_rfl)).symm.trans h0_) (by decide), Q_E1, Q_E2, Q_B8, Q_HBB, Q_HK⟩
   refine zfa ?_ ?_
   ·rintro b a w' ⟨ha, Q_HG, Q_HN, Q_HA, Q_HA2, Q_E1, Q_E2, Q_B8, Q_HBB, Q_HK⟩ hb_ hon hoff
    refine ⟨_, rfl, fun K hK => ?_⟩
    have e51 : a.tmps[51]? = some (.pointer (some ⟨g, 2, none⟩)) := by rw [ha]; exact zxa (e := (7, 51, .pointer (some ⟨g, 2, none⟩))) 4 rfl rfl (hon 7 (by kernel_rfl)) rfl
    replace ha := za.mk ha
    have HG := za.mk Q_HG
    have HN := za.mk Q_HN
    have HA := za.mk (Q_HA (hoff 11 (by kernel_rfl)))
    have E1 := za.mk Q_E1
    have E2 := za.mk Q_E2
    have B8 := za.mk Q_B8
    have HBB := za.mk Q_HBB
    have HK := za.mk Q_HK
    have z_ := (zl HG.out 2).trans rfl
    refine zbd (w1 := w') (v := .slice Ak kept.length ck) (by rfl) rfl ?_ ?_
    ·go_simp
     (try simp only [i64_w])
     try rfl
    refine hK.out _ _ ⟨(by rw [ha.out]; exact zla 5 hb_ rfl rfl rfl), Q_HG, Q_HN, Q_HA, fun h0_ => absurd ((hoff 11 (by kernel_rfl)).symm.trans h0_) (by decide), Q_E1, Q_E2, Q_B8, Q_HBB, Q_HK⟩
   refine zfa ?_ ?_
   ·rintro b a w' ⟨ha, Q_HG, Q_HN, Q_HA, Q_HA2, Q_E1, Q_E2, Q_B8, Q_HBB, Q_HK⟩ hb_ hon hoff
    refine ⟨_, rfl, fun K hK => ?_⟩
    have e52 : a.tmps[52]? = some (.slice Ak kept.length ck) := by rw [ha]; exact zxa (e := (8, 52, .slice Ak kept.length ck)) 5 rfl rfl (hon 8 (by kernel_rfl)) rfl
    replace ha := za.mk ha
    have HG := za.mk Q_HG
    have HN := za.mk Q_HN
    have HA := za.mk (Q_HA (hoff 11 (by kernel_rfl)))
    have E1 := za.mk Q_E1
    have E2 := za.mk Q_E2
    have B8 := za.mk Q_B8
    have HBB := za.mk Q_HBB
    have HK := za.mk Q_HK
    refine zbd (w1 := w') (v := .int .i64 (kept.length : Int)) (by rfl) rfl ?_ ?_
    ·go_simp
     (try simp only [i64_w])
     try rfl
    refine hK.out _ _ ⟨(by rw [ha.out]; exact zla 6 hb_ rfl rfl rfl), Q_HG, Q_HN, Q_HA, fun h0_ => absurd ((hoff 11 (by kernel_rfl)).symm.trans h0_) (by decide), Q_E1, Q_E2, Q_B8, Q_HBB, Q_HK⟩
   refine zfa ?_ ?_
   ·rintro b a w' ⟨ha, Q_HG, Q_HN, Q_HA, Q_HA2, Q_E1, Q_E2, Q_B8, Q_HBB, Q_HK⟩ hb_ hon hoff
    refine ⟨_, rfl, fun K hK => ?_⟩
    have e47 : a.tmps[47]? = some (.slice (some ⟨ga, 0, none⟩) at_.length ca) := by rw [ha]; exact zxa (e := (3, 47, .slice (some ⟨ga, 0, none⟩) at_.length ca)) 2 rfl rfl (hon 3 (by kernel_rfl)) rfl
    have e48 : a.tmps[48]? = some (.int .i64 d3) := by rw [ha]; exact (zlc rfl).trans rfl
    replace ha := za.mk ha
    have HG := za.mk Q_HG
    have HN := za.mk Q_HN
    have HA := za.mk (Q_HA (hoff 11 (by kernel_rfl)))
    have E1 := za.mk Q_E1
    have E2 := za.mk Q_E2
    have B8 := za.mk Q_B8
    have HBB := za.mk Q_HBB
    have HK := za.mk Q_HK
    refine zbd (w1 := w') (v := .pointer (some ⟨ga, d3.toNat, none⟩)) (by rfl) rfl ?_ ?_
    ·go_simp
     (try simp only [i64_w])
     try rfl
    refine hK.out _ _ ⟨(by rw [ha.out]; exact zla 7 hb_ rfl rfl rfl), Q_HG, Q_HN, Q_HA, fun h0_ => absurd ((hoff 11 (by kernel_rfl)).symm.trans h0_) (by decide), Q_E1, Q_E2, Q_B8, Q_HBB, Q_HK⟩
   refine zfa ?_ ?_
   ·rintro b a w' ⟨ha, Q_HG, Q_HN, Q_HA, Q_HA2, Q_E1, Q_E2, Q_B8, Q_HBB, Q_HK⟩ hb_ hon hoff
    refine ⟨_, rfl, fun K hK => ?_⟩
    have e54 : a.tmps[54]? = some (.pointer (some ⟨ga, d3.toNat, none⟩)) := by rw [ha]; exact zxa (e := (10, 54, .pointer (some ⟨ga, d3.toNat, none⟩))) 7 rfl rfl (hon 10 (by kernel_rfl)) rfl
    have e53 : a.tmps[53]? = some (.int .i64 (kept.length : Int)) := by rw [ha]; exact zxa (e := (9, 53, .int .i64 (kept.length : Int))) 6 rfl rfl (hon 9 (by kernel_rfl)) rfl
    replace ha := za.mk ha
    have HG := za.mk Q_HG
    have HN := za.mk Q_HN
    have HA := za.mk (Q_HA hb_)
    have E1 := za.mk Q_E1
    have E2 := za.mk Q_E2
    have B8 := za.mk Q_B8
    have HBB := za.mk Q_HBB
    have HK := za.mk Q_HK
    obtain ⟨q1, q2⟩ := Kd.R_celln (0 : Int) HA.out d3 t1 t2
    obtain ⟨cells, hcl⟩ := Kd.R_typed HA.out ga rfl
    have hng : g ≠ ga := ty_ne hcl HG.out (by decide)
    have hn8 : g8 ≠ ga := ty_ne hcl B8.out (by decide)
    refine skip_ (w1 := ?_) (by rfl) rfl ?_ ?_
    rotate_left
    ·go_simp
     rfl
    refine hK.out _ _ ⟨(by rw [ha.out]; exact putSel_none (v := undef) rfl), zre HG.out hng _, Kd.N_far HN.out (fun k hk he => hk.2.2 (by rw [he]; rfl)) _, fun h0_ => absurd ((zie b 11).symm.trans h0_) (by decide), fun _ => Kd.R_putn HA.out d3 (kept.length : Int), Kd.R_set E1.out hcl (by decide) _ _, Kd.R_set E2.out hcl (by decide) _ _, zre B8.out hn8 _, HBB.out.setCell HGA.out.1 _, Kept.setCell HK.out (.inl HGA.out.2) _⟩
   exact steps_nil
  rintro b a wl hall ⟨ha, Q_HG, Q_HN, Q_HA, Q_HA2, Q_E1, Q_E2, Q_B8, Q_HBB, Q_HK⟩
  clear B8 E1 E2 HA HBB HG HK HN
  have hb1_ := hall 1 (by kernel_rfl)
  have hb2_ := hall 2 (by kernel_rfl)
  have hb3_ := hall 3 (by kernel_rfl)
  have hb6_ := hall 6 (by kernel_rfl)
  have hb7_ := hall 7 (by kernel_rfl)
  have hb8_ := hall 8 (by kernel_rfl)
  have hb9_ := hall 9 (by kernel_rfl)
  have hb10_ := hall 10 (by kernel_rfl)
  have hb11_ := hall 11 (by kernel_rfl)
  subst ha
  simp only [putSel, hb1_, hb2_, hb3_, hb6_, hb7_, hb8_, hb9_, hb10_, hb11_, if_true, Act.put, List.setIfInBounds_toArray, List.set_cons_zero, List.set_cons_succ]
  have HG := za.mk Q_HG
  clear Q_HG
  have HN := za.mk Q_HN
  clear Q_HN
  clear Q_HA
  have HA2 := za.mk (Q_HA2 hb11_)
  clear Q_HA2
  have E1 := za.mk Q_E1
  clear Q_E1
  have E2 := za.mk Q_E2
  clear Q_E2
  have B8 := za.mk Q_B8
  clear Q_B8
  have HBB := za.mk Q_HBB
  clear Q_HBB
  have HK := za.mk Q_HK
  clear Q_HK
  clear hall hb1_ hb2_ hb3_ hb6_ hb7_ hb8_ hb9_ hb10_ hb11_
  have HA := HA2
  clear HA2
  go_wp2_with fail
  have n1_ := za.mk (zj HG.out)
  have n2_ := za.mk (Kd.zvc (Kd.zye HN.out (ok' := (fun k => (P k ∨ w.heap.size ≤ k) ∧ k ≠ g ∧ some k ≠ (Value.slice (some ⟨ga, 0, none⟩) at_.length ca).ownBlock)) (fun k hk => ⟨.inl hk.1, hk.2⟩)))
  have n3_ := za.mk (Kd.zya HA.out)
  have n4_ := za.mk (Kd.zya E1.out)
  have n5_ := za.mk (Kd.zya E2.out)
  have n6_ := za.mk (zj B8.out)
  have n7_ := za.mk (zf HBB.out)
  have n8_ := za.mk (Kept.drew HK.out)
  clear HG HN HA E1 E2 B8 HBB HK
  have HG := n1_
  have HN := n2_
  have HA := n3_
  have E1 := n4_
  have E2 := n5_
  have B8 := n6_
  have HBB := n7_
  have HK := n8_
  clear n1_ n2_ n3_ n4_ n5_ n6_ n7_ n8_
  have HLL : za (kept.length ≤ 1000000) := ⟨t3⟩
  refine zsf (n := 11) (S := fun w' => True) (ds := []) #[false, false, false, false, false, false, false, false, false, false, false] (by kernel_rfl) rfl rfl trivial (fun hHeld => ?_)
  refine zke zkd.tab8 zkd.bits8 (fun HT_ HW_ => ?_)
  generalize wl.drew = W2 at HG HN HA E1 E2 B8 HBB HK hHeld ⊢
  refine pure_ (i := 0) (N := some 55) (v := ?_) (a' := ?_) #[true, false, false, false, false, false, false, false, false, false, false] rfl rfl (zvb HT_.out (by kernel_rfl)) (fun _ _ _ h => h) (Or.inl ⟨by rfl, ?_⟩) ?_ ?_
  rotate_left
  ·intro w'
   go_simp
   with_reducible rfl
  rotate_left
  ·simp only [Act.put, zw]
   rfl
  refine pure_ (i := 1) (N := some 56) (v := ?_) (a' := ?_) #[true, true, false, false, false, false, false, false, false, false, false] rfl rfl (zvb HT_.out (by kernel_rfl)) (fun _ _ _ h => h) (Or.inl ⟨by rfl, ?_⟩) ?_ ?_
  rotate_left
  ·intro w'
   go_simp
   with_reducible rfl
  rotate_left
  ·simp only [Act.put, zw]
   rfl
  refine inv_at [2, 3, 4, 5, 6, 7, 8, 9, 10] (fun a0_ b a w' => ∃ (W6 : World) (v7 : Value) (m6_ : Value), a = putSel a0_ b [(2, 57, .pointer (some ⟨g, 0, none⟩)), (3, 58, .pointer (some ⟨g, 2, none⟩)), (4, 59, .slice Ak kept.length ck), (5, 60, .agg #[.slice Ao1 d1.length co1, .slice Ao2 d2.length co2]), (6, 61, m6_), (7, 62, v7), (8, 63, .pointer (some ⟨g, 0, none⟩)), (9, 64, .pointer (some ⟨g, 2, none⟩))] ∧ (b 10 = false → w'.heap[g]? = some (.cells #[.int .i64 n, .int .i64 (sym.length : Int), .slice Ak kept.length ck, .slice (some ⟨ga, 0, none⟩) at_.length ca, .bool false] 109 (0, 0))) ∧ (b 10 = true → w'.heap[g]? = some (.cells #[.int .i64 n, .int .i64 (sym.length : Int), v7, .slice (some ⟨ga, 0, none⟩) at_.length ca, .bool false] 109 (0, 0))) ∧ (b 6 = false → Kd.N kEQ 112 w' base (fun k => (P k ∨ w.heap.size ≤ k) ∧ k ≠ g ∧ some k ≠ (Value.slice (some ⟨ga, 0, none⟩) at_.length ca).ownBlock) (.slice Ak kept.length ck) kept) ∧ (b 7 = true → Kd.N kEQ 112 w' base (fun k => (P k ∨ w.heap.size ≤ k) ∧ k ≠ g ∧ some k ≠ (Value.slice (some ⟨ga, 0, none⟩) at_.length ca).ownBlock) (v7) (kept ++ [(d1, d2)])) ∧ (Kd.R (Kd.int .i64) 3 w' base P (.slice (some ⟨ga, 0, none⟩) at_.length ca) (at_.set d3.toNat (kept.length : Int))) ∧ (b 6 = false → w'.heap[g8]? = some (.cells #[.slice Ao1 d1.length co1, .slice Ao2 d2.length co2] 112 (0, 0))) ∧ (b 6 = false → Kd.R (Kd.int .u64) 104 w' w.heap.size (fun _ => True) (.slice Ao1 d1.length co1) d1) ∧ (b 6 = false → Kd.R (Kd.int .u8) 5 w' w.heap.size (fun _ => True) (.slice Ao2 d2.length co2) d2) ∧ (Below base w w') ∧ (Kept w w' P) ∧ (b 6 = true → b 7 = false → w' = W6.alloc (.cells #[.slice Ao1 d1.length co1, .slice Ao2 d2.length co2] 112) ∧ W6.heap[g]? = some (.cells #[.int .i64 n, .int .i64 (sym.length : Int), .slice Ak kept.length ck, .slice (some ⟨ga, 0, none⟩) at_.length ca, .bool false] 109 (0, 0)) ∧ Kd.N kEQ 112 W6 base (fun k => (P k ∨ w.heap.size ≤ k) ∧ k ≠ g ∧ some k ≠ (Value.slice (some ⟨ga, 0, none⟩) at_.length ca).ownBlock) (.slice Ak kept.length ck) kept ∧ Kd.R (Kd.int .i64) 3 W6 base P (.slice (some ⟨ga, 0, none⟩) at_.length ca) (at_.set d3.toNat (kept.length : Int)) ∧ Kd.R (Kd.int .u64) 104 W6 w.heap.size (fun _ => True) (.slice Ao1 d1.length co1) d1 ∧ Kd.R (Kd.int .u8) 5 W6 w.heap.size (fun _ => True) (.slice Ao2 d2.length co2) d2 ∧ Below base w W6 ∧ Kept w W6 P) ∧ (b 6 = true → (m6_ : Value) = .slice (some ⟨W6.heap.size, 0, none⟩) 1 1)) HT_.out HW_.out (by kernel_rfl) (by kernel_rfl) ?_ ?_ ?_
  ·exact ⟨w, .bool false, .bool false, by simp only [putSel, Bool.false_eq_true, if_false], fun _ => HG.out, fun h_ => absurd h_ (by decide), fun _ => HN.out, fun h_ => absurd h_ (by decide), HA.out, fun _ => B8.out, fun _ => E1.out, fun _ => E2.out, HBB.out, HK.out, fun h_ => absurd h_ (by decide), fun h_ => absurd h_ (by decide)⟩
  ·skip
   clear B8 E1 E2 HA HBB HG HK HN
   refine zfa ?_ ?_
   ·rintro b a w' ⟨W6, v7, m6_, ha, Q_HG, Q_HG2, Q_HN, Q_HN7, Q_HA, Q_B8, Q_E1, Q_E2, Q_HBB, Q_HK, Q_R6, Q_X6_⟩ hb_ hon hoff
    refine ⟨_, rfl, fun K hK => ?_⟩
    have e56 : a.tmps[56]? = some (.pointer (some ⟨g, 0, none⟩)) := by rw [ha]; exact (zlc rfl).trans rfl
    replace ha := za.mk ha
    have HG := za.mk (Q_HG (hoff 10 (by kernel_rfl)))
    have HA := za.mk Q_HA
    have HBB := za.mk Q_HBB
    have HK := za.mk Q_HK
    refine zbd (w1 := w') (v := .pointer (some ⟨g, 0, none⟩)) (by rfl) rfl ?_ ?_
    ·go_simp
     (try simp only [i64_w])
     try rfl
    refine hK.out _ _ ⟨W6, v7, m6_, (by rw [ha.out]; exact zla 0 hb_ rfl rfl rfl), Q_HG, fun h0_ => absurd ((hoff 10 (by kernel_rfl)).symm.trans h0_) (by decide), Q_HN, fun h0_ => absurd ((hoff 7 (by kernel_rfl)).symm.trans h0_) (by decide), Q_HA, Q_B8, Q_E1, Q_E2, Q_HBB, Q_HK, Q_R6, Q_X6_⟩
   refine zfa ?_ ?_
   ·rintro b a w' ⟨W6, v7, m6_, ha, Q_HG, Q_HG2, Q_HN, Q_HN7, Q_HA, Q_B8, Q_E1, Q_E2, Q_HBB, Q_HK, Q_R6, Q_X6_⟩ hb_ hon hoff
    refine ⟨_, rfl, fun K hK => ?_⟩
    have e57 : a.tmps[57]? = some (.pointer (some ⟨g, 0, none⟩)) := by rw [ha]; exact zxa (e := (2, 57, .pointer (some ⟨g, 0, none⟩))) 0 rfl rfl (hon 2 (by kernel_rfl)) rfl
    replace ha := za.mk ha
    have HG := za.mk (Q_HG (hoff 10 (by kernel_rfl)))
    have HA := za.mk Q_HA
    have HBB := za.mk Q_HBB
    have HK := za.mk Q_HK
    refine zbd (w1 := w') (v := .pointer (some ⟨g, 2, none⟩)) (by rfl) rfl ?_ ?_
    ·go_simp
     (try simp only [i64_w])
     try rfl
    refine hK.out _ _ ⟨W6, v7, m6_, (by rw [ha.out]; exact zla 1 hb_ rfl rfl rfl), Q_HG, fun h0_ => absurd ((hoff 10 (by kernel_rfl)).symm.trans h0_) (by decide), Q_HN, fun h0_ => absurd ((hoff 7 (by kernel_rfl)).symm.trans h0_) (by decide), Q_HA, Q_B8, Q_E1, Q_E2, Q_HBB, Q_HK, Q_R6, Q_X6_⟩
   refine zfa ?_ ?_
   ·rintro b a w' ⟨W6, v7, m6_, ha, Q_HG, Q_HG2, Q_HN, Q_HN7, Q_HA, Q_B8, Q_E1, Q_E2, Q_HBB, Q_HK, Q_R6, Q_X6_⟩ hb_ hon hoff
    refine ⟨_, rfl, fun K hK => ?_⟩
    have e58 : a.tmps[58]? = some (.pointer (some ⟨g, 2, none⟩)) := by rw [ha]; exact zxa (e := (3, 58, .pointer (some ⟨g, 2, none⟩))) 1 rfl rfl (hon 3 (by kernel_rfl)) rfl
    replace ha := za.mk ha
    have HG := za.mk (Q_HG (hoff 10 (by kernel_rfl)))
    have HA := za.mk Q_HA
    have HBB := za.mk Q_HBB
    have HK := za.mk Q_HK
    have z_ := (zl HG.out 2).trans rfl
    refine zbd (w1 := w') (v := .slice Ak kept.length ck) (by rfl) rfl ?_ ?_
    ·go_simp
     (try simp only [i64_w])
     try rfl
    refine hK.out _ _ ⟨W6, v7, m6_, (by rw [ha.out]; exact zla 2 hb_ rfl rfl rfl), Q_HG, fun h0_ => absurd ((hoff 10 (by kernel_rfl)).symm.trans h0_) (by decide), Q_HN, fun h0_ => absurd ((hoff 7 (by kernel_rfl)).symm.trans h0_) (by decide), Q_HA, Q_B8, Q_E1, Q_E2, Q_HBB, Q_HK, Q_R6, Q_X6_⟩
   refine zfa ?_ ?_
   ·rintro b a w' ⟨W6, v7, m6_, ha, Q_HG, Q_HG2, Q_HN, Q_HN7, Q_HA, Q_B8, Q_E1, Q_E2, Q_HBB, Q_HK, Q_R6, Q_X6_⟩ hb_ hon hoff
    refine ⟨_, rfl, fun K hK => ?_⟩
    have e8 : a.tmps[8]? = some (.pointer (some ⟨g8, 0, none⟩)) := by rw [ha]; exact (zlc rfl).trans rfl
    replace ha := za.mk ha
    have HG := za.mk (Q_HG (hoff 10 (by kernel_rfl)))
    have HN := za.mk (Q_HN (hoff 6 (by kernel_rfl)))
    have HA := za.mk Q_HA
    have B8 := za.mk (Q_B8 (hoff 6 (by kernel_rfl)))
    have E1 := za.mk (Q_E1 (hoff 6 (by kernel_rfl)))
    have E2 := za.mk (Q_E2 (hoff 6 (by kernel_rfl)))
    have HBB := za.mk Q_HBB
    have HK := za.mk Q_HK
    have z_ := (zl B8.out 0).trans rfl
    have y_ := (zl B8.out 1).trans rfl
    refine zbd (w1 := w') (v := .agg #[.slice Ao1 d1.length co1, .slice Ao2 d2.length co2]) (by rfl) rfl ?_ ?_
    ·go_simp
     (try simp only [i64_w])
     try rfl
    refine hK.out _ _ ⟨W6, v7, m6_, (by rw [ha.out]; exact zla 3 hb_ rfl rfl rfl), Q_HG, fun h0_ => absurd ((hoff 10 (by kernel_rfl)).symm.trans h0_) (by decide), Q_HN, fun h0_ => absurd ((hoff 7 (by kernel_rfl)).symm.trans h0_) (by decide), Q_HA, Q_B8, Q_E1, Q_E2, Q_HBB, Q_HK, fun h0_ _ => absurd ((hoff 6 (by kernel_rfl)).symm.trans h0_) (by decide), fun h0_ => absurd ((hoff 6 (by kernel_rfl)).symm.trans h0_) (by decide)⟩
   refine zfa ?_ ?_
   ·rintro b a w' ⟨W6, v7, m6_, ha, Q_HG, Q_HG2, Q_HN, Q_HN7, Q_HA, Q_B8, Q_E1, Q_E2, Q_HBB, Q_HK, Q_R6, Q_X6_⟩ hb_ hon hoff
    refine ⟨_, rfl, fun K hK => ?_⟩
    have e60 : a.tmps[60]? = some (.agg #[.slice Ao1 d1.length co1, .slice Ao2 d2.length co2]) := by rw [ha]; exact zxa (e := (5, 60, .agg #[.slice Ao1 d1.length co1, .slice Ao2 d2.length co2])) 3 rfl rfl (hon 5 (by kernel_rfl)) rfl
    replace ha := za.mk ha
    have HG := za.mk (Q_HG (hoff 10 (by kernel_rfl)))
    have HN := za.mk (Q_HN hb_)
    have HA := za.mk Q_HA
    have B8 := za.mk (Q_B8 hb_)
    have E1 := za.mk (Q_E1 hb_)
    have E2 := za.mk (Q_E2 hb_)
    have HBB := za.mk Q_HBB
    have HK := za.mk Q_HK
    refine zbd (w1 := w'.alloc (.cells #[.slice Ao1 d1.length co1, .slice Ao2 d2.length co2] 112)) (v := .slice (some ⟨w'.heap.size, 0, none⟩) 1 1) (by rfl) rfl ?_ ?_
    ·go_simp
    have hbz := HBB.out.size
    have hbx := HGG.out.1
    refine hK.out _ _ ⟨w', v7, (.slice (some ⟨w'.heap.size, 0, none⟩) 1 1), (by rw [ha.out]; exact zla 4 hb_ rfl rfl rfl), fun _ => zi HG.out _, fun h0_ => absurd ((hoff 10 (by kernel_rfl)).symm.trans h0_) (by decide), fun h0_ => absurd ((zie b 6).symm.trans h0_) (by decide), fun h0_ => absurd ((hoff 7 (by kernel_rfl)).symm.trans h0_) (by decide), Kd.zka HA.out _, fun h0_ => absurd ((zie b 6).symm.trans h0_) (by decide), fun h0_ => absurd ((zie b 6).symm.trans h0_) (by decide), fun h0_ => absurd ((zie b 6).symm.trans h0_) (by decide), HBB.out.alloc (by omega) _, Kept.alloc HK.out _, fun _ _ => ⟨rfl, HG.out, HN.out, HA.out, E1.out, E2.out, HBB.out, HK.out⟩, fun _ => rfl⟩
   refine zfa ?_ ?_
   ·rintro b a w' ⟨W6, v7, m6_, ha, Q_HG, Q_HG2, Q_HN, Q_HN7, Q_HA, Q_B8, Q_E1, Q_E2, Q_HBB, Q_HK, Q_R6, Q_X6_⟩ hb_ hon hoff
    refine ⟨_, rfl, fun K hK => ?_⟩
    have e59 : a.tmps[59]? = some (.slice Ak kept.length ck) := by rw [ha]; exact zxa (e := (4, 59, .slice Ak kept.length ck)) 2 rfl rfl (hon 4 (by kernel_rfl)) rfl
    have e61 : a.tmps[61]? = some (m6_) := by rw [ha]; exact zxa (e := (6, 61, m6_)) 4 rfl rfl (hon 6 (by kernel_rfl)) rfl
    rw [Q_X6_ (hon 6 (by kernel_rfl))] at e61
    replace ha := za.mk ha
    have HG := za.mk (Q_HG (hoff 10 (by kernel_rfl)))
    have HA := za.mk Q_HA
    have HBB := za.mk Q_HBB
    have HK := za.mk Q_HK
    have R6 := za.mk (Q_R6 (hon 6 (by kernel_rfl)) hb_)
    obtain ⟨rW, rG, rN, rA, r1, r2, rB, rK⟩ := R6.out
    subst rW
    have hbx := HGG.out.1
    have hsz7 := rB.size
    refine Kd.N_append_step kEQ (w0 := w) base (by rfl) (.tmp 59) (.tmp 61) 107 112 (.agg #[.slice none 0 0, .slice none 0 0]) 48 rfl Tryz.underlying107 info112 rfl (by decide) (by decide) (.slice Ak kept.length ck) kept (d1, d2) [.slice Ao1 d1.length co1, .slice Ao2 d2.length co2] (fun k => (P k ∨ w.heap.size ≤ k) ∧ k ≠ g ∧ some k ≠ (Value.slice (some ⟨ga, 0, none⟩) at_.length ca).ownBlock) (fun k => (fun k => (P k ∨ w.heap.size ≤ k) ∧ k ≠ g ∧ some k ≠ (Value.slice (some ⟨ga, 0, none⟩) at_.length ca).ownBlock) k ∧ some k ≠ (Value.slice Ak kept.length ck).ownBlock) (eval_of e59) (eval_of e61) ?hp (fun _ h => h) ?hfr rN rB (by omega) (by have := HLL.out; omega) ?_
    case hp => exact Kd.FK_mono (kEQ_mkF W6 (fun k => w.heap.size ≤ k ∧ ∃ q, (q = 104 ∨ q = 5) ∧ ∃ cells, W6.heap[k]? = some (.cells cells q (0, 0))) (d1, d2) (Kd.zsb r1).2.1 (Kd.F_mono (Kd.R_F (Kd.zrf r1)) (fun k hk => ⟨hk.2.1, by obtain ⟨q, hq, hc⟩ := hk.2.2.2; exact ⟨q, by rcases List.mem_cons.1 hq with h | h <;> first | exact .inl h | exact .inr h | exact absurd h (by intro h; cases h), hc⟩⟩)) (Kd.zsb r2).2.1 (Kd.F_mono (Kd.R_F (Kd.zrf r2)) (fun k hk => ⟨hk.2.1, by obtain ⟨q, hq, hc⟩ := hk.2.2.2; exact ⟨q, by rcases List.mem_cons.1 hq with h | h <;> first | exact .inl h | exact .inr h | exact absurd h (by intro h; cases h), hc⟩⟩))) (fun k hk => by obtain ⟨hk1, q, hq, cells, hc⟩ := hk; exact ⟨⟨.inr hk1, ty_ne rG hc (by rcases hq with rfl | rfl <;> decide), own_ne (Kd.R_typed rA) hc (by rcases hq with rfl | rfl <;> decide)⟩, own_ne (Kd.N_typed rN) hc (by rcases hq with rfl | rfl <;> decide)⟩)
    case hfr => exact fun k hk => ⟨.inr (by omega), by have := zpe rG; omega, fun he => by have := Kd.R_lt rA k he.symm; omega⟩
    intro n7 w1' ho hb hg hat
    refine hK.out _ _ ⟨W6, n7, m6_, (by rw [ha.out]; exact zla 5 hb_ rfl rfl rfl), fun _ => zwc rG hg (Kd.N_ne rN rG (by decide)), fun h0_ => absurd ((hoff 10 (by kernel_rfl)).symm.trans h0_) (by decide), fun h0_ => absurd ((hon 6 (by kernel_rfl)).symm.trans h0_) (by decide), fun _ => ho, Kd.R_over' rA (Kd.N_typed rN) (by decide) hg, fun h0_ => absurd ((hon 6 (by kernel_rfl)).symm.trans h0_) (by decide), fun h0_ => absurd ((hon 6 (by kernel_rfl)).symm.trans h0_) (by decide), fun h0_ => absurd ((hon 6 (by kernel_rfl)).symm.trans h0_) (by decide), hb, Kept.of_grown hg rK (fun k hk => (rN.1 k hk).1), fun _ h1_ => absurd ((zie b 7).symm.trans h1_) (by decide), Q_X6_⟩
   refine zfa ?_ ?_
   ·rintro b a w' ⟨W6, v7, m6_, ha, Q_HG, Q_HG2, Q_HN, Q_HN7, Q_HA, Q_B8, Q_E1, Q_E2, Q_HBB, Q_HK, Q_R6, Q_X6_⟩ hb_ hon hoff
    refine ⟨_, rfl, fun K hK => ?_⟩
    have e55 : a.tmps[55]? = some (.pointer (some ⟨g, 0, none⟩)) := by rw [ha]; exact (zlc rfl).trans rfl
    replace ha := za.mk ha
    have HG := za.mk (Q_HG (hoff 10 (by kernel_rfl)))
    have HN7 := za.mk (Q_HN7 (hon 7 (by kernel_rfl)))
    have HA := za.mk Q_HA
    have HBB := za.mk Q_HBB
    have HK := za.mk Q_HK
    refine zbd (w1 := w') (v := .pointer (some ⟨g, 0, none⟩)) (by rfl) rfl ?_ ?_
    ·go_simp
     (try simp only [i64_w])
     try rfl
    refine hK.out _ _ ⟨W6, v7, m6_, (by rw [ha.out]; exact zla 6 hb_ rfl rfl rfl), Q_HG, fun h0_ => absurd ((hoff 10 (by kernel_rfl)).symm.trans h0_) (by decide), fun h0_ => absurd ((hon 6 (by kernel_rfl)).symm.trans h0_) (by decide), Q_HN7, Q_HA, fun h0_ => absurd ((hon 6 (by kernel_rfl)).symm.trans h0_) (by decide), fun h0_ => absurd ((hon 6 (by kernel_rfl)).symm.trans h0_) (by decide), fun h0_ => absurd ((hon 6 (by kernel_rfl)).symm.trans h0_) (by decide), Q_HBB, Q_HK, fun _ h1_ => absurd ((hon 7 (by kernel_rfl)).symm.trans h1_) (by decide), Q_X6_⟩
   refine zfa ?_ ?_
   ·rintro b a w' ⟨W6, v7, m6_, ha, Q_HG, Q_HG2, Q_HN, Q_HN7, Q_HA, Q_B8, Q_E1, Q_E2, Q_HBB, Q_HK, Q_R6, Q_X6_⟩ hb_ hon hoff
    refine ⟨_, rfl, fun K hK => ?_⟩
    have e63 : a.tmps[63]? = some (.pointer (some ⟨g, 0, none⟩)) := by rw [ha]; exact zxa (e := (8, 63, .pointer (some ⟨g, 0, none⟩))) 6 rfl rfl (hon 8 (by kernel_rfl)) rfl
    replace ha := za.mk ha
    have HG := za.mk (Q_HG (hoff 10 (by kernel_rfl)))
    have HN7 := za.mk (Q_HN7 (hon 7 (by kernel_rfl)))
    have HA := za.mk Q_HA
    have HBB := za.mk Q_HBB
    have HK := za.mk Q_HK
    refine zbd (w1 := w') (v := .pointer (some ⟨g, 2, none⟩)) (by rfl) rfl ?_ ?_
    ·go_simp
     (try simp only [i64_w])
     try rfl
    refine hK.out _ _ ⟨W6, v7, m6_, (by rw [ha.out]; exact zla 7 hb_ rfl rfl rfl), Q_HG, fun h0_ => absurd ((hoff 10 (by kernel_rfl)).symm.trans h0_) (by decide), fun h0_ => absurd ((hon 6 (by kernel_rfl)).symm.trans h0_) (by decide), Q_HN7, Q_HA, fun h0_ => absurd ((hon 6 (by kernel_rfl)).symm.trans h0_) (by decide), fun h0_ => absurd ((hon 6 (by kernel_rfl)).symm.trans h0_) (by decide), fun h0_ => absurd ((hon 6 (by kernel_rfl)).symm.trans h0_) (by decide), Q_HBB, Q_HK, fun _ h1_ => absurd ((hon 7 (by kernel_rfl)).symm.trans h1_) (by decide), Q_X6_⟩
   refine zfa ?_ ?_
   ·rintro b a w' ⟨W6, v7, m6_, ha, Q_HG, Q_HG2, Q_HN, Q_HN7, Q_HA, Q_B8, Q_E1, Q_E2, Q_HBB, Q_HK, Q_R6, Q_X6_⟩ hb_ hon hoff
    refine ⟨_, rfl, fun K hK => ?_⟩
    have e64 : a.tmps[64]? = some (.pointer (some ⟨g, 2, none⟩)) := by rw [ha]; exact zxa (e := (9, 64, .pointer (some ⟨g, 2, none⟩))) 7 rfl rfl (hon 9 (by kernel_rfl)) rfl
    have e62 : a.tmps[62]? = some (v7) := by rw [ha]; exact zxa (e := (7, 62, v7)) 5 rfl rfl (hon 7 (by kernel_rfl)) rfl
    replace ha := za.mk ha
    have HG := za.mk (Q_HG hb_)
    have HN7 := za.mk (Q_HN7 (hon 7 (by kernel_rfl)))
    have HA := za.mk Q_HA
    have HBB := za.mk Q_HBB
    have HK := za.mk Q_HK
    have HN7 := za.mk HN7.out
    obtain ⟨Ao7, co7, eo_⟩ := Kd.zbf HN7.out
    subst eo_
    have z_ := (zl HG.out 2).trans rfl
    have f_ := zxb HG.out 2
    refine skip_ (w1 := ?_) (by rfl) rfl ?_ ?_
    rotate_left
    ·go_simp
     rfl
    refine hK.out _ _ ⟨W6, (.slice Ao7 (kept ++ [(d1, d2)]).length co7), m6_, (by rw [ha.out]; exact putSel_none (v := undef) rfl), fun h0_ => absurd ((zie b 10).symm.trans h0_) (by decide), fun _ => zzc HG.out 2 _ (by simp), fun h0_ => absurd ((hon 6 (by kernel_rfl)).symm.trans h0_) (by decide), fun _ => Kd.N_far HN7.out (fun k hk => hk.2.1) _, Kd.R_set HA.out HG.out (by decide) _ _, fun h0_ => absurd ((hon 6 (by kernel_rfl)).symm.trans h0_) (by decide), fun h0_ => absurd ((hon 6 (by kernel_rfl)).symm.trans h0_) (by decide), fun h0_ => absurd ((hon 6 (by kernel_rfl)).symm.trans h0_) (by decide), HBB.out.setCell HGG.out.1 _, Kept.setCell HK.out (.inl HGG.out.2) _, fun _ h1_ => absurd ((hon 7 (by kernel_rfl)).symm.trans h1_) (by decide), Q_X6_⟩
   exact steps_nil
  rintro b a wm hall ⟨W6, v7, m6_, ha, Q_HG, Q_HG2, Q_HN, Q_HN7, Q_HA, Q_B8, Q_E1, Q_E2, Q_HBB, Q_HK, Q_R6, Q_X6_⟩
  clear B8 E1 E2 HA HBB HG HK HN
  have hb2_ := hall 2 (by kernel_rfl)
  have hb3_ := hall 3 (by kernel_rfl)
  have hb4_ := hall 4 (by kernel_rfl)
  have hb5_ := hall 5 (by kernel_rfl)
  have hb6_ := hall 6 (by kernel_rfl)
  have hb7_ := hall 7 (by kernel_rfl)
  have hb8_ := hall 8 (by kernel_rfl)
  have hb9_ := hall 9 (by kernel_rfl)
  have hb10_ := hall 10 (by kernel_rfl)
  subst ha
  obtain rfl := Q_X6_ hb6_
  simp only [putSel, hb2_, hb3_, hb4_, hb5_, hb6_, hb7_, hb8_, hb9_, hb10_, if_true, Act.put, List.setIfInBounds_toArray, List.set_cons_zero, List.set_cons_succ]
  clear Q_HG
  have HG2 := za.mk (Q_HG2 hb10_)
  clear Q_HG2
  clear Q_HN
  have HN7 := za.mk (Q_HN7 hb7_)
  clear Q_HN7
  have HA := za.mk Q_HA
  clear Q_HA
  clear Q_B8
  clear Q_E1
  clear Q_E2
  have HBB := za.mk Q_HBB
  clear Q_HBB
  have HK := za.mk Q_HK
  clear Q_HK
  clear Q_R6
  clear hall hb2_ hb3_ hb4_ hb5_ hb6_ hb7_ hb8_ hb9_ hb10_
  go_wp2
  go_ret2
  refine ⟨rfl, ⟨_, _, HG2.out, hbg, .inl hpg, HN7.out, Kd.zuc HA.out (fun _ hk => .inl hk)⟩, HBB.out, HK.out⟩
 ·have b1 : decide (d3 ≥ 0) = false := decide_eq_false t1
  have hf := HFIN.out
  clear HFIN
  rw [if_neg t1] at hf
  obtain ⟨z, hz, hf⟩ := Option.bind_eq_some_iff.mp hf
  have HZ := za.mk hz
  clear hz
  have B8 := za.mk (zif w1 (.cells #[.slice Ao1 d1.length co1, .slice Ao2 d2.length co2] 112 (0, 0)))
  have n1_ := za.mk (zi HG.out (.cells #[.slice Ao1 d1.length co1, .slice Ao2 d2.length co2] 112))
  have n2_ := za.mk (Kd.zkc HN.out (.cells #[.slice Ao1 d1.length co1, .slice Ao2 d2.length co2] 112))
  have n3_ := za.mk (Kd.zka HA.out (.cells #[.slice Ao1 d1.length co1, .slice Ao2 d2.length co2] 112))
  have n5_ := za.mk (Kd.zka E2.out (.cells #[.slice Ao1 d1.length co1, .slice Ao2 d2.length co2] 112))
  have HBB := za.mk (show Below base w (w1.alloc (.cells #[.slice Ao1 d1.length co1, .slice Ao2 d2.length co2] 112)) from (HB.out.mono hbw).alloc (by omega) _)
  have HK := za.mk ((Kept.of_below HB.out P).alloc (.cells #[.slice Ao1 d1.length co1, .slice Ao2 d2.length co2] 112))
  clear HG HN HA E1 E2 HB
  have HG := n1_
  have HN := n2_
  have HA := n3_
  have E2 := n5_
  clear n1_ n2_ n3_ n5_ hsl
  have q8 : (w1.alloc (.cells #[.slice Ao1 d1.length co1, .slice Ao2 d2.length co2] 112)).cell? ⟨w1.heap.size, 1, none⟩ = some (.slice Ao2 d2.length co2) := (zl B8.out 1).trans rfl
  go_wp2_with fail
  generalize hW : w1.alloc (.cells #[.slice Ao1 d1.length co1, .slice Ao2 d2.length co2] 112) = W at *
  clear hW
  refine (zyd.calls k Ao2 co2 d2 z _ (Kd.zsb E2.out).2.2 (Kd.zsb E2.out).2.1 HZ.out).mono ?_
  rintro e w6 ⟨rfl, ⟨m6, rfl⟩⟩
  clear q8
  have n1_ := za.mk (zh HG.out m6)
  have n2_ := za.mk (Kd.zjc HN.out m6)
  have n3_ := za.mk (Kd.zja HA.out m6)
  have n4_ := za.mk (show Below base w (W.drewN m6) from ⟨HBB.out.os, HBB.out.tape, HBB.out.output, HBB.out.size, HBB.out.block⟩)
  have n5_ := za.mk (HK.out.drewN m6)
  clear HG HN HA HBB HK
  have HG := n1_
  have HN := n2_
  have HA := n3_
  have HBB := n4_
  have HK := n5_
  clear n1_ n2_ n3_ n4_ n5_
  cases z with
  | true =>
   simp only [if_true, Option.some.injEq, Prod.mk.injEq] at hf
   obtain ⟨rfl, rfl, rfl, rfl⟩ := hf
   go_wp2
   go_ret2
   exact ⟨rfl, ⟨_, _, HG.out, hbg, .inl hpg, Kd.zye HN.out (fun _ hk => ⟨.inl hk.1, hk.2⟩), Kd.zuc HA.out (fun _ hk => .inl hk)⟩, HBB.out, HK.out⟩
  | false =>
   simp only [Bool.false_eq_true, if_false, Option.some.injEq, Prod.mk.injEq] at hf
   obtain ⟨rfl, rfl, rfl, rfl⟩ := hf
   generalize W.drewN m6 = W2 at *
   have q4 : W2.cell? ⟨g, 4, none⟩ = some (.bool false) := (zl HG.out 4).trans rfl
   have f4 : W2.frozen? ⟨g, 4, none⟩ = false := zxb HG.out 4
   go_wp2
   go_ret2
   exact ⟨rfl, ⟨_, _, zzc HG.out 4 _ rfl, hbg, .inl hpg, Kd.N_far (Kd.zye HN.out (fun _ hk => ⟨.inl hk.1, hk.2⟩)) (fun k hk => hk.2.1) _, Kd.R_set (Kd.zuc HA.out (fun _ hk => .inl hk)) HG.out (by decide) _ _⟩, HBB.out.setCell hbg _, Kept.setCell HK.out (.inl hpg) _⟩
def zgd.l0 : Nat → Int → List Int → Int → Int → Option (Int)
 | 0, _, _, _, _ => none
 | k + 1, x1, x13, x14, x15 => if x15 < x14 then (if 0 ≤ x15 then (if x15 < (x13.length : Int) then (if (rd x13 x15) < 0 then (some 1) else (if (rd x13 x15) ≥ x1 then (some 1) else (zgd.l0 k x1 x13 x14 (wrap64 (x15 + 1))))) else (none)) else (none)) else (some 0)
def zgd.f (k : Nat) (l0 : List Int) (a1 : Int) : Option (Int) := if a1 < 0 then (some 1) else (if a1 > 4096 then (some 1) else (zgd.l0 k a1 l0 (l0.length : Int) 0))
theorem zgd.calls (k : Nat) (A0 : Option Addr) (c0 : Nat) (l0 : List Int) (a1 : Int) (r : Int) (w : World) (hr0 : Kd.C (Kd.int .i64) w A0 l0.length l0) (hc0 : l0.length ≤ c0) (h : zgd.f k l0 a1 = some r) :
  Calls Tryz.prog 76 #[.slice A0 l0.length c0, .int .i64 a1] w fun e w' => e = .returned (.int .i64 r) ∧ zz w w' := by
 have HR0 := za.mk hr0
 have HC0 := za.mk hc0
 clear hr0 hc0
 have H : (if a1 < 0 then (some 1) else (if a1 > 4096 then (some 1) else (zgd.l0 k a1 l0 (l0.length : Int) 0))) = some r := h
 clear h
 by_cases c3 : a1 < 0
 ·rw [if_pos c3] at H
  have c3b0 : decide (a1 < 0) = true := decide_eq_true c3
  clear c3
  obtain rfl := Option.some.inj H
  go_enter Tryz.func76, Tryz.ntmps76
  go_wp2
  go_ret
  exact ⟨by first | rfl | (simp; done) | (simp [*]; done), by repeat (first | exact zz.refl _ | apply zz.step)⟩
 ·rw [if_neg c3] at H
  have c3b0 : decide (a1 < 0) = false := decide_eq_false c3
  clear c3
  by_cases c4 : a1 > 4096
  ·rw [if_pos c4] at H
   have c4b0 : decide (4096 < a1) = true := decide_eq_true c4
   clear c4
   obtain rfl := Option.some.inj H
   go_enter Tryz.func76, Tryz.ntmps76
   go_wp2
   go_ret
   exact ⟨by first | rfl | (simp; done) | (simp [*]; done), by repeat (first | exact zz.refl _ | apply zz.step)⟩
  ·rw [if_neg c4] at H
   have c4b0 : decide (4096 < a1) = false := decide_eq_false c4
   clear c4
   have H' := za.mk H
   clear H
   go_enter Tryz.func76, Tryz.ntmps76
   go_wp2
   go_loopg [15] k (fun kq v15 w' => ∃ (x15_1 : Int), v15 = .int .i64 x15_1 ∧ za (zgd.l0 kq a1 l0 (l0.length : Int) x15_1 = some r) ∧ za (kq ≤ k) ∧ zz w w')
   case atStart => exact ⟨(0), (by first | rfl | simp [*]), H', ⟨Nat.le_refl _⟩, by repeat (first | exact zz.refl _ | apply zz.step)⟩
   case round =>
    clear H'
    obtain ⟨x15_1, rfl, HA, HK1, ⟨m1, rfl⟩⟩ := hrel
    cases gk with
    | zero => exact absurd HA.out (by simp [zgd.l0])
    | succ k1 =>
     have H := HA.out
     clear HA
     simp only [zgd.l0] at H
     by_cases c5 : x15_1 < (l0.length : Int)
     ·rw [if_pos c5] at H
      have c5b0 : decide (x15_1 < (l0.length : Int)) = true := decide_eq_true c5
      clear c5
      by_cases c6 : 0 ≤ x15_1
      ·rw [if_pos c6] at H
       have c6b0 : decide (0 ≤ x15_1) = true := decide_eq_true c6
       clear c6
       by_cases c7 : x15_1 < (l0.length : Int)
       ·rw [if_pos c7] at H
        have c7b0 : decide (x15_1 < (l0.length : Int)) = true := decide_eq_true c7
        clear c7
        by_cases c8 : (rd l0 x15_1) < 0
        ·rw [if_pos c8] at H
         have c8b0 : decide ((rd l0 x15_1) < 0) = true := decide_eq_true c8
         clear c8
         obtain rfl := Option.some.inj H
         have p278 : 0 ≤ (x15_1 : Int) := of_decide_eq_true (by first | (with_reducible assumption) | assumption)
         have q278 : x15_1 < (l0.length : Int) := of_decide_eq_true (by first | (with_reducible assumption) | assumption)
         obtain ⟨ad278, e278, hx278_0⟩ := Kd.zqe HR0.out x15_1 p278 q278
         cases e278
         replace p278 := eq_true p278
         replace q278 := eq_true q278
         go_wp2
         go_ret
         exact ⟨by first | rfl | (simp; done) | (simp [*]; done), by repeat (first | exact zz.refl _ | apply zz.step)⟩
        ·rw [if_neg c8] at H
         have c8b0 : decide ((rd l0 x15_1) < 0) = false := decide_eq_false c8
         clear c8
         by_cases c9 : (rd l0 x15_1) ≥ a1
         ·rw [if_pos c9] at H
          have c9b0 : decide (a1 ≤ (rd l0 x15_1)) = true := decide_eq_true c9
          clear c9
          obtain rfl := Option.some.inj H
          have p278 : 0 ≤ (x15_1 : Int) := of_decide_eq_true (by first | (with_reducible assumption) | assumption)
          have q278 : x15_1 < (l0.length : Int) := of_decide_eq_true (by first | (with_reducible assumption) | assumption)
          obtain ⟨ad278, e278, hx278_0⟩ := Kd.zqe HR0.out x15_1 p278 q278
          cases e278
          replace p278 := eq_true p278
          replace q278 := eq_true q278
          go_wp2
          go_ret
          exact ⟨by first | rfl | (simp; done) | (simp [*]; done), by repeat (first | exact zz.refl _ | apply zz.step)⟩
         ·rw [if_neg c9] at H
          have c9b0 : decide (a1 ≤ (rd l0 x15_1)) = false := decide_eq_false c9
          clear c9
          have H' := za.mk H
          clear H
          have p278 : 0 ≤ (x15_1 : Int) := of_decide_eq_true (by first | (with_reducible assumption) | assumption)
          have q278 : x15_1 < (l0.length : Int) := of_decide_eq_true (by first | (with_reducible assumption) | assumption)
          obtain ⟨ad278, e278, hx278_0⟩ := Kd.zqe HR0.out x15_1 p278 q278
          cases e278
          replace p278 := eq_true p278
          replace q278 := eq_true q278
          go_wp2
          go_roundg k1
          case measure => have := HK1.out; omega
          case rel => exact ⟨(wrap64 (x15_1 + 1)), (by first | rfl | simp [*]), H', ⟨by have := HK1.out; omega⟩, by repeat (first | exact zz.refl _ | apply zz.step)⟩
       ·rw [if_neg c7] at H
        exact absurd H (by simp)
      ·rw [if_neg c6] at H
       exact absurd H (by simp)
     ·rw [if_neg c5] at H
      have c5b0 : decide (x15_1 < (l0.length : Int)) = false := decide_eq_false c5
      clear c5
      obtain rfl := Option.some.inj H
      go_wp2
      go_ret
      exact ⟨by first | rfl | (simp; done) | (simp [*]; done), by repeat (first | exact zz.refl _ | apply zz.step)⟩
def zyb.l0 : Nat → List Int → List Int → Int → Int → Option (List Int × Option Int)
 | 0, _, _, _, _ => none
 | k + 1, x7, x20, x21, x22 => if x22 < x21 then (if 0 ≤ x22 then (if x22 < (x20.length : Int) then ((zmf.f x7 (rd x20 x22)).bind fun t287 => (if t287 = true then ((zcb.f (⟨#[112, 97, 99, 107, 101, 100, 46, 80, 97, 99, 107]⟩ : ByteArray) 2).bind fun t288 => (some (([] : List Int), t288))) else (if 0 ≤ (wrap64 (Int.tdiv (rd x20 x22) 64)) then (if (wrap64 (Int.tdiv (rd x20 x22) 64)) < (x7.length : Int) then (if 0 ≤ (Int.tmod (rd x20 x22) 64) then (zyb.l0 k (x7.set ((wrap64 (Int.tdiv (rd x20 x22) 64)) : Int).toNat (Go.bits .or .u64 (rd x7 (wrap64 (Int.tdiv (rd x20 x22) 64))) (shl .u64 1 (Int.tmod (rd x20 x22) 64)))) x20 x21 (wrap64 (x22 + 1))) else (none)) else (none)) else (none)))) else (none)) else (none)) else (some (x7, none))
def zyb.f (k : Nat) (l0 : List Int) (a1 : Int) : Option (List Int × Option Int) := (zgd.f k l0 a1).bind fun t280 => (if t280 = 0 then ((zde.f a1).bind fun t282 => (if 0 ≤ t282 then (if (t282 : Int).toNat ≤ 35184372088832 then (zyb.l0 k (List.replicate (t282 : Int).toNat 0) l0 (l0.length : Int) 0) else (none)) else (none))) else ((zcb.f (⟨#[112, 97, 99, 107, 101, 100, 46, 80, 97, 99, 107]⟩ : ByteArray) t280).bind fun t281 => (some (([] : List Int), t281))))
def zyb.T10 : Bool × List (List Nat × List Nat) := (true, [([], []), ([], []), ([1], [1]), ([0, 2], [0, 2]), ([3], [3]), ([], []), ([5], [5]), ([6], [6]), ([4, 7], [4, 7]), ([0, 2, 0, 1, 2, 3, 4, 5, 6, 7, 8], [0, 2]), ([9, 8, 0, 1, 2, 3, 4, 5, 6, 7, 8], [8, 9])])
def zyb.B10 : List Nat := [0, 0, 2, 7, 15, 0, 32, 96, 255, 511, 1023]
theorem zyb.tab10 : rtab .any (opsOf Tryz.f54 10) = zyb.T10 := by kernel_rfl
theorem zyb.bits10 : waitsOk zyb.T10.2 zyb.B10 = true := by kernel_rfl
theorem zyb.calls (k : Nat) (A0 : Option Addr) (c0 : Nat) (l0 : List Int) (a1 : Int) (r1 : List Int) (r2 : Option Int) (w : World) (hr0 : Kd.C (Kd.int .i64) w A0 l0.length l0) (hc0 : l0.length ≤ c0) (h : zyb.f k l0 a1 = some (r1, r2)) :
  Calls Tryz.prog 54 #[.slice A0 l0.length c0, .int .i64 a1] w fun e w' => ∃ v0_ : Value, e = .returned (.tuple #[v0_, errW r2]) ∧ Kd.R (Kd.int .u64) 104 w' w.heap.size (fun _ => True) v0_ r1 ∧ Below w.heap.size w w' := by
 have HR0 := za.mk hr0
 have HC0 := za.mk hc0
 clear hr0 hc0
 have HB := za.mk (Below.refl w.heap.size w)
 have H : ((zgd.f k l0 a1).bind fun t280 => (if t280 = 0 then ((zde.f a1).bind fun t282 => (if 0 ≤ t282 then (if (t282 : Int).toNat ≤ 35184372088832 then (zyb.l0 k (List.replicate (t282 : Int).toNat 0) l0 (l0.length : Int) 0) else (none)) else (none))) else ((zcb.f (⟨#[112, 97, 99, 107, 101, 100, 46, 80, 97, 99, 107]⟩ : ByteArray) t280).bind fun t281 => (some (([] : List Int), t281))))) = some (r1, r2) := h
 clear h
 replace H := Option.bind_eq_some_iff.mp H
 obtain ⟨t280, A30, H⟩ := H
 replace H : (if t280 = 0 then ((zde.f a1).bind fun t282 => (if 0 ≤ t282 then (if (t282 : Int).toNat ≤ 35184372088832 then (zyb.l0 k (List.replicate (t282 : Int).toNat 0) l0 (l0.length : Int) 0) else (none)) else (none))) else ((zcb.f (⟨#[112, 97, 99, 107, 101, 100, 46, 80, 97, 99, 107]⟩ : ByteArray) t280).bind fun t281 => (some (([] : List Int), t281)))) = some (r1, r2) := H
 have A3 := za.mk A30
 clear A30
 by_cases c4 : t280 = 0
 ·rw [if_pos c4] at H
  have c4b0 : (t280 == 0) = true := beq_iff_eq.mpr c4
  have c4b1 : (t280 != 0) = false := bne_eq_false_iff_eq.mpr c4
  clear c4
  replace H := Option.bind_eq_some_iff.mp H
  obtain ⟨t282, A50, H⟩ := H
  replace H : (if 0 ≤ t282 then (if (t282 : Int).toNat ≤ 35184372088832 then (zyb.l0 k (List.replicate (t282 : Int).toNat 0) l0 (l0.length : Int) 0) else (none)) else (none)) = some (r1, r2) := H
  have A5 := za.mk A50
  clear A50
  by_cases c6 : 0 ≤ t282
  ·rw [if_pos c6] at H
   have c6b0 := eq_true c6
   have c6b1 : decide (0 ≤ t282) = true := decide_eq_true c6
   clear c6
   by_cases c7 : (t282 : Int).toNat ≤ 35184372088832
   ·rw [if_pos c7] at H
    have c7b0 := eq_true c7
    have c7b1 : decide ((t282 : Int).toNat ≤ 35184372088832) = true := decide_eq_true c7
    clear c7
    obtain ⟨y283, hy283⟩ : ∃ y_ : List Int, y_ = (List.replicate (t282 : Int).toNat 0) := ⟨_, rfl⟩
    replace H : (zyb.l0 k y283 l0 (l0.length : Int) 0) = some (r1, r2) := by first | (rw [hy283]; with_reducible exact H) | (have H2_ := (Option.bind_some _ _).symm.trans H; rw [hy283]; with_reducible exact H2_) | (have H2_ := (Option.bind_some _ _).symm.trans H; with_reducible exact H2_) | with_reducible exact H | (rw [hy283]; exact H) | exact H
    have Ny283 := za.mk hy283
    clear hy283
    have H' := za.mk H
    clear H
    go_enter Tryz.func54, Tryz.ntmps54
    go_wp2_with (first | ((with_reducible refine zaa (f := 76) rfl ?_); refine zmc (some 12) rfl rfl Tryz.func76 (by kernel_rfl) rfl #[.slice A0 l0.length c0, .int .i64 a1] rfl (by (try simp only [zpa]); first | done | rfl | simp) ?_; (with_reducible refine (zgd.calls k _ _ l0 a1 t280 _ ?side1 ?side2 A3.out).mono ?_); (case side1 => apply_rules only [HR0.out, Kd.zod, Kd.zmd, Kd.zme]); (case side2 => exact HC0.out); rintro e w' ⟨rfl, ⟨nd, rfl⟩⟩; refine ⟨_, rfl, ?_⟩) | ((with_reducible refine zaa (f := 77) rfl ?_); refine zmc (some 18) rfl rfl Tryz.func77 (by kernel_rfl) rfl #[.int .i64 a1] rfl (by (try simp only [zpa]); first | done | rfl | simp) ?_; (with_reducible refine (zde.calls a1 t282 _ A5.out).mono ?_); rintro e w' ⟨rfl, ⟨nd, rfl⟩⟩; refine ⟨_, rfl, ?_⟩) | ((with_reducible refine zza (N := 19) rfl ?_); refine Kd.R_make (Kd.int .u64) _ 104 rfl (N := 19) rfl 71 _ _ rfl t282 rfl rfl Tryz.underlying71 (.int .u64 0) 8 info104 rfl (by decide) (by omega) 0 (ok := fun _ => True) (okp := fun _ => True) rfl (fun _ hk => hk) trivial (of_decide_eq_true (by first | (with_reducible assumption) | assumption)) (Nat.le_trans (Nat.mul_le_mul_right _ (of_decide_eq_true (by first | (with_reducible assumption) | assumption) : t282.toNat ≤ 35184372088832)) (by omega)) (Below.refl _ _) (Nat.le_refl _) ?_; intro v284 w8 ho9 hb hg_ hnew_; clear hg_ hnew_; (first | rw [← Ny283.out] at ho9 | (simp only [Int.reduceToNat] at ho9; rw [← Ny283.out] at ho9)); have n0_ := za.mk (Kd.zcd ho9 (zm (by apply_rules only [HB.out, ze, zb, zf]))); have n1_ := za.mk (zk (by apply_rules only [HB.out, ze, zb, zf]) hb); clear HB; have HO285 := n0_; have HB := n1_; clear n0_ n1_; clear hb ho9))
    go_loopg [22] k (fun kq v22 w' => ∃ (x7_1 : List Int) (x22_1 : Int), v22 = .int .i64 x22_1 ∧ za (zyb.l0 kq x7_1 l0 (l0.length : Int) x22_1 = some (r1, r2)) ∧ za (kq ≤ k) ∧ za (Kd.R (Kd.int .u64) 104 w' w.heap.size (fun _ => True) v284 x7_1) ∧ za (Below w.heap.size w w'))
    case atStart => exact ⟨(y283), (0), (by first | rfl | simp [*]), H', ⟨Nat.le_refl _⟩, ⟨by apply_rules only [HO285.out, Kd.zka, Kd.zja, Kd.zya]⟩, ⟨by apply_rules only [HB.out, ze, zb, zf]⟩⟩
    case round =>
     clear H'
     obtain ⟨x7_1, x22_1, rfl, HA, HK1, HO_7, HB⟩ := hrel
     cases gk with
     | zero => exact absurd HA.out (by simp [zyb.l0])
     | succ k1 =>
      have H := HA.out
      clear HA
      simp only [zyb.l0] at H
      by_cases c10 : x22_1 < (l0.length : Int)
      ·rw [if_pos c10] at H
       have c10b0 : decide (x22_1 < (l0.length : Int)) = true := decide_eq_true c10
       clear c10
       by_cases c11 : 0 ≤ x22_1
       ·rw [if_pos c11] at H
        have c11b0 : decide (0 ≤ x22_1) = true := decide_eq_true c11
        clear c11
        by_cases c12 : x22_1 < (l0.length : Int)
        ·rw [if_pos c12] at H
         have c12b0 : decide (x22_1 < (l0.length : Int)) = true := decide_eq_true c12
         clear c12
         replace H := Option.bind_eq_some_iff.mp H
         obtain ⟨t287, A130, H⟩ := H
         replace H : (if t287 = true then ((zcb.f (⟨#[112, 97, 99, 107, 101, 100, 46, 80, 97, 99, 107]⟩ : ByteArray) 2).bind fun t288 => (some (([] : List Int), t288))) else (if 0 ≤ (wrap64 (Int.tdiv (rd l0 x22_1) 64)) then (if (wrap64 (Int.tdiv (rd l0 x22_1) 64)) < (x7_1.length : Int) then (if 0 ≤ (Int.tmod (rd l0 x22_1) 64) then (zyb.l0 k1 (x7_1.set ((wrap64 (Int.tdiv (rd l0 x22_1) 64)) : Int).toNat (Go.bits .or .u64 (rd x7_1 (wrap64 (Int.tdiv (rd l0 x22_1) 64))) (shl .u64 1 (Int.tmod (rd l0 x22_1) 64)))) l0 (l0.length : Int) (wrap64 (x22_1 + 1))) else (none)) else (none)) else (none))) = some (r1, r2) := H
         have A13 := za.mk A130
         clear A130
         by_cases c14 : t287 = true
         ·subst c14
          have H1 : ((zcb.f (⟨#[112, 97, 99, 107, 101, 100, 46, 80, 97, 99, 107]⟩ : ByteArray) 2).bind fun t288 => (some (([] : List Int), t288))) = some (r1, r2) := by rw [if_pos rfl] at H; exact H
          exact absurd H1 (by simp [zcb.f, zfb.f])
         ·replace c14 := Bool.eq_false_iff.mpr c14
          subst c14
          have H1 : (if 0 ≤ (wrap64 (Int.tdiv (rd l0 x22_1) 64)) then (if (wrap64 (Int.tdiv (rd l0 x22_1) 64)) < (x7_1.length : Int) then (if 0 ≤ (Int.tmod (rd l0 x22_1) 64) then (zyb.l0 k1 (x7_1.set ((wrap64 (Int.tdiv (rd l0 x22_1) 64)) : Int).toNat (Go.bits .or .u64 (rd x7_1 (wrap64 (Int.tdiv (rd l0 x22_1) 64))) (shl .u64 1 (Int.tmod (rd l0 x22_1) 64)))) l0 (l0.length : Int) (wrap64 (x22_1 + 1))) else (none)) else (none)) else (none)) = some (r1, r2) := by rw [if_neg (show ¬ (false = true) by decide)] at H; exact H
          clear H
          have H := H1
          clear H1
          obtain ⟨ji17, hji17⟩ : ∃ j_ : Int, (wrap64 (Int.tdiv (rd l0 x22_1) 64)) = j_ := ⟨_, rfl⟩
          replace H : (if 0 ≤ (ji17) then (if (ji17) < (x7_1.length : Int) then (if 0 ≤ (Int.tmod (rd l0 x22_1) 64) then (zyb.l0 k1 (x7_1.set ((ji17) : Int).toNat (Go.bits .or .u64 (rd x7_1 (ji17)) (shl .u64 1 (Int.tmod (rd l0 x22_1) 64)))) l0 (l0.length : Int) (wrap64 (x22_1 + 1))) else (none)) else (none)) else (none)) = some (r1, r2) := by first | (rw [hji17] at H; exact H) | (simp only [hji17] at H ⊢; exact H)
          (try rw [hji17] at A13)
          have hji17w : (IntKind.i64.wrap (Int.tdiv (rd l0 x22_1) 64)) = ji17 := (i64_w _).trans hji17
          by_cases c18 : 0 ≤ (ji17)
          ·rw [if_pos c18] at H
           have c18b0 : decide (0 ≤ (ji17)) = true := decide_eq_true c18
           clear c18
           by_cases c19 : (ji17) < (x7_1.length : Int)
           ·rw [if_pos c19] at H
            have c19b0 : decide ((ji17) < (x7_1.length : Int)) = true := decide_eq_true c19
            clear c19
            obtain ⟨ji20, hji20⟩ : ∃ j_ : Int, (Int.tmod (rd l0 x22_1) 64) = j_ := ⟨_, rfl⟩
            replace H : (if 0 ≤ (ji20) then (zyb.l0 k1 (x7_1.set ((ji17) : Int).toNat (Go.bits .or .u64 (rd x7_1 (ji17)) (shl .u64 1 (ji20)))) l0 (l0.length : Int) (wrap64 (x22_1 + 1))) else (none)) = some (r1, r2) := by first | (rw [hji20] at H; exact H) | (simp only [hji20] at H ⊢; exact H)
            (try rw [hji20] at A13)
            by_cases c21 : 0 ≤ (ji20)
            ·rw [if_pos c21] at H
             have c21b0 := eq_true c21
             have c21b1 : decide (0 ≤ (ji20)) = true := decide_eq_true c21
             clear c21
             obtain ⟨ji22, hji22⟩ : ∃ j_ : Int, (shl .u64 1 (ji20)) = j_ := ⟨_, rfl⟩
             replace H : (zyb.l0 k1 (x7_1.set ((ji17) : Int).toNat (Go.bits .or .u64 (rd x7_1 (ji17)) (ji22))) l0 (l0.length : Int) (wrap64 (x22_1 + 1))) = some (r1, r2) := by first | (rw [hji22] at H; exact H) | (simp only [hji22] at H ⊢; exact H)
             (try rw [hji22] at A13)
             have hji22_ : (IntKind.u64.wrap (1 * 2 ^ min (ji20).toNat 64)) = ji22 := hji22
             have hji22z : (ji20) ≤ 64 → (IntKind.u64.wrap (1 * 2 ^ (ji20).toNat)) = ji22 := shl_small hji22
             have hji22u : (IntKind.u64.wrap (2 ^ min (ji20).toNat 64)) = ji22 := by have h_ := hji22_; rw [Int.one_mul] at h_; exact h_
             have hji22v : (ji20) ≤ 64 → (IntKind.u64.wrap (2 ^ (ji20).toNat)) = ji22 := fun hle_ => by have h_ := hji22z hle_; rw [Int.one_mul] at h_; exact h_
             obtain ⟨y290, hy290⟩ : ∃ y_ : List Int, y_ = (x7_1.set ((ji17) : Int).toNat (Go.bits .or .u64 (rd x7_1 (ji17)) (ji22))) := ⟨_, rfl⟩
             replace H : (zyb.l0 k1 y290 l0 (l0.length : Int) (wrap64 (x22_1 + 1))) = some (r1, r2) := by first | (rw [hy290]; with_reducible exact H) | (have H2_ := (Option.bind_some _ _).symm.trans H; rw [hy290]; with_reducible exact H2_) | (have H2_ := (Option.bind_some _ _).symm.trans H; with_reducible exact H2_) | with_reducible exact H | (rw [hy290]; exact H) | exact H
             have Ny290 := za.mk hy290
             clear hy290
             have H' := za.mk H
             clear H
             have p286 : 0 ≤ (x22_1 : Int) := of_decide_eq_true (by first | (with_reducible assumption) | assumption)
             have q286 : x22_1 < (l0.length : Int) := of_decide_eq_true (by first | (with_reducible assumption) | assumption)
             obtain ⟨ad286, e286, hx286_0⟩ := Kd.zqe HR0.out x22_1 p286 q286
             cases e286
             replace hx286_0 := (HB.out.cell (World.block_lt_of_cell? w _ hx286_0)).trans hx286_0
             replace p286 := eq_true p286
             replace q286 := eq_true q286
             obtain ⟨Ao24, co24, eo24⟩ := Kd.zsc HO_7.out
             subst eo24
             try go_wp2_with (first | ((with_reducible refine zaa (f := 78) rfl ?_); refine zmc (some 28) rfl rfl Tryz.func78 (by kernel_rfl) rfl #[.slice Ao24 x7_1.length co24, .int .i64 (rd l0 x22_1)] rfl (by (try simp only [zpa]); first | done | rfl | simp) ?_; (with_reducible refine (zmf.calls _ _ x7_1 (rd l0 x22_1) false _ ?side1 ?side2 A13.out).mono ?_); (case side1 => apply_rules only [(Kd.zsb HO_7.out).2.2, Kd.zod, Kd.zmd, Kd.zme]); (case side2 => exact (Kd.zsb HO_7.out).2.1); rintro e w' ⟨rfl, ⟨nd, rfl⟩⟩; refine ⟨_, rfl, ?_⟩; (try (rw [drewN_self wr]; generalize hq_ : World.drewN wr _ = wr; have n0_ : za (Kd.R (Kd.int .u64) 104 wr w.heap.size (fun _ => True) (.slice Ao24 x7_1.length co24) x7_1) := ⟨by rw [← hq_]; exact (by apply_rules only [HO_7.out, Kd.zka, Kd.zja, Kd.zya])⟩; have n1_ : za (Below w.heap.size w wr) := ⟨by rw [← hq_]; exact (by apply_rules only [HB.out, ze, zb, zf])⟩; clear HO_7 HB hq_; have HO_7 := n0_; have HB := n1_; clear n0_ n1_))))
             have n0_ := za.mk (Kd.zya HO_7.out)
             have n1_ := za.mk (zf HB.out)
             clear HO_7
             clear HB
             have HO_7 := n0_
             have HB := n1_
             clear n0_ n1_
             have p289 : 0 ≤ ((ji17) : Int) := of_decide_eq_true (by first | (with_reducible assumption) | assumption)
             have q289 : (ji17) < (x7_1.length : Int) := of_decide_eq_true (by first | (with_reducible assumption) | assumption)
             obtain ⟨ad289, e289, hx289_0⟩ := Kd.zqe (Kd.zsb HO_7.out).2.2 (ji17) p289 q289
             cases e289
             replace p289 := eq_true p289
             replace q289 := eq_true q289
             have p23 : 0 ≤ ((ji17) : Int) := of_decide_eq_true (by first | (with_reducible assumption) | assumption)
             have q23 : ((ji17) : Int) < ((x7_1.length : Int) : Int) := of_decide_eq_true (by first | (with_reducible assumption) | assumption)
             obtain ⟨go23, co23, eo23, gb23, gl23, cl23, HG23⟩ := Kd.R_form HO_7.out (by omega)
             (first | cases eo23 | (injection eo23 with ea_ en_ ec_; (first | subst ea_ | (injection ea_ with ea_; subst ea_)); subst ec_; clear en_))
             have GB23 := za.mk gb23
             have GG23 := za.mk HG23
             clear gb23 gl23 HG23
             (first | simp only [add_plain] at hx289_0 | skip)
             obtain ⟨hx23_0, hf23_0⟩ := Kd.R_celln 0 HO_7.out ((ji17) : Int) p23 q23
             replace p23 := eq_true p23
             replace q23 := eq_true q23
             have HP26 := Kd.R_putn HO_7.out ((ji17) : Int) (Go.bits .or .u64 (rd x7_1 (ji17)) (ji22))
             rw [← Ny290.out] at HP26
             have HQ26 := za.mk HP26
             clear HP26
             refine zsf (n := 11) (S := fun w' => w'.cell? ⟨go23, ((ji17)).toNat, none⟩ = some (.int .u64 (rd x7_1 (ji17)))) (ds := [10]) #[false, false, false, false, false, false, false, false, false, false, false] (by kernel_rfl) rfl rfl (hx289_0) (fun hHeld => ?_); refine zke zyb.tab10 zyb.bits10 (fun HT_ HW_ => ?_)
             generalize wr.drew = w25 at HO_7 HB GG23 HQ26 hf23_0 hx23_0 hx289_0 hHeld ⊢
             refine pure_ (i := 0) (N := some 30) (v := ?_) (a' := ?_) #[true, false, false, false, false, false, false, false, false, false, false] rfl rfl (zvb HT_.out (by kernel_rfl)) (fun _ _ _ h => h) (Or.inl ⟨by rfl, ?_⟩) ?_ ?_
             rotate_left
             ·intro w'
              go_simp
              with_reducible rfl
             rotate_left
             ·simp only [Act.put, zw]
              rfl
             refine pure_ (i := 1) (N := some 31) (v := ?_) (a' := ?_) #[true, true, false, false, false, false, false, false, false, false, false] rfl rfl (zvb HT_.out (by kernel_rfl)) (fun _ _ _ h => h) (Or.inl ⟨by rfl, ?_⟩) ?_ ?_
             rotate_left
             ·intro w'
              go_simp
              with_reducible rfl
             rotate_left
             ·simp only [Act.put, zw]
              rfl
             refine pure_ (i := 2) (N := some 32) (v := ?_) (a' := ?_) #[true, true, true, false, false, false, false, false, false, false, false] rfl rfl (zvb HT_.out (by kernel_rfl)) (fun _ _ _ h => h) (Or.inl ⟨by rfl, ?_⟩) ?_ ?_
             rotate_left
             ·intro w'
              go_simp
              with_reducible rfl
             rotate_left
             ·simp only [Act.put, zw]
              rfl
             refine pure_ (i := 3) (N := some 33) (v := ?_) (a' := ?_) #[true, true, true, true, false, false, false, false, false, false, false] rfl rfl (zvb HT_.out (by kernel_rfl)) (fun _ _ _ h => h) (Or.inl ⟨by rfl, ?_⟩) ?_ ?_
             rotate_left
             ·intro w'
              go_simp
              with_reducible rfl
             rotate_left
             ·simp only [Act.put, zw]
              rfl
             refine pure_ (i := 5) (N := some 35) (v := ?_) (a' := ?_) #[true, true, true, true, false, true, false, false, false, false, false] rfl rfl (zvb HT_.out (by kernel_rfl)) (fun _ _ _ h => h) (Or.inl ⟨by rfl, ?_⟩) ?_ ?_
             rotate_left
             ·intro w'
              go_simp
              with_reducible rfl
             rotate_left
             ·simp only [Act.put, zw]
              rfl
             refine pure_ (i := 6) (N := some 36) (v := ?_) (a' := ?_) #[true, true, true, true, false, true, true, false, false, false, false] rfl rfl (zvb HT_.out (by kernel_rfl)) (fun _ _ _ h => h) (Or.inl ⟨by rfl, ?_⟩) ?_ ?_
             rotate_left
             ·intro w'
              go_simp
              with_reducible rfl
             rotate_left
             ·simp only [Act.put, zw]
              rfl
             refine pure_ (i := 7) (N := some 37) (v := ?_) (a' := ?_) #[true, true, true, true, false, true, true, true, false, false, false] rfl rfl (zvb HT_.out (by kernel_rfl)) (fun _ _ _ h => h) (Or.inl ⟨by rfl, ?_⟩) ?_ ?_
             rotate_left
             ·intro w'
              go_simp
              with_reducible rfl
             rotate_left
             ·simp only [Act.put, zw]
              rfl
             refine take_ (i := 4) (N := some 34) (v := ?_) (a' := ?_) #[true, true, true, true, true, true, true, true, false, false, false] rfl rfl (zje HT_.out HW_.out (by kernel_rfl)) (fun _ _ _ h => h) (Or.inl ⟨by rfl, ?_⟩) hHeld ?_ ?_
             rotate_left
             ·intro w' s0
              go_simp
              with_reducible rfl
             rotate_left
             ·simp only [Act.put, zw]
              rfl
             refine pure_ (i := 8) (N := some 38) (v := ?_) (a' := ?_) #[true, true, true, true, true, true, true, true, true, false, false] rfl rfl (zvb HT_.out (by kernel_rfl)) (fun _ _ _ h => h) (Or.inl ⟨by rfl, ?_⟩) ?_ ?_
             rotate_left
             ·intro w'
              go_simp
              with_reducible rfl
             rotate_left
             ·simp only [Act.put, zw]
              rfl
             refine pure_ (i := 9) (N := some 39) (v := ?_) (a' := ?_) #[true, true, true, true, true, true, true, true, true, true, false] rfl rfl (zvb HT_.out (by kernel_rfl)) (fun _ _ _ h => h) (Or.inl ⟨by rfl, ?_⟩) ?_ ?_
             rotate_left
             ·intro w'
              go_simp
              with_reducible rfl
             rotate_left
             ·simp only [Act.put, zw]
              rfl
             refine last_ (i := 10) (N := none) #[true, true, true, true, true, true, true, true, true, true, true] rfl rfl (one_of HT_.out (by kernel_rfl)) (by decide) (fun K hK => ?_)
             refine skip_ (w1 := ?_) (by rfl) rfl ?_ ?_
             rotate_left
             ·go_simp
              rfl
             refine hK.out _ _ ?_
             clear hK K
             refine done_ (done_of HT_.out (by kernel_rfl)) ?_
             try go_wp2
             go_roundg k1
             case measure => have := HK1.out; omega
             case rel => exact ⟨(y290), (wrap64 (x22_1 + 1)), (by first | rfl | simp [*]), H', ⟨by have := HK1.out; omega⟩, ⟨by apply_rules only [HQ26.out, Kd.zka, Kd.zja, Kd.zya]⟩, ⟨by apply_rules only [HB.out, ze, zb, zf, fun h => zg h GB23.out]⟩⟩
            ·rw [if_neg c21] at H
             exact absurd H (by simp)
           ·rw [if_neg c19] at H
            exact absurd H (by simp)
          ·rw [if_neg c18] at H
           exact absurd H (by simp)
        ·rw [if_neg c12] at H
         exact absurd H (by simp)
       ·rw [if_neg c11] at H
        exact absurd H (by simp)
      ·rw [if_neg c10] at H
       have c10b0 : decide (x22_1 < (l0.length : Int)) = false := decide_eq_false c10
       clear c10
       simp only [Option.some.injEq, Prod.mk.injEq] at H
       obtain ⟨rfl, rfl⟩ := H
       go_wp2
       go_ret2
       exact ⟨_, by first | rfl | (simp [zn, zo] <;> rfl) | (simp [*, zn, zo] <;> rfl), by apply_rules only [HO_7.out, Kd.zka, Kd.zja, Kd.zya], by apply_rules only [HB.out, ze, zb, zf]⟩
   ·rw [if_neg c7] at H
    exact absurd H (by simp)
  ·rw [if_neg c6] at H
   exact absurd H (by simp)
 ·rw [if_neg c4] at H
  have c4b0 : (t280 == 0) = false := beq_eq_false_iff_ne.mpr c4
  have c4b1 : (t280 != 0) = true := bne_iff_ne.mpr c4
  replace H := Option.bind_eq_some_iff.mp H
  obtain ⟨t281, A270, H⟩ := H
  replace H : (some (([] : List Int), t281)) = some (r1, r2) := H
  have A27 := za.mk A270
  clear A270
  simp only [Option.some.injEq, Prod.mk.injEq] at H
  obtain ⟨rfl, rfl⟩ := H
  go_enter Tryz.func54, Tryz.ntmps54
  go_wp2_with (first | ((with_reducible refine zaa (f := 76) rfl ?_); refine zmc (some 12) rfl rfl Tryz.func76 (by kernel_rfl) rfl #[.slice A0 l0.length c0, .int .i64 a1] rfl (by (try simp only [zpa]); first | done | rfl | simp) ?_; (with_reducible refine (zgd.calls k _ _ l0 a1 t280 _ ?side1 ?side2 A3.out).mono ?_); (case side1 => apply_rules only [HR0.out, Kd.zod, Kd.zmd, Kd.zme]); (case side2 => exact HC0.out); rintro e w' ⟨rfl, ⟨nd, rfl⟩⟩; refine ⟨_, rfl, ?_⟩) | ((with_reducible refine zaa (f := 36) rfl ?_); refine zmc (some 16) rfl rfl Tryz.func36 (by kernel_rfl) rfl #[.string (⟨#[112, 97, 99, 107, 101, 100, 46, 80, 97, 99, 107]⟩ : ByteArray), .int .i64 t280] rfl (by (try simp only [zpa]); first | done | rfl | simp) ?_; (with_reducible refine (zcb.calls (⟨#[112, 97, 99, 107, 101, 100, 46, 80, 97, 99, 107]⟩ : ByteArray) t280 t281 _ A27.out).mono ?_); rintro e w' ⟨rfl, ⟨nd, rfl⟩⟩; refine ⟨_, rfl, ?_⟩; (try simp only [zn, zo])))
  go_ret2
  exact ⟨_, by first | rfl | (simp [zn, zo] <;> rfl) | (simp [*, zn, zo] <;> rfl), by first | exact Kd.R_nil _ _ _ _ _ | exact Kd.N_nil _ _ _ _ _ | exact Kd.V_nil _ _ _ _ _ | exact Kd.Q_nil _ _ _ _ _ | exact Kd.S_nil _ _ _ _ _, by apply_rules only [HB.out, ze, zb, zf]⟩
def zze.f (k : Nat) (n size : Int) (kept : List EQ2) (at_ : List Int) (c : Int) : Option (List Int) :=
 if 0 ≤ c ∧ c < n ∧ 1 ≤ size ∧ size ≤ 64 then ((zyb.f k [c] n).bind fun p => (zdc.f k n kept at_ p.1 (List.replicate size.toNat 0)).bind fun d => if 0 ≤ d.2.2 then none else (if d.2.1.length = size.toNat then some d.2.1 else none)) else none
theorem zze.one {w : World} {b : Nat} {ok : Nat → Prop} (c : Int) : Reps ((Kd.int .i64).M w b ok) (Kd.int .i64).sz [c] [.int .i64 c] := by
 refine ⟨rfl, fun j p hj => ?_⟩
 match j with
 | 0 =>
  simp only [List.getElem?_cons_zero, Option.some.injEq] at hj
  subst hj
  rfl
 | j + 1 => simp at hj
theorem zze.copied (l : List Int) (m : Nat) (h : l.length = m) : l.take (min l.length (List.replicate m (0 : Int)).length) ++ (List.replicate m (0 : Int)).drop (min l.length (List.replicate m (0 : Int)).length) = l := by
 subst h; simp
theorem zze.calls (k : Nat) (g : Nat) (n size : Int) (kept : List EQ2) (at_ : List Int) (c : Int) (r : List Int) (w : World)
  (h : SysR w g n size kept at_ false) (hT : Tab w) (hf : zze.f k n size kept at_ c = some r) :
  Calls Tryz.prog 68 #[.pointer (some ⟨g, 0, none⟩), .int .i64 c] w fun e w' => ∃ v, e = .returned (.tuple #[v, .nilIface]) ∧ Kd.R (Kd.int .u8) 5 w' w.heap.size (fun _ => True) v r ∧ Below w.heap.size w w' := by
 unfold zze.f at hf
 by_cases hx : 0 ≤ c ∧ c < n ∧ 1 ≤ size ∧ size ≤ 64
 case neg => rw [if_neg hx] at hf; exact absurd hf (by simp)
 rw [if_pos hx] at hf
 obtain ⟨y1, y2, y3, y4⟩ := hx
 obtain ⟨⟨p1, p2⟩, hp, hf⟩ := Option.bind_eq_some_iff.mp hf
 obtain ⟨⟨d1, d2, d3⟩, hd, hf⟩ := Option.bind_eq_some_iff.mp hf
 by_cases z1 : 0 ≤ d3
 ·rw [if_pos z1] at hf; exact absurd hf (by simp)
 rw [if_neg z1] at hf
 by_cases z2 : d2.length = size.toNat
 case neg => rw [if_neg z2] at hf; exact absurd hf (by simp)
 rw [if_pos z2] at hf
 obtain rfl := Option.some.inj hf
 unfold zdc.f at hd
 dsimp only at hd
 by_cases x1 : n ≤ 4096
 case neg => rw [if_neg x1] at hd; exact absurd hd (by simp)
 by_cases x2 : p1.length ≤ 1000000
 case neg => rw [if_pos x1, if_neg x2] at hd; exact absurd hd (by simp)
 by_cases x3 : (List.replicate size.toNat (0 : Int)).length ≤ 1000000
 case neg => rw [if_pos x1, if_pos x2, if_neg x3] at hd; exact absurd hd (by simp)
 rw [if_pos x1, if_pos x2, if_pos x3] at hd
 obtain ⟨cc, hc, hd⟩ := Option.bind_eq_some_iff.mp hd
 by_cases x4 : -1 ≤ cc
 case neg => rw [if_neg x4] at hd; exact absurd hd (by simp)
 by_cases x5 : cc ≤ 100000000
 case neg => rw [if_pos x4, if_neg x5] at hd; exact absurd hd (by simp)
 rw [if_pos x4, if_pos x5] at hd
 have HP := za.mk hp
 have HLEN := za.mk z2
 have HD : za (∀ w2 A1 c1 A2 c2, Below w.heap.size w w2 → Kd.C (Kd.int .u64) w2 A1 p1.length p1 → Kd.C (Kd.int .u8) w2 A2 (List.replicate size.toNat (0 : Int)).length (List.replicate size.toNat (0 : Int)) → Calls Tryz.prog 66 #[.pointer (some ⟨g, 0, none⟩), .agg #[.slice A1 p1.length c1, .slice A2 size.toNat c2]] w2 fun e w' => ∃ v1 v2, e = .returned (.tuple #[.agg #[v1, v2], .int .i64 d3]) ∧ Kd.R (Kd.int .u64) 104 w' w2.heap.size (fun _ => True) v1 d1 ∧ Kd.R (Kd.int .u8) 5 w' w2.heap.size (fun _ => True) v2 d2 ∧ Below w2.heap.size w2 w') := ⟨fun w2 A1 c1 A2 c2 hb ha hb2 => by
  have hgo := zdc.go k g n _ kept at_ false A1 c1 p1 A2 c2 _ d1 d2 d3 cc w2 (SysR.below h hb) ha hb2 (Tab.below hT hb) x1 x2 x3 hc x4 x5 hd
  rw [show Value.slice A2 (List.replicate size.toNat (0 : Int)).length c2 = .slice A2 size.toNat c2 from by rw [List.length_replicate]] at hgo
  exact hgo⟩
 obtain ⟨Ak, ck, Aa, ca, hg, _, _, _, _⟩ := h.out
 have HG := za.mk hg
 have q0 : w.cell? ⟨g, 0, none⟩ = some (.int .i64 n) := (zl hg 0).trans rfl
 have q4 : w.cell? ⟨g, 4, none⟩ = some (.bool false) := (zl hg 4).trans rfl
 have b1 : decide (c < 0) = false := decide_eq_false (by omega)
 have b2 : decide (c ≥ n) = false := decide_eq_false (by omega)
 have b3 : decide (d3 ≥ 0) = false := decide_eq_false (by omega)
 have HSZ : za (0 ≤ size ∧ size.toNat * 1 ≤ 281474976710656) := ⟨by omega, by omega⟩
 clear h hg hd hc hp x1 x3 x4 x5 hT z1 z2 y1 y2 y3 y4
 go_enter Tryz.func68, Tryz.ntmps68
 go_wp2_with ((with_reducible refine zza (N := 33) rfl ?_); refine Kd.R_lit (Kd.int .i64) w.heap.size 3 rfl (N := 33) rfl (xs := [c]) (inner := [.int .i64 c]) (ok := fun _ => True) (okp := fun _ => True) ?hr ?hp (fun _ hk => hk) trivial (Below.refl _ _) (Nat.le_refl _) (by simp) ?_; (case hr => first | (go_simp; done) | (go_simp; rfl)); (case hp => exact zze.one c); intro v1 w1 ho hb _ _; have HO := za.mk ho; have HB := za.mk hb; obtain ⟨Ao, co, eo_⟩ := Kd.zsc HO.out; subst eo_; have q0' : w1.cell? ⟨g, 0, none⟩ = some (.int .i64 n) := (zl (zy HG.out HB.out) 0).trans rfl; clear ho hb)
 refine (zyb.calls k Ao co [c] n p1 p2 _ (Kd.zsb HO.out).2.2 (Kd.zsb HO.out).2.1 HP.out).mono ?_
 rintro e w2 ⟨v2, rfl, ho2, hb2⟩
 have HO1 := za.mk (Kd.zcd ho2 HB.out.size)
 have n1_ := za.mk (zk HB.out hb2)
 clear HB HO q0' ho2 hb2
 have HB := n1_
 clear n1_
 obtain ⟨Ap, cp, eo_⟩ := Kd.zsc HO1.out
 subst eo_
 have q1 : w2.cell? ⟨g, 1, none⟩ = some (.int .i64 size) := (zl (zy HG.out HB.out) 1).trans rfl
 go_wp2_with ((with_reducible refine zza (N := 48) rfl ?_); refine Kd.R_make (Kd.int .u8) _ 5 rfl (N := 48) rfl 43 _ _ rfl size rfl rfl Tryz.underlying43 (.int .u8 0) 1 info5 rfl (by decide) (by omega) 0 (ok := fun _ => True) (okp := fun _ => True) rfl (fun _ hk => hk) trivial HSZ.out.1 HSZ.out.2 (Below.refl _ _) (Nat.le_refl _) ?_; intro v3 w3 ho3 hb3 _ hnew3; have HO3 := za.mk ho3; have HB3 := za.mk (zk HB.out hb3); have HO1b := za.mk (Kd.zvd HO1.out hb3); clear ho3 hb3 hnew3 HB HO1 q1; obtain ⟨As, cs, eo_⟩ := Kd.zsc HO3.out; rw [List.length_replicate] at eo_; subst eo_)
 refine (HD.out w3 Ap cp As cs HB3.out (Kd.zsb HO1b.out).2.2 (Kd.zsb HO3.out).2.2).mono ?_
 rintro e w4 ⟨u1, u2, rfl, e1, e2, hb4⟩
 obtain ⟨Ad, cd, eo_⟩ := Kd.zsc e1
 subst eo_
 clear e1
 have HE := za.mk (Kd.zcd e2 HB3.out.size)
 have HB := za.mk (zk HB3.out hb4)
 clear HO1b HO3 HB3 e2 hb4
 obtain ⟨Ae, ce, eo_⟩ := Kd.zsc HE.out
 subst eo_
 have HBL := za.mk (zif w4 (.cells #[.slice Ad d1.length cd, .slice Ae d2.length ce] 112 (0, 0)))
 have HG4 := za.mk (zi (zy HG.out HB.out) (.cells #[.slice Ad d1.length cd, .slice Ae d2.length ce] 112))
 have n1_ := za.mk (Kd.zka HE.out (.cells #[.slice Ad d1.length cd, .slice Ae d2.length ce] 112))
 have n2_ := za.mk (ze HB.out (.cells #[.slice Ad d1.length cd, .slice Ae d2.length ce] 112))
 clear HE HB
 have q1 : (w4.alloc (.cells #[.slice Ad d1.length cd, .slice Ae d2.length ce] 112)).cell? ⟨g, 1, none⟩ = some (.int .i64 size) := (zl HG4.out 1).trans rfl
 go_wp2_with (first | ((with_reducible refine zza (N := 60) rfl ?_); refine Kd.R_make (Kd.int .u8) _ 5 rfl (N := 60) rfl 43 _ _ rfl size rfl rfl Tryz.underlying43 (.int .u8 0) 1 info5 rfl (by decide) (by omega) 0 (ok := fun _ => True) (okp := fun _ => True) rfl (fun _ hk => hk) trivial HSZ.out.1 HSZ.out.2 (Below.refl _ _) (Nat.le_refl _) ?_; intro v5 w5 ho5 hb5 _ hnew5; have HO5 := za.mk (Kd.zcd ho5 n2_.out.size); have HB5 := za.mk (zk n2_.out hb5); have HE5 := za.mk (Kd.zvd n1_.out hb5); have HL5 := za.mk (zy HBL.out hb5); have q8 : w5.cell? ⟨w4.heap.size, 1, none⟩ = some (.slice Ae d2.length ce) := (zl HL5.out 1).trans rfl; clear n1_ n2_ HBL HG4 ho5 hb5 hnew5) | ((with_reducible refine zza (N := 64) rfl ?_); refine Kd.R_copy (h1 := fun _ => rfl) (enc := Value.int .u8) (0 : Int) w.heap.size rfl _ _ 43 43 5 rfl Tryz.underlying43 (by kernel_rfl) v5 _ d2 Ae d2.length ce (fun _ => True) rfl rfl HO5.out (Kd.zsb HE5.out).2.2 HB5.out HB5.out.size ?_; intro w6 ho6 hb6 hg6; rw [zze.copied d2 size.toNat HLEN.out] at ho6; have HO6 := za.mk ho6; have HB6 := za.mk hb6; clear HO5 HB5 HE5 HL5 ho6 hb6 hg6 q8))
 go_ret2
 exact ⟨_, rfl, HO6.out, HB6.out⟩
def zef.l0 : Nat → Int → Int → List EQ2 → List Int → Int → List (List Int) → Option (List (List Int))
 | 0, _, _, _, _, _, _ => none
 | k + 1, n, size, kept, at_, i, out => if i < n then (if n ≤ 4096 then ((zze.f k n size kept at_ i).bind fun v => if out.length ≤ 1000000 then zef.l0 k n size kept at_ (i + 1) (out ++ [v]) else none) else none) else some out
def zef.f (k : Nat) (n size : Int) (kept : List EQ2) (at_ : List Int) : Option (List (List Int)) := zef.l0 k n size kept at_ 0 []
theorem zef.calls (k : Nat) (g : Nat) (n size : Int) (kept : List EQ2) (at_ : List Int) (r : List (List Int)) (w : World)
  (h : SysR w g n size kept at_ false) (hT : Tab w) (hf : zef.f k n size kept at_ = some r) :
  Calls Tryz.prog 46 #[.pointer (some ⟨g, 0, none⟩)] w fun e w' => ∃ v, e = .returned (.tuple #[v, .nilIface]) ∧ Kd.S (Kd.slice 5 (Kd.int .u8)) 43 w' w.heap.size (fun _ => True) v r ∧ Below w.heap.size w w' := by
 have HS := za.mk h
 have HT := za.mk hT
 have HF := za.mk hf
 obtain ⟨Ak, ck, Aa, ca, hg, _, _, _, _⟩ := h.out
 have HG := za.mk hg
 have q0 : w.cell? ⟨g, 0, none⟩ = some (.int .i64 n) := (zl hg 0).trans rfl
 have q4 : w.cell? ⟨g, 4, none⟩ = some (.bool false) := (zl hg 4).trans rfl
 clear h hg hf hT
 go_enter Tryz.func46, Tryz.ntmps46
 go_wp2
 go_loopg [4, 21] k (fun kq v4 v21 w' => ∃ (out : List (List Int)) (i : Int), v21 = .int .i64 i ∧ 0 ≤ i ∧ za (zef.l0 kq n size kept at_ i out = some r) ∧ za (Kd.S (Kd.slice 5 (Kd.int .u8)) 43 w' w.heap.size (fun _ => True) v4 out) ∧ za (Below w.heap.size w w'))
 case atStart => exact ⟨[], 0, rfl, by omega, HF, ⟨Kd.S_nil _ _ _ _ _⟩, ⟨Below.refl _ _⟩⟩
 case round =>
  obtain ⟨out, i, rfl, hi, HA, HO, HB⟩ := hrel
  cases gk with
  | zero => exact absurd HA.out (by simp [zef.l0])
  | succ k1 =>
  have H := HA.out
  clear HA
  simp only [zef.l0] at H
  by_cases t1 : i < n
  ·rw [if_pos t1] at H
   have b1 : decide (i < n) = true := decide_eq_true t1
   by_cases t2 : n ≤ 4096
   case neg => rw [if_neg t2] at H; exact absurd H (by simp)
   rw [if_pos t2] at H
   obtain ⟨v, hv, H⟩ := Option.bind_eq_some_iff.mp H
   by_cases t3 : out.length ≤ 1000000
   case neg => rw [if_neg t3] at H; exact absurd H (by simp)
   rw [if_pos t3] at H
   have HF2 := za.mk H
   have HV := za.mk hv
   have HL := za.mk t3
   clear H hv
   have HWR : za (IntKind.i64.wrap (i + 1) = i + 1) := ⟨IntWalk.i64_in _ (by omega)⟩
   obtain ⟨Ao, co, eo_⟩ := Kd.S_slice HO.out
   subst eo_
   go_wp2_with fail
   refine (zze.calls k1 g n size kept at_ i v _ (SysR.below HS.out HB.out) (Tab.below HT.out HB.out) HV.out).mono ?_
   rintro e w2 ⟨v2, rfl, ho2, hb2⟩
   obtain ⟨Av, cv, eo_⟩ := Kd.zsc ho2
   subst eo_
   have HR2 := za.mk (Kd.zcd ho2 HB.out.size)
   have n1_ := za.mk (Kd.S_elder' HO.out (Kd.zjf ho2) hb2)
   have n2_ := za.mk (zk HB.out hb2)
   clear HO HB ho2 hb2
   have HO := n1_
   have HB := n2_
   clear n1_ n2_
   go_wp2_with ((with_reducible refine zdd (b := .append) (xs := #[.tmp 34, .tmp 36]) rfl ?_); at_builtin; refine Kd.S_append (Kd.slice 5 (Kd.int .u8)) (w0 := w) w.heap.size rfl (.tmp 34) (.tmp 36) 35 43 (.slice none 0 0) 24 rfl Tryz.underlying35 info43 rfl (by decide) (by omega) (.slice Ao out.length co) out v [.slice Av v.length cv] (fun _ => True) (fun k => some k = (Value.slice Av v.length cv).ownBlock) rfl rfl ?aP ?aK (fun _ _ => trivial) ?aO ?aB ?aS ?aL ?_; (case aO => exact HO.out); (case aB => exact HB.out); (case aS => exact HB.out.size); (case aP => exact Kd.M_row (Kd.zuc (Kd.R_tight rfl HR2.out) (fun _ h => h))); (case aK => exact fun k hk => (Kd.zfe HR2.out (Kd.S_typed HO.out) (by decide)).1 k hk.symm); (case aL => have := HL.out; omega); intro v5 w5 ho hb hg hat; have n1_ := za.mk ho; have n2_ := za.mk hb; clear HO HB ho hb hg hat HR2)
   go_roundg k1
   case measure => omega
   case rel => exact ⟨out ++ [v], i + 1, by first | rfl | rw [HWR.out] | rw [← i64_w, HWR.out], by omega, HF2, n1_, n2_⟩
  ·rw [if_neg t1] at H
   have b1 : decide (i < n) = false := decide_eq_false t1
   obtain rfl := Option.some.inj H
   go_wp2
   go_ret2
   exact ⟨_, rfl, HO.out, HB.out⟩
def minusTo (i m : Nat) : List Int := List.replicate i (-1) ++ List.replicate (m - i) 0
theorem minusTo_set (i m : Nat) (h : i < m) : (minusTo i m).set i (-1) = minusTo (i + 1) m := by
 unfold minusTo
 apply List.ext_getElem?
 intro j
 rw [List.getElem?_set]
 simp only [List.getElem?_append, List.length_append, List.length_replicate, List.getElem?_replicate]
 repeat' split
 all_goals first | rfl | (exfalso; omega)
theorem minusTo_full (m : Nat) : minusTo m m = List.replicate m (-1) := by simp [minusTo]
theorem minusTo_zero (m : Nat) : minusTo 0 m = List.replicate m 0 := by simp [minusTo]
theorem elim_New.go (m : Nat) (size : Int) (w : World) (h1 : 1 ≤ m) (h2 : m ≤ 4096) (h3 : 1 ≤ size) (h4 : size ≤ 64) :
  Calls Tryz.prog 41 #[.int .i64 (m : Int), .int .i64 size] w fun e w' => ∃ g, e = .returned (.tuple #[.pointer (some ⟨g, 0, none⟩), .nilIface]) ∧ SysO w' w.heap.size (fun k => w.heap.size ≤ k) g m size [] (List.replicate m (-1)) false ∧ Below w.heap.size w w' := by
 have b1 : decide ((m : Int) < 1) = false := by simp; omega
 have b2 : decide ((m : Int) > 4096) = false := by simp; omega
 have b3 : decide (size < 1) = false := by simp; omega
 have b4 : decide (size > 64) = false := by simp; omega
 have HM : za ((m : Int).toNat * 8 ≤ 281474976710656) := ⟨by omega⟩
 have H0 : za (0 ≤ (m : Int)) := ⟨by omega⟩
 have HL : za (0 < (List.replicate (m : Int).toNat (0 : Int)).length) := ⟨by simp; omega⟩
 go_enter Tryz.func41, Tryz.ntmps41
 go_wp2_with ((with_reducible refine zza (N := 26) rfl ?_); refine Kd.R_make (Kd.int .i64) _ 3 rfl (N := 26) rfl 31 _ _ rfl (m : Int) rfl rfl Tryz.underlying31 (.int .i64 0) 8 info3 rfl (by decide) (by omega) 0 (ok := fun k => w.heap.size ≤ k) (okp := fun k => w.heap.size ≤ k) rfl (fun _ hk => hk) (Nat.le_refl _) H0.out HM.out (Below.refl _ _) (Nat.le_refl _) ?_; intro v2 w2 ho2 hb2 _ hnew2; obtain ⟨ga, cap, e, hga, hga2, _, hcell⟩ := Kd.R_form ho2 HL.out; rw [List.length_replicate, Int.toNat_natCast] at e; subst e; rw [Int.toNat_natCast] at ho2; have HO2 := za.mk ho2; have HB2 := za.mk hb2; have HG := za.mk hga; have HG2 := za.mk hga2; have HC := za.mk hcell; clear ho2 hb2 hnew2 hga hga2 hcell)
 have HS : za ((w2.alloc (.cells #[.int .i64 (m : Int), .int .i64 size, .slice none 0 0, .slice (some ⟨ga, 0, none⟩) m cap, .bool false] 109)).heap[w2.heap.size]? = some (.cells #[.int .i64 (m : Int), .int .i64 size, .slice none 0 0, .slice (some ⟨ga, 0, none⟩) m cap, .bool false] 109 (0, 0))) := ⟨zif _ _⟩
 have HO3 := za.mk (Kd.zka HO2.out (.cells #[.int .i64 (m : Int), .int .i64 size, .slice none 0 0, .slice (some ⟨ga, 0, none⟩) m cap, .bool false] 109))
 have HB3 := za.mk (ze HB2.out (.cells #[.int .i64 (m : Int), .int .i64 size, .slice none 0 0, .slice (some ⟨ga, 0, none⟩) m cap, .bool false] 109))
 clear HO2
 have hne : ga ≠ w2.heap.size := by have := HG2.out; omega
 have HW := za.mk HB2.out.size
 generalize hw3 : w2.alloc (.cells #[.int .i64 (m : Int), .int .i64 size, .slice none 0 0, .slice (some ⟨ga, 0, none⟩) m cap, .bool false] 109) = w3 at *
 clear hw3
 generalize hgs : w2.heap.size = gs at *
 clear hgs HB2 HG2 HC
 go_loopg [34] (m + 1) (fun kq v34 w' => ∃ i : Nat, v34 = .int .i64 i ∧ i ≤ m ∧ kq + i = m + 1 ∧ za (Kd.R (Kd.int .i64) 3 w' w.heap.size (fun k => w.heap.size ≤ k) (.slice (some ⟨ga, 0, none⟩) m cap) (minusTo i m)) ∧ za (w'.heap[gs]? = some (.cells #[.int .i64 (m : Int), .int .i64 size, .slice none 0 0, .slice (some ⟨ga, 0, none⟩) m cap, .bool false] 109 (0, 0))) ∧ za (Below w.heap.size w w'))
 case atStart => exact ⟨0, rfl, by omega, by omega, ⟨by rw [minusTo_zero]; exact HO3.out⟩, HS, HB3⟩
 case round =>
  clear HS HO3 HB3
  obtain ⟨i, rfl, hi, hk, HO, HS, HB⟩ := hrel
  by_cases c : i < m
  ·obtain ⟨hx, hf⟩ := Kd.R_celln (0 : Int) HO.out (i : Int) (by omega) (by omega)
   rw [Int.toNat_natCast] at hx hf
   have hp := Kd.R_putn HO.out (i : Int) (-1)
   rw [Int.toNat_natCast, minusTo_set i m c] at hp
   have HP := za.mk hp
   have HS2 := za.mk (zre (p := ⟨ga, i, none⟩) HS.out (Ne.symm hne) (.int .i64 (-1)))
   have HB2 := za.mk (HB.out.setCell (p := ⟨ga, i, none⟩) HG.out (.int .i64 (-1)))
   have c3 : wr.cell? ⟨gs, 3, none⟩ = some (.slice (some ⟨ga, 0, none⟩) m cap) := (zl HS.out 3).trans rfl
   obtain ⟨gk, rfl⟩ : ∃ j, gk = j + 1 := ⟨gk - 1, by omega⟩
   clear hp
   go_wp2
   go_roundg gk
   case measure => omega
   case rel => exact ⟨i + 1, by go_num, by omega, by omega, HP, HS2, HB2⟩
  ·obtain rfl : i = m := by omega
   have HO' := HO.out
   rw [minusTo_full] at HO'
   have HO2 := za.mk HO'
   clear HO'
   go_wp2
   go_ret2
   refine ⟨gs, rfl, ⟨_, _, HS.out, HW.out, HW.out, Kd.N_nil _ _ _ _ _, HO2.out⟩, HB.out⟩
theorem elim_New.calls (n size : Int) (w : World) (h1 : 1 ≤ n) (h2 : n ≤ 4096) (h3 : 1 ≤ size) (h4 : size ≤ 64) :
  Calls Tryz.prog 41 #[.int .i64 n, .int .i64 size] w fun e w' => ∃ g, e = .returned (.tuple #[.pointer (some ⟨g, 0, none⟩), .nilIface]) ∧ SysO w' w.heap.size (fun k => w.heap.size ≤ k) g n size [] (List.replicate n.toNat (-1)) false ∧ Below w.heap.size w w' := by
 obtain ⟨m, rfl⟩ := Int.eq_ofNat_of_zero_le (show 0 ≤ n by omega)
 rw [Int.toNat_natCast]
 exact elim_New.go m size w (by omega) (by omega) h3 h4
theorem elim_Rank.calls (g : Nat) (n size : Int) (kept : List EQ2) (at_ : List Int) (cl : Bool) (w : World) (h : SysR w g n size kept at_ cl) :
  Calls Tryz.prog 57 #[.pointer (some ⟨g, 0, none⟩)] w fun e w' => e = .returned (.int .i64 (kept.length : Int)) ∧ zz w w' := by
 obtain ⟨Ak, ck, Aa, ca, h1, h2, h3, h4, h5⟩ := h.out
 have c2 : w.cell? ⟨g, 2, none⟩ = some (.slice Ak kept.length ck) := (zl h1 2).trans rfl
 have H1 := za.mk h1
 have H3 := za.mk h3
 have H5 := za.mk h5
 clear h1 h3 h5 h
 go_enter Tryz.func57, Tryz.ntmps57
 go_wp2
 go_ret
 exact ⟨rfl, zz.refl _⟩
theorem elim_Whole.calls (g : Nat) (n size : Int) (kept : List EQ2) (at_ : List Int) (cl : Bool) (w : World) (h : SysR w g n size kept at_ cl) :
  Calls Tryz.prog 45 #[.pointer (some ⟨g, 0, none⟩)] w fun e w' => e = .returned (.bool ((kept.length : Int) == n && !cl)) ∧ zz w w' := by
 obtain ⟨Ak, ck, Aa, ca, h1, h2, h3, h4, h5⟩ := h.out
 have c0 : w.cell? ⟨g, 0, none⟩ = some (.int .i64 n) := (zl h1 0).trans rfl
 have c2 : w.cell? ⟨g, 2, none⟩ = some (.slice Ak kept.length ck) := (zl h1 2).trans rfl
 have c4 : w.cell? ⟨g, 4, none⟩ = some (.bool cl) := (zl h1 4).trans rfl
 have H1 := za.mk h1
 have H3 := za.mk h3
 have H5 := za.mk h5
 clear h1 h3 h5 h
 by_cases e : (kept.length : Int) = n
 ·have eb : ((kept.length : Int) == n) = true := beq_iff_eq.mpr e
  rw [eb]
  clear e
  go_enter Tryz.func45, Tryz.ntmps45
  go_wp2_with fail
  go_quiet (fail)
  go_wp2
  go_ret
  exact ⟨by simp, by repeat (first | exact zz.refl _ | apply zz.step)⟩
 ·have eb : ((kept.length : Int) == n) = false := beq_eq_false_iff_ne.mpr e
  rw [eb]
  clear e
  go_enter Tryz.func45, Tryz.ntmps45
  go_wp2_with fail
  go_quiet (fail)
  go_wp2
  go_ret
  exact ⟨by simp, by repeat (first | exact zz.refl _ | apply zz.step)⟩
end Go.Proofs.YtnglindlofmknaaGreatDoor.B
end
section
set_option maxHeartbeats 8000000
set_option maxRecDepth 100000
namespace Go.Proofs
open Go.Shelf
def Tryz.lays189_ren : Go.Shelf.Ren := ⟨fun | 189 => 75 | 125 => 98 | 257 => 97 | 128 => 119 | 129 => 120 | 294 => 110 | 295 => 111 | 296 => 112 | 297 => 113 | 298 => 114 | 299 => 115 | 216 => 116 | 300 => 117 | 301 => 118 | 328 => 126 | 329 => 127 | 330 => 128 | 331 => 129 | 332 => 130 | 215 => 131 | 343 => 134 | n => n, fun | 28 => 31 | 3 => 3 | 46 => 25 | 0 => 0 | 51 => 145 | 53 => 104 | 4 => 4 | 183 => 154 | 182 => 153 | 131 => 159 | 5 => 5 | 9 => 9 | 218 => 170 | 222 => 174 | 228 => 176 | 229 => 177 | n => n, fun | n => n⟩
theorem Tryz.lays189 : Go.Proofs.Lays.n189 Tryz.prog Tryz.lays189_ren := {
 mixed := by kernel_rfl
 f125 := Tryz.func98.trans (congrArg some (by kernel_rfl))
 f128 := Tryz.func119.trans (congrArg some (by kernel_rfl))
 f129 := Tryz.func120.trans (congrArg some (by kernel_rfl))
 f189 := Tryz.func75.trans (congrArg some (by kernel_rfl))
 f215 := Tryz.func131.trans (congrArg some (by kernel_rfl))
 f216 := Tryz.func116.trans (congrArg some (by kernel_rfl))
 f257 := Tryz.func97.trans (congrArg some (by kernel_rfl))
 f294 := Tryz.func110.trans (congrArg some (by kernel_rfl))
 f295 := Tryz.func111.trans (congrArg some (by kernel_rfl))
 f296 := Tryz.func112.trans (congrArg some (by kernel_rfl))
 f297 := Tryz.func113.trans (congrArg some (by kernel_rfl))
 f298 := Tryz.func114.trans (congrArg some (by kernel_rfl))
 f299 := Tryz.func115.trans (congrArg some (by kernel_rfl))
 f300 := Tryz.func117.trans (congrArg some (by kernel_rfl))
 f301 := Tryz.func118.trans (congrArg some (by kernel_rfl))
 f328 := Tryz.func126.trans (congrArg some (by kernel_rfl))
 f329 := Tryz.func127.trans (congrArg some (by kernel_rfl))
 f330 := Tryz.func128.trans (congrArg some (by kernel_rfl))
 f331 := Tryz.func129.trans (congrArg some (by kernel_rfl))
 f332 := Tryz.func130.trans (congrArg some (by kernel_rfl))
 f343 := Tryz.func134.trans (congrArg some (by kernel_rfl))
 t0 := Tryz.underlying0
 a0 := Tryz.isAgg0
 z0 := Tryz.sizeOf0
 v0 := Tryz.zeroValue0
 t3 := Tryz.underlying3
 a3 := Tryz.isAgg3
 z3 := Tryz.sizeOf3
 v3 := Tryz.zeroValue3
 t4 := Tryz.underlying4
 a4 := Tryz.isAgg4
 z4 := Tryz.sizeOf4
 v4 := Tryz.zeroValue4
 t5 := Tryz.underlying5
 a5 := Tryz.isAgg5
 z5 := Tryz.sizeOf5
 v5 := Tryz.zeroValue5
 t9 := Tryz.underlying9
 a9 := Tryz.isAgg9
 z9 := Tryz.sizeOf9
 v9 := Tryz.zeroValue9
 t28 := Tryz.underlying31
 a28 := Tryz.isAgg31
 z28 := Tryz.sizeOf31
 v28 := Tryz.zeroValue31
 t46 := Tryz.underlying25
 a46 := Tryz.isAgg25
 z46 := Tryz.sizeOf25
 v46 := Tryz.zeroValue25
 t51 := Tryz.underlying145
 a51 := Tryz.isAgg145
 z51 := Tryz.sizeOf145
 v51 := Tryz.zeroValue145
 t53 := Tryz.underlying104
 a53 := Tryz.isAgg104
 z53 := Tryz.sizeOf104
 v53 := Tryz.zeroValue104
 t131 := Tryz.underlying159
 a131 := Tryz.isAgg159
 z131 := Tryz.sizeOf159
 v131 := Tryz.zeroValue159
 t182 := Tryz.underlying153
 a182 := Tryz.isAgg153
 z182 := Tryz.sizeOf153
 v182 := Tryz.zeroValue153
 t183 := Tryz.underlying154
 a183 := Tryz.isAgg154
 z183 := Tryz.sizeOf154
 v183 := Tryz.zeroValue154
 t218 := Tryz.underlying170
 a218 := Tryz.isAgg170
 z218 := Tryz.sizeOf170
 v218 := Tryz.zeroValue170
 t222 := Tryz.underlying174
 a222 := Tryz.isAgg174
 z222 := Tryz.sizeOf174
 v222 := Tryz.zeroValue174
 t228 := Tryz.underlying176
 a228 := Tryz.isAgg176
 z228 := Tryz.sizeOf176
 v228 := Tryz.zeroValue176
 t229 := Tryz.underlying177
 a229 := Tryz.isAgg177
 z229 := Tryz.sizeOf177
 v229 := Tryz.zeroValue177 }
open Go.Sort Go.RowKit in
theorem Tryz.slices_Sort_int (blk off cap : Nat) (zs : List Int) (w : World) (hH : Holds (Value.int .i64) w blk off zs.toArray) (hblk : blk < w.heap.size) (hsz : zs.length < 4611686018427387904) :
  Calls Tryz.prog 75 #[.slice (some ⟨blk, off, none⟩) zs.length cap] w fun e w' =>
   e = .returned (.tuple #[]) ∧ ∃ n os, w' = grow (putRow (Value.int .i64) (Sort.ahead w n) blk off (zs.mergeSort fun x y => decide (x ≤ y)).toArray) os := Any.slices_Sort_int Tryz.lays189 blk off cap zs w hH hblk hsz
end Go.Proofs
end
section
set_option maxHeartbeats 8000000
set_option maxRecDepth 100000
namespace Go.Proofs.YtnglindlofmknaaGreatDoor.B
open Go.RowKit Go.Proofs.YW.PrintWords Go.Proofs.YW.PrintLast Go.Proofs.YW.PrintMore
attribute [local go_sem] zva zta zmb zlb zia zha zua zsa
set_option linter.unusedVariables false
set_option linter.unusedSimpArgs false
def zec.f (l : List Int) : Option (List Int) := if l.length = 0 then none else if l.length ≤ 1000000 then some (l.mergeSort fun x y => decide (x ≤ y)) else none
theorem zec.calls (P0_ : Nat → Prop) (u9000_ : Value) (l0 : List Int) (r : List Int) (w0 w : World) (hB : Below w0.heap.size w0 w) (ho0 : Kd.R (Kd.int .i64) 3 w w0.heap.size P0_ u9000_ l0) (h : zec.f l0 = some r) :
  Calls Tryz.prog 75 #[u9000_] w fun e w' => e = .returned (.tuple #[]) ∧ Kd.R (Kd.int .i64) 3 w' w0.heap.size (fun k_ => (P0_ k_ ∨ w.heap.size ≤ k_)) u9000_ r ∧ Below w0.heap.size w0 w' ∧ Kept w w' (fun k_ => P0_ k_) := by
 unfold zec.f at h
 by_cases hz : l0.length = 0
 ·simp [hz] at h
 rw [if_neg hz] at h
 by_cases hl : l0.length ≤ 1000000
 ·rw [if_pos hl] at h
  obtain rfl := Option.some.inj h
  have hown := Kd.own_of_R (enc := Value.int .i64) (h1 := fun _ => rfl) ho0
  rcases hown.2 with ⟨_, h0⟩ | ⟨g, cap, cur, rfl, hbase, hb, h1, h2, h3, h4⟩
  ·exact absurd h0 hz
  have hg := (Array.getElem?_eq_some_iff.1 hb).1
  have hH : Go.Sort.Holds (Value.int .i64) w g 0 l0.toArray := Go.holds_of_blockI hb (by simpa [encs] using h4)
  refine (Tryz.slices_Sort_int g 0 cap l0 w hH hg (by omega)).mono ?_
  rintro e w' ⟨rfl, n, os, rfl⟩
  have hgr := Go.grownBy_sortedI (w := w) (g := g) (n := n) (os := os) (l0.mergeSort fun x y => decide (x ≤ y)).toArray
  refine ⟨rfl, ?_, hB.grown hgr hB.size (fun k hk => by cases hk; exact hbase), Kept.of_grown hgr (Kept.refl _ _) (fun k hk => by cases hk; exact .inl (ho0.1 _ rfl))⟩
  have hlen : (l0.mergeSort fun x y => decide (x ≤ y)).length = l0.length := List.length_mergeSort _
  have ho := Go.ownsRow_sortedI (n := n) (os := os) (ts := l0.mergeSort fun x y => decide (x ≤ y)) hlen hbase hb h1 h2 h3
  exact Kd.R_of_own (enc := Value.int .i64) (h1 := fun _ => rfl) (by rw [hlen]; exact ho) (fun k hk => .inl (ho0.1 k hk))
 ·simp [hl] at h
theorem eqA23 (d : Nat) (w : World) (x0 y0 : Int) (x1 y1 : Int) (x2 y2 : Int) (x3 y3 : Int) (x4 y4 : Int) :
  (Op.equalIn (d + 2) 23 (.agg #[.int .i64 x0, .int .i64 x1, .int .i64 x2, .int .i64 x3, .int .i64 x4]) (.agg #[.int .i64 y0, .int .i64 y1, .int .i64 y2, .int .i64 y3, .int .i64 y4])).run Tryz.prog w = .ok (x0 == y0 && (x1 == y1 && (x2 == y2 && (x3 == y3 && (x4 == y4))))) w := by
 refine eqA_of Tryz.underlying23 (by kernel_rfl) ?_
 refine eqf_cons (by rfl) (by go_simp; rfl) (by go_simp; rfl) (by go_simp) ?_
 refine eqf_cons (by rfl) (by go_simp; rfl) (by go_simp; rfl) (by go_simp) ?_
 refine eqf_cons (by rfl) (by go_simp; rfl) (by go_simp; rfl) (by go_simp) ?_
 refine eqf_cons (by rfl) (by go_simp; rfl) (by go_simp; rfl) (by go_simp) ?_
 exact eqf_last (by rfl) (by go_simp; rfl) (by go_simp; rfl) (by go_simp)
mutual
def zea.l0 : Nat → Int → Int → List Int → Option (Int × Option Int)
 | 0, _, _, _ => none
 | k + 1, n, kk, row => if (row.length : Int) ≤ n then zea.l1 k n kk row (row ++ [0]) 0 else if 0 ≤ kk then (if kk < (row.length : Int) then some (rd row kk, none) else none) else none
def zea.l1 : Nat → Int → Int → List Int → List Int → Int → Option (Int × Option Int)
 | 0, _, _, _, _, _ => none
 | k + 1, n, kk, row, next, i => if i < (row.length : Int) then zea.l1 k n kk row (next.set (i + 1).toNat (wrap64 (rd next (i + 1) + rd row i))) (i + 1) else zea.l0 k n kk next
end
def zea.f (k : Nat) (n kk : Int) : Option (Int × Option Int) := if n < 0 then none else if n > 60 then none else if kk < 0 then some (0, none) else if kk > n then some (0, none) else zea.l0 k n kk [1]
theorem zea.zse : ∀ k, (∀ y0 y1 y2, LeO (zea.l0 k y0 y1 y2) (zea.l0 (k + 1) y0 y1 y2)) ∧ (∀ y0 y1 y2 y3 y4, LeO (zea.l1 k y0 y1 y2 y3 y4) (zea.l1 (k + 1) y0 y1 y2 y3 y4))
 | 0 => ⟨fun _ _ _ r h => by simp [zea.l0] at h, fun _ _ _ _ _ r h => by simp [zea.l1] at h⟩
 | k + 1 => by
  obtain ⟨ih0, ih1⟩ := zea.zse k
  refine ⟨?_, ?_⟩
  ·intro y0 y1 y2
   unfold zea.l0
   repeat' first
   | (with_reducible exact ih1 _ _ _ _ _)
   | (with_reducible exact LeO.refl _)
   | (with_reducible exact LeO.none _)
   | (with_reducible refine LeO.ite ?_ ?_)
  ·intro y0 y1 y2 y3 y4
   unfold zea.l1
   repeat' first
   | (with_reducible exact ih0 _ _ _)
   | (with_reducible exact ih1 _ _ _ _ _)
   | (with_reducible exact LeO.refl _)
   | (with_reducible exact LeO.none _)
   | (with_reducible refine LeO.ite ?_ ?_)
theorem zea.mono : ∀ a0 a1 k, LeO (zea.f k a0 a1) (zea.f (k + 1) a0 a1) := by
 intro a0 a1 k
 obtain ⟨ih0, ih1⟩ := zea.zse k
 unfold zea.f
 repeat' first
  | (with_reducible exact ih0 _ _ _)
  | (with_reducible exact LeO.refl _)
  | (with_reducible exact LeO.none _)
  | (with_reducible refine LeO.ite ?_ ?_)
theorem zea.grow (row : List Int) : row.take (min row.length (List.replicate ((row.length : Int) + 1).toNat (0 : Int)).length) ++ (List.replicate ((row.length : Int) + 1).toNat (0 : Int)).drop (min row.length (List.replicate ((row.length : Int) + 1).toNat (0 : Int)).length) = row ++ [0] := by
 have e : ((row.length : Int) + 1).toNat = row.length + 1 := by omega
 have m : min row.length (row.length + 1) = row.length := Nat.min_eq_left (by omega)
 simp only [e, List.length_replicate, m, List.take_length, List.drop_replicate]
 have : row.length + 1 - row.length = 1 := by omega
 rw [this]; rfl
theorem zea.one (W : World) (base : Nat) (okp : Nat → Prop) : Reps ((Kd.int .i64).M W base okp) (Kd.int .i64).sz [1] [.int .i64 1] := Reps.one rfl (Reps.none _ _)
theorem zea.go (k : Nat) (n kk : Int) (r : Int × Option Int) (w : World) (h0 : 0 ≤ n) (h1 : n ≤ 60) (h2 : 0 ≤ kk) (h3 : kk ≤ n) (h : zea.l0 k n kk [1] = some r) :
  Calls Tryz.prog 61 #[.int .i64 n, .int .i64 kk] w fun e w' => e = .returned (.tuple #[.int .i64 r.1, errW r.2]) ∧ Below w.heap.size w w' := by
 have hc1 : (decide (n < 0)) = false := by simp; omega
 have hc2 : (decide (n > 60)) = false := by simp; omega
 have hc3 : (decide (kk < 0)) = false := by simp; omega
 have hc4 : (decide (kk > n)) = false := by simp; omega
 have H' := za.mk h
 clear h
 go_enter Tryz.func61, Tryz.ntmps61
 go_wp2_with ((with_reducible refine zza (N := 24) rfl ?_); refine Kd.R_lit (Kd.int .i64) w.heap.size 3 rfl (N := 24) rfl (xs := [(1 : Int)]) (inner := [.int .i64 1]) (ok := fun _ => True) (okp := fun _ => True) ?hr ?hp (fun _ hk => hk) trivial (Below.refl _ _) (Nat.le_refl _) (by simp) ?_; (case hr => first | (go_simp; done) | (go_simp; rfl)); (case hp => exact zea.one _ _ _); intro v1 w1 ho hb _ _; have HO := za.mk ho; have HB := za.mk hb; clear ho hb)
 go_loopg [6] k (fun kq v6 w' => ∃ row : List Int, za (zea.l0 kq n kk row = some r) ∧ za (kq ≤ k) ∧ za (Kd.R (Kd.int .i64) 3 w' w.heap.size (fun _ => True) v6 row) ∧ za (Below w.heap.size w w'))
 case atStart => exact ⟨[1], H', ⟨Nat.le_refl _⟩, HO, HB⟩
 case round =>
  clear H' HO HB
  obtain ⟨row, HA, HK, HO, HB⟩ := hrel
  cases gk with
  | zero => exact absurd HA.out (by simp [zea.l0])
  | succ k2 =>
   have H := HA.out
   clear HA
   simp only [zea.l0] at H
   obtain ⟨A, c, rfl⟩ := Kd.zsc HO.out
   have hlen : 0 ≤ (row.length : Int) := Int.natCast_nonneg _
   by_cases c1 : (row.length : Int) ≤ n
   ·rw [if_pos c1] at H
    have c1b : decide ((row.length : Int) ≤ n) = true := decide_eq_true c1
    have H' := za.mk H
    clear H
    have hmx : za (((row.length : Int) + 1).toNat * 8 ≤ 281474976710656) := ⟨by omega⟩
    go_wp2_with (first | ((with_reducible refine zza (N := 32) rfl ?_); refine Kd.R_make (Kd.int .i64) _ 3 rfl (N := 32) rfl 31 _ _ rfl ((row.length : Int) + 1) rfl rfl Tryz.underlying31 (.int .i64 0) 8 info3 rfl (by decide) (by omega) 0 (ok := fun _ => True) (okp := fun _ => True) rfl (fun _ hk => hk) trivial ?h0 hmx.out (Below.refl _ _) (Nat.le_refl _) ?_; (case h0 => exact Int.le_trans (Int.natCast_nonneg row.length) (by omega)); intro v2 w2 ho2 hb2 _ hnew2; have HO2 := za.mk (Kd.zcd ho2 HB.out.size); have HB2 := za.mk (zk HB.out hb2); have HO1 := za.mk (Kd.R_elder HO.out ho2 hb2); clear HO HB ho2 hb2 hnew2) | ((with_reducible refine zza (N := 35) rfl ?_); refine Kd.R_copy (h1 := fun _ => rfl) (enc := Value.int .i64) (0 : Int) w.heap.size rfl _ _ 31 31 3 rfl Tryz.underlying31 (by kernel_rfl) v2 _ row A row.length c (fun _ => True) rfl rfl HO2.out (Kd.zsb HO1.out).2.2 HB2.out HB2.out.size ?_; intro w3 ho3 hb3 hg3; rw [zea.grow] at ho3; have HO4 := za.mk ho3; have HB4 := za.mk hb3; have HO5 := za.mk (Kd.R_grown HO1.out hg3 (fun k hk => hk.2)); clear HO1 HO2 HB2 ho3 hb3 hg3))
    obtain ⟨g, cap, rfl, hbg, hgl, _⟩ := Kd.R_form HO4.out (by simp)
    have HG := za.mk hbg
    clear hbg hgl
    go_loopg [38] k2 (fun kq v38 w' => ∃ (next : List Int) (i : Int), v38 = .int .i64 i ∧ 0 ≤ i ∧ i ≤ (row.length : Int) ∧ za (next.length = row.length + 1) ∧ za (zea.l1 kq n kk row next i = some r) ∧ za (kq ≤ k2) ∧ za (Kd.R (Kd.int .i64) 3 w' w.heap.size (fun _ => True) (.slice (some ⟨g, 0, none⟩) (row ++ [0]).length cap) next) ∧ za (Kd.R (Kd.int .i64) 3 w' w.heap.size (fun k_ => True ∧ some k_ ≠ (Value.slice (some ⟨g, 0, none⟩) (row ++ [0]).length cap).ownBlock) (.slice A row.length c) row) ∧ za (Below w.heap.size w w'))
    case atStart => exact ⟨row ++ [0], 0, rfl, by omega, by omega, ⟨by simp⟩, H', ⟨Nat.le_refl _⟩, HO4, HO5, HB4⟩
    case round =>
     clear H' HO4 HO5 HB4
     obtain ⟨next, i, rfl, hi0, hi1, HL, HA, HK3, HO4, HO5, HB4⟩ := hrel
     cases gk with
     | zero => exact absurd HA.out (by simp [zea.l1])
     | succ k3 =>
      have H := HA.out
      clear HA
      simp only [zea.l1] at H
      by_cases c2 : i < (row.length : Int)
      ·rw [if_pos c2] at H
       have H' := za.mk H
       clear H
       obtain ⟨ad, eA, hx⟩ := Kd.zqe (Kd.zsb HO5.out).2.2 i hi0 c2
       cases eA
       have hln : (row.length : Int) < 9223372036854775807 := by omega
       obtain ⟨hy, hf⟩ := Kd.R_celln (0 : Int) HO4.out (i + 1) (by omega) (by simp; omega)
       have hp := Kd.R_putn HO4.out (i + 1) (wrap64 (rd next (i + 1) + rd row i))
       have HP := za.mk hp
       have HF := za.mk (Kd.R_far (p := ⟨g, (i + 1).toNat, none⟩) HO5.out (fun k hk he => hk.2 (by rw [he]; rfl)) (.int .i64 (wrap64 (rd next (i + 1) + rd row i))))
       have HS := za.mk (HB4.out.setCell (p := ⟨g, (i + 1).toNat, none⟩) HG.out (.int .i64 (wrap64 (rd next (i + 1) + rd row i))))
       clear hp
       go_wp2
       go_roundg k3
       case measure => omega
       case rel => exact ⟨_, i + 1, by go_num, by omega, by omega, ⟨by rw [List.length_set]; exact HL.out⟩, H', ⟨by have := HK3.out; omega⟩, HP, HF, HS⟩
      ·rw [if_neg c2] at H
       have H' := za.mk H
       clear H
       go_wp2
       go_roundg k3
       case measure => have := HK3.out; omega
       case rel =>
        have hfin := HO4.out
        rw [show (row ++ [(0 : Int)]).length = row.length + 1 by simp] at hfin
        exact ⟨next, H', ⟨by have := HK.out; have := HK3.out; omega⟩, ⟨hfin⟩, HB4⟩
   ·rw [if_neg c1] at H
    by_cases c2 : 0 ≤ kk
    ·rw [if_pos c2] at H
     by_cases c3 : kk < (row.length : Int)
     ·rw [if_pos c3] at H
      obtain rfl := Option.some.inj H
      obtain ⟨ad, eA, hx⟩ := Kd.zqe (Kd.zsb HO.out).2.2 kk c2 c3
      cases eA
      go_wp2
      go_ret2
      exact ⟨rfl, HB.out⟩
     ·rw [if_neg c3] at H
      simp at H
    ·rw [if_neg c2] at H
     simp at H
theorem zea.zero (n kk : Int) (w : World) (h0 : 0 ≤ n) (h1 : n ≤ 60) (h2 : kk < 0 ∨ kk > n) :
  Calls Tryz.prog 61 #[.int .i64 n, .int .i64 kk] w fun e w' => e = .returned (.tuple #[.int .i64 0, .nilIface]) ∧ Below w.heap.size w w' := by
 have hc1 : (decide (n < 0)) = false := by simp; omega
 have hc2 : (decide (n > 60)) = false := by simp; omega
 by_cases h3 : kk < 0
 ·have hc3 : (decide (kk < 0)) = true := by simp; omega
  go_enter Tryz.func61, Tryz.ntmps61
  go_wp2
  go_ret2
  exact ⟨rfl, Below.refl _ _⟩
 ·have hc3 : (decide (kk < 0)) = false := by simp; omega
  have hc4 : (decide (kk > n)) = true := by simp; omega
  go_enter Tryz.func61, Tryz.ntmps61
  go_wp2
  go_ret2
  exact ⟨rfl, Below.refl _ _⟩
theorem zea.calls (k : Nat) (a0 a1 : Int) (r1 : Int) (r2 : Option Int) (w : World) (h : zea.f k a0 a1 = some (r1, r2)) :
  Calls Tryz.prog 61 #[.int .i64 a0, .int .i64 a1] w fun e w' => e = .returned (.tuple #[.int .i64 r1, errW r2]) ∧ Below w.heap.size w w' := by
 unfold zea.f at h
 by_cases c1 : a0 < 0
 ·simp [c1] at h
 rw [if_neg c1] at h
 by_cases c2 : a0 > 60
 ·simp [c2] at h
 rw [if_neg c2] at h
 by_cases c3 : a1 < 0
 ·rw [if_pos c3] at h
  simp only [Option.some.injEq, Prod.mk.injEq] at h
  obtain ⟨rfl, rfl⟩ := h
  exact zea.zero a0 a1 w (by omega) (by omega) (.inl c3)
 rw [if_neg c3] at h
 by_cases c4 : a1 > a0
 ·rw [if_pos c4] at h
  simp only [Option.some.injEq, Prod.mk.injEq] at h
  obtain ⟨rfl, rfl⟩ := h
  exact zea.zero a0 a1 w (by omega) (by omega) (.inr c4)
 rw [if_neg c4] at h
 exact zea.go k a0 a1 (r1, r2) w (by omega) (by omega) (by omega) (by omega) h
def zeb.l0 : Nat → Int → Int → Option Bool
 | 0, _, _ => none
 | k + 1, n, d => if d * d > n then some true else if n % d = 0 then some false else zeb.l0 k n (d + 1)
def zeb.f (k : Nat) (n : Int) : Option Bool := if n < 2 then some false else if n > 65536 then some false else zeb.l0 k n 2
theorem zeb.zse : ∀ k, (∀ y0 y1, LeO (zeb.l0 k y0 y1) (zeb.l0 (k + 1) y0 y1))
 | 0 => fun _ _ r h => by simp [zeb.l0] at h
 | k + 1 => by
  have ih0 := zeb.zse k
  intro y0 y1
  unfold zeb.l0
  repeat' first
  | (with_reducible exact ih0 _ _)
  | (with_reducible exact LeO.refl _)
  | (with_reducible exact LeO.none _)
  | (with_reducible refine LeO.ite ?_ ?_)
theorem zeb.mono : ∀ a0 k, LeO (zeb.f k a0) (zeb.f (k + 1) a0) := by
 intro a0 k
 have ih0 := zeb.zse k
 unfold zeb.f
 repeat' first
  | (with_reducible exact ih0 _ _)
  | (with_reducible exact LeO.refl _)
  | (with_reducible exact LeO.none _)
  | (with_reducible refine LeO.ite ?_ ?_)
theorem zeb.go (k : Nat) (n : Int) (r : Bool) (w : World) (h1 : 2 ≤ n) (h2 : n ≤ 65536) (h : zeb.l0 k n 2 = some r) :
  Calls Tryz.prog 85 #[.int .i64 n] w fun e w' => e = .returned (.bool r) ∧ zz w w' := by
 have hc1 : (decide (n < 2)) = false := by simp; omega
 have hc2 : (decide (n > 65536)) = false := by simp; omega
 have H' := za.mk h
 clear h
 go_enter Tryz.func85, Tryz.ntmps85
 go_wp2
 go_step3
 go_wp2
 go_step3
 go_wp2
 go_loopg [3] k (fun kq v3 w' => ∃ d : Int, v3 = .int .i64 d ∧ 2 ≤ d ∧ d ≤ 257 ∧ za (zeb.l0 kq n d = some r) ∧ zz w w')
 case atStart => exact ⟨2, rfl, by omega, by omega, H', zz.refl _⟩
 case round =>
  clear H'
  obtain ⟨d, rfl, hd1, hd2, HA, ⟨m2, rfl⟩⟩ := hrel
  cases gk with
  | zero => exact absurd HA.out (by simp [zeb.l0])
  | succ k2 =>
   have H := HA.out
   clear HA
   simp only [zeb.l0] at H
   have hdd : d * d ≤ 257 * 257 := Int.mul_le_mul hd2 hd2 (by omega) (by omega)
   have hdd0 : 0 ≤ d * d := Int.mul_nonneg (by omega) (by omega)
   by_cases c : d * d > n
   ·rw [if_pos c] at H
    obtain rfl := Option.some.inj H
    go_wp2
    go_ret
    exact ⟨rfl, by repeat (first | exact zz.refl _ | apply zz.step)⟩
   ·rw [if_neg c] at H
    have hdz : (d == 0) = false := by simp; omega
    have hd3 : d ≤ 256 := by
     apply Decidable.byContradiction
     intro hc
     have : 257 * 257 ≤ d * d := Int.mul_le_mul (by omega) (by omega) (by omega) (by omega)
     omega
    by_cases c2 : n % d = 0
    ·rw [if_pos c2] at H
     have c2b : (n % d == 0) = true := beq_iff_eq.mpr c2
     clear c2
     obtain rfl := Option.some.inj H
     go_wp2
     go_ret
     exact ⟨rfl, by repeat (first | exact zz.refl _ | apply zz.step)⟩
    ·rw [if_neg c2] at H
     have c2b : (n % d == 0) = false := beq_eq_false_iff_ne.mpr c2
     clear c2
     have H' := za.mk H
     clear H
     go_wp2
     go_roundg k2
     case measure => omega
     case rel => exact ⟨d + 1, by go_num, by omega, by omega, H', by repeat (first | exact zz.refl _ | apply zz.step)⟩
theorem zeb.low (n : Int) (w : World) (h1 : n < 2) :
  Calls Tryz.prog 85 #[.int .i64 n] w fun e w' => e = .returned (.bool false) ∧ zz w w' := by
 have hc1 : (decide (n < 2)) = true := by simp; omega
 go_enter Tryz.func85, Tryz.ntmps85
 go_wp2
 go_step3
 go_wp2
 rw [Exit.noGoto_ret]
 go_ret
 exact ⟨rfl, zz.refl _⟩
theorem zeb.high (n : Int) (w : World) (h1 : n > 65536) :
  Calls Tryz.prog 85 #[.int .i64 n] w fun e w' => e = .returned (.bool false) ∧ zz w w' := by
 have hc1 : (decide (n < 2)) = false := by simp; omega
 have hc2 : (decide (n > 65536)) = true := by simp; omega
 go_enter Tryz.func85, Tryz.ntmps85
 go_wp2
 go_step3
 go_wp2
 rw [Exit.noGoto_ret]
 go_ret
 exact ⟨rfl, zz.refl _⟩
theorem zeb.calls (k : Nat) (a0 : Int) (r : Bool) (w : World) (h : zeb.f k a0 = some r) :
  Calls Tryz.prog 85 #[.int .i64 a0] w fun e w' => e = .returned (.bool r) ∧ zz w w' := by
 unfold zeb.f at h
 by_cases c1 : a0 < 2
 ·rw [if_pos c1] at h; obtain rfl := Option.some.inj h; exact zeb.low a0 w c1
 ·rw [if_neg c1] at h
  by_cases c2 : a0 > 65536
  ·rw [if_pos c2] at h; obtain rfl := Option.some.inj h; exact zeb.high a0 w c2
  ·rw [if_neg c2] at h; exact zeb.go k a0 r w (by omega) (by omega) h
def znb.l0 : Nat → Int → Option (Int × Option Int)
 | 0, _ => none
 | k + 1, x4 => (zeb.f k x4).bind fun t109 => (if t109 = true then (some (x4, none)) else (znb.l0 k (wrap64 (x4 + 1))))
def znb.f (k : Nat) (a0 : Int) : Option (Int × Option Int) := if a0 > 65521 then ((zcb.f (⟨#[112, 97, 114, 97, 109, 115, 46, 80, 114, 105, 109, 101]⟩ : ByteArray) 1).bind fun t108 => (some (0, t108))) else (znb.l0 k (mx a0 2))
theorem znb.zse : ∀ k, (∀ y0, LeO (znb.l0 k y0) (znb.l0 (k + 1) y0))
 | 0 => fun _ r h => by simp [znb.l0] at h
 | k + 1 => by
  have ih0 := znb.zse k
  ·intro y0
   unfold znb.l0
   repeat' first
   | (with_reducible exact ih0 _)
   | (with_reducible exact zeb.mono _ _)
   | (with_reducible exact LeO.refl _)
   | (with_reducible exact LeO.none _)
   | (with_reducible refine LeO.ite ?_ ?_)
   | (with_reducible refine LeO.bind ?_ (fun _ => ?_))
   | exact ih0 _
   | exact zeb.mono _ _
   | exact LeO.none _
   | refine LeO.ite ?_ ?_
   | refine LeO.bind ?_ (fun _ => ?_)
theorem znb.mono : ∀ a0 k, LeO (znb.f k a0) (znb.f (k + 1) a0) := by
 intro a0 k
 have ih0 := znb.zse k
 unfold znb.f
 repeat' first
   | (with_reducible exact ih0 _)
   | (with_reducible exact zeb.mono _ _)
   | (with_reducible exact LeO.refl _)
   | (with_reducible exact LeO.none _)
   | (with_reducible refine LeO.ite ?_ ?_)
   | (with_reducible refine LeO.bind ?_ (fun _ => ?_))
   | exact ih0 _
   | exact zeb.mono _ _
   | exact LeO.none _
   | refine LeO.ite ?_ ?_
   | refine LeO.bind ?_ (fun _ => ?_)
theorem znb.calls (k : Nat) (a0 : Int) (r1 : Int) (r2 : Option Int) (w : World) (h : znb.f k a0 = some (r1, r2)) :
  Calls Tryz.prog 60 #[.int .i64 a0] w fun e w' => e = .returned (.tuple #[.int .i64 r1, errW r2]) ∧ Below w.heap.size w w' := by
 have HB := za.mk (Below.refl w.heap.size w)
 have H : (if a0 > 65521 then ((zcb.f (⟨#[112, 97, 114, 97, 109, 115, 46, 80, 114, 105, 109, 101]⟩ : ByteArray) 1).bind fun t108 => (some (0, t108))) else (znb.l0 k (mx a0 2))) = some (r1, r2) := h
 clear h
 by_cases c2 : a0 > 65521
 ·rw [if_pos c2] at H
  have c2b0 : decide (65521 < a0) = true := decide_eq_true c2
  clear c2
  replace H := Option.bind_eq_some_iff.mp H
  obtain ⟨t108, A30, H⟩ := H
  replace H : (some (0, t108)) = some (r1, r2) := H
  have A3 := za.mk A30
  clear A30
  simp only [Option.some.injEq, Prod.mk.injEq] at H
  obtain ⟨rfl, rfl⟩ := H
  go_enter Tryz.func60, Tryz.ntmps60
  go_wp2_with (first | ((with_reducible refine zaa (f := 36) rfl ?_); refine zmc (some 7) rfl rfl Tryz.func36 (by kernel_rfl) rfl #[.string (⟨#[112, 97, 114, 97, 109, 115, 46, 80, 114, 105, 109, 101]⟩ : ByteArray), .int .i64 1] rfl (by (try simp only [zpa]); first | done | rfl | simp) ?_; (with_reducible refine (zcb.calls (⟨#[112, 97, 114, 97, 109, 115, 46, 80, 114, 105, 109, 101]⟩ : ByteArray) 1 t108 _ A3.out).mono ?_); rintro e w' ⟨rfl, ⟨nd, rfl⟩⟩; refine ⟨_, rfl, ?_⟩; (try simp only [zn, zo])))
  go_ret2
  exact ⟨by first | rfl | (simp [zn, zo] <;> rfl) | (simp [*, zn, zo] <;> rfl), by apply_rules only [HB.out, ze, zb, zf]⟩
 ·rw [if_neg c2] at H
  have c2b0 : decide (65521 < a0) = false := decide_eq_false c2
  clear c2
  obtain ⟨ji4, hji4⟩ : ∃ j_ : Int, (mx a0 2) = j_ := ⟨_, rfl⟩
  replace H : (znb.l0 k ji4) = some (r1, r2) := by first | (rw [hji4] at H; exact H) | (simp only [hji4] at H ⊢; exact H)
  (try (have hji4l : 2 ≤ ji4 := by (rw [← hji4]; unfold mx; (repeat' split) <;> omega)))
  (try (have hji4m : 0 ≤ ji4 := by omega))
  have hji4_ : (if a0 < 2 then 2 else a0) = ji4 := hji4
  have H' := za.mk H
  clear H
  go_enter Tryz.func60, Tryz.ntmps60
  go_wp2
  go_loopg [4] k (fun kq v4 w' => ∃ (x4_1 : Int), v4 = .int .i64 x4_1 ∧ za (znb.l0 kq x4_1 = some (r1, r2)) ∧ za (kq ≤ k) ∧ za (Below w.heap.size w w'))
  case atStart => exact ⟨(ji4), (by first | rfl | (simp; done) | (simp only [← hji4] <;> (first | rfl | simp)) | (simp [*]; done)), H', ⟨Nat.le_refl _⟩, ⟨by apply_rules only [HB.out, ze, zb, zf]⟩⟩
  case round =>
   clear H'
   obtain ⟨x4_1, rfl, HA, HK1, HB⟩ := hrel
   cases gk with
   | zero => exact absurd HA.out (by simp [znb.l0])
   | succ k1 =>
    have H := HA.out
    clear HA
    simp only [znb.l0] at H
    replace H := Option.bind_eq_some_iff.mp H
    obtain ⟨t109, A50, H⟩ := H
    replace H : (if t109 = true then (some (x4_1, none)) else (znb.l0 k1 (wrap64 (x4_1 + 1)))) = some (r1, r2) := H
    have A5 := za.mk A50
    clear A50
    by_cases c6 : t109 = true
    ·subst c6
     have H1 : (some (x4_1, none)) = some (r1, r2) := by rw [if_pos rfl] at H; exact H
     clear H
     have H := H1
     clear H1
     simp only [Option.some.injEq, Prod.mk.injEq] at H
     obtain ⟨rfl, rfl⟩ := H
     go_wp2_with (first | ((with_reducible refine zaa (f := 85) rfl ?_); refine zmc (some 11) rfl rfl Tryz.func85 (by kernel_rfl) rfl #[.int .i64 x4_1] rfl (by (try simp only [zpa]); first | done | rfl | simp) ?_; (with_reducible refine (zeb.calls k1 x4_1 true _ A5.out).mono ?_); rintro e w' ⟨rfl, ⟨nd, rfl⟩⟩; refine ⟨_, rfl, ?_⟩))
     go_ret2
     exact ⟨by first | rfl | (simp [zn, zo] <;> rfl) | (simp only [← hji4]; first | rfl | (simp [zn, zo] <;> rfl)) | (simp [*, zn, zo] <;> rfl), by apply_rules only [HB.out, ze, zb, zf]⟩
    ·replace c6 := Bool.eq_false_iff.mpr c6
     subst c6
     have H1 : (znb.l0 k1 (wrap64 (x4_1 + 1))) = some (r1, r2) := by rw [if_neg (show ¬ (false = true) by decide)] at H; exact H
     clear H
     have H := H1
     clear H1
     have H' := za.mk H
     clear H
     go_wp2_with (first | ((with_reducible refine zaa (f := 85) rfl ?_); refine zmc (some 11) rfl rfl Tryz.func85 (by kernel_rfl) rfl #[.int .i64 x4_1] rfl (by (try simp only [zpa]); first | done | rfl | simp) ?_; (with_reducible refine (zeb.calls k1 x4_1 false _ A5.out).mono ?_); rintro e w' ⟨rfl, ⟨nd, rfl⟩⟩; refine ⟨_, rfl, ?_⟩))
     go_roundg k1
     case measure => have := HK1.out; omega
     case rel => exact ⟨(wrap64 (x4_1 + 1)), (by first | rfl | simp [*]), H', ⟨by have := HK1.out; omega⟩, ⟨by apply_rules only [HB.out, ze, zb, zf]⟩⟩
mutual
def zgb.j0 : Nat → Int → Bool → Option (Int × Int × Int × Int × Int × Option Int)
 | 0, _, _ => none
 | k + 1, x0, x16 => if x16 = true then ((zcb.f (⟨#[112, 97, 114, 97, 109, 115, 46, 79, 102]⟩ : ByteArray) 1).bind fun t111 => (some (0, 0, 0, 0, 0, t111))) else (zgb.l0 k x0 1)
def zgb.l0 : Nat → Int → Int → Option (Int × Int × Int × Int × Int × Option Int)
 | 0, _, _ => none
 | k + 1, x0, x4 => if (wrap64 (x4 * (wrap64 (x4 - 1)))) < (wrap64 (2 * x0)) then (zgb.l0 k x0 (wrap64 (x4 + 1))) else ((znb.f k (wrap64 ((wrap64 (Int.tdiv (wrap64 (x0 + 99)) 100)) + x4))).bind fun bt112 => (if bt112.2.isNone = true then (zgb.l1 k x0 bt112.1 0) else ((zfb.f (⟨#[112, 97, 114, 97, 109, 115, 46, 79, 102]⟩ : ByteArray) (some (bt112.2.getD 0))).bind fun t123 => (some (0, 0, 0, 0, 0, t123)))))
def zgb.l1 : Nat → Int → Int → Int → Option (Int × Int × Int × Int × Int × Option Int)
 | 0, _, _, _ => none
 | k + 1, x0, x5, x7 => (zea.f k x7 (wrap64 (Int.tdiv (wrap64 (x7 + 1)) 2))).bind fun bt115 => (if bt115.2.isNone = true then (if bt115.1 ≥ (wrap64 (x0 + x5)) then ((znb.f k (wrap64 ((wrap64 (x0 + x5)) + x7))).bind fun bt119 => (if bt119.2.isNone = true then (some (x0, x5, x7, wrap64 ((wrap64 (x0 + x5)) + x7), bt119.1, none)) else ((zfb.f (⟨#[112, 97, 114, 97, 109, 115, 46, 79, 102]⟩ : ByteArray) (some (bt119.2.getD 0))).bind fun t122 => (some (0, 0, 0, 0, 0, t122))))) else (zgb.l1 k x0 x5 (wrap64 (x7 + 1)))) else ((zfb.f (⟨#[112, 97, 114, 97, 109, 115, 46, 79, 102]⟩ : ByteArray) (some (bt115.2.getD 0))).bind fun t118 => (some (0, 0, 0, 0, 0, t118))))
end
def zgb.f (k : Nat) (a0 : Int) : Option (Int × Int × Int × Int × Int × Option Int) := if a0 < 1 then (zgb.j0 k a0 true) else (zgb.j0 k a0 (decide (a0 > 128)))
theorem zgb.zse : ∀ k, (∀ y0 y1, LeO (zgb.j0 k y0 y1) (zgb.j0 (k + 1) y0 y1)) ∧ (∀ y0 y1, LeO (zgb.l0 k y0 y1) (zgb.l0 (k + 1) y0 y1)) ∧ (∀ y0 y1 y2, LeO (zgb.l1 k y0 y1 y2) (zgb.l1 (k + 1) y0 y1 y2))
 | 0 => ⟨fun _ _ r h => by simp [zgb.j0] at h, fun _ _ r h => by simp [zgb.l0] at h, fun _ _ _ r h => by simp [zgb.l1] at h⟩
 | k + 1 => by
  obtain ⟨ih0, ih1, ih2⟩ := zgb.zse k
  refine ⟨?_, ?_, ?_⟩
  ·intro y0 y1
   unfold zgb.j0
   repeat' first
   | (with_reducible exact ih0 _ _)
   | (with_reducible exact ih1 _ _)
   | (with_reducible exact ih2 _ _ _)
   | (with_reducible exact zea.mono _ _ _)
   | (with_reducible exact znb.mono _ _)
   | (with_reducible exact LeO.refl _)
   | (with_reducible exact LeO.none _)
   | (with_reducible refine LeO.ite ?_ ?_)
   | (with_reducible refine LeO.bind ?_ (fun _ => ?_))
   | exact ih0 _ _
   | exact ih1 _ _
   | exact ih2 _ _ _
   | exact zea.mono _ _ _
   | exact znb.mono _ _
   | exact LeO.none _
   | refine LeO.ite ?_ ?_
   | refine LeO.bind ?_ (fun _ => ?_)
  ·intro y0 y1
   unfold zgb.l0
   repeat' first
   | (with_reducible exact ih0 _ _)
   | (with_reducible exact ih1 _ _)
   | (with_reducible exact ih2 _ _ _)
   | (with_reducible exact zea.mono _ _ _)
   | (with_reducible exact znb.mono _ _)
   | (with_reducible exact LeO.refl _)
   | (with_reducible exact LeO.none _)
   | (with_reducible refine LeO.ite ?_ ?_)
   | (with_reducible refine LeO.bind ?_ (fun _ => ?_))
   | exact ih0 _ _
   | exact ih1 _ _
   | exact ih2 _ _ _
   | exact zea.mono _ _ _
   | exact znb.mono _ _
   | exact LeO.none _
   | refine LeO.ite ?_ ?_
   | refine LeO.bind ?_ (fun _ => ?_)
  ·intro y0 y1 y2
   unfold zgb.l1
   repeat' first
   | (with_reducible exact ih0 _ _)
   | (with_reducible exact ih1 _ _)
   | (with_reducible exact ih2 _ _ _)
   | (with_reducible exact zea.mono _ _ _)
   | (with_reducible exact znb.mono _ _)
   | (with_reducible exact LeO.refl _)
   | (with_reducible exact LeO.none _)
   | (with_reducible refine LeO.ite ?_ ?_)
   | (with_reducible refine LeO.bind ?_ (fun _ => ?_))
   | exact ih0 _ _
   | exact ih1 _ _
   | exact ih2 _ _ _
   | exact zea.mono _ _ _
   | exact znb.mono _ _
   | exact LeO.none _
   | refine LeO.ite ?_ ?_
   | refine LeO.bind ?_ (fun _ => ?_)
theorem zgb.mono : ∀ a0 k, LeO (zgb.f k a0) (zgb.f (k + 1) a0) := by
 intro a0 k
 obtain ⟨ih0, ih1, ih2⟩ := zgb.zse k
 unfold zgb.f
 repeat' first
   | (with_reducible exact ih0 _ _)
   | (with_reducible exact ih1 _ _)
   | (with_reducible exact ih2 _ _ _)
   | (with_reducible exact zea.mono _ _ _)
   | (with_reducible exact znb.mono _ _)
   | (with_reducible exact LeO.refl _)
   | (with_reducible exact LeO.none _)
   | (with_reducible refine LeO.ite ?_ ?_)
   | (with_reducible refine LeO.bind ?_ (fun _ => ?_))
   | exact ih0 _ _
   | exact ih1 _ _
   | exact ih2 _ _ _
   | exact zea.mono _ _ _
   | exact znb.mono _ _
   | exact LeO.none _
   | refine LeO.ite ?_ ?_
   | refine LeO.bind ?_ (fun _ => ?_)
theorem zgb.calls (k : Nat) (a0 : Int) (r1 : Int) (r2 : Int) (r3 : Int) (r4 : Int) (r5 : Int) (r6 : Option Int) (w : World) (h : zgb.f k a0 = some (r1, r2, r3, r4, r5, r6)) :
  Calls Tryz.prog 32 #[.int .i64 a0] w fun e w' => e = .returned (.tuple #[.agg #[.int .i64 r1, .int .i64 r2, .int .i64 r3, .int .i64 r4, .int .i64 r5], errW r6]) ∧ Below w.heap.size w w' := by
 have hu23 := Tryz.underlying23
 have hu27 := Tryz.underlying27
 have HB := za.mk (Below.refl w.heap.size w)
 have H : (if a0 < 1 then (zgb.j0 k a0 true) else (zgb.j0 k a0 (decide (a0 > 128)))) = some (r1, r2, r3, r4, r5, r6) := h
 clear h
 have HC2 := za.mk H
 clear H
 go_enter Tryz.func32, Tryz.ntmps32
 go_upto_region 1 with (first | ((with_reducible refine zza (N := 2) rfl ?_); refine zgc ?hg (N := 2) ?hd (cs := #[.int .i64 0, .int .i64 0, .int .i64 0, .int .i64 0, .int .i64 0]) (t := 23) ?hr ?_; (case hd => rfl); (case hg => rfl); (case hr => first | (go_simp; done) | (go_simp; rfl)); intro gb110 hg w3 hbox hb; have n0_ := za.mk (zk (by apply_rules only [HB.out, ze, zb, zf]) hb); have n1_ := za.mk (hbox); have n2_ := za.mk ((by rw [hg]; exact (zm (by apply_rules only [HB.out, ze, zb, zf])) : w.heap.size ≤ gb110)); have n3_ := za.mk ((by rw [hg]; exact (zm (by apply_rules only [HB.out, ze, zb, zf])) : w.heap.size ≤ gb110)); clear HB; have HB := n0_; have BK110 := n1_; have GW110 := n2_; have GE110 := n3_; clear n0_ n1_ n2_ n3_; clear hb hbox hg))
 (try simp only [Act.put, List.setIfInBounds_toArray, List.set_cons_zero, List.set_cons_succ])
 go_cut [16] (fun v16 wc => ∃ (kq : Nat) (x16_1 : Bool), v16 = .bool x16_1 ∧ za (zgb.j0 kq a0 x16_1 = some (r1, r2, r3, r4, r5, r6)) ∧ za (kq ≤ k) ∧ za (wc.heap[gb110]? = some (.cells #[.int .i64 0, .int .i64 0, .int .i64 0, .int .i64 0, .int .i64 0] 23 (0, 0))) ∧ za (Below w.heap.size w wc))
 case first =>
  have H := HC2.out
  clear HC2
  by_cases c4 : a0 < 1
  ·rw [if_pos c4] at H
   exact absurd H (by first | (cases k <;> simp [zgb.j0, zcb.f]; done) | (cases k1 <;> simp [zgb.j0, zcb.f]; done) | (cases k2 <;> simp [zgb.j0, zcb.f]; done))
  ·rw [if_neg c4] at H
   have c4b0 : decide (a0 < 1) = false := decide_eq_false c4
   clear c4
   (first | rw [c4b0] | (simp only [i64_w, i32_w]; rw [c4b0]) | skip)
   have H' := za.mk H
   clear H
   go_wp2
   go_meet
   case rel => exact ⟨_, (decide (a0 > 128)), (by first | rfl | simp [*]), H', ⟨by first | omega | exact Nat.le_refl _⟩, ⟨by apply_rules only [BK110.out, zh, zj, zi]⟩, ⟨by apply_rules only [HB.out, ze, zb, zf, fun h => zg h GE110.out]⟩⟩
 case rest =>
  clear HC2
  obtain ⟨kq, x16_1, rfl, HA, HJ1, BK110, HB⟩ := hcut
  cases kq with
  | zero => exact absurd HA.out (by simp [zgb.j0])
  | succ kj1 =>
   have H := HA.out
   clear HA
   simp only [zgb.j0] at H
   by_cases c5 : x16_1 = true
   ·subst c5
    have H1 : ((zcb.f (⟨#[112, 97, 114, 97, 109, 115, 46, 79, 102]⟩ : ByteArray) 1).bind fun t111 => (some (0, 0, 0, 0, 0, t111))) = some (r1, r2, r3, r4, r5, r6) := by rw [if_pos rfl] at H; exact H
    exact absurd H1 (by simp [zcb.f, zfb.f])
   ·replace c5 := Bool.eq_false_iff.mpr c5
    subst c5
    have H1 : (zgb.l0 kj1 a0 1) = some (r1, r2, r3, r4, r5, r6) := by rw [if_neg (show ¬ (false = true) by decide)] at H; exact H
    clear H
    have H := H1
    clear H1
    have H' := za.mk H
    clear H
    go_wp2
    go_loopg [4] kj1 (fun kq v4 w' => ∃ (x4_2 : Int), v4 = .int .i64 x4_2 ∧ za (zgb.l0 kq a0 x4_2 = some (r1, r2, r3, r4, r5, r6)) ∧ za (kq ≤ kj1) ∧ za (w'.heap[gb110]? = some (.cells #[.int .i64 0, .int .i64 0, .int .i64 0, .int .i64 0, .int .i64 0] 23 (0, 0))) ∧ za (Below w.heap.size w w'))
    case atStart => exact ⟨(1), (by first | rfl | simp [*]), H', ⟨Nat.le_refl _⟩, ⟨by apply_rules only [BK110.out, zh, zj, zi]⟩, ⟨by apply_rules only [HB.out, ze, zb, zf, fun h => zg h GE110.out]⟩⟩
    case round =>
     clear H'
     obtain ⟨x4_2, rfl, HA, HK2, BK110, HB⟩ := hrel
     cases gk with
     | zero => exact absurd HA.out (by simp [zgb.l0])
     | succ k2 =>
      have H := HA.out
      clear HA
      simp only [zgb.l0] at H
      by_cases c8 : (wrap64 (x4_2 * (wrap64 (x4_2 - 1)))) < (wrap64 (2 * a0))
      ·rw [if_pos c8] at H
       have c8b0 : decide ((wrap64 (x4_2 * (wrap64 (x4_2 - 1)))) < (wrap64 (2 * a0))) = true := decide_eq_true c8
       clear c8
       have H' := za.mk H
       clear H
       go_wp2
       go_roundg k2
       case measure => have := HJ1.out; have := HK2.out; omega
       case rel => exact ⟨(wrap64 (x4_2 + 1)), (by first | rfl | simp [*]), H', ⟨by have := HJ1.out; have := HK2.out; omega⟩, ⟨by apply_rules only [BK110.out, zh, zj, zi]⟩, ⟨by apply_rules only [HB.out, ze, zb, zf, fun h => zg h GE110.out]⟩⟩
      ·rw [if_neg c8] at H
       have c8b0 : decide ((wrap64 (x4_2 * (wrap64 (x4_2 - 1)))) < (wrap64 (2 * a0))) = false := decide_eq_false c8
       clear c8
       replace H := Option.bind_eq_some_iff.mp H
       obtain ⟨⟨t112, t113⟩, A90, H⟩ := H
       replace H : (if t113.isNone = true then (zgb.l1 k2 a0 t112 0) else ((zfb.f (⟨#[112, 97, 114, 97, 109, 115, 46, 79, 102]⟩ : ByteArray) (some (t113.getD 0))).bind fun t123 => (some (0, 0, 0, 0, 0, t123)))) = some (r1, r2, r3, r4, r5, r6) := H
       have A9 := za.mk A90
       clear A90
       rcases t113 with _ | q114
       ·have H1 : (zgb.l1 k2 a0 t112 0) = some (r1, r2, r3, r4, r5, r6) := by rw [if_pos (show (none : Option Int).isNone = true by rfl)] at H; exact H
        clear H
        have H := H1
        clear H1
        try simp only [zn, zo]
        have H' := za.mk H
        clear H
        go_wp2_with (first | ((with_reducible refine zaa (f := 60) rfl ?_); refine zmc (some 34) rfl rfl Tryz.func60 (by kernel_rfl) rfl #[.int .i64 (wrap64 ((wrap64 (Int.tdiv (wrap64 (a0 + 99)) 100)) + x4_2))] rfl (by (try simp only [zpa]); first | done | rfl | simp) ?_; (with_reducible refine (znb.calls k2 (wrap64 ((wrap64 (Int.tdiv (wrap64 (a0 + 99)) 100)) + x4_2)) t112 none _ A9.out).mono ?_); rintro e w10 ⟨rfl, hb⟩; refine ⟨_, rfl, ?_⟩; have n0_ := za.mk (zy (g := gb110) (o := .cells #[.int .i64 0, .int .i64 0, .int .i64 0, .int .i64 0, .int .i64 0] 23 (0, 0)) (by apply_rules only [BK110.out, zh, zj, zi]) hb); have n1_ := za.mk (zk (by apply_rules only [HB.out, ze, zb, zf, fun h => zg h GE110.out]) hb); clear BK110; clear HB; have BK110 := n0_; have HB := n1_; clear n0_ n1_; (try clear hb); (try clear hb2); (try clear hk); (try clear hi); (try simp only [zn, zo])))
        go_loopg [7] k2 (fun kq v7 w' => ∃ (x7_3 : Int) (x111000_3 : Int) (x111001_3 : Int) (x111002_3 : Int) (x111003_3 : Int) (x111004_3 : Int), v7 = .int .i64 x7_3 ∧ za (zgb.l1 kq a0 t112 x7_3 = some (r1, r2, r3, r4, r5, r6)) ∧ za (kq ≤ k2) ∧ za (w'.heap[gb110]? = some (.cells #[.int .i64 x111000_3, .int .i64 x111001_3, .int .i64 x111002_3, .int .i64 x111003_3, .int .i64 x111004_3] 23 (0, 0))) ∧ za (Below w.heap.size w w'))
        case atStart => exact ⟨(0), (0), (0), (0), (0), (0), (by first | rfl | simp [*]), H', ⟨Nat.le_refl _⟩, ⟨by apply_rules only [BK110.out, zh, zj, zi]⟩, ⟨by apply_rules only [HB.out, ze, zb, zf, fun h => zg h GE110.out]⟩⟩
        case round =>
         clear H'
         obtain ⟨x7_3, x111000_3, x111001_3, x111002_3, x111003_3, x111004_3, rfl, HA, HK3, BK110, HB⟩ := hrel
         cases gk with
         | zero => exact absurd HA.out (by simp [zgb.l1])
         | succ k3 =>
          have H := HA.out
          clear HA
          simp only [zgb.l1] at H
          replace H := Option.bind_eq_some_iff.mp H
          obtain ⟨⟨t115, t116⟩, A110, H⟩ := H
          replace H : (if t116.isNone = true then (if t115 ≥ (wrap64 (a0 + t112)) then ((znb.f k3 (wrap64 ((wrap64 (a0 + t112)) + x7_3))).bind fun bt119 => (if bt119.2.isNone = true then (some (a0, t112, x7_3, wrap64 ((wrap64 (a0 + t112)) + x7_3), bt119.1, none)) else ((zfb.f (⟨#[112, 97, 114, 97, 109, 115, 46, 79, 102]⟩ : ByteArray) (some (bt119.2.getD 0))).bind fun t122 => (some (0, 0, 0, 0, 0, t122))))) else (zgb.l1 k3 a0 t112 (wrap64 (x7_3 + 1)))) else ((zfb.f (⟨#[112, 97, 114, 97, 109, 115, 46, 79, 102]⟩ : ByteArray) (some (t116.getD 0))).bind fun t118 => (some (0, 0, 0, 0, 0, t118)))) = some (r1, r2, r3, r4, r5, r6) := H
          have A11 := za.mk A110
          clear A110
          rcases t116 with _ | q117
          ·have H1 : (if t115 ≥ (wrap64 (a0 + t112)) then ((znb.f k3 (wrap64 ((wrap64 (a0 + t112)) + x7_3))).bind fun bt119 => (if bt119.2.isNone = true then (some (a0, t112, x7_3, wrap64 ((wrap64 (a0 + t112)) + x7_3), bt119.1, none)) else ((zfb.f (⟨#[112, 97, 114, 97, 109, 115, 46, 79, 102]⟩ : ByteArray) (some (bt119.2.getD 0))).bind fun t122 => (some (0, 0, 0, 0, 0, t122))))) else (zgb.l1 k3 a0 t112 (wrap64 (x7_3 + 1)))) = some (r1, r2, r3, r4, r5, r6) := by rw [if_pos (show (none : Option Int).isNone = true by rfl)] at H; exact H
           clear H
           have H := H1
           clear H1
           try simp only [zn, zo]
           by_cases c12 : t115 ≥ (wrap64 (a0 + t112))
           ·rw [if_pos c12] at H
            have c12b0 : decide ((wrap64 (a0 + t112)) ≤ t115) = true := decide_eq_true c12
            clear c12
            replace H := Option.bind_eq_some_iff.mp H
            obtain ⟨⟨t119, t120⟩, A130, H⟩ := H
            replace H : (if t120.isNone = true then (some (a0, t112, x7_3, wrap64 ((wrap64 (a0 + t112)) + x7_3), t119, none)) else ((zfb.f (⟨#[112, 97, 114, 97, 109, 115, 46, 79, 102]⟩ : ByteArray) (some (t120.getD 0))).bind fun t122 => (some (0, 0, 0, 0, 0, t122)))) = some (r1, r2, r3, r4, r5, r6) := H
            have A13 := za.mk A130
            clear A130
            rcases t120 with _ | q121
            ·have H1 : (some (a0, t112, x7_3, wrap64 ((wrap64 (a0 + t112)) + x7_3), t119, none)) = some (r1, r2, r3, r4, r5, r6) := by rw [if_pos (show (none : Option Int).isNone = true by rfl)] at H; exact H
             clear H
             have H := H1
             clear H1
             try simp only [zn, zo]
             simp only [Option.some.injEq, Prod.mk.injEq] at H
             obtain ⟨rfl, rfl, rfl, rfl, rfl, rfl⟩ := H
             go_wp2_with (first | ((with_reducible refine zaa (f := 61) rfl ?_); refine zmc (some 47) rfl rfl Tryz.func61 (by kernel_rfl) rfl #[.int .i64 x7_3, .int .i64 (wrap64 (Int.tdiv (wrap64 (x7_3 + 1)) 2))] rfl (by (try simp only [zpa]); first | done | rfl | simp) ?_; (with_reducible refine (zea.calls k3 x7_3 (wrap64 (Int.tdiv (wrap64 (x7_3 + 1)) 2)) t115 none _ A11.out).mono ?_); rintro e w14 ⟨rfl, hb⟩; refine ⟨_, rfl, ?_⟩; have n0_ := za.mk (zy (g := gb110) (o := .cells #[.int .i64 x111000_3, .int .i64 x111001_3, .int .i64 x111002_3, .int .i64 x111003_3, .int .i64 x111004_3] 23 (0, 0)) (by apply_rules only [BK110.out, zh, zj, zi]) hb); have n1_ := za.mk (zk (by apply_rules only [HB.out, ze, zb, zf, fun h => zg h GE110.out]) hb); clear BK110; clear HB; have BK110 := n0_; have HB := n1_; clear n0_ n1_; (try clear hb); (try clear hb2); (try clear hk); (try clear hi); (try simp only [zn, zo])) | ((with_reducible refine zaa (f := 60) rfl ?_); refine zmc (some 68) rfl rfl Tryz.func60 (by kernel_rfl) rfl #[.int .i64 (wrap64 ((wrap64 (a0 + t112)) + x7_3))] rfl (by (try simp only [zpa]); first | done | rfl | simp) ?_; (with_reducible refine (znb.calls k3 (wrap64 ((wrap64 (a0 + t112)) + x7_3)) t119 none _ A13.out).mono ?_); rintro e w15 ⟨rfl, hb⟩; refine ⟨_, rfl, ?_⟩; have n0_ := za.mk (zy (g := gb110) (o := .cells #[.int .i64 x111000_3, .int .i64 x111001_3, .int .i64 x111002_3, .int .i64 x111003_3, .int .i64 x111004_3] 23 (0, 0)) (by apply_rules only [BK110.out, zh, zj, zi]) hb); have n1_ := za.mk (zk (by apply_rules only [HB.out, ze, zb, zf, fun h => zg h GE110.out]) hb); clear BK110; clear HB; have BK110 := n0_; have HB := n1_; clear n0_ n1_; (try clear hb); (try clear hb2); (try clear hk); (try clear hi); (try simp only [zn, zo]); obtain ⟨hcz16_0, hcz16_1, hcz16_2, hcz16_3, hcz16_4⟩ := cells5 BK110.out; obtain ⟨hfz16_0, hfz16_1, hfz16_2, hfz16_3, hfz16_4⟩ := zic BK110.out))
             refine bodyPost_ret (results_ct rfl _ _ gb110 23 #[.int .i64 a0, .int .i64 t112, .int .i64 x7_3, .int .i64 (wrap64 ((wrap64 (a0 + t112)) + x7_3)), .int .i64 t119] (0, 0) _ rfl (by (with_reducible repeat (first | refine zh ?_ _ | refine zj ?_ | refine zi ?_ _)); refine zzc (cs := #[.int .i64 a0, .int .i64 t112, .int .i64 x7_3, .int .i64 (wrap64 ((wrap64 (a0 + t112)) + x7_3)), .int .i64 x111004_3]) ?_ 4 _ rfl; (with_reducible repeat (first | refine zh ?_ _ | refine zj ?_ | refine zi ?_ _)); refine zzc (cs := #[.int .i64 a0, .int .i64 t112, .int .i64 x7_3, .int .i64 x111003_3, .int .i64 x111004_3]) ?_ 3 _ rfl; (with_reducible repeat (first | refine zh ?_ _ | refine zj ?_ | refine zi ?_ _)); refine zzc (cs := #[.int .i64 a0, .int .i64 t112, .int .i64 x111002_3, .int .i64 x111003_3, .int .i64 x111004_3]) ?_ 2 _ rfl; (with_reducible repeat (first | refine zh ?_ _ | refine zj ?_ | refine zi ?_ _)); refine zzc (cs := #[.int .i64 a0, .int .i64 x111001_3, .int .i64 x111002_3, .int .i64 x111003_3, .int .i64 x111004_3]) ?_ 1 _ rfl; (with_reducible repeat (first | refine zh ?_ _ | refine zj ?_ | refine zi ?_ _)); refine zzc (cs := #[.int .i64 x111000_3, .int .i64 x111001_3, .int .i64 x111002_3, .int .i64 x111003_3, .int .i64 x111004_3]) ?_ 0 _ rfl; (with_reducible repeat (first | refine zh ?_ _ | refine zj ?_ | refine zi ?_ _)); exact BK110.out) Tryz.underlying23 rfl (by kernel_rfl)) rfl ?_
             exact ⟨by first | rfl | (simp [zn, zo] <;> rfl) | (simp [*, zn, zo] <;> rfl), by apply_rules only [HB.out, ze, zb, zf, fun h => zg h GE110.out]⟩
            ·have H1 : ((zfb.f (⟨#[112, 97, 114, 97, 109, 115, 46, 79, 102]⟩ : ByteArray) (some q121)).bind fun t122 => (some (0, 0, 0, 0, 0, t122))) = some (r1, r2, r3, r4, r5, r6) := by rw [if_neg (show ¬ (some q121).isNone = true by simp)] at H; exact H
             exact absurd H1 (by simp [zcb.f, zfb.f])
           ·rw [if_neg c12] at H
            have c12b0 : decide ((wrap64 (a0 + t112)) ≤ t115) = false := decide_eq_false c12
            clear c12
            have H' := za.mk H
            clear H
            go_wp2_with (first | ((with_reducible refine zaa (f := 61) rfl ?_); refine zmc (some 47) rfl rfl Tryz.func61 (by kernel_rfl) rfl #[.int .i64 x7_3, .int .i64 (wrap64 (Int.tdiv (wrap64 (x7_3 + 1)) 2))] rfl (by (try simp only [zpa]); first | done | rfl | simp) ?_; (with_reducible refine (zea.calls k3 x7_3 (wrap64 (Int.tdiv (wrap64 (x7_3 + 1)) 2)) t115 none _ A11.out).mono ?_); rintro e w21 ⟨rfl, hb⟩; refine ⟨_, rfl, ?_⟩; have n0_ := za.mk (zy (g := gb110) (o := .cells #[.int .i64 x111000_3, .int .i64 x111001_3, .int .i64 x111002_3, .int .i64 x111003_3, .int .i64 x111004_3] 23 (0, 0)) (by apply_rules only [BK110.out, zh, zj, zi]) hb); have n1_ := za.mk (zk (by apply_rules only [HB.out, ze, zb, zf, fun h => zg h GE110.out]) hb); clear BK110; clear HB; have BK110 := n0_; have HB := n1_; clear n0_ n1_; (try clear hb); (try clear hb2); (try clear hk); (try clear hi); (try simp only [zn, zo])))
            go_roundg k3
            case measure => have := HJ1.out; have := HK2.out; have := HK3.out; omega
            case rel => exact ⟨(wrap64 (x7_3 + 1)), (x111000_3), (x111001_3), (x111002_3), (x111003_3), (x111004_3), (by first | rfl | simp [*]), H', ⟨by have := HJ1.out; have := HK2.out; have := HK3.out; omega⟩, ⟨by apply_rules only [BK110.out, zh, zj, zi]⟩, ⟨by apply_rules only [HB.out, ze, zb, zf, fun h => zg h GE110.out]⟩⟩
          ·have H1 : ((zfb.f (⟨#[112, 97, 114, 97, 109, 115, 46, 79, 102]⟩ : ByteArray) (some q117)).bind fun t118 => (some (0, 0, 0, 0, 0, t118))) = some (r1, r2, r3, r4, r5, r6) := by rw [if_neg (show ¬ (some q117).isNone = true by simp)] at H; exact H
           exact absurd H1 (by simp [zcb.f, zfb.f])
       ·have H1 : ((zfb.f (⟨#[112, 97, 114, 97, 109, 115, 46, 79, 102]⟩ : ByteArray) (some q114)).bind fun t123 => (some (0, 0, 0, 0, 0, t123))) = some (r1, r2, r3, r4, r5, r6) := by rw [if_neg (show ¬ (some q114).isNone = true by simp)] at H; exact H
        exact absurd H1 (by simp [zcb.f, zfb.f])
section
attribute [local go_sem high] eqA23
def zwe.f (k : Nat) (a0_0 : Int) (a0_1 : Int) (a0_2 : Int) (a0_3 : Int) (a0_4 : Int) : Option (Bool) := (zgb.f k a0_0).bind fun bt125 => (if bt125.2.2.2.2.2.isNone = true then (some (a0_0 == bt125.1 && (a0_1 == bt125.2.1 && (a0_2 == bt125.2.2.1 && (a0_3 == bt125.2.2.2.1 && (a0_4 == bt125.2.2.2.2.1)))))) else (some false))
theorem zwe.calls (k : Nat) (a0_0 : Int) (a0_1 : Int) (a0_2 : Int) (a0_3 : Int) (a0_4 : Int) (r : Bool) (w : World) (h : zwe.f k a0_0 a0_1 a0_2 a0_3 a0_4 = some r) :
  Calls Tryz.prog 95 #[.agg #[.int .i64 a0_0, .int .i64 a0_1, .int .i64 a0_2, .int .i64 a0_3, .int .i64 a0_4]] w fun e w' => e = .returned (.bool r) ∧ Below w.heap.size w w' := by
 have hu23 := Tryz.underlying23
 have hu27 := Tryz.underlying27
 have HB := za.mk (Below.refl w.heap.size w)
 have H : ((zgb.f k a0_0).bind fun bt125 => (if bt125.2.2.2.2.2.isNone = true then (some (a0_0 == bt125.1 && (a0_1 == bt125.2.1 && (a0_2 == bt125.2.2.1 && (a0_3 == bt125.2.2.2.1 && (a0_4 == bt125.2.2.2.2.1)))))) else (some false))) = some r := h
 clear h
 replace H := Option.bind_eq_some_iff.mp H
 obtain ⟨⟨t125, t126, t127, t128, t129, t130⟩, A20, H⟩ := H
 replace H : (if t130.isNone = true then (some (a0_0 == t125 && (a0_1 == t126 && (a0_2 == t127 && (a0_3 == t128 && (a0_4 == t129)))))) else (some false)) = some r := H
 have A2 := za.mk A20
 clear A20
 rcases t130 with _ | q132
 ·have H1 : (some (a0_0 == t125 && (a0_1 == t126 && (a0_2 == t127 && (a0_3 == t128 && (a0_4 == t129)))))) = some r := by rw [if_pos (show (none : Option Int).isNone = true by rfl)] at H; exact H
  clear H
  have H := H1
  clear H1
  try simp only [zn, zo]
  obtain rfl := Option.some.inj H
  go_enter Tryz.func95, Tryz.ntmps95
  go_wp2_with (first | ((with_reducible refine zza (N := 1) rfl ?_); refine zgc ?hg (N := 1) ?hd (cs := #[.int .i64 a0_0, .int .i64 a0_1, .int .i64 a0_2, .int .i64 a0_3, .int .i64 a0_4]) (t := 23) ?hr ?_; (case hd => rfl); (case hg => rfl); (case hr => first | (go_simp; done) | (go_simp; rfl)); intro gb124 hg w3 hbox hb; have n0_ := za.mk (zk (by apply_rules only [HB.out, ze, zb, zf]) hb); have n1_ := za.mk (hbox); have n2_ := za.mk ((by rw [hg]; exact (zm (by apply_rules only [HB.out, ze, zb, zf])) : w.heap.size ≤ gb124)); have n3_ := za.mk ((by rw [hg]; exact (zm (by apply_rules only [HB.out, ze, zb, zf])) : w.heap.size ≤ gb124)); clear HB; have HB := n0_; have BK124 := n1_; have GW124 := n2_; have GE124 := n3_; clear n0_ n1_ n2_ n3_; clear hb hbox hg; obtain ⟨hcz4_0, hcz4_1, hcz4_2, hcz4_3, hcz4_4⟩ := cells5 BK124.out; obtain ⟨hfz4_0, hfz4_1, hfz4_2, hfz4_3, hfz4_4⟩ := zic BK124.out) | ((with_reducible refine zaa (f := 32) rfl ?_); refine zmc (some 8) rfl rfl Tryz.func32 (by kernel_rfl) rfl #[.int .i64 a0_0] rfl (by (try simp only [zpa]); first | done | rfl | simp) ?_; (with_reducible refine (zgb.calls k a0_0 t125 t126 t127 t128 t129 none _ A2.out).mono ?_); rintro e w5 ⟨rfl, hb⟩; refine ⟨_, rfl, ?_⟩; have n0_ := za.mk (zy (g := gb124) (o := .cells #[.int .i64 a0_0, .int .i64 a0_1, .int .i64 a0_2, .int .i64 a0_3, .int .i64 a0_4] 23 (0, 0)) (by apply_rules only [BK124.out, zh, zj, zi]) hb); have n1_ := za.mk (zk (by apply_rules only [HB.out, ze, zb, zf, fun h => zg h GE124.out]) hb); clear BK124; clear HB; have BK124 := n0_; have HB := n1_; clear n0_ n1_; (try clear hb); (try clear hb2); (try clear hk); (try clear hi); (try simp only [zn, zo])) | ((with_reducible refine zza (N := 3) rfl ?_); refine zgc ?hg (N := 3) ?hd (cs := #[.int .i64 0, .int .i64 0, .int .i64 0, .int .i64 0, .int .i64 0]) (t := 23) ?hr ?_; (case hd => rfl); (case hg => rfl); (case hr => first | (go_simp; done) | (go_simp; rfl)); intro gb131 hg w6 hbox hb; have n0_ := za.mk (zy (g := gb124) (o := .cells #[.int .i64 a0_0, .int .i64 a0_1, .int .i64 a0_2, .int .i64 a0_3, .int .i64 a0_4] 23 (0, 0)) (by apply_rules only [BK124.out, zh, zj, zi]) hb); have n1_ := za.mk (zk (by apply_rules only [HB.out, ze, zb, zf, fun h => zg h GE124.out]) hb); have n2_ := za.mk (hbox); have n3_ := za.mk ((by rw [hg]; exact (zm (by apply_rules only [HB.out, ze, zb, zf, fun h => zg h GE124.out])) : w.heap.size ≤ gb131)); have n4_ := za.mk ((by rw [hg]; exact (zm (by apply_rules only [HB.out, ze, zb, zf, fun h => zg h GE124.out])) : w.heap.size ≤ gb131)); have n5_ := za.mk ((by rw [hg]; exact Nat.ne_of_lt (zpe (g := gb124) (o := .cells #[.int .i64 a0_0, .int .i64 a0_1, .int .i64 a0_2, .int .i64 a0_3, .int .i64 a0_4] 23 (0, 0)) (by apply_rules only [BK124.out, zh, zj, zi])) : gb124 ≠ gb131)); have n6_ := za.mk ((by rw [hg]; exact Nat.ne_of_gt (zpe (g := gb124) (o := .cells #[.int .i64 a0_0, .int .i64 a0_1, .int .i64 a0_2, .int .i64 a0_3, .int .i64 a0_4] 23 (0, 0)) (by apply_rules only [BK124.out, zh, zj, zi])) : gb131 ≠ gb124)); clear BK124; clear HB; have BK124 := n0_; have HB := n1_; have BK131 := n2_; have GW131 := n3_; have GE131 := n4_; have NB124_131 := n5_; have NB131_124 := n6_; clear n0_ n1_ n2_ n3_ n4_ n5_ n6_; clear hb hbox hg; have hnb7 := NB131_124.out; have hnc7 := NB124_131.out; obtain ⟨hcz8_0, hcz8_1, hcz8_2, hcz8_3, hcz8_4⟩ := cells5 BK131.out; obtain ⟨hfz8_0, hfz8_1, hfz8_2, hfz8_3, hfz8_4⟩ := zic BK131.out; obtain ⟨hcz9_0, hcz9_1, hcz9_2, hcz9_3, hcz9_4⟩ := cells5 BK124.out; obtain ⟨hfz9_0, hfz9_1, hfz9_2, hfz9_3, hfz9_4⟩ := zic BK124.out))
  go_ret
  exact ⟨by first | rfl | (simp [zn, zo] <;> rfl) | (simp [*, zn, zo] <;> rfl), by apply_rules only [HB.out, ze, zb, zf, fun h => zg h GE124.out, fun h => zg h GE131.out]⟩
 ·have H1 : (some false) = some r := by rw [if_neg (show ¬ (some q132).isNone = true by simp)] at H; exact H
  clear H
  have H := H1
  clear H1
  try simp only [zn, zo]
  obtain rfl := Option.some.inj H
  go_enter Tryz.func95, Tryz.ntmps95
  go_wp2_with (first | ((with_reducible refine zza (N := 1) rfl ?_); refine zgc ?hg (N := 1) ?hd (cs := #[.int .i64 a0_0, .int .i64 a0_1, .int .i64 a0_2, .int .i64 a0_3, .int .i64 a0_4]) (t := 23) ?hr ?_; (case hd => rfl); (case hg => rfl); (case hr => first | (go_simp; done) | (go_simp; rfl)); intro gb124 hg w10 hbox hb; have n0_ := za.mk (zk (by apply_rules only [HB.out, ze, zb, zf]) hb); have n1_ := za.mk (hbox); have n2_ := za.mk ((by rw [hg]; exact (zm (by apply_rules only [HB.out, ze, zb, zf])) : w.heap.size ≤ gb124)); have n3_ := za.mk ((by rw [hg]; exact (zm (by apply_rules only [HB.out, ze, zb, zf])) : w.heap.size ≤ gb124)); clear HB; have HB := n0_; have BK124 := n1_; have GW124 := n2_; have GE124 := n3_; clear n0_ n1_ n2_ n3_; clear hb hbox hg; obtain ⟨hcz11_0, hcz11_1, hcz11_2, hcz11_3, hcz11_4⟩ := cells5 BK124.out; obtain ⟨hfz11_0, hfz11_1, hfz11_2, hfz11_3, hfz11_4⟩ := zic BK124.out) | ((with_reducible refine zaa (f := 32) rfl ?_); refine zmc (some 8) rfl rfl Tryz.func32 (by kernel_rfl) rfl #[.int .i64 a0_0] rfl (by (try simp only [zpa]); first | done | rfl | simp) ?_; (with_reducible refine (zgb.calls k a0_0 t125 t126 t127 t128 t129 (some q132) _ A2.out).mono ?_); rintro e w12 ⟨rfl, hb⟩; refine ⟨_, rfl, ?_⟩; have n0_ := za.mk (zy (g := gb124) (o := .cells #[.int .i64 a0_0, .int .i64 a0_1, .int .i64 a0_2, .int .i64 a0_3, .int .i64 a0_4] 23 (0, 0)) (by apply_rules only [BK124.out, zh, zj, zi]) hb); have n1_ := za.mk (zk (by apply_rules only [HB.out, ze, zb, zf, fun h => zg h GE124.out]) hb); clear BK124; clear HB; have BK124 := n0_; have HB := n1_; clear n0_ n1_; (try clear hb); (try clear hb2); (try clear hk); (try clear hi); (try simp only [zn, zo])) | ((with_reducible refine zza (N := 3) rfl ?_); refine zgc ?hg (N := 3) ?hd (cs := #[.int .i64 0, .int .i64 0, .int .i64 0, .int .i64 0, .int .i64 0]) (t := 23) ?hr ?_; (case hd => rfl); (case hg => rfl); (case hr => first | (go_simp; done) | (go_simp; rfl)); intro gb131 hg w13 hbox hb; have n0_ := za.mk (zy (g := gb124) (o := .cells #[.int .i64 a0_0, .int .i64 a0_1, .int .i64 a0_2, .int .i64 a0_3, .int .i64 a0_4] 23 (0, 0)) (by apply_rules only [BK124.out, zh, zj, zi]) hb); have n1_ := za.mk (zk (by apply_rules only [HB.out, ze, zb, zf, fun h => zg h GE124.out]) hb); have n2_ := za.mk (hbox); have n3_ := za.mk ((by rw [hg]; exact (zm (by apply_rules only [HB.out, ze, zb, zf, fun h => zg h GE124.out])) : w.heap.size ≤ gb131)); have n4_ := za.mk ((by rw [hg]; exact (zm (by apply_rules only [HB.out, ze, zb, zf, fun h => zg h GE124.out])) : w.heap.size ≤ gb131)); have n5_ := za.mk ((by rw [hg]; exact Nat.ne_of_lt (zpe (g := gb124) (o := .cells #[.int .i64 a0_0, .int .i64 a0_1, .int .i64 a0_2, .int .i64 a0_3, .int .i64 a0_4] 23 (0, 0)) (by apply_rules only [BK124.out, zh, zj, zi])) : gb124 ≠ gb131)); have n6_ := za.mk ((by rw [hg]; exact Nat.ne_of_gt (zpe (g := gb124) (o := .cells #[.int .i64 a0_0, .int .i64 a0_1, .int .i64 a0_2, .int .i64 a0_3, .int .i64 a0_4] 23 (0, 0)) (by apply_rules only [BK124.out, zh, zj, zi])) : gb131 ≠ gb124)); clear BK124; clear HB; have BK124 := n0_; have HB := n1_; have BK131 := n2_; have GW131 := n3_; have GE131 := n4_; have NB124_131 := n5_; have NB131_124 := n6_; clear n0_ n1_ n2_ n3_ n4_ n5_ n6_; clear hb hbox hg; have hnb14 := NB131_124.out; have hnc14 := NB124_131.out; obtain ⟨hcz15_0, hcz15_1, hcz15_2, hcz15_3, hcz15_4⟩ := cells5 BK131.out; obtain ⟨hfz15_0, hfz15_1, hfz15_2, hfz15_3, hfz15_4⟩ := zic BK131.out))
  go_ret
  exact ⟨by first | rfl | (simp [zn, zo] <;> rfl) | (simp [*, zn, zo] <;> rfl), by apply_rules only [HB.out, ze, zb, zf, fun h => zg h GE124.out, fun h => zg h GE131.out]⟩
end
def zad.l0 : Nat → Int → Int → Int → Int → List Int → Int → Option (List Int × Option Int)
 | 0, _, _, _, _, _, _ => none
 | k + 1, L, P, deg, step, out, i => if i < L then (if ((out ++ [i]).length : Int) = deg then some (out ++ [i], none) else (if out.length < 1000000 then zad.l0 k L P deg step (out ++ [i]) ((i + step) % P) else none)) else zad.l0 k L P deg step out ((i + step) % P)
def zad.f (k : Nat) (a0_0 a0_1 a0_2 a0_3 a0_4 a1_0 a1_1 a1_2 : Int) : Option (List Int × Option Int) :=
 (zwe.f k a0_0 a0_1 a0_2 a0_3 a0_4).bind fun b => if b = true then (if 1 ≤ a1_0 then (if a1_0 ≤ a0_3 then (if a0_3 ≤ 1000000 then (if 1 ≤ a1_1 then (if a1_1 < a0_4 then (if a0_4 ≤ 1000000 then (if 0 ≤ a1_2 then (if a1_2 < a0_4 then zad.l0 k a0_3 a0_4 a1_0 a1_1 [] a1_2 else none) else none) else none) else none) else none) else none) else none) else none) else none
theorem zad.go (k : Nat) (a0_0 a0_1 a0_2 L P deg step i : Int) (r : List Int × Option Int) (w : World) (hc : zwe.f k a0_0 a0_1 a0_2 L P = some true) (h1 : 1 ≤ deg) (h2 : deg ≤ L) (h2b : L ≤ 1000000) (h3 : 1 ≤ step) (h4 : step < P) (h5 : P ≤ 1000000) (h6 : 0 ≤ i) (h7 : i < P)
  (h : zad.l0 k L P deg step [] i = some r) :
  Calls Tryz.prog 74 #[.agg #[.int .i64 a0_0, .int .i64 a0_1, .int .i64 a0_2, .int .i64 L, .int .i64 P], .agg #[.int .i64 deg, .int .i64 step, .int .i64 i]] w fun e w' => ∃ v0_ : Value, e = .returned (.tuple #[v0_, errW r.2]) ∧ Kd.R (Kd.int .i64) 3 w' w.heap.size (fun _ => True) v0_ r.1 ∧ Below w.heap.size w w' := by
 have b1 : (decide (deg < 1)) = false := by simp; omega
 have b2 : (decide (deg > L)) = false := by simp; omega
 have b3 : (decide (step < 1)) = false := by simp; omega
 have b4 : (decide (step ≥ P)) = false := by simp; omega
 have b5 : (decide (i < 0)) = false := by simp; omega
 have b6 : (decide (i ≥ P)) = false := by simp; omega
 have H' := za.mk h
 have HC := za.mk hc
 have HB := za.mk (Below.refl w.heap.size w)
 clear h hc
 go_enter Tryz.func74, Tryz.ntmps74
 go_wp2
 go_step3
 go_wp2_with fail
 refine (zwe.calls k _ _ _ _ _ true _ HC.out).mono ?_
 rintro e w1 ⟨rfl, hb⟩
 have B2 := za.mk (show w1.heap[w.heap.size]? = some (.cells #[.int .i64 a0_0, .int .i64 a0_1, .int .i64 a0_2, .int .i64 L, .int .i64 P] 23 (0, 0)) from zy (zi (zif w _) _) hb)
 have B3 := za.mk (show w1.heap[w.heap.size + 1]? = some (.cells #[.int .i64 deg, .int .i64 step, .int .i64 i] 125 (0, 0)) from zy (by have := zif (w.alloc (.cells #[.int .i64 a0_0, .int .i64 a0_1, .int .i64 a0_2, .int .i64 L, .int .i64 P] 23)) (.cells #[.int .i64 deg, .int .i64 step, .int .i64 i] 125); simpa using this) hb)
 have HB1 := za.mk (zk (ze (ze HB.out _) _) hb)
 clear HB hb HC
 have c23 : w1.cell? ⟨w.heap.size, 3, none⟩ = some (.int .i64 L) := (zl B2.out 3).trans rfl
 have c24 : w1.cell? ⟨w.heap.size, 4, none⟩ = some (.int .i64 P) := (zl B2.out 4).trans rfl
 have c30 : w1.cell? ⟨w.heap.size + 1, 0, none⟩ = some (.int .i64 deg) := (zl B3.out 0).trans rfl
 have c31 : w1.cell? ⟨w.heap.size + 1, 1, none⟩ = some (.int .i64 step) := (zl B3.out 1).trans rfl
 have c32 : w1.cell? ⟨w.heap.size + 1, 2, none⟩ = some (.int .i64 i) := (zl B3.out 2).trans rfl
 go_wp2
 go_step3
 go_wp2
 go_loopg [6, 7] k (fun kq v6 v7 w' => ∃ (out : List Int) (j : Int), v7 = .int .i64 j ∧ 0 ≤ j ∧ j < P ∧ za (out.length ≤ 1000000) ∧ za (zad.l0 kq L P deg step out j = some r) ∧ za (Kd.R (Kd.int .i64) 3 w' w.heap.size (fun _ => True) v6 out) ∧ za (w'.heap[w.heap.size]? = some (.cells #[.int .i64 a0_0, .int .i64 a0_1, .int .i64 a0_2, .int .i64 L, .int .i64 P] 23 (0, 0))) ∧ za (w'.heap[w.heap.size + 1]? = some (.cells #[.int .i64 deg, .int .i64 step, .int .i64 i] 125 (0, 0))) ∧ za (Below w.heap.size w w'))
 case atStart => exact ⟨[], i, rfl, h6, h7, ⟨by simp⟩, H', ⟨Kd.R_nil _ _ _ _ _⟩, B2, B3, HB1⟩
 case round =>
  clear H' B2 B3 HB1 c23 c24 c30 c31 c32
  obtain ⟨out, j, rfl, hj0, hj1, HL, HA, HO, B2, B3, HB⟩ := hrel
  have c23 : wr.cell? ⟨w.heap.size, 3, none⟩ = some (.int .i64 L) := (zl B2.out 3).trans rfl
  have c24 : wr.cell? ⟨w.heap.size, 4, none⟩ = some (.int .i64 P) := (zl B2.out 4).trans rfl
  have c30 : wr.cell? ⟨w.heap.size + 1, 0, none⟩ = some (.int .i64 deg) := (zl B3.out 0).trans rfl
  have c31 : wr.cell? ⟨w.heap.size + 1, 1, none⟩ = some (.int .i64 step) := (zl B3.out 1).trans rfl
  cases gk with
  | zero => exact absurd HA.out (by simp [zad.l0])
  | succ k2 =>
   have H := HA.out
   clear HA
   simp only [zad.l0] at H
   have hz : (P == 0) = false := by simp; omega
   by_cases c : j < L
   ·rw [if_pos c] at H
    have cb : decide (j < L) = true := decide_eq_true c
    by_cases c2 : ((out ++ [j]).length : Int) = deg
    ·rw [if_pos c2] at H
     obtain rfl := Option.some.inj H
     have cb2 : ((out.length : Int) + 1 == deg) = true := by rw [← c2]; simp
     clear c2 H
     go_wp2_with (first | ((with_reducible refine zdd (b := .append) (xs := #[.tmp 54, .tmp 56]) rfl ?_); at_builtin; refine Kd.zof (Kd.int .i64) (w0 := w) w.heap.size rfl (.tmp 54) (.tmp 56) 31 3 (.int .i64 0) 8 rfl Tryz.underlying31 info3 rfl (by decide) (by omega) u6 out j [.int .i64 j] (fun _ => True) (fun _ => False) rfl rfl ?aP (fun _ hk => hk.elim) ?aF ?aO ?aB ?aS ?aL ?_; (case aP => exact rfl); (case aB => exact HB.out); (case aF => exact (fun _ _ => trivial)); (case aO => exact HO.out); (case aS => exact HB.out.size); (case aL => have := HL.out; omega); intro v1 w4 ho hb hg hat; have B2b := za.mk (zwc B2.out hg (Kd.R_ne HO.out B2.out (by decide))); have B3b := za.mk (zwc B3.out hg (Kd.R_ne HO.out B3.out (by decide))); have HB4 := za.mk hb; have HO4 := za.mk ho; clear HB HO B2 B3 c23 c24 c30 c31 ho hb hg hat; obtain ⟨A5, q5, e5⟩ := Kd.zsc HO4.out; rw [show (out ++ [j]).length = out.length + 1 from by simp] at e5; subst e5; have c23 : w4.cell? ⟨w.heap.size, 3, none⟩ = some (.int .i64 L) := (zl B2b.out 3).trans rfl; have c24 : w4.cell? ⟨w.heap.size, 4, none⟩ = some (.int .i64 P) := (zl B2b.out 4).trans rfl; have c30 : w4.cell? ⟨w.heap.size + 1, 0, none⟩ = some (.int .i64 deg) := (zl B3b.out 0).trans rfl; have c31 : w4.cell? ⟨w.heap.size + 1, 1, none⟩ = some (.int .i64 step) := (zl B3b.out 1).trans rfl))
     rw [Exit.noGoto_ret]
     go_ret2
     exact ⟨_, rfl, HO4.out, HB4.out⟩
    ·rw [if_neg c2] at H
     have cb2 : ((out.length : Int) + 1 == deg) = false := by
      have h9 : ((out ++ [j]).length : Int) = (out.length : Int) + 1 := by simp
      rw [h9] at c2
      exact beq_eq_false_iff_ne.mpr c2
     clear c2
     by_cases c3 : out.length < 1000000
     ·rw [if_pos c3] at H
      have H' := za.mk H
      have HL3 := za.mk c3
      clear H c3
      have hlt : 0 ≤ (j + step) % P := Int.emod_nonneg _ (by omega)
      have hlt2 : (j + step) % P < P := Int.emod_lt_of_pos _ (by omega)
      go_wp2_with (first | ((with_reducible refine zdd (b := .append) (xs := #[.tmp 54, .tmp 56]) rfl ?_); at_builtin; refine Kd.zof (Kd.int .i64) (w0 := w) w.heap.size rfl (.tmp 54) (.tmp 56) 31 3 (.int .i64 0) 8 rfl Tryz.underlying31 info3 rfl (by decide) (by omega) u6 out j [.int .i64 j] (fun _ => True) (fun _ => False) rfl rfl ?aP (fun _ hk => hk.elim) ?aF ?aO ?aB ?aS ?aL ?_; (case aP => exact rfl); (case aB => exact HB.out); (case aF => exact (fun _ _ => trivial)); (case aO => exact HO.out); (case aS => exact HB.out.size); (case aL => have := HL.out; omega); intro v1 w4 ho hb hg hat; have B2b := za.mk (zwc B2.out hg (Kd.R_ne HO.out B2.out (by decide))); have B3b := za.mk (zwc B3.out hg (Kd.R_ne HO.out B3.out (by decide))); have HB4 := za.mk hb; have HO4 := za.mk ho; clear HB HO B2 B3 c23 c24 c30 c31 ho hb hg hat; obtain ⟨A5, q5, e5⟩ := Kd.zsc HO4.out; rw [show (out ++ [j]).length = out.length + 1 from by simp] at e5; subst e5; have c23 : w4.cell? ⟨w.heap.size, 3, none⟩ = some (.int .i64 L) := (zl B2b.out 3).trans rfl; have c24 : w4.cell? ⟨w.heap.size, 4, none⟩ = some (.int .i64 P) := (zl B2b.out 4).trans rfl; have c30 : w4.cell? ⟨w.heap.size + 1, 0, none⟩ = some (.int .i64 deg) := (zl B3b.out 0).trans rfl; have c31 : w4.cell? ⟨w.heap.size + 1, 1, none⟩ = some (.int .i64 step) := (zl B3b.out 1).trans rfl))
      go_roundg k2
      case measure => omega
      case rel => exact ⟨out ++ [j], (j + step) % P, by go_num, hlt, hlt2, ⟨by have := HL3.out; simp; omega⟩, H', HO4, B2b, B3b, HB4⟩
     ·simp [c3] at H
   ·rw [if_neg c] at H
    have cb : decide (j < L) = false := decide_eq_false c
    have H' := za.mk H
    clear H
    have hlt : 0 ≤ (j + step) % P := Int.emod_nonneg _ (by omega)
    have hlt2 : (j + step) % P < P := Int.emod_lt_of_pos _ (by omega)
    go_wp2
    go_roundg k2
    case measure => omega
    case rel => exact ⟨out, (j + step) % P, by go_num, hlt, hlt2, HL, H', HO, B2, B3, HB⟩
theorem zad.calls (k : Nat) (a0_0 a0_1 a0_2 a0_3 a0_4 a1_0 a1_1 a1_2 : Int) (r1 : List Int) (r2 : Option Int) (w : World) (h : zad.f k a0_0 a0_1 a0_2 a0_3 a0_4 a1_0 a1_1 a1_2 = some (r1, r2)) :
  Calls Tryz.prog 74 #[.agg #[.int .i64 a0_0, .int .i64 a0_1, .int .i64 a0_2, .int .i64 a0_3, .int .i64 a0_4], .agg #[.int .i64 a1_0, .int .i64 a1_1, .int .i64 a1_2]] w fun e w' => ∃ v0_ : Value, e = .returned (.tuple #[v0_, errW r2]) ∧ Kd.R (Kd.int .i64) 3 w' w.heap.size (fun _ => True) v0_ r1 ∧ Below w.heap.size w w' := by
 unfold zad.f at h
 obtain ⟨b, hb, h⟩ := Option.bind_eq_some_iff.mp h
 cases b with
 | false => simp at h
 | true =>
  rw [if_pos rfl] at h
  by_cases h1 : 1 ≤ a1_0
  ·rw [if_pos h1] at h
   by_cases h2 : a1_0 ≤ a0_3
   ·rw [if_pos h2] at h
    by_cases h2b : a0_3 ≤ 1000000
    ·rw [if_pos h2b] at h
     by_cases h3 : 1 ≤ a1_1
     ·rw [if_pos h3] at h
      by_cases h4 : a1_1 < a0_4
      ·rw [if_pos h4] at h
       by_cases h5 : a0_4 ≤ 1000000
       ·rw [if_pos h5] at h
        by_cases h6 : 0 ≤ a1_2
        ·rw [if_pos h6] at h
         by_cases h7 : a1_2 < a0_4
         ·rw [if_pos h7] at h
          exact zad.go k a0_0 a0_1 a0_2 a0_3 a0_4 a1_0 a1_1 a1_2 (r1, r2) w hb h1 h2 h2b h3 h4 h5 h6 h7 h
         ·simp [h7] at h
        ·simp [h6] at h
       ·simp [h5] at h
      ·simp [h4] at h
     ·simp [h3] at h
    ·simp [h2b] at h
   ·simp [h2] at h
  ·simp [h1] at h
def degB : Nat → Int
 | 0 => 10241 | 1 => 491582 | 2 => 712794 | 3 => 831695 | 4 => 948446 | 5 => 1032189 | _ => 1048576
def degD : Nat → Int
 | 0 => 1 | 1 => 2 | 2 => 3 | 3 => 4 | 4 => 10 | 5 => 11 | _ => 40
def degAt : Nat → Nat → Int → Option (Int × Option Int)
 | 0, _, _ => none
 | k + 1, i, v => if v < degB i then some (degD i, none) else degAt k (i + 1) v
def degree_Of.f (v : Int) : Option (Int × Option Int) := if 0 ≤ v then (if v < 1048576 then degAt 7 0 v else none) else none
theorem zud.calls (w : World) :
  Calls Tryz.prog 124 #[] w fun e w' => e = .returned (.agg #[.int .i64 10241, .int .i64 491582, .int .i64 712794, .int .i64 831695, .int .i64 948446, .int .i64 1032189, .int .i64 1048576]) ∧ Below w.heap.size w w' := by
 go_enter Tryz.func124, Tryz.ntmps124
 go_wp2
 exact bodyPost_ret (v := .agg #[.int .i64 10241, .int .i64 491582, .int .i64 712794, .int .i64 831695, .int .i64 948446, .int .i64 1032189, .int .i64 1048576]) (by simp [results, Tryz.results124, go_sem]) rfl ⟨rfl, by repeat (first | exact Below.refl _ _ | apply ze)⟩
theorem zxe.calls (w : World) :
  Calls Tryz.prog 125 #[] w fun e w' => e = .returned (.agg #[.int .i64 1, .int .i64 2, .int .i64 3, .int .i64 4, .int .i64 10, .int .i64 11, .int .i64 40]) ∧ Below w.heap.size w w' := by
 go_enter Tryz.func125, Tryz.ntmps125
 go_wp2
 exact bodyPost_ret (v := .agg #[.int .i64 1, .int .i64 2, .int .i64 3, .int .i64 4, .int .i64 10, .int .i64 11, .int .i64 40]) (by simp [results, Tryz.results125, go_sem]) rfl ⟨rfl, by repeat (first | exact Below.refl _ _ | apply ze)⟩
theorem deg_b0 : ∀ w, (Instr.index 168 (.agg #[.int .i64 10241, .int .i64 491582, .int .i64 712794, .int .i64 831695, .int .i64 948446, .int .i64 1032189, .int .i64 1048576]) (.int .i64 0)).run Tryz.prog w = .ok (.int .i64 10241) w := fun _ => by kernel_rfl
theorem deg_b1 : ∀ w, (Instr.index 168 (.agg #[.int .i64 10241, .int .i64 491582, .int .i64 712794, .int .i64 831695, .int .i64 948446, .int .i64 1032189, .int .i64 1048576]) (.int .i64 1)).run Tryz.prog w = .ok (.int .i64 491582) w := fun _ => by kernel_rfl
theorem deg_b2 : ∀ w, (Instr.index 168 (.agg #[.int .i64 10241, .int .i64 491582, .int .i64 712794, .int .i64 831695, .int .i64 948446, .int .i64 1032189, .int .i64 1048576]) (.int .i64 2)).run Tryz.prog w = .ok (.int .i64 712794) w := fun _ => by kernel_rfl
theorem deg_b3 : ∀ w, (Instr.index 168 (.agg #[.int .i64 10241, .int .i64 491582, .int .i64 712794, .int .i64 831695, .int .i64 948446, .int .i64 1032189, .int .i64 1048576]) (.int .i64 3)).run Tryz.prog w = .ok (.int .i64 831695) w := fun _ => by kernel_rfl
theorem deg_b4 : ∀ w, (Instr.index 168 (.agg #[.int .i64 10241, .int .i64 491582, .int .i64 712794, .int .i64 831695, .int .i64 948446, .int .i64 1032189, .int .i64 1048576]) (.int .i64 4)).run Tryz.prog w = .ok (.int .i64 948446) w := fun _ => by kernel_rfl
theorem deg_b5 : ∀ w, (Instr.index 168 (.agg #[.int .i64 10241, .int .i64 491582, .int .i64 712794, .int .i64 831695, .int .i64 948446, .int .i64 1032189, .int .i64 1048576]) (.int .i64 5)).run Tryz.prog w = .ok (.int .i64 1032189) w := fun _ => by kernel_rfl
theorem deg_b6 : ∀ w, (Instr.index 168 (.agg #[.int .i64 10241, .int .i64 491582, .int .i64 712794, .int .i64 831695, .int .i64 948446, .int .i64 1032189, .int .i64 1048576]) (.int .i64 6)).run Tryz.prog w = .ok (.int .i64 1048576) w := fun _ => by kernel_rfl
theorem deg_d0 : ∀ w, (Instr.index 168 (.agg #[.int .i64 1, .int .i64 2, .int .i64 3, .int .i64 4, .int .i64 10, .int .i64 11, .int .i64 40]) (.int .i64 0)).run Tryz.prog w = .ok (.int .i64 1) w := fun _ => by kernel_rfl
theorem deg_d1 : ∀ w, (Instr.index 168 (.agg #[.int .i64 1, .int .i64 2, .int .i64 3, .int .i64 4, .int .i64 10, .int .i64 11, .int .i64 40]) (.int .i64 1)).run Tryz.prog w = .ok (.int .i64 2) w := fun _ => by kernel_rfl
theorem deg_d2 : ∀ w, (Instr.index 168 (.agg #[.int .i64 1, .int .i64 2, .int .i64 3, .int .i64 4, .int .i64 10, .int .i64 11, .int .i64 40]) (.int .i64 2)).run Tryz.prog w = .ok (.int .i64 3) w := fun _ => by kernel_rfl
theorem deg_d3 : ∀ w, (Instr.index 168 (.agg #[.int .i64 1, .int .i64 2, .int .i64 3, .int .i64 4, .int .i64 10, .int .i64 11, .int .i64 40]) (.int .i64 3)).run Tryz.prog w = .ok (.int .i64 4) w := fun _ => by kernel_rfl
theorem deg_d4 : ∀ w, (Instr.index 168 (.agg #[.int .i64 1, .int .i64 2, .int .i64 3, .int .i64 4, .int .i64 10, .int .i64 11, .int .i64 40]) (.int .i64 4)).run Tryz.prog w = .ok (.int .i64 10) w := fun _ => by kernel_rfl
theorem deg_d5 : ∀ w, (Instr.index 168 (.agg #[.int .i64 1, .int .i64 2, .int .i64 3, .int .i64 4, .int .i64 10, .int .i64 11, .int .i64 40]) (.int .i64 5)).run Tryz.prog w = .ok (.int .i64 11) w := fun _ => by kernel_rfl
theorem deg_d6 : ∀ w, (Instr.index 168 (.agg #[.int .i64 1, .int .i64 2, .int .i64 3, .int .i64 4, .int .i64 10, .int .i64 11, .int .i64 40]) (.int .i64 6)).run Tryz.prog w = .ok (.int .i64 40) w := fun _ => by kernel_rfl
theorem degree_Of.go (v : Int) (r : Int × Option Int) (w : World) (h0 : 0 ≤ v) (h1 : v < 1048576) (h : degAt 7 0 v = some r) :
  Calls Tryz.prog 109 #[.int .i64 v] w fun e w' => e = .returned (.tuple #[.int .i64 r.1, errW r.2]) ∧ Below w.heap.size w w' := by
 have hc1 : (decide (v < 0)) = false := by simp; omega
 have hc2 : (decide (v ≥ 1048576)) = false := by simp; omega
 have H' := za.mk h
 have HB := za.mk (Below.refl w.heap.size w)
 clear h
 go_enter Tryz.func109, Tryz.ntmps109
 go_wp2
 go_loopg [12] 7 (fun kq v12 w' => ∃ i : Nat, v12 = .int .i64 i ∧ i ≤ 6 ∧ kq + i = 7 ∧ za (degAt kq i v = some r) ∧ za (Below w.heap.size w w'))
 case atStart => exact ⟨0, rfl, by omega, rfl, H', HB⟩
 case round =>
  clear H' HB
  obtain ⟨i, rfl, hi, hk, HA, HB⟩ := hrel
  have hcase : i = 0 ∨ i = 1 ∨ i = 2 ∨ i = 3 ∨ i = 4 ∨ i = 5 ∨ i = 6 := by omega
  rcases hcase with rfl | rfl | rfl | rfl | rfl | rfl | rfl
  ·obtain rfl : gk = 7 := by omega
   have H : (if v < 10241 then some ((1 : Int), (none : Option Int)) else degAt 6 1 v) = some r := HA.out
   clear HA hk hi
   have hx := deg_b0
   have hy := deg_d0
   by_cases c : v < 10241
   ·rw [if_pos c] at H
    obtain rfl := Option.some.inj H
    have cb : decide (v < 10241) = true := decide_eq_true c
    clear H
    go_wp2_with (first | (go_at_call 124; refine (zud.calls _).mono ?_; rintro e w1 ⟨rfl, hb⟩; have HB1 := za.mk (zk HB.out hb); clear HB hb) | (go_at_call 125; refine (zxe.calls _).mono ?_; rintro e w1 ⟨rfl, hb⟩; have HB2 := za.mk (zk HB1.out hb); clear HB1 hb))
    go_ret2
    exact ⟨rfl, HB2.out⟩
   ·rw [if_neg c] at H
    have cb : decide (v < 10241) = false := decide_eq_false c
    have H' := za.mk H
    clear H
    go_wp2_with (first | (go_at_call 124; refine (zud.calls _).mono ?_; rintro e w1 ⟨rfl, hb⟩; have HB1 := za.mk (zk HB.out hb); clear HB hb))
    go_roundg 6
    case measure => omega
    case rel => exact ⟨1, by go_num, by omega, by omega, H', HB1⟩
  ·obtain rfl : gk = 6 := by omega
   have H : (if v < 491582 then some ((2 : Int), (none : Option Int)) else degAt 5 2 v) = some r := HA.out
   clear HA hk hi
   have hx := deg_b1
   have hy := deg_d1
   by_cases c : v < 491582
   ·rw [if_pos c] at H
    obtain rfl := Option.some.inj H
    have cb : decide (v < 491582) = true := decide_eq_true c
    clear H
    go_wp2_with (first | (go_at_call 124; refine (zud.calls _).mono ?_; rintro e w1 ⟨rfl, hb⟩; have HB1 := za.mk (zk HB.out hb); clear HB hb) | (go_at_call 125; refine (zxe.calls _).mono ?_; rintro e w1 ⟨rfl, hb⟩; have HB2 := za.mk (zk HB1.out hb); clear HB1 hb))
    go_ret2
    exact ⟨rfl, HB2.out⟩
   ·rw [if_neg c] at H
    have cb : decide (v < 491582) = false := decide_eq_false c
    have H' := za.mk H
    clear H
    go_wp2_with (first | (go_at_call 124; refine (zud.calls _).mono ?_; rintro e w1 ⟨rfl, hb⟩; have HB1 := za.mk (zk HB.out hb); clear HB hb))
    go_roundg 5
    case measure => omega
    case rel => exact ⟨2, by go_num, by omega, by omega, H', HB1⟩
  ·obtain rfl : gk = 5 := by omega
   have H : (if v < 712794 then some ((3 : Int), (none : Option Int)) else degAt 4 3 v) = some r := HA.out
   clear HA hk hi
   have hx := deg_b2
   have hy := deg_d2
   by_cases c : v < 712794
   ·rw [if_pos c] at H
    obtain rfl := Option.some.inj H
    have cb : decide (v < 712794) = true := decide_eq_true c
    clear H
    go_wp2_with (first | (go_at_call 124; refine (zud.calls _).mono ?_; rintro e w1 ⟨rfl, hb⟩; have HB1 := za.mk (zk HB.out hb); clear HB hb) | (go_at_call 125; refine (zxe.calls _).mono ?_; rintro e w1 ⟨rfl, hb⟩; have HB2 := za.mk (zk HB1.out hb); clear HB1 hb))
    go_ret2
    exact ⟨rfl, HB2.out⟩
   ·rw [if_neg c] at H
    have cb : decide (v < 712794) = false := decide_eq_false c
    have H' := za.mk H
    clear H
    go_wp2_with (first | (go_at_call 124; refine (zud.calls _).mono ?_; rintro e w1 ⟨rfl, hb⟩; have HB1 := za.mk (zk HB.out hb); clear HB hb))
    go_roundg 4
    case measure => omega
    case rel => exact ⟨3, by go_num, by omega, by omega, H', HB1⟩
  ·obtain rfl : gk = 4 := by omega
   have H : (if v < 831695 then some ((4 : Int), (none : Option Int)) else degAt 3 4 v) = some r := HA.out
   clear HA hk hi
   have hx := deg_b3
   have hy := deg_d3
   by_cases c : v < 831695
   ·rw [if_pos c] at H
    obtain rfl := Option.some.inj H
    have cb : decide (v < 831695) = true := decide_eq_true c
    clear H
    go_wp2_with (first | (go_at_call 124; refine (zud.calls _).mono ?_; rintro e w1 ⟨rfl, hb⟩; have HB1 := za.mk (zk HB.out hb); clear HB hb) | (go_at_call 125; refine (zxe.calls _).mono ?_; rintro e w1 ⟨rfl, hb⟩; have HB2 := za.mk (zk HB1.out hb); clear HB1 hb))
    go_ret2
    exact ⟨rfl, HB2.out⟩
   ·rw [if_neg c] at H
    have cb : decide (v < 831695) = false := decide_eq_false c
    have H' := za.mk H
    clear H
    go_wp2_with (first | (go_at_call 124; refine (zud.calls _).mono ?_; rintro e w1 ⟨rfl, hb⟩; have HB1 := za.mk (zk HB.out hb); clear HB hb))
    go_roundg 3
    case measure => omega
    case rel => exact ⟨4, by go_num, by omega, by omega, H', HB1⟩
  ·obtain rfl : gk = 3 := by omega
   have H : (if v < 948446 then some ((10 : Int), (none : Option Int)) else degAt 2 5 v) = some r := HA.out
   clear HA hk hi
   have hx := deg_b4
   have hy := deg_d4
   by_cases c : v < 948446
   ·rw [if_pos c] at H
    obtain rfl := Option.some.inj H
    have cb : decide (v < 948446) = true := decide_eq_true c
    clear H
    go_wp2_with (first | (go_at_call 124; refine (zud.calls _).mono ?_; rintro e w1 ⟨rfl, hb⟩; have HB1 := za.mk (zk HB.out hb); clear HB hb) | (go_at_call 125; refine (zxe.calls _).mono ?_; rintro e w1 ⟨rfl, hb⟩; have HB2 := za.mk (zk HB1.out hb); clear HB1 hb))
    go_ret2
    exact ⟨rfl, HB2.out⟩
   ·rw [if_neg c] at H
    have cb : decide (v < 948446) = false := decide_eq_false c
    have H' := za.mk H
    clear H
    go_wp2_with (first | (go_at_call 124; refine (zud.calls _).mono ?_; rintro e w1 ⟨rfl, hb⟩; have HB1 := za.mk (zk HB.out hb); clear HB hb))
    go_roundg 2
    case measure => omega
    case rel => exact ⟨5, by go_num, by omega, by omega, H', HB1⟩
  ·obtain rfl : gk = 2 := by omega
   have H : (if v < 1032189 then some ((11 : Int), (none : Option Int)) else degAt 1 6 v) = some r := HA.out
   clear HA hk hi
   have hx := deg_b5
   have hy := deg_d5
   by_cases c : v < 1032189
   ·rw [if_pos c] at H
    obtain rfl := Option.some.inj H
    have cb : decide (v < 1032189) = true := decide_eq_true c
    clear H
    go_wp2_with (first | (go_at_call 124; refine (zud.calls _).mono ?_; rintro e w1 ⟨rfl, hb⟩; have HB1 := za.mk (zk HB.out hb); clear HB hb) | (go_at_call 125; refine (zxe.calls _).mono ?_; rintro e w1 ⟨rfl, hb⟩; have HB2 := za.mk (zk HB1.out hb); clear HB1 hb))
    go_ret2
    exact ⟨rfl, HB2.out⟩
   ·rw [if_neg c] at H
    have cb : decide (v < 1032189) = false := decide_eq_false c
    have H' := za.mk H
    clear H
    go_wp2_with (first | (go_at_call 124; refine (zud.calls _).mono ?_; rintro e w1 ⟨rfl, hb⟩; have HB1 := za.mk (zk HB.out hb); clear HB hb))
    go_roundg 1
    case measure => omega
    case rel => exact ⟨6, by go_num, by omega, by omega, H', HB1⟩
  ·obtain rfl : gk = 1 := by omega
   have H : (if v < 1048576 then some ((40 : Int), (none : Option Int)) else degAt 0 7 v) = some r := HA.out
   clear HA hk hi
   have hx := deg_b6
   have hy := deg_d6
   by_cases c : v < 1048576
   ·rw [if_pos c] at H
    obtain rfl := Option.some.inj H
    have cb : decide (v < 1048576) = true := decide_eq_true c
    clear H
    go_wp2_with (first | (go_at_call 124; refine (zud.calls _).mono ?_; rintro e w1 ⟨rfl, hb⟩; have HB1 := za.mk (zk HB.out hb); clear HB hb) | (go_at_call 125; refine (zxe.calls _).mono ?_; rintro e w1 ⟨rfl, hb⟩; have HB2 := za.mk (zk HB1.out hb); clear HB1 hb))
    go_ret2
    exact ⟨rfl, HB2.out⟩
   ·omega
theorem degree_Of.calls (a0 : Int) (r1 : Int) (r2 : Option Int) (w : World) (h : degree_Of.f a0 = some (r1, r2)) :
  Calls Tryz.prog 109 #[.int .i64 a0] w fun e w' => e = .returned (.tuple #[.int .i64 r1, errW r2]) ∧ Below w.heap.size w w' := by
 unfold degree_Of.f at h
 by_cases c1 : 0 ≤ a0
 ·rw [if_pos c1] at h
  by_cases c2 : a0 < 1048576
  ·rw [if_pos c2] at h
   exact degree_Of.go a0 (r1, r2) w c1 c2 h
  ·simp [c2] at h
 ·simp [c1] at h
def mix_Mix.f (a0 : Int) (a1 : Int) : Option (Int) := some (Go.bits .xor .u32 (((Go.bits .xor .u32 (((Go.bits .xor .u32 ((((a0 * 2654435761) % 4294967296) + a1) % 4294967296) (((((a0 * 2654435761) % 4294967296) + a1) % 4294967296) / 65536)) * 2246822507) % 4294967296) ((((Go.bits .xor .u32 ((((a0 * 2654435761) % 4294967296) + a1) % 4294967296) (((((a0 * 2654435761) % 4294967296) + a1) % 4294967296) / 65536)) * 2246822507) % 4294967296) / 8192)) * 3266489909) % 4294967296) ((((Go.bits .xor .u32 (((Go.bits .xor .u32 ((((a0 * 2654435761) % 4294967296) + a1) % 4294967296) (((((a0 * 2654435761) % 4294967296) + a1) % 4294967296) / 65536)) * 2246822507) % 4294967296) ((((Go.bits .xor .u32 ((((a0 * 2654435761) % 4294967296) + a1) % 4294967296) (((((a0 * 2654435761) % 4294967296) + a1) % 4294967296) / 65536)) * 2246822507) % 4294967296) / 8192)) * 3266489909) % 4294967296) / 65536))
theorem mix_Mix.calls (a0 : Int) (a1 : Int) (r : Int) (w : World) (h : mix_Mix.f a0 a1 = some r) :
  Calls Tryz.prog 107 #[.int .u32 a0, .int .u32 a1] w fun e w' => e = .returned (.int .u32 r) ∧ zz w w' := by
 have H : (some (Go.bits .xor .u32 (((Go.bits .xor .u32 (((Go.bits .xor .u32 ((((a0 * 2654435761) % 4294967296) + a1) % 4294967296) (((((a0 * 2654435761) % 4294967296) + a1) % 4294967296) / 65536)) * 2246822507) % 4294967296) ((((Go.bits .xor .u32 ((((a0 * 2654435761) % 4294967296) + a1) % 4294967296) (((((a0 * 2654435761) % 4294967296) + a1) % 4294967296) / 65536)) * 2246822507) % 4294967296) / 8192)) * 3266489909) % 4294967296) ((((Go.bits .xor .u32 (((Go.bits .xor .u32 ((((a0 * 2654435761) % 4294967296) + a1) % 4294967296) (((((a0 * 2654435761) % 4294967296) + a1) % 4294967296) / 65536)) * 2246822507) % 4294967296) ((((Go.bits .xor .u32 ((((a0 * 2654435761) % 4294967296) + a1) % 4294967296) (((((a0 * 2654435761) % 4294967296) + a1) % 4294967296) / 65536)) * 2246822507) % 4294967296) / 8192)) * 3266489909) % 4294967296) / 65536))) = some r := h
 clear h
 obtain rfl := Option.some.inj H
 go_enter Tryz.func107, Tryz.ntmps107
 go_wp2
 go_ret
 exact ⟨by first | rfl | (simp; done) | (simp [*]; done), by repeat (first | exact zz.refl _ | apply zz.step)⟩
def zwd.j0 : Nat → Int → Int → Int → Bool → Option (Int × Option Int)
 | 0, _, _, _, _ => none
 | k + 1, x0, x1, x2, x13 => if x13 = true then ((zcb.f (⟨#[109, 105, 120, 46, 66, 101, 108, 111, 119]⟩ : ByteArray) 1).bind fun t133 => (some (0, t133))) else ((mix_Mix.f x0 x1).bind fun t134 => (if ((x2) % 4294967296) = 0 then (none) else (some (wrap64 (Int.tmod t134 ((x2) % 4294967296)), none))))
def zwd.f (k : Nat) (a0 : Int) (a1 : Int) (a2 : Int) : Option (Int × Option Int) := if a2 < 1 then (zwd.j0 k a0 a1 a2 true) else (zwd.j0 k a0 a1 a2 (decide (a2 > 1048576)))
theorem zwd.calls (k : Nat) (a0 : Int) (a1 : Int) (a2 : Int) (r1 : Int) (r2 : Option Int) (w : World) (h : zwd.f k a0 a1 a2 = some (r1, r2)) :
  Calls Tryz.prog 108 #[.int .u32 a0, .int .u32 a1, .int .i64 a2] w fun e w' => e = .returned (.tuple #[.int .i64 r1, errW r2]) ∧ zz w w' := by
 have H : (if a2 < 1 then (zwd.j0 k a0 a1 a2 true) else (zwd.j0 k a0 a1 a2 (decide (a2 > 1048576)))) = some (r1, r2) := h
 clear h
 have HC4 := za.mk H
 clear H
 go_enter Tryz.func108, Tryz.ntmps108
 go_upto_region 1 with (fail)
 go_cut [13] (fun v13 wc => ∃ (kq : Nat) (x13_3 : Bool), v13 = .bool x13_3 ∧ za (zwd.j0 kq a0 a1 a2 x13_3 = some (r1, r2)) ∧ za (kq ≤ k) ∧ zz w wc)
 case first =>
  have H := HC4.out
  clear HC4
  by_cases c5 : a2 < 1
  ·rw [if_pos c5] at H
   exact absurd H (by first | (cases k <;> simp [zwd.j0, zcb.f]; done) | (cases k1 <;> simp [zwd.j0, zcb.f]; done) | (cases k2 <;> simp [zwd.j0, zcb.f]; done))
  ·rw [if_neg c5] at H
   have c5b0 : decide (a2 < 1) = false := decide_eq_false c5
   clear c5
   (first | rw [c5b0] | (simp only [i64_w, i32_w]; rw [c5b0]) | skip)
   have H' := za.mk H
   clear H
   go_wp2
   go_meet
   case rel => exact ⟨_, (decide (a2 > 1048576)), (by first | rfl | simp [*]), H', ⟨by first | omega | exact Nat.le_refl _⟩, by repeat (first | exact zz.refl _ | apply zz.step)⟩
 case rest =>
  clear HC4
  obtain ⟨kq, x13_3, rfl, HA, HJ3, ⟨mc3, rfl⟩⟩ := hcut
  cases kq with
  | zero => exact absurd HA.out (by simp [zwd.j0])
  | succ kj3 =>
   have H := HA.out
   clear HA
   simp only [zwd.j0] at H
   by_cases c6 : x13_3 = true
   ·subst c6
    have H1 : ((zcb.f (⟨#[109, 105, 120, 46, 66, 101, 108, 111, 119]⟩ : ByteArray) 1).bind fun t133 => (some (0, t133))) = some (r1, r2) := by rw [if_pos rfl] at H; exact H
    exact absurd H1 (by simp [zcb.f, zfb.f])
   ·replace c6 := Bool.eq_false_iff.mpr c6
    subst c6
    have H1 : ((mix_Mix.f a0 a1).bind fun t134 => (if ((a2) % 4294967296) = 0 then (none) else (some (wrap64 (Int.tmod t134 ((a2) % 4294967296)), none)))) = some (r1, r2) := by rw [if_neg (show ¬ (false = true) by decide)] at H; exact H
    clear H
    have H := H1
    clear H1
    replace H := Option.bind_eq_some_iff.mp H
    obtain ⟨t134, A80, H⟩ := H
    replace H : (if ((a2) % 4294967296) = 0 then (none) else (some (wrap64 (Int.tmod t134 ((a2) % 4294967296)), none))) = some (r1, r2) := H
    have A8 := za.mk A80
    clear A80
    by_cases c9 : ((a2) % 4294967296) = 0
    ·rw [if_pos c9] at H
     exact absurd H (by simp)
    ·rw [if_neg c9] at H
     have c9b0 : (((a2) % 4294967296) == 0) = false := beq_eq_false_iff_ne.mpr c9
     have c9b1 : (((a2) % 4294967296) != 0) = true := bne_iff_ne.mpr c9
     simp only [Option.some.injEq, Prod.mk.injEq] at H
     obtain ⟨rfl, rfl⟩ := H
     go_wp2_with (first | ((with_reducible refine zaa (f := 107) rfl ?_); refine zmc (some 17) rfl rfl Tryz.func107 (by kernel_rfl) rfl #[.int .u32 a0, .int .u32 a1] rfl (by (try simp only [zpa]); first | done | rfl | simp) ?_; (with_reducible refine (mix_Mix.calls a0 a1 t134 _ A8.out).mono ?_); rintro e w' ⟨rfl, ⟨nd, rfl⟩⟩; refine ⟨_, rfl, ?_⟩))
     go_ret2
     exact ⟨by first | rfl | (simp; done) | (simp [*]; done), by repeat (first | exact zz.refl _ | apply zz.step)⟩
def zuf.f (k : Nat) (a0_0 a0_1 a0_2 a0_3 a0_4 a1 a2 : Int) : Option (Int × Int × Int × Option Int) :=
 (mix_Mix.f (a2 % 4294967296) (a1 % 4294967296)).bind fun y => (zwd.f k y 0 1048576).bind fun v => if v.2.isNone = true then ((degree_Of.f v.1).bind fun d => if d.2.isNone = true then ((zwd.f k y 1 (wrap64 (a0_4 - 1))).bind fun a => if a.2.isNone = true then ((zwd.f k y 2 a0_4).bind fun b => if b.2.isNone = true then some (mn d.1 a0_3, wrap64 (1 + a.1), b.1, none) else none) else none) else none) else none
theorem zuf.calls (k : Nat) (a0_0 a0_1 a0_2 a0_3 a0_4 a1 a2 : Int) (r1 r2 r3 : Int) (r4 : Option Int) (w : World) (h : zuf.f k a0_0 a0_1 a0_2 a0_3 a0_4 a1 a2 = some (r1, r2, r3, r4)) :
  Calls Tryz.prog 96 #[.agg #[.int .i64 a0_0, .int .i64 a0_1, .int .i64 a0_2, .int .i64 a0_3, .int .i64 a0_4], .int .i64 a1, .int .i64 a2] w fun e w' => e = .returned (.tuple #[.agg #[.int .i64 r1, .int .i64 r2, .int .i64 r3], errW r4]) ∧ Below w.heap.size w w' := by
 unfold zuf.f at h
 obtain ⟨y, hy, h⟩ := Option.bind_eq_some_iff.mp h
 obtain ⟨⟨v, v2⟩, hv, h⟩ := Option.bind_eq_some_iff.mp h
 cases v2 with
 | some _ => simp at h
 | none =>
 simp only [Option.isNone_none, if_true] at h
 obtain ⟨⟨d, d2⟩, hd, h⟩ := Option.bind_eq_some_iff.mp h
 cases d2 with
 | some _ => simp at h
 | none =>
 simp only [Option.isNone_none, if_true] at h
 obtain ⟨⟨a, a2'⟩, ha, h⟩ := Option.bind_eq_some_iff.mp h
 cases a2' with
 | some _ => simp at h
 | none =>
 simp only [Option.isNone_none, if_true] at h
 obtain ⟨⟨b, b2⟩, hb, h⟩ := Option.bind_eq_some_iff.mp h
 cases b2 with
 | some _ => simp at h
 | none =>
 simp only [Option.isNone_none, if_true, Option.some.injEq, Prod.mk.injEq] at h
 obtain ⟨rfl, rfl, rfl, rfl⟩ := h
 have HY := za.mk hy
 have HV := za.mk hv
 have HD := za.mk hd
 have HA := za.mk ha
 have HBB := za.mk hb
 clear hy hv hd ha hb
 simp only [zn]
 go_enter Tryz.func96, Tryz.ntmps96
 go_wp2_with fail
 refine (mix_Mix.calls _ _ y _ HY.out).mono ?_
 rintro e w1 ⟨rfl, ⟨m1, rfl⟩⟩
 go_wp2_with fail
 refine (zwd.calls k y 0 1048576 v none _ HV.out).mono ?_
 rintro e w1 ⟨rfl, ⟨m2, rfl⟩⟩
 simp only [zn]
 go_wp2_with fail
 refine (degree_Of.calls v d none _ HD.out).mono ?_
 rintro e w1 ⟨rfl, hb⟩
 simp only [zn]
 have BP := za.mk (show w1.heap[w.heap.size]? = some (.cells #[.int .i64 a0_0, .int .i64 a0_1, .int .i64 a0_2, .int .i64 a0_3, .int .i64 a0_4] 23 (0, 0)) from zy (zh (zi (zif w _) _) _) hb)
 have BT := za.mk (show w1.heap[w.heap.size + 1]? = some (.cells #[.int .i64 0, .int .i64 0, .int .i64 0] 125 (0, 0)) from zy (zh (by have := zif (w.alloc (.cells #[.int .i64 a0_0, .int .i64 a0_1, .int .i64 a0_2, .int .i64 a0_3, .int .i64 a0_4] 23)) (.cells #[.int .i64 0, .int .i64 0, .int .i64 0] 125); simpa using this) _) hb)
 have HB := za.mk (zk (zb (ze (ze (Below.refl w.heap.size w) _) _) _) hb)
 clear hb
 have c23 : w1.cell? ⟨w.heap.size, 3, none⟩ = some (.int .i64 a0_3) := (zl BP.out 3).trans rfl
 have c24 : w1.cell? ⟨w.heap.size, 4, none⟩ = some (.int .i64 a0_4) := (zl BP.out 4).trans rfl
 go_wp2_with fail
 refine (zwd.calls k y 1 _ a none _ HA.out).mono ?_
 rintro e w2 ⟨rfl, ⟨m3, rfl⟩⟩
 simp only [zn]
 go_wp2_with fail
 refine (zwd.calls k y 2 _ b none _ HBB.out).mono ?_
 rintro e w2 ⟨rfl, ⟨m4, rfl⟩⟩
 simp only [zn]
 have t0 : w1.cell? ⟨w.heap.size + 1, 0, none⟩ = some (.int .i64 0) := (zl BT.out 0).trans rfl
 have t1 : w1.cell? ⟨w.heap.size + 1, 1, none⟩ = some (.int .i64 0) := (zl BT.out 1).trans rfl
 have t2 : w1.cell? ⟨w.heap.size + 1, 2, none⟩ = some (.int .i64 0) := (zl BT.out 2).trans rfl
 have f0 : w1.frozen? ⟨w.heap.size + 1, 0, none⟩ = false := zxb BT.out 0
 have f1 : w1.frozen? ⟨w.heap.size + 1, 1, none⟩ = false := zxb BT.out 1
 have f2 : w1.frozen? ⟨w.heap.size + 1, 2, none⟩ = false := zxb BT.out 2
 go_wp2
 rotate_left
 ·have hm : mn d a0_3 = d := by unfold mn; rw [if_neg (by omega)]
  rw [hm]
  refine bodyPost_ret (results_ct rfl _ _ (w.heap.size + 1) 125 #[.int .i64 d, .int .i64 (wrap64 (1 + a)), .int .i64 b] (0, 0) _ rfl (zzc (cs := #[.int .i64 d, .int .i64 (wrap64 (1 + a)), .int .i64 0]) (zzc (cs := #[.int .i64 d, .int .i64 0, .int .i64 0]) (zzc (cs := #[.int .i64 0, .int .i64 0, .int .i64 0]) (zh BT.out _) 0 _ rfl) 1 _ rfl) 2 _ rfl) Tryz.underlying125 rfl (by kernel_rfl)) rfl ⟨rfl, zg (zg (zg (zb HB.out _) (by omega)) (by omega)) (by omega)⟩
 ·have hm : mn d a0_3 = a0_3 := by unfold mn; rw [if_pos (by omega)]
  rw [hm]
  refine bodyPost_ret (results_ct rfl _ _ (w.heap.size + 1) 125 #[.int .i64 a0_3, .int .i64 (wrap64 (1 + a)), .int .i64 b] (0, 0) _ rfl (zzc (cs := #[.int .i64 a0_3, .int .i64 (wrap64 (1 + a)), .int .i64 0]) (zzc (cs := #[.int .i64 a0_3, .int .i64 0, .int .i64 0]) (zzc (cs := #[.int .i64 0, .int .i64 0, .int .i64 0]) (zh BT.out _) 0 _ rfl) 1 _ rfl) 2 _ rfl) Tryz.underlying125 rfl (by kernel_rfl)) rfl ⟨rfl, zg (zg (zg (zb HB.out _) (by omega)) (by omega)) (by omega)⟩
def zac.j0 : Nat → Int → Int → Bool → Int → Int → Int → Int → Int → Option (Int × Int × Int × Option Int)
 | 0, _, _, _, _, _, _, _, _ => none
 | k + 1, x1, x2, x28, x136000, x136001, x136002, x136003, x136004 => if x28 = true then ((zcb.f (⟨#[108, 116, 114, 111, 119, 46, 84, 114, 105, 112]⟩ : ByteArray) 1).bind fun t138 => (some (0, 0, 0, t138))) else ((zuf.f k x136000 x136001 x136002 x136003 x136004 x1 x2).bind fun bt139 => ((zfb.f (⟨#[108, 116, 114, 111, 119, 46, 84, 114, 105, 112]⟩ : ByteArray) bt139.2.2.2).bind fun t144 => (some (bt139.1, bt139.2.1, bt139.2.2.1, t144))))
def zac.f (k : Nat) (a0_0 : Int) (a0_1 : Int) (a0_2 : Int) (a0_3 : Int) (a0_4 : Int) (a1 : Int) (a2 : Int) : Option (Int × Int × Int × Option Int) := (zwe.f k a0_0 a0_1 a0_2 a0_3 a0_4).bind fun t137 => (if t137 = true then (if a1 < 0 then (zac.j0 k a1 a2 true a0_0 a0_1 a0_2 a0_3 a0_4) else (if a1 ≥ 65536 then (zac.j0 k a1 a2 true a0_0 a0_1 a0_2 a0_3 a0_4) else (if a2 < 0 then (zac.j0 k a1 a2 true a0_0 a0_1 a0_2 a0_3 a0_4) else (zac.j0 k a1 a2 (decide (a2 ≥ 65536)) a0_0 a0_1 a0_2 a0_3 a0_4)))) else (zac.j0 k a1 a2 true a0_0 a0_1 a0_2 a0_3 a0_4))
theorem zac.calls (k : Nat) (a0_0 : Int) (a0_1 : Int) (a0_2 : Int) (a0_3 : Int) (a0_4 : Int) (a1 : Int) (a2 : Int) (r1 : Int) (r2 : Int) (r3 : Int) (r4 : Option Int) (w : World) (h : zac.f k a0_0 a0_1 a0_2 a0_3 a0_4 a1 a2 = some (r1, r2, r3, r4)) :
  Calls Tryz.prog 73 #[.agg #[.int .i64 a0_0, .int .i64 a0_1, .int .i64 a0_2, .int .i64 a0_3, .int .i64 a0_4], .int .i64 a1, .int .i64 a2] w fun e w' => e = .returned (.tuple #[.agg #[.int .i64 r1, .int .i64 r2, .int .i64 r3], errW r4]) ∧ Below w.heap.size w w' := by
 have hu23 := Tryz.underlying23
 have hu125 := Tryz.underlying125
 have HB := za.mk (Below.refl w.heap.size w)
 have H : ((zwe.f k a0_0 a0_1 a0_2 a0_3 a0_4).bind fun t137 => (if t137 = true then (if a1 < 0 then (zac.j0 k a1 a2 true a0_0 a0_1 a0_2 a0_3 a0_4) else (if a1 ≥ 65536 then (zac.j0 k a1 a2 true a0_0 a0_1 a0_2 a0_3 a0_4) else (if a2 < 0 then (zac.j0 k a1 a2 true a0_0 a0_1 a0_2 a0_3 a0_4) else (zac.j0 k a1 a2 (decide (a2 ≥ 65536)) a0_0 a0_1 a0_2 a0_3 a0_4)))) else (zac.j0 k a1 a2 true a0_0 a0_1 a0_2 a0_3 a0_4))) = some (r1, r2, r3, r4) := h
 clear h
 have HC4 := za.mk H
 clear H
 go_enter Tryz.func73, Tryz.ntmps73
 go_upto_region 1 with (first | ((with_reducible refine zza (N := 3) rfl ?_); refine zgc ?hg (N := 3) ?hd (cs := #[.int .i64 a0_0, .int .i64 a0_1, .int .i64 a0_2, .int .i64 a0_3, .int .i64 a0_4]) (t := 23) ?hr ?_; (case hd => rfl); (case hg => rfl); (case hr => first | (go_simp; done) | (go_simp; rfl)); intro gb135 hg w5 hbox hb; have n0_ := za.mk (zk (by apply_rules only [HB.out, ze, zb, zf]) hb); have n1_ := za.mk (hbox); have n2_ := za.mk ((by rw [hg]; exact (zm (by apply_rules only [HB.out, ze, zb, zf])) : w.heap.size ≤ gb135)); have n3_ := za.mk ((by rw [hg]; exact (zm (by apply_rules only [HB.out, ze, zb, zf])) : w.heap.size ≤ gb135)); clear HB; have HB := n0_; have BK135 := n1_; have GW135 := n2_; have GE135 := n3_; clear n0_ n1_ n2_ n3_; clear hb hbox hg) | ((with_reducible refine zza (N := 6) rfl ?_); refine zgc ?hg (N := 6) ?hd (cs := #[.int .i64 0, .int .i64 0, .int .i64 0]) (t := 125) ?hr ?_; (case hd => rfl); (case hg => rfl); (case hr => first | (go_simp; done) | (go_simp; rfl)); intro gb136 hg w6 hbox hb; have n0_ := za.mk (zy (g := gb135) (o := .cells #[.int .i64 a0_0, .int .i64 a0_1, .int .i64 a0_2, .int .i64 a0_3, .int .i64 a0_4] 23 (0, 0)) (by apply_rules only [BK135.out, zh, zj, zi]) hb); have n1_ := za.mk (zk (by apply_rules only [HB.out, ze, zb, zf, fun h => zg h GE135.out]) hb); have n2_ := za.mk (hbox); have n3_ := za.mk ((by rw [hg]; exact (zm (by apply_rules only [HB.out, ze, zb, zf, fun h => zg h GE135.out])) : w.heap.size ≤ gb136)); have n4_ := za.mk ((by rw [hg]; exact (zm (by apply_rules only [HB.out, ze, zb, zf, fun h => zg h GE135.out])) : w.heap.size ≤ gb136)); have n5_ := za.mk ((by rw [hg]; exact Nat.ne_of_lt (zpe (g := gb135) (o := .cells #[.int .i64 a0_0, .int .i64 a0_1, .int .i64 a0_2, .int .i64 a0_3, .int .i64 a0_4] 23 (0, 0)) (by apply_rules only [BK135.out, zh, zj, zi])) : gb135 ≠ gb136)); have n6_ := za.mk ((by rw [hg]; exact Nat.ne_of_gt (zpe (g := gb135) (o := .cells #[.int .i64 a0_0, .int .i64 a0_1, .int .i64 a0_2, .int .i64 a0_3, .int .i64 a0_4] 23 (0, 0)) (by apply_rules only [BK135.out, zh, zj, zi])) : gb136 ≠ gb135)); clear BK135; clear HB; have BK135 := n0_; have HB := n1_; have BK136 := n2_; have GW136 := n3_; have GE136 := n4_; have NB135_136 := n5_; have NB136_135 := n6_; clear n0_ n1_ n2_ n3_ n4_ n5_ n6_; clear hb hbox hg))
 (try simp only [Act.put, List.setIfInBounds_toArray, List.set_cons_zero, List.set_cons_succ])
 go_cut [28] (fun v28 wc => ∃ (kq : Nat) (x28_3 : Bool), v28 = .bool x28_3 ∧ za (zac.j0 kq a1 a2 x28_3 a0_0 a0_1 a0_2 a0_3 a0_4 = some (r1, r2, r3, r4)) ∧ za (kq ≤ k) ∧ za (wc.heap[gb135]? = some (.cells #[.int .i64 a0_0, .int .i64 a0_1, .int .i64 a0_2, .int .i64 a0_3, .int .i64 a0_4] 23 (0, 0))) ∧ za (wc.heap[gb136]? = some (.cells #[.int .i64 0, .int .i64 0, .int .i64 0] 125 (0, 0))) ∧ za (Below w.heap.size w wc))
 case first =>
  have H := HC4.out
  clear HC4
  replace H := Option.bind_eq_some_iff.mp H
  obtain ⟨t137, A70, H⟩ := H
  replace H : (if t137 = true then (if a1 < 0 then (zac.j0 k a1 a2 true a0_0 a0_1 a0_2 a0_3 a0_4) else (if a1 ≥ 65536 then (zac.j0 k a1 a2 true a0_0 a0_1 a0_2 a0_3 a0_4) else (if a2 < 0 then (zac.j0 k a1 a2 true a0_0 a0_1 a0_2 a0_3 a0_4) else (zac.j0 k a1 a2 (decide (a2 ≥ 65536)) a0_0 a0_1 a0_2 a0_3 a0_4)))) else (zac.j0 k a1 a2 true a0_0 a0_1 a0_2 a0_3 a0_4)) = some (r1, r2, r3, r4) := H
  have A7 := za.mk A70
  clear A70
  by_cases c8 : t137 = true
  ·subst c8
   have H1 : (if a1 < 0 then (zac.j0 k a1 a2 true a0_0 a0_1 a0_2 a0_3 a0_4) else (if a1 ≥ 65536 then (zac.j0 k a1 a2 true a0_0 a0_1 a0_2 a0_3 a0_4) else (if a2 < 0 then (zac.j0 k a1 a2 true a0_0 a0_1 a0_2 a0_3 a0_4) else (zac.j0 k a1 a2 (decide (a2 ≥ 65536)) a0_0 a0_1 a0_2 a0_3 a0_4)))) = some (r1, r2, r3, r4) := by rw [if_pos rfl] at H; exact H
   clear H
   have H := H1
   clear H1
   by_cases c9 : a1 < 0
   ·rw [if_pos c9] at H
    exact absurd H (by first | (cases k <;> simp [zac.j0, zcb.f]; done) | (cases k1 <;> simp [zac.j0, zcb.f]; done) | (cases k2 <;> simp [zac.j0, zcb.f]; done))
   ·rw [if_neg c9] at H
    have c9b0 : decide (a1 < 0) = false := decide_eq_false c9
    clear c9
    (first | rw [c9b0] | (simp only [i64_w, i32_w]; rw [c9b0]) | skip)
    by_cases c13 : a1 ≥ 65536
    ·rw [if_pos c13] at H
     exact absurd H (by first | (cases k <;> simp [zac.j0, zcb.f]; done) | (cases k1 <;> simp [zac.j0, zcb.f]; done) | (cases k2 <;> simp [zac.j0, zcb.f]; done))
    ·rw [if_neg c13] at H
     have c13b0 : decide (65536 ≤ a1) = false := decide_eq_false c13
     clear c13
     by_cases c17 : a2 < 0
     ·rw [if_pos c17] at H
      exact absurd H (by first | (cases k <;> simp [zac.j0, zcb.f]; done) | (cases k1 <;> simp [zac.j0, zcb.f]; done) | (cases k2 <;> simp [zac.j0, zcb.f]; done))
     ·rw [if_neg c17] at H
      have c17b0 : decide (a2 < 0) = false := decide_eq_false c17
      clear c17
      have H' := za.mk H
      clear H
      have hnb21 := NB135_136.out
      have hnc21 := NB136_135.out
      obtain ⟨hcz22_0, hcz22_1, hcz22_2, hcz22_3, hcz22_4⟩ := cells5 BK135.out
      obtain ⟨hfz22_0, hfz22_1, hfz22_2, hfz22_3, hfz22_4⟩ := zic BK135.out
      go_wp2_with (first | ((with_reducible refine zaa (f := 95) rfl ?_); refine zmc (some 11) rfl rfl Tryz.func95 (by kernel_rfl) rfl #[.agg #[.int .i64 a0_0, .int .i64 a0_1, .int .i64 a0_2, .int .i64 a0_3, .int .i64 a0_4]] rfl (by (try simp only [zpa]); first | done | rfl | simp) ?_; (with_reducible refine (zwe.calls k a0_0 a0_1 a0_2 a0_3 a0_4 true _ A7.out).mono ?_); rintro e w23 ⟨rfl, hb⟩; refine ⟨_, rfl, ?_⟩; have n0_ := za.mk (zy (g := gb135) (o := .cells #[.int .i64 a0_0, .int .i64 a0_1, .int .i64 a0_2, .int .i64 a0_3, .int .i64 a0_4] 23 (0, 0)) (by apply_rules only [BK135.out, zh, zj, zi]) hb); have n1_ := za.mk (zy (g := gb136) (o := .cells #[.int .i64 0, .int .i64 0, .int .i64 0] 125 (0, 0)) (by apply_rules only [BK136.out, zh, zj, zi]) hb); have n2_ := za.mk (zk (by apply_rules only [HB.out, ze, zb, zf, fun h => zg h GE135.out, fun h => zg h GE136.out]) hb); clear BK135; clear BK136; clear HB; have BK135 := n0_; have BK136 := n1_; have HB := n2_; clear n0_ n1_ n2_; (try clear hb); (try clear hb2); (try clear hk); (try clear hi)))
      go_meet
      case rel => exact ⟨_, (decide (a2 ≥ 65536)), (by first | rfl | simp [*]), H', ⟨by first | omega | exact Nat.le_refl _⟩, ⟨by apply_rules only [BK135.out, zh, zj, zi]⟩, ⟨by apply_rules only [BK136.out, zh, zj, zi]⟩, ⟨by apply_rules only [HB.out, ze, zb, zf, fun h => zg h GE135.out, fun h => zg h GE136.out]⟩⟩
  ·replace c8 := Bool.eq_false_iff.mpr c8
   subst c8
   have H1 : (zac.j0 k a1 a2 true a0_0 a0_1 a0_2 a0_3 a0_4) = some (r1, r2, r3, r4) := by rw [if_neg (show ¬ (false = true) by decide)] at H; exact H
   clear H
   have H := H1
   clear H1
   have H' := za.mk H
   clear H
   have hnb24 := NB135_136.out
   have hnc24 := NB136_135.out
   obtain ⟨hcz25_0, hcz25_1, hcz25_2, hcz25_3, hcz25_4⟩ := cells5 BK135.out
   obtain ⟨hfz25_0, hfz25_1, hfz25_2, hfz25_3, hfz25_4⟩ := zic BK135.out
   go_wp2_with (first | ((with_reducible refine zaa (f := 95) rfl ?_); refine zmc (some 11) rfl rfl Tryz.func95 (by kernel_rfl) rfl #[.agg #[.int .i64 a0_0, .int .i64 a0_1, .int .i64 a0_2, .int .i64 a0_3, .int .i64 a0_4]] rfl (by (try simp only [zpa]); first | done | rfl | simp) ?_; (with_reducible refine (zwe.calls k a0_0 a0_1 a0_2 a0_3 a0_4 false _ A7.out).mono ?_); rintro e w26 ⟨rfl, hb⟩; refine ⟨_, rfl, ?_⟩; have n0_ := za.mk (zy (g := gb135) (o := .cells #[.int .i64 a0_0, .int .i64 a0_1, .int .i64 a0_2, .int .i64 a0_3, .int .i64 a0_4] 23 (0, 0)) (by apply_rules only [BK135.out, zh, zj, zi]) hb); have n1_ := za.mk (zy (g := gb136) (o := .cells #[.int .i64 0, .int .i64 0, .int .i64 0] 125 (0, 0)) (by apply_rules only [BK136.out, zh, zj, zi]) hb); have n2_ := za.mk (zk (by apply_rules only [HB.out, ze, zb, zf, fun h => zg h GE135.out, fun h => zg h GE136.out]) hb); clear BK135; clear BK136; clear HB; have BK135 := n0_; have BK136 := n1_; have HB := n2_; clear n0_ n1_ n2_; (try clear hb); (try clear hb2); (try clear hk); (try clear hi)))
   go_meet
   case rel => exact ⟨_, (true), (by first | rfl | simp [*]), H', ⟨by first | omega | exact Nat.le_refl _⟩, ⟨by apply_rules only [BK135.out, zh, zj, zi]⟩, ⟨by apply_rules only [BK136.out, zh, zj, zi]⟩, ⟨by apply_rules only [HB.out, ze, zb, zf, fun h => zg h GE135.out, fun h => zg h GE136.out]⟩⟩
 case rest =>
  clear HC4
  obtain ⟨kq, x28_3, rfl, HA, HJ3, BK135, BK136, HB⟩ := hcut
  cases kq with
  | zero => exact absurd HA.out (by simp [zac.j0])
  | succ kj3 =>
   have H := HA.out
   clear HA
   simp only [zac.j0] at H
   by_cases c27 : x28_3 = true
   ·subst c27
    have H1 : ((zcb.f (⟨#[108, 116, 114, 111, 119, 46, 84, 114, 105, 112]⟩ : ByteArray) 1).bind fun t138 => (some (0, 0, 0, t138))) = some (r1, r2, r3, r4) := by rw [if_pos rfl] at H; exact H
    exact absurd H1 (by simp [zcb.f, zfb.f])
   ·replace c27 := Bool.eq_false_iff.mpr c27
    subst c27
    have H1 : ((zuf.f kj3 a0_0 a0_1 a0_2 a0_3 a0_4 a1 a2).bind fun bt139 => ((zfb.f (⟨#[108, 116, 114, 111, 119, 46, 84, 114, 105, 112]⟩ : ByteArray) bt139.2.2.2).bind fun t144 => (some (bt139.1, bt139.2.1, bt139.2.2.1, t144)))) = some (r1, r2, r3, r4) := by rw [if_neg (show ¬ (false = true) by decide)] at H; exact H
    clear H
    have H := H1
    clear H1
    replace H := Option.bind_eq_some_iff.mp H
    obtain ⟨⟨t139, t140, t141, t142⟩, A310, H⟩ := H
    replace H : ((zfb.f (⟨#[108, 116, 114, 111, 119, 46, 84, 114, 105, 112]⟩ : ByteArray) t142).bind fun t144 => (some (t139, t140, t141, t144))) = some (r1, r2, r3, r4) := H
    have A31 := za.mk A310
    clear A310
    replace H := Option.bind_eq_some_iff.mp H
    obtain ⟨t144, A320, H⟩ := H
    replace H : (some (t139, t140, t141, t144)) = some (r1, r2, r3, r4) := H
    have A32 := za.mk A320
    clear A320
    simp only [Option.some.injEq, Prod.mk.injEq] at H
    obtain ⟨rfl, rfl, rfl, rfl⟩ := H
    have hnb33 := NB135_136.out
    have hnc33 := NB136_135.out
    obtain ⟨hcz34_0, hcz34_1, hcz34_2, hcz34_3, hcz34_4⟩ := cells5 BK135.out
    obtain ⟨hfz34_0, hfz34_1, hfz34_2, hfz34_3, hfz34_4⟩ := zic BK135.out
    try go_wp2_with (first | ((with_reducible refine zaa (f := 96) rfl ?_); refine zmc (some 35) rfl rfl Tryz.func96 (by kernel_rfl) rfl #[.agg #[.int .i64 a0_0, .int .i64 a0_1, .int .i64 a0_2, .int .i64 a0_3, .int .i64 a0_4], .int .i64 a1, .int .i64 a2] rfl (by (try simp only [zpa]); first | done | rfl | simp) ?_; (with_reducible refine (zuf.calls kj3 a0_0 a0_1 a0_2 a0_3 a0_4 a1 a2 t139 t140 t141 t142 _ A31.out).mono ?_); rintro e w35 ⟨rfl, hb⟩; refine ⟨_, rfl, ?_⟩; have n0_ := za.mk (zy (g := gb135) (o := .cells #[.int .i64 a0_0, .int .i64 a0_1, .int .i64 a0_2, .int .i64 a0_3, .int .i64 a0_4] 23 (0, 0)) (by apply_rules only [BK135.out, zh, zj, zi]) hb); have n1_ := za.mk (zy (g := gb136) (o := .cells #[.int .i64 0, .int .i64 0, .int .i64 0] 125 (0, 0)) (by apply_rules only [BK136.out, zh, zj, zi]) hb); have n2_ := za.mk (zk (by apply_rules only [HB.out, ze, zb, zf, fun h => zg h GE135.out, fun h => zg h GE136.out]) hb); clear BK135; clear BK136; clear HB; have BK135 := n0_; have BK136 := n1_; have HB := n2_; clear n0_ n1_ n2_; (try clear hb); (try clear hb2); (try clear hk); (try clear hi); (try simp only [zn, zo])) | ((with_reducible refine zza (N := 8) rfl ?_); refine zgc ?hg (N := 8) ?hd (cs := #[.int .i64 0, .int .i64 0, .int .i64 0]) (t := 125) ?hr ?_; (case hd => rfl); (case hg => rfl); (case hr => first | (go_simp; done) | (go_simp; rfl)); intro gb143 hg w36 hbox hb; have n0_ := za.mk (zy (g := gb135) (o := .cells #[.int .i64 a0_0, .int .i64 a0_1, .int .i64 a0_2, .int .i64 a0_3, .int .i64 a0_4] 23 (0, 0)) (by apply_rules only [BK135.out, zh, zj, zi]) hb); have n1_ := za.mk (zy (g := gb136) (o := .cells #[.int .i64 0, .int .i64 0, .int .i64 0] 125 (0, 0)) (by apply_rules only [BK136.out, zh, zj, zi]) hb); have n2_ := za.mk (zk (by apply_rules only [HB.out, ze, zb, zf, fun h => zg h GE135.out, fun h => zg h GE136.out]) hb); have n3_ := za.mk (hbox); have n4_ := za.mk ((by rw [hg]; exact (zm (by apply_rules only [HB.out, ze, zb, zf, fun h => zg h GE135.out, fun h => zg h GE136.out])) : w.heap.size ≤ gb143)); have n5_ := za.mk ((by rw [hg]; exact (zm (by apply_rules only [HB.out, ze, zb, zf, fun h => zg h GE135.out, fun h => zg h GE136.out])) : w.heap.size ≤ gb143)); have n6_ := za.mk ((by rw [hg]; exact Nat.ne_of_lt (zpe (g := gb135) (o := .cells #[.int .i64 a0_0, .int .i64 a0_1, .int .i64 a0_2, .int .i64 a0_3, .int .i64 a0_4] 23 (0, 0)) (by apply_rules only [BK135.out, zh, zj, zi])) : gb135 ≠ gb143)); have n7_ := za.mk ((by rw [hg]; exact Nat.ne_of_gt (zpe (g := gb135) (o := .cells #[.int .i64 a0_0, .int .i64 a0_1, .int .i64 a0_2, .int .i64 a0_3, .int .i64 a0_4] 23 (0, 0)) (by apply_rules only [BK135.out, zh, zj, zi])) : gb143 ≠ gb135)); have n8_ := za.mk ((by rw [hg]; exact Nat.ne_of_lt (zpe (g := gb136) (o := .cells #[.int .i64 0, .int .i64 0, .int .i64 0] 125 (0, 0)) (by apply_rules only [BK136.out, zh, zj, zi])) : gb136 ≠ gb143)); have n9_ := za.mk ((by rw [hg]; exact Nat.ne_of_gt (zpe (g := gb136) (o := .cells #[.int .i64 0, .int .i64 0, .int .i64 0] 125 (0, 0)) (by apply_rules only [BK136.out, zh, zj, zi])) : gb143 ≠ gb136)); clear BK135; clear BK136; clear HB; have BK135 := n0_; have BK136 := n1_; have HB := n2_; have BK143 := n3_; have GW143 := n4_; have GE143 := n5_; have NB135_143 := n6_; have NB143_135 := n7_; have NB136_143 := n8_; have NB143_136 := n9_; clear n0_ n1_ n2_ n3_ n4_ n5_ n6_ n7_ n8_ n9_; clear hb hbox hg; have hnb37 := NB143_135.out; have hnc37 := NB135_143.out; have hnb38 := NB143_136.out; have hnc38 := NB136_143.out; obtain ⟨hcz39_0, hcz39_1, hcz39_2⟩ := cells3 BK143.out; have hfz39_0 := zxb BK143.out 0; have hfz39_1 := zxb BK143.out 1; have hfz39_2 := zxb BK143.out 2))
    have n0_ : za ((((w36.setCell ⟨gb143, 0, none⟩ (.int .i64 t139)).setCell ⟨gb143, 1, none⟩ (.int .i64 t140)).setCell ⟨gb143, 2, none⟩ (.int .i64 t141)).heap[gb135]? = some (.cells #[.int .i64 a0_0, .int .i64 a0_1, .int .i64 a0_2, .int .i64 a0_3, .int .i64 a0_4] 23 (0, 0))) := ⟨by (with_reducible repeat (first | refine zh ?_ _ | refine zj ?_ | refine zi ?_ _)); refine zre ?_ NB135_143.out _; (with_reducible repeat (first | refine zh ?_ _ | refine zj ?_ | refine zi ?_ _)); refine zre ?_ NB135_143.out _; (with_reducible repeat (first | refine zh ?_ _ | refine zj ?_ | refine zi ?_ _)); refine zre ?_ NB135_143.out _; (with_reducible repeat (first | refine zh ?_ _ | refine zj ?_ | refine zi ?_ _)); exact BK135.out⟩
    have n1_ : za ((((w36.setCell ⟨gb143, 0, none⟩ (.int .i64 t139)).setCell ⟨gb143, 1, none⟩ (.int .i64 t140)).setCell ⟨gb143, 2, none⟩ (.int .i64 t141)).heap[gb136]? = some (.cells #[.int .i64 0, .int .i64 0, .int .i64 0] 125 (0, 0))) := ⟨by (with_reducible repeat (first | refine zh ?_ _ | refine zj ?_ | refine zi ?_ _)); refine zre ?_ NB136_143.out _; (with_reducible repeat (first | refine zh ?_ _ | refine zj ?_ | refine zi ?_ _)); refine zre ?_ NB136_143.out _; (with_reducible repeat (first | refine zh ?_ _ | refine zj ?_ | refine zi ?_ _)); refine zre ?_ NB136_143.out _; (with_reducible repeat (first | refine zh ?_ _ | refine zj ?_ | refine zi ?_ _)); exact BK136.out⟩
    have n2_ : za ((((w36.setCell ⟨gb143, 0, none⟩ (.int .i64 t139)).setCell ⟨gb143, 1, none⟩ (.int .i64 t140)).setCell ⟨gb143, 2, none⟩ (.int .i64 t141)).heap[gb143]? = some (.cells #[.int .i64 t139, .int .i64 t140, .int .i64 t141] 125 (0, 0))) := ⟨by (with_reducible repeat (first | refine zh ?_ _ | refine zj ?_ | refine zi ?_ _)); refine zzc (cs := #[.int .i64 t139, .int .i64 t140, .int .i64 0]) ?_ 2 _ rfl; (with_reducible repeat (first | refine zh ?_ _ | refine zj ?_ | refine zi ?_ _)); refine zzc (cs := #[.int .i64 t139, .int .i64 0, .int .i64 0]) ?_ 1 _ rfl; (with_reducible repeat (first | refine zh ?_ _ | refine zj ?_ | refine zi ?_ _)); refine zzc (cs := #[.int .i64 0, .int .i64 0, .int .i64 0]) ?_ 0 _ rfl; (with_reducible repeat (first | refine zh ?_ _ | refine zj ?_ | refine zi ?_ _)); exact BK143.out⟩
    have n3_ : za (Below w.heap.size w (((w36.setCell ⟨gb143, 0, none⟩ (.int .i64 t139)).setCell ⟨gb143, 1, none⟩ (.int .i64 t140)).setCell ⟨gb143, 2, none⟩ (.int .i64 t141))) := ⟨by apply_rules only [HB.out, ze, zb, zf, fun h => zg h GE135.out, fun h => zg h GE136.out, fun h => zg h GE143.out]⟩
    (try clear BK135)
    (try clear BK136)
    (try clear BK143)
    (try clear HB)
    generalize (((w36.setCell ⟨gb143, 0, none⟩ (.int .i64 t139)).setCell ⟨gb143, 1, none⟩ (.int .i64 t140)).setCell ⟨gb143, 2, none⟩ (.int .i64 t141)) = w40 at n0_ n1_ n2_ n3_ ⊢
    have BK135 := n0_
    have BK136 := n1_
    have BK143 := n2_
    have HB := n3_
    clear n0_ n1_ n2_ n3_
    have n0_ := za.mk (zj BK135.out)
    have n1_ := za.mk (zj BK136.out)
    have n2_ := za.mk (zj BK143.out)
    have n3_ := za.mk (zf HB.out)
    clear BK135
    clear BK136
    clear BK143
    clear HB
    have BK135 := n0_
    have BK136 := n1_
    have BK143 := n2_
    have HB := n3_
    clear n0_ n1_ n2_ n3_
    have CA32 := fun W => zfb.calls (⟨#[108, 116, 114, 111, 119, 46, 84, 114, 105, 112]⟩ : ByteArray) t142 t144 W A32.out
    try simp only [zn, zo] at CA32
    refine zsf (n := 5) (S := fun w' => w'.cell? ⟨gb143, 0, none⟩ = some (.int .i64 t139) ∧ w'.cell? ⟨gb143, 1, none⟩ = some (.int .i64 t140) ∧ w'.cell? ⟨gb143, 2, none⟩ = some (.int .i64 t141)) (ds := []) #[false, false, false, false, false] (by kernel_rfl) rfl rfl ⟨(zl BK143.out 0).trans rfl, (zl BK143.out 1).trans rfl, (zl BK143.out 2).trans rfl⟩ (fun hHeld => ?_)
    generalize w40.drew = w41 at BK135 BK136 BK143 HB hHeld ⊢
    refine pure_ (i := 1) (N := some 39) (v := ?_) (a' := ?_) #[false, true, false, false, false] rfl rfl (by kernel_rfl) (fun _ _ _ h => h) (Or.inl ⟨by rfl, ?_⟩) ?_ ?_
    rotate_left
    ·intro w'
     go_simp
     with_reducible rfl
    rotate_left
    ·simp only [Act.put, zw]
     rfl
    refine take_ (i := 0) (N := some 38) (v := ?_) (a' := ?_) #[true, true, false, false, false] rfl rfl (by kernel_rfl) (fun _ _ _ h => h) (Or.inl ⟨by rfl, ?_⟩) hHeld ?_ ?_
    rotate_left
    ·rintro w' ⟨s0, s1, s2⟩
     go_simp
     with_reducible rfl
    rotate_left
    ·simp only [Act.put, zw]
     rfl
    refine one_ (i := 2) (N := some 40) #[true, true, true, false, false] rfl rfl (by kernel_rfl) (by decide) (fun K hK => ?_)
    refine goes_ Tryz.func33 (by kernel_rfl) rfl #[.string (⟨#[108, 116, 114, 111, 119, 46, 84, 114, 105, 112]⟩ : ByteArray), errW t142] (by rfl) rfl rfl (by (try simp only [zpa]); first | done | rfl | simp) ?_
    with_reducible refine (CA32 _).mono ?_
    rintro e w' ⟨rfl, ⟨nd, rfl⟩⟩
    refine ⟨_, rfl, ?_⟩
    (try simp only [zn, zo])
    refine hK.out _ _ ⟨(zl BK143.out 0).trans rfl, (zl BK143.out 1).trans rfl, (zl BK143.out 2).trans rfl⟩ (fun hHeld => ?_)
    clear hK K
    refine norm_ (a' := ?_) ?_ ?_
    rotate_left
    ·show Act.put _ (some 40) _ = _
     simp only [Act.put, zw]
     rfl
    refine one_ (i := 3) (N := none) #[true, true, true, true, false] rfl rfl (by kernel_rfl) (by decide) (fun K hK => ?_)
    have hs42 : w41.cell? ⟨gb136, 0, none⟩ = some (.int .i64 0) := (zl BK136.out 0).trans rfl
    have hfs42 := zxb BK136.out 0
    have hns42_0 := NB135_136.out
    have hns42_2 := NB143_136.out
    have hms42_0 := NB136_135.out
    have hms42_2 := NB136_143.out
    have hs43 : w41.cell? ⟨gb136, 1, none⟩ = some (.int .i64 0) := (zl BK136.out 1).trans rfl
    have hfs43 := zxb BK136.out 1
    have hns43_0 := NB135_136.out
    have hns43_2 := NB143_136.out
    have hms43_0 := NB136_135.out
    have hms43_2 := NB136_143.out
    have hs44 : w41.cell? ⟨gb136, 2, none⟩ = some (.int .i64 0) := (zl BK136.out 2).trans rfl
    have hfs44 := zxb BK136.out 2
    have hns44_0 := NB135_136.out
    have hns44_2 := NB143_136.out
    have hms44_0 := NB136_135.out
    have hms44_2 := NB136_143.out
    refine skip_ (w1 := ?_) (by rfl) rfl ?_ ?_
    rotate_left
    ·go_simp
     rfl
    refine hK.out _ _ ⟨((cell_far (p := ⟨gb136, _, none⟩) NB143_136.out _).trans (((cell_far (p := ⟨gb136, _, none⟩) NB143_136.out _).trans (((cell_far (p := ⟨gb136, _, none⟩) NB143_136.out _).trans (hHeld.1)))))), ((cell_far (p := ⟨gb136, _, none⟩) NB143_136.out _).trans (((cell_far (p := ⟨gb136, _, none⟩) NB143_136.out _).trans (((cell_far (p := ⟨gb136, _, none⟩) NB143_136.out _).trans (hHeld.2.1)))))), ((cell_far (p := ⟨gb136, _, none⟩) NB143_136.out _).trans (((cell_far (p := ⟨gb136, _, none⟩) NB143_136.out _).trans (((cell_far (p := ⟨gb136, _, none⟩) NB143_136.out _).trans (hHeld.2.2))))))⟩ (fun hHeld => ?_)
    clear hK K
    refine pure_ (i := 4) (N := some 7) (v := ?_) (a' := ?_) #[true, true, true, true, true] rfl rfl (by kernel_rfl) (fun _ _ _ h => h) (Or.inl ⟨by rfl, ?_⟩) ?_ ?_
    rotate_left
    ·intro w'
     go_simp
     with_reducible rfl
    rotate_left
    ·simp only [Act.put, zw]
     rfl
    refine done_ (by kernel_rfl) ?_
    try go_wp2
    refine bodyPost_ret (results_ct rfl _ _ gb136 125 #[.int .i64 t139, .int .i64 t140, .int .i64 t141] (0, 0) _ rfl (by (with_reducible repeat (first | refine zh ?_ _ | refine zj ?_ | refine zi ?_ _)); refine zzc (cs := #[.int .i64 t139, .int .i64 t140, .int .i64 0]) ?_ 2 _ rfl; (with_reducible repeat (first | refine zh ?_ _ | refine zj ?_ | refine zi ?_ _)); refine zzc (cs := #[.int .i64 t139, .int .i64 0, .int .i64 0]) ?_ 1 _ rfl; (with_reducible repeat (first | refine zh ?_ _ | refine zj ?_ | refine zi ?_ _)); refine zzc (cs := #[.int .i64 0, .int .i64 0, .int .i64 0]) ?_ 0 _ rfl; (with_reducible repeat (first | refine zh ?_ _ | refine zj ?_ | refine zi ?_ _)); exact BK136.out) Tryz.underlying125 rfl (by kernel_rfl)) rfl ?_
    exact ⟨by first | rfl | (simp [zn, zo] <;> rfl) | (simp [*, zn, zo] <;> rfl), by apply_rules only [HB.out, ze, zb, zf, fun h => zg h GE135.out, fun h => zg h GE136.out, fun h => zg h GE143.out]⟩
end Go.Proofs.YtnglindlofmknaaGreatDoor.B
end
