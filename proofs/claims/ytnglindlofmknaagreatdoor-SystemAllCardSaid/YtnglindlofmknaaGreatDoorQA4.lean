
import Derived.Test.YtnglindlofmknaaGreatDoorQA1
import Derived.Test.YtnglindlofmknaaGreatDoorQA2
import Derived.Test.YtnglindlofmknaaGreatDoorQA3
section
set_option maxHeartbeats 8000000
set_option maxRecDepth 100000
namespace Go.Proofs.YtnglindlofmknaaGreatDoor.B
open Go.RowKit Go.Proofs.YW.PrintWords Go.Proofs.YW.PrintLast Go.Proofs.YW.PrintMore
attribute [local go_sem] zva zta zmb zlb zia zha zua zsa
set_option linter.unusedVariables false
set_option linter.unusedSimpArgs false
mutual
def zq.l0 : Nat → List Int → List (List Int) → Int → Int → Int → Int → Int → Int → Option ((List (List Int)))
 | 0, _, _, _, _, _, _, _, _ => none
 | k + 1, x3, x4, x5, x419000, x419001, x419002, x419003, x419004 => if x5 < x419001 then (zq.l1 k x3 x4 x5 (([] : List Int)) 0 x419000 x419001 x419002 x419003 x419004) else (zq.l2 k x3 x4 0 x419000 x419001 x419002 x419003 x419004)
def zq.l1 : Nat → List Int → List (List Int) → Int → List Int → Int → Int → Int → Int → Int → Int → Option ((List (List Int)))
 | 0, _, _, _, _, _, _, _, _, _, _ => none
 | k + 1, x3, x4, x5, x6, x7, x419000, x419001, x419002, x419003, x419004 => if x7 < (wrap64 (x419000 + x419001)) then ((zoe.f x419000 x419001 x419002 x419003 x419004 x5 x7).bind fun t428 => (if t428 = true then (if x6.length < 17592186044416 then (zq.l1 k x3 x4 x5 (x6 ++ [x7]) (wrap64 (x7 + 1)) x419000 x419001 x419002 x419003 x419004) else (none)) else (zq.l1 k x3 x4 x5 x6 (wrap64 (x7 + 1)) x419000 x419001 x419002 x419003 x419004))) else (if x4.length < 5864062014805 then (zq.l0 k x3 (x4 ++ [x6]) (wrap64 (x5 + 1)) x419000 x419001 x419002 x419003 x419004) else (none))
def zq.l2 : Nat → List Int → List (List Int) → Int → Int → Int → Int → Int → Int → Option ((List (List Int)))
 | 0, _, _, _, _, _, _, _, _ => none
 | k + 1, x3, x4, x8, x419000, x419001, x419002, x419003, x419004 => if x8 < x419002 then (zq.l3 k x3 x4 x8 (([] : List Int)) 0 x419000 x419001 x419002 x419003 x419004) else (some x4)
def zq.l3 : Nat → List Int → List (List Int) → Int → List Int → Int → Int → Int → Int → Int → Int → Option ((List (List Int)))
 | 0, _, _, _, _, _, _, _, _, _, _ => none
 | k + 1, x3, x4, x8, x9, x10, x419000, x419001, x419002, x419003, x419004 => if x10 < (wrap64 (x419000 + x419001)) then (if 0 ≤ x10 then (if x10 < (x3.length : Int) then ((zsd.f (IntKind.u64.wrap (rd x3 x10)) x8).bind fun t439 => (if t439 = true then (if x9.length < 17592186044416 then (zq.l3 k x3 x4 x8 (x9 ++ [x10]) (wrap64 (x10 + 1)) x419000 x419001 x419002 x419003 x419004) else (none)) else (zq.l3 k x3 x4 x8 x9 (wrap64 (x10 + 1)) x419000 x419001 x419002 x419003 x419004))) else (none)) else (none)) else (if x9.length < 17592186044416 then (if x4.length < 5864062014805 then (zq.l2 k x3 (x4 ++ [(x9 ++ [wrap64 ((wrap64 (x419000 + x419001)) + x8)])]) (wrap64 (x8 + 1)) x419000 x419001 x419002 x419003 x419004) else (none)) else (none))
end
def zq.f (k : Nat) (a0_0 : Int) (a0_1 : Int) (a0_2 : Int) (a0_3 : Int) (a0_4 : Int) : Option ((List (List Int))) := (zwa.f k (wrap64 (Int.tdiv (wrap64 (a0_2 + 1)) 2)) (wrap64 (a0_0 + a0_1))).bind fun t419 => (zq.l0 k t419 (([] : List (List Int))) 0 a0_0 a0_1 a0_2 a0_3 a0_4)
theorem zq.calls (k : Nat) (a0_0 : Int) (a0_1 : Int) (a0_2 : Int) (a0_3 : Int) (a0_4 : Int) (r : List (List Int)) (w : World) (h : zq.f k a0_0 a0_1 a0_2 a0_3 a0_4 = some r) :
  Calls Tryz.prog 69 #[.agg #[.int .i64 a0_0, .int .i64 a0_1, .int .i64 a0_2, .int .i64 a0_3, .int .i64 a0_4]] w fun e w' => ∃ v0_ : Value, e = .returned (v0_) ∧ Kd.S (Kd.slice 3 (Kd.int .i64)) 31 w' w.heap.size (fun _ => True) v0_ r ∧ Below w.heap.size w w' := by
 have hu23 := Tryz.underlying23
 have HB := za.mk (Below.refl w.heap.size w)
 have H : ((zwa.f k (wrap64 (Int.tdiv (wrap64 (a0_2 + 1)) 2)) (wrap64 (a0_0 + a0_1))).bind fun t419 => (zq.l0 k t419 (([] : List (List Int))) 0 a0_0 a0_1 a0_2 a0_3 a0_4)) = some r := h
 clear h
 replace H := Option.bind_eq_some_iff.mp H
 obtain ⟨t419, A20, H⟩ := H
 replace H : (zq.l0 k t419 (([] : List (List Int))) 0 a0_0 a0_1 a0_2 a0_3 a0_4) = some r := H
 have A2 := za.mk A20
 clear A20
 obtain ⟨y422, hy422⟩ : ∃ y_ : List (List Int), y_ = (([] : List (List Int))) := ⟨_, rfl⟩
 replace H : (zq.l0 k t419 y422 0 a0_0 a0_1 a0_2 a0_3 a0_4) = some r := by first | (rw [hy422]; with_reducible exact H) | (have H2_ := (Option.bind_some _ _).symm.trans H; rw [hy422]; with_reducible exact H2_) | (have H2_ := (Option.bind_some _ _).symm.trans H; with_reducible exact H2_) | with_reducible exact H | (rw [hy422]; exact H) | exact H
 have Ny422 := za.mk hy422
 clear hy422
 have H' := za.mk H
 clear H
 go_enter Tryz.func69, Tryz.ntmps69
 go_wp2_with (first | ((with_reducible refine zza (N := 1) rfl ?_); refine zgc ?hg (N := 1) ?hd (cs := #[.int .i64 a0_0, .int .i64 a0_1, .int .i64 a0_2, .int .i64 a0_3, .int .i64 a0_4]) (t := 23) ?hr ?_; (case hd => rfl); (case hg => rfl); (case hr => first | (go_simp; done) | (go_simp; rfl)); intro gb418 hg w3 hbox hb; have n0_ := za.mk (zk (by apply_rules only [HB.out, ze, zb, zf]) hb); have n1_ := za.mk (hbox); have n2_ := za.mk ((by rw [hg]; exact (zm (by apply_rules only [HB.out, ze, zb, zf])) : w.heap.size ≤ gb418)); have n3_ := za.mk ((by rw [hg]; exact (zm (by apply_rules only [HB.out, ze, zb, zf])) : w.heap.size ≤ gb418)); clear HB; have HB := n0_; have BK418 := n1_; have GW418 := n2_; have GE418 := n3_; clear n0_ n1_ n2_ n3_; clear hb hbox hg; obtain ⟨hcz4_0, hcz4_1, hcz4_2, hcz4_3, hcz4_4⟩ := cells5 BK418.out; obtain ⟨hfz4_0, hfz4_1, hfz4_2, hfz4_3, hfz4_4⟩ := zic BK418.out) | ((with_reducible refine zaa (f := 93) rfl ?_); refine zmc (some 20) rfl rfl Tryz.func93 (by kernel_rfl) rfl #[.int .i64 (wrap64 (Int.tdiv (wrap64 (a0_2 + 1)) 2)), .int .i64 (wrap64 (a0_0 + a0_1))] rfl (by (try simp only [zpa]); first | done | rfl | simp) ?_; (with_reducible refine (zwa.calls k (wrap64 (Int.tdiv (wrap64 (a0_2 + 1)) 2)) (wrap64 (a0_0 + a0_1)) t419 _ A2.out).mono ?_); rintro e w5 ⟨v420, rfl, ho0, hb⟩; refine ⟨_, rfl, ?_⟩; have n0_ := za.mk (Kd.zcd ho0 (zm (by apply_rules only [HB.out, ze, zb, zf, fun h => zg h GE418.out]))); have n1_ := za.mk (zy (g := gb418) (o := .cells #[.int .i64 a0_0, .int .i64 a0_1, .int .i64 a0_2, .int .i64 a0_3, .int .i64 a0_4] 23 (0, 0)) (by apply_rules only [BK418.out, zh, zj, zi]) hb); have n2_ := za.mk (zk (by apply_rules only [HB.out, ze, zb, zf, fun h => zg h GE418.out]) hb); clear BK418; clear HB; have HO421 := n0_; have BK418 := n1_; have HB := n2_; clear n0_ n1_ n2_; (try clear hb); (try clear hb2); (try clear hk); (try clear hi); (try clear ho0)) | ((with_reducible refine zza (N := 21) rfl ?_); refine Kd.S_lit (Kd.slice 3 (Kd.int .i64)) _ 31 ?hg (N := 21) ?hd (xs := ([] : List (List Int))) (inner := []) (ok := fun _ => True) (okp := fun _ => True) ?hr ?hp (fun _ hk => hk) trivial (Below.refl _ _) (Nat.le_refl _) (by simp) ?_; (case hd => rfl); (case hg => rfl); (case hr => first | (go_simp; done) | (go_simp; rfl)); (case hp => exact (Reps.none _ _)); intro v423 w6 ho7 hb hg_ hnew_; clear hg_ hnew_; (first | rw [← Ny422.out] at ho7 | (simp only [Int.reduceToNat] at ho7; rw [← Ny422.out] at ho7)); have n0_ := za.mk (Kd.zvd (by apply_rules only [HO421.out, Kd.zka, Kd.zja, Kd.zya]) hb); have n1_ := za.mk (Kd.S_lower (Kd.S_new' ho7 (Kd.R_lt (by apply_rules only [HO421.out, Kd.zka, Kd.zja, Kd.zya]))) (zm (by apply_rules only [HB.out, ze, zb, zf, fun h => zg h GE418.out]))); have n2_ := za.mk (zy (g := gb418) (o := .cells #[.int .i64 a0_0, .int .i64 a0_1, .int .i64 a0_2, .int .i64 a0_3, .int .i64 a0_4] 23 (0, 0)) (by apply_rules only [BK418.out, zh, zj, zi]) hb); have n3_ := za.mk (zk (by apply_rules only [HB.out, ze, zb, zf, fun h => zg h GE418.out]) hb); clear HO421; clear BK418; clear HB; have HO421 := n0_; have HO424 := n1_; have BK418 := n2_; have HB := n3_; clear n0_ n1_ n2_ n3_; clear hb ho7))
 go_loopg [4, 5] k (fun kq v4 v5 w' => ∃ (x4_1 : List (List Int)) (x5_1 : Int), v5 = .int .i64 x5_1 ∧ za (zq.l0 kq t419 x4_1 x5_1 a0_0 a0_1 a0_2 a0_3 a0_4 = some r) ∧ za (kq ≤ k) ∧ za (Kd.R (Kd.int .i64) 3 w' w.heap.size (fun _ => True) v420 t419) ∧ za (Kd.S (Kd.slice 3 (Kd.int .i64)) 31 w' w.heap.size (fun k_ => some k_ ≠ (v420 : Value).ownBlock) v4 x4_1) ∧ za (w'.heap[gb418]? = some (.cells #[.int .i64 a0_0, .int .i64 a0_1, .int .i64 a0_2, .int .i64 a0_3, .int .i64 a0_4] 23 (0, 0))) ∧ za (Below w.heap.size w w'))
 case atStart => exact ⟨(y422), (0), (by first | rfl | simp [*]), H', ⟨Nat.le_refl _⟩, ⟨by apply_rules only [HO421.out, Kd.zka, Kd.zja, Kd.zya]⟩, ⟨by (with_reducible repeat (first | apply Kd.zid | apply Kd.zed | apply Kd.zae)); exact Kd.S_mono HO424.out (fun _ hk => hk.2)⟩, ⟨by apply_rules only [BK418.out, zh, zj, zi]⟩, ⟨by apply_rules only [HB.out, ze, zb, zf, fun h => zg h GE418.out]⟩⟩
 case round =>
  clear H'
  obtain ⟨x4_1, x5_1, rfl, HA, HK1, HO_3, HO_4, BK418, HB⟩ := hrel
  cases gk with
  | zero => exact absurd HA.out (by simp [zq.l0])
  | succ k1 =>
   have H := HA.out
   clear HA
   simp only [zq.l0] at H
   by_cases c8 : x5_1 < a0_1
   ·rw [if_pos c8] at H
    have c8b0 : decide (x5_1 < a0_1) = true := decide_eq_true c8
    clear c8
    obtain ⟨y425, hy425⟩ : ∃ y_ : List Int, y_ = (([] : List Int)) := ⟨_, rfl⟩
    replace H : (zq.l1 k1 t419 x4_1 x5_1 y425 0 a0_0 a0_1 a0_2 a0_3 a0_4) = some r := by first | (rw [hy425]; with_reducible exact H) | (have H2_ := (Option.bind_some _ _).symm.trans H; rw [hy425]; with_reducible exact H2_) | (have H2_ := (Option.bind_some _ _).symm.trans H; with_reducible exact H2_) | with_reducible exact H | (rw [hy425]; exact H) | exact H
    have Ny425 := za.mk hy425
    clear hy425
    have H' := za.mk H
    clear H
    obtain ⟨hcz9_0, hcz9_1, hcz9_2, hcz9_3, hcz9_4⟩ := cells5 BK418.out
    obtain ⟨hfz9_0, hfz9_1, hfz9_2, hfz9_3, hfz9_4⟩ := zic BK418.out
    go_wp2_with (first | ((with_reducible refine zza (N := 28) rfl ?_); refine Kd.R_lit (Kd.int .i64) _ 3 ?hg (N := 28) ?hd (xs := ([] : List Int)) (inner := []) (ok := fun _ => True) (okp := fun _ => True) ?hr ?hp (fun _ hk => hk) trivial (Below.refl _ _) (Nat.le_refl _) (by simp) ?_; (case hd => rfl); (case hg => rfl); (case hr => first | (go_simp; done) | (go_simp; rfl)); (case hp => exact (Reps.none _ _)); intro v426 w10 ho11 hb hg_ hnew_; clear hg_ hnew_; (first | rw [← Ny425.out] at ho11 | (simp only [Int.reduceToNat] at ho11; rw [← Ny425.out] at ho11)); have n0_ := za.mk (Kd.R_elder' (by apply_rules only [HO_3.out, Kd.zka, Kd.zja, Kd.zya]) (Kd.zjf ho11) hb); have n1_ := za.mk (Kd.S_elder' (by apply_rules only [HO_4.out, Kd.zid, Kd.zed, Kd.zae]) (Kd.zjf ho11) hb); have n2_ := za.mk (Kd.zcd (Kd.R_new' ho11 (Kd.R_lt (by apply_rules only [HO_3.out, Kd.zka, Kd.zja, Kd.zya]))) (zm (by apply_rules only [HB.out, ze, zb, zf, fun h => zg h GE418.out]))); have n3_ := za.mk (zy (g := gb418) (o := .cells #[.int .i64 a0_0, .int .i64 a0_1, .int .i64 a0_2, .int .i64 a0_3, .int .i64 a0_4] 23 (0, 0)) (by apply_rules only [BK418.out, zh, zj, zi]) hb); have n4_ := za.mk (zk (by apply_rules only [HB.out, ze, zb, zf, fun h => zg h GE418.out]) hb); clear HO_3; clear HO_4; clear BK418; clear HB; have HO_3 := n0_; have HO_4 := n1_; have HO427 := n2_; have BK418 := n3_; have HB := n4_; clear n0_ n1_ n2_ n3_ n4_; clear hb ho11))
    go_loopg [6, 7] k1 (fun kq v6 v7 w' => ∃ (x6_2 : List Int) (x7_2 : Int), v7 = .int .i64 x7_2 ∧ za (zq.l1 kq t419 x4_1 x5_1 x6_2 x7_2 a0_0 a0_1 a0_2 a0_3 a0_4 = some r) ∧ za (kq ≤ k1) ∧ za (Kd.R (Kd.int .i64) 3 w' w.heap.size (fun k_ => some k_ ≠ (v6 : Value).ownBlock) v420 t419) ∧ za (Kd.S (Kd.slice 3 (Kd.int .i64)) 31 w' w.heap.size (fun k_ => some k_ ≠ (v420 : Value).ownBlock ∧ some k_ ≠ (v6 : Value).ownBlock) u4 x4_1) ∧ za (Kd.R (Kd.int .i64) 3 w' w.heap.size (fun k_ => some k_ ≠ (v420 : Value).ownBlock) v6 x6_2) ∧ za (w'.heap[gb418]? = some (.cells #[.int .i64 a0_0, .int .i64 a0_1, .int .i64 a0_2, .int .i64 a0_3, .int .i64 a0_4] 23 (0, 0))) ∧ za (Below w.heap.size w w'))
    case atStart => exact ⟨(y425), (0), (by first | rfl | simp [*]), H', ⟨Nat.le_refl _⟩, ⟨by (with_reducible repeat (first | apply Kd.zka | apply Kd.zja | apply Kd.zya)); exact Kd.zuc HO_3.out (fun _ hk => hk.2)⟩, ⟨by apply_rules only [HO_4.out, Kd.zid, Kd.zed, Kd.zae]⟩, ⟨by (with_reducible repeat (first | apply Kd.zka | apply Kd.zja | apply Kd.zya)); exact Kd.zuc HO427.out (fun _ hk => hk.2)⟩, ⟨by apply_rules only [BK418.out, zh, zj, zi]⟩, ⟨by apply_rules only [HB.out, ze, zb, zf, fun h => zg h GE418.out]⟩⟩
    case round =>
     clear H'
     obtain ⟨x6_2, x7_2, rfl, HA, HK2, HO_3, HO_4, HO_6, BK418, HB⟩ := hrel
     cases gk with
     | zero => exact absurd HA.out (by simp [zq.l1])
     | succ k2 =>
      have H := HA.out
      clear HA
      simp only [zq.l1] at H
      by_cases c12 : x7_2 < (wrap64 (a0_0 + a0_1))
      ·rw [if_pos c12] at H
       have c12b0 : decide (x7_2 < (wrap64 (a0_0 + a0_1))) = true := decide_eq_true c12
       clear c12
       replace H := Option.bind_eq_some_iff.mp H
       obtain ⟨t428, A130, H⟩ := H
       replace H : (if t428 = true then (if x6_2.length < 17592186044416 then (zq.l1 k2 t419 x4_1 x5_1 (x6_2 ++ [x7_2]) (wrap64 (x7_2 + 1)) a0_0 a0_1 a0_2 a0_3 a0_4) else (none)) else (zq.l1 k2 t419 x4_1 x5_1 x6_2 (wrap64 (x7_2 + 1)) a0_0 a0_1 a0_2 a0_3 a0_4)) = some r := H
       have A13 := za.mk A130
       clear A130
       by_cases c14 : t428 = true
       ·subst c14
        have H1 : (if x6_2.length < 17592186044416 then (zq.l1 k2 t419 x4_1 x5_1 (x6_2 ++ [x7_2]) (wrap64 (x7_2 + 1)) a0_0 a0_1 a0_2 a0_3 a0_4) else (none)) = some r := by rw [if_pos rfl] at H; exact H
        clear H
        have H := H1
        clear H1
        by_cases c15 : x6_2.length < 17592186044416
        ·rw [if_pos c15] at H
         have LMc15 := za.mk c15
         clear c15
         obtain ⟨y429, hy429⟩ : ∃ y_ : List Int, y_ = (x6_2 ++ [x7_2]) := ⟨_, rfl⟩
         replace H : (zq.l1 k2 t419 x4_1 x5_1 y429 (wrap64 (x7_2 + 1)) a0_0 a0_1 a0_2 a0_3 a0_4) = some r := by first | (rw [hy429]; with_reducible exact H) | (have H2_ := (Option.bind_some _ _).symm.trans H; rw [hy429]; with_reducible exact H2_) | (have H2_ := (Option.bind_some _ _).symm.trans H; with_reducible exact H2_) | with_reducible exact H | (rw [hy429]; exact H) | exact H
         have Ny429 := za.mk hy429
         clear hy429
         have H' := za.mk H
         clear H
         obtain ⟨hcz16_0, hcz16_1, hcz16_2, hcz16_3, hcz16_4⟩ := cells5 BK418.out
         obtain ⟨hfz16_0, hfz16_1, hfz16_2, hfz16_3, hfz16_4⟩ := zic BK418.out
         go_wp2_with (first | ((with_reducible refine zaa (f := 94) rfl ?_); refine zmc (some 41) rfl rfl Tryz.func94 (by kernel_rfl) rfl #[.agg #[.int .i64 a0_0, .int .i64 a0_1, .int .i64 a0_2, .int .i64 a0_3, .int .i64 a0_4], .int .i64 x5_1, .int .i64 x7_2] rfl (by (try simp only [zpa]); first | done | rfl | simp) ?_; (with_reducible refine (zoe.calls a0_0 a0_1 a0_2 a0_3 a0_4 x5_1 x7_2 true _ A13.out).mono ?_); rintro e w17 ⟨rfl, hb⟩; refine ⟨_, rfl, ?_⟩; have n0_ := za.mk (Kd.zvd (by apply_rules only [HO_3.out, Kd.zka, Kd.zja, Kd.zya]) hb); have n1_ := za.mk (Kd.S_below (by apply_rules only [HO_4.out, Kd.zid, Kd.zed, Kd.zae]) hb); have n2_ := za.mk (Kd.zvd (by apply_rules only [HO_6.out, Kd.zka, Kd.zja, Kd.zya]) hb); have n3_ := za.mk (zy (g := gb418) (o := .cells #[.int .i64 a0_0, .int .i64 a0_1, .int .i64 a0_2, .int .i64 a0_3, .int .i64 a0_4] 23 (0, 0)) (by apply_rules only [BK418.out, zh, zj, zi]) hb); have n4_ := za.mk (zk (by apply_rules only [HB.out, ze, zb, zf, fun h => zg h GE418.out]) hb); clear HO_3; clear HO_4; clear HO_6; clear BK418; clear HB; have HO_3 := n0_; have HO_4 := n1_; have HO_6 := n2_; have BK418 := n3_; have HB := n4_; clear n0_ n1_ n2_ n3_ n4_; (try clear hb); (try clear hb2); (try clear hk); (try clear hi)) | ((with_reducible refine zdd (b := .append) (xs := #[.tmp 42, .tmp 44]) rfl ?_); at_builtin; refine Kd.zof (Kd.int .i64) (w0 := w) w.heap.size rfl (.tmp 42) (.tmp 44) 31 3 (.int .i64 0) 8 rfl Tryz.underlying31 info3 rfl (by decide) (by omega) u6 x6_2 x7_2 [.int .i64 x7_2] (fun k_ => some k_ ≠ (v420 : Value).ownBlock) (fun _ => False) rfl rfl ?aP (fun _ hk => hk.elim) ?aF ?aO ?aB ?aS ?aL ?_; (case aP => exact rfl); (case aB => exact (by apply_rules only [HB.out, ze, zb, zf, fun h => zg h GE418.out])); (case aF => exact (fun k_ hk => Kd.fresh' (Kd.R_lt (by apply_rules only [HO_3.out, Kd.zka, Kd.zja, Kd.zya])) k_ hk)); (case aO => exact (by apply_rules only [HO_6.out, Kd.zka, Kd.zja, Kd.zya])); (case aS => exact (zm (by apply_rules only [HB.out, ze, zb, zf, fun h => zg h GE418.out]))); (case aL => have := LMc15.out; omega); intro v430 w18 ho hb hg hat; rw [← Ny429.out] at ho; have n0_ := za.mk (Kd.R_after (ok := (fun _ => True)) (by (with_reducible repeat (first | apply Kd.zka | apply Kd.zja | apply Kd.zya)); exact Kd.zuc HO_3.out (fun _ hk => ⟨trivial, hk⟩)) hg hat); have n1_ := za.mk (Kd.S_after (ok := (fun k_ => some k_ ≠ (v420 : Value).ownBlock)) (by apply_rules only [HO_4.out, Kd.zid, Kd.zed, Kd.zae]) hg hat); have n2_ := za.mk (zwc (g := gb418) (o := .cells #[.int .i64 a0_0, .int .i64 a0_1, .int .i64 a0_2, .int .i64 a0_3, .int .i64 a0_4] 23 (0, 0)) (by apply_rules only [BK418.out, zh, zj, zi]) hg (Kd.R_ne HO_6.out BK418.out (by decide))); have n3_ := za.mk (hb); have n4_ := za.mk (ho); clear HO_3; clear HO_4; clear BK418; clear HB; clear HO_6; have HO_3 := n0_; have HO_4 := n1_; have BK418 := n2_; have HB := n3_; have HO431 := n4_; clear n0_ n1_ n2_ n3_ n4_; clear ho hb hg hat))
         go_roundg k2
         case measure => have := HK1.out; have := HK2.out; omega
         case rel => exact ⟨(y429), (wrap64 (x7_2 + 1)), (by first | rfl | simp [*]), H', ⟨by have := HK1.out; have := HK2.out; omega⟩, ⟨by (with_reducible repeat (first | apply Kd.zka | apply Kd.zja | apply Kd.zya)); exact Kd.zuc HO_3.out (fun _ hk => hk.2)⟩, ⟨by apply_rules only [HO_4.out, Kd.zid, Kd.zed, Kd.zae]⟩, ⟨by apply_rules only [HO431.out, Kd.zka, Kd.zja, Kd.zya]⟩, ⟨by apply_rules only [BK418.out, zh, zj, zi]⟩, ⟨by apply_rules only [HB.out, ze, zb, zf, fun h => zg h GE418.out]⟩⟩
        ·rw [if_neg c15] at H
         exact absurd H (by simp)
       ·replace c14 := Bool.eq_false_iff.mpr c14
        subst c14
        have H1 : (zq.l1 k2 t419 x4_1 x5_1 x6_2 (wrap64 (x7_2 + 1)) a0_0 a0_1 a0_2 a0_3 a0_4) = some r := by rw [if_neg (show ¬ (false = true) by decide)] at H; exact H
        clear H
        have H := H1
        clear H1
        have H' := za.mk H
        clear H
        obtain ⟨hcz19_0, hcz19_1, hcz19_2, hcz19_3, hcz19_4⟩ := cells5 BK418.out
        obtain ⟨hfz19_0, hfz19_1, hfz19_2, hfz19_3, hfz19_4⟩ := zic BK418.out
        go_wp2_with (first | ((with_reducible refine zaa (f := 94) rfl ?_); refine zmc (some 41) rfl rfl Tryz.func94 (by kernel_rfl) rfl #[.agg #[.int .i64 a0_0, .int .i64 a0_1, .int .i64 a0_2, .int .i64 a0_3, .int .i64 a0_4], .int .i64 x5_1, .int .i64 x7_2] rfl (by (try simp only [zpa]); first | done | rfl | simp) ?_; (with_reducible refine (zoe.calls a0_0 a0_1 a0_2 a0_3 a0_4 x5_1 x7_2 false _ A13.out).mono ?_); rintro e w20 ⟨rfl, hb⟩; refine ⟨_, rfl, ?_⟩; have n0_ := za.mk (Kd.zvd (by apply_rules only [HO_3.out, Kd.zka, Kd.zja, Kd.zya]) hb); have n1_ := za.mk (Kd.S_below (by apply_rules only [HO_4.out, Kd.zid, Kd.zed, Kd.zae]) hb); have n2_ := za.mk (Kd.zvd (by apply_rules only [HO_6.out, Kd.zka, Kd.zja, Kd.zya]) hb); have n3_ := za.mk (zy (g := gb418) (o := .cells #[.int .i64 a0_0, .int .i64 a0_1, .int .i64 a0_2, .int .i64 a0_3, .int .i64 a0_4] 23 (0, 0)) (by apply_rules only [BK418.out, zh, zj, zi]) hb); have n4_ := za.mk (zk (by apply_rules only [HB.out, ze, zb, zf, fun h => zg h GE418.out]) hb); clear HO_3; clear HO_4; clear HO_6; clear BK418; clear HB; have HO_3 := n0_; have HO_4 := n1_; have HO_6 := n2_; have BK418 := n3_; have HB := n4_; clear n0_ n1_ n2_ n3_ n4_; (try clear hb); (try clear hb2); (try clear hk); (try clear hi)))
        go_roundg k2
        case measure => have := HK1.out; have := HK2.out; omega
        case rel => exact ⟨(x6_2), (wrap64 (x7_2 + 1)), (by first | rfl | simp [*]), H', ⟨by have := HK1.out; have := HK2.out; omega⟩, ⟨by apply_rules only [HO_3.out, Kd.zka, Kd.zja, Kd.zya]⟩, ⟨by apply_rules only [HO_4.out, Kd.zid, Kd.zed, Kd.zae]⟩, ⟨by apply_rules only [HO_6.out, Kd.zka, Kd.zja, Kd.zya]⟩, ⟨by apply_rules only [BK418.out, zh, zj, zi]⟩, ⟨by apply_rules only [HB.out, ze, zb, zf, fun h => zg h GE418.out]⟩⟩
      ·rw [if_neg c12] at H
       have c12b0 : decide (x7_2 < (wrap64 (a0_0 + a0_1))) = false := decide_eq_false c12
       clear c12
       by_cases c21 : x4_1.length < 5864062014805
       ·rw [if_pos c21] at H
        have LMc21 := za.mk c21
        clear c21
        obtain ⟨y432, hy432⟩ : ∃ y_ : List (List Int), y_ = (x4_1 ++ [x6_2]) := ⟨_, rfl⟩
        replace H : (zq.l0 k2 t419 y432 (wrap64 (x5_1 + 1)) a0_0 a0_1 a0_2 a0_3 a0_4) = some r := by first | (rw [hy432]; with_reducible exact H) | (have H2_ := (Option.bind_some _ _).symm.trans H; rw [hy432]; with_reducible exact H2_) | (have H2_ := (Option.bind_some _ _).symm.trans H; with_reducible exact H2_) | with_reducible exact H | (rw [hy432]; exact H) | exact H
        have Ny432 := za.mk hy432
        clear hy432
        have H' := za.mk H
        clear H
        obtain ⟨hcz22_0, hcz22_1, hcz22_2, hcz22_3, hcz22_4⟩ := cells5 BK418.out
        obtain ⟨hfz22_0, hfz22_1, hfz22_2, hfz22_3, hfz22_4⟩ := zic BK418.out
        obtain ⟨Ao24, co24, eo24⟩ := Kd.zsc HO_6.out
        subst eo24
        go_wp2_with (first | ((with_reducible refine zdd (b := .append) (xs := #[.tmp 46, .tmp 48]) rfl ?_); at_builtin; refine Kd.S_append (Kd.slice 3 (Kd.int .i64)) (w0 := w) w.heap.size rfl (.tmp 46) (.tmp 48) 82 31 (.slice none 0 0) 24 rfl Tryz.underlying82 info31 rfl (by decide) (by omega) u4 x4_1 x6_2 [.slice Ao24 x6_2.length co24] (fun k_ => some k_ ≠ (v420 : Value).ownBlock) (fun k_ => some k_ = (.slice Ao24 x6_2.length co24 : Value).ownBlock) rfl rfl ?aP (fun k_ hk_ => ((Kd.zuc (ok' := fun k_ => ((fun k_ => some k_ ≠ (v420 : Value).ownBlock)) k_ ∧ some k_ ≠ (u4 : Value).ownBlock) (Kd.zfe (HO_6.out) (Kd.S_typed HO_4.out) (by decide)) (fun k_ hk => ⟨hk.1, hk.2⟩))).1 k_ hk_.symm) ?aF ?aO ?aB ?aS ?aL ?_; (case aP => exact Kd.M_row (Kd.zuc (Kd.R_tight rfl (Kd.zuc (ok' := fun k_ => ((fun k_ => some k_ ≠ (v420 : Value).ownBlock)) k_ ∧ some k_ ≠ (u4 : Value).ownBlock) (Kd.zfe (HO_6.out) (Kd.S_typed HO_4.out) (by decide)) (fun k_ hk => ⟨hk.1, hk.2⟩))) (fun _ h_ => h_))); (case aB => exact (by apply_rules only [HB.out, ze, zb, zf, fun h => zg h GE418.out])); (case aF => exact (fun k_ hk => Kd.fresh' (Kd.R_lt (by apply_rules only [HO_3.out, Kd.zka, Kd.zja, Kd.zya])) k_ hk)); (case aO => exact (by (with_reducible repeat (first | apply Kd.zid | apply Kd.zed | apply Kd.zae)); exact Kd.S_mono HO_4.out (fun k_ hk => ⟨hk.1, fun e_ => hk.2 e_⟩))); (case aS => exact (zm (by apply_rules only [HB.out, ze, zb, zf, fun h => zg h GE418.out]))); (case aL => have := LMc21.out; omega); intro v433 w23 ho hb hg hat; rw [← Ny432.out] at ho; have n0_ := za.mk (Kd.R_over' (by apply_rules only [HO_3.out, Kd.zka, Kd.zja, Kd.zya]) (Kd.S_typed (by apply_rules only [HO_4.out, Kd.zid, Kd.zed, Kd.zae])) (by decide) hg); have n1_ := za.mk (zwc (g := gb418) (o := .cells #[.int .i64 a0_0, .int .i64 a0_1, .int .i64 a0_2, .int .i64 a0_3, .int .i64 a0_4] 23 (0, 0)) (by apply_rules only [BK418.out, zh, zj, zi]) hg (Kd.S_ne HO_4.out BK418.out (by decide))); have n2_ := za.mk (hb); have n3_ := za.mk (ho); clear HO_3; clear BK418; clear HB; clear HO_4; clear HO_6; have HO_3 := n0_; have BK418 := n1_; have HB := n2_; have HO434 := n3_; clear n0_ n1_ n2_ n3_; clear ho hb hg hat))
        go_roundg k2
        case measure => have := HK1.out; have := HK2.out; omega
        case rel => exact ⟨(y432), (wrap64 (x5_1 + 1)), (by first | rfl | simp [*]), H', ⟨by have := HK1.out; have := HK2.out; omega⟩, ⟨by (with_reducible repeat (first | apply Kd.zka | apply Kd.zja | apply Kd.zya)); exact Kd.zuc HO_3.out (fun _ hk => trivial)⟩, ⟨by apply_rules only [HO434.out, Kd.zid, Kd.zed, Kd.zae]⟩, ⟨by apply_rules only [BK418.out, zh, zj, zi]⟩, ⟨by apply_rules only [HB.out, ze, zb, zf, fun h => zg h GE418.out]⟩⟩
       ·rw [if_neg c21] at H
        exact absurd H (by simp)
   ·rw [if_neg c8] at H
    have c8b0 : decide (x5_1 < a0_1) = false := decide_eq_false c8
    clear c8
    have H' := za.mk H
    clear H
    obtain ⟨hcz25_0, hcz25_1, hcz25_2, hcz25_3, hcz25_4⟩ := cells5 BK418.out
    obtain ⟨hfz25_0, hfz25_1, hfz25_2, hfz25_3, hfz25_4⟩ := zic BK418.out
    go_wp2
    go_loopg [4, 8] k1 (fun kq v4 v8 w' => ∃ (x4_2 : List (List Int)) (x8_2 : Int), v8 = .int .i64 x8_2 ∧ za (zq.l2 kq t419 x4_2 x8_2 a0_0 a0_1 a0_2 a0_3 a0_4 = some r) ∧ za (kq ≤ k1) ∧ za (Kd.R (Kd.int .i64) 3 w' w.heap.size (fun _ => True) v420 t419) ∧ za (Kd.S (Kd.slice 3 (Kd.int .i64)) 31 w' w.heap.size (fun k_ => some k_ ≠ (v420 : Value).ownBlock) v4 x4_2) ∧ za (w'.heap[gb418]? = some (.cells #[.int .i64 a0_0, .int .i64 a0_1, .int .i64 a0_2, .int .i64 a0_3, .int .i64 a0_4] 23 (0, 0))) ∧ za (Below w.heap.size w w'))
    case atStart => exact ⟨(x4_1), (0), (by first | rfl | simp [*]), H', ⟨Nat.le_refl _⟩, ⟨by apply_rules only [HO_3.out, Kd.zka, Kd.zja, Kd.zya]⟩, ⟨by apply_rules only [HO_4.out, Kd.zid, Kd.zed, Kd.zae]⟩, ⟨by apply_rules only [BK418.out, zh, zj, zi]⟩, ⟨by apply_rules only [HB.out, ze, zb, zf, fun h => zg h GE418.out]⟩⟩
    case round =>
     clear H'
     obtain ⟨x4_2, x8_2, rfl, HA, HK2, HO_3, HO_4, BK418, HB⟩ := hrel
     cases gk with
     | zero => exact absurd HA.out (by simp [zq.l2])
     | succ k2 =>
      have H := HA.out
      clear HA
      simp only [zq.l2] at H
      by_cases c26 : x8_2 < a0_2
      ·rw [if_pos c26] at H
       have c26b0 : decide (x8_2 < a0_2) = true := decide_eq_true c26
       clear c26
       obtain ⟨y435, hy435⟩ : ∃ y_ : List Int, y_ = (([] : List Int)) := ⟨_, rfl⟩
       replace H : (zq.l3 k2 t419 x4_2 x8_2 y435 0 a0_0 a0_1 a0_2 a0_3 a0_4) = some r := by first | (rw [hy435]; with_reducible exact H) | (have H2_ := (Option.bind_some _ _).symm.trans H; rw [hy435]; with_reducible exact H2_) | (have H2_ := (Option.bind_some _ _).symm.trans H; with_reducible exact H2_) | with_reducible exact H | (rw [hy435]; exact H) | exact H
       have Ny435 := za.mk hy435
       clear hy435
       have H' := za.mk H
       clear H
       obtain ⟨hcz27_0, hcz27_1, hcz27_2, hcz27_3, hcz27_4⟩ := cells5 BK418.out
       obtain ⟨hfz27_0, hfz27_1, hfz27_2, hfz27_3, hfz27_4⟩ := zic BK418.out
       go_wp2_with (first | ((with_reducible refine zza (N := 56) rfl ?_); refine Kd.R_lit (Kd.int .i64) _ 3 ?hg (N := 56) ?hd (xs := ([] : List Int)) (inner := []) (ok := fun _ => True) (okp := fun _ => True) ?hr ?hp (fun _ hk => hk) trivial (Below.refl _ _) (Nat.le_refl _) (by simp) ?_; (case hd => rfl); (case hg => rfl); (case hr => first | (go_simp; done) | (go_simp; rfl)); (case hp => exact (Reps.none _ _)); intro v436 w28 ho29 hb hg_ hnew_; clear hg_ hnew_; (first | rw [← Ny435.out] at ho29 | (simp only [Int.reduceToNat] at ho29; rw [← Ny435.out] at ho29)); have n0_ := za.mk (Kd.R_elder' (by apply_rules only [HO_3.out, Kd.zka, Kd.zja, Kd.zya]) (Kd.zjf ho29) hb); have n1_ := za.mk (Kd.S_elder' (by apply_rules only [HO_4.out, Kd.zid, Kd.zed, Kd.zae]) (Kd.zjf ho29) hb); have n2_ := za.mk (Kd.zcd (Kd.R_new' ho29 (Kd.R_lt (by apply_rules only [HO_3.out, Kd.zka, Kd.zja, Kd.zya]))) (zm (by apply_rules only [HB.out, ze, zb, zf, fun h => zg h GE418.out]))); have n3_ := za.mk (zy (g := gb418) (o := .cells #[.int .i64 a0_0, .int .i64 a0_1, .int .i64 a0_2, .int .i64 a0_3, .int .i64 a0_4] 23 (0, 0)) (by apply_rules only [BK418.out, zh, zj, zi]) hb); have n4_ := za.mk (zk (by apply_rules only [HB.out, ze, zb, zf, fun h => zg h GE418.out]) hb); clear HO_3; clear HO_4; clear BK418; clear HB; have HO_3 := n0_; have HO_4 := n1_; have HO437 := n2_; have BK418 := n3_; have HB := n4_; clear n0_ n1_ n2_ n3_ n4_; clear hb ho29))
       go_loopg [9, 10] k2 (fun kq v9 v10 w' => ∃ (x9_3 : List Int) (x10_3 : Int), v10 = .int .i64 x10_3 ∧ za (zq.l3 kq t419 x4_2 x8_2 x9_3 x10_3 a0_0 a0_1 a0_2 a0_3 a0_4 = some r) ∧ za (kq ≤ k2) ∧ za (Kd.R (Kd.int .i64) 3 w' w.heap.size (fun k_ => some k_ ≠ (v9 : Value).ownBlock) v420 t419) ∧ za (Kd.S (Kd.slice 3 (Kd.int .i64)) 31 w' w.heap.size (fun k_ => some k_ ≠ (v420 : Value).ownBlock ∧ some k_ ≠ (v9 : Value).ownBlock) u4 x4_2) ∧ za (Kd.R (Kd.int .i64) 3 w' w.heap.size (fun k_ => some k_ ≠ (v420 : Value).ownBlock) v9 x9_3) ∧ za (w'.heap[gb418]? = some (.cells #[.int .i64 a0_0, .int .i64 a0_1, .int .i64 a0_2, .int .i64 a0_3, .int .i64 a0_4] 23 (0, 0))) ∧ za (Below w.heap.size w w'))
       case atStart => exact ⟨(y435), (0), (by first | rfl | simp [*]), H', ⟨Nat.le_refl _⟩, ⟨by (with_reducible repeat (first | apply Kd.zka | apply Kd.zja | apply Kd.zya)); exact Kd.zuc HO_3.out (fun _ hk => hk.2)⟩, ⟨by apply_rules only [HO_4.out, Kd.zid, Kd.zed, Kd.zae]⟩, ⟨by (with_reducible repeat (first | apply Kd.zka | apply Kd.zja | apply Kd.zya)); exact Kd.zuc HO437.out (fun _ hk => hk.2)⟩, ⟨by apply_rules only [BK418.out, zh, zj, zi]⟩, ⟨by apply_rules only [HB.out, ze, zb, zf, fun h => zg h GE418.out]⟩⟩
       case round =>
        clear H'
        obtain ⟨x9_3, x10_3, rfl, HA, HK3, HO_3, HO_4, HO_9, BK418, HB⟩ := hrel
        cases gk with
        | zero => exact absurd HA.out (by simp [zq.l3])
        | succ k3 =>
         have H := HA.out
         clear HA
         simp only [zq.l3] at H
         by_cases c30 : x10_3 < (wrap64 (a0_0 + a0_1))
         ·rw [if_pos c30] at H
          have c30b0 : decide (x10_3 < (wrap64 (a0_0 + a0_1))) = true := decide_eq_true c30
          clear c30
          by_cases c31 : 0 ≤ x10_3
          ·rw [if_pos c31] at H
           have c31b0 : decide (0 ≤ x10_3) = true := decide_eq_true c31
           clear c31
           by_cases c32 : x10_3 < (t419.length : Int)
           ·rw [if_pos c32] at H
            have c32b0 : decide (x10_3 < (t419.length : Int)) = true := decide_eq_true c32
            clear c32
            replace H := Option.bind_eq_some_iff.mp H
            obtain ⟨t439, A330, H⟩ := H
            replace H : (if t439 = true then (if x9_3.length < 17592186044416 then (zq.l3 k3 t419 x4_2 x8_2 (x9_3 ++ [x10_3]) (wrap64 (x10_3 + 1)) a0_0 a0_1 a0_2 a0_3 a0_4) else (none)) else (zq.l3 k3 t419 x4_2 x8_2 x9_3 (wrap64 (x10_3 + 1)) a0_0 a0_1 a0_2 a0_3 a0_4)) = some r := H
            have A33 := za.mk A330
            clear A330
            by_cases c34 : t439 = true
            ·subst c34
             have H1 : (if x9_3.length < 17592186044416 then (zq.l3 k3 t419 x4_2 x8_2 (x9_3 ++ [x10_3]) (wrap64 (x10_3 + 1)) a0_0 a0_1 a0_2 a0_3 a0_4) else (none)) = some r := by rw [if_pos rfl] at H; exact H
             clear H
             have H := H1
             clear H1
             by_cases c35 : x9_3.length < 17592186044416
             ·rw [if_pos c35] at H
              have LMc35 := za.mk c35
              clear c35
              obtain ⟨y440, hy440⟩ : ∃ y_ : List Int, y_ = (x9_3 ++ [x10_3]) := ⟨_, rfl⟩
              replace H : (zq.l3 k3 t419 x4_2 x8_2 y440 (wrap64 (x10_3 + 1)) a0_0 a0_1 a0_2 a0_3 a0_4) = some r := by first | (rw [hy440]; with_reducible exact H) | (have H2_ := (Option.bind_some _ _).symm.trans H; rw [hy440]; with_reducible exact H2_) | (have H2_ := (Option.bind_some _ _).symm.trans H; with_reducible exact H2_) | with_reducible exact H | (rw [hy440]; exact H) | exact H
              have Ny440 := za.mk hy440
              clear hy440
              have H' := za.mk H
              clear H
              obtain ⟨hcz36_0, hcz36_1, hcz36_2, hcz36_3, hcz36_4⟩ := cells5 BK418.out
              obtain ⟨hfz36_0, hfz36_1, hfz36_2, hfz36_3, hfz36_4⟩ := zic BK418.out
              obtain ⟨Ao37, co37, eo37⟩ := Kd.zsc HO_3.out
              subst eo37
              have p438 : 0 ≤ (x10_3 : Int) := of_decide_eq_true (by first | (with_reducible assumption) | assumption)
              have q438 : x10_3 < (t419.length : Int) := of_decide_eq_true (by first | (with_reducible assumption) | assumption)
              obtain ⟨ad438, e438, hx438_0⟩ := Kd.zqe (Kd.zsb HO_3.out).2.2 x10_3 p438 q438
              cases e438
              replace p438 := eq_true p438
              replace q438 := eq_true q438
              go_wp2_with (first | ((with_reducible refine zaa (f := 87) rfl ?_); refine zmc (some 72) rfl rfl Tryz.func87 (by kernel_rfl) rfl #[.int .u64 (IntKind.u64.wrap (rd t419 x10_3)), .int .i64 x8_2] rfl (by (try simp only [zpa]); first | done | rfl | simp) ?_; (with_reducible refine (zsd.calls (IntKind.u64.wrap (rd t419 x10_3)) x8_2 true _ A33.out).mono ?_); rintro e w' ⟨rfl, ⟨nd, rfl⟩⟩; refine ⟨_, rfl, ?_⟩) | ((with_reducible refine zdd (b := .append) (xs := #[.tmp 73, .tmp 75]) rfl ?_); at_builtin; refine Kd.zof (Kd.int .i64) (w0 := w) w.heap.size rfl (.tmp 73) (.tmp 75) 31 3 (.int .i64 0) 8 rfl Tryz.underlying31 info3 rfl (by decide) (by omega) u9 x9_3 x10_3 [.int .i64 x10_3] (fun k_ => some k_ ≠ (.slice (some ad438) t419.length co37 : Value).ownBlock) (fun _ => False) rfl rfl ?aP (fun _ hk => hk.elim) ?aF ?aO ?aB ?aS ?aL ?_; (case aP => exact rfl); (case aB => exact (by apply_rules only [HB.out, ze, zb, zf, fun h => zg h GE418.out])); (case aF => exact (fun k_ hk => Kd.fresh' (Kd.R_lt (by apply_rules only [HO_3.out, Kd.zka, Kd.zja, Kd.zya])) k_ hk)); (case aO => exact (by apply_rules only [HO_9.out, Kd.zka, Kd.zja, Kd.zya])); (case aS => exact (zm (by apply_rules only [HB.out, ze, zb, zf, fun h => zg h GE418.out]))); (case aL => have := LMc35.out; omega); intro v441 w38 ho hb hg hat; rw [← Ny440.out] at ho; have n0_ := za.mk (Kd.R_after (ok := (fun _ => True)) (by (with_reducible repeat (first | apply Kd.zka | apply Kd.zja | apply Kd.zya)); exact Kd.zuc HO_3.out (fun _ hk => ⟨trivial, hk⟩)) hg hat); have n1_ := za.mk (Kd.S_after (ok := (fun k_ => some k_ ≠ (.slice (some ad438) t419.length co37 : Value).ownBlock)) (by apply_rules only [HO_4.out, Kd.zid, Kd.zed, Kd.zae]) hg hat); have n2_ := za.mk (zwc (g := gb418) (o := .cells #[.int .i64 a0_0, .int .i64 a0_1, .int .i64 a0_2, .int .i64 a0_3, .int .i64 a0_4] 23 (0, 0)) (by apply_rules only [BK418.out, zh, zj, zi]) hg (Kd.R_ne HO_9.out BK418.out (by decide))); have n3_ := za.mk (hb); have n4_ := za.mk (ho); clear HO_3; clear HO_4; clear BK418; clear HB; clear HO_9; have HO_3 := n0_; have HO_4 := n1_; have BK418 := n2_; have HB := n3_; have HO442 := n4_; clear n0_ n1_ n2_ n3_ n4_; clear ho hb hg hat))
              go_roundg k3
              case measure => have := HK1.out; have := HK2.out; have := HK3.out; omega
              case rel => exact ⟨(y440), (wrap64 (x10_3 + 1)), (by first | rfl | simp [*]), H', ⟨by have := HK1.out; have := HK2.out; have := HK3.out; omega⟩, ⟨by (with_reducible repeat (first | apply Kd.zka | apply Kd.zja | apply Kd.zya)); exact Kd.zuc HO_3.out (fun _ hk => hk.2)⟩, ⟨by apply_rules only [HO_4.out, Kd.zid, Kd.zed, Kd.zae]⟩, ⟨by apply_rules only [HO442.out, Kd.zka, Kd.zja, Kd.zya]⟩, ⟨by apply_rules only [BK418.out, zh, zj, zi]⟩, ⟨by apply_rules only [HB.out, ze, zb, zf, fun h => zg h GE418.out]⟩⟩
             ·rw [if_neg c35] at H
              exact absurd H (by simp)
            ·replace c34 := Bool.eq_false_iff.mpr c34
             subst c34
             have H1 : (zq.l3 k3 t419 x4_2 x8_2 x9_3 (wrap64 (x10_3 + 1)) a0_0 a0_1 a0_2 a0_3 a0_4) = some r := by rw [if_neg (show ¬ (false = true) by decide)] at H; exact H
             clear H
             have H := H1
             clear H1
             have H' := za.mk H
             clear H
             obtain ⟨hcz39_0, hcz39_1, hcz39_2, hcz39_3, hcz39_4⟩ := cells5 BK418.out
             obtain ⟨hfz39_0, hfz39_1, hfz39_2, hfz39_3, hfz39_4⟩ := zic BK418.out
             obtain ⟨Ao40, co40, eo40⟩ := Kd.zsc HO_3.out
             subst eo40
             have p438 : 0 ≤ (x10_3 : Int) := of_decide_eq_true (by first | (with_reducible assumption) | assumption)
             have q438 : x10_3 < (t419.length : Int) := of_decide_eq_true (by first | (with_reducible assumption) | assumption)
             obtain ⟨ad438, e438, hx438_0⟩ := Kd.zqe (Kd.zsb HO_3.out).2.2 x10_3 p438 q438
             cases e438
             replace p438 := eq_true p438
             replace q438 := eq_true q438
             go_wp2_with (first | ((with_reducible refine zaa (f := 87) rfl ?_); refine zmc (some 72) rfl rfl Tryz.func87 (by kernel_rfl) rfl #[.int .u64 (IntKind.u64.wrap (rd t419 x10_3)), .int .i64 x8_2] rfl (by (try simp only [zpa]); first | done | rfl | simp) ?_; (with_reducible refine (zsd.calls (IntKind.u64.wrap (rd t419 x10_3)) x8_2 false _ A33.out).mono ?_); rintro e w' ⟨rfl, ⟨nd, rfl⟩⟩; refine ⟨_, rfl, ?_⟩))
             go_roundg k3
             case measure => have := HK1.out; have := HK2.out; have := HK3.out; omega
             case rel => exact ⟨(x9_3), (wrap64 (x10_3 + 1)), (by first | rfl | simp [*]), H', ⟨by have := HK1.out; have := HK2.out; have := HK3.out; omega⟩, ⟨by apply_rules only [HO_3.out, Kd.zka, Kd.zja, Kd.zya]⟩, ⟨by apply_rules only [HO_4.out, Kd.zid, Kd.zed, Kd.zae]⟩, ⟨by apply_rules only [HO_9.out, Kd.zka, Kd.zja, Kd.zya]⟩, ⟨by apply_rules only [BK418.out, zh, zj, zi]⟩, ⟨by apply_rules only [HB.out, ze, zb, zf, fun h => zg h GE418.out]⟩⟩
           ·rw [if_neg c32] at H
            exact absurd H (by simp)
          ·rw [if_neg c31] at H
           exact absurd H (by simp)
         ·rw [if_neg c30] at H
          have c30b0 : decide (x10_3 < (wrap64 (a0_0 + a0_1))) = false := decide_eq_false c30
          clear c30
          by_cases c41 : x9_3.length < 17592186044416
          ·rw [if_pos c41] at H
           have LMc41 := za.mk c41
           clear c41
           obtain ⟨y443, hy443⟩ : ∃ y_ : List Int, y_ = (x9_3 ++ [wrap64 ((wrap64 (a0_0 + a0_1)) + x8_2)]) := ⟨_, rfl⟩
           replace H : (if x4_2.length < 5864062014805 then (zq.l2 k3 t419 (x4_2 ++ [y443]) (wrap64 (x8_2 + 1)) a0_0 a0_1 a0_2 a0_3 a0_4) else (none)) = some r := by first | (rw [hy443]; with_reducible exact H) | (have H2_ := (Option.bind_some _ _).symm.trans H; rw [hy443]; with_reducible exact H2_) | (have H2_ := (Option.bind_some _ _).symm.trans H; with_reducible exact H2_) | with_reducible exact H | (rw [hy443]; exact H) | exact H
           have Ny443 := za.mk hy443
           clear hy443
           by_cases c42 : x4_2.length < 5864062014805
           ·rw [if_pos c42] at H
            have LMc42 := za.mk c42
            clear c42
            obtain ⟨y446, hy446⟩ : ∃ y_ : List (List Int), y_ = (x4_2 ++ [y443]) := ⟨_, rfl⟩
            replace H : (zq.l2 k3 t419 y446 (wrap64 (x8_2 + 1)) a0_0 a0_1 a0_2 a0_3 a0_4) = some r := by first | (rw [hy446]; with_reducible exact H) | (have H2_ := (Option.bind_some _ _).symm.trans H; rw [hy446]; with_reducible exact H2_) | (have H2_ := (Option.bind_some _ _).symm.trans H; with_reducible exact H2_) | with_reducible exact H | (rw [hy446]; exact H) | exact H
            have Ny446 := za.mk hy446
            clear hy446
            have H' := za.mk H
            clear H
            obtain ⟨hcz43_0, hcz43_1, hcz43_2, hcz43_3, hcz43_4⟩ := cells5 BK418.out
            obtain ⟨hfz43_0, hfz43_1, hfz43_2, hfz43_3, hfz43_4⟩ := zic BK418.out
            go_wp2_with (first | ((with_reducible refine zdd (b := .append) (xs := #[.tmp 78, .tmp 86]) rfl ?_); at_builtin; refine Kd.zof (Kd.int .i64) (w0 := w) w.heap.size rfl (.tmp 78) (.tmp 86) 31 3 (.int .i64 0) 8 rfl Tryz.underlying31 info3 rfl (by decide) (by omega) u9 x9_3 (wrap64 ((wrap64 (a0_0 + a0_1)) + x8_2)) [.int .i64 (wrap64 ((wrap64 (a0_0 + a0_1)) + x8_2))] (fun k_ => some k_ ≠ (v420 : Value).ownBlock) (fun _ => False) rfl rfl ?aP (fun _ hk => hk.elim) ?aF ?aO ?aB ?aS ?aL ?_; (case aP => exact rfl); (case aB => exact (by apply_rules only [HB.out, ze, zb, zf, fun h => zg h GE418.out])); (case aF => exact (fun k_ hk => Kd.fresh' (Kd.R_lt (by apply_rules only [HO_3.out, Kd.zka, Kd.zja, Kd.zya])) k_ hk)); (case aO => exact (by apply_rules only [HO_9.out, Kd.zka, Kd.zja, Kd.zya])); (case aS => exact (zm (by apply_rules only [HB.out, ze, zb, zf, fun h => zg h GE418.out]))); (case aL => have := LMc41.out; omega); intro v444 w44 ho hb hg hat; rw [← Ny443.out] at ho; have n0_ := za.mk (Kd.R_after (ok := (fun _ => True)) (by (with_reducible repeat (first | apply Kd.zka | apply Kd.zja | apply Kd.zya)); exact Kd.zuc HO_3.out (fun _ hk => ⟨trivial, hk⟩)) hg hat); have n1_ := za.mk (Kd.S_after (ok := (fun k_ => some k_ ≠ (v420 : Value).ownBlock)) (by apply_rules only [HO_4.out, Kd.zid, Kd.zed, Kd.zae]) hg hat); have n2_ := za.mk (zwc (g := gb418) (o := .cells #[.int .i64 a0_0, .int .i64 a0_1, .int .i64 a0_2, .int .i64 a0_3, .int .i64 a0_4] 23 (0, 0)) (by apply_rules only [BK418.out, zh, zj, zi]) hg (Kd.R_ne HO_9.out BK418.out (by decide))); have n3_ := za.mk (hb); have n4_ := za.mk (ho); clear HO_3; clear HO_4; clear BK418; clear HB; clear HO_9; have HO_3 := n0_; have HO_4 := n1_; have BK418 := n2_; have HB := n3_; have HO445 := n4_; clear n0_ n1_ n2_ n3_ n4_; clear ho hb hg hat; obtain ⟨Ao46, co46, eo46⟩ := Kd.zsc HO445.out; subst eo46) | ((with_reducible refine zdd (b := .append) (xs := #[.tmp 77, .tmp 88]) rfl ?_); at_builtin; refine Kd.S_append (Kd.slice 3 (Kd.int .i64)) (w0 := w) w.heap.size rfl (.tmp 77) (.tmp 88) 82 31 (.slice none 0 0) 24 rfl Tryz.underlying82 info31 rfl (by decide) (by omega) u4 x4_2 y443 [.slice Ao46 y443.length co46] (fun k_ => some k_ ≠ (v420 : Value).ownBlock) (fun k_ => some k_ = (.slice Ao46 y443.length co46 : Value).ownBlock) rfl rfl ?aP (fun k_ hk_ => ((Kd.zuc (ok' := fun k_ => ((fun k_ => some k_ ≠ (v420 : Value).ownBlock)) k_ ∧ some k_ ≠ (u4 : Value).ownBlock) (Kd.zfe (HO445.out) (Kd.S_typed HO_4.out) (by decide)) (fun k_ hk => ⟨hk.1, hk.2⟩))).1 k_ hk_.symm) ?aF ?aO ?aB ?aS ?aL ?_; (case aP => exact Kd.M_row (Kd.zuc (Kd.R_tight rfl (Kd.zuc (ok' := fun k_ => ((fun k_ => some k_ ≠ (v420 : Value).ownBlock)) k_ ∧ some k_ ≠ (u4 : Value).ownBlock) (Kd.zfe (HO445.out) (Kd.S_typed HO_4.out) (by decide)) (fun k_ hk => ⟨hk.1, hk.2⟩))) (fun _ h_ => h_))); (case aB => exact (by apply_rules only [HB.out, ze, zb, zf, fun h => zg h GE418.out])); (case aF => exact (fun k_ hk => Kd.fresh' (Kd.R_lt (by apply_rules only [HO_3.out, Kd.zka, Kd.zja, Kd.zya])) k_ hk)); (case aO => exact (by (with_reducible repeat (first | apply Kd.zid | apply Kd.zed | apply Kd.zae)); exact Kd.S_mono HO_4.out (fun k_ hk => ⟨hk.1, fun e_ => hk.2 e_⟩))); (case aS => exact (zm (by apply_rules only [HB.out, ze, zb, zf, fun h => zg h GE418.out]))); (case aL => have := LMc42.out; omega); intro v447 w45 ho hb hg hat; rw [← Ny446.out] at ho; have n0_ := za.mk (Kd.R_over' (by apply_rules only [HO_3.out, Kd.zka, Kd.zja, Kd.zya]) (Kd.S_typed (by apply_rules only [HO_4.out, Kd.zid, Kd.zed, Kd.zae])) (by decide) hg); have n1_ := za.mk (zwc (g := gb418) (o := .cells #[.int .i64 a0_0, .int .i64 a0_1, .int .i64 a0_2, .int .i64 a0_3, .int .i64 a0_4] 23 (0, 0)) (by apply_rules only [BK418.out, zh, zj, zi]) hg (Kd.S_ne HO_4.out BK418.out (by decide))); have n2_ := za.mk (hb); have n3_ := za.mk (ho); clear HO_3; clear BK418; clear HB; clear HO_4; clear HO445; have HO_3 := n0_; have BK418 := n1_; have HB := n2_; have HO448 := n3_; clear n0_ n1_ n2_ n3_; clear ho hb hg hat))
            go_roundg k3
            case measure => have := HK1.out; have := HK2.out; have := HK3.out; omega
            case rel => exact ⟨(y446), (wrap64 (x8_2 + 1)), (by first | rfl | simp [*]), H', ⟨by have := HK1.out; have := HK2.out; have := HK3.out; omega⟩, ⟨by (with_reducible repeat (first | apply Kd.zka | apply Kd.zja | apply Kd.zya)); exact Kd.zuc HO_3.out (fun _ hk => trivial)⟩, ⟨by apply_rules only [HO448.out, Kd.zid, Kd.zed, Kd.zae]⟩, ⟨by apply_rules only [BK418.out, zh, zj, zi]⟩, ⟨by apply_rules only [HB.out, ze, zb, zf, fun h => zg h GE418.out]⟩⟩
           ·rw [if_neg c42] at H
            exact absurd H (by simp)
          ·rw [if_neg c41] at H
           exact absurd H (by simp)
      ·rw [if_neg c26] at H
       have c26b0 : decide (x8_2 < a0_2) = false := decide_eq_false c26
       clear c26
       obtain rfl := Option.some.inj H
       obtain ⟨hcz47_0, hcz47_1, hcz47_2, hcz47_3, hcz47_4⟩ := cells5 BK418.out
       obtain ⟨hfz47_0, hfz47_1, hfz47_2, hfz47_3, hfz47_4⟩ := zic BK418.out
       go_wp2
       go_ret
       exact ⟨_, by first | rfl | (simp [zn, zo] <;> rfl) | (simp [*, zn, zo] <;> rfl), by (with_reducible repeat (first | apply Kd.zid | apply Kd.zed | apply Kd.zae)); exact Kd.S_mono HO_4.out (fun _ hk => trivial), by apply_rules only [HB.out, ze, zb, zf, fun h => zg h GE418.out]⟩
def zqc.l0 : Nat → List Int → Int → Int → Option (Bool)
 | 0, _, _, _ => none
 | k + 1, x0, x1, x5 => if x5 < (x0.length : Int) then (if 0 ≤ x5 then (if (rd x0 x5) = x1 then (some true) else (zqc.l0 k x0 x1 (wrap64 (x5 + 1)))) else (none)) else (some false)
def zqc.f (k : Nat) (l0 : List Int) (a1 : Int) : Option (Bool) := zqc.l0 k l0 a1 0
theorem zqc.calls (k : Nat) (A0 : Option Addr) (c0 : Nat) (l0 : List Int) (a1 : Int) (r : Bool) (w : World) (hr0 : Kd.C (Kd.int .i64) w A0 l0.length l0) (hc0 : l0.length ≤ c0) (h : zqc.f k l0 a1 = some r) :
  Calls Tryz.prog 81 #[.slice A0 l0.length c0, .int .i64 a1] w fun e w' => e = .returned (.bool r) ∧ zz w w' := by
 have HR0 := za.mk hr0
 have HC0 := za.mk hc0
 clear hr0 hc0
 have H : (zqc.l0 k l0 a1 0) = some r := h
 clear h
 have H' := za.mk H
 clear H
 go_enter Tryz.func81, Tryz.ntmps81
 go_wp2
 go_loopg [5] k (fun kq v5 w' => ∃ (x5_1 : Int), v5 = .int .i64 x5_1 ∧ za (zqc.l0 kq l0 a1 x5_1 = some r) ∧ za (kq ≤ k) ∧ zz w w')
 case atStart => exact ⟨(0), (by first | rfl | simp [*]), H', ⟨Nat.le_refl _⟩, by repeat (first | exact zz.refl _ | apply zz.step)⟩
 case round =>
  clear H'
  obtain ⟨x5_1, rfl, HA, HK1, ⟨m1, rfl⟩⟩ := hrel
  cases gk with
  | zero => exact absurd HA.out (by simp [zqc.l0])
  | succ k1 =>
   have H := HA.out
   clear HA
   simp only [zqc.l0] at H
   by_cases c3 : x5_1 < (l0.length : Int)
   ·rw [if_pos c3] at H
    have c3b0 : decide (x5_1 < (l0.length : Int)) = true := decide_eq_true c3
    clear c3
    by_cases c4 : 0 ≤ x5_1
    ·rw [if_pos c4] at H
     have c4b0 : decide (0 ≤ x5_1) = true := decide_eq_true c4
     clear c4
     by_cases c5 : (rd l0 x5_1) = a1
     ·rw [if_pos c5] at H
      have c5b0 : ((rd l0 x5_1) == a1) = true := beq_iff_eq.mpr c5
      have c5b1 : ((rd l0 x5_1) != a1) = false := bne_eq_false_iff_eq.mpr c5
      clear c5
      obtain rfl := Option.some.inj H
      have p395 : 0 ≤ (x5_1 : Int) := of_decide_eq_true (by first | (with_reducible assumption) | assumption)
      have q395 : x5_1 < (l0.length : Int) := of_decide_eq_true (by first | (with_reducible assumption) | assumption)
      obtain ⟨ad395, e395, hx395_0⟩ := Kd.zqe HR0.out x5_1 p395 q395
      cases e395
      replace p395 := eq_true p395
      replace q395 := eq_true q395
      go_wp2
      go_ret
      exact ⟨by first | rfl | (simp; done) | (simp [*]; done), by repeat (first | exact zz.refl _ | apply zz.step)⟩
     ·rw [if_neg c5] at H
      have c5b0 : ((rd l0 x5_1) == a1) = false := beq_eq_false_iff_ne.mpr c5
      have c5b1 : ((rd l0 x5_1) != a1) = true := bne_iff_ne.mpr c5
      have H' := za.mk H
      clear H
      have p395 : 0 ≤ (x5_1 : Int) := of_decide_eq_true (by first | (with_reducible assumption) | assumption)
      have q395 : x5_1 < (l0.length : Int) := of_decide_eq_true (by first | (with_reducible assumption) | assumption)
      obtain ⟨ad395, e395, hx395_0⟩ := Kd.zqe HR0.out x5_1 p395 q395
      cases e395
      replace p395 := eq_true p395
      replace q395 := eq_true q395
      go_wp2
      go_roundg k1
      case measure => have := HK1.out; omega
      case rel => exact ⟨(wrap64 (x5_1 + 1)), (by first | rfl | simp [*]), H', ⟨by have := HK1.out; omega⟩, by repeat (first | exact zz.refl _ | apply zz.step)⟩
    ·rw [if_neg c4] at H
     exact absurd H (by simp)
   ·rw [if_neg c3] at H
    have c3b0 : decide (x5_1 < (l0.length : Int)) = false := decide_eq_false c3
    clear c3
    obtain rfl := Option.some.inj H
    go_wp2
    go_ret
    exact ⟨by first | rfl | (simp; done) | (simp [*]; done), by repeat (first | exact zz.refl _ | apply zz.step)⟩
def zib.f (a0 : Int) (a1 : Int) : Option (Int) := if 0 ≤ a1 then (some (Go.bits .xor .u64 a0 (shr .u64 a0 a1))) else (none)
theorem zib.calls (a0 : Int) (a1 : Int) (r : Int) (w : World) (h : zib.f a0 a1 = some r) :
  Calls Tryz.prog 122 #[.int .u64 a0, .int .u64 a1] w fun e w' => e = .returned (.int .u64 r) ∧ zz w w' := by
 have H : (if 0 ≤ a1 then (some (Go.bits .xor .u64 a0 (shr .u64 a0 a1))) else (none)) = some r := h
 clear h
 by_cases c3 : 0 ≤ a1
 ·rw [if_pos c3] at H
  have c3b0 := eq_true c3
  have c3b1 : decide (0 ≤ a1) = true := decide_eq_true c3
  clear c3
  obtain ⟨ji4, hji4⟩ : ∃ j_ : Int, (shr .u64 a0 a1) = j_ := ⟨_, rfl⟩
  replace H : (some (Go.bits .xor .u64 a0 (ji4))) = some r := by first | (rw [hji4] at H; exact H) | (simp only [hji4] at H ⊢; exact H)
  have hji4_ : (a0 / 2 ^ min a1.toNat 64) = ji4 := hji4
  have hji4z : a1 ≤ 64 → (a0 / 2 ^ a1.toNat) = ji4 := shr_small hji4
  obtain rfl := Option.some.inj H
  go_enter Tryz.func122, Tryz.ntmps122
  go_wp2
  go_ret
  exact ⟨by first | rfl | (simp; done) | (simp only [← hji4] <;> (first | rfl | simp)) | (simp [*]; done), by repeat (first | exact zz.refl _ | apply zz.step)⟩
 ·rw [if_neg c3] at H
  exact absurd H (by simp)
def zwb.f (a0 : Int) (a1 : Int) : Option (Int) := some (Int.tmod (IntKind.u64.wrap ((IntKind.u64.wrap (a0 * (Int.tmod a1 65536))) + (IntKind.u64.wrap ((Int.tmod (IntKind.u64.wrap (a0 * (IntKind.u64.wrap (Int.tdiv a1 65536)))) 4294967296) * 65536)))) 4294967296)
theorem zwb.calls (a0 : Int) (a1 : Int) (r : Int) (w : World) (h : zwb.f a0 a1 = some r) :
  Calls Tryz.prog 121 #[.int .u64 a0, .int .u64 a1] w fun e w' => e = .returned (.int .u64 r) ∧ zz w w' := by
 have H : (some (Int.tmod (IntKind.u64.wrap ((IntKind.u64.wrap (a0 * (Int.tmod a1 65536))) + (IntKind.u64.wrap ((Int.tmod (IntKind.u64.wrap (a0 * (IntKind.u64.wrap (Int.tdiv a1 65536)))) 4294967296) * 65536)))) 4294967296)) = some r := h
 clear h
 obtain rfl := Option.some.inj H
 go_enter Tryz.func121, Tryz.ntmps121
 go_wp2
 go_ret
 exact ⟨by first | rfl | (simp; done) | (simp [*]; done), by repeat (first | exact zz.refl _ | apply zz.step)⟩
def zxd.f (a0 : Int) (a1 : Int) : Option (Int) := (zwb.f (IntKind.u64.wrap (a0)) 2654435761).bind fun t381 => ((zib.f (Int.tmod (IntKind.u64.wrap (t381 + (IntKind.u64.wrap (a1)))) 4294967296) 16).bind fun t382 => ((zwb.f t382 2246822507).bind fun t383 => ((zib.f t383 13).bind fun t384 => ((zwb.f t384 3266489909).bind fun t385 => ((zib.f t385 16).bind fun t386 => (some ((t386) % 4294967296)))))))
theorem zxd.calls (a0 : Int) (a1 : Int) (r : Int) (w : World) (h : zxd.f a0 a1 = some r) :
  Calls Tryz.prog 100 #[.int .u32 a0, .int .u32 a1] w fun e w' => e = .returned (.int .u32 r) ∧ zz w w' := by
 have H : ((zwb.f (IntKind.u64.wrap (a0)) 2654435761).bind fun t381 => ((zib.f (Int.tmod (IntKind.u64.wrap (t381 + (IntKind.u64.wrap (a1)))) 4294967296) 16).bind fun t382 => ((zwb.f t382 2246822507).bind fun t383 => ((zib.f t383 13).bind fun t384 => ((zwb.f t384 3266489909).bind fun t385 => ((zib.f t385 16).bind fun t386 => (some ((t386) % 4294967296)))))))) = some r := h
 clear h
 replace H := Option.bind_eq_some_iff.mp H
 obtain ⟨t381, A30, H⟩ := H
 replace H : ((zib.f (Int.tmod (IntKind.u64.wrap (t381 + (IntKind.u64.wrap (a1)))) 4294967296) 16).bind fun t382 => ((zwb.f t382 2246822507).bind fun t383 => ((zib.f t383 13).bind fun t384 => ((zwb.f t384 3266489909).bind fun t385 => ((zib.f t385 16).bind fun t386 => (some ((t386) % 4294967296))))))) = some r := H
 have A3 := za.mk A30
 clear A30
 replace H := Option.bind_eq_some_iff.mp H
 obtain ⟨t382, A40, H⟩ := H
 replace H : ((zwb.f t382 2246822507).bind fun t383 => ((zib.f t383 13).bind fun t384 => ((zwb.f t384 3266489909).bind fun t385 => ((zib.f t385 16).bind fun t386 => (some ((t386) % 4294967296)))))) = some r := H
 have A4 := za.mk A40
 clear A40
 replace H := Option.bind_eq_some_iff.mp H
 obtain ⟨t383, A50, H⟩ := H
 replace H : ((zib.f t383 13).bind fun t384 => ((zwb.f t384 3266489909).bind fun t385 => ((zib.f t385 16).bind fun t386 => (some ((t386) % 4294967296))))) = some r := H
 have A5 := za.mk A50
 clear A50
 replace H := Option.bind_eq_some_iff.mp H
 obtain ⟨t384, A60, H⟩ := H
 replace H : ((zwb.f t384 3266489909).bind fun t385 => ((zib.f t385 16).bind fun t386 => (some ((t386) % 4294967296)))) = some r := H
 have A6 := za.mk A60
 clear A60
 replace H := Option.bind_eq_some_iff.mp H
 obtain ⟨t385, A70, H⟩ := H
 replace H : ((zib.f t385 16).bind fun t386 => (some ((t386) % 4294967296))) = some r := H
 have A7 := za.mk A70
 clear A70
 replace H := Option.bind_eq_some_iff.mp H
 obtain ⟨t386, A80, H⟩ := H
 replace H : (some ((t386) % 4294967296)) = some r := H
 have A8 := za.mk A80
 clear A80
 obtain rfl := Option.some.inj H
 go_enter Tryz.func100, Tryz.ntmps100
 go_wp2_with (first | ((with_reducible refine zaa (f := 121) rfl ?_); refine zmc (some 8) rfl rfl Tryz.func121 (by kernel_rfl) rfl #[.int .u64 (IntKind.u64.wrap (a0)), .int .u64 2654435761] rfl (by (try simp only [zpa]); first | done | rfl | simp) ?_; (with_reducible refine (zwb.calls (IntKind.u64.wrap (a0)) 2654435761 t381 _ A3.out).mono ?_); rintro e w' ⟨rfl, ⟨nd, rfl⟩⟩; refine ⟨_, rfl, ?_⟩) | ((with_reducible refine zaa (f := 122) rfl ?_); refine zmc (some 14) rfl rfl Tryz.func122 (by kernel_rfl) rfl #[.int .u64 (Int.tmod (IntKind.u64.wrap (t381 + (IntKind.u64.wrap (a1)))) 4294967296), .int .u64 16] rfl (by (try simp only [zpa]); first | done | rfl | simp) ?_; (with_reducible refine (zib.calls (Int.tmod (IntKind.u64.wrap (t381 + (IntKind.u64.wrap (a1)))) 4294967296) 16 t382 _ A4.out).mono ?_); rintro e w' ⟨rfl, ⟨nd, rfl⟩⟩; refine ⟨_, rfl, ?_⟩) | ((with_reducible refine zaa (f := 121) rfl ?_); refine zmc (some 15) rfl rfl Tryz.func121 (by kernel_rfl) rfl #[.int .u64 t382, .int .u64 2246822507] rfl (by (try simp only [zpa]); first | done | rfl | simp) ?_; (with_reducible refine (zwb.calls t382 2246822507 t383 _ A5.out).mono ?_); rintro e w' ⟨rfl, ⟨nd, rfl⟩⟩; refine ⟨_, rfl, ?_⟩) | ((with_reducible refine zaa (f := 122) rfl ?_); refine zmc (some 17) rfl rfl Tryz.func122 (by kernel_rfl) rfl #[.int .u64 t383, .int .u64 13] rfl (by (try simp only [zpa]); first | done | rfl | simp) ?_; (with_reducible refine (zib.calls t383 13 t384 _ A6.out).mono ?_); rintro e w' ⟨rfl, ⟨nd, rfl⟩⟩; refine ⟨_, rfl, ?_⟩) | ((with_reducible refine zaa (f := 121) rfl ?_); refine zmc (some 18) rfl rfl Tryz.func121 (by kernel_rfl) rfl #[.int .u64 t384, .int .u64 3266489909] rfl (by (try simp only [zpa]); first | done | rfl | simp) ?_; (with_reducible refine (zwb.calls t384 3266489909 t385 _ A7.out).mono ?_); rintro e w' ⟨rfl, ⟨nd, rfl⟩⟩; refine ⟨_, rfl, ?_⟩) | ((with_reducible refine zaa (f := 122) rfl ?_); refine zmc (some 20) rfl rfl Tryz.func122 (by kernel_rfl) rfl #[.int .u64 t385, .int .u64 16] rfl (by (try simp only [zpa]); first | done | rfl | simp) ?_; (with_reducible refine (zib.calls t385 16 t386 _ A8.out).mono ?_); rintro e w' ⟨rfl, ⟨nd, rfl⟩⟩; refine ⟨_, rfl, ?_⟩))
 go_ret
 exact ⟨by first | rfl | (simp; done) | (simp [*]; done), by repeat (first | exact zz.refl _ | apply zz.step)⟩
def zob.f (a0 : Int) (a1 : Int) (a2 : Int) : Option (Int) := (zxd.f a0 a1).bind fun t387 => (if (IntKind.u64.wrap (a2)) = 0 then (none) else (some (wrap64 (Int.tmod (IntKind.u64.wrap (t387)) (IntKind.u64.wrap (a2))))))
theorem zob.calls (a0 : Int) (a1 : Int) (a2 : Int) (r : Int) (w : World) (h : zob.f a0 a1 a2 = some r) :
  Calls Tryz.prog 102 #[.int .u32 a0, .int .u32 a1, .int .i64 a2] w fun e w' => e = .returned (.int .i64 r) ∧ zz w w' := by
 have H : ((zxd.f a0 a1).bind fun t387 => (if (IntKind.u64.wrap (a2)) = 0 then (none) else (some (wrap64 (Int.tmod (IntKind.u64.wrap (t387)) (IntKind.u64.wrap (a2))))))) = some r := h
 clear h
 replace H := Option.bind_eq_some_iff.mp H
 obtain ⟨t387, A40, H⟩ := H
 replace H : (if (IntKind.u64.wrap (a2)) = 0 then (none) else (some (wrap64 (Int.tmod (IntKind.u64.wrap (t387)) (IntKind.u64.wrap (a2)))))) = some r := H
 have A4 := za.mk A40
 clear A40
 by_cases c5 : (IntKind.u64.wrap (a2)) = 0
 ·rw [if_pos c5] at H
  exact absurd H (by simp)
 ·rw [if_neg c5] at H
  have c5b0 : ((IntKind.u64.wrap (a2)) == 0) = false := beq_eq_false_iff_ne.mpr c5
  have c5b1 : ((IntKind.u64.wrap (a2)) != 0) = true := bne_iff_ne.mpr c5
  obtain rfl := Option.some.inj H
  go_enter Tryz.func102, Tryz.ntmps102
  go_wp2_with (first | ((with_reducible refine zaa (f := 100) rfl ?_); refine zmc (some 9) rfl rfl Tryz.func100 (by kernel_rfl) rfl #[.int .u32 a0, .int .u32 a1] rfl (by (try simp only [zpa]); first | done | rfl | simp) ?_; (with_reducible refine (zxd.calls a0 a1 t387 _ A4.out).mono ?_); rintro e w' ⟨rfl, ⟨nd, rfl⟩⟩; refine ⟨_, rfl, ?_⟩))
  go_ret
  exact ⟨by first | rfl | (simp; done) | (simp [*]; done), by repeat (first | exact zz.refl _ | apply zz.step)⟩
def zne.f (a0 : Int) : Option (Int) := if a0 < 10241 then (some 1) else (if a0 < 491582 then (some 2) else (if a0 < 712794 then (some 3) else (if a0 < 831695 then (some 4) else (if a0 < 948446 then (some 10) else (if a0 < 1032189 then (some 11) else (some 40))))))
theorem zne.calls (a0 : Int) (r : Int) (w : World) (h : zne.f a0 = some r) :
  Calls Tryz.prog 101 #[.int .i64 a0] w fun e w' => e = .returned (.int .i64 r) ∧ zz w w' := by
 have H : (if a0 < 10241 then (some 1) else (if a0 < 491582 then (some 2) else (if a0 < 712794 then (some 3) else (if a0 < 831695 then (some 4) else (if a0 < 948446 then (some 10) else (if a0 < 1032189 then (some 11) else (some 40))))))) = some r := h
 clear h
 by_cases c2 : a0 < 10241
 ·rw [if_pos c2] at H
  have c2b0 : decide (a0 < 10241) = true := decide_eq_true c2
  clear c2
  obtain rfl := Option.some.inj H
  go_enter Tryz.func101, Tryz.ntmps101
  go_wp2
  go_ret
  exact ⟨by first | rfl | (simp; done) | (simp [*]; done), by repeat (first | exact zz.refl _ | apply zz.step)⟩
 ·rw [if_neg c2] at H
  have c2b0 : decide (a0 < 10241) = false := decide_eq_false c2
  clear c2
  by_cases c3 : a0 < 491582
  ·rw [if_pos c3] at H
   have c3b0 : decide (a0 < 491582) = true := decide_eq_true c3
   clear c3
   obtain rfl := Option.some.inj H
   go_enter Tryz.func101, Tryz.ntmps101
   go_wp2
   go_ret
   exact ⟨by first | rfl | (simp; done) | (simp [*]; done), by repeat (first | exact zz.refl _ | apply zz.step)⟩
  ·rw [if_neg c3] at H
   have c3b0 : decide (a0 < 491582) = false := decide_eq_false c3
   clear c3
   by_cases c4 : a0 < 712794
   ·rw [if_pos c4] at H
    have c4b0 : decide (a0 < 712794) = true := decide_eq_true c4
    clear c4
    obtain rfl := Option.some.inj H
    go_enter Tryz.func101, Tryz.ntmps101
    go_wp2
    go_ret
    exact ⟨by first | rfl | (simp; done) | (simp [*]; done), by repeat (first | exact zz.refl _ | apply zz.step)⟩
   ·rw [if_neg c4] at H
    have c4b0 : decide (a0 < 712794) = false := decide_eq_false c4
    clear c4
    by_cases c5 : a0 < 831695
    ·rw [if_pos c5] at H
     have c5b0 : decide (a0 < 831695) = true := decide_eq_true c5
     clear c5
     obtain rfl := Option.some.inj H
     go_enter Tryz.func101, Tryz.ntmps101
     go_wp2
     go_ret
     exact ⟨by first | rfl | (simp; done) | (simp [*]; done), by repeat (first | exact zz.refl _ | apply zz.step)⟩
    ·rw [if_neg c5] at H
     have c5b0 : decide (a0 < 831695) = false := decide_eq_false c5
     clear c5
     by_cases c6 : a0 < 948446
     ·rw [if_pos c6] at H
      have c6b0 : decide (a0 < 948446) = true := decide_eq_true c6
      clear c6
      obtain rfl := Option.some.inj H
      go_enter Tryz.func101, Tryz.ntmps101
      go_wp2
      go_ret
      exact ⟨by first | rfl | (simp; done) | (simp [*]; done), by repeat (first | exact zz.refl _ | apply zz.step)⟩
     ·rw [if_neg c6] at H
      have c6b0 : decide (a0 < 948446) = false := decide_eq_false c6
      clear c6
      by_cases c7 : a0 < 1032189
      ·rw [if_pos c7] at H
       have c7b0 : decide (a0 < 1032189) = true := decide_eq_true c7
       clear c7
       obtain rfl := Option.some.inj H
       go_enter Tryz.func101, Tryz.ntmps101
       go_wp2
       go_ret
       exact ⟨by first | rfl | (simp; done) | (simp [*]; done), by repeat (first | exact zz.refl _ | apply zz.step)⟩
      ·rw [if_neg c7] at H
       have c7b0 : decide (a0 < 1032189) = false := decide_eq_false c7
       clear c7
       obtain rfl := Option.some.inj H
       go_enter Tryz.func101, Tryz.ntmps101
       go_wp2
       go_ret
       exact ⟨by first | rfl | (simp; done) | (simp [*]; done), by repeat (first | exact zz.refl _ | apply zz.step)⟩
def zpc.f (a0_0 : Int) (a0_1 : Int) (a0_2 : Int) (a0_3 : Int) (a0_4 : Int) (a1 : Int) (a2 : Int) : Option (Int × Int × Int) := (zxd.f ((a2) % 4294967296) ((a1) % 4294967296)).bind fun t390 => ((zob.f t390 0 1048576).bind fun t391 => ((zne.f t391).bind fun t392 => ((zob.f t390 1 (wrap64 (a0_4 - 1))).bind fun t393 => ((zob.f t390 2 a0_4).bind fun t394 => (some (mn t392 a0_3, wrap64 (1 + t393), t394))))))
def zpc.T3 : Bool × List (List Nat × List Nat) := (true, [([], []), ([], []), ([1], [1]), ([0, 2], [0, 2]), ([], []), ([], []), ([5], [5]), ([6], [6]), ([4, 7], [4, 7]), ([8], [8]), ([], []), ([], []), ([11], [11]), ([10, 12, 8], [10, 12]), ([3, 9, 13], [3, 9, 13]), ([14, 13, 0, 1, 2, 3, 4, 5, 6, 7, 8, 9, 10, 11, 12, 13, 14], [14])])
def zpc.B3 : List Nat := [0, 0, 2, 7, 0, 0, 32, 96, 240, 496, 0, 0, 2048, 7664, 16383, 32767]
theorem zpc.tab3 : rtab .any (opsOf Tryz.f80 3) = zpc.T3 := by kernel_rfl
theorem zpc.bits3 : waitsOk zpc.T3.2 zpc.B3 = true := by kernel_rfl
theorem zpc.calls (a0_0 : Int) (a0_1 : Int) (a0_2 : Int) (a0_3 : Int) (a0_4 : Int) (a1 : Int) (a2 : Int) (r1 : Int) (r2 : Int) (r3 : Int) (w : World) (h : zpc.f a0_0 a0_1 a0_2 a0_3 a0_4 a1 a2 = some (r1, r2, r3)) :
  Calls Tryz.prog 80 #[.agg #[.int .i64 a0_0, .int .i64 a0_1, .int .i64 a0_2, .int .i64 a0_3, .int .i64 a0_4], .int .i64 a1, .int .i64 a2] w fun e w' => e = .returned (.agg #[.int .i64 r1, .int .i64 r2, .int .i64 r3]) ∧ Below w.heap.size w w' := by
 have hu23 := Tryz.underlying23
 have hu125 := Tryz.underlying125
 have HB := za.mk (Below.refl w.heap.size w)
 have H : ((zxd.f ((a2) % 4294967296) ((a1) % 4294967296)).bind fun t390 => ((zob.f t390 0 1048576).bind fun t391 => ((zne.f t391).bind fun t392 => ((zob.f t390 1 (wrap64 (a0_4 - 1))).bind fun t393 => ((zob.f t390 2 a0_4).bind fun t394 => (some (mn t392 a0_3, wrap64 (1 + t393), t394))))))) = some (r1, r2, r3) := h
 clear h
 replace H := Option.bind_eq_some_iff.mp H
 obtain ⟨t390, A40, H⟩ := H
 replace H : ((zob.f t390 0 1048576).bind fun t391 => ((zne.f t391).bind fun t392 => ((zob.f t390 1 (wrap64 (a0_4 - 1))).bind fun t393 => ((zob.f t390 2 a0_4).bind fun t394 => (some (mn t392 a0_3, wrap64 (1 + t393), t394)))))) = some (r1, r2, r3) := H
 have A4 := za.mk A40
 clear A40
 replace H := Option.bind_eq_some_iff.mp H
 obtain ⟨t391, A50, H⟩ := H
 replace H : ((zne.f t391).bind fun t392 => ((zob.f t390 1 (wrap64 (a0_4 - 1))).bind fun t393 => ((zob.f t390 2 a0_4).bind fun t394 => (some (mn t392 a0_3, wrap64 (1 + t393), t394))))) = some (r1, r2, r3) := H
 have A5 := za.mk A50
 clear A50
 replace H := Option.bind_eq_some_iff.mp H
 obtain ⟨t392, A60, H⟩ := H
 replace H : ((zob.f t390 1 (wrap64 (a0_4 - 1))).bind fun t393 => ((zob.f t390 2 a0_4).bind fun t394 => (some (mn t392 a0_3, wrap64 (1 + t393), t394)))) = some (r1, r2, r3) := H
 have A6 := za.mk A60
 clear A60
 obtain ⟨ji7, hji7⟩ : ∃ j_ : Int, (mn t392 a0_3) = j_ := ⟨_, rfl⟩
 replace H : ((zob.f t390 1 (wrap64 (a0_4 - 1))).bind fun t393 => ((zob.f t390 2 a0_4).bind fun t394 => (some (ji7, wrap64 (1 + t393), t394)))) = some (r1, r2, r3) := by first | (rw [hji7] at H; exact H) | (simp only [hji7] at H ⊢; exact H)
 (try rw [hji7] at A4)
 (try rw [hji7] at A5)
 (try rw [hji7] at A6)
 have hji7_ : (if a0_3 < t392 then a0_3 else t392) = ji7 := hji7
 replace H := Option.bind_eq_some_iff.mp H
 obtain ⟨t393, A80, H⟩ := H
 replace H : ((zob.f t390 2 a0_4).bind fun t394 => (some (ji7, wrap64 (1 + t393), t394))) = some (r1, r2, r3) := H
 have A8 := za.mk A80
 clear A80
 replace H := Option.bind_eq_some_iff.mp H
 obtain ⟨t394, A90, H⟩ := H
 replace H : (some (ji7, wrap64 (1 + t393), t394)) = some (r1, r2, r3) := H
 have A9 := za.mk A90
 clear A90
 simp only [Option.some.injEq, Prod.mk.injEq] at H
 obtain ⟨rfl, rfl, rfl⟩ := H
 go_enter Tryz.func80, Tryz.ntmps80
 try go_wp2_with (first | ((with_reducible refine zza (N := 3) rfl ?_); refine zgc ?hg (N := 3) ?hd (cs := #[.int .i64 a0_0, .int .i64 a0_1, .int .i64 a0_2, .int .i64 a0_3, .int .i64 a0_4]) (t := 23) ?hr ?_; (case hd => rfl); (case hg => rfl); (case hr => first | (go_simp; done) | (go_simp; rfl)); intro gb388 hg w10 hbox hb; have n0_ := za.mk (zk (by apply_rules only [HB.out, ze, zb, zf]) hb); have n1_ := za.mk (hbox); have n2_ := za.mk ((by rw [hg]; exact (zm (by apply_rules only [HB.out, ze, zb, zf])) : w.heap.size ≤ gb388)); have n3_ := za.mk ((by rw [hg]; exact (zm (by apply_rules only [HB.out, ze, zb, zf])) : w.heap.size ≤ gb388)); clear HB; have HB := n0_; have BK388 := n1_; have GW388 := n2_; have GE388 := n3_; clear n0_ n1_ n2_ n3_; clear hb hbox hg) | ((with_reducible refine zza (N := 6) rfl ?_); refine zgc ?hg (N := 6) ?hd (cs := #[.int .i64 0, .int .i64 0, .int .i64 0]) (t := 125) ?hr ?_; (case hd => rfl); (case hg => rfl); (case hr => first | (go_simp; done) | (go_simp; rfl)); intro gb389 hg w11 hbox hb; have n0_ := za.mk (zy (g := gb388) (o := .cells #[.int .i64 a0_0, .int .i64 a0_1, .int .i64 a0_2, .int .i64 a0_3, .int .i64 a0_4] 23 (0, 0)) (by apply_rules only [BK388.out, zh, zj, zi]) hb); have n1_ := za.mk (zk (by apply_rules only [HB.out, ze, zb, zf, fun h => zg h GE388.out]) hb); have n2_ := za.mk (hbox); have n3_ := za.mk ((by rw [hg]; exact (zm (by apply_rules only [HB.out, ze, zb, zf, fun h => zg h GE388.out])) : w.heap.size ≤ gb389)); have n4_ := za.mk ((by rw [hg]; exact (zm (by apply_rules only [HB.out, ze, zb, zf, fun h => zg h GE388.out])) : w.heap.size ≤ gb389)); have n5_ := za.mk ((by rw [hg]; exact Nat.ne_of_lt (zpe (g := gb388) (o := .cells #[.int .i64 a0_0, .int .i64 a0_1, .int .i64 a0_2, .int .i64 a0_3, .int .i64 a0_4] 23 (0, 0)) (by apply_rules only [BK388.out, zh, zj, zi])) : gb388 ≠ gb389)); have n6_ := za.mk ((by rw [hg]; exact Nat.ne_of_gt (zpe (g := gb388) (o := .cells #[.int .i64 a0_0, .int .i64 a0_1, .int .i64 a0_2, .int .i64 a0_3, .int .i64 a0_4] 23 (0, 0)) (by apply_rules only [BK388.out, zh, zj, zi])) : gb389 ≠ gb388)); clear BK388; clear HB; have BK388 := n0_; have HB := n1_; have BK389 := n2_; have GW389 := n3_; have GE389 := n4_; have NB388_389 := n5_; have NB389_388 := n6_; clear n0_ n1_ n2_ n3_ n4_ n5_ n6_; clear hb hbox hg) | ((with_reducible refine zaa (f := 100) rfl ?_); refine zmc (some 13) rfl rfl Tryz.func100 (by kernel_rfl) rfl #[.int .u32 ((a2) % 4294967296), .int .u32 ((a1) % 4294967296)] rfl (by (try simp only [zpa]); first | done | rfl | simp) ?_; (with_reducible refine (zxd.calls ((a2) % 4294967296) ((a1) % 4294967296) t390 _ A4.out).mono ?_); rintro e w' ⟨rfl, ⟨nd, rfl⟩⟩; refine ⟨_, rfl, ?_⟩; (try (rw [drewN_self w11]; generalize hq_ : World.drewN w11 _ = w11; have n0_ : za (w11.heap[gb388]? = some (.cells #[.int .i64 a0_0, .int .i64 a0_1, .int .i64 a0_2, .int .i64 a0_3, .int .i64 a0_4] 23 (0, 0))) := ⟨by rw [← hq_]; exact (by apply_rules only [BK388.out, zh, zj, zi])⟩; have n1_ : za (w11.heap[gb389]? = some (.cells #[.int .i64 0, .int .i64 0, .int .i64 0] 125 (0, 0))) := ⟨by rw [← hq_]; exact (by apply_rules only [BK389.out, zh, zj, zi])⟩; have n2_ : za (Below w.heap.size w w11) := ⟨by rw [← hq_]; exact (by apply_rules only [HB.out, ze, zb, zf, fun h => zg h GE388.out, fun h => zg h GE389.out])⟩; clear BK388 BK389 HB hq_; have BK388 := n0_; have BK389 := n1_; have HB := n2_; clear n0_ n1_ n2_))) | ((with_reducible refine zaa (f := 102) rfl ?_); refine zmc (some 15) rfl rfl Tryz.func102 (by kernel_rfl) rfl #[.int .u32 t390, .int .u32 0, .int .i64 1048576] rfl (by (try simp only [zpa]); first | done | rfl | simp) ?_; (with_reducible refine (zob.calls t390 0 1048576 t391 _ A5.out).mono ?_); rintro e w' ⟨rfl, ⟨nd, rfl⟩⟩; refine ⟨_, rfl, ?_⟩; (try (rw [drewN_self w11]; generalize hq_ : World.drewN w11 _ = w11; have n0_ : za (w11.heap[gb388]? = some (.cells #[.int .i64 a0_0, .int .i64 a0_1, .int .i64 a0_2, .int .i64 a0_3, .int .i64 a0_4] 23 (0, 0))) := ⟨by rw [← hq_]; exact (by apply_rules only [BK388.out, zh, zj, zi])⟩; have n1_ : za (w11.heap[gb389]? = some (.cells #[.int .i64 0, .int .i64 0, .int .i64 0] 125 (0, 0))) := ⟨by rw [← hq_]; exact (by apply_rules only [BK389.out, zh, zj, zi])⟩; have n2_ : za (Below w.heap.size w w11) := ⟨by rw [← hq_]; exact (by apply_rules only [HB.out, ze, zb, zf, fun h => zg h GE388.out, fun h => zg h GE389.out])⟩; clear BK388 BK389 HB hq_; have BK388 := n0_; have BK389 := n1_; have HB := n2_; clear n0_ n1_ n2_))) | ((with_reducible refine zaa (f := 101) rfl ?_); refine zmc (some 16) rfl rfl Tryz.func101 (by kernel_rfl) rfl #[.int .i64 t391] rfl (by (try simp only [zpa]); first | done | rfl | simp) ?_; (with_reducible refine (zne.calls t391 t392 _ A6.out).mono ?_); rintro e w' ⟨rfl, ⟨nd, rfl⟩⟩; refine ⟨_, rfl, ?_⟩; (try (rw [drewN_self w11]; generalize hq_ : World.drewN w11 _ = w11; have n0_ : za (w11.heap[gb388]? = some (.cells #[.int .i64 a0_0, .int .i64 a0_1, .int .i64 a0_2, .int .i64 a0_3, .int .i64 a0_4] 23 (0, 0))) := ⟨by rw [← hq_]; exact (by apply_rules only [BK388.out, zh, zj, zi])⟩; have n1_ : za (w11.heap[gb389]? = some (.cells #[.int .i64 0, .int .i64 0, .int .i64 0] 125 (0, 0))) := ⟨by rw [← hq_]; exact (by apply_rules only [BK389.out, zh, zj, zi])⟩; have n2_ : za (Below w.heap.size w w11) := ⟨by rw [← hq_]; exact (by apply_rules only [HB.out, ze, zb, zf, fun h => zg h GE388.out, fun h => zg h GE389.out])⟩; clear BK388 BK389 HB hq_; have BK388 := n0_; have BK389 := n1_; have HB := n2_; clear n0_ n1_ n2_))))
 have n0_ := za.mk (zj BK388.out)
 have n1_ := za.mk (zj BK389.out)
 have n2_ := za.mk (zf HB.out)
 clear BK388
 clear BK389
 clear HB
 have BK388 := n0_
 have BK389 := n1_
 have HB := n2_
 clear n0_ n1_ n2_
 refine zsf (n := 16) (S := fun w' => w'.cell? ⟨gb388, 0, none⟩ = some (.int .i64 a0_0) ∧ w'.cell? ⟨gb388, 1, none⟩ = some (.int .i64 a0_1) ∧ w'.cell? ⟨gb388, 2, none⟩ = some (.int .i64 a0_2) ∧ w'.cell? ⟨gb388, 3, none⟩ = some (.int .i64 a0_3) ∧ w'.cell? ⟨gb388, 4, none⟩ = some (.int .i64 a0_4)) (ds := []) #[false, false, false, false, false, false, false, false, false, false, false, false, false, false, false, false] (by kernel_rfl) rfl rfl ⟨(zl BK388.out 0).trans rfl, (zl BK388.out 1).trans rfl, (zl BK388.out 2).trans rfl, (zl BK388.out 3).trans rfl, (zl BK388.out 4).trans rfl⟩ (fun hHeld => ?_); refine zke zpc.tab3 zpc.bits3 (fun HT_ HW_ => ?_)
 generalize w11.drew = w12 at BK388 BK389 HB hHeld ⊢
 refine pure_ (i := 0) (N := some 17) (v := ?_) (a' := ?_) #[true, false, false, false, false, false, false, false, false, false, false, false, false, false, false, false] rfl rfl (zvb HT_.out (by kernel_rfl)) (fun _ _ _ h => h) (Or.inl ⟨by rfl, ?_⟩) ?_ ?_
 rotate_left
 ·intro w'
  go_simp
  with_reducible rfl
 rotate_left
 ·simp only [Act.put, zw]
  rfl
 refine pure_ (i := 1) (N := some 18) (v := ?_) (a' := ?_) #[true, true, false, false, false, false, false, false, false, false, false, false, false, false, false, false] rfl rfl (zvb HT_.out (by kernel_rfl)) (fun _ _ _ h => h) (Or.inl ⟨by rfl, ?_⟩) ?_ ?_
 rotate_left
 ·intro w'
  go_simp
  with_reducible rfl
 rotate_left
 ·simp only [Act.put, zw]
  rfl
 refine pure_ (i := 4) (N := some 21) (v := ?_) (a' := ?_) #[true, true, false, false, true, false, false, false, false, false, false, false, false, false, false, false] rfl rfl (zvb HT_.out (by kernel_rfl)) (fun _ _ _ h => h) (Or.inl ⟨by rfl, ?_⟩) ?_ ?_
 rotate_left
 ·intro w'
  go_simp
  with_reducible rfl
 rotate_left
 ·simp only [Act.put, zw]
  rfl
 refine pure_ (i := 5) (N := some 22) (v := ?_) (a' := ?_) #[true, true, false, false, true, true, false, false, false, false, false, false, false, false, false, false] rfl rfl (zvb HT_.out (by kernel_rfl)) (fun _ _ _ h => h) (Or.inl ⟨by rfl, ?_⟩) ?_ ?_
 rotate_left
 ·intro w'
  go_simp
  with_reducible rfl
 rotate_left
 ·simp only [Act.put, zw]
  rfl
 refine pure_ (i := 10) (N := some 27) (v := ?_) (a' := ?_) #[true, true, false, false, true, true, false, false, false, false, true, false, false, false, false, false] rfl rfl (zvb HT_.out (by kernel_rfl)) (fun _ _ _ h => h) (Or.inl ⟨by rfl, ?_⟩) ?_ ?_
 rotate_left
 ·intro w'
  go_simp
  with_reducible rfl
 rotate_left
 ·simp only [Act.put, zw]
  rfl
 refine pure_ (i := 11) (N := some 28) (v := ?_) (a' := ?_) #[true, true, false, false, true, true, false, false, false, false, true, true, false, false, false, false] rfl rfl (zvb HT_.out (by kernel_rfl)) (fun _ _ _ h => h) (Or.inl ⟨by rfl, ?_⟩) ?_ ?_
 rotate_left
 ·intro w'
  go_simp
  with_reducible rfl
 rotate_left
 ·simp only [Act.put, zw]
  rfl
 refine take_ (i := 2) (N := some 19) (v := ?_) (a' := ?_) #[true, true, true, false, true, true, false, false, false, false, true, true, false, false, false, false] rfl rfl (zje HT_.out HW_.out (by kernel_rfl)) (fun _ _ _ h => h) (Or.inl ⟨by rfl, ?_⟩) hHeld ?_ ?_
 rotate_left
 ·rintro w' ⟨s0, s1, s2, s3, s4⟩
  go_simp
  with_reducible rfl
 rotate_left
 ·simp only [Act.put, zw]
  rfl
 refine pure_ (i := 3) (N := some 20) (v := ?_) (a' := ?_) #[true, true, true, true, true, true, false, false, false, false, true, true, false, false, false, false] rfl rfl (zvb HT_.out (by kernel_rfl)) (fun _ _ _ h => h) (Or.inl ⟨by rfl, ?_⟩) ?_ ?_
 rotate_left
 ·intro w'
  go_simp
  with_reducible rfl
 rotate_left
 ·simp only [Act.put, zw]
  rfl
 refine take_ (i := 6) (N := some 23) (v := ?_) (a' := ?_) #[true, true, true, true, true, true, true, false, false, false, true, true, false, false, false, false] rfl rfl (zje HT_.out HW_.out (by kernel_rfl)) (fun _ _ _ h => h) (Or.inl ⟨by rfl, ?_⟩) hHeld ?_ ?_
 rotate_left
 ·rintro w' ⟨s0, s1, s2, s3, s4⟩
  go_simp
  with_reducible rfl
 rotate_left
 ·simp only [Act.put, zw]
  rfl
 refine pure_ (i := 7) (N := some 24) (v := ?_) (a' := ?_) #[true, true, true, true, true, true, true, true, false, false, true, true, false, false, false, false] rfl rfl (zvb HT_.out (by kernel_rfl)) (fun _ _ _ h => h) (Or.inl ⟨by rfl, ?_⟩) ?_ ?_
 rotate_left
 ·intro w'
  go_simp
  with_reducible rfl
 rotate_left
 ·simp only [Act.put, zw]
  rfl
 refine take_ (i := 12) (N := some 29) (v := ?_) (a' := ?_) #[true, true, true, true, true, true, true, true, false, false, true, true, true, false, false, false] rfl rfl (zje HT_.out HW_.out (by kernel_rfl)) (fun _ _ _ h => h) (Or.inl ⟨by rfl, ?_⟩) hHeld ?_ ?_
 rotate_left
 ·rintro w' ⟨s0, s1, s2, s3, s4⟩
  go_simp
  with_reducible rfl
 rotate_left
 ·simp only [Act.put, zw]
  rfl
 refine one_ (i := 8) (N := some 25) #[true, true, true, true, true, true, true, true, true, false, true, true, true, false, false, false] rfl rfl (one_of HT_.out (by kernel_rfl)) (by decide) (fun K hK => ?_)
 refine goes_ Tryz.func102 (by kernel_rfl) rfl #[.int .u32 t390, .int .u32 1, .int .i64 (wrap64 (a0_4 - 1))] (by rfl) rfl rfl (by (try simp only [zpa]); first | done | rfl | simp) ?_
 with_reducible refine (zob.calls t390 1 (wrap64 (a0_4 - 1)) t393 _ A8.out).mono ?_
 rintro e w' ⟨rfl, ⟨nd, rfl⟩⟩
 refine ⟨_, rfl, ?_⟩
 refine hK.out _ _ ⟨(zl BK388.out 0).trans rfl, (zl BK388.out 1).trans rfl, (zl BK388.out 2).trans rfl, (zl BK388.out 3).trans rfl, (zl BK388.out 4).trans rfl⟩ (fun hHeld => ?_)
 clear hK K
 refine norm_ (a' := ?_) ?_ ?_
 rotate_left
 ·show Act.put _ (some 25) _ = _
  simp only [Act.put, zw]
  rfl
 refine pure_ (i := 9) (N := some 26) (v := ?_) (a' := ?_) #[true, true, true, true, true, true, true, true, true, true, true, true, true, false, false, false] rfl rfl (zvb HT_.out (by kernel_rfl)) (fun _ _ _ h => h) (Or.inl ⟨by rfl, ?_⟩) ?_ ?_
 rotate_left
 ·intro w'
  go_simp
  with_reducible rfl
 rotate_left
 ·simp only [Act.put, zw]
  rfl
 refine one_ (i := 13) (N := some 30) #[true, true, true, true, true, true, true, true, true, true, true, true, true, true, false, false] rfl rfl (one_of HT_.out (by kernel_rfl)) (by decide) (fun K hK => ?_)
 refine goes_ Tryz.func102 (by kernel_rfl) rfl #[.int .u32 t390, .int .u32 2, .int .i64 a0_4] (by rfl) rfl rfl (by (try simp only [zpa]); first | done | rfl | simp) ?_
 with_reducible refine (zob.calls t390 2 a0_4 t394 _ A9.out).mono ?_
 rintro e w' ⟨rfl, ⟨nd, rfl⟩⟩
 refine ⟨_, rfl, ?_⟩
 refine hK.out _ _ ⟨(zl BK388.out 0).trans rfl, (zl BK388.out 1).trans rfl, (zl BK388.out 2).trans rfl, (zl BK388.out 3).trans rfl, (zl BK388.out 4).trans rfl⟩ (fun hHeld => ?_)
 clear hK K
 refine norm_ (a' := ?_) ?_ ?_
 rotate_left
 ·show Act.put _ (some 30) _ = _
  simp only [Act.put, zw]
  rfl
 refine pure_ (i := 14) (N := some 31) (v := ?_) (a' := ?_) #[true, true, true, true, true, true, true, true, true, true, true, true, true, true, true, false] rfl rfl (zvb HT_.out (by kernel_rfl)) (fun _ _ _ h => h) (Or.inl ⟨by rfl, ?_⟩) ?_ ?_
 rotate_left
 ·intro w'
  go_simp
  with_reducible rfl
 rotate_left
 ·simp only [Act.put, zw]
  rfl
 refine one_ (i := 15) (N := none) #[true, true, true, true, true, true, true, true, true, true, true, true, true, true, true, true] rfl rfl (one_of HT_.out (by kernel_rfl)) (by decide) (fun K hK => ?_)
 have hs13 : w12.cell? ⟨gb389, 0, none⟩ = some (.int .i64 0) := (zl BK389.out 0).trans rfl
 have hfs13 := zxb BK389.out 0
 have hns13_0 := NB388_389.out
 have hms13_0 := NB389_388.out
 have hs14 : w12.cell? ⟨gb389, 1, none⟩ = some (.int .i64 0) := (zl BK389.out 1).trans rfl
 have hfs14 := zxb BK389.out 1
 have hns14_0 := NB388_389.out
 have hms14_0 := NB389_388.out
 have hs15 : w12.cell? ⟨gb389, 2, none⟩ = some (.int .i64 0) := (zl BK389.out 2).trans rfl
 have hfs15 := zxb BK389.out 2
 have hns15_0 := NB388_389.out
 have hms15_0 := NB389_388.out
 refine skip_ (w1 := ?_) (by rfl) rfl ?_ ?_
 rotate_left
 ·go_simp
  rfl
 refine hK.out _ _ ⟨((cell_far (p := ⟨gb389, _, none⟩) NB388_389.out _).trans (((cell_far (p := ⟨gb389, _, none⟩) NB388_389.out _).trans (((cell_far (p := ⟨gb389, _, none⟩) NB388_389.out _).trans (hHeld.1)))))), ((cell_far (p := ⟨gb389, _, none⟩) NB388_389.out _).trans (((cell_far (p := ⟨gb389, _, none⟩) NB388_389.out _).trans (((cell_far (p := ⟨gb389, _, none⟩) NB388_389.out _).trans (hHeld.2.1)))))), ((cell_far (p := ⟨gb389, _, none⟩) NB388_389.out _).trans (((cell_far (p := ⟨gb389, _, none⟩) NB388_389.out _).trans (((cell_far (p := ⟨gb389, _, none⟩) NB388_389.out _).trans (hHeld.2.2.1)))))), ((cell_far (p := ⟨gb389, _, none⟩) NB388_389.out _).trans (((cell_far (p := ⟨gb389, _, none⟩) NB388_389.out _).trans (((cell_far (p := ⟨gb389, _, none⟩) NB388_389.out _).trans (hHeld.2.2.2.1)))))), ((cell_far (p := ⟨gb389, _, none⟩) NB388_389.out _).trans (((cell_far (p := ⟨gb389, _, none⟩) NB388_389.out _).trans (((cell_far (p := ⟨gb389, _, none⟩) NB388_389.out _).trans (hHeld.2.2.2.2))))))⟩ (fun hHeld => ?_)
 clear hK K
 refine done_ (done_of HT_.out (by kernel_rfl)) ?_
 try go_wp2
 refine bodyPost_ret (results_cell_row rfl _ _ gb389 125 #[.int .i64 ji7, .int .i64 (wrap64 (1 + t393)), .int .i64 t394] (0, 0) _ rfl (by (with_reducible repeat (first | refine zh ?_ _ | refine zj ?_ | refine zi ?_ _)); refine zzc (cs := #[.int .i64 ji7, .int .i64 (wrap64 (1 + t393)), .int .i64 0]) ?_ 2 _ rfl; (with_reducible repeat (first | refine zh ?_ _ | refine zj ?_ | refine zi ?_ _)); refine zzc (cs := #[.int .i64 ji7, .int .i64 0, .int .i64 0]) ?_ 1 _ rfl; (with_reducible repeat (first | refine zh ?_ _ | refine zj ?_ | refine zi ?_ _)); refine zzc (cs := #[.int .i64 0, .int .i64 0, .int .i64 0]) ?_ 0 _ rfl; (with_reducible repeat (first | refine zh ?_ _ | refine zj ?_ | refine zi ?_ _)); exact BK389.out) Tryz.underlying125 rfl (by kernel_rfl)) rfl ?_
 exact ⟨by first | rfl | (simp [zn, zo] <;> rfl) | (simp only [← hji7]; first | rfl | (simp [zn, zo] <;> rfl)) | (simp [*, zn, zo] <;> rfl), by apply_rules only [HB.out, ze, zb, zf, fun h => zg h GE388.out, fun h => zg h GE389.out]⟩
def ztc.l0 : Nat → Int → Int → Int → Int → Int → Int → Int → Int → Option (Int)
 | 0, _, _, _, _, _, _, _, _ => none
 | k + 1, x1, x2, x7, x371000, x371001, x371002, x371003, x371004 => if x7 < x371004 then (if x1 ≥ x371003 then (if x371004 = 0 then (none) else (ztc.l0 k (Int.tmod (wrap64 (x1 + x2)) x371004) x2 (wrap64 (x7 + 1)) x371000 x371001 x371002 x371003 x371004)) else (some x1)) else (some x1)
def ztc.f (k : Nat) (a0_0 : Int) (a0_1 : Int) (a0_2 : Int) (a0_3 : Int) (a0_4 : Int) (a1 : Int) (a2 : Int) : Option (Int) := ztc.l0 k a1 a2 0 a0_0 a0_1 a0_2 a0_3 a0_4
theorem ztc.calls (k : Nat) (a0_0 : Int) (a0_1 : Int) (a0_2 : Int) (a0_3 : Int) (a0_4 : Int) (a1 : Int) (a2 : Int) (r : Int) (w : World) (h : ztc.f k a0_0 a0_1 a0_2 a0_3 a0_4 a1 a2 = some r) :
  Calls Tryz.prog 99 #[.agg #[.int .i64 a0_0, .int .i64 a0_1, .int .i64 a0_2, .int .i64 a0_3, .int .i64 a0_4], .int .i64 a1, .int .i64 a2] w fun e w' => e = .returned (.int .i64 r) ∧ Below w.heap.size w w' := by
 have hu23 := Tryz.underlying23
 have HB := za.mk (Below.refl w.heap.size w)
 have H : (ztc.l0 k a1 a2 0 a0_0 a0_1 a0_2 a0_3 a0_4) = some r := h
 clear h
 have H' := za.mk H
 clear H
 go_enter Tryz.func99, Tryz.ntmps99
 go_wp2_with (first | ((with_reducible refine zza (N := 3) rfl ?_); refine zgc ?hg (N := 3) ?hd (cs := #[.int .i64 a0_0, .int .i64 a0_1, .int .i64 a0_2, .int .i64 a0_3, .int .i64 a0_4]) (t := 23) ?hr ?_; (case hd => rfl); (case hg => rfl); (case hr => first | (go_simp; done) | (go_simp; rfl)); intro gb370 hg w4 hbox hb; have n0_ := za.mk (zk (by apply_rules only [HB.out, ze, zb, zf]) hb); have n1_ := za.mk (hbox); have n2_ := za.mk ((by rw [hg]; exact (zm (by apply_rules only [HB.out, ze, zb, zf])) : w.heap.size ≤ gb370)); have n3_ := za.mk ((by rw [hg]; exact (zm (by apply_rules only [HB.out, ze, zb, zf])) : w.heap.size ≤ gb370)); clear HB; have HB := n0_; have BK370 := n1_; have GW370 := n2_; have GE370 := n3_; clear n0_ n1_ n2_ n3_; clear hb hbox hg))
 go_loopg [1, 7] k (fun kq v1 v7 w' => ∃ (x1_1 : Int) (x7_1 : Int), v1 = .int .i64 x1_1 ∧ v7 = .int .i64 x7_1 ∧ za (ztc.l0 kq x1_1 a2 x7_1 a0_0 a0_1 a0_2 a0_3 a0_4 = some r) ∧ za (kq ≤ k) ∧ za (w'.heap[gb370]? = some (.cells #[.int .i64 a0_0, .int .i64 a0_1, .int .i64 a0_2, .int .i64 a0_3, .int .i64 a0_4] 23 (0, 0))) ∧ za (Below w.heap.size w w'))
 case atStart => exact ⟨(a1), (0), (by first | rfl | simp [*]), (by first | rfl | simp [*]), H', ⟨Nat.le_refl _⟩, ⟨by apply_rules only [BK370.out, zh, zj, zi]⟩, ⟨by apply_rules only [HB.out, ze, zb, zf, fun h => zg h GE370.out]⟩⟩
 case round =>
  clear H'
  obtain ⟨x1_1, x7_1, rfl, rfl, HA, HK1, BK370, HB⟩ := hrel
  cases gk with
  | zero => exact absurd HA.out (by simp [ztc.l0])
  | succ k1 =>
   have H := HA.out
   clear HA
   simp only [ztc.l0] at H
   by_cases c5 : x7_1 < a0_4
   ·rw [if_pos c5] at H
    have c5b0 : decide (x7_1 < a0_4) = true := decide_eq_true c5
    clear c5
    by_cases c6 : x1_1 ≥ a0_3
    ·rw [if_pos c6] at H
     have c6b0 : decide (a0_3 ≤ x1_1) = true := decide_eq_true c6
     clear c6
     by_cases c7 : a0_4 = 0
     ·rw [if_pos c7] at H
      exact absurd H (by simp)
     ·rw [if_neg c7] at H
      have c7b0 : (a0_4 == 0) = false := beq_eq_false_iff_ne.mpr c7
      have c7b1 : (a0_4 != 0) = true := bne_iff_ne.mpr c7
      have H' := za.mk H
      clear H
      obtain ⟨hcz8_0, hcz8_1, hcz8_2, hcz8_3, hcz8_4⟩ := cells5 BK370.out
      obtain ⟨hfz8_0, hfz8_1, hfz8_2, hfz8_3, hfz8_4⟩ := zic BK370.out
      go_wp2
      go_roundg k1
      case measure => have := HK1.out; omega
      case rel => exact ⟨(Int.tmod (wrap64 (x1_1 + a2)) a0_4), (wrap64 (x7_1 + 1)), (by first | rfl | simp [*]), (by first | rfl | simp [*]), H', ⟨by have := HK1.out; omega⟩, ⟨by apply_rules only [BK370.out, zh, zj, zi]⟩, ⟨by apply_rules only [HB.out, ze, zb, zf, fun h => zg h GE370.out]⟩⟩
    ·rw [if_neg c6] at H
     have c6b0 : decide (a0_3 ≤ x1_1) = false := decide_eq_false c6
     clear c6
     obtain rfl := Option.some.inj H
     obtain ⟨hcz9_0, hcz9_1, hcz9_2, hcz9_3, hcz9_4⟩ := cells5 BK370.out
     obtain ⟨hfz9_0, hfz9_1, hfz9_2, hfz9_3, hfz9_4⟩ := zic BK370.out
     go_wp2
     go_ret
     exact ⟨by first | rfl | (simp [zn, zo] <;> rfl) | (simp [*, zn, zo] <;> rfl), by apply_rules only [HB.out, ze, zb, zf, fun h => zg h GE370.out]⟩
   ·rw [if_neg c5] at H
    have c5b0 : decide (x7_1 < a0_4) = false := decide_eq_false c5
    clear c5
    obtain rfl := Option.some.inj H
    obtain ⟨hcz10_0, hcz10_1, hcz10_2, hcz10_3, hcz10_4⟩ := cells5 BK370.out
    obtain ⟨hfz10_0, hfz10_1, hfz10_2, hfz10_3, hfz10_4⟩ := zic BK370.out
    go_wp2
    go_ret
    exact ⟨by first | rfl | (simp [zn, zo] <;> rfl) | (simp [*, zn, zo] <;> rfl), by apply_rules only [HB.out, ze, zb, zf, fun h => zg h GE370.out]⟩
def zbb.l0 : Nat → Int → List Int → Int → Int → Int → Int → Int → Int → Int → Int → Int → Option (List Int)
 | 0, _, _, _, _, _, _, _, _, _, _, _ => none
 | k + 1, x5, x6, x7, x372000, x372001, x372002, x372003, x372004, x373000, x373001, x373002 => if x7 < x373000 then (if x372004 = 0 then (none) else ((ztc.f k x372000 x372001 x372002 x372003 x372004 (Int.tmod (wrap64 (x5 + x373001)) x372004) x373001).bind fun t377 => (if x6.length < 17592186044416 then (zbb.l0 k t377 (x6 ++ [t377]) (wrap64 (x7 + 1)) x372000 x372001 x372002 x372003 x372004 x373000 x373001 x373002) else (none)))) else (some x6)
def zbb.f (k : Nat) (a0_0 : Int) (a0_1 : Int) (a0_2 : Int) (a0_3 : Int) (a0_4 : Int) (a1_0 : Int) (a1_1 : Int) (a1_2 : Int) : Option (List Int) := (ztc.f k a0_0 a0_1 a0_2 a0_3 a0_4 a1_2 a1_1).bind fun t373 => (zbb.l0 k t373 (([t373] : List Int)) 1 a0_0 a0_1 a0_2 a0_3 a0_4 a1_0 a1_1 a1_2)
def zbb.T6 : Bool × List (List Nat × List Nat) := (true, [([], []), ([], []), ([], []), ([2], [2]), ([1, 3], [1, 3]), ([], []), ([5], [5]), ([4, 6], [4, 6]), ([], []), ([8], [8]), ([0, 7, 9], [0, 7, 9]), ([10, 10, 0, 1, 2, 3, 4, 5, 6, 7, 8, 9, 10], [1, 10])])
def zbb.B6 : List Nat := [0, 0, 0, 4, 14, 0, 32, 126, 0, 256, 1023, 2047]
theorem zbb.tab6 : rtab .any (opsOf Tryz.f79 6) = zbb.T6 := by kernel_rfl
theorem zbb.bits6 : waitsOk zbb.T6.2 zbb.B6 = true := by kernel_rfl
theorem zbb.calls (k : Nat) (a0_0 : Int) (a0_1 : Int) (a0_2 : Int) (a0_3 : Int) (a0_4 : Int) (a1_0 : Int) (a1_1 : Int) (a1_2 : Int) (r : List Int) (w : World) (h : zbb.f k a0_0 a0_1 a0_2 a0_3 a0_4 a1_0 a1_1 a1_2 = some r) :
  Calls Tryz.prog 79 #[.agg #[.int .i64 a0_0, .int .i64 a0_1, .int .i64 a0_2, .int .i64 a0_3, .int .i64 a0_4], .agg #[.int .i64 a1_0, .int .i64 a1_1, .int .i64 a1_2]] w fun e w' => ∃ v0_ : Value, e = .returned (v0_) ∧ Kd.R (Kd.int .i64) 3 w' w.heap.size (fun _ => True) v0_ r ∧ Below w.heap.size w w' := by
 have hu23 := Tryz.underlying23
 have hu125 := Tryz.underlying125
 have HB := za.mk (Below.refl w.heap.size w)
 have H : ((ztc.f k a0_0 a0_1 a0_2 a0_3 a0_4 a1_2 a1_1).bind fun t373 => (zbb.l0 k t373 (([t373] : List Int)) 1 a0_0 a0_1 a0_2 a0_3 a0_4 a1_0 a1_1 a1_2)) = some r := h
 clear h
 replace H := Option.bind_eq_some_iff.mp H
 obtain ⟨t373, A30, H⟩ := H
 replace H : (zbb.l0 k t373 (([t373] : List Int)) 1 a0_0 a0_1 a0_2 a0_3 a0_4 a1_0 a1_1 a1_2) = some r := H
 have A3 := za.mk A30
 clear A30
 obtain ⟨y374, hy374⟩ : ∃ y_ : List Int, y_ = (([t373] : List Int)) := ⟨_, rfl⟩
 replace H : (zbb.l0 k t373 y374 1 a0_0 a0_1 a0_2 a0_3 a0_4 a1_0 a1_1 a1_2) = some r := by first | (rw [hy374]; with_reducible exact H) | (have H2_ := (Option.bind_some _ _).symm.trans H; rw [hy374]; with_reducible exact H2_) | (have H2_ := (Option.bind_some _ _).symm.trans H; with_reducible exact H2_) | with_reducible exact H | (rw [hy374]; exact H) | exact H
 have Ny374 := za.mk hy374
 clear hy374
 have H' := za.mk H
 clear H
 go_enter Tryz.func79, Tryz.ntmps79
 go_wp2_with (first | ((with_reducible refine zza (N := 2) rfl ?_); refine zgc ?hg (N := 2) ?hd (cs := #[.int .i64 a0_0, .int .i64 a0_1, .int .i64 a0_2, .int .i64 a0_3, .int .i64 a0_4]) (t := 23) ?hr ?_; (case hd => rfl); (case hg => rfl); (case hr => first | (go_simp; done) | (go_simp; rfl)); intro gb371 hg w4 hbox hb; have n0_ := za.mk (zk (by apply_rules only [HB.out, ze, zb, zf]) hb); have n1_ := za.mk (hbox); have n2_ := za.mk ((by rw [hg]; exact (zm (by apply_rules only [HB.out, ze, zb, zf])) : w.heap.size ≤ gb371)); have n3_ := za.mk ((by rw [hg]; exact (zm (by apply_rules only [HB.out, ze, zb, zf])) : w.heap.size ≤ gb371)); clear HB; have HB := n0_; have BK371 := n1_; have GW371 := n2_; have GE371 := n3_; clear n0_ n1_ n2_ n3_; clear hb hbox hg) | ((with_reducible refine zza (N := 3) rfl ?_); refine zgc ?hg (N := 3) ?hd (cs := #[.int .i64 a1_0, .int .i64 a1_1, .int .i64 a1_2]) (t := 125) ?hr ?_; (case hd => rfl); (case hg => rfl); (case hr => first | (go_simp; done) | (go_simp; rfl)); intro gb372 hg w5 hbox hb; have n0_ := za.mk (zy (g := gb371) (o := .cells #[.int .i64 a0_0, .int .i64 a0_1, .int .i64 a0_2, .int .i64 a0_3, .int .i64 a0_4] 23 (0, 0)) (by apply_rules only [BK371.out, zh, zj, zi]) hb); have n1_ := za.mk (zk (by apply_rules only [HB.out, ze, zb, zf, fun h => zg h GE371.out]) hb); have n2_ := za.mk (hbox); have n3_ := za.mk ((by rw [hg]; exact (zm (by apply_rules only [HB.out, ze, zb, zf, fun h => zg h GE371.out])) : w.heap.size ≤ gb372)); have n4_ := za.mk ((by rw [hg]; exact (zm (by apply_rules only [HB.out, ze, zb, zf, fun h => zg h GE371.out])) : w.heap.size ≤ gb372)); have n5_ := za.mk ((by rw [hg]; exact Nat.ne_of_lt (zpe (g := gb371) (o := .cells #[.int .i64 a0_0, .int .i64 a0_1, .int .i64 a0_2, .int .i64 a0_3, .int .i64 a0_4] 23 (0, 0)) (by apply_rules only [BK371.out, zh, zj, zi])) : gb371 ≠ gb372)); have n6_ := za.mk ((by rw [hg]; exact Nat.ne_of_gt (zpe (g := gb371) (o := .cells #[.int .i64 a0_0, .int .i64 a0_1, .int .i64 a0_2, .int .i64 a0_3, .int .i64 a0_4] 23 (0, 0)) (by apply_rules only [BK371.out, zh, zj, zi])) : gb372 ≠ gb371)); clear BK371; clear HB; have BK371 := n0_; have HB := n1_; have BK372 := n2_; have GW372 := n3_; have GE372 := n4_; have NB371_372 := n5_; have NB372_371 := n6_; clear n0_ n1_ n2_ n3_ n4_ n5_ n6_; clear hb hbox hg; have hnb6 := NB371_372.out; have hnc6 := NB372_371.out; obtain ⟨hcz7_0, hcz7_1, hcz7_2, hcz7_3, hcz7_4⟩ := cells5 BK371.out; obtain ⟨hfz7_0, hfz7_1, hfz7_2, hfz7_3, hfz7_4⟩ := zic BK371.out; obtain ⟨hcz8_0, hcz8_1, hcz8_2⟩ := cells3 BK372.out; have hfz8_0 := zxb BK372.out 0; have hfz8_1 := zxb BK372.out 1; have hfz8_2 := zxb BK372.out 2) | ((with_reducible refine zaa (f := 99) rfl ?_); refine zmc (some 13) rfl rfl Tryz.func99 (by kernel_rfl) rfl #[.agg #[.int .i64 a0_0, .int .i64 a0_1, .int .i64 a0_2, .int .i64 a0_3, .int .i64 a0_4], .int .i64 a1_2, .int .i64 a1_1] rfl (by (try simp only [zpa]); first | done | rfl | simp) ?_; (with_reducible refine (ztc.calls k a0_0 a0_1 a0_2 a0_3 a0_4 a1_2 a1_1 t373 _ A3.out).mono ?_); rintro e w9 ⟨rfl, hb⟩; refine ⟨_, rfl, ?_⟩; have n0_ := za.mk (zy (g := gb371) (o := .cells #[.int .i64 a0_0, .int .i64 a0_1, .int .i64 a0_2, .int .i64 a0_3, .int .i64 a0_4] 23 (0, 0)) (by apply_rules only [BK371.out, zh, zj, zi]) hb); have n1_ := za.mk (zy (g := gb372) (o := .cells #[.int .i64 a1_0, .int .i64 a1_1, .int .i64 a1_2] 125 (0, 0)) (by apply_rules only [BK372.out, zh, zj, zi]) hb); have n2_ := za.mk (zk (by apply_rules only [HB.out, ze, zb, zf, fun h => zg h GE371.out, fun h => zg h GE372.out]) hb); clear BK371; clear BK372; clear HB; have BK371 := n0_; have BK372 := n1_; have HB := n2_; clear n0_ n1_ n2_; (try clear hb); (try clear hb2); (try clear hk); (try clear hi)) | ((with_reducible refine zza (N := 15) rfl ?_); refine Kd.R_lit (Kd.int .i64) _ 3 ?hg (N := 15) ?hd (xs := ([t373] : List Int)) (inner := [.int .i64 t373]) (ok := fun _ => True) (okp := fun _ => True) ?hr ?hp (fun _ hk => hk) trivial (Below.refl _ _) (Nat.le_refl _) (by simp) ?_; (case hd => rfl); (case hg => rfl); (case hr => first | (go_simp; done) | (go_simp; rfl)); (case hp => exact (Reps.one (show Kd.M (Kd.int .i64) _ _ _ t373 [.int .i64 t373] from rfl) (Reps.none _ _))); intro v375 w10 ho11 hb hg_ hnew_; clear hg_ hnew_; (first | rw [← Ny374.out] at ho11 | (simp only [Int.reduceToNat] at ho11; rw [← Ny374.out] at ho11)); have n0_ := za.mk (Kd.zcd ho11 (zm (by apply_rules only [HB.out, ze, zb, zf, fun h => zg h GE371.out, fun h => zg h GE372.out]))); have n1_ := za.mk (zy (g := gb371) (o := .cells #[.int .i64 a0_0, .int .i64 a0_1, .int .i64 a0_2, .int .i64 a0_3, .int .i64 a0_4] 23 (0, 0)) (by apply_rules only [BK371.out, zh, zj, zi]) hb); have n2_ := za.mk (zy (g := gb372) (o := .cells #[.int .i64 a1_0, .int .i64 a1_1, .int .i64 a1_2] 125 (0, 0)) (by apply_rules only [BK372.out, zh, zj, zi]) hb); have n3_ := za.mk (zk (by apply_rules only [HB.out, ze, zb, zf, fun h => zg h GE371.out, fun h => zg h GE372.out]) hb); clear BK371; clear BK372; clear HB; have HO376 := n0_; have BK371 := n1_; have BK372 := n2_; have HB := n3_; clear n0_ n1_ n2_ n3_; clear hb ho11))
 go_loopg [5, 6, 7] k (fun kq v5 v6 v7 w' => ∃ (x5_1 : Int) (x6_1 : List Int) (x7_1 : Int), v5 = .int .i64 x5_1 ∧ v7 = .int .i64 x7_1 ∧ za (zbb.l0 kq x5_1 x6_1 x7_1 a0_0 a0_1 a0_2 a0_3 a0_4 a1_0 a1_1 a1_2 = some r) ∧ za (kq ≤ k) ∧ za (Kd.R (Kd.int .i64) 3 w' w.heap.size (fun _ => True) v6 x6_1) ∧ za (w'.heap[gb371]? = some (.cells #[.int .i64 a0_0, .int .i64 a0_1, .int .i64 a0_2, .int .i64 a0_3, .int .i64 a0_4] 23 (0, 0))) ∧ za (w'.heap[gb372]? = some (.cells #[.int .i64 a1_0, .int .i64 a1_1, .int .i64 a1_2] 125 (0, 0))) ∧ za (Below w.heap.size w w'))
 case atStart => exact ⟨(t373), (y374), (1), (by first | rfl | simp [*]), (by first | rfl | simp [*]), H', ⟨Nat.le_refl _⟩, ⟨by apply_rules only [HO376.out, Kd.zka, Kd.zja, Kd.zya]⟩, ⟨by apply_rules only [BK371.out, zh, zj, zi]⟩, ⟨by apply_rules only [BK372.out, zh, zj, zi]⟩, ⟨by apply_rules only [HB.out, ze, zb, zf, fun h => zg h GE371.out, fun h => zg h GE372.out]⟩⟩
 case round =>
  clear H'
  obtain ⟨x5_1, x6_1, x7_1, rfl, rfl, HA, HK1, HO_6, BK371, BK372, HB⟩ := hrel
  cases gk with
  | zero => exact absurd HA.out (by simp [zbb.l0])
  | succ k1 =>
   have H := HA.out
   clear HA
   simp only [zbb.l0] at H
   by_cases c12 : x7_1 < a1_0
   ·rw [if_pos c12] at H
    have c12b0 : decide (x7_1 < a1_0) = true := decide_eq_true c12
    clear c12
    by_cases c13 : a0_4 = 0
    ·rw [if_pos c13] at H
     exact absurd H (by simp)
    ·rw [if_neg c13] at H
     have c13b0 : (a0_4 == 0) = false := beq_eq_false_iff_ne.mpr c13
     have c13b1 : (a0_4 != 0) = true := bne_iff_ne.mpr c13
     replace H := Option.bind_eq_some_iff.mp H
     obtain ⟨t377, A140, H⟩ := H
     replace H : (if x6_1.length < 17592186044416 then (zbb.l0 k1 t377 (x6_1 ++ [t377]) (wrap64 (x7_1 + 1)) a0_0 a0_1 a0_2 a0_3 a0_4 a1_0 a1_1 a1_2) else (none)) = some r := H
     have A14 := za.mk A140
     clear A140
     by_cases c15 : x6_1.length < 17592186044416
     ·rw [if_pos c15] at H
      have LMc15 := za.mk c15
      clear c15
      obtain ⟨y378, hy378⟩ : ∃ y_ : List Int, y_ = (x6_1 ++ [t377]) := ⟨_, rfl⟩
      replace H : (zbb.l0 k1 t377 y378 (wrap64 (x7_1 + 1)) a0_0 a0_1 a0_2 a0_3 a0_4 a1_0 a1_1 a1_2) = some r := by first | (rw [hy378]; with_reducible exact H) | (have H2_ := (Option.bind_some _ _).symm.trans H; rw [hy378]; with_reducible exact H2_) | (have H2_ := (Option.bind_some _ _).symm.trans H; with_reducible exact H2_) | with_reducible exact H | (rw [hy378]; exact H) | exact H
      have Ny378 := za.mk hy378
      clear hy378
      have H' := za.mk H
      clear H
      have hnb16 := NB372_371.out
      have hnc16 := NB371_372.out
      obtain ⟨hcz17_0, hcz17_1, hcz17_2⟩ := cells3 BK372.out
      have hfz17_0 := zxb BK372.out 0
      have hfz17_1 := zxb BK372.out 1
      have hfz17_2 := zxb BK372.out 2
      try go_wp2
      have n0_ := za.mk (Kd.zya HO_6.out)
      have n1_ := za.mk (zj BK371.out)
      have n2_ := za.mk (zj BK372.out)
      have n3_ := za.mk (zf HB.out)
      clear HO_6
      clear BK371
      clear BK372
      clear HB
      have HO_6 := n0_
      have BK371 := n1_
      have BK372 := n2_
      have HB := n3_
      clear n0_ n1_ n2_ n3_
      refine zsf (n := 12) (S := fun w' => w'.cell? ⟨gb371, 0, none⟩ = some (.int .i64 a0_0) ∧ w'.cell? ⟨gb371, 1, none⟩ = some (.int .i64 a0_1) ∧ w'.cell? ⟨gb371, 2, none⟩ = some (.int .i64 a0_2) ∧ w'.cell? ⟨gb371, 3, none⟩ = some (.int .i64 a0_3) ∧ w'.cell? ⟨gb371, 4, none⟩ = some (.int .i64 a0_4) ∧ w'.cell? ⟨gb372, 0, none⟩ = some (.int .i64 a1_0) ∧ w'.cell? ⟨gb372, 1, none⟩ = some (.int .i64 a1_1) ∧ w'.cell? ⟨gb372, 2, none⟩ = some (.int .i64 a1_2)) (ds := []) #[false, false, false, false, false, false, false, false, false, false, false, false] (by kernel_rfl) rfl rfl ⟨(zl BK371.out 0).trans rfl, (zl BK371.out 1).trans rfl, (zl BK371.out 2).trans rfl, (zl BK371.out 3).trans rfl, (zl BK371.out 4).trans rfl, (zl BK372.out 0).trans rfl, (zl BK372.out 1).trans rfl, (zl BK372.out 2).trans rfl⟩ (fun hHeld => ?_); refine zke zbb.tab6 zbb.bits6 (fun HT_ HW_ => ?_)
      generalize wr.drew = w18 at HO_6 BK371 BK372 HB hHeld ⊢
      refine pure_ (i := 1) (N := some 23) (v := ?_) (a' := ?_) #[false, true, false, false, false, false, false, false, false, false, false, false] rfl rfl (zvb HT_.out (by kernel_rfl)) (fun _ _ _ h => h) (Or.inl ⟨by rfl, ?_⟩) ?_ ?_
      rotate_left
      ·intro w'
       go_simp
       with_reducible rfl
      rotate_left
      ·simp only [Act.put, zw]
       rfl
      refine pure_ (i := 2) (N := some 24) (v := ?_) (a' := ?_) #[false, true, true, false, false, false, false, false, false, false, false, false] rfl rfl (zvb HT_.out (by kernel_rfl)) (fun _ _ _ h => h) (Or.inl ⟨by rfl, ?_⟩) ?_ ?_
      rotate_left
      ·intro w'
       go_simp
       with_reducible rfl
      rotate_left
      ·simp only [Act.put, zw]
       rfl
      refine pure_ (i := 5) (N := some 27) (v := ?_) (a' := ?_) #[false, true, true, false, false, true, false, false, false, false, false, false] rfl rfl (zvb HT_.out (by kernel_rfl)) (fun _ _ _ h => h) (Or.inl ⟨by rfl, ?_⟩) ?_ ?_
      rotate_left
      ·intro w'
       go_simp
       with_reducible rfl
      rotate_left
      ·simp only [Act.put, zw]
       rfl
      refine pure_ (i := 8) (N := some 30) (v := ?_) (a' := ?_) #[false, true, true, false, false, true, false, false, true, false, false, false] rfl rfl (zvb HT_.out (by kernel_rfl)) (fun _ _ _ h => h) (Or.inl ⟨by rfl, ?_⟩) ?_ ?_
      rotate_left
      ·intro w'
       go_simp
       with_reducible rfl
      rotate_left
      ·simp only [Act.put, zw]
       rfl
      refine take_ (i := 0) (N := some 22) (v := ?_) (a' := ?_) #[true, true, true, false, false, true, false, false, true, false, false, false] rfl rfl (zje HT_.out HW_.out (by kernel_rfl)) (fun _ _ _ h => h) (Or.inl ⟨by rfl, ?_⟩) hHeld ?_ ?_
      rotate_left
      ·rintro w' ⟨s0, s1, s2, s3, s4, s5, s6, s7⟩
       go_simp
       with_reducible rfl
      rotate_left
      ·simp only [Act.put, zw]
       rfl
      refine take_ (i := 3) (N := some 25) (v := ?_) (a' := ?_) #[true, true, true, true, false, true, false, false, true, false, false, false] rfl rfl (zje HT_.out HW_.out (by kernel_rfl)) (fun _ _ _ h => h) (Or.inl ⟨by rfl, ?_⟩) hHeld ?_ ?_
      rotate_left
      ·rintro w' ⟨s0, s1, s2, s3, s4, s5, s6, s7⟩
       go_simp
       with_reducible rfl
      rotate_left
      ·simp only [Act.put, zw]
       rfl
      refine pure_ (i := 4) (N := some 26) (v := ?_) (a' := ?_) #[true, true, true, true, true, true, false, false, true, false, false, false] rfl rfl (zvb HT_.out (by kernel_rfl)) (fun _ _ _ h => h) (Or.inl ⟨by rfl, ?_⟩) ?_ ?_
      rotate_left
      ·intro w'
       go_simp
       with_reducible rfl
      rotate_left
      ·simp only [Act.put, zw]
       rfl
      refine take_ (i := 6) (N := some 28) (v := ?_) (a' := ?_) #[true, true, true, true, true, true, true, false, true, false, false, false] rfl rfl (zje HT_.out HW_.out (by kernel_rfl)) (fun _ _ _ h => h) (Or.inl ⟨by rfl, ?_⟩) hHeld ?_ ?_
      rotate_left
      ·rintro w' ⟨s0, s1, s2, s3, s4, s5, s6, s7⟩
       go_simp
       with_reducible rfl
      rotate_left
      ·simp only [Act.put, zw]
       rfl
      refine pure_ (i := 7) (N := some 29) (v := ?_) (a' := ?_) #[true, true, true, true, true, true, true, true, true, false, false, false] rfl rfl (zvb HT_.out (by kernel_rfl)) (fun _ _ _ h => h) (Or.inl ⟨by rfl, ?_⟩) ?_ ?_
      rotate_left
      ·intro w'
       go_simp
       with_reducible rfl
      rotate_left
      ·simp only [Act.put, zw]
       rfl
      refine take_ (i := 9) (N := some 31) (v := ?_) (a' := ?_) #[true, true, true, true, true, true, true, true, true, true, false, false] rfl rfl (zje HT_.out HW_.out (by kernel_rfl)) (fun _ _ _ h => h) (Or.inl ⟨by rfl, ?_⟩) hHeld ?_ ?_
      rotate_left
      ·rintro w' ⟨s0, s1, s2, s3, s4, s5, s6, s7⟩
       go_simp
       with_reducible rfl
      rotate_left
      ·simp only [Act.put, zw]
       rfl
      refine one_ (i := 10) (N := some 32) #[true, true, true, true, true, true, true, true, true, true, true, false] rfl rfl (one_of HT_.out (by kernel_rfl)) (by decide) (fun K hK => ?_)
      refine goes_ Tryz.func99 (by kernel_rfl) rfl #[.agg #[.int .i64 a0_0, .int .i64 a0_1, .int .i64 a0_2, .int .i64 a0_3, .int .i64 a0_4], .int .i64 (Int.tmod (wrap64 (x5_1 + a1_1)) a0_4), .int .i64 a1_1] (by rfl) rfl rfl (by (try simp only [zpa]); first | done | rfl | simp) ?_
      with_reducible refine (ztc.calls k1 a0_0 a0_1 a0_2 a0_3 a0_4 (Int.tmod (wrap64 (x5_1 + a1_1)) a0_4) a1_1 t377 _ A14.out).mono ?_
      rintro e w19 ⟨rfl, hb⟩
      refine ⟨_, rfl, ?_⟩
      have n0_ := za.mk (Kd.zvd (by apply_rules only [HO_6.out, Kd.zka, Kd.zja, Kd.zya]) hb)
      have n1_ := za.mk (zy (g := gb371) (o := .cells #[.int .i64 a0_0, .int .i64 a0_1, .int .i64 a0_2, .int .i64 a0_3, .int .i64 a0_4] 23 (0, 0)) (by apply_rules only [BK371.out, zh, zj, zi]) hb)
      have n2_ := za.mk (zy (g := gb372) (o := .cells #[.int .i64 a1_0, .int .i64 a1_1, .int .i64 a1_2] 125 (0, 0)) (by apply_rules only [BK372.out, zh, zj, zi]) hb)
      have n3_ := za.mk (zk (by apply_rules only [HB.out, ze, zb, zf, fun h => zg h GE371.out, fun h => zg h GE372.out]) hb)
      clear HO_6
      clear BK371
      clear BK372
      clear HB
      have HO_6 := n0_
      have BK371 := n1_
      have BK372 := n2_
      have HB := n3_
      clear n0_ n1_ n2_ n3_
      (try clear hb)
      (try clear hb2)
      (try clear hk)
      (try clear hi)
      refine hK.out _ _ ⟨(zl BK371.out 0).trans rfl, (zl BK371.out 1).trans rfl, (zl BK371.out 2).trans rfl, (zl BK371.out 3).trans rfl, (zl BK371.out 4).trans rfl, (zl BK372.out 0).trans rfl, (zl BK372.out 1).trans rfl, (zl BK372.out 2).trans rfl⟩ (fun hHeld => ?_)
      clear hK K
      refine norm_ (a' := ?_) ?_ ?_
      rotate_left
      ·show Act.put _ (some 32) _ = _
       simp only [Act.put, zw]
       rfl
      refine pure_ (i := 11) (N := some 5) (v := ?_) (a' := ?_) #[true, true, true, true, true, true, true, true, true, true, true, true] rfl rfl (zvb HT_.out (by kernel_rfl)) (fun _ _ _ h => h) (Or.inl ⟨by rfl, ?_⟩) ?_ ?_
      rotate_left
      ·intro w'
       go_simp
       with_reducible rfl
      rotate_left
      ·simp only [Act.put, zw]
       rfl
      refine done_ (done_of HT_.out (by kernel_rfl)) ?_
      try go_wp2_with (first | ((with_reducible refine zdd (b := .append) (xs := #[.tmp 33, .tmp 35]) rfl ?_); at_builtin; refine Kd.zof (Kd.int .i64) (w0 := w) w.heap.size rfl (.tmp 33) (.tmp 35) 31 3 (.int .i64 0) 8 rfl Tryz.underlying31 info3 rfl (by decide) (by omega) u6 x6_1 t377 [.int .i64 t377] (fun _ => True) (fun _ => False) rfl rfl ?aP (fun _ hk => hk.elim) ?aF ?aO ?aB ?aS ?aL ?_; (case aP => exact rfl); (case aB => exact (by apply_rules only [HB.out, ze, zb, zf, fun h => zg h GE371.out, fun h => zg h GE372.out])); (case aF => exact (fun _ _ => trivial)); (case aO => exact (by apply_rules only [HO_6.out, Kd.zka, Kd.zja, Kd.zya])); (case aS => exact (zm (by apply_rules only [HB.out, ze, zb, zf, fun h => zg h GE371.out, fun h => zg h GE372.out]))); (case aL => have := LMc15.out; omega); intro v379 w20 ho hb hg hat; rw [← Ny378.out] at ho; have n0_ := za.mk (zwc (g := gb371) (o := .cells #[.int .i64 a0_0, .int .i64 a0_1, .int .i64 a0_2, .int .i64 a0_3, .int .i64 a0_4] 23 (0, 0)) (by apply_rules only [BK371.out, zh, zj, zi]) hg (Kd.R_ne HO_6.out BK371.out (by decide))); have n1_ := za.mk (zwc (g := gb372) (o := .cells #[.int .i64 a1_0, .int .i64 a1_1, .int .i64 a1_2] 125 (0, 0)) (by apply_rules only [BK372.out, zh, zj, zi]) hg (Kd.R_ne HO_6.out BK372.out (by decide))); have n2_ := za.mk (hb); have n3_ := za.mk (ho); clear BK371; clear BK372; clear HB; clear HO_6; have BK371 := n0_; have BK372 := n1_; have HB := n2_; have HO380 := n3_; clear n0_ n1_ n2_ n3_; clear ho hb hg hat))
      go_roundg k1
      case measure => have := HK1.out; omega
      case rel => exact ⟨(t377), (y378), (wrap64 (x7_1 + 1)), (by first | rfl | simp [*]), (by first | rfl | simp [*]), H', ⟨by have := HK1.out; omega⟩, ⟨by apply_rules only [HO380.out, Kd.zka, Kd.zja, Kd.zya]⟩, ⟨by apply_rules only [BK371.out, zh, zj, zi]⟩, ⟨by apply_rules only [BK372.out, zh, zj, zi]⟩, ⟨by apply_rules only [HB.out, ze, zb, zf, fun h => zg h GE371.out, fun h => zg h GE372.out]⟩⟩
     ·rw [if_neg c15] at H
      exact absurd H (by simp)
   ·rw [if_neg c12] at H
    have c12b0 : decide (x7_1 < a1_0) = false := decide_eq_false c12
    clear c12
    obtain rfl := Option.some.inj H
    have hnb21 := NB372_371.out
    have hnc21 := NB371_372.out
    obtain ⟨hcz22_0, hcz22_1, hcz22_2⟩ := cells3 BK372.out
    have hfz22_0 := zxb BK372.out 0
    have hfz22_1 := zxb BK372.out 1
    have hfz22_2 := zxb BK372.out 2
    go_wp2
    go_ret
    exact ⟨_, by first | rfl | (simp [zn, zo] <;> rfl) | (simp [*, zn, zo] <;> rfl), by apply_rules only [HO_6.out, Kd.zka, Kd.zja, Kd.zya], by apply_rules only [HB.out, ze, zb, zf, fun h => zg h GE371.out, fun h => zg h GE372.out]⟩
def zub.l0 : Nat → List Int → List Int → Int → Int → Int → Int → Int → Int → Option (List Int)
 | 0, _, _, _, _, _, _, _, _ => none
 | k + 1, x7, x8, x9, x397000, x397001, x397002, x397003, x397004 => if x9 < x397003 then ((zqc.f k x7 x9).bind fun t406 => (if t406 = true then (if x8.length < 17592186044416 then (zub.l0 k x7 (x8 ++ [x9]) (wrap64 (x9 + 1)) x397000 x397001 x397002 x397003 x397004) else (none)) else (zub.l0 k x7 x8 (wrap64 (x9 + 1)) x397000 x397001 x397002 x397003 x397004))) else (some x8)
def zub.f (k : Nat) (a0_0 : Int) (a0_1 : Int) (a0_2 : Int) (a0_3 : Int) (a0_4 : Int) (a1 : Int) (a2 : Int) : Option (List Int) := (zpc.f a0_0 a0_1 a0_2 a0_3 a0_4 a1 a2).bind fun bt397 => ((zbb.f k a0_0 a0_1 a0_2 a0_3 a0_4 bt397.1 bt397.2.1 bt397.2.2).bind fun t400 => (zub.l0 k t400 (([] : List Int)) 0 a0_0 a0_1 a0_2 a0_3 a0_4))
theorem zub.calls (k : Nat) (a0_0 : Int) (a0_1 : Int) (a0_2 : Int) (a0_3 : Int) (a0_4 : Int) (a1 : Int) (a2 : Int) (r : List Int) (w : World) (h : zub.f k a0_0 a0_1 a0_2 a0_3 a0_4 a1 a2 = some r) :
  Calls Tryz.prog 55 #[.agg #[.int .i64 a0_0, .int .i64 a0_1, .int .i64 a0_2, .int .i64 a0_3, .int .i64 a0_4], .int .i64 a1, .int .i64 a2] w fun e w' => ∃ v0_ : Value, e = .returned (v0_) ∧ Kd.R (Kd.int .i64) 3 w' w.heap.size (fun _ => True) v0_ r ∧ Below w.heap.size w w' := by
 have hu23 := Tryz.underlying23
 have HB := za.mk (Below.refl w.heap.size w)
 have H : ((zpc.f a0_0 a0_1 a0_2 a0_3 a0_4 a1 a2).bind fun bt397 => ((zbb.f k a0_0 a0_1 a0_2 a0_3 a0_4 bt397.1 bt397.2.1 bt397.2.2).bind fun t400 => (zub.l0 k t400 (([] : List Int)) 0 a0_0 a0_1 a0_2 a0_3 a0_4))) = some r := h
 clear h
 replace H := Option.bind_eq_some_iff.mp H
 obtain ⟨⟨t397, t398, t399⟩, A40, H⟩ := H
 replace H : ((zbb.f k a0_0 a0_1 a0_2 a0_3 a0_4 t397 t398 t399).bind fun t400 => (zub.l0 k t400 (([] : List Int)) 0 a0_0 a0_1 a0_2 a0_3 a0_4)) = some r := H
 have A4 := za.mk A40
 clear A40
 replace H := Option.bind_eq_some_iff.mp H
 obtain ⟨t400, A50, H⟩ := H
 replace H : (zub.l0 k t400 (([] : List Int)) 0 a0_0 a0_1 a0_2 a0_3 a0_4) = some r := H
 have A5 := za.mk A50
 clear A50
 obtain ⟨y403, hy403⟩ : ∃ y_ : List Int, y_ = (([] : List Int)) := ⟨_, rfl⟩
 replace H : (zub.l0 k t400 y403 0 a0_0 a0_1 a0_2 a0_3 a0_4) = some r := by first | (rw [hy403]; with_reducible exact H) | (have H2_ := (Option.bind_some _ _).symm.trans H; rw [hy403]; with_reducible exact H2_) | (have H2_ := (Option.bind_some _ _).symm.trans H; with_reducible exact H2_) | with_reducible exact H | (rw [hy403]; exact H) | exact H
 have Ny403 := za.mk hy403
 clear hy403
 have H' := za.mk H
 clear H
 go_enter Tryz.func55, Tryz.ntmps55
 try go_wp2_with (first | ((with_reducible refine zza (N := 3) rfl ?_); refine zgc ?hg (N := 3) ?hd (cs := #[.int .i64 a0_0, .int .i64 a0_1, .int .i64 a0_2, .int .i64 a0_3, .int .i64 a0_4]) (t := 23) ?hr ?_; (case hd => rfl); (case hg => rfl); (case hr => first | (go_simp; done) | (go_simp; rfl)); intro gb396 hg w6 hbox hb; have n0_ := za.mk (zk (by apply_rules only [HB.out, ze, zb, zf]) hb); have n1_ := za.mk (hbox); have n2_ := za.mk ((by rw [hg]; exact (zm (by apply_rules only [HB.out, ze, zb, zf])) : w.heap.size ≤ gb396)); have n3_ := za.mk ((by rw [hg]; exact (zm (by apply_rules only [HB.out, ze, zb, zf])) : w.heap.size ≤ gb396)); clear HB; have HB := n0_; have BK396 := n1_; have GW396 := n2_; have GE396 := n3_; clear n0_ n1_ n2_ n3_; clear hb hbox hg))
 have n0_ := za.mk (zj BK396.out)
 have n1_ := za.mk (zf HB.out)
 clear BK396
 clear HB
 have BK396 := n0_
 have HB := n1_
 clear n0_ n1_
 refine zsf (n := 7) (S := fun w' => w'.cell? ⟨gb396, 0, none⟩ = some (.int .i64 a0_0) ∧ w'.cell? ⟨gb396, 1, none⟩ = some (.int .i64 a0_1) ∧ w'.cell? ⟨gb396, 2, none⟩ = some (.int .i64 a0_2) ∧ w'.cell? ⟨gb396, 3, none⟩ = some (.int .i64 a0_3) ∧ w'.cell? ⟨gb396, 4, none⟩ = some (.int .i64 a0_4)) (ds := []) #[false, false, false, false, false, false, false] (by kernel_rfl) rfl rfl ⟨(zl BK396.out 0).trans rfl, (zl BK396.out 1).trans rfl, (zl BK396.out 2).trans rfl, (zl BK396.out 3).trans rfl, (zl BK396.out 4).trans rfl⟩ (fun hHeld => ?_)
 generalize w6.drew = w7 at BK396 HB hHeld ⊢
 refine pure_ (i := 2) (N := some 12) (v := ?_) (a' := ?_) #[false, false, true, false, false, false, false] rfl rfl (by kernel_rfl) (fun _ _ _ h => h) (Or.inl ⟨by rfl, ?_⟩) ?_ ?_
 rotate_left
 ·intro w'
  go_simp
  with_reducible rfl
 rotate_left
 ·simp only [Act.put, zw]
  rfl
 refine pure_ (i := 3) (N := some 13) (v := ?_) (a' := ?_) #[false, false, true, true, false, false, false] rfl rfl (by kernel_rfl) (fun _ _ _ h => h) (Or.inl ⟨by rfl, ?_⟩) ?_ ?_
 rotate_left
 ·intro w'
  go_simp
  with_reducible rfl
 rotate_left
 ·simp only [Act.put, zw]
  rfl
 refine take_ (i := 0) (N := some 10) (v := ?_) (a' := ?_) #[true, false, true, true, false, false, false] rfl rfl (by kernel_rfl) (fun _ _ _ h => h) (Or.inl ⟨by rfl, ?_⟩) hHeld ?_ ?_
 rotate_left
 ·rintro w' ⟨s0, s1, s2, s3, s4⟩
  go_simp
  with_reducible rfl
 rotate_left
 ·simp only [Act.put, zw]
  rfl
 refine take_ (i := 1) (N := some 11) (v := ?_) (a' := ?_) #[true, true, true, true, false, false, false] rfl rfl (by kernel_rfl) (fun _ _ _ h => h) (Or.inl ⟨by rfl, ?_⟩) hHeld ?_ ?_
 rotate_left
 ·rintro w' ⟨s0, s1, s2, s3, s4⟩
  go_simp
  with_reducible rfl
 rotate_left
 ·simp only [Act.put, zw]
  rfl
 refine one_ (i := 4) (N := some 14) #[true, true, true, true, true, false, false] rfl rfl (by kernel_rfl) (by decide) (fun K hK => ?_)
 refine goes_ Tryz.func80 (by kernel_rfl) rfl #[.agg #[.int .i64 a0_0, .int .i64 a0_1, .int .i64 a0_2, .int .i64 a0_3, .int .i64 a0_4], .int .i64 a1, .int .i64 a2] (by rfl) rfl rfl (by (try simp only [zpa]); first | done | rfl | simp) ?_
 with_reducible refine (zpc.calls a0_0 a0_1 a0_2 a0_3 a0_4 a1 a2 t397 t398 t399 _ A4.out).mono ?_
 rintro e w8 ⟨rfl, hb⟩
 refine ⟨_, rfl, ?_⟩
 have n0_ := za.mk (zy (g := gb396) (o := .cells #[.int .i64 a0_0, .int .i64 a0_1, .int .i64 a0_2, .int .i64 a0_3, .int .i64 a0_4] 23 (0, 0)) (by apply_rules only [BK396.out, zh, zj, zi]) hb)
 have n1_ := za.mk (zk (by apply_rules only [HB.out, ze, zb, zf, fun h => zg h GE396.out]) hb)
 clear BK396
 clear HB
 have BK396 := n0_
 have HB := n1_
 clear n0_ n1_
 (try clear hb)
 (try clear hb2)
 (try clear hk)
 (try clear hi)
 refine hK.out _ _ ⟨(zl BK396.out 0).trans rfl, (zl BK396.out 1).trans rfl, (zl BK396.out 2).trans rfl, (zl BK396.out 3).trans rfl, (zl BK396.out 4).trans rfl⟩ (fun hHeld => ?_)
 clear hK K
 refine norm_ (a' := ?_) ?_ ?_
 rotate_left
 ·show Act.put _ (some 14) _ = _
  simp only [Act.put, zw]
  rfl
 refine one_ (i := 5) (N := some 15) #[true, true, true, true, true, true, false] rfl rfl (by kernel_rfl) (by decide) (fun K hK => ?_)
 refine goes_ Tryz.func79 (by kernel_rfl) rfl #[.agg #[.int .i64 a0_0, .int .i64 a0_1, .int .i64 a0_2, .int .i64 a0_3, .int .i64 a0_4], .agg #[.int .i64 t397, .int .i64 t398, .int .i64 t399]] (by rfl) rfl rfl (by (try simp only [zpa]); first | done | rfl | simp) ?_
 with_reducible refine (zbb.calls k a0_0 a0_1 a0_2 a0_3 a0_4 t397 t398 t399 t400 _ A5.out).mono ?_
 rintro e w9 ⟨v401, rfl, ho0, hb⟩
 refine ⟨_, rfl, ?_⟩
 have n0_ := za.mk (Kd.zcd ho0 (zm (by apply_rules only [HB.out, ze, zb, zf, fun h => zg h GE396.out])))
 have n1_ := za.mk (zy (g := gb396) (o := .cells #[.int .i64 a0_0, .int .i64 a0_1, .int .i64 a0_2, .int .i64 a0_3, .int .i64 a0_4] 23 (0, 0)) (by apply_rules only [BK396.out, zh, zj, zi]) hb)
 have n2_ := za.mk (zk (by apply_rules only [HB.out, ze, zb, zf, fun h => zg h GE396.out]) hb)
 clear BK396
 clear HB
 have HO402 := n0_
 have BK396 := n1_
 have HB := n2_
 clear n0_ n1_ n2_
 (try clear hb)
 (try clear hb2)
 (try clear hk)
 (try clear hi)
 (try clear ho0)
 refine hK.out _ _ ⟨(zl BK396.out 0).trans rfl, (zl BK396.out 1).trans rfl, (zl BK396.out 2).trans rfl, (zl BK396.out 3).trans rfl, (zl BK396.out 4).trans rfl⟩ (fun hHeld => ?_)
 clear hK K
 refine norm_ (a' := ?_) ?_ ?_
 rotate_left
 ·show Act.put _ (some 15) _ = _
  simp only [Act.put, zw]
  rfl
 refine pure_ (i := 6) (N := some 7) (v := ?_) (a' := ?_) #[true, true, true, true, true, true, true] rfl rfl (by kernel_rfl) (fun _ _ _ h => h) (Or.inl ⟨by rfl, ?_⟩) ?_ ?_
 rotate_left
 ·intro w'
  go_simp
  with_reducible rfl
 rotate_left
 ·simp only [Act.put, zw]
  rfl
 refine done_ (by kernel_rfl) ?_
 try go_wp2_with (first | ((with_reducible refine zza (N := 16) rfl ?_); refine Kd.R_lit (Kd.int .i64) _ 3 ?hg (N := 16) ?hd (xs := ([] : List Int)) (inner := []) (ok := fun _ => True) (okp := fun _ => True) ?hr ?hp (fun _ hk => hk) trivial (Below.refl _ _) (Nat.le_refl _) (by simp) ?_; (case hd => rfl); (case hg => rfl); (case hr => first | (go_simp; done) | (go_simp; rfl)); (case hp => exact (Reps.none _ _)); intro v404 w10 ho11 hb hg_ hnew_; clear hg_ hnew_; (first | rw [← Ny403.out] at ho11 | (simp only [Int.reduceToNat] at ho11; rw [← Ny403.out] at ho11)); have n0_ := za.mk (Kd.R_elder' (by apply_rules only [HO402.out, Kd.zka, Kd.zja, Kd.zya]) (Kd.zjf ho11) hb); have n1_ := za.mk (Kd.zcd (Kd.R_new' ho11 (Kd.R_lt (by apply_rules only [HO402.out, Kd.zka, Kd.zja, Kd.zya]))) (zm (by apply_rules only [HB.out, ze, zb, zf, fun h => zg h GE396.out]))); have n2_ := za.mk (zy (g := gb396) (o := .cells #[.int .i64 a0_0, .int .i64 a0_1, .int .i64 a0_2, .int .i64 a0_3, .int .i64 a0_4] 23 (0, 0)) (by apply_rules only [BK396.out, zh, zj, zi]) hb); have n3_ := za.mk (zk (by apply_rules only [HB.out, ze, zb, zf, fun h => zg h GE396.out]) hb); clear HO402; clear BK396; clear HB; have HO402 := n0_; have HO405 := n1_; have BK396 := n2_; have HB := n3_; clear n0_ n1_ n2_ n3_; clear hb ho11))
 go_loopg [8, 9] k (fun kq v8 v9 w' => ∃ (x8_1 : List Int) (x9_1 : Int), v9 = .int .i64 x9_1 ∧ za (zub.l0 kq t400 x8_1 x9_1 a0_0 a0_1 a0_2 a0_3 a0_4 = some r) ∧ za (kq ≤ k) ∧ za (Kd.R (Kd.int .i64) 3 w' w.heap.size (fun k_ => some k_ ≠ (v8 : Value).ownBlock) v401 t400) ∧ za (Kd.R (Kd.int .i64) 3 w' w.heap.size (fun k_ => some k_ ≠ (v401 : Value).ownBlock) v8 x8_1) ∧ za (w'.heap[gb396]? = some (.cells #[.int .i64 a0_0, .int .i64 a0_1, .int .i64 a0_2, .int .i64 a0_3, .int .i64 a0_4] 23 (0, 0))) ∧ za (Below w.heap.size w w'))
 case atStart => exact ⟨(y403), (0), (by first | rfl | simp [*]), H', ⟨Nat.le_refl _⟩, ⟨by (with_reducible repeat (first | apply Kd.zka | apply Kd.zja | apply Kd.zya)); exact Kd.zuc HO402.out (fun _ hk => hk.2)⟩, ⟨by (with_reducible repeat (first | apply Kd.zka | apply Kd.zja | apply Kd.zya)); exact Kd.zuc HO405.out (fun _ hk => hk.2)⟩, ⟨by apply_rules only [BK396.out, zh, zj, zi]⟩, ⟨by apply_rules only [HB.out, ze, zb, zf, fun h => zg h GE396.out]⟩⟩
 case round =>
  clear H'
  obtain ⟨x8_1, x9_1, rfl, HA, HK1, HO_7, HO_8, BK396, HB⟩ := hrel
  cases gk with
  | zero => exact absurd HA.out (by simp [zub.l0])
  | succ k1 =>
   have H := HA.out
   clear HA
   simp only [zub.l0] at H
   by_cases c12 : x9_1 < a0_3
   ·rw [if_pos c12] at H
    have c12b0 : decide (x9_1 < a0_3) = true := decide_eq_true c12
    clear c12
    replace H := Option.bind_eq_some_iff.mp H
    obtain ⟨t406, A130, H⟩ := H
    replace H : (if t406 = true then (if x8_1.length < 17592186044416 then (zub.l0 k1 t400 (x8_1 ++ [x9_1]) (wrap64 (x9_1 + 1)) a0_0 a0_1 a0_2 a0_3 a0_4) else (none)) else (zub.l0 k1 t400 x8_1 (wrap64 (x9_1 + 1)) a0_0 a0_1 a0_2 a0_3 a0_4)) = some r := H
    have A13 := za.mk A130
    clear A130
    by_cases c14 : t406 = true
    ·subst c14
     have H1 : (if x8_1.length < 17592186044416 then (zub.l0 k1 t400 (x8_1 ++ [x9_1]) (wrap64 (x9_1 + 1)) a0_0 a0_1 a0_2 a0_3 a0_4) else (none)) = some r := by rw [if_pos rfl] at H; exact H
     clear H
     have H := H1
     clear H1
     by_cases c15 : x8_1.length < 17592186044416
     ·rw [if_pos c15] at H
      have LMc15 := za.mk c15
      clear c15
      obtain ⟨y407, hy407⟩ : ∃ y_ : List Int, y_ = (x8_1 ++ [x9_1]) := ⟨_, rfl⟩
      replace H : (zub.l0 k1 t400 y407 (wrap64 (x9_1 + 1)) a0_0 a0_1 a0_2 a0_3 a0_4) = some r := by first | (rw [hy407]; with_reducible exact H) | (have H2_ := (Option.bind_some _ _).symm.trans H; rw [hy407]; with_reducible exact H2_) | (have H2_ := (Option.bind_some _ _).symm.trans H; with_reducible exact H2_) | with_reducible exact H | (rw [hy407]; exact H) | exact H
      have Ny407 := za.mk hy407
      clear hy407
      have H' := za.mk H
      clear H
      obtain ⟨hcz16_0, hcz16_1, hcz16_2, hcz16_3, hcz16_4⟩ := cells5 BK396.out
      obtain ⟨hfz16_0, hfz16_1, hfz16_2, hfz16_3, hfz16_4⟩ := zic BK396.out
      obtain ⟨Ao17, co17, eo17⟩ := Kd.zsc HO_7.out
      subst eo17
      go_wp2_with (first | ((with_reducible refine zaa (f := 81) rfl ?_); refine zmc (some 25) rfl rfl Tryz.func81 (by kernel_rfl) rfl #[.slice Ao17 t400.length co17, .int .i64 x9_1] rfl (by (try simp only [zpa]); first | done | rfl | simp) ?_; (with_reducible refine (zqc.calls k1 _ _ t400 x9_1 true _ ?side1 ?side2 A13.out).mono ?_); (case side1 => apply_rules only [(Kd.zsb HO_7.out).2.2, Kd.zod, Kd.zmd, Kd.zme]); (case side2 => exact (Kd.zsb HO_7.out).2.1); rintro e w' ⟨rfl, ⟨nd, rfl⟩⟩; refine ⟨_, rfl, ?_⟩) | ((with_reducible refine zdd (b := .append) (xs := #[.tmp 26, .tmp 28]) rfl ?_); at_builtin; refine Kd.zof (Kd.int .i64) (w0 := w) w.heap.size rfl (.tmp 26) (.tmp 28) 31 3 (.int .i64 0) 8 rfl Tryz.underlying31 info3 rfl (by decide) (by omega) u8 x8_1 x9_1 [.int .i64 x9_1] (fun k_ => some k_ ≠ (.slice Ao17 t400.length co17 : Value).ownBlock) (fun _ => False) rfl rfl ?aP (fun _ hk => hk.elim) ?aF ?aO ?aB ?aS ?aL ?_; (case aP => exact rfl); (case aB => exact (by apply_rules only [HB.out, ze, zb, zf, fun h => zg h GE396.out])); (case aF => exact (fun k_ hk => Kd.fresh' (Kd.R_lt (by apply_rules only [HO_7.out, Kd.zka, Kd.zja, Kd.zya])) k_ hk)); (case aO => exact (by apply_rules only [HO_8.out, Kd.zka, Kd.zja, Kd.zya])); (case aS => exact (zm (by apply_rules only [HB.out, ze, zb, zf, fun h => zg h GE396.out]))); (case aL => have := LMc15.out; omega); intro v408 w18 ho hb hg hat; rw [← Ny407.out] at ho; have n0_ := za.mk (Kd.R_after (ok := (fun _ => True)) (by (with_reducible repeat (first | apply Kd.zka | apply Kd.zja | apply Kd.zya)); exact Kd.zuc HO_7.out (fun _ hk => ⟨trivial, hk⟩)) hg hat); have n1_ := za.mk (zwc (g := gb396) (o := .cells #[.int .i64 a0_0, .int .i64 a0_1, .int .i64 a0_2, .int .i64 a0_3, .int .i64 a0_4] 23 (0, 0)) (by apply_rules only [BK396.out, zh, zj, zi]) hg (Kd.R_ne HO_8.out BK396.out (by decide))); have n2_ := za.mk (hb); have n3_ := za.mk (ho); clear HO_7; clear BK396; clear HB; clear HO_8; have HO_7 := n0_; have BK396 := n1_; have HB := n2_; have HO409 := n3_; clear n0_ n1_ n2_ n3_; clear ho hb hg hat))
      go_roundg k1
      case measure => have := HK1.out; omega
      case rel => exact ⟨(y407), (wrap64 (x9_1 + 1)), (by first | rfl | simp [*]), H', ⟨by have := HK1.out; omega⟩, ⟨by (with_reducible repeat (first | apply Kd.zka | apply Kd.zja | apply Kd.zya)); exact Kd.zuc HO_7.out (fun _ hk => hk.2)⟩, ⟨by apply_rules only [HO409.out, Kd.zka, Kd.zja, Kd.zya]⟩, ⟨by apply_rules only [BK396.out, zh, zj, zi]⟩, ⟨by apply_rules only [HB.out, ze, zb, zf, fun h => zg h GE396.out]⟩⟩
     ·rw [if_neg c15] at H
      exact absurd H (by simp)
    ·replace c14 := Bool.eq_false_iff.mpr c14
     subst c14
     have H1 : (zub.l0 k1 t400 x8_1 (wrap64 (x9_1 + 1)) a0_0 a0_1 a0_2 a0_3 a0_4) = some r := by rw [if_neg (show ¬ (false = true) by decide)] at H; exact H
     clear H
     have H := H1
     clear H1
     have H' := za.mk H
     clear H
     obtain ⟨hcz19_0, hcz19_1, hcz19_2, hcz19_3, hcz19_4⟩ := cells5 BK396.out
     obtain ⟨hfz19_0, hfz19_1, hfz19_2, hfz19_3, hfz19_4⟩ := zic BK396.out
     obtain ⟨Ao20, co20, eo20⟩ := Kd.zsc HO_7.out
     subst eo20
     go_wp2_with (first | ((with_reducible refine zaa (f := 81) rfl ?_); refine zmc (some 25) rfl rfl Tryz.func81 (by kernel_rfl) rfl #[.slice Ao20 t400.length co20, .int .i64 x9_1] rfl (by (try simp only [zpa]); first | done | rfl | simp) ?_; (with_reducible refine (zqc.calls k1 _ _ t400 x9_1 false _ ?side1 ?side2 A13.out).mono ?_); (case side1 => apply_rules only [(Kd.zsb HO_7.out).2.2, Kd.zod, Kd.zmd, Kd.zme]); (case side2 => exact (Kd.zsb HO_7.out).2.1); rintro e w' ⟨rfl, ⟨nd, rfl⟩⟩; refine ⟨_, rfl, ?_⟩))
     go_roundg k1
     case measure => have := HK1.out; omega
     case rel => exact ⟨(x8_1), (wrap64 (x9_1 + 1)), (by first | rfl | simp [*]), H', ⟨by have := HK1.out; omega⟩, ⟨by apply_rules only [HO_7.out, Kd.zka, Kd.zja, Kd.zya]⟩, ⟨by apply_rules only [HO_8.out, Kd.zka, Kd.zja, Kd.zya]⟩, ⟨by apply_rules only [BK396.out, zh, zj, zi]⟩, ⟨by apply_rules only [HB.out, ze, zb, zf, fun h => zg h GE396.out]⟩⟩
   ·rw [if_neg c12] at H
    have c12b0 : decide (x9_1 < a0_3) = false := decide_eq_false c12
    clear c12
    obtain rfl := Option.some.inj H
    obtain ⟨hcz21_0, hcz21_1, hcz21_2, hcz21_3, hcz21_4⟩ := cells5 BK396.out
    obtain ⟨hfz21_0, hfz21_1, hfz21_2, hfz21_3, hfz21_4⟩ := zic BK396.out
    go_wp2
    go_ret
    exact ⟨_, by first | rfl | (simp [zn, zo] <;> rfl) | (simp [*, zn, zo] <;> rfl), by (with_reducible repeat (first | apply Kd.zka | apply Kd.zja | apply Kd.zya)); exact Kd.zuc HO_8.out (fun _ hk => trivial), by apply_rules only [HB.out, ze, zb, zf, fun h => zg h GE396.out]⟩
def zga.l0 : Nat → Int → List Int → List (List Int) → Int → Int → Int → Int → Int → Int → Option ((List (List Int)))
 | 0, _, _, _, _, _, _, _, _, _ => none
 | k + 1, x1, x2, x7, x8, x450000, x450001, x450002, x450003, x450004 => if x8 < (x2.length : Int) then (if 0 ≤ x8 then ((zub.f k x450000 x450001 x450002 x450003 x450004 x1 (rd x2 x8)).bind fun t460 => (if x7.length < 5864062014805 then (zga.l0 k x1 x2 (x7 ++ [t460]) (wrap64 (x8 + 1)) x450000 x450001 x450002 x450003 x450004) else (none))) else (none)) else (some x7)
def zga.f (k : Nat) (a0_0 : Int) (a0_1 : Int) (a0_2 : Int) (a0_3 : Int) (a0_4 : Int) (a1 : Int) (l2 : List Int) : Option ((List (List Int))) := (some (([] : List (List Int)) : List (List Int))).bind fun y450 => ((zq.f k a0_0 a0_1 a0_2 a0_3 a0_4).bind fun t453 => (if y450.length + t453.length < 5864062014805 then (zga.l0 k a1 l2 (y450 ++ t453) 0 a0_0 a0_1 a0_2 a0_3 a0_4) else (none)))
def zga.T5 : Bool × List (List Nat × List Nat) := (true, [([], []), ([], []), ([], []), ([], []), ([], []), ([3, 4], [3, 4]), ([5], [5]), ([1, 2, 6], [1, 2, 6]), ([7], [7]), ([0, 8, 7], [0, 8]), ([9, 9, 0, 1, 2, 3, 4, 5, 6, 7, 8, 9], [0, 9])])
def zga.B5 : List Nat := [0, 0, 0, 0, 0, 24, 56, 126, 254, 511, 1023]
theorem zga.tab5 : rtab .any (opsOf Tryz.f48 5) = zga.T5 := by kernel_rfl
theorem zga.bits5 : waitsOk zga.T5.2 zga.B5 = true := by kernel_rfl
theorem zga.calls (k : Nat) (a0_0 : Int) (a0_1 : Int) (a0_2 : Int) (a0_3 : Int) (a0_4 : Int) (a1 : Int) (A2 : Option Addr) (c2 : Nat) (l2 : List Int) (r : List (List Int)) (w : World) (hr2 : Kd.C (Kd.int .i64) w A2 l2.length l2) (hc2 : l2.length ≤ c2) (h : zga.f k a0_0 a0_1 a0_2 a0_3 a0_4 a1 l2 = some r) :
  Calls Tryz.prog 48 #[.agg #[.int .i64 a0_0, .int .i64 a0_1, .int .i64 a0_2, .int .i64 a0_3, .int .i64 a0_4], .int .i64 a1, .slice A2 l2.length c2] w fun e w' => ∃ v0_ : Value, e = .returned (v0_) ∧ Kd.N (Kd.slice 3 (Kd.int .i64)) 31 w' w.heap.size (fun k_ => (w.heap.size ≤ k_)) v0_ r ∧ Below w.heap.size w w' := by
 have hu23 := Tryz.underlying23
 have HR2 := za.mk hr2
 have HC2 := za.mk hc2
 clear hr2 hc2
 have HB := za.mk (Below.refl w.heap.size w)
 have H : ((some (([] : List (List Int)) : List (List Int))).bind fun y450 => ((zq.f k a0_0 a0_1 a0_2 a0_3 a0_4).bind fun t453 => (if y450.length + t453.length < 5864062014805 then (zga.l0 k a1 l2 (y450 ++ t453) 0 a0_0 a0_1 a0_2 a0_3 a0_4) else (none)))) = some r := h
 clear h
 obtain ⟨y450, hy450⟩ : ∃ y_ : List (List Int), y_ = (([] : List (List Int))) := ⟨_, rfl⟩
 replace H : ((zq.f k a0_0 a0_1 a0_2 a0_3 a0_4).bind fun t453 => (if y450.length + t453.length < 5864062014805 then (zga.l0 k a1 l2 (y450 ++ t453) 0 a0_0 a0_1 a0_2 a0_3 a0_4) else (none))) = some r := by first | (rw [hy450]; with_reducible exact H) | (have H2_ := (Option.bind_some _ _).symm.trans H; rw [hy450]; with_reducible exact H2_) | (have H2_ := (Option.bind_some _ _).symm.trans H; with_reducible exact H2_) | with_reducible exact H | (rw [hy450]; exact H) | exact H
 have Ny450 := za.mk hy450
 clear hy450
 replace H := Option.bind_eq_some_iff.mp H
 obtain ⟨t453, A40, H⟩ := H
 replace H : (if y450.length + t453.length < 5864062014805 then (zga.l0 k a1 l2 (y450 ++ t453) 0 a0_0 a0_1 a0_2 a0_3 a0_4) else (none)) = some r := H
 have A4 := za.mk A40
 clear A40
 by_cases c5 : y450.length + t453.length < 5864062014805
 ·rw [if_pos c5] at H
  have LMc5 := za.mk c5
  clear c5
  obtain ⟨y456, hy456⟩ : ∃ y_ : List (List Int), y_ = (y450 ++ t453) := ⟨_, rfl⟩
  replace H : (zga.l0 k a1 l2 y456 0 a0_0 a0_1 a0_2 a0_3 a0_4) = some r := by first | (rw [hy456]; with_reducible exact H) | (have H2_ := (Option.bind_some _ _).symm.trans H; rw [hy456]; with_reducible exact H2_) | (have H2_ := (Option.bind_some _ _).symm.trans H; with_reducible exact H2_) | with_reducible exact H | (rw [hy456]; exact H) | exact H
  have Ny456 := za.mk hy456
  clear hy456
  have H' := za.mk H
  clear H
  go_enter Tryz.func48, Tryz.ntmps48
  go_wp2_with (first | ((with_reducible refine zza (N := 3) rfl ?_); refine zgc ?hg (N := 3) ?hd (cs := #[.int .i64 a0_0, .int .i64 a0_1, .int .i64 a0_2, .int .i64 a0_3, .int .i64 a0_4]) (t := 23) ?hr ?_; (case hd => rfl); (case hg => rfl); (case hr => first | (go_simp; done) | (go_simp; rfl)); intro gb449 hg w6 hbox hb; have n0_ := za.mk (zk (by apply_rules only [HB.out, ze, zb, zf]) hb); have n1_ := za.mk (hbox); have n2_ := za.mk ((by rw [hg]; exact (zm (by apply_rules only [HB.out, ze, zb, zf])) : w.heap.size ≤ gb449)); have n3_ := za.mk ((by rw [hg]; exact (zm (by apply_rules only [HB.out, ze, zb, zf])) : w.heap.size ≤ gb449)); clear HB; have HB := n0_; have BK449 := n1_; have GW449 := n2_; have GE449 := n3_; clear n0_ n1_ n2_ n3_; clear hb hbox hg) | ((with_reducible refine zza (N := 9) rfl ?_); refine Kd.N_lit (Kd.slice 3 (Kd.int .i64)) _ 31 ?hg (N' := 9) ?hd (xs := ([] : List (List Int))) (inner := []) (ok := (fun k_ => (w.heap.size ≤ k_) ∧ k_ ≠ gb449)) (okp := (fun k_ => (w.heap.size ≤ k_) ∧ k_ ≠ gb449)) ?hr ?hp (fun _ hk => hk) ((show ∀ k_, w6.heap.size ≤ k_ → (fun k_ => (w.heap.size ≤ k_) ∧ k_ ≠ gb449) k_ from fun k_ hk => ⟨(Nat.le_trans (zm (by apply_rules only [HB.out, ze, zb, zf, fun h => zg h GE449.out])) hk), Kd.freshB (g := gb449) (o := .cells #[.int .i64 a0_0, .int .i64 a0_1, .int .i64 a0_2, .int .i64 a0_3, .int .i64 a0_4] 23 (0, 0)) (by apply_rules only [BK449.out, zh, zj, zi]) k_ hk⟩) _ (Nat.le_refl _)) (Below.refl _ _) (Nat.le_refl _) (by simp) ?_; (case hd => rfl); (case hg => rfl); (case hr => first | (go_simp; done) | (go_simp; rfl)); (case hp => exact (Reps.none _ _)); intro v451 w7 ho8 hb hg_ hnew_; clear hg_ hnew_; (first | rw [← Ny450.out] at ho8 | (simp only [Int.reduceToNat] at ho8; rw [← Ny450.out] at ho8)); have n0_ := za.mk (Kd.N_lower ho8 (zm (by apply_rules only [HB.out, ze, zb, zf, fun h => zg h GE449.out]))); have n1_ := za.mk (zy (g := gb449) (o := .cells #[.int .i64 a0_0, .int .i64 a0_1, .int .i64 a0_2, .int .i64 a0_3, .int .i64 a0_4] 23 (0, 0)) (by apply_rules only [BK449.out, zh, zj, zi]) hb); have n2_ := za.mk (zk (by apply_rules only [HB.out, ze, zb, zf, fun h => zg h GE449.out]) hb); clear BK449; clear HB; have HO452 := n0_; have BK449 := n1_; have HB := n2_; clear n0_ n1_ n2_; clear hb ho8; obtain ⟨hcz9_0, hcz9_1, hcz9_2, hcz9_3, hcz9_4⟩ := cells5 BK449.out; obtain ⟨hfz9_0, hfz9_1, hfz9_2, hfz9_3, hfz9_4⟩ := zic BK449.out) | ((with_reducible refine zaa (f := 69) rfl ?_); refine zmc (some 11) rfl rfl Tryz.func69 (by kernel_rfl) rfl #[.agg #[.int .i64 a0_0, .int .i64 a0_1, .int .i64 a0_2, .int .i64 a0_3, .int .i64 a0_4]] rfl (by (try simp only [zpa]); first | done | rfl | simp) ?_; (with_reducible refine (zq.calls k a0_0 a0_1 a0_2 a0_3 a0_4 t453 _ A4.out).mono ?_); rintro e w10 ⟨v454, rfl, ho0, hb⟩; refine ⟨_, rfl, ?_⟩; have n0_ := za.mk (Kd.zff (by apply_rules only [HO452.out, Kd.zkc, Kd.zjc, Kd.zvc]) (Kd.S_base ho0) hb); have n1_ := za.mk (Kd.N_lower (Kd.zye (ok' := fun k_ => (w.heap.size ≤ k_) ∧ some k_ ≠ (v451 : Value).ownBlock ∧ k_ ≠ gb449) (Kd.S_N (Kd.S_bound ho0)) (fun k_ hk_ => ⟨(Nat.le_trans (zm (by apply_rules only [HB.out, ze, zb, zf, fun h => zg h GE449.out])) hk_.2.1), (Kd.fresh' (Kd.N_lt (by apply_rules only [HO452.out, Kd.zkc, Kd.zjc, Kd.zvc])) k_ hk_.2.1), (Kd.freshB (g := gb449) (o := .cells #[.int .i64 a0_0, .int .i64 a0_1, .int .i64 a0_2, .int .i64 a0_3, .int .i64 a0_4] 23 (0, 0)) (by apply_rules only [BK449.out, zh, zj, zi]) k_ hk_.2.1)⟩)) (zm (by apply_rules only [HB.out, ze, zb, zf, fun h => zg h GE449.out]))); have n2_ := za.mk (zy (g := gb449) (o := .cells #[.int .i64 a0_0, .int .i64 a0_1, .int .i64 a0_2, .int .i64 a0_3, .int .i64 a0_4] 23 (0, 0)) (by apply_rules only [BK449.out, zh, zj, zi]) hb); have n3_ := za.mk (zk (by apply_rules only [HB.out, ze, zb, zf, fun h => zg h GE449.out]) hb); clear HO452; clear BK449; clear HB; have HO452 := n0_; have HO455 := n1_; have BK449 := n2_; have HB := n3_; clear n0_ n1_ n2_ n3_; (try clear hb); (try clear hb2); (try clear hk); (try clear hi); (try clear ho0); obtain ⟨Ao12, co12, eo12⟩ := Kd.zbf HO455.out; subst eo12) | ((with_reducible refine zdd (b := .append) (xs := #[.tmp 9, .tmp 11]) rfl ?_); at_builtin; refine Kd.N_append_rows (Kd.slice 3 (Kd.int .i64)) (w0 := w) w.heap.size rfl (.tmp 9) (.tmp 11) 82 31 (.slice none 0 0) 24 rfl Tryz.underlying82 info31 rfl (by decide) (by omega) v451 y450 t453 _ _ _ (fun k_ => (w.heap.size ≤ k_) ∧ k_ ≠ gb449) (fun k_ => ((fun k_ => (w.heap.size ≤ k_) ∧ k_ ≠ gb449)) k_ ∧ some k_ ≠ (v451 : Value).ownBlock) rfl rfl ?aO ?aR (fun _ hk => hk) ?aF ?aB ?aS ?aL ?_; (case aR => exact (by skip; exact Kd.N_F (Kd.zye (ok' := (fun k_ => ((fun k_ => (w.heap.size ≤ k_) ∧ k_ ≠ gb449)) k_ ∧ some k_ ≠ (v451 : Value).ownBlock)) (HO455.out) (fun k_ hk => ⟨⟨hk.1, hk.2.2⟩, hk.2.1⟩)))); (case aB => exact (by apply_rules only [HB.out, ze, zb, zf, fun h => zg h GE449.out])); (case aF => exact (fun k_ hk => ⟨(Nat.le_trans (zm (by apply_rules only [HB.out, ze, zb, zf, fun h => zg h GE449.out])) hk), Kd.freshB (g := gb449) (o := .cells #[.int .i64 a0_0, .int .i64 a0_1, .int .i64 a0_2, .int .i64 a0_3, .int .i64 a0_4] 23 (0, 0)) (by apply_rules only [BK449.out, zh, zj, zi]) k_ hk⟩)); (case aO => exact (by (with_reducible repeat (first | apply Kd.zkc | apply Kd.zjc | apply Kd.zvc)); exact Kd.zye HO452.out (fun _ hk => ⟨hk.1.1, hk.1.2⟩))); (case aS => exact (zm (by apply_rules only [HB.out, ze, zb, zf, fun h => zg h GE449.out]))); (case aL => have := LMc5.out; omega); intro v457 w11 ho hb hg hat; rw [← Ny456.out] at ho; have n0_ := za.mk (zwc (g := gb449) (o := .cells #[.int .i64 a0_0, .int .i64 a0_1, .int .i64 a0_2, .int .i64 a0_3, .int .i64 a0_4] 23 (0, 0)) (by apply_rules only [BK449.out, zh, zj, zi]) hg (Kd.N_ne HO452.out BK449.out (by decide))); have n1_ := za.mk (Kd.N_afterv (ok := (fun k_ => (w.heap.size ≤ k_) ∧ k_ ≠ gb449)) (by (with_reducible repeat (first | apply Kd.zkc | apply Kd.zjc | apply Kd.zvc)); exact Kd.zye HO455.out (fun _ hk => ⟨⟨hk.1, hk.2.2⟩, hk.2.1⟩)) hg hat); have n2_ := za.mk (hb); have n3_ := za.mk (ho); clear BK449; clear HO455; clear HB; clear HO452; have BK449 := n0_; have HO455 := n1_; have HB := n2_; have HO458 := n3_; clear n0_ n1_ n2_ n3_; clear ho hb hg hat))
  go_loopg [7, 8] k (fun kq v7 v8 w' => ∃ (x7_1 : List (List Int)) (x8_1 : Int), v8 = .int .i64 x8_1 ∧ za (zga.l0 kq a1 l2 x7_1 x8_1 a0_0 a0_1 a0_2 a0_3 a0_4 = some r) ∧ za (kq ≤ k) ∧ za (Kd.N (Kd.slice 3 (Kd.int .i64)) 31 w' w.heap.size (fun k_ => (w.heap.size ≤ k_) ∧ k_ ≠ gb449) v7 x7_1) ∧ za (w'.heap[gb449]? = some (.cells #[.int .i64 a0_0, .int .i64 a0_1, .int .i64 a0_2, .int .i64 a0_3, .int .i64 a0_4] 23 (0, 0))) ∧ za (Below w.heap.size w w'))
  case atStart => exact ⟨(y456), (0), (by first | rfl | simp [*]), H', ⟨Nat.le_refl _⟩, ⟨by apply_rules only [HO458.out, Kd.zkc, Kd.zjc, Kd.zvc]⟩, ⟨by apply_rules only [BK449.out, zh, zj, zi]⟩, ⟨by apply_rules only [HB.out, ze, zb, zf, fun h => zg h GE449.out]⟩⟩
  case round =>
   clear H'
   obtain ⟨x7_1, x8_1, rfl, HA, HK1, HO_7, BK449, HB⟩ := hrel
   cases gk with
   | zero => exact absurd HA.out (by simp [zga.l0])
   | succ k1 =>
    have H := HA.out
    clear HA
    simp only [zga.l0] at H
    by_cases c13 : x8_1 < (l2.length : Int)
    ·rw [if_pos c13] at H
     have c13b0 : decide (x8_1 < (l2.length : Int)) = true := decide_eq_true c13
     clear c13
     by_cases c14 : 0 ≤ x8_1
     ·rw [if_pos c14] at H
      have c14b0 : decide (0 ≤ x8_1) = true := decide_eq_true c14
      clear c14
      replace H := Option.bind_eq_some_iff.mp H
      obtain ⟨t460, A150, H⟩ := H
      replace H : (if x7_1.length < 5864062014805 then (zga.l0 k1 a1 l2 (x7_1 ++ [t460]) (wrap64 (x8_1 + 1)) a0_0 a0_1 a0_2 a0_3 a0_4) else (none)) = some r := H
      have A15 := za.mk A150
      clear A150
      by_cases c16 : x7_1.length < 5864062014805
      ·rw [if_pos c16] at H
       have LMc16 := za.mk c16
       clear c16
       obtain ⟨y463, hy463⟩ : ∃ y_ : List (List Int), y_ = (x7_1 ++ [t460]) := ⟨_, rfl⟩
       replace H : (zga.l0 k1 a1 l2 y463 (wrap64 (x8_1 + 1)) a0_0 a0_1 a0_2 a0_3 a0_4) = some r := by first | (rw [hy463]; with_reducible exact H) | (have H2_ := (Option.bind_some _ _).symm.trans H; rw [hy463]; with_reducible exact H2_) | (have H2_ := (Option.bind_some _ _).symm.trans H; with_reducible exact H2_) | with_reducible exact H | (rw [hy463]; exact H) | exact H
       have Ny463 := za.mk hy463
       clear hy463
       have H' := za.mk H
       clear H
       try go_wp2
       have n0_ := za.mk (Kd.zvc HO_7.out)
       have n1_ := za.mk (zj BK449.out)
       have n2_ := za.mk (zf HB.out)
       clear HO_7
       clear BK449
       clear HB
       have HO_7 := n0_
       have BK449 := n1_
       have HB := n2_
       clear n0_ n1_ n2_
       have p459 : 0 ≤ (x8_1 : Int) := of_decide_eq_true (by first | (with_reducible assumption) | assumption)
       have q459 : x8_1 < (l2.length : Int) := of_decide_eq_true (by first | (with_reducible assumption) | assumption)
       obtain ⟨ad459, e459, hx459_0⟩ := Kd.zqe HR2.out x8_1 p459 q459
       have hw459_0 := hx459_0
       cases e459
       replace hx459_0 := (HB.out.cell (World.block_lt_of_cell? w _ hx459_0)).trans hx459_0
       replace p459 := eq_true p459
       replace q459 := eq_true q459
       refine zsf (n := 11) (S := fun w' => w'.cell? ⟨gb449, 0, none⟩ = some (.int .i64 a0_0) ∧ w'.cell? ⟨gb449, 1, none⟩ = some (.int .i64 a0_1) ∧ w'.cell? ⟨gb449, 2, none⟩ = some (.int .i64 a0_2) ∧ w'.cell? ⟨gb449, 3, none⟩ = some (.int .i64 a0_3) ∧ w'.cell? ⟨gb449, 4, none⟩ = some (.int .i64 a0_4) ∧ w'.cell? (ad459.add (x8_1).toNat) = some (.int .i64 (rd l2 x8_1))) (ds := []) #[false, false, false, false, false, false, false, false, false, false, false] (by kernel_rfl) rfl rfl ⟨(zl BK449.out 0).trans rfl, (zl BK449.out 1).trans rfl, (zl BK449.out 2).trans rfl, (zl BK449.out 3).trans rfl, (zl BK449.out 4).trans rfl, ((HB.out.cell (World.block_lt_of_cell? w _ hw459_0)).trans hw459_0)⟩ (fun hHeld => ?_); refine zke zga.tab5 zga.bits5 (fun HT_ HW_ => ?_)
       generalize wr.drew = w17 at HO_7 BK449 HB hx459_0 hHeld ⊢
       refine pure_ (i := 0) (N := some 19) (v := ?_) (a' := ?_) #[true, false, false, false, false, false, false, false, false, false, false] rfl rfl (zvb HT_.out (by kernel_rfl)) (fun _ _ _ h => h) (Or.inl ⟨by rfl, ?_⟩) ?_ ?_
       rotate_left
       ·intro w'
        go_simp
        with_reducible rfl
       rotate_left
       ·simp only [Act.put, zw]
        rfl
       refine pure_ (i := 2) (N := some 21) (v := ?_) (a' := ?_) #[true, false, true, false, false, false, false, false, false, false, false] rfl rfl (zvb HT_.out (by kernel_rfl)) (fun _ _ _ h => h) (Or.inl ⟨by rfl, ?_⟩) ?_ ?_
       rotate_left
       ·intro w'
        go_simp
        with_reducible rfl
       rotate_left
       ·simp only [Act.put, zw]
        rfl
       refine pure_ (i := 3) (N := some 22) (v := ?_) (a' := ?_) #[true, false, true, true, false, false, false, false, false, false, false] rfl rfl (zvb HT_.out (by kernel_rfl)) (fun _ _ _ h => h) (Or.inl ⟨by rfl, ?_⟩) ?_ ?_
       rotate_left
       ·intro w'
        go_simp
        with_reducible rfl
       rotate_left
       ·simp only [Act.put, zw]
        rfl
       refine pure_ (i := 4) (N := some 23) (v := ?_) (a' := ?_) #[true, false, true, true, true, false, false, false, false, false, false] rfl rfl (zvb HT_.out (by kernel_rfl)) (fun _ _ _ h => h) (Or.inl ⟨by rfl, ?_⟩) ?_ ?_
       rotate_left
       ·intro w'
        go_simp
        with_reducible rfl
       rotate_left
       ·simp only [Act.put, zw]
        rfl
       refine pure_ (i := 5) (N := some 24) (v := ?_) (a' := ?_) #[true, false, true, true, true, true, false, false, false, false, false] rfl rfl (zvb HT_.out (by kernel_rfl)) (fun _ _ _ h => h) (Or.inl ⟨by rfl, ?_⟩) ?_ ?_
       rotate_left
       ·intro w'
        go_simp
        with_reducible rfl
       rotate_left
       ·simp only [Act.put, zw]
        rfl
       refine take_ (i := 1) (N := some 20) (v := ?_) (a' := ?_) #[true, true, true, true, true, true, false, false, false, false, false] rfl rfl (zje HT_.out HW_.out (by kernel_rfl)) (fun _ _ _ h => h) (Or.inl ⟨by rfl, ?_⟩) hHeld ?_ ?_
       rotate_left
       ·rintro w' ⟨s0, s1, s2, s3, s4, s5⟩
        go_simp
        with_reducible rfl
       rotate_left
       ·simp only [Act.put, zw]
        rfl
       refine take_ (i := 6) (N := some 25) (v := ?_) (a' := ?_) #[true, true, true, true, true, true, true, false, false, false, false] rfl rfl (zje HT_.out HW_.out (by kernel_rfl)) (fun _ _ _ h => h) (Or.inl ⟨by rfl, ?_⟩) hHeld ?_ ?_
       rotate_left
       ·rintro w' ⟨s0, s1, s2, s3, s4, s5⟩
        go_simp
        with_reducible rfl
       rotate_left
       ·simp only [Act.put, zw]
        rfl
       refine one_ (i := 7) (N := some 26) #[true, true, true, true, true, true, true, true, false, false, false] rfl rfl (one_of HT_.out (by kernel_rfl)) (by decide) (fun K hK => ?_)
       refine goes_ Tryz.func55 (by kernel_rfl) rfl #[.agg #[.int .i64 a0_0, .int .i64 a0_1, .int .i64 a0_2, .int .i64 a0_3, .int .i64 a0_4], .int .i64 a1, .int .i64 (rd l2 x8_1)] (by rfl) rfl rfl (by (try simp only [zpa]); first | done | rfl | simp) ?_
       with_reducible refine (zub.calls k1 a0_0 a0_1 a0_2 a0_3 a0_4 a1 (rd l2 x8_1) t460 _ A15.out).mono ?_
       rintro e w18 ⟨v461, rfl, ho0, hb⟩
       refine ⟨_, rfl, ?_⟩
       have n0_ := za.mk (Kd.zff (by apply_rules only [HO_7.out, Kd.zkc, Kd.zjc, Kd.zvc]) (Kd.zjf ho0) hb)
       have n1_ := za.mk (Kd.zcd (Kd.R_newM (M := fun k_ => (w.heap.size ≤ k_)) ho0 (zm (by apply_rules only [HB.out, ze, zb, zf, fun h => zg h GE449.out])) (fun k_ h_ => h_)) (zm (by apply_rules only [HB.out, ze, zb, zf, fun h => zg h GE449.out])))
       have n2_ := za.mk (zy (g := gb449) (o := .cells #[.int .i64 a0_0, .int .i64 a0_1, .int .i64 a0_2, .int .i64 a0_3, .int .i64 a0_4] 23 (0, 0)) (by apply_rules only [BK449.out, zh, zj, zi]) hb)
       have n3_ := za.mk (zk (by apply_rules only [HB.out, ze, zb, zf, fun h => zg h GE449.out]) hb)
       clear HO_7
       clear BK449
       clear HB
       have HO_7 := n0_
       have HO462 := n1_
       have BK449 := n2_
       have HB := n3_
       clear n0_ n1_ n2_ n3_
       (try clear hb)
       (try clear hb2)
       (try clear hk)
       (try clear hi)
       (try clear ho0)
       obtain ⟨Ao20, co20, eo20⟩ := Kd.zsc HO462.out
       (first | subst eo20 | (injection eo20 with f1_ f2_ f3_; have f4_ := f1_.symm; have f5_ := f3_.symm; clear f1_ f2_ f3_; subst f4_; subst f5_))
       refine hK.out _ _ ⟨(zl BK449.out 0).trans rfl, (zl BK449.out 1).trans rfl, (zl BK449.out 2).trans rfl, (zl BK449.out 3).trans rfl, (zl BK449.out 4).trans rfl, ((HB.out.cell (World.block_lt_of_cell? w _ hw459_0)).trans hw459_0)⟩ (fun hHeld => ?_)
       clear hK K
       refine norm_ (a' := ?_) ?_ ?_
       rotate_left
       ·show Act.put _ (some 26) _ = _
        simp only [Act.put, zw]
        rfl
       refine one_ (i := 8) (N := some 27) #[true, true, true, true, true, true, true, true, true, false, false] rfl rfl (one_of HT_.out (by kernel_rfl)) (by decide) (fun K hK => ?_)
       refine zbd (w1 := ?_) (v := ?_) (by rfl) rfl ?_ ?_
       rotate_left 2
       ·go_simp
        constructor
        ·rfl
        ·rfl
       refine hK.out _ _ ⟨(zl (zi BK449.out _) 0).trans rfl, (zl (zi BK449.out _) 1).trans rfl, (zl (zi BK449.out _) 2).trans rfl, (zl (zi BK449.out _) 3).trans rfl, (zl (zi BK449.out _) 4).trans rfl, (World.cell?_alloc_lt _ _ _ (World.block_lt_of_cell? _ _ (((HB.out.cell (World.block_lt_of_cell? w _ hw459_0)).trans hw459_0)))).trans (((HB.out.cell (World.block_lt_of_cell? w _ hw459_0)).trans hw459_0))⟩ (fun hHeld => ?_)
       clear hK K
       refine norm_ (a' := ?_) ?_ ?_
       rotate_left
       ·show Act.put _ (some 27) _ = _
        simp only [Act.put, zw]
        rfl
       refine one_ (i := 9) (N := some 28) #[true, true, true, true, true, true, true, true, true, true, false] rfl rfl (one_of HT_.out (by kernel_rfl)) (by decide) (fun K hK => ?_)
       refine Kd.N_append_step (Kd.slice 3 (Kd.int .i64)) (w0 := w) w.heap.size (by rfl) (.tmp 19) (.tmp 27) 82 31 (.slice none 0 0) 24 rfl Tryz.underlying82 info31 rfl (by decide) (by omega) u7 x7_1 t460 [.slice Ao20 t460.length co20] (fun k_ => (w.heap.size ≤ k_) ∧ k_ ≠ gb449) (fun k_ => ((fun k_ => (w.heap.size ≤ k_) ∧ k_ ≠ gb449)) k_ ∧ some k_ ≠ (u7 : Value).ownBlock) rfl rfl ?aP (fun _ hk => hk) ?aF ?aO ?aB ?aS ?aL ?_
       (case aP => exact (Kd.FK_slice_mk (Kd.zsb (Kd.zuc (ok' := (fun k_ => ((fun k_ => (w.heap.size ≤ k_) ∧ k_ ≠ gb449)) k_ ∧ some k_ ≠ (u7 : Value).ownBlock)) (Kd.R_types (Kd.zfe (HO462.out) (Kd.N_typed HO_7.out) (by decide)) BK449.out (by decide)) (fun k_ hk => ⟨⟨hk.1.1.1, hk.2⟩, hk.1.2⟩))).2.1 (Kd.R_F (Kd.zuc (ok' := (fun k_ => ((fun k_ => (w.heap.size ≤ k_) ∧ k_ ≠ gb449)) k_ ∧ some k_ ≠ (u7 : Value).ownBlock)) (Kd.R_types (Kd.zfe (HO462.out) (Kd.N_typed HO_7.out) (by decide)) BK449.out (by decide)) (fun k_ hk => ⟨⟨hk.1.1.1, hk.2⟩, hk.1.2⟩)))))
       (case aB => exact (by apply_rules only [HB.out, ze, zb, zf, fun h => zg h GE449.out]))
       (case aF => exact (fun k_ hk => ⟨(Nat.le_trans (zm (by apply_rules only [HB.out, ze, zb, zf, fun h => zg h GE449.out])) hk), Kd.freshB (g := gb449) (o := .cells #[.int .i64 a0_0, .int .i64 a0_1, .int .i64 a0_2, .int .i64 a0_3, .int .i64 a0_4] 23 (0, 0)) (by apply_rules only [BK449.out, zh, zj, zi]) k_ hk⟩))
       (case aO => exact (by (with_reducible repeat (first | apply Kd.zkc | apply Kd.zjc | apply Kd.zvc)); exact Kd.zye HO_7.out (fun _ hk => ⟨hk.1.1, hk.1.2⟩)))
       (case aS => exact (zm (by apply_rules only [HB.out, ze, zb, zf, fun h => zg h GE449.out])))
       (case aL => have := LMc16.out; omega)
       intro v464 w19 ho hb hg hat
       rw [← Ny463.out] at ho
       have n0_ := za.mk (zwc (g := gb449) (o := .cells #[.int .i64 a0_0, .int .i64 a0_1, .int .i64 a0_2, .int .i64 a0_3, .int .i64 a0_4] 23 (0, 0)) (by apply_rules only [BK449.out, zh, zj, zi]) hg (Kd.N_ne HO_7.out BK449.out (by decide)))
       have n1_ := za.mk (hb)
       have n2_ := za.mk (ho)
       clear BK449
       clear HB
       clear HO_7
       clear HO462
       have BK449 := n0_
       have HB := n1_
       have HO465 := n2_
       clear n0_ n1_ n2_
       clear ho hb hg hat
       refine hK.out _ _ ⟨(zl BK449.out 0).trans rfl, (zl BK449.out 1).trans rfl, (zl BK449.out 2).trans rfl, (zl BK449.out 3).trans rfl, (zl BK449.out 4).trans rfl, ((HB.out.cell (World.block_lt_of_cell? w _ hw459_0)).trans hw459_0)⟩ (fun hHeld => ?_)
       clear hK K
       refine norm_ (a' := ?_) ?_ ?_
       rotate_left
       ·show Act.put _ (some 28) _ = _
        simp only [Act.put, zw]
        rfl
       refine pure_ (i := 10) (N := some 7) (v := ?_) (a' := ?_) #[true, true, true, true, true, true, true, true, true, true, true] rfl rfl (zvb HT_.out (by kernel_rfl)) (fun _ _ _ h => h) (Or.inl ⟨by rfl, ?_⟩) ?_ ?_
       rotate_left
       ·intro w'
        go_simp
        with_reducible rfl
       rotate_left
       ·simp only [Act.put, zw]
        rfl
       refine done_ (done_of HT_.out (by kernel_rfl)) ?_
       try go_wp2
       go_roundg k1
       case measure => have := HK1.out; omega
       case rel => exact ⟨(y463), (wrap64 (x8_1 + 1)), (by first | rfl | simp [*]), H', ⟨by have := HK1.out; omega⟩, ⟨by apply_rules only [HO465.out, Kd.zkc, Kd.zjc, Kd.zvc]⟩, ⟨by apply_rules only [BK449.out, zh, zj, zi]⟩, ⟨by apply_rules only [HB.out, ze, zb, zf, fun h => zg h GE449.out]⟩⟩
      ·rw [if_neg c16] at H
       exact absurd H (by simp)
     ·rw [if_neg c14] at H
      exact absurd H (by simp)
    ·rw [if_neg c13] at H
     have c13b0 : decide (x8_1 < (l2.length : Int)) = false := decide_eq_false c13
     clear c13
     obtain rfl := Option.some.inj H
     go_wp2
     go_ret
     exact ⟨_, by first | rfl | (simp [zn, zo] <;> rfl) | (simp [*, zn, zo] <;> rfl), by (with_reducible repeat (first | apply Kd.zkc | apply Kd.zjc | apply Kd.zvc)); exact Kd.zye HO_7.out (fun _ hk => hk.1), by apply_rules only [HB.out, ze, zb, zf, fun h => zg h GE449.out]⟩
 ·rw [if_neg c5] at H
  exact absurd H (by simp)
def zcc.l0 : Nat → List Int → List (List Int) → List (List Int) → Int → Option ((List (List Int)))
 | 0, _, _, _, _ => none
 | k + 1, x0, x1, x5, x6 => if x6 < (x0.length : Int) then (if 0 ≤ x6 then (if 0 ≤ (rd x0 x6) then (if (rd x0 x6) < (x1.length : Int) then (if x5.length < 5864062014805 then (zcc.l0 k x0 x1 (x5 ++ [rd_L5 x1 (rd x0 x6)]) (wrap64 (x6 + 1))) else (none)) else (none)) else (none)) else (none)) else (some x5)
def zcc.f (k : Nat) (l0 : List Int) (l1 : List (List Int)) : Option ((List (List Int))) := zcc.l0 k l0 l1 (([] : List (List Int))) 0
theorem zcc.calls (k : Nat) (A0 : Option Addr) (c0 : Nat) (l0 : List Int) (P1_ : Nat → Prop) (A1 : Option Addr) (c1 : Nat) (l1 : List (List Int)) (r : List (List Int)) (w : World) (hr0 : Kd.C (Kd.int .i64) w A0 l0.length l0) (hc0 : l0.length ≤ c0) (hs1 : Kd.V (Kd.slice 5 (Kd.int .u8)) 43 w w.heap.size (fun k_ => P1_ k_) (.slice A1 l1.length c1) l1) (h : zcc.f k l0 l1 = some r) :
  Calls Tryz.prog 71 #[.slice A0 l0.length c0, .slice A1 l1.length c1] w fun e w' => ∃ v0_ : Value, e = .returned (v0_) ∧ Kd.N (Kd.slice 5 (Kd.int .u8)) 43 w' w.heap.size (fun k_ => (P1_ k_ ∨ w.heap.size ≤ k_)) v0_ r ∧ Below w.heap.size w w' := by
 have HR0 := za.mk hr0
 have HC0 := za.mk hc0
 clear hr0 hc0
 have HO1 := za.mk (show Kd.V (Kd.slice 5 (Kd.int .u8)) 43 w w.heap.size (fun k_ => (P1_ k_ ∨ w.heap.size ≤ k_)) (.slice A1 l1.length c1) l1 from Kd.V_mono hs1 (fun k_ hk => .inl hk))
 have HB := za.mk (Below.refl w.heap.size w)
 have H : (zcc.l0 k l0 l1 (([] : List (List Int))) 0) = some r := h
 clear h
 obtain ⟨y539, hy539⟩ : ∃ y_ : List (List Int), y_ = (([] : List (List Int))) := ⟨_, rfl⟩
 replace H : (zcc.l0 k l0 l1 y539 0) = some r := by first | (rw [hy539]; with_reducible exact H) | (have H2_ := (Option.bind_some _ _).symm.trans H; rw [hy539]; with_reducible exact H2_) | (have H2_ := (Option.bind_some _ _).symm.trans H; with_reducible exact H2_) | with_reducible exact H | (rw [hy539]; exact H) | exact H
 have Ny539 := za.mk hy539
 clear hy539
 have H' := za.mk H
 clear H
 go_enter Tryz.func71, Tryz.ntmps71
 go_wp2_with (first | ((with_reducible refine zza (N := 7) rfl ?_); refine Kd.N_lit (Kd.slice 5 (Kd.int .u8)) _ 43 ?hg (N' := 7) ?hd (xs := ([] : List (List Int))) (inner := []) (ok := (fun k_ => (P1_ k_ ∨ w.heap.size ≤ k_))) (okp := (fun k_ => (P1_ k_ ∨ w.heap.size ≤ k_))) ?hr ?hp (fun _ hk => hk) ((show ∀ k_, w.heap.size ≤ k_ → (fun k_ => (P1_ k_ ∨ w.heap.size ≤ k_)) k_ from fun k_ hk => (.inr (Nat.le_trans (zm (by apply_rules only [HB.out, ze, zb, zf])) hk))) _ (Nat.le_refl _)) (Below.refl _ _) (Nat.le_refl _) (by simp) ?_; (case hd => rfl); (case hg => rfl); (case hr => first | (go_simp; done) | (go_simp; rfl)); (case hp => exact (Reps.none _ _)); intro v540 w3 ho4 hb hg_ hnew_; clear hg_ hnew_; (first | rw [← Ny539.out] at ho4 | (simp only [Int.reduceToNat] at ho4; rw [← Ny539.out] at ho4)); have n0_ := za.mk (Kd.V_elder' (by (with_reducible repeat (first | apply Kd.V_alloc | apply Kd.zaf | apply Kd.V_drew)); exact HO1.out) (Kd.N_base ho4) hb); have n1_ := za.mk (Kd.N_lower ho4 (zm (by apply_rules only [HB.out, ze, zb, zf]))); have n2_ := za.mk (zk (by apply_rules only [HB.out, ze, zb, zf]) hb); clear HO1; clear HB; have HO1 := n0_; have HO541 := n1_; have HB := n2_; clear n0_ n1_ n2_; clear hb ho4))
 go_loopg [5, 6] k (fun kq v5 v6 w' => ∃ (x5_1 : List (List Int)) (x6_1 : Int), v6 = .int .i64 x6_1 ∧ za (zcc.l0 kq l0 l1 x5_1 x6_1 = some r) ∧ za (kq ≤ k) ∧ za (Kd.V (Kd.slice 5 (Kd.int .u8)) 43 w' w.heap.size (fun k_ => (P1_ k_ ∨ w.heap.size ≤ k_) ∧ some k_ ≠ (v5 : Value).ownBlock) (.slice A1 l1.length c1) l1) ∧ za (Kd.N (Kd.slice 5 (Kd.int .u8)) 43 w' w.heap.size (fun k_ => (P1_ k_ ∨ w.heap.size ≤ k_)) v5 x5_1) ∧ za (Below w.heap.size w w'))
 case atStart => exact ⟨(y539), (0), (by first | rfl | simp [*]), H', ⟨Nat.le_refl _⟩, ⟨by (with_reducible repeat (first | apply Kd.V_alloc | apply Kd.zaf | apply Kd.V_drew)); exact HO1.out⟩, ⟨by apply_rules only [HO541.out, Kd.zkc, Kd.zjc, Kd.zvc]⟩, ⟨by apply_rules only [HB.out, ze, zb, zf]⟩⟩
 case round =>
  clear H'
  obtain ⟨x5_1, x6_1, rfl, HA, HK1, HO_1, HO_5, HB⟩ := hrel
  cases gk with
  | zero => exact absurd HA.out (by simp [zcc.l0])
  | succ k1 =>
   have H := HA.out
   clear HA
   simp only [zcc.l0] at H
   by_cases c5 : x6_1 < (l0.length : Int)
   ·rw [if_pos c5] at H
    have c5b0 : decide (x6_1 < (l0.length : Int)) = true := decide_eq_true c5
    clear c5
    by_cases c6 : 0 ≤ x6_1
    ·rw [if_pos c6] at H
     have c6b0 : decide (0 ≤ x6_1) = true := decide_eq_true c6
     clear c6
     by_cases c7 : 0 ≤ (rd l0 x6_1)
     ·rw [if_pos c7] at H
      have c7b0 : decide (0 ≤ (rd l0 x6_1)) = true := decide_eq_true c7
      clear c7
      by_cases c8 : (rd l0 x6_1) < (l1.length : Int)
      ·rw [if_pos c8] at H
       have c8b0 : decide ((rd l0 x6_1) < (l1.length : Int)) = true := decide_eq_true c8
       clear c8
       by_cases c9 : x5_1.length < 5864062014805
       ·rw [if_pos c9] at H
        have LMc9 := za.mk c9
        clear c9
        obtain ⟨y544, hy544⟩ : ∃ y_ : List (List Int), y_ = (x5_1 ++ [rd_L5 l1 (rd l0 x6_1)]) := ⟨_, rfl⟩
        replace H : (zcc.l0 k1 l0 l1 y544 (wrap64 (x6_1 + 1))) = some r := by first | (rw [hy544]; with_reducible exact H) | (have H2_ := (Option.bind_some _ _).symm.trans H; rw [hy544]; with_reducible exact H2_) | (have H2_ := (Option.bind_some _ _).symm.trans H; with_reducible exact H2_) | with_reducible exact H | (rw [hy544]; exact H) | exact H
        have Ny544 := za.mk hy544
        clear hy544
        have H' := za.mk H
        clear H
        have p542 : 0 ≤ (x6_1 : Int) := of_decide_eq_true (by first | (with_reducible assumption) | assumption)
        have q542 : x6_1 < (l0.length : Int) := of_decide_eq_true (by first | (with_reducible assumption) | assumption)
        obtain ⟨ad542, e542, hx542_0⟩ := Kd.zqe HR0.out x6_1 p542 q542
        cases e542
        replace hx542_0 := (HB.out.cell (World.block_lt_of_cell? w _ hx542_0)).trans hx542_0
        replace p542 := eq_true p542
        replace q542 := eq_true q542
        have p543 : 0 ≤ ((rd l0 x6_1) : Int) := of_decide_eq_true (by first | (with_reducible assumption) | assumption)
        have q543 : (rd l0 x6_1) < (l1.length : Int) := of_decide_eq_true (by first | (with_reducible assumption) | assumption)
        obtain ⟨ad543, A543_0, c543_0, e543, hx543_0, hl543_0, hi543_0⟩ := at_L5 (Kd.znf HO_1.out).2.2 (rd l0 x6_1) p543 q543
        cases e543
        obtain ⟨ce543, hce543, hMe543, hcc543⟩ := Kd.V_get HO_1.out [] (rd l0 x6_1) p543 (by first | exact q543 | exact of_decide_eq_true (by first | (with_reducible assumption) | assumption) | (have e_ := (Kd.znf HO_1.out).1; omega))
        obtain ⟨ua543_0, uc543_0, rfl, ul543_0, ge543_0⟩ := Kd.zpf hMe543
        have hv543_0 := hcc543 0 _ rfl
        rw [Nat.add_zero, show ((Kd.slice 5 (Kd.int .u8))).sz = 1 from rfl, Nat.mul_one] at hv543_0
        replace hv543_0 := Option.some.inj (hv543_0.symm.trans hx543_0)
        injection hv543_0 with hva_ hvn_ hvc_
        rw [hva_] at ge543_0
        rw [hvc_] at ul543_0
        have HL543_0 := za.mk (show Kd.V (Kd.int .u8) 5 _ w.heap.size _ _ (rd_L5 l1 (rd l0 x6_1)) from Kd.V_mk ul543_0 ge543_0)
        clear hva_ hvn_ hvc_ ge543_0 ul543_0
        clear hcc543 hce543
        have HR543_0 := za.mk hi543_0
        have HC543_0 := za.mk hl543_0
        clear hi543_0 hl543_0
        replace p543 := eq_true p543
        replace q543 := eq_true q543
        go_wp2_with (first | ((with_reducible refine zdd (b := .append) (xs := #[.tmp 14, .tmp 22]) rfl ?_); at_builtin; refine Kd.N_append (Kd.slice 5 (Kd.int .u8)) (w0 := w) w.heap.size rfl (.tmp 14) (.tmp 22) 35 43 (.slice none 0 0) 24 rfl Tryz.underlying35 info43 rfl (by decide) (by omega) u5 x5_1 (rd_L5 l1 (rd l0 x6_1)) [.slice A543_0 (rd_L5 l1 (rd l0 x6_1)).length c543_0] (fun k_ => (P1_ k_ ∨ w.heap.size ≤ k_)) (fun k_ => ((fun k_ => (P1_ k_ ∨ w.heap.size ≤ k_))) k_ ∧ some k_ ≠ (u5 : Value).ownBlock) rfl rfl ?aP (fun _ hk => hk) ?aF ?aO ?aB ?aS ?aL ?_; (case aP => exact (Kd.FK_slice_mk (Kd.znf (Kd.V_mono (ok' := (fun k_ => ((fun k_ => (P1_ k_ ∨ w.heap.size ≤ k_))) k_ ∧ some k_ ≠ (u5 : Value).ownBlock)) (HL543_0.out) (fun k_ hk => ⟨hk.1, hk.2⟩))).2.1 (Kd.V_F (Kd.V_mono (ok' := (fun k_ => ((fun k_ => (P1_ k_ ∨ w.heap.size ≤ k_))) k_ ∧ some k_ ≠ (u5 : Value).ownBlock)) (HL543_0.out) (fun k_ hk => ⟨hk.1, hk.2⟩))))); (case aB => exact (by apply_rules only [HB.out, ze, zb, zf])); (case aF => exact (fun k_ hk => (.inr (Nat.le_trans (zm (by apply_rules only [HB.out, ze, zb, zf])) hk)))); (case aO => exact (by apply_rules only [HO_5.out, Kd.zkc, Kd.zjc, Kd.zvc])); (case aS => exact (zm (by apply_rules only [HB.out, ze, zb, zf]))); (case aL => have := LMc9.out; omega); intro v545 w10 ho hb hg hat; rw [← Ny544.out] at ho; have n0_ := za.mk (Kd.V_afterv (ok := (fun k_ => (P1_ k_ ∨ w.heap.size ≤ k_))) (by (with_reducible repeat (first | apply Kd.V_alloc | apply Kd.zaf | apply Kd.V_drew)); exact HO_1.out) hg hat); have n1_ := za.mk (Kd.V_afterv (ok := (fun k_ => (P1_ k_ ∨ w.heap.size ≤ k_))) (by (with_reducible repeat (first | apply Kd.V_alloc | apply Kd.zaf | apply Kd.V_drew)); exact HL543_0.out) hg hat); have n2_ := za.mk (hb); have n3_ := za.mk (ho); clear HO_1; clear HL543_0; clear HB; clear HO_5; have HO_1 := n0_; have HL543_0 := n1_; have HB := n2_; have HO546 := n3_; clear n0_ n1_ n2_ n3_; clear ho hb hg hat))
        go_roundg k1
        case measure => have := HK1.out; omega
        case rel => exact ⟨(y544), (wrap64 (x6_1 + 1)), (by first | rfl | simp [*]), H', ⟨by have := HK1.out; omega⟩, ⟨by (with_reducible repeat (first | apply Kd.V_alloc | apply Kd.zaf | apply Kd.V_drew)); exact HO_1.out⟩, ⟨by apply_rules only [HO546.out, Kd.zkc, Kd.zjc, Kd.zvc]⟩, ⟨by apply_rules only [HB.out, ze, zb, zf]⟩⟩
       ·rw [if_neg c9] at H
        exact absurd H (by simp)
      ·rw [if_neg c8] at H
       exact absurd H (by simp)
     ·rw [if_neg c7] at H
      exact absurd H (by simp)
    ·rw [if_neg c6] at H
     exact absurd H (by simp)
   ·rw [if_neg c5] at H
    have c5b0 : decide (x6_1 < (l0.length : Int)) = false := decide_eq_false c5
    clear c5
    obtain rfl := Option.some.inj H
    go_wp2
    go_ret
    exact ⟨_, by first | rfl | (simp [zn, zo] <;> rfl) | (simp [*, zn, zo] <;> rfl), by apply_rules only [HO_5.out, Kd.zkc, Kd.zjc, Kd.zvc], by apply_rules only [HB.out, ze, zb, zf]⟩
def zpb.l0 : Nat → List Int → List Int → List Int → Int → Option (List Int)
 | 0, _, _, _, _ => none
 | k + 1, x0, x1, x5, x6 => if x6 < (x0.length : Int) then (if 0 ≤ x6 then (if x6 < (x1.length : Int) then (if x6 < (x5.length : Int) then (zpb.l0 k x0 x1 (x5.set (x6 : Int).toNat (Go.bits .xor .u8 (rd x0 x6) (rd x1 x6))) (wrap64 (x6 + 1))) else (none)) else (none)) else (none)) else (some x5)
def zpb.f (k : Nat) (l0 : List Int) (l1 : List Int) : Option (List Int) := if 0 ≤ (l0.length : Int) then (if ((l0.length : Int) : Int).toNat ≤ 281474976710656 then (zpb.l0 k l0 l1 (List.replicate ((l0.length : Int) : Int).toNat 0) 0) else (none)) else (none)
def zpb.T5 : Bool × List (List Nat × List Nat) := (true, [([], []), ([], []), ([], []), ([], []), ([2, 3], [2, 3]), ([4], [4]), ([], []), ([], []), ([6, 7], [6, 7]), ([8], [8]), ([5, 9], [5, 9]), ([0, 1, 0, 1, 2, 3, 4, 5, 6, 7, 8, 9, 10], [0, 1]), ([11, 10, 0, 1, 2, 3, 4, 5, 6, 7, 8, 9, 10], [10, 11])])
def zpb.B5 : List Nat := [0, 0, 0, 0, 12, 28, 0, 0, 192, 448, 1020, 2047, 4095]
theorem zpb.tab5 : rtab .any (opsOf Tryz.f19 5) = zpb.T5 := by kernel_rfl
theorem zpb.bits5 : waitsOk zpb.T5.2 zpb.B5 = true := by kernel_rfl
theorem zpb.calls (k : Nat) (A0 : Option Addr) (c0 : Nat) (l0 : List Int) (A1 : Option Addr) (c1 : Nat) (l1 : List Int) (r : List Int) (w : World) (hr0 : Kd.C (Kd.int .u8) w A0 l0.length l0) (hc0 : l0.length ≤ c0) (hr1 : Kd.C (Kd.int .u8) w A1 l1.length l1) (hc1 : l1.length ≤ c1) (h : zpb.f k l0 l1 = some r) :
  Calls Tryz.prog 19 #[.slice A0 l0.length c0, .slice A1 l1.length c1] w fun e w' => ∃ v0_ : Value, e = .returned (v0_) ∧ Kd.R (Kd.int .u8) 5 w' w.heap.size (fun _ => True) v0_ r ∧ Below w.heap.size w w' := by
 have HR0 := za.mk hr0
 have HC0 := za.mk hc0
 clear hr0 hc0
 have HR1 := za.mk hr1
 have HC1 := za.mk hc1
 clear hr1 hc1
 have HB := za.mk (Below.refl w.heap.size w)
 have H : (if 0 ≤ (l0.length : Int) then (if ((l0.length : Int) : Int).toNat ≤ 281474976710656 then (zpb.l0 k l0 l1 (List.replicate ((l0.length : Int) : Int).toNat 0) 0) else (none)) else (none)) = some r := h
 clear h
 by_cases c3 : 0 ≤ (l0.length : Int)
 ·rw [if_pos c3] at H
  have c3b0 := eq_true c3
  have c3b1 : decide (0 ≤ (l0.length : Int)) = true := decide_eq_true c3
  clear c3
  by_cases c4 : ((l0.length : Int) : Int).toNat ≤ 281474976710656
  ·rw [if_pos c4] at H
   have c4b0 := eq_true c4
   have c4b1 : decide (((l0.length : Int) : Int).toNat ≤ 281474976710656) = true := decide_eq_true c4
   clear c4
   obtain ⟨y526, hy526⟩ : ∃ y_ : List Int, y_ = (List.replicate ((l0.length : Int) : Int).toNat 0) := ⟨_, rfl⟩
   replace H : (zpb.l0 k l0 l1 y526 0) = some r := by first | (rw [hy526]; with_reducible exact H) | (have H2_ := (Option.bind_some _ _).symm.trans H; rw [hy526]; with_reducible exact H2_) | (have H2_ := (Option.bind_some _ _).symm.trans H; with_reducible exact H2_) | with_reducible exact H | (rw [hy526]; exact H) | exact H
   have Ny526 := za.mk hy526
   clear hy526
   have H' := za.mk H
   clear H
   go_enter Tryz.func19, Tryz.ntmps19
   go_wp2_with (first | ((with_reducible refine zza (N := 9) rfl ?_); refine Kd.R_make (Kd.int .u8) _ 5 rfl (N := 9) rfl 43 _ _ rfl (l0.length : Int) rfl rfl Tryz.underlying43 (.int .u8 0) 1 info5 rfl (by decide) (by omega) 0 (ok := fun _ => True) (okp := fun _ => True) rfl (fun _ hk => hk) trivial (of_decide_eq_true (by first | (with_reducible assumption) | assumption)) (Nat.le_trans (Nat.mul_le_mul_right _ (of_decide_eq_true (by first | (with_reducible assumption) | assumption) : (l0.length : Int).toNat ≤ 281474976710656)) (by omega)) (Below.refl _ _) (Nat.le_refl _) ?_; intro v527 w5 ho6 hb hg_ hnew_; clear hg_ hnew_; (first | rw [← Ny526.out] at ho6 | (simp only [Int.reduceToNat] at ho6; rw [← Ny526.out] at ho6)); have n0_ := za.mk (Kd.zcd ho6 (zm (by apply_rules only [HB.out, ze, zb, zf]))); have n1_ := za.mk (zk (by apply_rules only [HB.out, ze, zb, zf]) hb); clear HB; have HO528 := n0_; have HB := n1_; clear n0_ n1_; clear hb ho6))
   go_loopg [6] k (fun kq v6 w' => ∃ (x5_1 : List Int) (x6_1 : Int), v6 = .int .i64 x6_1 ∧ za (zpb.l0 kq l0 l1 x5_1 x6_1 = some r) ∧ za (kq ≤ k) ∧ za (Kd.R (Kd.int .u8) 5 w' w.heap.size (fun _ => True) v527 x5_1) ∧ za (Below w.heap.size w w'))
   case atStart => exact ⟨(y526), (0), (by first | rfl | simp [*]), H', ⟨Nat.le_refl _⟩, ⟨by apply_rules only [HO528.out, Kd.zka, Kd.zja, Kd.zya]⟩, ⟨by apply_rules only [HB.out, ze, zb, zf]⟩⟩
   case round =>
    clear H'
    obtain ⟨x5_1, x6_1, rfl, HA, HK1, HO_5, HB⟩ := hrel
    cases gk with
    | zero => exact absurd HA.out (by simp [zpb.l0])
    | succ k1 =>
     have H := HA.out
     clear HA
     simp only [zpb.l0] at H
     by_cases c7 : x6_1 < (l0.length : Int)
     ·rw [if_pos c7] at H
      have c7b0 : decide (x6_1 < (l0.length : Int)) = true := decide_eq_true c7
      clear c7
      by_cases c8 : 0 ≤ x6_1
      ·rw [if_pos c8] at H
       have c8b0 : decide (0 ≤ x6_1) = true := decide_eq_true c8
       clear c8
       by_cases c9 : x6_1 < (l1.length : Int)
       ·rw [if_pos c9] at H
        have c9b0 : decide (x6_1 < (l1.length : Int)) = true := decide_eq_true c9
        clear c9
        by_cases c10 : x6_1 < (x5_1.length : Int)
        ·rw [if_pos c10] at H
         have c10b0 : decide (x6_1 < (x5_1.length : Int)) = true := decide_eq_true c10
         clear c10
         obtain ⟨y531, hy531⟩ : ∃ y_ : List Int, y_ = (x5_1.set (x6_1 : Int).toNat (Go.bits .xor .u8 (rd l0 x6_1) (rd l1 x6_1))) := ⟨_, rfl⟩
         replace H : (zpb.l0 k1 l0 l1 y531 (wrap64 (x6_1 + 1))) = some r := by first | (rw [hy531]; with_reducible exact H) | (have H2_ := (Option.bind_some _ _).symm.trans H; rw [hy531]; with_reducible exact H2_) | (have H2_ := (Option.bind_some _ _).symm.trans H; with_reducible exact H2_) | with_reducible exact H | (rw [hy531]; exact H) | exact H
         have Ny531 := za.mk hy531
         clear hy531
         have H' := za.mk H
         clear H
         try go_wp2
         have n0_ := za.mk (Kd.zya HO_5.out)
         have n1_ := za.mk (zf HB.out)
         clear HO_5
         clear HB
         have HO_5 := n0_
         have HB := n1_
         clear n0_ n1_
         have p529 : 0 ≤ (x6_1 : Int) := of_decide_eq_true (by first | (with_reducible assumption) | assumption)
         have q529 : x6_1 < (l0.length : Int) := of_decide_eq_true (by first | (with_reducible assumption) | assumption)
         obtain ⟨ad529, e529, hx529_0⟩ := Kd.zqe HR0.out x6_1 p529 q529
         have hw529_0 := hx529_0
         cases e529
         replace hx529_0 := (HB.out.cell (World.block_lt_of_cell? w _ hx529_0)).trans hx529_0
         replace p529 := eq_true p529
         replace q529 := eq_true q529
         have p530 : 0 ≤ (x6_1 : Int) := of_decide_eq_true (by first | (with_reducible assumption) | assumption)
         have q530 : x6_1 < (l1.length : Int) := of_decide_eq_true (by first | (with_reducible assumption) | assumption)
         obtain ⟨ad530, e530, hx530_0⟩ := Kd.zqe HR1.out x6_1 p530 q530
         have hw530_0 := hx530_0
         cases e530
         replace hx530_0 := (HB.out.cell (World.block_lt_of_cell? w _ hx530_0)).trans hx530_0
         replace p530 := eq_true p530
         replace q530 := eq_true q530
         have p11 : 0 ≤ (x6_1 : Int) := of_decide_eq_true (by first | (with_reducible assumption) | assumption)
         have q11 : (x6_1 : Int) < ((x5_1.length : Int) : Int) := of_decide_eq_true (by first | (with_reducible assumption) | assumption)
         obtain ⟨go11, co11, eo11, gb11, gl11, cl11, HG11⟩ := Kd.R_form HO_5.out (by omega)
         (first | cases eo11 | (injection eo11 with ea_ en_ ec_; (first | subst ea_ | (injection ea_ with ea_; subst ea_)); subst ec_; clear en_))
         have GB11 := za.mk gb11
         have GG11 := za.mk HG11
         clear gb11 gl11 HG11
         obtain ⟨hx11_0, hf11_0⟩ := Kd.R_celln 0 HO_5.out (x6_1 : Int) p11 q11
         replace p11 := eq_true p11
         replace q11 := eq_true q11
         have HP13 := Kd.R_putn HO_5.out (x6_1 : Int) (Go.bits .xor .u8 (rd l0 x6_1) (rd l1 x6_1))
         rw [← Ny531.out] at HP13
         have HQ13 := za.mk HP13
         clear HP13
         refine zsf (n := 13) (S := fun w' => w'.cell? (ad529.add (x6_1).toNat) = some (.int .u8 (rd l0 x6_1)) ∧ w'.cell? (ad530.add (x6_1).toNat) = some (.int .u8 (rd l1 x6_1))) (ds := [12]) #[false, false, false, false, false, false, false, false, false, false, false, false, false] (by kernel_rfl) rfl rfl ⟨((HB.out.cell (World.block_lt_of_cell? w _ hw529_0)).trans hw529_0), ((HB.out.cell (World.block_lt_of_cell? w _ hw530_0)).trans hw530_0)⟩ (fun hHeld => ?_); refine zke zpb.tab5 zpb.bits5 (fun HT_ HW_ => ?_)
         generalize wr.drew = w12 at HO_5 HB GG11 HQ13 hf11_0 hx11_0 hx529_0 hx530_0 hHeld ⊢
         refine pure_ (i := 0) (N := some 16) (v := ?_) (a' := ?_) #[true, false, false, false, false, false, false, false, false, false, false, false, false] rfl rfl (zvb HT_.out (by kernel_rfl)) (fun _ _ _ h => h) (Or.inl ⟨by rfl, ?_⟩) ?_ ?_
         rotate_left
         ·intro w'
          go_simp
          with_reducible rfl
         rotate_left
         ·simp only [Act.put, zw]
          rfl
         refine pure_ (i := 1) (N := some 17) (v := ?_) (a' := ?_) #[true, true, false, false, false, false, false, false, false, false, false, false, false] rfl rfl (zvb HT_.out (by kernel_rfl)) (fun _ _ _ h => h) (Or.inl ⟨by rfl, ?_⟩) ?_ ?_
         rotate_left
         ·intro w'
          go_simp
          with_reducible rfl
         rotate_left
         ·simp only [Act.put, zw]
          rfl
         refine pure_ (i := 2) (N := some 18) (v := ?_) (a' := ?_) #[true, true, true, false, false, false, false, false, false, false, false, false, false] rfl rfl (zvb HT_.out (by kernel_rfl)) (fun _ _ _ h => h) (Or.inl ⟨by rfl, ?_⟩) ?_ ?_
         rotate_left
         ·intro w'
          go_simp
          with_reducible rfl
         rotate_left
         ·simp only [Act.put, zw]
          rfl
         refine pure_ (i := 3) (N := some 19) (v := ?_) (a' := ?_) #[true, true, true, true, false, false, false, false, false, false, false, false, false] rfl rfl (zvb HT_.out (by kernel_rfl)) (fun _ _ _ h => h) (Or.inl ⟨by rfl, ?_⟩) ?_ ?_
         rotate_left
         ·intro w'
          go_simp
          with_reducible rfl
         rotate_left
         ·simp only [Act.put, zw]
          rfl
         refine pure_ (i := 4) (N := some 20) (v := ?_) (a' := ?_) #[true, true, true, true, true, false, false, false, false, false, false, false, false] rfl rfl (zvb HT_.out (by kernel_rfl)) (fun _ _ _ h => h) (Or.inl ⟨by rfl, ?_⟩) ?_ ?_
         rotate_left
         ·intro w'
          go_simp
          with_reducible rfl
         rotate_left
         ·simp only [Act.put, zw]
          rfl
         refine pure_ (i := 6) (N := some 22) (v := ?_) (a' := ?_) #[true, true, true, true, true, false, true, false, false, false, false, false, false] rfl rfl (zvb HT_.out (by kernel_rfl)) (fun _ _ _ h => h) (Or.inl ⟨by rfl, ?_⟩) ?_ ?_
         rotate_left
         ·intro w'
          go_simp
          with_reducible rfl
         rotate_left
         ·simp only [Act.put, zw]
          rfl
         refine pure_ (i := 7) (N := some 23) (v := ?_) (a' := ?_) #[true, true, true, true, true, false, true, true, false, false, false, false, false] rfl rfl (zvb HT_.out (by kernel_rfl)) (fun _ _ _ h => h) (Or.inl ⟨by rfl, ?_⟩) ?_ ?_
         rotate_left
         ·intro w'
          go_simp
          with_reducible rfl
         rotate_left
         ·simp only [Act.put, zw]
          rfl
         refine pure_ (i := 8) (N := some 24) (v := ?_) (a' := ?_) #[true, true, true, true, true, false, true, true, true, false, false, false, false] rfl rfl (zvb HT_.out (by kernel_rfl)) (fun _ _ _ h => h) (Or.inl ⟨by rfl, ?_⟩) ?_ ?_
         rotate_left
         ·intro w'
          go_simp
          with_reducible rfl
         rotate_left
         ·simp only [Act.put, zw]
          rfl
         refine take_ (i := 5) (N := some 21) (v := ?_) (a' := ?_) #[true, true, true, true, true, true, true, true, true, false, false, false, false] rfl rfl (zje HT_.out HW_.out (by kernel_rfl)) (fun _ _ _ h => h) (Or.inl ⟨by rfl, ?_⟩) hHeld ?_ ?_
         rotate_left
         ·rintro w' ⟨s0, s1⟩
          go_simp
          with_reducible rfl
         rotate_left
         ·simp only [Act.put, zw]
          rfl
         refine take_ (i := 9) (N := some 25) (v := ?_) (a' := ?_) #[true, true, true, true, true, true, true, true, true, true, false, false, false] rfl rfl (zje HT_.out HW_.out (by kernel_rfl)) (fun _ _ _ h => h) (Or.inl ⟨by rfl, ?_⟩) hHeld ?_ ?_
         rotate_left
         ·rintro w' ⟨s0, s1⟩
          go_simp
          with_reducible rfl
         rotate_left
         ·simp only [Act.put, zw]
          rfl
         refine pure_ (i := 10) (N := some 26) (v := ?_) (a' := ?_) #[true, true, true, true, true, true, true, true, true, true, true, false, false] rfl rfl (zvb HT_.out (by kernel_rfl)) (fun _ _ _ h => h) (Or.inl ⟨by rfl, ?_⟩) ?_ ?_
         rotate_left
         ·intro w'
          go_simp
          with_reducible rfl
         rotate_left
         ·simp only [Act.put, zw]
          rfl
         refine pure_ (i := 11) (N := some 27) (v := ?_) (a' := ?_) #[true, true, true, true, true, true, true, true, true, true, true, true, false] rfl rfl (zvb HT_.out (by kernel_rfl)) (fun _ _ _ h => h) (Or.inl ⟨by rfl, ?_⟩) ?_ ?_
         rotate_left
         ·intro w'
          go_simp
          with_reducible rfl
         rotate_left
         ·simp only [Act.put, zw]
          rfl
         refine last_ (i := 12) (N := none) #[true, true, true, true, true, true, true, true, true, true, true, true, true] rfl rfl (one_of HT_.out (by kernel_rfl)) (by decide) (fun K hK => ?_)
         refine skip_ (w1 := ?_) (by rfl) rfl ?_ ?_
         rotate_left
         ·go_simp
          rfl
         refine hK.out _ _ ?_
         clear hK K
         refine done_ (done_of HT_.out (by kernel_rfl)) ?_
         try go_wp2
         go_roundg k1
         case measure => have := HK1.out; omega
         case rel => exact ⟨(y531), (wrap64 (x6_1 + 1)), (by first | rfl | simp [*]), H', ⟨by have := HK1.out; omega⟩, ⟨by apply_rules only [HQ13.out, Kd.zka, Kd.zja, Kd.zya]⟩, ⟨by apply_rules only [HB.out, ze, zb, zf, fun h => zg h GB11.out]⟩⟩
        ·rw [if_neg c10] at H
         exact absurd H (by simp)
       ·rw [if_neg c9] at H
        exact absurd H (by simp)
      ·rw [if_neg c8] at H
       exact absurd H (by simp)
     ·rw [if_neg c7] at H
      have c7b0 : decide (x6_1 < (l0.length : Int)) = false := decide_eq_false c7
      clear c7
      obtain rfl := Option.some.inj H
      go_wp2
      go_ret
      exact ⟨_, by first | rfl | (simp [zn, zo] <;> rfl) | (simp [*, zn, zo] <;> rfl), by apply_rules only [HO_5.out, Kd.zka, Kd.zja, Kd.zya], by apply_rules only [HB.out, ze, zb, zf]⟩
  ·rw [if_neg c4] at H
   exact absurd H (by simp)
 ·rw [if_neg c3] at H
  exact absurd H (by simp)
def znc.l0 : Nat → List (List Int) → List Int → Int → Option (List Int)
 | 0, _, _, _ => none
 | k + 1, x0, x5, x6 => if x6 < (x0.length : Int) then (if 0 ≤ x6 then ((zpb.f k x5 (rd_L5 x0 x6)).bind fun t536 => (znc.l0 k x0 t536 (wrap64 (x6 + 1)))) else (none)) else (some x5)
def znc.f (k : Nat) (l0 : List (List Int)) (a1 : Int) : Option (List Int) := if 0 ≤ a1 then (if (a1 : Int).toNat ≤ 281474976710656 then (znc.l0 k l0 (List.replicate (a1 : Int).toNat 0) 0) else (none)) else (none)
theorem znc.calls (k : Nat) (A0 : Option Addr) (c0 : Nat) (l0 : List (List Int)) (a1 : Int) (r : List Int) (w : World) (hr0 : Kd.C (Kd.slice 5 (Kd.int .u8)) w A0 l0.length l0) (hc0 : l0.length ≤ c0) (h : znc.f k l0 a1 = some r) :
  Calls Tryz.prog 70 #[.slice A0 l0.length c0, .int .i64 a1] w fun e w' => ∃ v0_ : Value, e = .returned (v0_) ∧ Kd.R (Kd.int .u8) 5 w' w.heap.size (fun _ => True) v0_ r ∧ Below w.heap.size w w' := by
 have HR0 := za.mk hr0
 have HC0 := za.mk hc0
 clear hr0 hc0
 have HB := za.mk (Below.refl w.heap.size w)
 have H : (if 0 ≤ a1 then (if (a1 : Int).toNat ≤ 281474976710656 then (znc.l0 k l0 (List.replicate (a1 : Int).toNat 0) 0) else (none)) else (none)) = some r := h
 clear h
 by_cases c3 : 0 ≤ a1
 ·rw [if_pos c3] at H
  have c3b0 := eq_true c3
  have c3b1 : decide (0 ≤ a1) = true := decide_eq_true c3
  clear c3
  by_cases c4 : (a1 : Int).toNat ≤ 281474976710656
  ·rw [if_pos c4] at H
   have c4b0 := eq_true c4
   have c4b1 : decide ((a1 : Int).toNat ≤ 281474976710656) = true := decide_eq_true c4
   clear c4
   obtain ⟨y532, hy532⟩ : ∃ y_ : List Int, y_ = (List.replicate (a1 : Int).toNat 0) := ⟨_, rfl⟩
   replace H : (znc.l0 k l0 y532 0) = some r := by first | (rw [hy532]; with_reducible exact H) | (have H2_ := (Option.bind_some _ _).symm.trans H; rw [hy532]; with_reducible exact H2_) | (have H2_ := (Option.bind_some _ _).symm.trans H; with_reducible exact H2_) | with_reducible exact H | (rw [hy532]; exact H) | exact H
   have Ny532 := za.mk hy532
   clear hy532
   have H' := za.mk H
   clear H
   go_enter Tryz.func70, Tryz.ntmps70
   go_wp2_with (first | ((with_reducible refine zza (N := 8) rfl ?_); refine Kd.R_make (Kd.int .u8) _ 5 rfl (N := 8) rfl 43 _ _ rfl a1 rfl rfl Tryz.underlying43 (.int .u8 0) 1 info5 rfl (by decide) (by omega) 0 (ok := fun _ => True) (okp := fun _ => True) rfl (fun _ hk => hk) trivial (of_decide_eq_true (by first | (with_reducible assumption) | assumption)) (Nat.le_trans (Nat.mul_le_mul_right _ (of_decide_eq_true (by first | (with_reducible assumption) | assumption) : a1.toNat ≤ 281474976710656)) (by omega)) (Below.refl _ _) (Nat.le_refl _) ?_; intro v533 w5 ho6 hb hg_ hnew_; clear hg_ hnew_; (first | rw [← Ny532.out] at ho6 | (simp only [Int.reduceToNat] at ho6; rw [← Ny532.out] at ho6)); have n0_ := za.mk (Kd.zcd ho6 (zm (by apply_rules only [HB.out, ze, zb, zf]))); have n1_ := za.mk (zk (by apply_rules only [HB.out, ze, zb, zf]) hb); clear HB; have HO534 := n0_; have HB := n1_; clear n0_ n1_; clear hb ho6))
   go_loopg [5, 6] k (fun kq v5 v6 w' => ∃ (x5_1 : List Int) (x6_1 : Int), v6 = .int .i64 x6_1 ∧ za (znc.l0 kq l0 x5_1 x6_1 = some r) ∧ za (kq ≤ k) ∧ za (Kd.R (Kd.int .u8) 5 w' w.heap.size (fun _ => True) v5 x5_1) ∧ za (Below w.heap.size w w'))
   case atStart => exact ⟨(y532), (0), (by first | rfl | simp [*]), H', ⟨Nat.le_refl _⟩, ⟨by apply_rules only [HO534.out, Kd.zka, Kd.zja, Kd.zya]⟩, ⟨by apply_rules only [HB.out, ze, zb, zf]⟩⟩
   case round =>
    clear H'
    obtain ⟨x5_1, x6_1, rfl, HA, HK1, HO_5, HB⟩ := hrel
    cases gk with
    | zero => exact absurd HA.out (by simp [znc.l0])
    | succ k1 =>
     have H := HA.out
     clear HA
     simp only [znc.l0] at H
     by_cases c7 : x6_1 < (l0.length : Int)
     ·rw [if_pos c7] at H
      have c7b0 : decide (x6_1 < (l0.length : Int)) = true := decide_eq_true c7
      clear c7
      by_cases c8 : 0 ≤ x6_1
      ·rw [if_pos c8] at H
       have c8b0 : decide (0 ≤ x6_1) = true := decide_eq_true c8
       clear c8
       replace H := Option.bind_eq_some_iff.mp H
       obtain ⟨t536, A90, H⟩ := H
       replace H : (znc.l0 k1 l0 t536 (wrap64 (x6_1 + 1))) = some r := H
       have A9 := za.mk A90
       clear A90
       have H' := za.mk H
       clear H
       have p535 : 0 ≤ (x6_1 : Int) := of_decide_eq_true (by first | (with_reducible assumption) | assumption)
       have q535 : x6_1 < (l0.length : Int) := of_decide_eq_true (by first | (with_reducible assumption) | assumption)
       obtain ⟨ad535, A535_0, c535_0, e535, hx535_0, hl535_0, hi535_0⟩ := at_L5 HR0.out x6_1 p535 q535
       cases e535
       replace hx535_0 := (HB.out.cell (World.block_lt_of_cell? w _ hx535_0)).trans hx535_0
       have HR535_0 := za.mk hi535_0
       have HC535_0 := za.mk hl535_0
       clear hi535_0 hl535_0
       replace p535 := eq_true p535
       replace q535 := eq_true q535
       obtain ⟨Ao10, co10, eo10⟩ := Kd.zsc HO_5.out
       subst eo10
       go_wp2_with (first | ((with_reducible refine zaa (f := 19) rfl ?_); refine zmc (some 20) rfl rfl Tryz.func19 (by kernel_rfl) rfl #[.slice Ao10 x5_1.length co10, .slice A535_0 (rd_L5 l0 x6_1).length c535_0] rfl (by (try simp only [zpa]); first | done | rfl | simp) ?_; (with_reducible refine (zpb.calls k1 _ _ x5_1 _ _ (rd_L5 l0 x6_1) t536 _ ?side1 ?side2 ?side3 ?side4 A9.out).mono ?_); (case side1 => apply_rules only [(Kd.zsb HO_5.out).2.2, Kd.zod, Kd.zmd, Kd.zme]); (case side2 => exact (Kd.zsb HO_5.out).2.1); (case side3 => apply_rules only [(Kd.znd HR535_0.out HB.out), Kd.zod, Kd.zmd, Kd.zme]); (case side4 => exact HC535_0.out); rintro e w11 ⟨v537, rfl, ho0, hb⟩; refine ⟨_, rfl, ?_⟩; have n0_ := za.mk (Kd.R_elder' (by apply_rules only [HO_5.out, Kd.zka, Kd.zja, Kd.zya]) (Kd.zjf ho0) hb); have n1_ := za.mk (Kd.zcd (Kd.R_new' ho0 (Kd.R_lt (by apply_rules only [HO_5.out, Kd.zka, Kd.zja, Kd.zya]))) (zm (by apply_rules only [HB.out, ze, zb, zf]))); have n2_ := za.mk (zk (by apply_rules only [HB.out, ze, zb, zf]) hb); clear HO_5; clear HB; have HO_5 := n0_; have HO538 := n1_; have HB := n2_; clear n0_ n1_ n2_; (try clear hb); (try clear hb2); (try clear hk); (try clear hi); (try clear ho0)))
       go_roundg k1
       case measure => have := HK1.out; omega
       case rel => exact ⟨(t536), (wrap64 (x6_1 + 1)), (by first | rfl | simp [*]), H', ⟨by have := HK1.out; omega⟩, ⟨by (with_reducible repeat (first | apply Kd.zka | apply Kd.zja | apply Kd.zya)); exact Kd.zuc HO538.out (fun _ hk => trivial)⟩, ⟨by apply_rules only [HB.out, ze, zb, zf]⟩⟩
      ·rw [if_neg c8] at H
       exact absurd H (by simp)
     ·rw [if_neg c7] at H
      have c7b0 : decide (x6_1 < (l0.length : Int)) = false := decide_eq_false c7
      clear c7
      obtain rfl := Option.some.inj H
      go_wp2
      go_ret
      exact ⟨_, by first | rfl | (simp [zn, zo] <;> rfl) | (simp [*, zn, zo] <;> rfl), by apply_rules only [HO_5.out, Kd.zka, Kd.zja, Kd.zya], by apply_rules only [HB.out, ze, zb, zf]⟩
  ·rw [if_neg c4] at H
   exact absurd H (by simp)
 ·rw [if_neg c3] at H
  exact absurd H (by simp)
def zqd.f (k : Nat) (l0 : List Int) (l1 : List (List Int)) (a2 : Int) : Option (List Int) := (zcc.f k l0 l1).bind fun t547 => ((znc.f k t547 a2).bind fun t550 => (some t550))
theorem zqd.calls (k : Nat) (A0 : Option Addr) (c0 : Nat) (l0 : List Int) (A1 : Option Addr) (c1 : Nat) (l1 : List (List Int)) (a2 : Int) (r : List Int) (w : World) (hr0 : Kd.C (Kd.int .i64) w A0 l0.length l0) (hc0 : l0.length ≤ c0) (hr1 : Kd.C (Kd.slice 5 (Kd.int .u8)) w A1 l1.length l1) (hc1 : l1.length ≤ c1) (h : zqd.f k l0 l1 a2 = some r) :
  Calls Tryz.prog 49 #[.slice A0 l0.length c0, .slice A1 l1.length c1, .int .i64 a2] w fun e w' => ∃ v0_ : Value, e = .returned (v0_) ∧ Kd.R (Kd.int .u8) 5 w' w.heap.size (fun _ => True) v0_ r ∧ Below w.heap.size w w' := by
 have HR0 := za.mk hr0
 have HC0 := za.mk hc0
 clear hr0 hc0
 have HR1 := za.mk hr1
 have HC1 := za.mk hc1
 clear hr1 hc1
 have HB := za.mk (Below.refl w.heap.size w)
 have H : ((zcc.f k l0 l1).bind fun t547 => ((znc.f k t547 a2).bind fun t550 => (some t550))) = some r := h
 clear h
 replace H := Option.bind_eq_some_iff.mp H
 obtain ⟨t547, A40, H⟩ := H
 replace H : ((znc.f k t547 a2).bind fun t550 => (some t550)) = some r := H
 have A4 := za.mk A40
 clear A40
 replace H := Option.bind_eq_some_iff.mp H
 obtain ⟨t550, A50, H⟩ := H
 replace H : (some t550) = some r := H
 have A5 := za.mk A50
 clear A50
 obtain rfl := Option.some.inj H
 go_enter Tryz.func49, Tryz.ntmps49
 go_wp2_with (first | ((with_reducible refine zaa (f := 71) rfl ?_); refine zmc (some 9) rfl rfl Tryz.func71 (by kernel_rfl) rfl #[.slice A0 l0.length c0, .slice A1 l1.length c1] rfl (by (try simp only [zpa]); first | done | rfl | simp) ?_; (with_reducible refine (zcc.calls k _ _ l0 (fun k_ => k_ < w.heap.size) _ _ l1 t547 _ ?side1 ?side2 ?side3 A4.out).mono ?_); (case side1 => apply_rules only [HR0.out, Kd.zod, Kd.zmd, Kd.zme]); (case side2 => exact HC0.out); (case side3 => exact Kd.V_mk HC1.out (Kd.F_below (Kd.C_F (Kd.heap_slice 5 (Kd.heap_int .u8)) HR1.out) (by apply_rules only [HB.out, ze, zb, zf]))); rintro e w6 ⟨v548, rfl, ho0, hb⟩; refine ⟨_, rfl, ?_⟩; have n0_ := za.mk (Kd.N_lower (Kd.zye (ok' := fun k_ => True) ho0 (fun k_ hk_ => trivial)) (zm (by apply_rules only [HB.out, ze, zb, zf]))); have n1_ := za.mk (zk (by apply_rules only [HB.out, ze, zb, zf]) hb); clear HB; have HO549 := n0_; have HB := n1_; clear n0_ n1_; (try clear hb); (try clear hb2); (try clear hk); (try clear hi); (try clear ho0); obtain ⟨Ao7, co7, eo7⟩ := Kd.zbf HO549.out; subst eo7) | ((with_reducible refine zaa (f := 70) rfl ?_); refine zmc (some 11) rfl rfl Tryz.func70 (by kernel_rfl) rfl #[.slice Ao7 t547.length co7, .int .i64 a2] rfl (by (try simp only [zpa]); first | done | rfl | simp) ?_; (with_reducible refine (znc.calls k _ _ t547 a2 t550 _ ?side1 ?side2 A5.out).mono ?_); (case side1 => apply_rules only [(Kd.zzd HO549.out).2.2, Kd.zod, Kd.zmd, Kd.zme]); (case side2 => exact (Kd.zzd HO549.out).2.1); rintro e w8 ⟨v551, rfl, ho0, hb⟩; refine ⟨_, rfl, ?_⟩; have n0_ := za.mk (Kd.zff (by apply_rules only [HO549.out, Kd.zkc, Kd.zjc, Kd.zvc]) (Kd.zjf ho0) hb); have n1_ := za.mk (Kd.zcd ho0 (zm (by apply_rules only [HB.out, ze, zb, zf]))); have n2_ := za.mk (zk (by apply_rules only [HB.out, ze, zb, zf]) hb); clear HO549; clear HB; have HO549 := n0_; have HO552 := n1_; have HB := n2_; clear n0_ n1_ n2_; (try clear hb); (try clear hb2); (try clear hk); (try clear hi); (try clear ho0)))
 go_ret
 exact ⟨_, by first | rfl | (simp [zn, zo] <;> rfl) | (simp [*, zn, zo] <;> rfl), by apply_rules only [HO552.out, Kd.zka, Kd.zja, Kd.zya], by apply_rules only [HB.out, ze, zb, zf]⟩
mutual
def zr.j0 : Nat → Int → List (List Int) → Int → List (List Int) → Bool → Int → Int → Int → Int → Int → Option (Bool)
 | 0, _, _, _, _, _, _, _, _, _, _ => none
 | k + 1, x1, x2, x3, x4, x24, x554000, x554001, x554002, x554003, x554004 => if x24 = true then (some false) else ((zrb.f k x554000).bind fun t555 => ((zga.f k x554000 x554001 x554002 x554003 x554004 x1 t555).bind fun t558 => (zr.l0 k x2 x3 x4 t558 0 x554000 x554001 x554002 x554003 x554004)))
def zr.l0 : Nat → List (List Int) → Int → List (List Int) → List (List Int) → Int → Int → Int → Int → Int → Int → Option (Bool)
 | 0, _, _, _, _, _, _, _, _, _, _ => none
 | k + 1, x2, x3, x4, x11, x12, x554000, x554001, x554002, x554003, x554004 => if x12 < (x11.length : Int) then (if 0 ≤ x3 then (if (x3 : Int).toNat ≤ 281474976710656 then (if x12 ≥ (wrap64 (x554001 + x554002)) then (if 0 ≤ (wrap64 ((wrap64 (x12 - x554001)) - x554002)) then (if (wrap64 ((wrap64 (x12 - x554001)) - x554002)) < (x2.length : Int) then (if 0 ≤ x12 then ((zqd.f k (rd_L2 x11 x12) x4 x3).bind fun t566 => (if (strOfNums t566).toList = (strOfNums (rd_L5 x2 (wrap64 ((wrap64 (x12 - x554001)) - x554002)))).toList then (zr.l0 k x2 x3 x4 x11 (wrap64 (x12 + 1)) x554000 x554001 x554002 x554003 x554004) else (some false))) else (none)) else (none)) else (none)) else (if 0 ≤ x12 then ((zqd.f k (rd_L2 x11 x12) x4 x3).bind fun t570 => (if (strOfNums t570).toList = (strOfNums (List.replicate (x3 : Int).toNat 0)).toList then (zr.l0 k x2 x3 x4 x11 (wrap64 (x12 + 1)) x554000 x554001 x554002 x554003 x554004) else (some false))) else (none))) else (none)) else (none)) else (some true)
end
def zr.f (k : Nat) (a0_0 : Int) (a0_1 : Int) (a0_2 : Int) (a0_3 : Int) (a0_4 : Int) (a1 : Int) (l2 : List (List Int)) (a3 : Int) (l4 : List (List Int)) : Option (Bool) := if (l4.length : Int) = a0_3 then ((zhb.f k l4 a3).bind fun t554 => (zr.j0 k a1 l2 a3 l4 (t554 != 0) a0_0 a0_1 a0_2 a0_3 a0_4)) else (zr.j0 k a1 l2 a3 l4 true a0_0 a0_1 a0_2 a0_3 a0_4)
def zr.T10 : Bool × List (List Nat × List Nat) := (true, [([], []), ([], []), ([0, 1], [0, 1]), ([2], [2]), ([], []), ([], []), ([3, 4, 5], [3, 4, 5]), ([6], [6]), ([], []), ([8], [8]), ([7, 9], [7, 9])])
def zr.B10 : List Nat := [0, 0, 3, 7, 0, 0, 63, 127, 0, 256, 1023]
theorem zr.tab10 : rtab .any (opsOf Tryz.f18 10) = zr.T10 := by kernel_rfl
theorem zr.bits10 : waitsOk zr.T10.2 zr.B10 = true := by kernel_rfl
theorem zr.calls (k : Nat) (a0_0 : Int) (a0_1 : Int) (a0_2 : Int) (a0_3 : Int) (a0_4 : Int) (a1 : Int) (A2 : Option Addr) (c2 : Nat) (l2 : List (List Int)) (a3 : Int) (A4 : Option Addr) (c4 : Nat) (l4 : List (List Int)) (r : Bool) (w : World) (hr2 : Kd.C (Kd.slice 5 (Kd.int .u8)) w A2 l2.length l2) (hc2 : l2.length ≤ c2) (hr4 : Kd.C (Kd.slice 5 (Kd.int .u8)) w A4 l4.length l4) (hc4 : l4.length ≤ c4) (h : zr.f k a0_0 a0_1 a0_2 a0_3 a0_4 a1 l2 a3 l4 = some r) (hr_ : r = true) :
  Calls Tryz.prog 18 #[.agg #[.int .i64 a0_0, .int .i64 a0_1, .int .i64 a0_2, .int .i64 a0_3, .int .i64 a0_4], .int .i64 a1, .slice A2 l2.length c2, .int .i64 a3, .slice A4 l4.length c4] w fun e w' => e = .returned (.bool r) ∧ Below w.heap.size w w' := by
 have HR_ := za.mk hr_
 clear hr_
 have hu23 := Tryz.underlying23
 have HR2 := za.mk hr2
 have HC2 := za.mk hc2
 clear hr2 hc2
 have HR4 := za.mk hr4
 have HC4 := za.mk hc4
 clear hr4 hc4
 have HB := za.mk (Below.refl w.heap.size w)
 have H : (if (l4.length : Int) = a0_3 then ((zhb.f k l4 a3).bind fun t554 => (zr.j0 k a1 l2 a3 l4 (t554 != 0) a0_0 a0_1 a0_2 a0_3 a0_4)) else (zr.j0 k a1 l2 a3 l4 true a0_0 a0_1 a0_2 a0_3 a0_4)) = some r := h
 clear h
 have HC6 := za.mk H
 clear H
 go_enter Tryz.func18, Tryz.ntmps18
 go_upto_region 1 with (first | ((with_reducible refine zza (N := 5) rfl ?_); refine zgc ?hg (N := 5) ?hd (cs := #[.int .i64 a0_0, .int .i64 a0_1, .int .i64 a0_2, .int .i64 a0_3, .int .i64 a0_4]) (t := 23) ?hr ?_; (case hd => rfl); (case hg => rfl); (case hr => first | (go_simp; done) | (go_simp; rfl)); intro gb553 hg w7 hbox hb; have n0_ := za.mk (zk (by apply_rules only [HB.out, ze, zb, zf]) hb); have n1_ := za.mk (hbox); have n2_ := za.mk ((by rw [hg]; exact (zm (by apply_rules only [HB.out, ze, zb, zf])) : w.heap.size ≤ gb553)); have n3_ := za.mk ((by rw [hg]; exact (zm (by apply_rules only [HB.out, ze, zb, zf])) : w.heap.size ≤ gb553)); clear HB; have HB := n0_; have BK553 := n1_; have GW553 := n2_; have GE553 := n3_; clear n0_ n1_ n2_ n3_; clear hb hbox hg))
 (try simp only [Act.put, List.setIfInBounds_toArray, List.set_cons_zero, List.set_cons_succ])
 go_cut [24] (fun v24 wc => ∃ (kq : Nat) (x24_5 : Bool), v24 = .bool x24_5 ∧ za (zr.j0 kq a1 l2 a3 l4 x24_5 a0_0 a0_1 a0_2 a0_3 a0_4 = some r) ∧ za (kq ≤ k) ∧ za (wc.heap[gb553]? = some (.cells #[.int .i64 a0_0, .int .i64 a0_1, .int .i64 a0_2, .int .i64 a0_3, .int .i64 a0_4] 23 (0, 0))) ∧ za (Below w.heap.size w wc))
 case first =>
  have H := HC6.out
  clear HC6
  by_cases c8 : (l4.length : Int) = a0_3
  ·rw [if_pos c8] at H
   have c8b0 : ((l4.length : Int) == a0_3) = true := beq_iff_eq.mpr c8
   have c8b1 : ((l4.length : Int) != a0_3) = false := bne_eq_false_iff_eq.mpr c8
   clear c8
   (first | rw [c8b0] | (simp only [i64_w, i32_w]; rw [c8b0]) | skip)
   replace H := Option.bind_eq_some_iff.mp H
   obtain ⟨t554, A90, H⟩ := H
   replace H : (zr.j0 k a1 l2 a3 l4 (t554 != 0) a0_0 a0_1 a0_2 a0_3 a0_4) = some r := H
   have A9 := za.mk A90
   clear A90
   have H' := za.mk H
   clear H
   obtain ⟨hcz10_0, hcz10_1, hcz10_2, hcz10_3, hcz10_4⟩ := cells5 BK553.out
   obtain ⟨hfz10_0, hfz10_1, hfz10_2, hfz10_3, hfz10_4⟩ := zic BK553.out
   go_wp2_with (first | (go_at_call 47; (with_reducible refine (zhb.calls k _ _ l4 a3 t554 _ ?side1 ?side2 A9.out).mono ?_); (case side1 => apply_rules only [(Kd.znd HR4.out HB.out), Kd.zod, Kd.zmd, Kd.zme]); (case side2 => exact HC4.out); rintro e w' ⟨rfl, ⟨nd, rfl⟩⟩))
   go_meet
   case rel => exact ⟨_, ((t554 != 0)), (by first | rfl | simp [*]), H', ⟨by first | omega | exact Nat.le_refl _⟩, ⟨by apply_rules only [BK553.out, zh, zj, zi]⟩, ⟨by apply_rules only [HB.out, ze, zb, zf, fun h => zg h GE553.out]⟩⟩
  ·rw [if_neg c8] at H
   exact absurd H (by first | (have h_ := HR_.out; subst h_; cases k <;> simp [zr.j0]; done) | (have h_ := HR_.out; subst h_; cases k1 <;> simp [zr.j0]; done) | (have h_ := HR_.out; subst h_; cases k2 <;> simp [zr.j0]; done))
 case rest =>
  clear HC6
  obtain ⟨kq, x24_5, rfl, HA, HJ5, BK553, HB⟩ := hcut
  cases kq with
  | zero => exact absurd HA.out (by simp [zr.j0])
  | succ kj5 =>
   have H := HA.out
   clear HA
   simp only [zr.j0] at H
   by_cases c12 : x24_5 = true
   ·subst c12
    have H1 : (some false) = some r := by rw [if_pos rfl] at H; exact H
    exact absurd ((Option.some.inj H1).trans HR_.out) (by decide)
   ·replace c12 := Bool.eq_false_iff.mpr c12
    subst c12
    have H1 : ((zrb.f kj5 a0_0).bind fun t555 => ((zga.f kj5 a0_0 a0_1 a0_2 a0_3 a0_4 a1 t555).bind fun t558 => (zr.l0 kj5 l2 a3 l4 t558 0 a0_0 a0_1 a0_2 a0_3 a0_4))) = some r := by rw [if_neg (show ¬ (false = true) by decide)] at H; exact H
    clear H
    have H := H1
    clear H1
    replace H := Option.bind_eq_some_iff.mp H
    obtain ⟨t555, A130, H⟩ := H
    replace H : ((zga.f kj5 a0_0 a0_1 a0_2 a0_3 a0_4 a1 t555).bind fun t558 => (zr.l0 kj5 l2 a3 l4 t558 0 a0_0 a0_1 a0_2 a0_3 a0_4)) = some r := H
    have A13 := za.mk A130
    clear A130
    replace H := Option.bind_eq_some_iff.mp H
    obtain ⟨t558, A140, H⟩ := H
    replace H : (zr.l0 kj5 l2 a3 l4 t558 0 a0_0 a0_1 a0_2 a0_3 a0_4) = some r := H
    have A14 := za.mk A140
    clear A140
    have H' := za.mk H
    clear H
    try go_wp2
    have n0_ := za.mk (zj BK553.out)
    have n1_ := za.mk (zf HB.out)
    clear BK553
    clear HB
    have BK553 := n0_
    have HB := n1_
    clear n0_ n1_
    refine zsf (n := 7) (S := fun w' => w'.cell? ⟨gb553, 0, none⟩ = some (.int .i64 a0_0) ∧ w'.cell? ⟨gb553, 1, none⟩ = some (.int .i64 a0_1) ∧ w'.cell? ⟨gb553, 2, none⟩ = some (.int .i64 a0_2) ∧ w'.cell? ⟨gb553, 3, none⟩ = some (.int .i64 a0_3) ∧ w'.cell? ⟨gb553, 4, none⟩ = some (.int .i64 a0_4)) (ds := []) #[false, false, false, false, false, false, false] (by kernel_rfl) rfl rfl ⟨(zl BK553.out 0).trans rfl, (zl BK553.out 1).trans rfl, (zl BK553.out 2).trans rfl, (zl BK553.out 3).trans rfl, (zl BK553.out 4).trans rfl⟩ (fun hHeld => ?_)
    generalize wc.drew = w15 at BK553 HB hHeld ⊢
    refine pure_ (i := 1) (N := some 26) (v := ?_) (a' := ?_) #[false, true, false, false, false, false, false] rfl rfl (by kernel_rfl) (fun _ _ _ h => h) (Or.inl ⟨by rfl, ?_⟩) ?_ ?_
    rotate_left
    ·intro w'
     go_simp
     with_reducible rfl
    rotate_left
    ·simp only [Act.put, zw]
     rfl
    refine pure_ (i := 2) (N := some 27) (v := ?_) (a' := ?_) #[false, true, true, false, false, false, false] rfl rfl (by kernel_rfl) (fun _ _ _ h => h) (Or.inl ⟨by rfl, ?_⟩) ?_ ?_
    rotate_left
    ·intro w'
     go_simp
     with_reducible rfl
    rotate_left
    ·simp only [Act.put, zw]
     rfl
    refine take_ (i := 0) (N := some 25) (v := ?_) (a' := ?_) #[true, true, true, false, false, false, false] rfl rfl (by kernel_rfl) (fun _ _ _ h => h) (Or.inl ⟨by rfl, ?_⟩) hHeld ?_ ?_
    rotate_left
    ·rintro w' ⟨s0, s1, s2, s3, s4⟩
     go_simp
     with_reducible rfl
    rotate_left
    ·simp only [Act.put, zw]
     rfl
    refine take_ (i := 3) (N := some 28) (v := ?_) (a' := ?_) #[true, true, true, true, false, false, false] rfl rfl (by kernel_rfl) (fun _ _ _ h => h) (Or.inl ⟨by rfl, ?_⟩) hHeld ?_ ?_
    rotate_left
    ·rintro w' ⟨s0, s1, s2, s3, s4⟩
     go_simp
     with_reducible rfl
    rotate_left
    ·simp only [Act.put, zw]
     rfl
    refine one_ (i := 4) (N := some 29) #[true, true, true, true, true, false, false] rfl rfl (by kernel_rfl) (by decide) (fun K hK => ?_)
    refine goes_ Tryz.func12 (by kernel_rfl) rfl #[.int .i64 a0_0] (by rfl) rfl rfl (by (try simp only [zpa]); first | done | rfl | simp) ?_
    with_reducible refine (zrb.calls kj5 a0_0 t555 _ A13.out).mono ?_
    rintro e w16 ⟨v556, rfl, ho0, hb⟩
    refine ⟨_, rfl, ?_⟩
    have n0_ := za.mk (Kd.zcd ho0 (zm (by apply_rules only [HB.out, ze, zb, zf, fun h => zg h GE553.out])))
    have n1_ := za.mk (zy (g := gb553) (o := .cells #[.int .i64 a0_0, .int .i64 a0_1, .int .i64 a0_2, .int .i64 a0_3, .int .i64 a0_4] 23 (0, 0)) (by apply_rules only [BK553.out, zh, zj, zi]) hb)
    have n2_ := za.mk (zk (by apply_rules only [HB.out, ze, zb, zf, fun h => zg h GE553.out]) hb)
    clear BK553
    clear HB
    have HO557 := n0_
    have BK553 := n1_
    have HB := n2_
    clear n0_ n1_ n2_
    (try clear hb)
    (try clear hb2)
    (try clear hk)
    (try clear hi)
    (try clear ho0)
    obtain ⟨Ao17, co17, eo17⟩ := Kd.zsc HO557.out
    (first | subst eo17 | (injection eo17 with f1_ f2_ f3_; have f4_ := f1_.symm; have f5_ := f3_.symm; clear f1_ f2_ f3_; subst f4_; subst f5_))
    refine hK.out _ _ ⟨(zl BK553.out 0).trans rfl, (zl BK553.out 1).trans rfl, (zl BK553.out 2).trans rfl, (zl BK553.out 3).trans rfl, (zl BK553.out 4).trans rfl⟩ (fun hHeld => ?_)
    clear hK K
    refine norm_ (a' := ?_) ?_ ?_
    rotate_left
    ·show Act.put _ (some 29) _ = _
     simp only [Act.put, zw]
     rfl
    refine one_ (i := 5) (N := some 30) #[true, true, true, true, true, true, false] rfl rfl (by kernel_rfl) (by decide) (fun K hK => ?_)
    refine goes_ Tryz.func48 (by kernel_rfl) rfl #[.agg #[.int .i64 a0_0, .int .i64 a0_1, .int .i64 a0_2, .int .i64 a0_3, .int .i64 a0_4], .int .i64 a1, .slice Ao17 t555.length co17] (by rfl) rfl rfl (by (try simp only [zpa]); first | done | rfl | simp) ?_
    with_reducible refine (zga.calls kj5 a0_0 a0_1 a0_2 a0_3 a0_4 a1 _ _ t555 t558 _ ?side1 ?side2 A14.out).mono ?_
    (case side1 => apply_rules only [(Kd.zsb HO557.out).2.2, Kd.zod, Kd.zmd, Kd.zme])
    (case side2 => exact (Kd.zsb HO557.out).2.1)
    rintro e w18 ⟨v559, rfl, ho0, hb⟩
    refine ⟨_, rfl, ?_⟩
    have n0_ := za.mk (Kd.zvd (by apply_rules only [HO557.out, Kd.zka, Kd.zja, Kd.zya]) hb)
    have n1_ := za.mk (Kd.N_lower (Kd.zye (ok' := fun k_ => some k_ ≠ (.slice Ao17 t555.length co17 : Value).ownBlock ∧ k_ ≠ gb553) ho0 (fun k_ hk_ => ⟨(Kd.fresh' (Kd.R_lt (by apply_rules only [HO557.out, Kd.zka, Kd.zja, Kd.zya])) k_ hk_), (Kd.freshB (g := gb553) (o := .cells #[.int .i64 a0_0, .int .i64 a0_1, .int .i64 a0_2, .int .i64 a0_3, .int .i64 a0_4] 23 (0, 0)) (by apply_rules only [BK553.out, zh, zj, zi]) k_ hk_)⟩)) (zm (by apply_rules only [HB.out, ze, zb, zf, fun h => zg h GE553.out])))
    have n2_ := za.mk (zy (g := gb553) (o := .cells #[.int .i64 a0_0, .int .i64 a0_1, .int .i64 a0_2, .int .i64 a0_3, .int .i64 a0_4] 23 (0, 0)) (by apply_rules only [BK553.out, zh, zj, zi]) hb)
    have n3_ := za.mk (zk (by apply_rules only [HB.out, ze, zb, zf, fun h => zg h GE553.out]) hb)
    clear HO557
    clear BK553
    clear HB
    have HO557 := n0_
    have HO560 := n1_
    have BK553 := n2_
    have HB := n3_
    clear n0_ n1_ n2_ n3_
    (try clear hb)
    (try clear hb2)
    (try clear hk)
    (try clear hi)
    (try clear ho0)
    refine hK.out _ _ ⟨(zl BK553.out 0).trans rfl, (zl BK553.out 1).trans rfl, (zl BK553.out 2).trans rfl, (zl BK553.out 3).trans rfl, (zl BK553.out 4).trans rfl⟩ (fun hHeld => ?_)
    clear hK K
    refine norm_ (a' := ?_) ?_ ?_
    rotate_left
    ·show Act.put _ (some 30) _ = _
     simp only [Act.put, zw]
     rfl
    refine pure_ (i := 6) (N := some 11) (v := ?_) (a' := ?_) #[true, true, true, true, true, true, true] rfl rfl (by kernel_rfl) (fun _ _ _ h => h) (Or.inl ⟨by rfl, ?_⟩) ?_ ?_
    rotate_left
    ·intro w'
     go_simp
     with_reducible rfl
    rotate_left
    ·simp only [Act.put, zw]
     rfl
    refine done_ (by kernel_rfl) ?_
    try go_wp2
    go_loopg [12] kj5 (fun kq v12 w' => ∃ (x12_2 : Int), v12 = .int .i64 x12_2 ∧ za (zr.l0 kq l2 a3 l4 t558 x12_2 a0_0 a0_1 a0_2 a0_3 a0_4 = some r) ∧ za (kq ≤ kj5) ∧ za (Kd.N (Kd.slice 3 (Kd.int .i64)) 31 w' w.heap.size (fun k_ => k_ ≠ gb553) v559 t558) ∧ za (w'.heap[gb553]? = some (.cells #[.int .i64 a0_0, .int .i64 a0_1, .int .i64 a0_2, .int .i64 a0_3, .int .i64 a0_4] 23 (0, 0))) ∧ za (Below w.heap.size w w'))
    case atStart => exact ⟨(0), (by first | rfl | simp [*]), H', ⟨Nat.le_refl _⟩, ⟨by (with_reducible repeat (first | apply Kd.zkc | apply Kd.zjc | apply Kd.zvc)); exact Kd.zye HO560.out (fun _ hk => hk.2)⟩, ⟨by apply_rules only [BK553.out, zh, zj, zi]⟩, ⟨by apply_rules only [HB.out, ze, zb, zf, fun h => zg h GE553.out]⟩⟩
    case round =>
     clear H'
     obtain ⟨x12_2, rfl, HA, HK2, HO_11, BK553, HB⟩ := hrel
     cases gk with
     | zero => exact absurd HA.out (by simp [zr.l0])
     | succ k2 =>
      have H := HA.out
      clear HA
      simp only [zr.l0] at H
      by_cases c19 : x12_2 < (t558.length : Int)
      ·rw [if_pos c19] at H
       have c19b0 : decide (x12_2 < (t558.length : Int)) = true := decide_eq_true c19
       clear c19
       by_cases c20 : 0 ≤ a3
       ·rw [if_pos c20] at H
        have c20b0 := eq_true c20
        have c20b1 : decide (0 ≤ a3) = true := decide_eq_true c20
        clear c20
        by_cases c21 : (a3 : Int).toNat ≤ 281474976710656
        ·rw [if_pos c21] at H
         have c21b0 := eq_true c21
         have c21b1 : decide ((a3 : Int).toNat ≤ 281474976710656) = true := decide_eq_true c21
         clear c21
         obtain ⟨y561, hy561⟩ : ∃ y_ : List Int, y_ = (List.replicate (a3 : Int).toNat 0) := ⟨_, rfl⟩
         replace H : (if x12_2 ≥ (wrap64 (a0_1 + a0_2)) then (if 0 ≤ (wrap64 ((wrap64 (x12_2 - a0_1)) - a0_2)) then (if (wrap64 ((wrap64 (x12_2 - a0_1)) - a0_2)) < (l2.length : Int) then (if 0 ≤ x12_2 then ((zqd.f k2 (rd_L2 t558 x12_2) l4 a3).bind fun t566 => (if (strOfNums t566).toList = (strOfNums (rd_L5 l2 (wrap64 ((wrap64 (x12_2 - a0_1)) - a0_2)))).toList then (zr.l0 k2 l2 a3 l4 t558 (wrap64 (x12_2 + 1)) a0_0 a0_1 a0_2 a0_3 a0_4) else (some false))) else (none)) else (none)) else (none)) else (if 0 ≤ x12_2 then ((zqd.f k2 (rd_L2 t558 x12_2) l4 a3).bind fun t570 => (if (strOfNums t570).toList = (strOfNums y561).toList then (zr.l0 k2 l2 a3 l4 t558 (wrap64 (x12_2 + 1)) a0_0 a0_1 a0_2 a0_3 a0_4) else (some false))) else (none))) = some r := by first | (rw [hy561]; with_reducible exact H) | (have H2_ := (Option.bind_some _ _).symm.trans H; rw [hy561]; with_reducible exact H2_) | (have H2_ := (Option.bind_some _ _).symm.trans H; with_reducible exact H2_) | with_reducible exact H | (rw [hy561]; exact H) | exact H
         have Ny561 := za.mk hy561
         clear hy561
         by_cases c22 : x12_2 ≥ (wrap64 (a0_1 + a0_2))
         ·rw [if_pos c22] at H
          have c22b0 : decide ((wrap64 (a0_1 + a0_2)) ≤ x12_2) = true := decide_eq_true c22
          clear c22
          obtain ⟨ji23, hji23⟩ : ∃ j_ : Int, (wrap64 ((wrap64 (x12_2 - a0_1)) - a0_2)) = j_ := ⟨_, rfl⟩
          replace H : (if 0 ≤ (ji23) then (if (ji23) < (l2.length : Int) then (if 0 ≤ x12_2 then ((zqd.f k2 (rd_L2 t558 x12_2) l4 a3).bind fun t566 => (if (strOfNums t566).toList = (strOfNums (rd_L5 l2 (ji23))).toList then (zr.l0 k2 l2 a3 l4 t558 (wrap64 (x12_2 + 1)) a0_0 a0_1 a0_2 a0_3 a0_4) else (some false))) else (none)) else (none)) else (none)) = some r := by first | (rw [hji23] at H; exact H) | (simp only [hji23] at H ⊢; exact H)
          have hji23w : (IntKind.i64.wrap ((wrap64 (x12_2 - a0_1)) - a0_2)) = ji23 := (i64_w _).trans hji23
          by_cases c24 : 0 ≤ (ji23)
          ·rw [if_pos c24] at H
           have c24b0 : decide (0 ≤ (ji23)) = true := decide_eq_true c24
           clear c24
           by_cases c25 : (ji23) < (l2.length : Int)
           ·rw [if_pos c25] at H
            have c25b0 : decide ((ji23) < (l2.length : Int)) = true := decide_eq_true c25
            clear c25
            by_cases c26 : 0 ≤ x12_2
            ·rw [if_pos c26] at H
             have c26b0 : decide (0 ≤ x12_2) = true := decide_eq_true c26
             clear c26
             replace H := Option.bind_eq_some_iff.mp H
             obtain ⟨t566, A270, H⟩ := H
             replace H : (if (strOfNums t566).toList = (strOfNums (rd_L5 l2 (ji23))).toList then (zr.l0 k2 l2 a3 l4 t558 (wrap64 (x12_2 + 1)) a0_0 a0_1 a0_2 a0_3 a0_4) else (some false)) = some r := H
             have A27 := za.mk A270
             clear A270
             by_cases c28 : (strOfNums t566).toList = (strOfNums (rd_L5 l2 (ji23))).toList
             ·rw [if_pos c28] at H
              have c28b0 : ((strOfNums t566).toList == (strOfNums (rd_L5 l2 (ji23))).toList) = true := beq_iff_eq.mpr c28
              have c28b1 : ((strOfNums t566).toList != (strOfNums (rd_L5 l2 (ji23))).toList) = false := bne_eq_false_iff_eq.mpr c28
              clear c28
              have H' := za.mk H
              clear H
              obtain ⟨Ao29, co29, eo29⟩ := Kd.zbf HO_11.out
              subst eo29
              try go_wp2_with (first | ((with_reducible refine zza (N := 38) rfl ?_); refine Kd.R_make (Kd.int .u8) _ 5 rfl (N := 38) rfl 43 _ _ rfl a3 rfl rfl Tryz.underlying43 (.int .u8 0) 1 info5 rfl (by decide) (by omega) 0 (ok := fun _ => True) (okp := fun _ => True) rfl (fun _ hk => hk) trivial (of_decide_eq_true (by first | (with_reducible assumption) | assumption)) (Nat.le_trans (Nat.mul_le_mul_right _ (of_decide_eq_true (by first | (with_reducible assumption) | assumption) : a3.toNat ≤ 281474976710656)) (by omega)) (Below.refl _ _) (Nat.le_refl _) ?_; intro v562 w30 ho31 hb hg_ hnew_; clear hg_ hnew_; (first | rw [← Ny561.out] at ho31 | (simp only [Int.reduceToNat] at ho31; rw [← Ny561.out] at ho31)); have n0_ := za.mk (Kd.zff (by apply_rules only [HO_11.out, Kd.zkc, Kd.zjc, Kd.zvc]) (Kd.zjf ho31) hb); have n1_ := za.mk (Kd.zcd ho31 (zm (by apply_rules only [HB.out, ze, zb, zf, fun h => zg h GE553.out]))); have n2_ := za.mk (zy (g := gb553) (o := .cells #[.int .i64 a0_0, .int .i64 a0_1, .int .i64 a0_2, .int .i64 a0_3, .int .i64 a0_4] 23 (0, 0)) (by apply_rules only [BK553.out, zh, zj, zi]) hb); have n3_ := za.mk (zk (by apply_rules only [HB.out, ze, zb, zf, fun h => zg h GE553.out]) hb); clear HO_11; clear BK553; clear HB; have HO_11 := n0_; have HO563 := n1_; have BK553 := n2_; have HB := n3_; clear n0_ n1_ n2_ n3_; clear hb ho31; obtain ⟨hcz32_0, hcz32_1, hcz32_2, hcz32_3, hcz32_4⟩ := cells5 BK553.out; obtain ⟨hfz32_0, hfz32_1, hfz32_2, hfz32_3, hfz32_4⟩ := zic BK553.out; have p564 : 0 ≤ ((ji23) : Int) := of_decide_eq_true (by first | (with_reducible assumption) | assumption); have q564 : (ji23) < (l2.length : Int) := of_decide_eq_true (by first | (with_reducible assumption) | assumption); obtain ⟨ad564, A564_0, c564_0, e564, hx564_0, hl564_0, hi564_0⟩ := at_L5 HR2.out (ji23) p564 q564; cases e564; replace hx564_0 := (HB.out.cell (World.block_lt_of_cell? w _ hx564_0)).trans hx564_0; have HR564_0 := za.mk hi564_0; have HC564_0 := za.mk hl564_0; clear hi564_0 hl564_0; replace p564 := eq_true p564; replace q564 := eq_true q564))
              have n0_ := za.mk (Kd.zvc HO_11.out)
              have n1_ := za.mk (Kd.zya HO563.out)
              have n2_ := za.mk (zj BK553.out)
              have n3_ := za.mk (zf HB.out)
              clear HO_11
              clear HO563
              clear BK553
              clear HB
              have HO_11 := n0_
              have HO563 := n1_
              have BK553 := n2_
              have HB := n3_
              clear n0_ n1_ n2_ n3_
              have p565 : 0 ≤ (x12_2 : Int) := of_decide_eq_true (by first | (with_reducible assumption) | assumption)
              have q565 : x12_2 < (t558.length : Int) := of_decide_eq_true (by first | (with_reducible assumption) | assumption)
              obtain ⟨ad565, A565_0, c565_0, e565, hx565_0, hl565_0, hi565_0⟩ := at_L2 (Kd.zzd HO_11.out).2.2 x12_2 p565 q565
              cases e565
              obtain ⟨ce565, hce565, hMe565, hcc565⟩ := Kd.N_get HO_11.out [] x12_2 p565 (by first | exact q565 | exact of_decide_eq_true (by first | (with_reducible assumption) | assumption) | (have e_ := (Kd.zzd HO_11.out).1; omega))
              obtain ⟨ua565_0, uc565_0, rfl, ul565_0, ge565_0⟩ := Kd.zpf hMe565
              have hv565_0 := hcc565 0 _ rfl
              rw [Nat.add_zero, show ((Kd.slice 3 (Kd.int .i64))).sz = 1 from rfl, Nat.mul_one] at hv565_0
              replace hv565_0 := Option.some.inj (hv565_0.symm.trans hx565_0)
              injection hv565_0 with hva_ hvn_ hvc_
              rw [hva_] at ge565_0
              rw [hvc_] at ul565_0
              have HL565_0 := za.mk (show Kd.V (Kd.int .i64) 3 _ w.heap.size _ _ (rd_L2 t558 x12_2) from Kd.V_mk ul565_0 ge565_0)
              clear hva_ hvn_ hvc_ ge565_0 ul565_0
              clear hcc565 hce565
              have HR565_0 := za.mk hi565_0
              have HC565_0 := za.mk hl565_0
              clear hi565_0 hl565_0
              replace p565 := eq_true p565
              replace q565 := eq_true q565
              have HNa := za.mk (Kd.zye HO_11.out (ok' := fun k_ => k_ ≠ gb553) (fun _ hk => hk.1))
              clear HO_11
              have HO563 := za.mk (Kd.zuc HO563.out (ok' := fun _ => True) (fun _ _ => trivial))
              have HX := za.mk hx565_0
              clear hx565_0
              refine zsf (n := 11) (S := fun w' => True) (ds := []) #[false, false, false, false, false, false, false, false, false, false, false] (by kernel_rfl) rfl rfl trivial (fun hHeld => ?_)
              refine zke zr.tab10 zr.bits10 (fun HT_ HW_ => ?_)
              generalize w30.drew = w2_ at HNa HO563 BK553 HB HX HR565_0 hHeld ⊢
              refine pure_ (i := 0) (N := some 56) (v := ?_) (a' := ?_) #[true, false, false, false, false, false, false, false, false, false, false] rfl rfl (zvb HT_.out (by kernel_rfl)) (fun _ _ _ h => h) (Or.inl ⟨by rfl, ?_⟩) ?_ ?_
              rotate_left
              ·intro w'
               go_simp
               with_reducible rfl
              rotate_left
              ·simp only [Act.put, zw]
               rfl
              refine pure_ (i := 1) (N := some 57) (v := ?_) (a' := ?_) #[true, true, false, false, false, false, false, false, false, false, false] rfl rfl (zvb HT_.out (by kernel_rfl)) (fun _ _ _ h => h) (Or.inl ⟨by rfl, ?_⟩) ?_ ?_
              rotate_left
              ·intro w'
               go_simp
               with_reducible rfl
              rotate_left
              ·simp only [Act.put, zw]
               rfl
              refine pure_ (i := 4) (N := some 60) (v := ?_) (a' := ?_) #[true, true, false, false, true, false, false, false, false, false, false] rfl rfl (zvb HT_.out (by kernel_rfl)) (fun _ _ _ h => h) (Or.inl ⟨by rfl, ?_⟩) ?_ ?_
              rotate_left
              ·intro w'
               go_simp
               with_reducible rfl
              rotate_left
              ·simp only [Act.put, zw]
               rfl
              refine pure_ (i := 5) (N := some 61) (v := ?_) (a' := ?_) #[true, true, false, false, true, true, false, false, false, false, false] rfl rfl (zvb HT_.out (by kernel_rfl)) (fun _ _ _ h => h) (Or.inl ⟨by rfl, ?_⟩) ?_ ?_
              rotate_left
              ·intro w'
               go_simp
               with_reducible rfl
              rotate_left
              ·simp only [Act.put, zw]
               rfl
              refine pure_ (i := 8) (N := some 64) (v := ?_) (a' := ?_) #[true, true, false, false, true, true, false, false, true, false, false] rfl rfl (zvb HT_.out (by kernel_rfl)) (fun _ _ _ h => h) (Or.inl ⟨by rfl, ?_⟩) ?_ ?_
              rotate_left
              ·intro w'
               go_simp
               with_reducible rfl
              rotate_left
              ·simp only [Act.put, zw]
               rfl
              refine inv_at [2, 3, 6, 7, 9, 10] (fun a0_ b a w' => ∃ (v6 : Value), a = putSel a0_ b [(2, 58, .pointer (some (ad565.add x12_2.toNat))), (3, 59, .slice A565_0 (rd_L2 t558 x12_2).length c565_0), (6, 62, v6), (7, 63, .string (strOfNums t566)), (9, 65, .string (strOfNums (rd_L5 l2 ji23))), (10, 66, .bool false)] ∧ (Kd.N (Kd.slice 3 (Kd.int .i64)) 31 w' w.heap.size (fun k_ => k_ ≠ gb553) (.slice (some ad565) t558.length co29) t558) ∧ (Kd.R (Kd.int .u8) 5 w' w.heap.size (fun _ => True) v562 y561) ∧ (w'.heap[gb553]? = some (.cells #[.int .i64 a0_0, .int .i64 a0_1, .int .i64 a0_2, .int .i64 a0_3, .int .i64 a0_4] 23 (0, 0))) ∧ (Below w.heap.size w w') ∧ (w'.cell? (ad565.add x12_2.toNat) = some (.slice A565_0 (rd_L2 t558 x12_2).length c565_0)) ∧ (Kd.C (Kd.int .i64) w' A565_0 (rd_L2 t558 x12_2).length (rd_L2 t558 x12_2)) ∧ (b 6 = true → Kd.R (Kd.int .u8) 5 w' w.heap.size (fun _ => True) v6 t566)) HT_.out HW_.out (by kernel_rfl) (by kernel_rfl) ?_ ?_ ?_
              ·exact ⟨.bool false, by simp only [putSel, Bool.false_eq_true, if_false], HNa.out, HO563.out, BK553.out, HB.out, HX.out, HR565_0.out, fun h_ => absurd h_ (by decide)⟩
              ·skip
               clear BK553 HB HNa HO563 HR565_0 HX
               refine zfa ?_ ?_
               ·rintro b a w' ⟨v6, ha, Q_HNa, Q_HO563, Q_BK553, Q_HB, Q_HX, Q_HR565_0, Q_R6⟩ hb_ hon hoff
                refine ⟨_, rfl, fun K hK => ?_⟩
                have e56 : a.tmps[56]? = some (.slice (some ad565) t558.length co29) := by rw [ha]; exact (zlc rfl).trans rfl
                have e57 : a.tmps[57]? = some (.int .i64 x12_2) := by rw [ha]; exact (zlc rfl).trans rfl
                replace ha := za.mk ha
                have HNa := za.mk Q_HNa
                have HO563 := za.mk Q_HO563
                have BK553 := za.mk Q_BK553
                have HB := za.mk Q_HB
                have HX := za.mk Q_HX
                have HR565_0 := za.mk Q_HR565_0
                refine zbd (w1 := w') (v := .pointer (some (ad565.add x12_2.toNat))) (by rfl) rfl ?_ ?_
                ·go_simp
                 (try simp only [i64_w])
                 try rfl
                refine hK.out _ _ ⟨v6, (by rw [ha.out]; exact zla 0 hb_ rfl rfl rfl), Q_HNa, Q_HO563, Q_BK553, Q_HB, Q_HX, Q_HR565_0, fun h0_ => absurd ((hoff 6 (by kernel_rfl)).symm.trans h0_) (by decide)⟩
               refine zfa ?_ ?_
               ·rintro b a w' ⟨v6, ha, Q_HNa, Q_HO563, Q_BK553, Q_HB, Q_HX, Q_HR565_0, Q_R6⟩ hb_ hon hoff
                refine ⟨_, rfl, fun K hK => ?_⟩
                have e58 : a.tmps[58]? = some (.pointer (some (ad565.add x12_2.toNat))) := by rw [ha]; exact zxa (e := (2, 58, .pointer (some (ad565.add x12_2.toNat)))) 0 rfl rfl (hon 2 (by kernel_rfl)) rfl
                replace ha := za.mk ha
                have HNa := za.mk Q_HNa
                have HO563 := za.mk Q_HO563
                have BK553 := za.mk Q_BK553
                have HB := za.mk Q_HB
                have HX := za.mk Q_HX
                have HR565_0 := za.mk Q_HR565_0
                have z_ := HX.out
                refine zbd (w1 := w') (v := .slice A565_0 (rd_L2 t558 x12_2).length c565_0) (by rfl) rfl ?_ ?_
                ·go_simp
                 (try simp only [i64_w])
                 try rfl
                refine hK.out _ _ ⟨v6, (by rw [ha.out]; exact zla 1 hb_ rfl rfl rfl), Q_HNa, Q_HO563, Q_BK553, Q_HB, Q_HX, Q_HR565_0, fun h0_ => absurd ((hoff 6 (by kernel_rfl)).symm.trans h0_) (by decide)⟩
               refine zfa ?_ ?_
               ·rintro b a w' ⟨v6, ha, Q_HNa, Q_HO563, Q_BK553, Q_HB, Q_HX, Q_HR565_0, Q_R6⟩ hb_ hon hoff
                refine ⟨_, rfl, fun K hK => ?_⟩
                have e59 : a.tmps[59]? = some (.slice A565_0 (rd_L2 t558 x12_2).length c565_0) := by rw [ha]; exact zxa (e := (3, 59, .slice A565_0 (rd_L2 t558 x12_2).length c565_0)) 1 rfl rfl (hon 3 (by kernel_rfl)) rfl
                have e60 : a.tmps[60]? = some (.slice A4 l4.length c4) := by rw [ha]; exact (zlc rfl).trans rfl
                have e61 : a.tmps[61]? = some (.int .i64 a3) := by rw [ha]; exact (zlc rfl).trans rfl
                replace ha := za.mk ha
                have HNa := za.mk Q_HNa
                have HO563 := za.mk Q_HO563
                have BK553 := za.mk Q_BK553
                have HB := za.mk Q_HB
                have HX := za.mk Q_HX
                have HR565_0 := za.mk Q_HR565_0
                refine goes_ Tryz.func49 (by kernel_rfl) rfl #[.slice A565_0 (rd_L2 t558 x12_2).length c565_0, .slice A4 l4.length c4, .int .i64 a3] (by rfl) rfl rfl (by first | (simp only [List.map_toArray, List.map_cons, List.map_nil, Act.eval, Array.getD_eq_getD_getElem?, Option.getD_some, e59, e60, e61]; done) | (simp only [List.map_toArray, List.map_cons, List.map_nil, Act.eval, Array.getD_eq_getD_getElem?, Option.getD_some, e59, e60, e61]; rfl)) ?_
                refine (zqd.calls k2 _ _ (rd_L2 t558 x12_2) _ _ l4 a3 t566 _ HR565_0.out HC565_0.out (Kd.znd HR4.out HB.out) HC4.out A27.out).mono ?_
                rintro e w1' ⟨n6, rfl, ho, hb⟩
                refine ⟨_, rfl, ?_⟩
                refine hK.out _ _ ⟨n6, (by rw [ha.out]; exact zla 2 hb_ rfl rfl rfl), Kd.N_step HNa.out (fun k _ hl => hb.block k hl), Kd.zvd HO563.out hb, zy BK553.out hb, zk HB.out hb, (hb.cell (World.block_lt_of_cell? _ _ HX.out)).trans HX.out, Kd.znd HR565_0.out hb, fun _ => Kd.zcd ho HB.out.size⟩
               refine zfa ?_ ?_
               ·rintro b a w' ⟨v6, ha, Q_HNa, Q_HO563, Q_BK553, Q_HB, Q_HX, Q_HR565_0, Q_R6⟩ hb_ hon hoff
                refine ⟨_, rfl, fun K hK => ?_⟩
                have e62 : a.tmps[62]? = some (v6) := by rw [ha]; exact zxa (e := (6, 62, v6)) 2 rfl rfl (hon 6 (by kernel_rfl)) rfl
                replace ha := za.mk ha
                have HNa := za.mk Q_HNa
                have HO563 := za.mk Q_HO563
                have BK553 := za.mk Q_BK553
                have HB := za.mk Q_HB
                have HX := za.mk Q_HX
                have HR565_0 := za.mk Q_HR565_0
                have R6 := za.mk (Q_R6 (hon 6 (by kernel_rfl)))
                have hcv7 := own_string (P := Tryz.prog) Tryz.underlying43 Tryz.underlying5 Tryz.underlying9 (Kd.own_of_R R6.out)
                refine zbd (w1 := w') (v := .string (strOfNums t566)) (by rfl) rfl ?_ ?_
                ·go_simp
                 (try simp only [i64_w])
                 try rfl
                refine hK.out _ _ ⟨v6, (by rw [ha.out]; exact zla 3 hb_ rfl rfl rfl), Q_HNa, Q_HO563, Q_BK553, Q_HB, Q_HX, Q_HR565_0, Q_R6⟩
               refine zfa ?_ ?_
               ·rintro b a w' ⟨v6, ha, Q_HNa, Q_HO563, Q_BK553, Q_HB, Q_HX, Q_HR565_0, Q_R6⟩ hb_ hon hoff
                refine ⟨_, rfl, fun K hK => ?_⟩
                have e64 : a.tmps[64]? = some (.slice A564_0 (rd_L5 l2 ji23).length c564_0) := by rw [ha]; exact (zlc rfl).trans rfl
                replace ha := za.mk ha
                have HNa := za.mk Q_HNa
                have HO563 := za.mk Q_HO563
                have BK553 := za.mk Q_BK553
                have HB := za.mk Q_HB
                have HX := za.mk Q_HX
                have HR565_0 := za.mk Q_HR565_0
                have hcv9 := Kd.C_string (P := Tryz.prog) (A := A564_0) (c := c564_0) Tryz.underlying43 Tryz.underlying5 Tryz.underlying9 (Kd.znd HR564_0.out HB.out)
                refine zbd (w1 := w') (v := .string (strOfNums (rd_L5 l2 ji23))) (by rfl) rfl ?_ ?_
                ·go_simp
                 (try simp only [i64_w])
                 try rfl
                refine hK.out _ _ ⟨v6, (by rw [ha.out]; exact zla 4 hb_ rfl rfl rfl), Q_HNa, Q_HO563, Q_BK553, Q_HB, Q_HX, Q_HR565_0, Q_R6⟩
               refine zfa ?_ ?_
               ·rintro b a w' ⟨v6, ha, Q_HNa, Q_HO563, Q_BK553, Q_HB, Q_HX, Q_HR565_0, Q_R6⟩ hb_ hon hoff
                refine ⟨_, rfl, fun K hK => ?_⟩
                have e63 : a.tmps[63]? = some (.string (strOfNums t566)) := by rw [ha]; exact zxa (e := (7, 63, .string (strOfNums t566))) 3 rfl rfl (hon 7 (by kernel_rfl)) rfl
                have e65 : a.tmps[65]? = some (.string (strOfNums (rd_L5 l2 ji23))) := by rw [ha]; exact zxa (e := (9, 65, .string (strOfNums (rd_L5 l2 ji23)))) 4 rfl rfl (hon 9 (by kernel_rfl)) rfl
                replace ha := za.mk ha
                have HNa := za.mk Q_HNa
                have HO563 := za.mk Q_HO563
                have BK553 := za.mk Q_BK553
                have HB := za.mk Q_HB
                have HX := za.mk Q_HX
                have HR565_0 := za.mk Q_HR565_0
                have R6 := za.mk (Q_R6 (hon 6 (by kernel_rfl)))
                refine zbd (w1 := w') (v := .bool false) (by rfl) rfl ?_ ?_
                ·go_simp
                 (try simp only [i64_w])
                 try rfl
                refine hK.out _ _ ⟨v6, (by rw [ha.out]; exact zla 5 hb_ rfl rfl rfl), Q_HNa, Q_HO563, Q_BK553, Q_HB, Q_HX, Q_HR565_0, Q_R6⟩
               exact steps_nil
              rintro b a wl hall ⟨v6, ha, Q_HNa, Q_HO563, Q_BK553, Q_HB, Q_HX, Q_HR565_0, Q_R6⟩
              clear BK553 HB HNa HO563 HR565_0 HX
              have hb2_ := hall 2 (by kernel_rfl)
              have hb3_ := hall 3 (by kernel_rfl)
              have hb6_ := hall 6 (by kernel_rfl)
              have hb7_ := hall 7 (by kernel_rfl)
              have hb9_ := hall 9 (by kernel_rfl)
              have hb10_ := hall 10 (by kernel_rfl)
              subst ha
              simp only [putSel, hb2_, hb3_, hb6_, hb7_, hb9_, hb10_, if_true, Act.put, List.setIfInBounds_toArray, List.set_cons_zero, List.set_cons_succ]
              have HNa := za.mk Q_HNa
              clear Q_HNa
              have HO563 := za.mk Q_HO563
              clear Q_HO563
              have BK553 := za.mk Q_BK553
              clear Q_BK553
              have HB := za.mk Q_HB
              clear Q_HB
              have HX := za.mk Q_HX
              clear Q_HX
              have HR565_0 := za.mk Q_HR565_0
              clear Q_HR565_0
              have R6 := za.mk (Q_R6 hb6_)
              clear Q_R6
              clear hall hb2_ hb3_ hb6_ hb7_ hb9_ hb10_
              have HO_11 := HNa
              clear HNa
              try go_wp2
              go_roundg k2
              case measure => have := HJ5.out; have := HK2.out; omega
              case rel => exact ⟨(wrap64 (x12_2 + 1)), (by first | rfl | simp [*]), H', ⟨by have := HJ5.out; have := HK2.out; omega⟩, ⟨by apply_rules only [HO_11.out, Kd.zkc, Kd.zjc, Kd.zvc]⟩, ⟨by apply_rules only [BK553.out, zh, zj, zi]⟩, ⟨by apply_rules only [HB.out, ze, zb, zf, fun h => zg h GE553.out]⟩⟩
             ·rw [if_neg c28] at H
              exact absurd ((Option.some.inj H).trans HR_.out) (by decide)
            ·rw [if_neg c26] at H
             exact absurd H (by simp)
           ·rw [if_neg c25] at H
            exact absurd H (by simp)
          ·rw [if_neg c24] at H
           exact absurd H (by simp)
         ·rw [if_neg c22] at H
          have c22b0 : decide ((wrap64 (a0_1 + a0_2)) ≤ x12_2) = false := decide_eq_false c22
          clear c22
          by_cases c47 : 0 ≤ x12_2
          ·rw [if_pos c47] at H
           have c47b0 : decide (0 ≤ x12_2) = true := decide_eq_true c47
           clear c47
           replace H := Option.bind_eq_some_iff.mp H
           obtain ⟨t570, A480, H⟩ := H
           replace H : (if (strOfNums t570).toList = (strOfNums y561).toList then (zr.l0 k2 l2 a3 l4 t558 (wrap64 (x12_2 + 1)) a0_0 a0_1 a0_2 a0_3 a0_4) else (some false)) = some r := H
           have A48 := za.mk A480
           clear A480
           by_cases c49 : (strOfNums t570).toList = (strOfNums y561).toList
           ·rw [if_pos c49] at H
            have c49b0 : ((strOfNums t570).toList == (strOfNums y561).toList) = true := beq_iff_eq.mpr c49
            have c49b1 : ((strOfNums t570).toList != (strOfNums y561).toList) = false := bne_eq_false_iff_eq.mpr c49
            clear c49
            have H' := za.mk H
            clear H
            obtain ⟨Ao50, co50, eo50⟩ := Kd.zbf HO_11.out
            subst eo50
            try go_wp2_with (first | ((with_reducible refine zza (N := 38) rfl ?_); refine Kd.R_make (Kd.int .u8) _ 5 rfl (N := 38) rfl 43 _ _ rfl a3 rfl rfl Tryz.underlying43 (.int .u8 0) 1 info5 rfl (by decide) (by omega) 0 (ok := fun _ => True) (okp := fun _ => True) rfl (fun _ hk => hk) trivial (of_decide_eq_true (by first | (with_reducible assumption) | assumption)) (Nat.le_trans (Nat.mul_le_mul_right _ (of_decide_eq_true (by first | (with_reducible assumption) | assumption) : a3.toNat ≤ 281474976710656)) (by omega)) (Below.refl _ _) (Nat.le_refl _) ?_; intro v562 w51 ho52 hb hg_ hnew_; clear hg_ hnew_; (first | rw [← Ny561.out] at ho52 | (simp only [Int.reduceToNat] at ho52; rw [← Ny561.out] at ho52)); have n0_ := za.mk (Kd.zff (by apply_rules only [HO_11.out, Kd.zkc, Kd.zjc, Kd.zvc]) (Kd.zjf ho52) hb); have n1_ := za.mk (Kd.zcd ho52 (zm (by apply_rules only [HB.out, ze, zb, zf, fun h => zg h GE553.out]))); have n2_ := za.mk (zy (g := gb553) (o := .cells #[.int .i64 a0_0, .int .i64 a0_1, .int .i64 a0_2, .int .i64 a0_3, .int .i64 a0_4] 23 (0, 0)) (by apply_rules only [BK553.out, zh, zj, zi]) hb); have n3_ := za.mk (zk (by apply_rules only [HB.out, ze, zb, zf, fun h => zg h GE553.out]) hb); clear HO_11; clear BK553; clear HB; have HO_11 := n0_; have HO563 := n1_; have BK553 := n2_; have HB := n3_; clear n0_ n1_ n2_ n3_; clear hb ho52; obtain ⟨hcz53_0, hcz53_1, hcz53_2, hcz53_3, hcz53_4⟩ := cells5 BK553.out; obtain ⟨hfz53_0, hfz53_1, hfz53_2, hfz53_3, hfz53_4⟩ := zic BK553.out))
            have n0_ := za.mk (Kd.zvc HO_11.out)
            have n1_ := za.mk (Kd.zya HO563.out)
            have n2_ := za.mk (zj BK553.out)
            have n3_ := za.mk (zf HB.out)
            clear HO_11
            clear HO563
            clear BK553
            clear HB
            have HO_11 := n0_
            have HO563 := n1_
            have BK553 := n2_
            have HB := n3_
            clear n0_ n1_ n2_ n3_
            have p569 : 0 ≤ (x12_2 : Int) := of_decide_eq_true (by first | (with_reducible assumption) | assumption)
            have q569 : x12_2 < (t558.length : Int) := of_decide_eq_true (by first | (with_reducible assumption) | assumption)
            obtain ⟨ad569, A569_0, c569_0, e569, hx569_0, hl569_0, hi569_0⟩ := at_L2 (Kd.zzd HO_11.out).2.2 x12_2 p569 q569
            cases e569
            obtain ⟨ce569, hce569, hMe569, hcc569⟩ := Kd.N_get HO_11.out [] x12_2 p569 (by first | exact q569 | exact of_decide_eq_true (by first | (with_reducible assumption) | assumption) | (have e_ := (Kd.zzd HO_11.out).1; omega))
            obtain ⟨ua569_0, uc569_0, rfl, ul569_0, ge569_0⟩ := Kd.zpf hMe569
            have hv569_0 := hcc569 0 _ rfl
            rw [Nat.add_zero, show ((Kd.slice 3 (Kd.int .i64))).sz = 1 from rfl, Nat.mul_one] at hv569_0
            replace hv569_0 := Option.some.inj (hv569_0.symm.trans hx569_0)
            injection hv569_0 with hva_ hvn_ hvc_
            rw [hva_] at ge569_0
            rw [hvc_] at ul569_0
            have HL569_0 := za.mk (show Kd.V (Kd.int .i64) 3 _ w.heap.size _ _ (rd_L2 t558 x12_2) from Kd.V_mk ul569_0 ge569_0)
            clear hva_ hvn_ hvc_ ge569_0 ul569_0
            clear hcc569 hce569
            have HR569_0 := za.mk hi569_0
            have HC569_0 := za.mk hl569_0
            clear hi569_0 hl569_0
            replace p569 := eq_true p569
            replace q569 := eq_true q569
            have HNa := za.mk (Kd.zye HO_11.out (ok' := fun k_ => k_ ≠ gb553) (fun _ hk => hk.1))
            clear HO_11
            have HO563 := za.mk (Kd.zuc HO563.out (ok' := fun _ => True) (fun _ _ => trivial))
            have HX := za.mk hx569_0
            clear hx569_0
            refine zsf (n := 11) (S := fun w' => True) (ds := []) #[false, false, false, false, false, false, false, false, false, false, false] (by kernel_rfl) rfl rfl trivial (fun hHeld => ?_)
            refine zke zr.tab10 zr.bits10 (fun HT_ HW_ => ?_)
            generalize w51.drew = w2_ at HNa HO563 BK553 HB HX HR569_0 hHeld ⊢
            refine pure_ (i := 0) (N := some 56) (v := ?_) (a' := ?_) #[true, false, false, false, false, false, false, false, false, false, false] rfl rfl (zvb HT_.out (by kernel_rfl)) (fun _ _ _ h => h) (Or.inl ⟨by rfl, ?_⟩) ?_ ?_
            rotate_left
            ·intro w'
             go_simp
             with_reducible rfl
            rotate_left
            ·simp only [Act.put, zw]
             rfl
            refine pure_ (i := 1) (N := some 57) (v := ?_) (a' := ?_) #[true, true, false, false, false, false, false, false, false, false, false] rfl rfl (zvb HT_.out (by kernel_rfl)) (fun _ _ _ h => h) (Or.inl ⟨by rfl, ?_⟩) ?_ ?_
            rotate_left
            ·intro w'
             go_simp
             with_reducible rfl
            rotate_left
            ·simp only [Act.put, zw]
             rfl
            refine pure_ (i := 4) (N := some 60) (v := ?_) (a' := ?_) #[true, true, false, false, true, false, false, false, false, false, false] rfl rfl (zvb HT_.out (by kernel_rfl)) (fun _ _ _ h => h) (Or.inl ⟨by rfl, ?_⟩) ?_ ?_
            rotate_left
            ·intro w'
             go_simp
             with_reducible rfl
            rotate_left
            ·simp only [Act.put, zw]
             rfl
            refine pure_ (i := 5) (N := some 61) (v := ?_) (a' := ?_) #[true, true, false, false, true, true, false, false, false, false, false] rfl rfl (zvb HT_.out (by kernel_rfl)) (fun _ _ _ h => h) (Or.inl ⟨by rfl, ?_⟩) ?_ ?_
            rotate_left
            ·intro w'
             go_simp
             with_reducible rfl
            rotate_left
            ·simp only [Act.put, zw]
             rfl
            refine pure_ (i := 8) (N := some 64) (v := ?_) (a' := ?_) #[true, true, false, false, true, true, false, false, true, false, false] rfl rfl (zvb HT_.out (by kernel_rfl)) (fun _ _ _ h => h) (Or.inl ⟨by rfl, ?_⟩) ?_ ?_
            rotate_left
            ·intro w'
             go_simp
             with_reducible rfl
            rotate_left
            ·simp only [Act.put, zw]
             rfl
            refine inv_at [2, 3, 6, 7, 9, 10] (fun a0_ b a w' => ∃ (v6 : Value), a = putSel a0_ b [(2, 58, .pointer (some (ad569.add x12_2.toNat))), (3, 59, .slice A569_0 (rd_L2 t558 x12_2).length c569_0), (6, 62, v6), (7, 63, .string (strOfNums t570)), (9, 65, .string (strOfNums y561)), (10, 66, .bool false)] ∧ (Kd.N (Kd.slice 3 (Kd.int .i64)) 31 w' w.heap.size (fun k_ => k_ ≠ gb553) (.slice (some ad569) t558.length co50) t558) ∧ (Kd.R (Kd.int .u8) 5 w' w.heap.size (fun _ => True) v562 y561) ∧ (w'.heap[gb553]? = some (.cells #[.int .i64 a0_0, .int .i64 a0_1, .int .i64 a0_2, .int .i64 a0_3, .int .i64 a0_4] 23 (0, 0))) ∧ (Below w.heap.size w w') ∧ (w'.cell? (ad569.add x12_2.toNat) = some (.slice A569_0 (rd_L2 t558 x12_2).length c569_0)) ∧ (Kd.C (Kd.int .i64) w' A569_0 (rd_L2 t558 x12_2).length (rd_L2 t558 x12_2)) ∧ (b 6 = true → Kd.R (Kd.int .u8) 5 w' w.heap.size (fun _ => True) v6 t570)) HT_.out HW_.out (by kernel_rfl) (by kernel_rfl) ?_ ?_ ?_
            ·exact ⟨.bool false, by simp only [putSel, Bool.false_eq_true, if_false], HNa.out, HO563.out, BK553.out, HB.out, HX.out, HR569_0.out, fun h_ => absurd h_ (by decide)⟩
            ·skip
             clear BK553 HB HNa HO563 HR569_0 HX
             refine zfa ?_ ?_
             ·rintro b a w' ⟨v6, ha, Q_HNa, Q_HO563, Q_BK553, Q_HB, Q_HX, Q_HR569_0, Q_R6⟩ hb_ hon hoff
              refine ⟨_, rfl, fun K hK => ?_⟩
              have e56 : a.tmps[56]? = some (.slice (some ad569) t558.length co50) := by rw [ha]; exact (zlc rfl).trans rfl
              have e57 : a.tmps[57]? = some (.int .i64 x12_2) := by rw [ha]; exact (zlc rfl).trans rfl
              replace ha := za.mk ha
              have HNa := za.mk Q_HNa
              have HO563 := za.mk Q_HO563
              have BK553 := za.mk Q_BK553
              have HB := za.mk Q_HB
              have HX := za.mk Q_HX
              have HR569_0 := za.mk Q_HR569_0
              refine zbd (w1 := w') (v := .pointer (some (ad569.add x12_2.toNat))) (by rfl) rfl ?_ ?_
              ·go_simp
               (try simp only [i64_w])
               try rfl
              refine hK.out _ _ ⟨v6, (by rw [ha.out]; exact zla 0 hb_ rfl rfl rfl), Q_HNa, Q_HO563, Q_BK553, Q_HB, Q_HX, Q_HR569_0, fun h0_ => absurd ((hoff 6 (by kernel_rfl)).symm.trans h0_) (by decide)⟩
             refine zfa ?_ ?_
             ·rintro b a w' ⟨v6, ha, Q_HNa, Q_HO563, Q_BK553, Q_HB, Q_HX, Q_HR569_0, Q_R6⟩ hb_ hon hoff
              refine ⟨_, rfl, fun K hK => ?_⟩
              have e58 : a.tmps[58]? = some (.pointer (some (ad569.add x12_2.toNat))) := by rw [ha]; exact zxa (e := (2, 58, .pointer (some (ad569.add x12_2.toNat)))) 0 rfl rfl (hon 2 (by kernel_rfl)) rfl
              replace ha := za.mk ha
              have HNa := za.mk Q_HNa
              have HO563 := za.mk Q_HO563
              have BK553 := za.mk Q_BK553
              have HB := za.mk Q_HB
              have HX := za.mk Q_HX
              have HR569_0 := za.mk Q_HR569_0
              have z_ := HX.out
              refine zbd (w1 := w') (v := .slice A569_0 (rd_L2 t558 x12_2).length c569_0) (by rfl) rfl ?_ ?_
              ·go_simp
               (try simp only [i64_w])
               try rfl
              refine hK.out _ _ ⟨v6, (by rw [ha.out]; exact zla 1 hb_ rfl rfl rfl), Q_HNa, Q_HO563, Q_BK553, Q_HB, Q_HX, Q_HR569_0, fun h0_ => absurd ((hoff 6 (by kernel_rfl)).symm.trans h0_) (by decide)⟩
             refine zfa ?_ ?_
             ·rintro b a w' ⟨v6, ha, Q_HNa, Q_HO563, Q_BK553, Q_HB, Q_HX, Q_HR569_0, Q_R6⟩ hb_ hon hoff
              refine ⟨_, rfl, fun K hK => ?_⟩
              have e59 : a.tmps[59]? = some (.slice A569_0 (rd_L2 t558 x12_2).length c569_0) := by rw [ha]; exact zxa (e := (3, 59, .slice A569_0 (rd_L2 t558 x12_2).length c569_0)) 1 rfl rfl (hon 3 (by kernel_rfl)) rfl
              have e60 : a.tmps[60]? = some (.slice A4 l4.length c4) := by rw [ha]; exact (zlc rfl).trans rfl
              have e61 : a.tmps[61]? = some (.int .i64 a3) := by rw [ha]; exact (zlc rfl).trans rfl
              replace ha := za.mk ha
              have HNa := za.mk Q_HNa
              have HO563 := za.mk Q_HO563
              have BK553 := za.mk Q_BK553
              have HB := za.mk Q_HB
              have HX := za.mk Q_HX
              have HR569_0 := za.mk Q_HR569_0
              refine goes_ Tryz.func49 (by kernel_rfl) rfl #[.slice A569_0 (rd_L2 t558 x12_2).length c569_0, .slice A4 l4.length c4, .int .i64 a3] (by rfl) rfl rfl (by first | (simp only [List.map_toArray, List.map_cons, List.map_nil, Act.eval, Array.getD_eq_getD_getElem?, Option.getD_some, e59, e60, e61]; done) | (simp only [List.map_toArray, List.map_cons, List.map_nil, Act.eval, Array.getD_eq_getD_getElem?, Option.getD_some, e59, e60, e61]; rfl)) ?_
              refine (zqd.calls k2 _ _ (rd_L2 t558 x12_2) _ _ l4 a3 t570 _ HR569_0.out HC569_0.out (Kd.znd HR4.out HB.out) HC4.out A48.out).mono ?_
              rintro e w1' ⟨n6, rfl, ho, hb⟩
              refine ⟨_, rfl, ?_⟩
              refine hK.out _ _ ⟨n6, (by rw [ha.out]; exact zla 2 hb_ rfl rfl rfl), Kd.N_step HNa.out (fun k _ hl => hb.block k hl), Kd.zvd HO563.out hb, zy BK553.out hb, zk HB.out hb, (hb.cell (World.block_lt_of_cell? _ _ HX.out)).trans HX.out, Kd.znd HR569_0.out hb, fun _ => Kd.zcd ho HB.out.size⟩
             refine zfa ?_ ?_
             ·rintro b a w' ⟨v6, ha, Q_HNa, Q_HO563, Q_BK553, Q_HB, Q_HX, Q_HR569_0, Q_R6⟩ hb_ hon hoff
              refine ⟨_, rfl, fun K hK => ?_⟩
              have e62 : a.tmps[62]? = some (v6) := by rw [ha]; exact zxa (e := (6, 62, v6)) 2 rfl rfl (hon 6 (by kernel_rfl)) rfl
              replace ha := za.mk ha
              have HNa := za.mk Q_HNa
              have HO563 := za.mk Q_HO563
              have BK553 := za.mk Q_BK553
              have HB := za.mk Q_HB
              have HX := za.mk Q_HX
              have HR569_0 := za.mk Q_HR569_0
              have R6 := za.mk (Q_R6 (hon 6 (by kernel_rfl)))
              have hcv7 := own_string (P := Tryz.prog) Tryz.underlying43 Tryz.underlying5 Tryz.underlying9 (Kd.own_of_R R6.out)
              refine zbd (w1 := w') (v := .string (strOfNums t570)) (by rfl) rfl ?_ ?_
              ·go_simp
               (try simp only [i64_w])
               try rfl
              refine hK.out _ _ ⟨v6, (by rw [ha.out]; exact zla 3 hb_ rfl rfl rfl), Q_HNa, Q_HO563, Q_BK553, Q_HB, Q_HX, Q_HR569_0, Q_R6⟩
             refine zfa ?_ ?_
             ·rintro b a w' ⟨v6, ha, Q_HNa, Q_HO563, Q_BK553, Q_HB, Q_HX, Q_HR569_0, Q_R6⟩ hb_ hon hoff
              refine ⟨_, rfl, fun K hK => ?_⟩
              have e64 : a.tmps[64]? = some (v562) := by rw [ha]; exact (zlc rfl).trans rfl
              replace ha := za.mk ha
              have HNa := za.mk Q_HNa
              have HO563 := za.mk Q_HO563
              have BK553 := za.mk Q_BK553
              have HB := za.mk Q_HB
              have HX := za.mk Q_HX
              have HR569_0 := za.mk Q_HR569_0
              have hcv9 := own_string (P := Tryz.prog) Tryz.underlying43 Tryz.underlying5 Tryz.underlying9 (Kd.own_of_R HO563.out)
              refine zbd (w1 := w') (v := .string (strOfNums y561)) (by rfl) rfl ?_ ?_
              ·go_simp
               (try simp only [i64_w])
               try rfl
              refine hK.out _ _ ⟨v6, (by rw [ha.out]; exact zla 4 hb_ rfl rfl rfl), Q_HNa, Q_HO563, Q_BK553, Q_HB, Q_HX, Q_HR569_0, Q_R6⟩
             refine zfa ?_ ?_
             ·rintro b a w' ⟨v6, ha, Q_HNa, Q_HO563, Q_BK553, Q_HB, Q_HX, Q_HR569_0, Q_R6⟩ hb_ hon hoff
              refine ⟨_, rfl, fun K hK => ?_⟩
              have e63 : a.tmps[63]? = some (.string (strOfNums t570)) := by rw [ha]; exact zxa (e := (7, 63, .string (strOfNums t570))) 3 rfl rfl (hon 7 (by kernel_rfl)) rfl
              have e65 : a.tmps[65]? = some (.string (strOfNums y561)) := by rw [ha]; exact zxa (e := (9, 65, .string (strOfNums y561))) 4 rfl rfl (hon 9 (by kernel_rfl)) rfl
              replace ha := za.mk ha
              have HNa := za.mk Q_HNa
              have HO563 := za.mk Q_HO563
              have BK553 := za.mk Q_BK553
              have HB := za.mk Q_HB
              have HX := za.mk Q_HX
              have HR569_0 := za.mk Q_HR569_0
              have R6 := za.mk (Q_R6 (hon 6 (by kernel_rfl)))
              refine zbd (w1 := w') (v := .bool false) (by rfl) rfl ?_ ?_
              ·go_simp
               (try simp only [i64_w])
               try rfl
              refine hK.out _ _ ⟨v6, (by rw [ha.out]; exact zla 5 hb_ rfl rfl rfl), Q_HNa, Q_HO563, Q_BK553, Q_HB, Q_HX, Q_HR569_0, Q_R6⟩
             exact steps_nil
            rintro b a wl hall ⟨v6, ha, Q_HNa, Q_HO563, Q_BK553, Q_HB, Q_HX, Q_HR569_0, Q_R6⟩
            clear BK553 HB HNa HO563 HR569_0 HX
            have hb2_ := hall 2 (by kernel_rfl)
            have hb3_ := hall 3 (by kernel_rfl)
            have hb6_ := hall 6 (by kernel_rfl)
            have hb7_ := hall 7 (by kernel_rfl)
            have hb9_ := hall 9 (by kernel_rfl)
            have hb10_ := hall 10 (by kernel_rfl)
            subst ha
            simp only [putSel, hb2_, hb3_, hb6_, hb7_, hb9_, hb10_, if_true, Act.put, List.setIfInBounds_toArray, List.set_cons_zero, List.set_cons_succ]
            have HNa := za.mk Q_HNa
            clear Q_HNa
            have HO563 := za.mk Q_HO563
            clear Q_HO563
            have BK553 := za.mk Q_BK553
            clear Q_BK553
            have HB := za.mk Q_HB
            clear Q_HB
            have HX := za.mk Q_HX
            clear Q_HX
            have HR569_0 := za.mk Q_HR569_0
            clear Q_HR569_0
            have R6 := za.mk (Q_R6 hb6_)
            clear Q_R6
            clear hall hb2_ hb3_ hb6_ hb7_ hb9_ hb10_
            have HO_11 := HNa
            clear HNa
            try go_wp2
            go_roundg k2
            case measure => have := HJ5.out; have := HK2.out; omega
            case rel => exact ⟨(wrap64 (x12_2 + 1)), (by first | rfl | simp [*]), H', ⟨by have := HJ5.out; have := HK2.out; omega⟩, ⟨by apply_rules only [HO_11.out, Kd.zkc, Kd.zjc, Kd.zvc]⟩, ⟨by apply_rules only [BK553.out, zh, zj, zi]⟩, ⟨by apply_rules only [HB.out, ze, zb, zf, fun h => zg h GE553.out]⟩⟩
           ·rw [if_neg c49] at H
            exact absurd ((Option.some.inj H).trans HR_.out) (by decide)
          ·rw [if_neg c47] at H
           exact absurd H (by simp)
        ·rw [if_neg c21] at H
         exact absurd H (by simp)
       ·rw [if_neg c20] at H
        exact absurd H (by simp)
      ·rw [if_neg c19] at H
       have c19b0 : decide (x12_2 < (t558.length : Int)) = false := decide_eq_false c19
       clear c19
       obtain rfl := Option.some.inj H
       obtain ⟨Ao68, co68, eo68⟩ := Kd.zbf HO_11.out
       subst eo68
       go_wp2
       go_ret
       exact ⟨by first | rfl | (simp [zn, zo] <;> rfl) | (simp [*, zn, zo] <;> rfl), by apply_rules only [HB.out, ze, zb, zf, fun h => zg h GE553.out]⟩
def ztd.f (k : Nat)  : Option (Bool) := (zkb.f k 1).bind fun bt573 => ((zhc.f k 1).bind fun bt579 => ((zyc.f k bt573.1 bt573.2.1 bt573.2.2.1 bt573.2.2.2.1 bt573.2.2.2.2 bt579.1 (([0] : List Int))).bind fun bt584 => ((zqb.f k bt573.1 bt573.2.1 bt573.2.2.1 bt573.2.2.2.1 bt573.2.2.2.2 bt579.1 (([(([1] : List Int))] : List (List Int))) 1).bind fun bt592 => (if bt579.2.isNone = true then (if bt584.2.isNone = true then (if bt592.2.isNone = true then (if bt584.1 = 8 then ((zr.f k bt573.1 bt573.2.1 bt573.2.2.1 bt573.2.2.2.1 bt573.2.2.2.2 bt579.1 (([(([1] : List Int))] : List (List Int))) 1 bt592.1).bind fun t605 => (some t605)) else (some false)) else (some false)) else (some false)) else (some false)))))
theorem ztd.calls (k : Nat)  (r : Bool) (w : World) (h : ztd.f k  = some r) (hr_ : r = true) (hT : Tab w) :
  Calls Tryz.prog 13 #[] w fun e w' => e = .returned (.bool r) ∧ Below w.heap.size w w' := by
 have HR_ := za.mk hr_
 clear hr_
 have HT := za.mk hT
 clear hT
 have hu23 := Tryz.underlying23
 have hu27 := Tryz.underlying27
 have HB := za.mk (Below.refl w.heap.size w)
 have H : ((zkb.f k 1).bind fun bt573 => ((zhc.f k 1).bind fun bt579 => ((zyc.f k bt573.1 bt573.2.1 bt573.2.2.1 bt573.2.2.2.1 bt573.2.2.2.2 bt579.1 (([0] : List Int))).bind fun bt584 => ((zqb.f k bt573.1 bt573.2.1 bt573.2.2.1 bt573.2.2.2.1 bt573.2.2.2.2 bt579.1 (([(([1] : List Int))] : List (List Int))) 1).bind fun bt592 => (if bt579.2.isNone = true then (if bt584.2.isNone = true then (if bt592.2.isNone = true then (if bt584.1 = 8 then ((zr.f k bt573.1 bt573.2.1 bt573.2.2.1 bt573.2.2.2.1 bt573.2.2.2.2 bt579.1 (([(([1] : List Int))] : List (List Int))) 1 bt592.1).bind fun t605 => (some t605)) else (some false)) else (some false)) else (some false)) else (some false)))))) = some r := h
 clear h
 replace H := Option.bind_eq_some_iff.mp H
 obtain ⟨⟨t573, t574, t575, t576, t577⟩, A10, H⟩ := H
 replace H : ((zhc.f k 1).bind fun bt579 => ((zyc.f k t573 t574 t575 t576 t577 bt579.1 (([0] : List Int))).bind fun bt584 => ((zqb.f k t573 t574 t575 t576 t577 bt579.1 (([(([1] : List Int))] : List (List Int))) 1).bind fun bt592 => (if bt579.2.isNone = true then (if bt584.2.isNone = true then (if bt592.2.isNone = true then (if bt584.1 = 8 then ((zr.f k t573 t574 t575 t576 t577 bt579.1 (([(([1] : List Int))] : List (List Int))) 1 bt592.1).bind fun t605 => (some t605)) else (some false)) else (some false)) else (some false)) else (some false))))) = some r := H
 have A1 := za.mk A10
 clear A10
 replace H := Option.bind_eq_some_iff.mp H
 obtain ⟨⟨t579, t580⟩, A20, H⟩ := H
 replace H : ((zyc.f k t573 t574 t575 t576 t577 t579 (([0] : List Int))).bind fun bt584 => ((zqb.f k t573 t574 t575 t576 t577 t579 (([(([1] : List Int))] : List (List Int))) 1).bind fun bt592 => (if t580.isNone = true then (if bt584.2.isNone = true then (if bt592.2.isNone = true then (if bt584.1 = 8 then ((zr.f k t573 t574 t575 t576 t577 t579 (([(([1] : List Int))] : List (List Int))) 1 bt592.1).bind fun t605 => (some t605)) else (some false)) else (some false)) else (some false)) else (some false)))) = some r := H
 have A2 := za.mk A20
 clear A20
 obtain ⟨y581, hy581⟩ : ∃ y_ : List Int, y_ = (([0] : List Int)) := ⟨_, rfl⟩
 replace H : ((zyc.f k t573 t574 t575 t576 t577 t579 y581).bind fun bt584 => ((zqb.f k t573 t574 t575 t576 t577 t579 (([(([1] : List Int))] : List (List Int))) 1).bind fun bt592 => (if t580.isNone = true then (if bt584.2.isNone = true then (if bt592.2.isNone = true then (if bt584.1 = 8 then ((zr.f k t573 t574 t575 t576 t577 t579 (([(([1] : List Int))] : List (List Int))) 1 bt592.1).bind fun t605 => (some t605)) else (some false)) else (some false)) else (some false)) else (some false)))) = some r := by first | (rw [hy581]; with_reducible exact H) | (have H2_ := (Option.bind_some _ _).symm.trans H; rw [hy581]; with_reducible exact H2_) | (have H2_ := (Option.bind_some _ _).symm.trans H; with_reducible exact H2_) | with_reducible exact H | (rw [hy581]; exact H) | exact H
 have Ny581 := za.mk hy581
 clear hy581
 replace H := Option.bind_eq_some_iff.mp H
 obtain ⟨⟨t584, t585⟩, A30, H⟩ := H
 replace H : ((zqb.f k t573 t574 t575 t576 t577 t579 (([(([1] : List Int))] : List (List Int))) 1).bind fun bt592 => (if t580.isNone = true then (if t585.isNone = true then (if bt592.2.isNone = true then (if t584 = 8 then ((zr.f k t573 t574 t575 t576 t577 t579 (([(([1] : List Int))] : List (List Int))) 1 bt592.1).bind fun t605 => (some t605)) else (some false)) else (some false)) else (some false)) else (some false))) = some r := H
 have A3 := za.mk A30
 clear A30
 obtain ⟨y586, hy586⟩ : ∃ y_ : List Int, y_ = (([1] : List Int)) := ⟨_, rfl⟩
 replace H : ((zqb.f k t573 t574 t575 t576 t577 t579 (([y586] : List (List Int))) 1).bind fun bt592 => (if t580.isNone = true then (if t585.isNone = true then (if bt592.2.isNone = true then (if t584 = 8 then ((zr.f k t573 t574 t575 t576 t577 t579 (([(([1] : List Int))] : List (List Int))) 1 bt592.1).bind fun t605 => (some t605)) else (some false)) else (some false)) else (some false)) else (some false))) = some r := by first | (rw [hy586]; with_reducible exact H) | (have H2_ := (Option.bind_some _ _).symm.trans H; rw [hy586]; with_reducible exact H2_) | (have H2_ := (Option.bind_some _ _).symm.trans H; with_reducible exact H2_) | with_reducible exact H | (rw [hy586]; exact H) | exact H
 have Ny586 := za.mk hy586
 clear hy586
 obtain ⟨y589, hy589⟩ : ∃ y_ : List (List Int), y_ = (([y586] : List (List Int))) := ⟨_, rfl⟩
 replace H : ((zqb.f k t573 t574 t575 t576 t577 t579 y589 1).bind fun bt592 => (if t580.isNone = true then (if t585.isNone = true then (if bt592.2.isNone = true then (if t584 = 8 then ((zr.f k t573 t574 t575 t576 t577 t579 (([(([1] : List Int))] : List (List Int))) 1 bt592.1).bind fun t605 => (some t605)) else (some false)) else (some false)) else (some false)) else (some false))) = some r := by first | (rw [hy589]; with_reducible exact H) | (have H2_ := (Option.bind_some _ _).symm.trans H; rw [hy589]; with_reducible exact H2_) | (have H2_ := (Option.bind_some _ _).symm.trans H; with_reducible exact H2_) | with_reducible exact H | (rw [hy589]; exact H) | exact H
 have Ny589 := za.mk hy589
 clear hy589
 replace H := Option.bind_eq_some_iff.mp H
 obtain ⟨⟨t592, t595⟩, A40, H⟩ := H
 replace H : (if t580.isNone = true then (if t585.isNone = true then (if t595.isNone = true then (if t584 = 8 then ((zr.f k t573 t574 t575 t576 t577 t579 (([(([1] : List Int))] : List (List Int))) 1 t592).bind fun t605 => (some t605)) else (some false)) else (some false)) else (some false)) else (some false)) = some r := H
 have A4 := za.mk A40
 clear A40
 rcases t580 with _ | q596
 ·have H1 : (if t585.isNone = true then (if t595.isNone = true then (if t584 = 8 then ((zr.f k t573 t574 t575 t576 t577 t579 (([(([1] : List Int))] : List (List Int))) 1 t592).bind fun t605 => (some t605)) else (some false)) else (some false)) else (some false)) = some r := by rw [if_pos (show (none : Option Int).isNone = true by rfl)] at H; exact H
  clear H
  have H := H1
  clear H1
  try simp only [zn, zo]
  rcases t585 with _ | q597
  ·have H1 : (if t595.isNone = true then (if t584 = 8 then ((zr.f k t573 t574 t575 t576 t577 t579 (([(([1] : List Int))] : List (List Int))) 1 t592).bind fun t605 => (some t605)) else (some false)) else (some false)) = some r := by rw [if_pos (show (none : Option Int).isNone = true by rfl)] at H; exact H
   clear H
   have H := H1
   clear H1
   try simp only [zn, zo]
   rcases t595 with _ | q598
   ·have H1 : (if t584 = 8 then ((zr.f k t573 t574 t575 t576 t577 t579 (([(([1] : List Int))] : List (List Int))) 1 t592).bind fun t605 => (some t605)) else (some false)) = some r := by rw [if_pos (show (none : Option Int).isNone = true by rfl)] at H; exact H
    clear H
    have H := H1
    clear H1
    try simp only [zn, zo]
    by_cases c5 : t584 = 8
    ·rw [if_pos c5] at H
     have c5b0 : (t584 == 8) = true := beq_iff_eq.mpr c5
     have c5b1 : (t584 != 8) = false := bne_eq_false_iff_eq.mpr c5
     clear c5
     obtain ⟨y599, hy599⟩ : ∃ y_ : List Int, y_ = (([1] : List Int)) := ⟨_, rfl⟩
     replace H : ((zr.f k t573 t574 t575 t576 t577 t579 (([y599] : List (List Int))) 1 t592).bind fun t605 => (some t605)) = some r := by first | (rw [hy599]; with_reducible exact H) | (have H2_ := (Option.bind_some _ _).symm.trans H; rw [hy599]; with_reducible exact H2_) | (have H2_ := (Option.bind_some _ _).symm.trans H; with_reducible exact H2_) | with_reducible exact H | (rw [hy599]; exact H) | exact H
     have Ny599 := za.mk hy599
     clear hy599
     obtain ⟨y602, hy602⟩ : ∃ y_ : List (List Int), y_ = (([y599] : List (List Int))) := ⟨_, rfl⟩
     replace H : ((zr.f k t573 t574 t575 t576 t577 t579 y602 1 t592).bind fun t605 => (some t605)) = some r := by first | (rw [hy602]; with_reducible exact H) | (have H2_ := (Option.bind_some _ _).symm.trans H; rw [hy602]; with_reducible exact H2_) | (have H2_ := (Option.bind_some _ _).symm.trans H; with_reducible exact H2_) | with_reducible exact H | (rw [hy602]; exact H) | exact H
     have Ny602 := za.mk hy602
     clear hy602
     replace H := Option.bind_eq_some_iff.mp H
     obtain ⟨t605, A60, H⟩ := H
     replace H : (some t605) = some r := H
     have A6 := za.mk A60
     clear A60
     obtain rfl := Option.some.inj H
     go_enter Tryz.func13, Tryz.ntmps13
     go_wp2_with (first | ((with_reducible refine zaa (f := 9) rfl ?_); refine zmc (some 8) rfl rfl Tryz.func9 (by kernel_rfl) rfl #[.int .i64 1] rfl (by (try simp only [zpa]); first | done | rfl | simp) ?_; (with_reducible refine (zkb.calls k 1 t573 t574 t575 t576 t577 _ A1.out).mono ?_); rintro e w7 ⟨rfl, hb⟩; refine ⟨_, rfl, ?_⟩; have n0_ := za.mk (zk (by apply_rules only [HB.out, ze, zb, zf]) hb); clear HB; have HB := n0_; clear n0_; (try clear hb); (try clear hb2); (try clear hk); (try clear hi)) | ((with_reducible refine zza (N := 1) rfl ?_); (try (refine zvf (by rfl) ?_; dsimp only)); refine zgc ?hg (N := 1) ?hd (cs := #[.int .i64 0, .int .i64 0, .int .i64 0, .int .i64 0, .int .i64 0]) (t := 23) ?hr ?_; (case hd => rfl); (case hg => rfl); (case hr => first | (go_simp; done) | (go_simp; rfl)); intro gb578 hg w8 hbox hb; have n0_ := za.mk (zk (by apply_rules only [HB.out, ze, zb, zf]) hb); have n1_ := za.mk (hbox); have n2_ := za.mk ((by rw [hg]; exact (zm (by apply_rules only [HB.out, ze, zb, zf])) : w.heap.size ≤ gb578)); have n3_ := za.mk ((by rw [hg]; exact (zm (by apply_rules only [HB.out, ze, zb, zf])) : w.heap.size ≤ gb578)); clear HB; have HB := n0_; have BK578 := n1_; have GW578 := n2_; have GE578 := n3_; clear n0_ n1_ n2_ n3_; clear hb hbox hg; obtain ⟨hcz9_0, hcz9_1, hcz9_2, hcz9_3, hcz9_4⟩ := cells5 BK578.out; obtain ⟨hfz9_0, hfz9_1, hfz9_2, hfz9_3, hfz9_4⟩ := zic BK578.out) | ((with_reducible refine zaa (f := 10) rfl ?_); refine zmc (some 10) rfl rfl Tryz.func10 (by kernel_rfl) rfl #[.int .i64 1] rfl (by (try simp only [zpa]); first | done | rfl | simp) ?_; (with_reducible refine (zhc.calls k 1 t579 none _ A2.out (Tab.below HT.out (by repeat (first | exact HB.out | apply ze | apply zb | apply zf | refine zg ?_ GE578.out)))).mono ?_); rintro e w10 ⟨rfl, hb⟩; refine ⟨_, rfl, ?_⟩; have n0_ := za.mk (zy (g := gb578) (o := .cells #[.int .i64 t573, .int .i64 t574, .int .i64 t575, .int .i64 t576, .int .i64 t577] 23 (0, 0)) (by (with_reducible repeat (first | refine zh ?_ _ | refine zj ?_ | refine zi ?_ _)); refine zzc (cs := #[.int .i64 t573, .int .i64 t574, .int .i64 t575, .int .i64 t576, .int .i64 0]) ?_ 4 _ rfl; (with_reducible repeat (first | refine zh ?_ _ | refine zj ?_ | refine zi ?_ _)); refine zzc (cs := #[.int .i64 t573, .int .i64 t574, .int .i64 t575, .int .i64 0, .int .i64 0]) ?_ 3 _ rfl; (with_reducible repeat (first | refine zh ?_ _ | refine zj ?_ | refine zi ?_ _)); refine zzc (cs := #[.int .i64 t573, .int .i64 t574, .int .i64 0, .int .i64 0, .int .i64 0]) ?_ 2 _ rfl; (with_reducible repeat (first | refine zh ?_ _ | refine zj ?_ | refine zi ?_ _)); refine zzc (cs := #[.int .i64 t573, .int .i64 0, .int .i64 0, .int .i64 0, .int .i64 0]) ?_ 1 _ rfl; (with_reducible repeat (first | refine zh ?_ _ | refine zj ?_ | refine zi ?_ _)); refine zzc (cs := #[.int .i64 0, .int .i64 0, .int .i64 0, .int .i64 0, .int .i64 0]) ?_ 0 _ rfl; (with_reducible repeat (first | refine zh ?_ _ | refine zj ?_ | refine zi ?_ _)); exact BK578.out) hb); have n1_ := za.mk (zk (by apply_rules only [HB.out, ze, zb, zf, fun h => zg h GE578.out]) hb); clear BK578; clear HB; have BK578 := n0_; have HB := n1_; clear n0_ n1_; (try clear hb); (try clear hb2); (try clear hk); (try clear hi); (try simp only [zn, zo]); obtain ⟨hcz11_0, hcz11_1, hcz11_2, hcz11_3, hcz11_4⟩ := cells5 BK578.out; obtain ⟨hfz11_0, hfz11_1, hfz11_2, hfz11_3, hfz11_4⟩ := zic BK578.out) | ((with_reducible refine zza (N := 16) rfl ?_); (try (refine zvf (by rfl) ?_; dsimp only)); refine Kd.R_lit (Kd.int .i64) _ 3 ?hg (N := 16) ?hd (xs := ([0] : List Int)) (inner := [.int .i64 0]) (ok := fun _ => True) (okp := fun _ => True) ?hr ?hp (fun _ hk => hk) trivial (Below.refl _ _) (Nat.le_refl _) (by simp) ?_; (case hd => rfl); (case hg => rfl); (case hr => first | (go_simp; done) | (go_simp; rfl)); (case hp => exact (Reps.one (show Kd.M (Kd.int .i64) _ _ _ 0 [.int .i64 0] from rfl) (Reps.none _ _))); intro v582 w12 ho13 hb hg_ hnew_; clear hg_ hnew_; (first | rw [← Ny581.out] at ho13 | (simp only [Int.reduceToNat] at ho13; rw [← Ny581.out] at ho13)); have n0_ := za.mk (Kd.zcd ho13 (zm (by apply_rules only [HB.out, ze, zb, zf, fun h => zg h GE578.out]))); have n1_ := za.mk (zy (g := gb578) (o := .cells #[.int .i64 t573, .int .i64 t574, .int .i64 t575, .int .i64 t576, .int .i64 t577] 23 (0, 0)) (by apply_rules only [BK578.out, zh, zj, zi]) hb); have n2_ := za.mk (zk (by apply_rules only [HB.out, ze, zb, zf, fun h => zg h GE578.out]) hb); clear BK578; clear HB; have HO583 := n0_; have BK578 := n1_; have HB := n2_; clear n0_ n1_ n2_; clear hb ho13; obtain ⟨Ao14, co14, eo14⟩ := Kd.zsc HO583.out; subst eo14) | ((with_reducible refine zaa (f := 34) rfl ?_); refine zmc (some 17) rfl rfl Tryz.func34 (by kernel_rfl) rfl #[.agg #[.int .i64 t573, .int .i64 t574, .int .i64 t575, .int .i64 t576, .int .i64 t577], .int .i64 t579, .slice Ao14 y581.length co14] rfl (by (try simp only [zpa]); first | done | rfl | simp) ?_; (with_reducible refine (zyc.calls k t573 t574 t575 t576 t577 t579 _ _ y581 t584 none _ ?side1 ?side2 A3.out (Tab.below HT.out (by repeat (first | exact HB.out | apply ze | apply zb | apply zf | refine zg ?_ GE578.out)))).mono ?_); (case side1 => apply_rules only [(Kd.zsb HO583.out).2.2, Kd.zod, Kd.zmd, Kd.zme]); (case side2 => exact (Kd.zsb HO583.out).2.1); rintro e w15 ⟨rfl, hb⟩; refine ⟨_, rfl, ?_⟩; have n0_ := za.mk (Kd.zvd (by apply_rules only [HO583.out, Kd.zka, Kd.zja, Kd.zya]) hb); have n1_ := za.mk (zy (g := gb578) (o := .cells #[.int .i64 t573, .int .i64 t574, .int .i64 t575, .int .i64 t576, .int .i64 t577] 23 (0, 0)) (by apply_rules only [BK578.out, zh, zj, zi]) hb); have n2_ := za.mk (zk (by apply_rules only [HB.out, ze, zb, zf, fun h => zg h GE578.out]) hb); clear HO583; clear BK578; clear HB; have HO583 := n0_; have BK578 := n1_; have HB := n2_; clear n0_ n1_ n2_; (try clear hb); (try clear hb2); (try clear hk); (try clear hi); (try simp only [zn, zo]); obtain ⟨hcz16_0, hcz16_1, hcz16_2, hcz16_3, hcz16_4⟩ := cells5 BK578.out; obtain ⟨hfz16_0, hfz16_1, hfz16_2, hfz16_3, hfz16_4⟩ := zic BK578.out) | ((with_reducible refine zza (N := 23) rfl ?_); (try (refine zvf (by rfl) ?_; dsimp only)); refine Kd.R_lit (Kd.int .u8) _ 5 ?hg (N := 23) ?hd (xs := ([1] : List Int)) (inner := [.int .u8 1]) (ok := fun _ => True) (okp := fun _ => True) ?hr ?hp (fun _ hk => hk) trivial (Below.refl _ _) (Nat.le_refl _) (by simp) ?_; (case hd => rfl); (case hg => rfl); (case hr => first | (go_simp; done) | (go_simp; rfl)); (case hp => exact (Reps.one (show Kd.M (Kd.int .u8) _ _ _ 1 [.int .u8 1] from rfl) (Reps.none _ _))); intro v587 w17 ho18 hb hg_ hnew_; clear hg_ hnew_; (first | rw [← Ny586.out] at ho18 | (simp only [Int.reduceToNat] at ho18; rw [← Ny586.out] at ho18)); have n0_ := za.mk (Kd.zvd (by apply_rules only [HO583.out, Kd.zka, Kd.zja, Kd.zya]) hb); have n1_ := za.mk (Kd.zcd ho18 (zm (by apply_rules only [HB.out, ze, zb, zf, fun h => zg h GE578.out]))); have n2_ := za.mk (zy (g := gb578) (o := .cells #[.int .i64 t573, .int .i64 t574, .int .i64 t575, .int .i64 t576, .int .i64 t577] 23 (0, 0)) (by apply_rules only [BK578.out, zh, zj, zi]) hb); have n3_ := za.mk (zk (by apply_rules only [HB.out, ze, zb, zf, fun h => zg h GE578.out]) hb); clear HO583; clear BK578; clear HB; have HO583 := n0_; have HO588 := n1_; have BK578 := n2_; have HB := n3_; clear n0_ n1_ n2_ n3_; clear hb ho18; obtain ⟨Ao19, co19, eo19⟩ := Kd.zsc HO588.out; subst eo19) | ((with_reducible refine zza (N := 24) rfl ?_); (try (refine zvf (by rfl) ?_; dsimp only)); refine Kd.N_lit (Kd.slice 5 (Kd.int .u8)) _ 43 ?hg (N' := 24) ?hd (xs := ([y586] : List (List Int))) (inner := [.slice Ao19 y586.length co19]) (ok := (fun k_ => some k_ ≠ (.slice Ao14 y581.length co14 : Value).ownBlock ∧ k_ ≠ gb578)) (okp := (fun k_ => some k_ ≠ (.slice Ao14 y581.length co14 : Value).ownBlock ∧ k_ ≠ gb578)) ?hr ?hp (fun _ hk => hk) ((show ∀ k_, w17.heap.size ≤ k_ → (fun k_ => some k_ ≠ (.slice Ao14 y581.length co14 : Value).ownBlock ∧ k_ ≠ gb578) k_ from fun k_ hk => ⟨Kd.fresh' (Kd.R_lt (by apply_rules only [HO583.out, Kd.zka, Kd.zja, Kd.zya])) k_ hk, Kd.freshB (g := gb578) (o := .cells #[.int .i64 t573, .int .i64 t574, .int .i64 t575, .int .i64 t576, .int .i64 t577] 23 (0, 0)) (by apply_rules only [BK578.out, zh, zj, zi]) k_ hk⟩) _ (Nat.le_refl _)) (Below.refl _ _) (Nat.le_refl _) (by simp) ?_; (case hd => rfl); (case hg => rfl); (case hr => first | (go_simp; done) | (go_simp; rfl)); (case hp => exact (Reps.one (show Kd.FK (Kd.slice 5 (Kd.int .u8)) _ _ y586 [.slice Ao19 y586.length co19] from (Kd.FK_slice_mk (Kd.zsb (Kd.zuc (ok' := (fun k_ => some k_ ≠ (.slice Ao14 y581.length co14 : Value).ownBlock ∧ k_ ≠ gb578)) (Kd.R_types (Kd.zfe (HO588.out) (Kd.R_typed HO583.out) (by decide)) BK578.out (by decide)) (fun k_ hk => ⟨hk.1.2, hk.2⟩))).2.1 (Kd.R_F (Kd.zuc (ok' := (fun k_ => some k_ ≠ (.slice Ao14 y581.length co14 : Value).ownBlock ∧ k_ ≠ gb578)) (Kd.R_types (Kd.zfe (HO588.out) (Kd.R_typed HO583.out) (by decide)) BK578.out (by decide)) (fun k_ hk => ⟨hk.1.2, hk.2⟩))))) (Reps.none _ _))); intro v590 w20 ho21 hb hg_ hnew_; clear hg_ hnew_; (first | rw [← Ny589.out] at ho21 | (simp only [Int.reduceToNat] at ho21; rw [← Ny589.out] at ho21)); have n0_ := za.mk (Kd.zvd (by apply_rules only [HO583.out, Kd.zka, Kd.zja, Kd.zya]) hb); have n1_ := za.mk (Kd.N_lower ho21 (zm (by apply_rules only [HB.out, ze, zb, zf, fun h => zg h GE578.out]))); have n2_ := za.mk (zy (g := gb578) (o := .cells #[.int .i64 t573, .int .i64 t574, .int .i64 t575, .int .i64 t576, .int .i64 t577] 23 (0, 0)) (by apply_rules only [BK578.out, zh, zj, zi]) hb); have n3_ := za.mk (zk (by apply_rules only [HB.out, ze, zb, zf, fun h => zg h GE578.out]) hb); clear HO583; clear BK578; clear HB; clear HO588; have HO583 := n0_; have HO591 := n1_; have BK578 := n2_; have HB := n3_; clear n0_ n1_ n2_ n3_; clear hb ho21; obtain ⟨Ao22, co22, eo22⟩ := Kd.zbf HO591.out; subst eo22) | ((with_reducible refine zaa (f := 16) rfl ?_); refine zmc (some 25) rfl rfl Tryz.func16 (by kernel_rfl) rfl #[.agg #[.int .i64 t573, .int .i64 t574, .int .i64 t575, .int .i64 t576, .int .i64 t577], .int .i64 t579, .slice Ao22 y589.length co22, .int .i64 1] rfl (by (try simp only [zpa]); first | done | rfl | simp) ?_; (with_reducible refine (zqb.calls k t573 t574 t575 t576 t577 t579 _ _ y589 1 t592 none _ ?side1 ?side2 A4.out (Tab.below HT.out (by repeat (first | exact HB.out | apply ze | apply zb | apply zf | refine zg ?_ GE578.out)))).mono ?_); (case side1 => apply_rules only [(Kd.zzd HO591.out).2.2, Kd.zod, Kd.zmd, Kd.zme]); (case side2 => exact (Kd.zzd HO591.out).2.1); rintro e w23 ⟨v593, rfl, ho0, hb⟩; refine ⟨_, rfl, ?_⟩; have n0_ := za.mk (Kd.zvd (by apply_rules only [HO583.out, Kd.zka, Kd.zja, Kd.zya]) hb); have n1_ := za.mk (Kd.zff (by apply_rules only [HO591.out, Kd.zkc, Kd.zjc, Kd.zvc]) (by first | exact Kd.N_base ho0 | exact Kd.S_base ho0) hb); have n2_ := za.mk (Kd.N_lower (Kd.zye (ok' := fun k_ => some k_ ≠ (.slice Ao14 y581.length co14 : Value).ownBlock ∧ some k_ ≠ (.slice Ao22 y589.length co22 : Value).ownBlock ∧ k_ ≠ gb578) (Kd.S_N (Kd.S_bound ho0)) (fun k_ hk_ => ⟨(Kd.fresh' (Kd.R_lt (by apply_rules only [HO583.out, Kd.zka, Kd.zja, Kd.zya])) k_ hk_.2.1), (Kd.fresh' (Kd.N_lt (by apply_rules only [HO591.out, Kd.zkc, Kd.zjc, Kd.zvc])) k_ hk_.2.1), (Kd.freshB (g := gb578) (o := .cells #[.int .i64 t573, .int .i64 t574, .int .i64 t575, .int .i64 t576, .int .i64 t577] 23 (0, 0)) (by apply_rules only [BK578.out, zh, zj, zi]) k_ hk_.2.1)⟩)) (zm (by apply_rules only [HB.out, ze, zb, zf, fun h => zg h GE578.out]))); have n3_ := za.mk (zy (g := gb578) (o := .cells #[.int .i64 t573, .int .i64 t574, .int .i64 t575, .int .i64 t576, .int .i64 t577] 23 (0, 0)) (by apply_rules only [BK578.out, zh, zj, zi]) hb); have n4_ := za.mk (zk (by apply_rules only [HB.out, ze, zb, zf, fun h => zg h GE578.out]) hb); clear HO583; clear HO591; clear BK578; clear HB; have HO583 := n0_; have HO591 := n1_; have HO594 := n2_; have BK578 := n3_; have HB := n4_; clear n0_ n1_ n2_ n3_ n4_; (try clear hb); (try clear hb2); (try clear hk); (try clear hi); (try clear ho0); (try simp only [zn, zo]); obtain ⟨hcz24_0, hcz24_1, hcz24_2, hcz24_3, hcz24_4⟩ := cells5 BK578.out; obtain ⟨hfz24_0, hfz24_1, hfz24_2, hfz24_3, hfz24_4⟩ := zic BK578.out) | ((with_reducible refine zza (N := 45) rfl ?_); (try (refine zvf (by rfl) ?_; dsimp only)); refine Kd.R_lit (Kd.int .u8) _ 5 ?hg (N := 45) ?hd (xs := ([1] : List Int)) (inner := [.int .u8 1]) (ok := fun _ => True) (okp := fun _ => True) ?hr ?hp (fun _ hk => hk) trivial (Below.refl _ _) (Nat.le_refl _) (by simp) ?_; (case hd => rfl); (case hg => rfl); (case hr => first | (go_simp; done) | (go_simp; rfl)); (case hp => exact (Reps.one (show Kd.M (Kd.int .u8) _ _ _ 1 [.int .u8 1] from rfl) (Reps.none _ _))); intro v600 w25 ho26 hb hg_ hnew_; clear hg_ hnew_; (first | rw [← Ny599.out] at ho26 | (simp only [Int.reduceToNat] at ho26; rw [← Ny599.out] at ho26)); have n0_ := za.mk (Kd.zvd (by apply_rules only [HO583.out, Kd.zka, Kd.zja, Kd.zya]) hb); have n1_ := za.mk (Kd.zff (by apply_rules only [HO591.out, Kd.zkc, Kd.zjc, Kd.zvc]) (Kd.zjf ho26) hb); have n2_ := za.mk (Kd.zff (by apply_rules only [HO594.out, Kd.zkc, Kd.zjc, Kd.zvc]) (Kd.zjf ho26) hb); have n3_ := za.mk (Kd.zcd ho26 (zm (by apply_rules only [HB.out, ze, zb, zf, fun h => zg h GE578.out]))); have n4_ := za.mk (zy (g := gb578) (o := .cells #[.int .i64 t573, .int .i64 t574, .int .i64 t575, .int .i64 t576, .int .i64 t577] 23 (0, 0)) (by apply_rules only [BK578.out, zh, zj, zi]) hb); have n5_ := za.mk (zk (by apply_rules only [HB.out, ze, zb, zf, fun h => zg h GE578.out]) hb); clear HO583; clear HO591; clear HO594; clear BK578; clear HB; have HO583 := n0_; have HO591 := n1_; have HO594 := n2_; have HO601 := n3_; have BK578 := n4_; have HB := n5_; clear n0_ n1_ n2_ n3_ n4_ n5_; clear hb ho26; obtain ⟨Ao27, co27, eo27⟩ := Kd.zsc HO601.out; subst eo27) | ((with_reducible refine zza (N := 46) rfl ?_); (try (refine zvf (by rfl) ?_; dsimp only)); refine Kd.N_lit (Kd.slice 5 (Kd.int .u8)) _ 43 ?hg (N' := 46) ?hd (xs := ([y599] : List (List Int))) (inner := [.slice Ao27 y599.length co27]) (ok := (fun k_ => some k_ ≠ (.slice Ao14 y581.length co14 : Value).ownBlock ∧ some k_ ≠ (.slice Ao22 y589.length co22 : Value).ownBlock ∧ some k_ ≠ (v593 : Value).ownBlock ∧ k_ ≠ gb578)) (okp := (fun k_ => some k_ ≠ (.slice Ao14 y581.length co14 : Value).ownBlock ∧ some k_ ≠ (.slice Ao22 y589.length co22 : Value).ownBlock ∧ some k_ ≠ (v593 : Value).ownBlock ∧ k_ ≠ gb578)) ?hr ?hp (fun _ hk => hk) ((show ∀ k_, w25.heap.size ≤ k_ → (fun k_ => some k_ ≠ (.slice Ao14 y581.length co14 : Value).ownBlock ∧ some k_ ≠ (.slice Ao22 y589.length co22 : Value).ownBlock ∧ some k_ ≠ (v593 : Value).ownBlock ∧ k_ ≠ gb578) k_ from fun k_ hk => ⟨Kd.fresh' (Kd.R_lt (by apply_rules only [HO583.out, Kd.zka, Kd.zja, Kd.zya])) k_ hk, Kd.fresh' (Kd.N_lt (by apply_rules only [HO591.out, Kd.zkc, Kd.zjc, Kd.zvc])) k_ hk, Kd.fresh' (Kd.N_lt (by apply_rules only [HO594.out, Kd.zkc, Kd.zjc, Kd.zvc])) k_ hk, Kd.freshB (g := gb578) (o := .cells #[.int .i64 t573, .int .i64 t574, .int .i64 t575, .int .i64 t576, .int .i64 t577] 23 (0, 0)) (by apply_rules only [BK578.out, zh, zj, zi]) k_ hk⟩) _ (Nat.le_refl _)) (Below.refl _ _) (Nat.le_refl _) (by simp) ?_; (case hd => rfl); (case hg => rfl); (case hr => first | (go_simp; done) | (go_simp; rfl)); (case hp => exact (Reps.one (show Kd.FK (Kd.slice 5 (Kd.int .u8)) _ _ y599 [.slice Ao27 y599.length co27] from (Kd.FK_slice_mk (Kd.zsb (Kd.zuc (ok' := (fun k_ => some k_ ≠ (.slice Ao14 y581.length co14 : Value).ownBlock ∧ some k_ ≠ (.slice Ao22 y589.length co22 : Value).ownBlock ∧ some k_ ≠ (v593 : Value).ownBlock ∧ k_ ≠ gb578)) (Kd.R_types (Kd.zfe (Kd.zfe (Kd.zfe (HO601.out) (Kd.R_typed HO583.out) (by decide)) (Kd.N_typed HO591.out) (by decide)) (Kd.N_typed HO594.out) (by decide)) BK578.out (by decide)) (fun k_ hk => ⟨hk.1.1.1.2, ⟨hk.1.1.2, ⟨hk.1.2, hk.2⟩⟩⟩))).2.1 (Kd.R_F (Kd.zuc (ok' := (fun k_ => some k_ ≠ (.slice Ao14 y581.length co14 : Value).ownBlock ∧ some k_ ≠ (.slice Ao22 y589.length co22 : Value).ownBlock ∧ some k_ ≠ (v593 : Value).ownBlock ∧ k_ ≠ gb578)) (Kd.R_types (Kd.zfe (Kd.zfe (Kd.zfe (HO601.out) (Kd.R_typed HO583.out) (by decide)) (Kd.N_typed HO591.out) (by decide)) (Kd.N_typed HO594.out) (by decide)) BK578.out (by decide)) (fun k_ hk => ⟨hk.1.1.1.2, ⟨hk.1.1.2, ⟨hk.1.2, hk.2⟩⟩⟩))))) (Reps.none _ _))); intro v603 w28 ho29 hb hg_ hnew_; clear hg_ hnew_; (first | rw [← Ny602.out] at ho29 | (simp only [Int.reduceToNat] at ho29; rw [← Ny602.out] at ho29)); have n0_ := za.mk (Kd.zvd (by apply_rules only [HO583.out, Kd.zka, Kd.zja, Kd.zya]) hb); have n1_ := za.mk (Kd.zff (by apply_rules only [HO591.out, Kd.zkc, Kd.zjc, Kd.zvc]) (Kd.N_base ho29) hb); have n2_ := za.mk (Kd.zff (by apply_rules only [HO594.out, Kd.zkc, Kd.zjc, Kd.zvc]) (Kd.N_base ho29) hb); have n3_ := za.mk (Kd.N_lower ho29 (zm (by apply_rules only [HB.out, ze, zb, zf, fun h => zg h GE578.out]))); have n4_ := za.mk (zy (g := gb578) (o := .cells #[.int .i64 t573, .int .i64 t574, .int .i64 t575, .int .i64 t576, .int .i64 t577] 23 (0, 0)) (by apply_rules only [BK578.out, zh, zj, zi]) hb); have n5_ := za.mk (zk (by apply_rules only [HB.out, ze, zb, zf, fun h => zg h GE578.out]) hb); clear HO583; clear HO591; clear HO594; clear BK578; clear HB; clear HO601; have HO583 := n0_; have HO591 := n1_; have HO594 := n2_; have HO604 := n3_; have BK578 := n4_; have HB := n5_; clear n0_ n1_ n2_ n3_ n4_ n5_; clear hb ho29; obtain ⟨Ao30, co30, eo30⟩ := Kd.zbf HO604.out; subst eo30; obtain ⟨Ao31, co31, eo31⟩ := Kd.zbf HO594.out; subst eo31) | (go_at_call 18; (with_reducible refine (zr.calls k t573 t574 t575 t576 t577 t579 _ _ y602 1 _ _ t592 t605 _ ?side1 ?side2 ?side3 ?side4 A6.out HR_.out).mono ?_); (case side1 => apply_rules only [(Kd.zzd HO604.out).2.2, Kd.zod, Kd.zmd, Kd.zme]); (case side2 => exact (Kd.zzd HO604.out).2.1); (case side3 => apply_rules only [(Kd.zzd HO594.out).2.2, Kd.zod, Kd.zmd, Kd.zme]); (case side4 => exact (Kd.zzd HO594.out).2.1); rintro e w32 ⟨rfl, hb⟩; have n0_ := za.mk (Kd.zvd (by apply_rules only [HO583.out, Kd.zka, Kd.zja, Kd.zya]) hb); have n1_ := za.mk (Kd.N_below (by apply_rules only [HO591.out, Kd.zkc, Kd.zjc, Kd.zvc]) hb); have n2_ := za.mk (Kd.N_below (by apply_rules only [HO594.out, Kd.zkc, Kd.zjc, Kd.zvc]) hb); have n3_ := za.mk (Kd.N_below (by apply_rules only [HO604.out, Kd.zkc, Kd.zjc, Kd.zvc]) hb); have n4_ := za.mk (zy (g := gb578) (o := .cells #[.int .i64 t573, .int .i64 t574, .int .i64 t575, .int .i64 t576, .int .i64 t577] 23 (0, 0)) (by apply_rules only [BK578.out, zh, zj, zi]) hb); have n5_ := za.mk (zk (by apply_rules only [HB.out, ze, zb, zf, fun h => zg h GE578.out]) hb); clear HO583; clear HO591; clear HO594; clear HO604; clear BK578; clear HB; have HO583 := n0_; have HO591 := n1_; have HO594 := n2_; have HO604 := n3_; have BK578 := n4_; have HB := n5_; clear n0_ n1_ n2_ n3_ n4_ n5_; (try clear hb); (try clear hb2); (try clear hk); (try clear hi)))
     go_ret
     exact ⟨by first | rfl | (simp [zn, zo] <;> rfl) | (simp [*, zn, zo] <;> rfl), by apply_rules only [HB.out, ze, zb, zf, fun h => zg h GE578.out]⟩
    ·rw [if_neg c5] at H
     exact absurd ((Option.some.inj H).trans HR_.out) (by decide)
   ·have H1 : (some false) = some r := by rw [if_neg (show ¬ (some q598).isNone = true by simp)] at H; exact H
    exact absurd ((Option.some.inj H1).trans HR_.out) (by decide)
  ·have H1 : (some false) = some r := by rw [if_neg (show ¬ (some q597).isNone = true by simp)] at H; exact H
   exact absurd ((Option.some.inj H1).trans HR_.out) (by decide)
 ·have H1 : (some false) = some r := by rw [if_neg (show ¬ (some q596).isNone = true by simp)] at H; exact H
  exact absurd ((Option.some.inj H1).trans HR_.out) (by decide)
mutual
def zma.j0 : Nat → Int → Bool → Option (Int)
 | 0, _, _ => none
 | k + 1, x0, x9 => if x9 = true then (some 0) else (zma.l0 k x0 0)
def zma.l0 : Nat → Int → Int → Option (Int)
 | 0, _, _ => none
 | k + 1, x0, x3 => if (wrap64 (64 * x3)) < x0 then (zma.l0 k x0 (wrap64 (x3 + 1))) else (some x3)
end
def zma.f (k : Nat) (a0 : Int) : Option (Int) := if a0 < 0 then (zma.j0 k a0 true) else (zma.j0 k a0 (decide (a0 > 4096)))
theorem zma.zse : ∀ k, (∀ y0 y1, LeO (zma.j0 k y0 y1) (zma.j0 (k + 1) y0 y1)) ∧ (∀ y0 y1, LeO (zma.l0 k y0 y1) (zma.l0 (k + 1) y0 y1))
 | 0 => ⟨fun _ _ r h => by simp [zma.j0] at h, fun _ _ r h => by simp [zma.l0] at h⟩
 | k + 1 => by
  obtain ⟨ih0, ih1⟩ := zma.zse k
  refine ⟨?_, ?_⟩
  ·intro y0 y1
   unfold zma.j0
   repeat' first
   | (with_reducible exact ih0 _ _)
   | (with_reducible exact ih1 _ _)
   | (with_reducible exact LeO.refl _)
   | (with_reducible exact LeO.none _)
   | (with_reducible refine LeO.ite ?_ ?_)
   | (with_reducible refine LeO.bind ?_ (fun _ => ?_))
   | exact ih0 _ _
   | exact ih1 _ _
   | exact LeO.none _
   | refine LeO.ite ?_ ?_
   | refine LeO.bind ?_ (fun _ => ?_)
  ·intro y0 y1
   unfold zma.l0
   repeat' first
   | (with_reducible exact ih0 _ _)
   | (with_reducible exact ih1 _ _)
   | (with_reducible exact LeO.refl _)
   | (with_reducible exact LeO.none _)
   | (with_reducible refine LeO.ite ?_ ?_)
   | (with_reducible refine LeO.bind ?_ (fun _ => ?_))
   | exact ih0 _ _
   | exact ih1 _ _
   | exact LeO.none _
   | refine LeO.ite ?_ ?_
   | refine LeO.bind ?_ (fun _ => ?_)
theorem zma.mono : ∀ a0 k, LeO (zma.f k a0) (zma.f (k + 1) a0) := by
 intro a0 k
 obtain ⟨ih0, ih1⟩ := zma.zse k
 unfold zma.f
 repeat' first
   | (with_reducible exact ih0 _ _)
   | (with_reducible exact ih1 _ _)
   | (with_reducible exact LeO.refl _)
   | (with_reducible exact LeO.none _)
   | (with_reducible refine LeO.ite ?_ ?_)
   | (with_reducible refine LeO.bind ?_ (fun _ => ?_))
   | exact ih0 _ _
   | exact ih1 _ _
   | exact LeO.none _
   | refine LeO.ite ?_ ?_
   | refine LeO.bind ?_ (fun _ => ?_)
theorem zma.calls (k : Nat) (a0 : Int) (r : Int) (w : World) (h : zma.f k a0 = some r) :
  Calls Tryz.prog 86 #[.int .i64 a0] w fun e w' => e = .returned (.int .i64 r) ∧ zz w w' := by
 have H : (if a0 < 0 then (zma.j0 k a0 true) else (zma.j0 k a0 (decide (a0 > 4096)))) = some r := h
 clear h
 have HC2 := za.mk H
 clear H
 go_enter Tryz.func86, Tryz.ntmps86
 go_upto_region 1 with (fail)
 go_cut [9] (fun v9 wc => ∃ (kq : Nat) (x9_1 : Bool), v9 = .bool x9_1 ∧ za (zma.j0 kq a0 x9_1 = some r) ∧ za (kq ≤ k) ∧ zz w wc)
 case first =>
  have H := HC2.out
  clear HC2
  by_cases c3 : a0 < 0
  ·rw [if_pos c3] at H
   have c3b0 : decide (a0 < 0) = true := decide_eq_true c3
   clear c3
   (first | rw [c3b0] | (simp only [i64_w, i32_w]; rw [c3b0]) | skip)
   have H' := za.mk H
   clear H
   go_wp2
   go_meet
   case rel => exact ⟨_, (true), (by first | rfl | simp [*]), H', ⟨by first | omega | exact Nat.le_refl _⟩, by repeat (first | exact zz.refl _ | apply zz.step)⟩
  ·rw [if_neg c3] at H
   have c3b0 : decide (a0 < 0) = false := decide_eq_false c3
   clear c3
   (first | rw [c3b0] | (simp only [i64_w, i32_w]; rw [c3b0]) | skip)
   have H' := za.mk H
   clear H
   go_wp2
   go_meet
   case rel => exact ⟨_, (decide (a0 > 4096)), (by first | rfl | simp [*]), H', ⟨by first | omega | exact Nat.le_refl _⟩, by repeat (first | exact zz.refl _ | apply zz.step)⟩
 case rest =>
  clear HC2
  obtain ⟨kq, x9_1, rfl, HA, HJ1, ⟨mc1, rfl⟩⟩ := hcut
  cases kq with
  | zero => exact absurd HA.out (by simp [zma.j0])
  | succ kj1 =>
   have H := HA.out
   clear HA
   simp only [zma.j0] at H
   by_cases c4 : x9_1 = true
   ·subst c4
    have H1 : (some 0) = some r := by rw [if_pos rfl] at H; exact H
    clear H
    have H := H1
    clear H1
    obtain rfl := Option.some.inj H
    go_wp2
    go_ret
    exact ⟨by first | rfl | (simp; done) | (simp [*]; done), by repeat (first | exact zz.refl _ | apply zz.step)⟩
   ·replace c4 := Bool.eq_false_iff.mpr c4
    subst c4
    have H1 : (zma.l0 kj1 a0 0) = some r := by rw [if_neg (show ¬ (false = true) by decide)] at H; exact H
    clear H
    have H := H1
    clear H1
    have H' := za.mk H
    clear H
    go_wp2
    go_loopg [3] kj1 (fun kq v3 w' => ∃ (x3_2 : Int), v3 = .int .i64 x3_2 ∧ za (zma.l0 kq a0 x3_2 = some r) ∧ za (kq ≤ kj1) ∧ zz w w')
    case atStart => exact ⟨(0), (by first | rfl | simp [*]), H', ⟨Nat.le_refl _⟩, by repeat (first | exact zz.refl _ | apply zz.step)⟩
    case round =>
     clear H'
     obtain ⟨x3_2, rfl, HA, HK2, ⟨m2, rfl⟩⟩ := hrel
     cases gk with
     | zero => exact absurd HA.out (by simp [zma.l0])
     | succ k2 =>
      have H := HA.out
      clear HA
      simp only [zma.l0] at H
      by_cases c5 : (wrap64 (64 * x3_2)) < a0
      ·rw [if_pos c5] at H
       have c5b0 : decide ((wrap64 (64 * x3_2)) < a0) = true := decide_eq_true c5
       clear c5
       have H' := za.mk H
       clear H
       go_wp2
       go_roundg k2
       case measure => have := HJ1.out; have := HK2.out; omega
       case rel => exact ⟨(wrap64 (x3_2 + 1)), (by first | rfl | simp [*]), H', ⟨by have := HJ1.out; have := HK2.out; omega⟩, by repeat (first | exact zz.refl _ | apply zz.step)⟩
      ·rw [if_neg c5] at H
       have c5b0 : decide ((wrap64 (64 * x3_2)) < a0) = false := decide_eq_false c5
       clear c5
       obtain rfl := Option.some.inj H
       go_wp2
       go_ret
       exact ⟨by first | rfl | (simp; done) | (simp [*]; done), by repeat (first | exact zz.refl _ | apply zz.step)⟩
end Go.Proofs.YtnglindlofmknaaGreatDoor.B
end
