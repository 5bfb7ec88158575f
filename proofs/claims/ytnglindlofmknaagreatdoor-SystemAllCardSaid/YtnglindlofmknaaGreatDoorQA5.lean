import Derived.Below
import Derived.ChangeOld
import Derived.Laws.Bits64b
import Derived.Laws.BitsLemmas
import Derived.OpenShut
import Derived.ProofKit
import Derived.SevenTiedAt
import Derived.ShutString
import Derived.SizedLaws
import Derived.Test.YtnglindlofmknaaGreatDoorCards
import Derived.Test.YtnglindlofmknaaGreatDoorRows
import Derived.Test.YtnglindlofmknaaGreatDoorTie
import Derived.WalkKit
import Derived.Test.YtnglindlofmknaaGreatDoorQA1
import Derived.Test.YtnglindlofmknaaGreatDoorQA2
import Derived.Test.YtnglindlofmknaaGreatDoorQA3
import Derived.Test.YtnglindlofmknaaGreatDoorQA4
section
set_option maxHeartbeats 8000000
set_option maxRecDepth 100000
namespace Go.Proofs.YtnglindlofmknaaGreatDoor.B
open Go.RowKit Go.Proofs.YW.PrintWords Go.Proofs.YW.PrintLast Go.Proofs.YW.PrintMore
attribute [local go_sem] zva zta zmb zlb zia zha zua zsa
set_option linter.unusedVariables false
set_option linter.unusedSimpArgs false
mutual
def zra.l0 : Nat → List Int → Int → List Int → Int → Option (List Int)
 | 0, _, _, _, _ => none
 | k + 1, x0, x1, x5, x6 => (zma.f k x1).bind fun t469 => (if x6 < t469 then (zra.l1 k x0 x1 x5 x6 0 63) else (some x5))
def zra.l1 : Nat → List Int → Int → List Int → Int → Int → Int → Option (List Int)
 | 0, _, _, _, _, _, _ => none
 | k + 1, x0, x1, x5, x6, x7, x8 => if x8 ≥ 0 then ((zqc.f k x0 (wrap64 ((wrap64 (64 * x6)) + x8))).bind fun t470 => (if t470 = true then (zra.l1 k x0 x1 x5 x6 (IntKind.u64.wrap ((IntKind.u64.wrap (2 * x7)) + 1)) (wrap64 (x8 - 1))) else (zra.l1 k x0 x1 x5 x6 (IntKind.u64.wrap (2 * x7)) (wrap64 (x8 - 1))))) else (if x5.length < 17592186044416 then (zra.l0 k x0 x1 (x5 ++ [x7]) (wrap64 (x6 + 1))) else (none))
end
def zra.f (k : Nat) (l0 : List Int) (a1 : Int) : Option (List Int) := zra.l0 k l0 a1 (([] : List Int)) 0
theorem zra.calls (k : Nat) (A0 : Option Addr) (c0 : Nat) (l0 : List Int) (a1 : Int) (r : List Int) (w : World) (hr0 : Kd.C (Kd.int .i64) w A0 l0.length l0) (hc0 : l0.length ≤ c0) (h : zra.f k l0 a1 = some r) :
  Calls Tryz.prog 62 #[.slice A0 l0.length c0, .int .i64 a1] w fun e w' => ∃ v0_ : Value, e = .returned (v0_) ∧ Kd.R (Kd.int .u64) 104 w' w.heap.size (fun _ => True) v0_ r ∧ Below w.heap.size w w' := by
 have HR0 := za.mk hr0
 have HC0 := za.mk hc0
 clear hr0 hc0
 have HB := za.mk (Below.refl w.heap.size w)
 have H : (zra.l0 k l0 a1 (([] : List Int)) 0) = some r := h
 clear h
 obtain ⟨y466, hy466⟩ : ∃ y_ : List Int, y_ = (([] : List Int)) := ⟨_, rfl⟩
 replace H : (zra.l0 k l0 a1 y466 0) = some r := by first | (rw [hy466]; with_reducible exact H) | (have H2_ := (Option.bind_some _ _).symm.trans H; rw [hy466]; with_reducible exact H2_) | (have H2_ := (Option.bind_some _ _).symm.trans H; with_reducible exact H2_) | with_reducible exact H | (rw [hy466]; exact H) | exact H
 have Ny466 := za.mk hy466
 clear hy466
 have H' := za.mk H
 clear H
 go_enter Tryz.func62, Tryz.ntmps62
 go_wp2_with (first | ((with_reducible refine zza (N := 9) rfl ?_); refine Kd.R_lit (Kd.int .u64) _ 104 ?hg (N := 9) ?hd (xs := ([] : List Int)) (inner := []) (ok := fun _ => True) (okp := fun _ => True) ?hr ?hp (fun _ hk => hk) trivial (Below.refl _ _) (Nat.le_refl _) (by simp) ?_; (case hd => rfl); (case hg => rfl); (case hr => first | (go_simp; done) | (go_simp; rfl)); (case hp => exact (Reps.none _ _)); intro v467 w3 ho4 hb hg_ hnew_; clear hg_ hnew_; (first | rw [← Ny466.out] at ho4 | (simp only [Int.reduceToNat] at ho4; rw [← Ny466.out] at ho4)); have n0_ := za.mk (Kd.zcd ho4 (zm (by apply_rules only [HB.out, ze, zb, zf]))); have n1_ := za.mk (zk (by apply_rules only [HB.out, ze, zb, zf]) hb); clear HB; have HO468 := n0_; have HB := n1_; clear n0_ n1_; clear hb ho4))
 go_loopg [5, 6] k (fun kq v5 v6 w' => ∃ (x5_1 : List Int) (x6_1 : Int), v6 = .int .i64 x6_1 ∧ za (zra.l0 kq l0 a1 x5_1 x6_1 = some r) ∧ za (kq ≤ k) ∧ za (Kd.R (Kd.int .u64) 104 w' w.heap.size (fun _ => True) v5 x5_1) ∧ za (Below w.heap.size w w'))
 case atStart => exact ⟨(y466), (0), (by first | rfl | simp [*]), H', ⟨Nat.le_refl _⟩, ⟨by apply_rules only [HO468.out, Kd.zka, Kd.zja, Kd.zya]⟩, ⟨by apply_rules only [HB.out, ze, zb, zf]⟩⟩
 case round =>
  clear H'
  obtain ⟨x5_1, x6_1, rfl, HA, HK1, HO_5, HB⟩ := hrel
  cases gk with
  | zero => exact absurd HA.out (by simp [zra.l0])
  | succ k1 =>
   have H := HA.out
   clear HA
   simp only [zra.l0] at H
   replace H := Option.bind_eq_some_iff.mp H
   obtain ⟨t469, A50, H⟩ := H
   replace H : (if x6_1 < t469 then (zra.l1 k1 l0 a1 x5_1 x6_1 0 63) else (some x5_1)) = some r := H
   have A5 := za.mk A50
   clear A50
   by_cases c6 : x6_1 < t469
   ·rw [if_pos c6] at H
    have c6b0 : decide (x6_1 < t469) = true := decide_eq_true c6
    clear c6
    have H' := za.mk H
    clear H
    go_wp2_with (first | ((with_reducible refine zaa (f := 86) rfl ?_); refine zmc (some 12) rfl rfl Tryz.func86 (by kernel_rfl) rfl #[.int .i64 a1] rfl (by (try simp only [zpa]); first | done | rfl | simp) ?_; (with_reducible refine (zma.calls k1 a1 t469 _ A5.out).mono ?_); rintro e w' ⟨rfl, ⟨nd, rfl⟩⟩; refine ⟨_, rfl, ?_⟩))
    go_loopg [7, 8] k1 (fun kq v7 v8 w' => ∃ (x7_2 : Int) (x8_2 : Int), v7 = .int .u64 x7_2 ∧ v8 = .int .i64 x8_2 ∧ za (zra.l1 kq l0 a1 x5_1 x6_1 x7_2 x8_2 = some r) ∧ za (kq ≤ k1) ∧ za (Kd.R (Kd.int .u64) 104 w' w.heap.size (fun _ => True) u5 x5_1) ∧ za (Below w.heap.size w w'))
    case atStart => exact ⟨(0), (63), (by first | rfl | simp [*]), (by first | rfl | simp [*]), H', ⟨Nat.le_refl _⟩, ⟨by apply_rules only [HO_5.out, Kd.zka, Kd.zja, Kd.zya]⟩, ⟨by apply_rules only [HB.out, ze, zb, zf]⟩⟩
    case round =>
     clear H'
     obtain ⟨x7_2, x8_2, rfl, rfl, HA, HK2, HO_5, HB⟩ := hrel
     cases gk with
     | zero => exact absurd HA.out (by simp [zra.l1])
     | succ k2 =>
      have H := HA.out
      clear HA
      simp only [zra.l1] at H
      by_cases c7 : x8_2 ≥ 0
      ·rw [if_pos c7] at H
       have c7b0 : decide (0 ≤ x8_2) = true := decide_eq_true c7
       clear c7
       replace H := Option.bind_eq_some_iff.mp H
       obtain ⟨t470, A80, H⟩ := H
       replace H : (if t470 = true then (zra.l1 k2 l0 a1 x5_1 x6_1 (IntKind.u64.wrap ((IntKind.u64.wrap (2 * x7_2)) + 1)) (wrap64 (x8_2 - 1))) else (zra.l1 k2 l0 a1 x5_1 x6_1 (IntKind.u64.wrap (2 * x7_2)) (wrap64 (x8_2 - 1)))) = some r := H
       have A8 := za.mk A80
       clear A80
       by_cases c9 : t470 = true
       ·subst c9
        have H1 : (zra.l1 k2 l0 a1 x5_1 x6_1 (IntKind.u64.wrap ((IntKind.u64.wrap (2 * x7_2)) + 1)) (wrap64 (x8_2 - 1))) = some r := by rw [if_pos rfl] at H; exact H
        clear H
        have H := H1
        clear H1
        have H' := za.mk H
        clear H
        go_wp2_with (first | ((with_reducible refine zaa (f := 81) rfl ?_); refine zmc (some 27) rfl rfl Tryz.func81 (by kernel_rfl) rfl #[.slice A0 l0.length c0, .int .i64 (wrap64 ((wrap64 (64 * x6_1)) + x8_2))] rfl (by (try simp only [zpa]); first | done | rfl | simp) ?_; (with_reducible refine (zqc.calls k2 _ _ l0 (wrap64 ((wrap64 (64 * x6_1)) + x8_2)) true _ ?side1 ?side2 A8.out).mono ?_); (case side1 => apply_rules only [(Kd.znd HR0.out HB.out), Kd.zod, Kd.zmd, Kd.zme]); (case side2 => exact HC0.out); rintro e w' ⟨rfl, ⟨nd, rfl⟩⟩; refine ⟨_, rfl, ?_⟩))
        go_roundg k2
        case measure => have := HK1.out; have := HK2.out; omega
        case rel => exact ⟨(IntKind.u64.wrap ((IntKind.u64.wrap (2 * x7_2)) + 1)), (wrap64 (x8_2 - 1)), (by first | rfl | simp [*]), (by first | rfl | simp [*]), H', ⟨by have := HK1.out; have := HK2.out; omega⟩, ⟨by apply_rules only [HO_5.out, Kd.zka, Kd.zja, Kd.zya]⟩, ⟨by apply_rules only [HB.out, ze, zb, zf]⟩⟩
       ·replace c9 := Bool.eq_false_iff.mpr c9
        subst c9
        have H1 : (zra.l1 k2 l0 a1 x5_1 x6_1 (IntKind.u64.wrap (2 * x7_2)) (wrap64 (x8_2 - 1))) = some r := by rw [if_neg (show ¬ (false = true) by decide)] at H; exact H
        clear H
        have H := H1
        clear H1
        have H' := za.mk H
        clear H
        go_wp2_with (first | ((with_reducible refine zaa (f := 81) rfl ?_); refine zmc (some 27) rfl rfl Tryz.func81 (by kernel_rfl) rfl #[.slice A0 l0.length c0, .int .i64 (wrap64 ((wrap64 (64 * x6_1)) + x8_2))] rfl (by (try simp only [zpa]); first | done | rfl | simp) ?_; (with_reducible refine (zqc.calls k2 _ _ l0 (wrap64 ((wrap64 (64 * x6_1)) + x8_2)) false _ ?side1 ?side2 A8.out).mono ?_); (case side1 => apply_rules only [(Kd.znd HR0.out HB.out), Kd.zod, Kd.zmd, Kd.zme]); (case side2 => exact HC0.out); rintro e w' ⟨rfl, ⟨nd, rfl⟩⟩; refine ⟨_, rfl, ?_⟩))
        go_roundg k2
        case measure => have := HK1.out; have := HK2.out; omega
        case rel => exact ⟨(IntKind.u64.wrap (2 * x7_2)), (wrap64 (x8_2 - 1)), (by first | rfl | simp [*]), (by first | rfl | simp [*]), H', ⟨by have := HK1.out; have := HK2.out; omega⟩, ⟨by apply_rules only [HO_5.out, Kd.zka, Kd.zja, Kd.zya]⟩, ⟨by apply_rules only [HB.out, ze, zb, zf]⟩⟩
      ·rw [if_neg c7] at H
       have c7b0 : decide (0 ≤ x8_2) = false := decide_eq_false c7
       clear c7
       by_cases c10 : x5_1.length < 17592186044416
       ·rw [if_pos c10] at H
        have LMc10 := za.mk c10
        clear c10
        obtain ⟨y471, hy471⟩ : ∃ y_ : List Int, y_ = (x5_1 ++ [x7_2]) := ⟨_, rfl⟩
        replace H : (zra.l0 k2 l0 a1 y471 (wrap64 (x6_1 + 1))) = some r := by first | (rw [hy471]; with_reducible exact H) | (have H2_ := (Option.bind_some _ _).symm.trans H; rw [hy471]; with_reducible exact H2_) | (have H2_ := (Option.bind_some _ _).symm.trans H; with_reducible exact H2_) | with_reducible exact H | (rw [hy471]; exact H) | exact H
        have Ny471 := za.mk hy471
        clear hy471
        have H' := za.mk H
        clear H
        go_wp2_with (first | ((with_reducible refine zdd (b := .append) (xs := #[.tmp 30, .tmp 32]) rfl ?_); at_builtin; refine Kd.zof (Kd.int .u64) (w0 := w) w.heap.size rfl (.tmp 30) (.tmp 32) 71 104 (.int .u64 0) 8 rfl Tryz.underlying71 info104 rfl (by decide) (by omega) u5 x5_1 x7_2 [.int .u64 x7_2] (fun _ => True) (fun _ => False) rfl rfl ?aP (fun _ hk => hk.elim) ?aF ?aO ?aB ?aS ?aL ?_; (case aP => exact rfl); (case aB => exact (by apply_rules only [HB.out, ze, zb, zf])); (case aF => exact (fun _ _ => trivial)); (case aO => exact (by apply_rules only [HO_5.out, Kd.zka, Kd.zja, Kd.zya])); (case aS => exact (zm (by apply_rules only [HB.out, ze, zb, zf]))); (case aL => have := LMc10.out; omega); intro v472 w11 ho hb hg hat; rw [← Ny471.out] at ho; have n0_ := za.mk (hb); have n1_ := za.mk (ho); clear HB; clear HO_5; have HB := n0_; have HO473 := n1_; clear n0_ n1_; clear ho hb hg hat))
        go_roundg k2
        case measure => have := HK1.out; have := HK2.out; omega
        case rel => exact ⟨(y471), (wrap64 (x6_1 + 1)), (by first | rfl | simp [*]), H', ⟨by have := HK1.out; have := HK2.out; omega⟩, ⟨by apply_rules only [HO473.out, Kd.zka, Kd.zja, Kd.zya]⟩, ⟨by apply_rules only [HB.out, ze, zb, zf]⟩⟩
       ·rw [if_neg c10] at H
        exact absurd H (by simp)
   ·rw [if_neg c6] at H
    have c6b0 : decide (x6_1 < t469) = false := decide_eq_false c6
    clear c6
    obtain rfl := Option.some.inj H
    go_wp2_with (first | ((with_reducible refine zaa (f := 86) rfl ?_); refine zmc (some 12) rfl rfl Tryz.func86 (by kernel_rfl) rfl #[.int .i64 a1] rfl (by (try simp only [zpa]); first | done | rfl | simp) ?_; (with_reducible refine (zma.calls k1 a1 t469 _ A5.out).mono ?_); rintro e w' ⟨rfl, ⟨nd, rfl⟩⟩; refine ⟨_, rfl, ?_⟩))
    go_ret
    exact ⟨_, by first | rfl | (simp [zn, zo] <;> rfl) | (simp [*, zn, zo] <;> rfl), by apply_rules only [HO_5.out, Kd.zka, Kd.zja, Kd.zya], by apply_rules only [HB.out, ze, zb, zf]⟩
def zab.l0 : Nat → List (List Int) → List (List Int) → Int → Int → Int → Int → Int → Int → Option ((List (List Int)))
 | 0, _, _, _, _, _, _, _, _ => none
 | k + 1, x7, x8, x9, x475000, x475001, x475002, x475003, x475004 => if x9 < (x7.length : Int) then (if 0 ≤ x9 then ((zra.f k (rd_L2 x7 x9) x475003).bind fun t482 => (if x8.length < 5864062014805 then (zab.l0 k x7 (x8 ++ [t482]) (wrap64 (x9 + 1)) x475000 x475001 x475002 x475003 x475004) else (none))) else (none)) else (some x8)
def zab.f (k : Nat) (a0_0 : Int) (a0_1 : Int) (a0_2 : Int) (a0_3 : Int) (a0_4 : Int) (a1 : Int) (l2 : List Int) : Option ((List (List Int))) := (zga.f k a0_0 a0_1 a0_2 a0_3 a0_4 a1 l2).bind fun t475 => (zab.l0 k t475 (([] : List (List Int))) 0 a0_0 a0_1 a0_2 a0_3 a0_4)
def zab.T6 : Bool × List (List Nat × List Nat) := (true, [([], []), ([], []), ([], []), ([1, 2], [1, 2]), ([3], [3]), ([], []), ([5], [5]), ([4, 6], [4, 6]), ([7], [7]), ([0, 8, 7], [0, 8]), ([9, 9, 0, 1, 2, 3, 4, 5, 6, 7, 8, 9], [0, 9])])
def zab.B6 : List Nat := [0, 0, 0, 6, 14, 0, 32, 126, 254, 511, 1023]
theorem zab.tab6 : rtab .any (opsOf Tryz.f37 6) = zab.T6 := by kernel_rfl
theorem zab.bits6 : waitsOk zab.T6.2 zab.B6 = true := by kernel_rfl
theorem zab.calls (k : Nat) (a0_0 : Int) (a0_1 : Int) (a0_2 : Int) (a0_3 : Int) (a0_4 : Int) (a1 : Int) (A2 : Option Addr) (c2 : Nat) (l2 : List Int) (r : List (List Int)) (w : World) (hr2 : Kd.C (Kd.int .i64) w A2 l2.length l2) (hc2 : l2.length ≤ c2) (h : zab.f k a0_0 a0_1 a0_2 a0_3 a0_4 a1 l2 = some r) :
  Calls Tryz.prog 37 #[.agg #[.int .i64 a0_0, .int .i64 a0_1, .int .i64 a0_2, .int .i64 a0_3, .int .i64 a0_4], .int .i64 a1, .slice A2 l2.length c2] w fun e w' => ∃ v0_ : Value, e = .returned (v0_) ∧ Kd.N (Kd.slice 104 (Kd.int .u64)) 71 w' w.heap.size (fun k_ => (w.heap.size ≤ k_)) v0_ r ∧ Below w.heap.size w w' := by
 have hu23 := Tryz.underlying23
 have HR2 := za.mk hr2
 have HC2 := za.mk hc2
 clear hr2 hc2
 have HB := za.mk (Below.refl w.heap.size w)
 have H : ((zga.f k a0_0 a0_1 a0_2 a0_3 a0_4 a1 l2).bind fun t475 => (zab.l0 k t475 (([] : List (List Int))) 0 a0_0 a0_1 a0_2 a0_3 a0_4)) = some r := h
 clear h
 replace H := Option.bind_eq_some_iff.mp H
 obtain ⟨t475, A40, H⟩ := H
 replace H : (zab.l0 k t475 (([] : List (List Int))) 0 a0_0 a0_1 a0_2 a0_3 a0_4) = some r := H
 have A4 := za.mk A40
 clear A40
 obtain ⟨y478, hy478⟩ : ∃ y_ : List (List Int), y_ = (([] : List (List Int))) := ⟨_, rfl⟩
 replace H : (zab.l0 k t475 y478 0 a0_0 a0_1 a0_2 a0_3 a0_4) = some r := by first | (rw [hy478]; with_reducible exact H) | (have H2_ := (Option.bind_some _ _).symm.trans H; rw [hy478]; with_reducible exact H2_) | (have H2_ := (Option.bind_some _ _).symm.trans H; with_reducible exact H2_) | with_reducible exact H | (rw [hy478]; exact H) | exact H
 have Ny478 := za.mk hy478
 clear hy478
 have H' := za.mk H
 clear H
 go_enter Tryz.func37, Tryz.ntmps37
 go_wp2_with (first | ((with_reducible refine zza (N := 3) rfl ?_); refine zgc ?hg (N := 3) ?hd (cs := #[.int .i64 a0_0, .int .i64 a0_1, .int .i64 a0_2, .int .i64 a0_3, .int .i64 a0_4]) (t := 23) ?hr ?_; (case hd => rfl); (case hg => rfl); (case hr => first | (go_simp; done) | (go_simp; rfl)); intro gb474 hg w5 hbox hb; have n0_ := za.mk (zk (by apply_rules only [HB.out, ze, zb, zf]) hb); have n1_ := za.mk (hbox); have n2_ := za.mk ((by rw [hg]; exact (zm (by apply_rules only [HB.out, ze, zb, zf])) : w.heap.size ≤ gb474)); have n3_ := za.mk ((by rw [hg]; exact (zm (by apply_rules only [HB.out, ze, zb, zf])) : w.heap.size ≤ gb474)); clear HB; have HB := n0_; have BK474 := n1_; have GW474 := n2_; have GE474 := n3_; clear n0_ n1_ n2_ n3_; clear hb hbox hg; obtain ⟨hcz6_0, hcz6_1, hcz6_2, hcz6_3, hcz6_4⟩ := cells5 BK474.out; obtain ⟨hfz6_0, hfz6_1, hfz6_2, hfz6_3, hfz6_4⟩ := zic BK474.out) | ((with_reducible refine zaa (f := 48) rfl ?_); refine zmc (some 13) rfl rfl Tryz.func48 (by kernel_rfl) rfl #[.agg #[.int .i64 a0_0, .int .i64 a0_1, .int .i64 a0_2, .int .i64 a0_3, .int .i64 a0_4], .int .i64 a1, .slice A2 l2.length c2] rfl (by (try simp only [zpa]); first | done | rfl | simp) ?_; (with_reducible refine (zga.calls k a0_0 a0_1 a0_2 a0_3 a0_4 a1 _ _ l2 t475 _ ?side1 ?side2 A4.out).mono ?_); (case side1 => apply_rules only [(Kd.znd HR2.out HB.out), Kd.zod, Kd.zmd, Kd.zme]); (case side2 => exact HC2.out); rintro e w7 ⟨v476, rfl, ho0, hb⟩; refine ⟨_, rfl, ?_⟩; have n0_ := za.mk (Kd.N_lower (Kd.zye (ok' := fun k_ => (w.heap.size ≤ k_) ∧ k_ ≠ gb474) ho0 (fun k_ hk_ => ⟨(Nat.le_trans (zm (by apply_rules only [HB.out, ze, zb, zf, fun h => zg h GE474.out])) hk_), (Kd.freshB (g := gb474) (o := .cells #[.int .i64 a0_0, .int .i64 a0_1, .int .i64 a0_2, .int .i64 a0_3, .int .i64 a0_4] 23 (0, 0)) (by apply_rules only [BK474.out, zh, zj, zi]) k_ hk_)⟩)) (zm (by apply_rules only [HB.out, ze, zb, zf, fun h => zg h GE474.out]))); have n1_ := za.mk (zy (g := gb474) (o := .cells #[.int .i64 a0_0, .int .i64 a0_1, .int .i64 a0_2, .int .i64 a0_3, .int .i64 a0_4] 23 (0, 0)) (by apply_rules only [BK474.out, zh, zj, zi]) hb); have n2_ := za.mk (zk (by apply_rules only [HB.out, ze, zb, zf, fun h => zg h GE474.out]) hb); clear BK474; clear HB; have HO477 := n0_; have BK474 := n1_; have HB := n2_; clear n0_ n1_ n2_; (try clear hb); (try clear hb2); (try clear hk); (try clear hi); (try clear ho0)) | ((with_reducible refine zza (N := 14) rfl ?_); refine Kd.N_lit (Kd.slice 104 (Kd.int .u64)) _ 71 ?hg (N' := 14) ?hd (xs := ([] : List (List Int))) (inner := []) (ok := (fun k_ => (w.heap.size ≤ k_) ∧ some k_ ≠ (v476 : Value).ownBlock ∧ k_ ≠ gb474)) (okp := (fun k_ => (w.heap.size ≤ k_) ∧ some k_ ≠ (v476 : Value).ownBlock ∧ k_ ≠ gb474)) ?hr ?hp (fun _ hk => hk) ((show ∀ k_, w7.heap.size ≤ k_ → (fun k_ => (w.heap.size ≤ k_) ∧ some k_ ≠ (v476 : Value).ownBlock ∧ k_ ≠ gb474) k_ from fun k_ hk => ⟨(Nat.le_trans (zm (by apply_rules only [HB.out, ze, zb, zf, fun h => zg h GE474.out])) hk), Kd.fresh' (Kd.N_lt (by apply_rules only [HO477.out, Kd.zkc, Kd.zjc, Kd.zvc])) k_ hk, Kd.freshB (g := gb474) (o := .cells #[.int .i64 a0_0, .int .i64 a0_1, .int .i64 a0_2, .int .i64 a0_3, .int .i64 a0_4] 23 (0, 0)) (by apply_rules only [BK474.out, zh, zj, zi]) k_ hk⟩) _ (Nat.le_refl _)) (Below.refl _ _) (Nat.le_refl _) (by simp) ?_; (case hd => rfl); (case hg => rfl); (case hr => first | (go_simp; done) | (go_simp; rfl)); (case hp => exact (Reps.none _ _)); intro v479 w8 ho9 hb hg_ hnew_; clear hg_ hnew_; (first | rw [← Ny478.out] at ho9 | (simp only [Int.reduceToNat] at ho9; rw [← Ny478.out] at ho9)); have n0_ := za.mk (Kd.zff (by apply_rules only [HO477.out, Kd.zkc, Kd.zjc, Kd.zvc]) (Kd.N_base ho9) hb); have n1_ := za.mk (Kd.N_lower ho9 (zm (by apply_rules only [HB.out, ze, zb, zf, fun h => zg h GE474.out]))); have n2_ := za.mk (zy (g := gb474) (o := .cells #[.int .i64 a0_0, .int .i64 a0_1, .int .i64 a0_2, .int .i64 a0_3, .int .i64 a0_4] 23 (0, 0)) (by apply_rules only [BK474.out, zh, zj, zi]) hb); have n3_ := za.mk (zk (by apply_rules only [HB.out, ze, zb, zf, fun h => zg h GE474.out]) hb); clear HO477; clear BK474; clear HB; have HO477 := n0_; have HO480 := n1_; have BK474 := n2_; have HB := n3_; clear n0_ n1_ n2_ n3_; clear hb ho9))
 go_loopg [8, 9] k (fun kq v8 v9 w' => ∃ (x8_1 : List (List Int)) (x9_1 : Int), v9 = .int .i64 x9_1 ∧ za (zab.l0 kq t475 x8_1 x9_1 a0_0 a0_1 a0_2 a0_3 a0_4 = some r) ∧ za (kq ≤ k) ∧ za (Kd.N (Kd.slice 3 (Kd.int .i64)) 31 w' w.heap.size (fun k_ => (w.heap.size ≤ k_) ∧ some k_ ≠ (v8 : Value).ownBlock ∧ k_ ≠ gb474) v476 t475) ∧ za (Kd.N (Kd.slice 104 (Kd.int .u64)) 71 w' w.heap.size (fun k_ => (w.heap.size ≤ k_) ∧ some k_ ≠ (v476 : Value).ownBlock ∧ k_ ≠ gb474) v8 x8_1) ∧ za (w'.heap[gb474]? = some (.cells #[.int .i64 a0_0, .int .i64 a0_1, .int .i64 a0_2, .int .i64 a0_3, .int .i64 a0_4] 23 (0, 0))) ∧ za (Below w.heap.size w w'))
 case atStart => exact ⟨(y478), (0), (by first | rfl | simp [*]), H', ⟨Nat.le_refl _⟩, ⟨by (with_reducible repeat (first | apply Kd.zkc | apply Kd.zjc | apply Kd.zvc)); exact Kd.zye HO477.out (fun _ hk => ⟨hk.1.1, ⟨hk.2, hk.1.2⟩⟩)⟩, ⟨by apply_rules only [HO480.out, Kd.zkc, Kd.zjc, Kd.zvc]⟩, ⟨by apply_rules only [BK474.out, zh, zj, zi]⟩, ⟨by apply_rules only [HB.out, ze, zb, zf, fun h => zg h GE474.out]⟩⟩
 case round =>
  clear H'
  obtain ⟨x8_1, x9_1, rfl, HA, HK1, HO_7, HO_8, BK474, HB⟩ := hrel
  cases gk with
  | zero => exact absurd HA.out (by simp [zab.l0])
  | succ k1 =>
   have H := HA.out
   clear HA
   simp only [zab.l0] at H
   by_cases c10 : x9_1 < (t475.length : Int)
   ·rw [if_pos c10] at H
    have c10b0 : decide (x9_1 < (t475.length : Int)) = true := decide_eq_true c10
    clear c10
    by_cases c11 : 0 ≤ x9_1
    ·rw [if_pos c11] at H
     have c11b0 : decide (0 ≤ x9_1) = true := decide_eq_true c11
     clear c11
     replace H := Option.bind_eq_some_iff.mp H
     obtain ⟨t482, A120, H⟩ := H
     replace H : (if x8_1.length < 5864062014805 then (zab.l0 k1 t475 (x8_1 ++ [t482]) (wrap64 (x9_1 + 1)) a0_0 a0_1 a0_2 a0_3 a0_4) else (none)) = some r := H
     have A12 := za.mk A120
     clear A120
     by_cases c13 : x8_1.length < 5864062014805
     ·rw [if_pos c13] at H
      have LMc13 := za.mk c13
      clear c13
      obtain ⟨y485, hy485⟩ : ∃ y_ : List (List Int), y_ = (x8_1 ++ [t482]) := ⟨_, rfl⟩
      replace H : (zab.l0 k1 t475 y485 (wrap64 (x9_1 + 1)) a0_0 a0_1 a0_2 a0_3 a0_4) = some r := by first | (rw [hy485]; with_reducible exact H) | (have H2_ := (Option.bind_some _ _).symm.trans H; rw [hy485]; with_reducible exact H2_) | (have H2_ := (Option.bind_some _ _).symm.trans H; with_reducible exact H2_) | with_reducible exact H | (rw [hy485]; exact H) | exact H
      have Ny485 := za.mk hy485
      clear hy485
      have H' := za.mk H
      clear H
      obtain ⟨Ao14, co14, eo14⟩ := Kd.zbf HO_7.out
      subst eo14
      try go_wp2
      have n0_ := za.mk (Kd.zvc HO_7.out)
      have n1_ := za.mk (Kd.zvc HO_8.out)
      have n2_ := za.mk (zj BK474.out)
      have n3_ := za.mk (zf HB.out)
      clear HO_7
      clear HO_8
      clear BK474
      clear HB
      have HO_7 := n0_
      have HO_8 := n1_
      have BK474 := n2_
      have HB := n3_
      clear n0_ n1_ n2_ n3_
      have p481 : 0 ≤ (x9_1 : Int) := of_decide_eq_true (by first | (with_reducible assumption) | assumption)
      have q481 : x9_1 < (t475.length : Int) := of_decide_eq_true (by first | (with_reducible assumption) | assumption)
      obtain ⟨ad481, A481_0, c481_0, e481, hx481_0, hl481_0, hi481_0⟩ := at_L2 (Kd.zzd HO_7.out).2.2 x9_1 p481 q481
      cases e481
      obtain ⟨ce481, hce481, hMe481, hcc481⟩ := Kd.N_get HO_7.out [] x9_1 p481 (by first | exact q481 | exact of_decide_eq_true (by first | (with_reducible assumption) | assumption) | (have e_ := (Kd.zzd HO_7.out).1; omega))
      obtain ⟨ua481_0, uc481_0, rfl, ul481_0, ge481_0⟩ := Kd.zpf hMe481
      have hv481_0 := hcc481 0 _ rfl
      rw [Nat.add_zero, show ((Kd.slice 3 (Kd.int .i64))).sz = 1 from rfl, Nat.mul_one] at hv481_0
      replace hv481_0 := Option.some.inj (hv481_0.symm.trans hx481_0)
      injection hv481_0 with hva_ hvn_ hvc_
      rw [hva_] at ge481_0
      rw [hvc_] at ul481_0
      have HL481_0 := za.mk (show Kd.V (Kd.int .i64) 3 _ w.heap.size _ _ (rd_L2 t475 x9_1) from Kd.V_mk ul481_0 ge481_0)
      clear hva_ hvn_ hvc_ ge481_0 ul481_0
      clear hcc481 hce481
      have HR481_0 := za.mk hi481_0
      have HC481_0 := za.mk hl481_0
      clear hi481_0 hl481_0
      replace p481 := eq_true p481
      replace q481 := eq_true q481
      refine zsf (n := 11) (S := fun w' => w'.cell? ⟨gb474, 0, none⟩ = some (.int .i64 a0_0) ∧ w'.cell? ⟨gb474, 1, none⟩ = some (.int .i64 a0_1) ∧ w'.cell? ⟨gb474, 2, none⟩ = some (.int .i64 a0_2) ∧ w'.cell? ⟨gb474, 3, none⟩ = some (.int .i64 a0_3) ∧ w'.cell? ⟨gb474, 4, none⟩ = some (.int .i64 a0_4) ∧ w'.cell? (ad481.add (x9_1).toNat) = some (.slice A481_0 (rd_L2 t475 x9_1).length c481_0)) (ds := [8, 9]) #[false, false, false, false, false, false, false, false, false, false, false] (by kernel_rfl) rfl rfl ⟨(zl BK474.out 0).trans rfl, (zl BK474.out 1).trans rfl, (zl BK474.out 2).trans rfl, (zl BK474.out 3).trans rfl, (zl BK474.out 4).trans rfl, hx481_0⟩ (fun hHeld => ?_); refine zke zab.tab6 zab.bits6 (fun HT_ HW_ => ?_)
      generalize wr.drew = w15 at HO_7 HO_8 BK474 HB HL481_0 HR481_0 hx481_0 hHeld ⊢
      refine pure_ (i := 0) (N := some 21) (v := ?_) (a' := ?_) #[true, false, false, false, false, false, false, false, false, false, false] rfl rfl (zvb HT_.out (by kernel_rfl)) (fun _ _ _ h => h) (Or.inl ⟨by rfl, ?_⟩) ?_ ?_
      rotate_left
      ·intro w'
       go_simp
       with_reducible rfl
      rotate_left
      ·simp only [Act.put, zw]
       rfl
      refine pure_ (i := 1) (N := some 22) (v := ?_) (a' := ?_) #[true, true, false, false, false, false, false, false, false, false, false] rfl rfl (zvb HT_.out (by kernel_rfl)) (fun _ _ _ h => h) (Or.inl ⟨by rfl, ?_⟩) ?_ ?_
      rotate_left
      ·intro w'
       go_simp
       with_reducible rfl
      rotate_left
      ·simp only [Act.put, zw]
       rfl
      refine pure_ (i := 2) (N := some 23) (v := ?_) (a' := ?_) #[true, true, true, false, false, false, false, false, false, false, false] rfl rfl (zvb HT_.out (by kernel_rfl)) (fun _ _ _ h => h) (Or.inl ⟨by rfl, ?_⟩) ?_ ?_
      rotate_left
      ·intro w'
       go_simp
       with_reducible rfl
      rotate_left
      ·simp only [Act.put, zw]
       rfl
      refine pure_ (i := 3) (N := some 24) (v := ?_) (a' := ?_) #[true, true, true, true, false, false, false, false, false, false, false] rfl rfl (zvb HT_.out (by kernel_rfl)) (fun _ _ _ h => h) (Or.inl ⟨by rfl, ?_⟩) ?_ ?_
      rotate_left
      ·intro w'
       go_simp
       with_reducible rfl
      rotate_left
      ·simp only [Act.put, zw]
       rfl
      refine pure_ (i := 5) (N := some 26) (v := ?_) (a' := ?_) #[true, true, true, true, false, true, false, false, false, false, false] rfl rfl (zvb HT_.out (by kernel_rfl)) (fun _ _ _ h => h) (Or.inl ⟨by rfl, ?_⟩) ?_ ?_
      rotate_left
      ·intro w'
       go_simp
       with_reducible rfl
      rotate_left
      ·simp only [Act.put, zw]
       rfl
      refine take_ (i := 4) (N := some 25) (v := ?_) (a' := ?_) #[true, true, true, true, true, true, false, false, false, false, false] rfl rfl (zje HT_.out HW_.out (by kernel_rfl)) (fun _ _ _ h => h) (Or.inl ⟨by rfl, ?_⟩) hHeld ?_ ?_
      rotate_left
      ·rintro w' ⟨s0, s1, s2, s3, s4, s5⟩
       go_simp
       with_reducible rfl
      rotate_left
      ·simp only [Act.put, zw]
       rfl
      refine take_ (i := 6) (N := some 27) (v := ?_) (a' := ?_) #[true, true, true, true, true, true, true, false, false, false, false] rfl rfl (zje HT_.out HW_.out (by kernel_rfl)) (fun _ _ _ h => h) (Or.inl ⟨by rfl, ?_⟩) hHeld ?_ ?_
      rotate_left
      ·rintro w' ⟨s0, s1, s2, s3, s4, s5⟩
       go_simp
       with_reducible rfl
      rotate_left
      ·simp only [Act.put, zw]
       rfl
      refine one_ (i := 7) (N := some 28) #[true, true, true, true, true, true, true, true, false, false, false] rfl rfl (one_of HT_.out (by kernel_rfl)) (by decide) (fun K hK => ?_)
      refine goes_ Tryz.func62 (by kernel_rfl) rfl #[.slice A481_0 (rd_L2 t475 x9_1).length c481_0, .int .i64 a0_3] (by rfl) rfl rfl (by (try simp only [zpa]); first | done | rfl | simp) ?_
      with_reducible refine (zra.calls k1 _ _ (rd_L2 t475 x9_1) a0_3 t482 _ ?side1 ?side2 A12.out).mono ?_
      (case side1 => apply_rules only [HR481_0.out, Kd.zod, Kd.zmd, Kd.zme])
      (case side2 => exact HC481_0.out)
      rintro e w16 ⟨v483, rfl, ho0, hb⟩
      have HS5_ := (hb.cell (World.block_lt_of_cell? _ _ (hHeld.2.2.2.2.2))).trans (hHeld.2.2.2.2.2)
      refine ⟨_, rfl, ?_⟩
      have n0_ := za.mk (Kd.zff (by apply_rules only [HO_7.out, Kd.zkc, Kd.zjc, Kd.zvc]) (Kd.zjf ho0) hb)
      have n1_ := za.mk (Kd.zff (by apply_rules only [HO_8.out, Kd.zkc, Kd.zjc, Kd.zvc]) (Kd.zjf ho0) hb)
      have n2_ := za.mk (Kd.V_elder' (by (with_reducible repeat (first | apply Kd.V_alloc | apply Kd.zaf | apply Kd.V_drew)); exact HL481_0.out) (Kd.zjf ho0) hb)
      have n3_ := za.mk (Kd.zcd (Kd.R_newM (M := fun k_ => (w.heap.size ≤ k_)) ho0 (zm (by apply_rules only [HB.out, ze, zb, zf, fun h => zg h GE474.out])) (fun k_ h_ => h_)) (zm (by apply_rules only [HB.out, ze, zb, zf, fun h => zg h GE474.out])))
      have n4_ := za.mk (zy (g := gb474) (o := .cells #[.int .i64 a0_0, .int .i64 a0_1, .int .i64 a0_2, .int .i64 a0_3, .int .i64 a0_4] 23 (0, 0)) (by apply_rules only [BK474.out, zh, zj, zi]) hb)
      have n5_ := za.mk (Kd.znd (by apply_rules only [HR481_0.out, Kd.zod, Kd.zmd, Kd.zme]) hb)
      have n6_ := za.mk (zk (by apply_rules only [HB.out, ze, zb, zf, fun h => zg h GE474.out]) hb)
      clear HO_7
      clear HO_8
      clear HL481_0
      clear BK474
      clear HR481_0
      clear HB
      have HO_7 := n0_
      have HO_8 := n1_
      have HL481_0 := n2_
      have HO484 := n3_
      have BK474 := n4_
      have HR481_0 := n5_
      have HB := n6_
      clear n0_ n1_ n2_ n3_ n4_ n5_ n6_
      (try clear hb)
      (try clear hb2)
      (try clear hk)
      (try clear hi)
      (try clear ho0)
      obtain ⟨Ao18, co18, eo18⟩ := Kd.zsc HO484.out
      (first | subst eo18 | (injection eo18 with f1_ f2_ f3_; have f4_ := f1_.symm; have f5_ := f3_.symm; clear f1_ f2_ f3_; subst f4_; subst f5_))
      refine hK.out _ _ ⟨(zl BK474.out 0).trans rfl, (zl BK474.out 1).trans rfl, (zl BK474.out 2).trans rfl, (zl BK474.out 3).trans rfl, (zl BK474.out 4).trans rfl, HS5_⟩ (fun hHeld => ?_)
      clear hK K
      refine norm_ (a' := ?_) ?_ ?_
      rotate_left
      ·show Act.put _ (some 28) _ = _
       simp only [Act.put, zw]
       rfl
      refine last_ (i := 8) (N := some 29) #[true, true, true, true, true, true, true, true, true, false, false] rfl rfl (one_of HT_.out (by kernel_rfl)) (by decide) (fun K hK => ?_)
      refine zbd (w1 := ?_) (v := ?_) (by rfl) rfl ?_ ?_
      rotate_left 2
      ·go_simp
       constructor
       ·rfl
       ·rfl
      refine hK.out _ _ ?_
      clear hK K
      refine norm_ (a' := ?_) ?_ ?_
      rotate_left
      ·show Act.put _ (some 29) _ = _
       simp only [Act.put, zw]
       rfl
      refine last_ (i := 9) (N := some 30) #[true, true, true, true, true, true, true, true, true, true, false] rfl rfl (one_of HT_.out (by kernel_rfl)) (by decide) (fun K hK => ?_)
      refine Kd.N_append_step (Kd.slice 104 (Kd.int .u64)) (w0 := w) w.heap.size (by rfl) (.tmp 21) (.tmp 29) 69 71 (.slice none 0 0) 24 rfl Tryz.underlying69 info71 rfl (by decide) (by omega) u8 x8_1 t482 [.slice Ao18 t482.length co18] (fun k_ => (w.heap.size ≤ k_) ∧ some k_ ≠ (.slice (some ad481) t475.length co14 : Value).ownBlock ∧ k_ ≠ gb474) (fun k_ => ((fun k_ => (w.heap.size ≤ k_) ∧ some k_ ≠ (.slice (some ad481) t475.length co14 : Value).ownBlock ∧ k_ ≠ gb474)) k_ ∧ some k_ ≠ (u8 : Value).ownBlock) rfl rfl ?aP (fun _ hk => hk) ?aF ?aO ?aB ?aS ?aL ?_
      (case aP => exact (Kd.FK_slice_mk (Kd.zsb (Kd.zuc (ok' := (fun k_ => ((fun k_ => (w.heap.size ≤ k_) ∧ some k_ ≠ (.slice (some ad481) t475.length co14 : Value).ownBlock ∧ k_ ≠ gb474)) k_ ∧ some k_ ≠ (u8 : Value).ownBlock)) (Kd.R_types (Kd.zfe (Kd.zfe (HO484.out) (Kd.N_typed HO_7.out) (by decide)) (Kd.N_typed HO_8.out) (by decide)) BK474.out (by decide)) (fun k_ hk => ⟨⟨hk.1.1.1.1, ⟨hk.1.1.2, hk.2⟩⟩, hk.1.2⟩))).2.1 (Kd.R_F (Kd.zuc (ok' := (fun k_ => ((fun k_ => (w.heap.size ≤ k_) ∧ some k_ ≠ (.slice (some ad481) t475.length co14 : Value).ownBlock ∧ k_ ≠ gb474)) k_ ∧ some k_ ≠ (u8 : Value).ownBlock)) (Kd.R_types (Kd.zfe (Kd.zfe (HO484.out) (Kd.N_typed HO_7.out) (by decide)) (Kd.N_typed HO_8.out) (by decide)) BK474.out (by decide)) (fun k_ hk => ⟨⟨hk.1.1.1.1, ⟨hk.1.1.2, hk.2⟩⟩, hk.1.2⟩)))))
      (case aB => exact (by apply_rules only [HB.out, ze, zb, zf, fun h => zg h GE474.out]))
      (case aF => exact (fun k_ hk => ⟨(Nat.le_trans (zm (by apply_rules only [HB.out, ze, zb, zf, fun h => zg h GE474.out])) hk), Kd.fresh' (Kd.N_lt (by apply_rules only [HO_7.out, Kd.zkc, Kd.zjc, Kd.zvc])) k_ hk, Kd.freshB (g := gb474) (o := .cells #[.int .i64 a0_0, .int .i64 a0_1, .int .i64 a0_2, .int .i64 a0_3, .int .i64 a0_4] 23 (0, 0)) (by apply_rules only [BK474.out, zh, zj, zi]) k_ hk⟩))
      (case aO => exact (by (with_reducible repeat (first | apply Kd.zkc | apply Kd.zjc | apply Kd.zvc)); exact Kd.zye HO_8.out (fun _ hk => ⟨hk.1.1, ⟨hk.1.2.1, hk.1.2.2⟩⟩)))
      (case aS => exact (zm (by apply_rules only [HB.out, ze, zb, zf, fun h => zg h GE474.out])))
      (case aL => have := LMc13.out; omega)
      intro v486 w17 ho hb hg hat
      rw [← Ny485.out] at ho
      have n0_ := za.mk (Kd.N_afterv (ok := (fun k_ => (w.heap.size ≤ k_) ∧ some k_ ≠ (.slice Ao18 t482.length co18 : Value).ownBlock ∧ k_ ≠ gb474)) (by (with_reducible repeat (first | apply Kd.zkc | apply Kd.zjc | apply Kd.zvc)); exact Kd.zye HO_7.out (fun _ hk => ⟨⟨hk.1.1, ⟨hk.2, hk.1.2.2⟩⟩, hk.1.2.1⟩)) hg hat)
      have n1_ := za.mk (zwc (g := gb474) (o := .cells #[.int .i64 a0_0, .int .i64 a0_1, .int .i64 a0_2, .int .i64 a0_3, .int .i64 a0_4] 23 (0, 0)) (by apply_rules only [BK474.out, zh, zj, zi]) hg (Kd.N_ne HO_8.out BK474.out (by decide)))
      have n2_ := za.mk (Kd.V_afterv (ok := (fun k_ => (w.heap.size ≤ k_) ∧ some k_ ≠ (.slice (some ad481) t475.length co14 : Value).ownBlock ∧ some k_ ≠ (.slice Ao18 t482.length co18 : Value).ownBlock ∧ k_ ≠ gb474)) (by (with_reducible repeat (first | apply Kd.V_alloc | apply Kd.zaf | apply Kd.V_drew)); exact Kd.V_mono HL481_0.out (fun _ hk => ⟨⟨hk.1.1.1, ⟨hk.1.2, ⟨hk.2, hk.1.1.2.2⟩⟩⟩, hk.1.1.2.1⟩)) hg hat)
      have n3_ := za.mk (hb)
      have n4_ := za.mk (ho)
      clear HO_7
      clear BK474
      clear HL481_0
      clear HB
      clear HO_8
      clear HO484
      have HO_7 := n0_
      have BK474 := n1_
      have HL481_0 := n2_
      have HB := n3_
      have HO487 := n4_
      clear n0_ n1_ n2_ n3_ n4_
      clear ho hb hg hat
      refine hK.out _ _ ?_
      clear hK K
      refine norm_ (a' := ?_) ?_ ?_
      rotate_left
      ·show Act.put _ (some 30) _ = _
       simp only [Act.put, zw]
       rfl
      refine pure_ (i := 10) (N := some 8) (v := ?_) (a' := ?_) #[true, true, true, true, true, true, true, true, true, true, true] rfl rfl (zvb HT_.out (by kernel_rfl)) (fun _ _ _ h => h) (Or.inl ⟨by rfl, ?_⟩) ?_ ?_
      rotate_left
      ·intro w'
       go_simp
       with_reducible rfl
      rotate_left
      ·simp only [Act.put, zw]
       rfl
      refine done_ (done_of HT_.out (by kernel_rfl)) ?_
      try go_wp2
      go_roundg k1
      case measure => have := HK1.out; omega
      case rel => exact ⟨(y485), (wrap64 (x9_1 + 1)), (by first | rfl | simp [*]), H', ⟨by have := HK1.out; omega⟩, ⟨by (with_reducible repeat (first | apply Kd.zkc | apply Kd.zjc | apply Kd.zvc)); exact Kd.zye HO_7.out (fun _ hk => ⟨hk.1.1, ⟨hk.2, hk.1.2.2⟩⟩)⟩, ⟨by apply_rules only [HO487.out, Kd.zkc, Kd.zjc, Kd.zvc]⟩, ⟨by apply_rules only [BK474.out, zh, zj, zi]⟩, ⟨by apply_rules only [HB.out, ze, zb, zf, fun h => zg h GE474.out]⟩⟩
     ·rw [if_neg c13] at H
      exact absurd H (by simp)
    ·rw [if_neg c11] at H
     exact absurd H (by simp)
   ·rw [if_neg c10] at H
    have c10b0 : decide (x9_1 < (t475.length : Int)) = false := decide_eq_false c10
    clear c10
    obtain rfl := Option.some.inj H
    obtain ⟨Ao19, co19, eo19⟩ := Kd.zbf HO_7.out
    subst eo19
    go_wp2
    go_ret
    exact ⟨_, by first | rfl | (simp [zn, zo] <;> rfl) | (simp [*, zn, zo] <;> rfl), by (with_reducible repeat (first | apply Kd.zkc | apply Kd.zjc | apply Kd.zvc)); exact Kd.zye HO_8.out (fun _ hk => hk.1), by apply_rules only [HB.out, ze, zb, zf, fun h => zg h GE474.out]⟩
def zrd.f (l0 : List Int) (a1 : Int) : Option (Bool) := if a1 < 0 then (some false) else (if a1 ≥ (wrap64 (64 * (l0.length : Int))) then (some false) else (if 0 ≤ (wrap64 (Int.tdiv a1 64)) then (if (wrap64 (Int.tdiv a1 64)) < (l0.length : Int) then ((zsd.f (rd l0 (wrap64 (Int.tdiv a1 64))) (Int.tmod a1 64)).bind fun t489 => (some t489)) else (none)) else (none)))
theorem zrd.calls (A0 : Option Addr) (c0 : Nat) (l0 : List Int) (a1 : Int) (r : Bool) (w : World) (hr0 : Kd.C (Kd.int .u64) w A0 l0.length l0) (hc0 : l0.length ≤ c0) (h : zrd.f l0 a1 = some r) :
  Calls Tryz.prog 63 #[.slice A0 l0.length c0, .int .i64 a1] w fun e w' => e = .returned (.bool r) ∧ zz w w' := by
 have HR0 := za.mk hr0
 have HC0 := za.mk hc0
 clear hr0 hc0
 have H : (if a1 < 0 then (some false) else (if a1 ≥ (wrap64 (64 * (l0.length : Int))) then (some false) else (if 0 ≤ (wrap64 (Int.tdiv a1 64)) then (if (wrap64 (Int.tdiv a1 64)) < (l0.length : Int) then ((zsd.f (rd l0 (wrap64 (Int.tdiv a1 64))) (Int.tmod a1 64)).bind fun t489 => (some t489)) else (none)) else (none)))) = some r := h
 clear h
 by_cases c3 : a1 < 0
 ·rw [if_pos c3] at H
  have c3b0 : decide (a1 < 0) = true := decide_eq_true c3
  clear c3
  obtain rfl := Option.some.inj H
  go_enter Tryz.func63, Tryz.ntmps63
  go_wp2
  go_ret
  exact ⟨by first | rfl | (simp; done) | (simp [*]; done), by repeat (first | exact zz.refl _ | apply zz.step)⟩
 ·rw [if_neg c3] at H
  have c3b0 : decide (a1 < 0) = false := decide_eq_false c3
  clear c3
  by_cases c4 : a1 ≥ (wrap64 (64 * (l0.length : Int)))
  ·rw [if_pos c4] at H
   have c4b0 : decide ((wrap64 (64 * (l0.length : Int))) ≤ a1) = true := decide_eq_true c4
   clear c4
   obtain rfl := Option.some.inj H
   go_enter Tryz.func63, Tryz.ntmps63
   go_wp2
   go_ret
   exact ⟨by first | rfl | (simp; done) | (simp [*]; done), by repeat (first | exact zz.refl _ | apply zz.step)⟩
  ·rw [if_neg c4] at H
   have c4b0 : decide ((wrap64 (64 * (l0.length : Int))) ≤ a1) = false := decide_eq_false c4
   clear c4
   obtain ⟨ji5, hji5⟩ : ∃ j_ : Int, (wrap64 (Int.tdiv a1 64)) = j_ := ⟨_, rfl⟩
   replace H : (if 0 ≤ (ji5) then (if (ji5) < (l0.length : Int) then ((zsd.f (rd l0 (ji5)) (Int.tmod a1 64)).bind fun t489 => (some t489)) else (none)) else (none)) = some r := by first | (rw [hji5] at H; exact H) | (simp only [hji5] at H ⊢; exact H)
   have hji5w : (IntKind.i64.wrap (Int.tdiv a1 64)) = ji5 := (i64_w _).trans hji5
   by_cases c6 : 0 ≤ (ji5)
   ·rw [if_pos c6] at H
    have c6b0 : decide (0 ≤ (ji5)) = true := decide_eq_true c6
    clear c6
    by_cases c7 : (ji5) < (l0.length : Int)
    ·rw [if_pos c7] at H
     have c7b0 : decide ((ji5) < (l0.length : Int)) = true := decide_eq_true c7
     clear c7
     replace H := Option.bind_eq_some_iff.mp H
     obtain ⟨t489, A80, H⟩ := H
     replace H : (some t489) = some r := H
     have A8 := za.mk A80
     clear A80
     obtain rfl := Option.some.inj H
     have p488 : 0 ≤ ((ji5) : Int) := of_decide_eq_true (by first | (with_reducible assumption) | assumption)
     have q488 : (ji5) < (l0.length : Int) := of_decide_eq_true (by first | (with_reducible assumption) | assumption)
     obtain ⟨ad488, e488, hx488_0⟩ := Kd.zqe HR0.out (ji5) p488 q488
     cases e488
     replace p488 := eq_true p488
     replace q488 := eq_true q488
     go_enter Tryz.func63, Tryz.ntmps63
     go_wp2_with (first | ((with_reducible refine zaa (f := 87) rfl ?_); refine zmc (some 21) rfl rfl Tryz.func87 (by kernel_rfl) rfl #[.int .u64 (rd l0 (ji5)), .int .i64 (Int.tmod a1 64)] rfl (by (try simp only [List.map_toArray, List.map_cons, List.map_nil]); first | done | (simp only [hji5]; rfl) | rfl | (simp only [List.length_drop, List.length_take]; rfl)) ?_; (with_reducible refine (zsd.calls (rd l0 (ji5)) (Int.tmod a1 64) t489 _ A8.out).mono ?_); rintro e w' ⟨rfl, ⟨nd, rfl⟩⟩; refine ⟨_, rfl, ?_⟩))
     go_ret
     exact ⟨by first | rfl | (simp; done) | (simp only [← hji5] <;> (first | rfl | simp)) | (simp [*]; done), by repeat (first | exact zz.refl _ | apply zz.step)⟩
    ·rw [if_neg c7] at H
     exact absurd H (by simp)
   ·rw [if_neg c6] at H
    exact absurd H (by simp)
def ztb.l0 : Nat → List Int → Int → Option (Int)
 | 0, _, _ => none
 | k + 1, x0, x3 => if x3 < (wrap64 (64 * (x0.length : Int))) then ((zrd.f x0 x3).bind fun t490 => (if t490 = true then (some x3) else (ztb.l0 k x0 (wrap64 (x3 + 1))))) else (some (-1))
def ztb.f (k : Nat) (l0 : List Int) : Option (Int) := ztb.l0 k l0 0
theorem ztb.calls (k : Nat) (A0 : Option Addr) (c0 : Nat) (l0 : List Int) (r : Int) (w : World) (hr0 : Kd.C (Kd.int .u64) w A0 l0.length l0) (hc0 : l0.length ≤ c0) (h : ztb.f k l0 = some r) :
  Calls Tryz.prog 39 #[.slice A0 l0.length c0] w fun e w' => e = .returned (.int .i64 r) ∧ zz w w' := by
 have HR0 := za.mk hr0
 have HC0 := za.mk hc0
 clear hr0 hc0
 have H : (ztb.l0 k l0 0) = some r := h
 clear h
 have H' := za.mk H
 clear H
 go_enter Tryz.func39, Tryz.ntmps39
 go_wp2
 go_loopg [3] k (fun kq v3 w' => ∃ (x3_1 : Int), v3 = .int .i64 x3_1 ∧ za (ztb.l0 kq l0 x3_1 = some r) ∧ za (kq ≤ k) ∧ zz w w')
 case atStart => exact ⟨(0), (by first | rfl | simp [*]), H', ⟨Nat.le_refl _⟩, by repeat (first | exact zz.refl _ | apply zz.step)⟩
 case round =>
  clear H'
  obtain ⟨x3_1, rfl, HA, HK1, ⟨m1, rfl⟩⟩ := hrel
  cases gk with
  | zero => exact absurd HA.out (by simp [ztb.l0])
  | succ k1 =>
   have H := HA.out
   clear HA
   simp only [ztb.l0] at H
   by_cases c2 : x3_1 < (wrap64 (64 * (l0.length : Int)))
   ·rw [if_pos c2] at H
    have c2b0 : decide (x3_1 < (wrap64 (64 * (l0.length : Int)))) = true := decide_eq_true c2
    clear c2
    replace H := Option.bind_eq_some_iff.mp H
    obtain ⟨t490, A30, H⟩ := H
    replace H : (if t490 = true then (some x3_1) else (ztb.l0 k1 l0 (wrap64 (x3_1 + 1)))) = some r := H
    have A3 := za.mk A30
    clear A30
    by_cases c4 : t490 = true
    ·subst c4
     have H1 : (some x3_1) = some r := by rw [if_pos rfl] at H; exact H
     clear H
     have H := H1
     clear H1
     obtain rfl := Option.some.inj H
     go_wp2_with (first | ((with_reducible refine zaa (f := 63) rfl ?_); refine zmc (some 13) rfl rfl Tryz.func63 (by kernel_rfl) rfl #[.slice A0 l0.length c0, .int .i64 x3_1] rfl (by (try simp only [zpa]); first | done | rfl | simp) ?_; (with_reducible refine (zrd.calls _ _ l0 x3_1 true _ ?side1 ?side2 A3.out).mono ?_); (case side1 => apply_rules only [HR0.out, Kd.zod, Kd.zmd, Kd.zme]); (case side2 => exact HC0.out); rintro e w' ⟨rfl, ⟨nd, rfl⟩⟩; refine ⟨_, rfl, ?_⟩))
     go_ret
     exact ⟨by first | rfl | (simp; done) | (simp [*]; done), by repeat (first | exact zz.refl _ | apply zz.step)⟩
    ·replace c4 := Bool.eq_false_iff.mpr c4
     subst c4
     have H1 : (ztb.l0 k1 l0 (wrap64 (x3_1 + 1))) = some r := by rw [if_neg (show ¬ (false = true) by decide)] at H; exact H
     clear H
     have H := H1
     clear H1
     have H' := za.mk H
     clear H
     go_wp2_with (first | ((with_reducible refine zaa (f := 63) rfl ?_); refine zmc (some 13) rfl rfl Tryz.func63 (by kernel_rfl) rfl #[.slice A0 l0.length c0, .int .i64 x3_1] rfl (by (try simp only [zpa]); first | done | rfl | simp) ?_; (with_reducible refine (zrd.calls _ _ l0 x3_1 false _ ?side1 ?side2 A3.out).mono ?_); (case side1 => apply_rules only [HR0.out, Kd.zod, Kd.zmd, Kd.zme]); (case side2 => exact HC0.out); rintro e w' ⟨rfl, ⟨nd, rfl⟩⟩; refine ⟨_, rfl, ?_⟩))
     go_roundg k1
     case measure => have := HK1.out; omega
     case rel => exact ⟨(wrap64 (x3_1 + 1)), (by first | rfl | simp [*]), H', ⟨by have := HK1.out; omega⟩, by repeat (first | exact zz.refl _ | apply zz.step)⟩
   ·rw [if_neg c2] at H
    have c2b0 : decide (x3_1 < (wrap64 (64 * (l0.length : Int)))) = false := decide_eq_false c2
    clear c2
    obtain rfl := Option.some.inj H
    go_wp2
    go_ret
    exact ⟨by first | rfl | (simp; done) | (simp [*]; done), by repeat (first | exact zz.refl _ | apply zz.step)⟩
mutual
def zda.l0 : Nat → List Int → List (List Int) → Int → Option (List Int)
 | 0, _, _, _ => none
 | k + 1, x0, x1, x5 => if x5 < (x1.length : Int) then (if 0 ≤ x5 then ((ztb.f k (rd_L3 x1 x5)).bind fun t492 => ((zrd.f x0 t492).bind fun t493 => (if t493 = true then (zda.l1 k x0 x1 x5 (([] : List Int)) 0) else (zda.l0 k x0 x1 (wrap64 (x5 + 1)))))) else (none)) else (some x0)
def zda.l1 : Nat → List Int → List (List Int) → Int → List Int → Int → Option (List Int)
 | 0, _, _, _, _, _ => none
 | k + 1, x0, x1, x5, x6, x7 => if x7 < (x0.length : Int) then (if 0 ≤ x7 then (if 0 ≤ x5 then (if x5 < (x1.length : Int) then (if x7 < ((rd_L3 x1 x5).length : Int) then (if x6.length < 17592186044416 then (zda.l1 k x0 x1 x5 (x6 ++ [Go.bits .xor .u64 (rd x0 x7) (rd (rd_L3 x1 x5) x7)]) (wrap64 (x7 + 1))) else (none)) else (none)) else (none)) else (none)) else (none)) else (zda.l0 k x6 x1 (wrap64 (x5 + 1)))
end
def zda.f (k : Nat) (l0 : List Int) (l1 : List (List Int)) : Option (List Int) := zda.l0 k l0 l1 0
def zda.T9 : Bool × List (List Nat × List Nat) := (true, [([], []), ([], []), ([], []), ([1, 2], [1, 2]), ([3], [3]), ([], []), ([], []), ([5, 6], [5, 6]), ([7], [7]), ([], []), ([8, 9], [8, 9]), ([10], [10]), ([4, 11], [4, 11]), ([12], [12]), ([0, 13], [0, 13]), ([14, 14, 0, 1, 2, 3, 4, 5, 6, 7, 8, 9, 10, 11, 12, 13, 14], [0, 14])])
def zda.B9 : List Nat := [0, 0, 0, 6, 14, 0, 0, 96, 224, 0, 992, 2016, 4094, 8190, 16383, 32767]
theorem zda.tab9 : rtab .any (opsOf Tryz.f38 9) = zda.T9 := by kernel_rfl
theorem zda.bits9 : waitsOk zda.T9.2 zda.B9 = true := by kernel_rfl
theorem zda.calls (k : Nat) (P0_ : Nat → Prop) (A0 : Option Addr) (c0 : Nat) (l0 : List Int) (A1 : Option Addr) (c1 : Nat) (l1 : List (List Int)) (r : List Int) (w : World) (hs0 : Kd.V (Kd.int .u64) 104 w w.heap.size (fun k_ => P0_ k_) (.slice A0 l0.length c0) l0) (hr1 : Kd.C (Kd.slice 104 (Kd.int .u64)) w A1 l1.length l1) (hc1 : l1.length ≤ c1) (h : zda.f k l0 l1 = some r) :
  Calls Tryz.prog 38 #[.slice A0 l0.length c0, .slice A1 l1.length c1] w fun e w' => ∃ v0_ : Value, e = .returned (v0_) ∧ Kd.V (Kd.int .u64) 104 w' w.heap.size (fun k_ => (P0_ k_ ∨ w.heap.size ≤ k_)) v0_ r ∧ Below w.heap.size w w' := by
 have HO0 := za.mk (show Kd.V (Kd.int .u64) 104 w w.heap.size (fun k_ => (P0_ k_ ∨ w.heap.size ≤ k_)) (.slice A0 l0.length c0) l0 from Kd.V_mono hs0 (fun k_ hk => .inl hk))
 have HR1 := za.mk hr1
 have HC1 := za.mk hc1
 clear hr1 hc1
 have HB := za.mk (Below.refl w.heap.size w)
 have H : (zda.l0 k l0 l1 0) = some r := h
 clear h
 have H' := za.mk H
 clear H
 go_enter Tryz.func38, Tryz.ntmps38
 go_wp2
 go_loopg [0, 5] k (fun kq v0 v5 w' => ∃ (x0_1 : List Int) (x5_1 : Int), v5 = .int .i64 x5_1 ∧ za (zda.l0 kq x0_1 l1 x5_1 = some r) ∧ za (kq ≤ k) ∧ za (Kd.V (Kd.int .u64) 104 w' w.heap.size (fun k_ => (P0_ k_ ∨ w.heap.size ≤ k_)) v0 x0_1) ∧ za (Below w.heap.size w w'))
 case atStart => exact ⟨(l0), (0), (by first | rfl | simp [*]), H', ⟨Nat.le_refl _⟩, ⟨by (with_reducible repeat (first | apply Kd.V_alloc | apply Kd.zaf | apply Kd.V_drew)); exact HO0.out⟩, ⟨by apply_rules only [HB.out, ze, zb, zf]⟩⟩
 case round =>
  clear H'
  obtain ⟨x0_1, x5_1, rfl, HA, HK1, HO_0, HB⟩ := hrel
  cases gk with
  | zero => exact absurd HA.out (by simp [zda.l0])
  | succ k1 =>
   have H := HA.out
   clear HA
   simp only [zda.l0] at H
   by_cases c3 : x5_1 < (l1.length : Int)
   ·rw [if_pos c3] at H
    have c3b0 : decide (x5_1 < (l1.length : Int)) = true := decide_eq_true c3
    clear c3
    by_cases c4 : 0 ≤ x5_1
    ·rw [if_pos c4] at H
     have c4b0 : decide (0 ≤ x5_1) = true := decide_eq_true c4
     clear c4
     replace H := Option.bind_eq_some_iff.mp H
     obtain ⟨t492, A50, H⟩ := H
     replace H : ((zrd.f x0_1 t492).bind fun t493 => (if t493 = true then (zda.l1 k1 x0_1 l1 x5_1 (([] : List Int)) 0) else (zda.l0 k1 x0_1 l1 (wrap64 (x5_1 + 1))))) = some r := H
     have A5 := za.mk A50
     clear A50
     replace H := Option.bind_eq_some_iff.mp H
     obtain ⟨t493, A60, H⟩ := H
     replace H : (if t493 = true then (zda.l1 k1 x0_1 l1 x5_1 (([] : List Int)) 0) else (zda.l0 k1 x0_1 l1 (wrap64 (x5_1 + 1)))) = some r := H
     have A6 := za.mk A60
     clear A60
     by_cases c7 : t493 = true
     ·subst c7
      have H1 : (zda.l1 k1 x0_1 l1 x5_1 (([] : List Int)) 0) = some r := by rw [if_pos rfl] at H; exact H
      clear H
      have H := H1
      clear H1
      obtain ⟨y494, hy494⟩ : ∃ y_ : List Int, y_ = (([] : List Int)) := ⟨_, rfl⟩
      replace H : (zda.l1 k1 x0_1 l1 x5_1 y494 0) = some r := by first | (rw [hy494]; with_reducible exact H) | (have H2_ := (Option.bind_some _ _).symm.trans H; rw [hy494]; with_reducible exact H2_) | (have H2_ := (Option.bind_some _ _).symm.trans H; with_reducible exact H2_) | with_reducible exact H | (rw [hy494]; exact H) | exact H
      have Ny494 := za.mk hy494
      clear hy494
      have H' := za.mk H
      clear H
      have p491 : 0 ≤ (x5_1 : Int) := of_decide_eq_true (by first | (with_reducible assumption) | assumption)
      have q491 : x5_1 < (l1.length : Int) := of_decide_eq_true (by first | (with_reducible assumption) | assumption)
      obtain ⟨ad491, A491_0, c491_0, e491, hx491_0, hl491_0, hi491_0⟩ := at_L3 HR1.out x5_1 p491 q491
      cases e491
      replace hx491_0 := (HB.out.cell (World.block_lt_of_cell? w _ hx491_0)).trans hx491_0
      have HR491_0 := za.mk hi491_0
      have HC491_0 := za.mk hl491_0
      clear hi491_0 hl491_0
      replace p491 := eq_true p491
      replace q491 := eq_true q491
      go_wp2_with (first | ((with_reducible refine zaa (f := 39) rfl ?_); refine zmc (some 19) rfl rfl Tryz.func39 (by kernel_rfl) rfl #[.slice A491_0 (rd_L3 l1 x5_1).length c491_0] rfl (by (try simp only [zpa]); first | done | rfl | simp) ?_; (with_reducible refine (ztb.calls k1 _ _ (rd_L3 l1 x5_1) t492 _ ?side1 ?side2 A5.out).mono ?_); (case side1 => apply_rules only [(Kd.znd HR491_0.out HB.out), Kd.zod, Kd.zmd, Kd.zme]); (case side2 => exact HC491_0.out); rintro e w' ⟨rfl, ⟨nd, rfl⟩⟩; refine ⟨_, rfl, ?_⟩; obtain ⟨Ao8, co8, eo8⟩ := Kd.V_slice HO_0.out; subst eo8) | ((with_reducible refine zaa (f := 63) rfl ?_); refine zmc (some 20) rfl rfl Tryz.func63 (by kernel_rfl) rfl #[.slice Ao8 x0_1.length co8, .int .i64 t492] rfl (by (try simp only [zpa]); first | done | rfl | simp) ?_; (with_reducible refine (zrd.calls _ _ x0_1 t492 true _ ?side1 ?side2 A6.out).mono ?_); (case side1 => apply_rules only [(Kd.znf HO_0.out).2.2, Kd.zod, Kd.zmd, Kd.zme]); (case side2 => exact (Kd.znf HO_0.out).2.1); rintro e w' ⟨rfl, ⟨nd, rfl⟩⟩; refine ⟨_, rfl, ?_⟩) | ((with_reducible refine zza (N := 21) rfl ?_); refine Kd.R_lit (Kd.int .u64) _ 104 ?hg (N := 21) ?hd (xs := ([] : List Int)) (inner := []) (ok := fun _ => True) (okp := fun _ => True) ?hr ?hp (fun _ hk => hk) trivial (Below.refl _ _) (Nat.le_refl _) (by simp) ?_; (case hd => rfl); (case hg => rfl); (case hr => first | (go_simp; done) | (go_simp; rfl)); (case hp => exact (Reps.none _ _)); intro v495 w9 ho10 hb hg_ hnew_; clear hg_ hnew_; (first | rw [← Ny494.out] at ho10 | (simp only [Int.reduceToNat] at ho10; rw [← Ny494.out] at ho10)); have n0_ := za.mk (Kd.V_elder' (by (with_reducible repeat (first | apply Kd.V_alloc | apply Kd.zaf | apply Kd.V_drew)); exact HO_0.out) (Kd.zjf ho10) hb); have n1_ := za.mk (Kd.zcd (Kd.R_newM (M := fun k_ => (w.heap.size ≤ k_)) ho10 (zm (by apply_rules only [HB.out, ze, zb, zf])) (fun k_ h_ => h_)) (zm (by apply_rules only [HB.out, ze, zb, zf]))); have n2_ := za.mk (zk (by apply_rules only [HB.out, ze, zb, zf]) hb); clear HO_0; clear HB; have HO_0 := n0_; have HO496 := n1_; have HB := n2_; clear n0_ n1_ n2_; clear hb ho10))
      go_loopg [6, 7] k1 (fun kq v6 v7 w' => ∃ (x6_2 : List Int) (x7_2 : Int), v7 = .int .i64 x7_2 ∧ za (zda.l1 kq x0_1 l1 x5_1 x6_2 x7_2 = some r) ∧ za (kq ≤ k1) ∧ za (Kd.V (Kd.int .u64) 104 w' w.heap.size (fun k_ => (P0_ k_ ∨ w.heap.size ≤ k_) ∧ some k_ ≠ (v6 : Value).ownBlock) (.slice Ao8 x0_1.length co8) x0_1) ∧ za (Kd.R (Kd.int .u64) 104 w' w.heap.size (fun k_ => (w.heap.size ≤ k_)) v6 x6_2) ∧ za (Below w.heap.size w w'))
      case atStart => exact ⟨(y494), (0), (by first | rfl | simp [*]), H', ⟨Nat.le_refl _⟩, ⟨by (with_reducible repeat (first | apply Kd.V_alloc | apply Kd.zaf | apply Kd.V_drew)); exact HO_0.out⟩, ⟨by (with_reducible repeat (first | apply Kd.zka | apply Kd.zja | apply Kd.zya)); exact Kd.zuc HO496.out (fun _ hk => hk.1)⟩, ⟨by apply_rules only [HB.out, ze, zb, zf]⟩⟩
      case round =>
       clear H'
       obtain ⟨x6_2, x7_2, rfl, HA, HK2, HO_0, HO_6, HB⟩ := hrel
       cases gk with
       | zero => exact absurd HA.out (by simp [zda.l1])
       | succ k2 =>
        have H := HA.out
        clear HA
        simp only [zda.l1] at H
        by_cases c11 : x7_2 < (x0_1.length : Int)
        ·rw [if_pos c11] at H
         have c11b0 : decide (x7_2 < (x0_1.length : Int)) = true := decide_eq_true c11
         clear c11
         by_cases c12 : 0 ≤ x7_2
         ·rw [if_pos c12] at H
          have c12b0 : decide (0 ≤ x7_2) = true := decide_eq_true c12
          clear c12
          by_cases c13 : 0 ≤ x5_1
          ·rw [if_pos c13] at H
           have c13b0 : decide (0 ≤ x5_1) = true := decide_eq_true c13
           clear c13
           by_cases c14 : x5_1 < (l1.length : Int)
           ·rw [if_pos c14] at H
            have c14b0 : decide (x5_1 < (l1.length : Int)) = true := decide_eq_true c14
            clear c14
            by_cases c15 : x7_2 < ((rd_L3 l1 x5_1).length : Int)
            ·rw [if_pos c15] at H
             have c15b0 : decide (x7_2 < ((rd_L3 l1 x5_1).length : Int)) = true := decide_eq_true c15
             clear c15
             by_cases c16 : x6_2.length < 17592186044416
             ·rw [if_pos c16] at H
              have LMc16 := za.mk c16
              clear c16
              obtain ⟨y500, hy500⟩ : ∃ y_ : List Int, y_ = (x6_2 ++ [Go.bits .xor .u64 (rd x0_1 x7_2) (rd (rd_L3 l1 x5_1) x7_2)]) := ⟨_, rfl⟩
              replace H : (zda.l1 k2 x0_1 l1 x5_1 y500 (wrap64 (x7_2 + 1))) = some r := by first | (rw [hy500]; with_reducible exact H) | (have H2_ := (Option.bind_some _ _).symm.trans H; rw [hy500]; with_reducible exact H2_) | (have H2_ := (Option.bind_some _ _).symm.trans H; with_reducible exact H2_) | with_reducible exact H | (rw [hy500]; exact H) | exact H
              have Ny500 := za.mk hy500
              clear hy500
              have H' := za.mk H
              clear H
              try go_wp2
              have n0_ := za.mk (Kd.V_drew HO_0.out)
              have n1_ := za.mk (Kd.zya HO_6.out)
              have n2_ := za.mk (zf HB.out)
              clear HO_0
              clear HO_6
              clear HB
              have HO_0 := n0_
              have HO_6 := n1_
              have HB := n2_
              clear n0_ n1_ n2_
              have p497 : 0 ≤ (x7_2 : Int) := of_decide_eq_true (by first | (with_reducible assumption) | assumption)
              have q497 : x7_2 < (x0_1.length : Int) := of_decide_eq_true (by first | (with_reducible assumption) | assumption)
              obtain ⟨ad497, e497, hx497_0⟩ := Kd.zqe (Kd.znf HO_0.out).2.2 x7_2 p497 q497
              cases e497
              replace p497 := eq_true p497
              replace q497 := eq_true q497
              have p498 : 0 ≤ (x5_1 : Int) := of_decide_eq_true (by first | (with_reducible assumption) | assumption)
              have q498 : x5_1 < (l1.length : Int) := of_decide_eq_true (by first | (with_reducible assumption) | assumption)
              obtain ⟨ad498, A498_0, c498_0, e498, hx498_0, hl498_0, hi498_0⟩ := at_L3 HR1.out x5_1 p498 q498
              have hw498_0 := hx498_0
              obtain rfl : ad491 = ad498 := (by injection e498)
              replace hx498_0 := (HB.out.cell (World.block_lt_of_cell? w _ hx498_0)).trans hx498_0
              have HR498_0 := za.mk hi498_0
              have HC498_0 := za.mk hl498_0
              clear hi498_0 hl498_0
              replace p498 := eq_true p498
              replace q498 := eq_true q498
              have p499 : 0 ≤ (x7_2 : Int) := of_decide_eq_true (by first | (with_reducible assumption) | assumption)
              have q499 : x7_2 < ((rd_L3 l1 x5_1).length : Int) := of_decide_eq_true (by first | (with_reducible assumption) | assumption)
              obtain ⟨ad499, e499, hx499_0⟩ := Kd.zqe HR498_0.out x7_2 p499 q499
              have hw499_0 := hx499_0
              cases e499
              replace hx499_0 := (HB.out.cell (World.block_lt_of_cell? w _ hx499_0)).trans hx499_0
              replace p499 := eq_true p499
              replace q499 := eq_true q499
              refine zsf (n := 16) (S := fun w' => w'.cell? (ad497.add (x7_2).toNat) = some (.int .u64 (rd x0_1 x7_2)) ∧ w'.cell? (ad491.add (x5_1).toNat) = some (.slice (some ad499) (rd_L3 l1 x5_1).length c498_0) ∧ w'.cell? (ad499.add (x7_2).toNat) = some (.int .u64 (rd (rd_L3 l1 x5_1) x7_2))) (ds := [13, 14]) #[false, false, false, false, false, false, false, false, false, false, false, false, false, false, false, false] (by kernel_rfl) rfl rfl ⟨hx497_0, ((HB.out.cell (World.block_lt_of_cell? w _ hw498_0)).trans hw498_0), ((HB.out.cell (World.block_lt_of_cell? w _ hw499_0)).trans hw499_0)⟩ (fun hHeld => ?_); refine zke zda.tab9 zda.bits9 (fun HT_ HW_ => ?_)
              generalize wr.drew = w17 at HO_0 HO_6 HB HR498_0 hx497_0 hx498_0 hx499_0 hHeld ⊢
              refine pure_ (i := 0) (N := some 28) (v := ?_) (a' := ?_) #[true, false, false, false, false, false, false, false, false, false, false, false, false, false, false, false] rfl rfl (zvb HT_.out (by kernel_rfl)) (fun _ _ _ h => h) (Or.inl ⟨by rfl, ?_⟩) ?_ ?_
              rotate_left
              ·intro w'
               go_simp
               with_reducible rfl
              rotate_left
              ·simp only [Act.put, zw]
               rfl
              refine pure_ (i := 1) (N := some 29) (v := ?_) (a' := ?_) #[true, true, false, false, false, false, false, false, false, false, false, false, false, false, false, false] rfl rfl (zvb HT_.out (by kernel_rfl)) (fun _ _ _ h => h) (Or.inl ⟨by rfl, ?_⟩) ?_ ?_
              rotate_left
              ·intro w'
               go_simp
               with_reducible rfl
              rotate_left
              ·simp only [Act.put, zw]
               rfl
              refine pure_ (i := 2) (N := some 30) (v := ?_) (a' := ?_) #[true, true, true, false, false, false, false, false, false, false, false, false, false, false, false, false] rfl rfl (zvb HT_.out (by kernel_rfl)) (fun _ _ _ h => h) (Or.inl ⟨by rfl, ?_⟩) ?_ ?_
              rotate_left
              ·intro w'
               go_simp
               with_reducible rfl
              rotate_left
              ·simp only [Act.put, zw]
               rfl
              refine pure_ (i := 3) (N := some 31) (v := ?_) (a' := ?_) #[true, true, true, true, false, false, false, false, false, false, false, false, false, false, false, false] rfl rfl (zvb HT_.out (by kernel_rfl)) (fun _ _ _ h => h) (Or.inl ⟨by rfl, ?_⟩) ?_ ?_
              rotate_left
              ·intro w'
               go_simp
               with_reducible rfl
              rotate_left
              ·simp only [Act.put, zw]
               rfl
              refine pure_ (i := 5) (N := some 33) (v := ?_) (a' := ?_) #[true, true, true, true, false, true, false, false, false, false, false, false, false, false, false, false] rfl rfl (zvb HT_.out (by kernel_rfl)) (fun _ _ _ h => h) (Or.inl ⟨by rfl, ?_⟩) ?_ ?_
              rotate_left
              ·intro w'
               go_simp
               with_reducible rfl
              rotate_left
              ·simp only [Act.put, zw]
               rfl
              refine pure_ (i := 6) (N := some 34) (v := ?_) (a' := ?_) #[true, true, true, true, false, true, true, false, false, false, false, false, false, false, false, false] rfl rfl (zvb HT_.out (by kernel_rfl)) (fun _ _ _ h => h) (Or.inl ⟨by rfl, ?_⟩) ?_ ?_
              rotate_left
              ·intro w'
               go_simp
               with_reducible rfl
              rotate_left
              ·simp only [Act.put, zw]
               rfl
              refine pure_ (i := 7) (N := some 35) (v := ?_) (a' := ?_) #[true, true, true, true, false, true, true, true, false, false, false, false, false, false, false, false] rfl rfl (zvb HT_.out (by kernel_rfl)) (fun _ _ _ h => h) (Or.inl ⟨by rfl, ?_⟩) ?_ ?_
              rotate_left
              ·intro w'
               go_simp
               with_reducible rfl
              rotate_left
              ·simp only [Act.put, zw]
               rfl
              refine pure_ (i := 9) (N := some 37) (v := ?_) (a' := ?_) #[true, true, true, true, false, true, true, true, false, true, false, false, false, false, false, false] rfl rfl (zvb HT_.out (by kernel_rfl)) (fun _ _ _ h => h) (Or.inl ⟨by rfl, ?_⟩) ?_ ?_
              rotate_left
              ·intro w'
               go_simp
               with_reducible rfl
              rotate_left
              ·simp only [Act.put, zw]
               rfl
              refine take_ (i := 4) (N := some 32) (v := ?_) (a' := ?_) #[true, true, true, true, true, true, true, true, false, true, false, false, false, false, false, false] rfl rfl (zje HT_.out HW_.out (by kernel_rfl)) (fun _ _ _ h => h) (Or.inl ⟨by rfl, ?_⟩) hHeld ?_ ?_
              rotate_left
              ·rintro w' ⟨s0, s1, s2⟩
               go_simp
               with_reducible rfl
              rotate_left
              ·simp only [Act.put, zw]
               rfl
              refine take_ (i := 8) (N := some 36) (v := ?_) (a' := ?_) #[true, true, true, true, true, true, true, true, true, true, false, false, false, false, false, false] rfl rfl (zje HT_.out HW_.out (by kernel_rfl)) (fun _ _ _ h => h) (Or.inl ⟨by rfl, ?_⟩) hHeld ?_ ?_
              rotate_left
              ·rintro w' ⟨s0, s1, s2⟩
               go_simp
               with_reducible rfl
              rotate_left
              ·simp only [Act.put, zw]
               rfl
              refine pure_ (i := 10) (N := some 38) (v := ?_) (a' := ?_) #[true, true, true, true, true, true, true, true, true, true, true, false, false, false, false, false] rfl rfl (zvb HT_.out (by kernel_rfl)) (fun _ _ _ h => h) (Or.inl ⟨by rfl, ?_⟩) ?_ ?_
              rotate_left
              ·intro w'
               go_simp
               with_reducible rfl
              rotate_left
              ·simp only [Act.put, zw]
               rfl
              refine take_ (i := 11) (N := some 39) (v := ?_) (a' := ?_) #[true, true, true, true, true, true, true, true, true, true, true, true, false, false, false, false] rfl rfl (zje HT_.out HW_.out (by kernel_rfl)) (fun _ _ _ h => h) (Or.inl ⟨by rfl, ?_⟩) hHeld ?_ ?_
              rotate_left
              ·rintro w' ⟨s0, s1, s2⟩
               go_simp
               with_reducible rfl
              rotate_left
              ·simp only [Act.put, zw]
               rfl
              refine pure_ (i := 12) (N := some 40) (v := ?_) (a' := ?_) #[true, true, true, true, true, true, true, true, true, true, true, true, true, false, false, false] rfl rfl (zvb HT_.out (by kernel_rfl)) (fun _ _ _ h => h) (Or.inl ⟨by rfl, ?_⟩) ?_ ?_
              rotate_left
              ·intro w'
               go_simp
               with_reducible rfl
              rotate_left
              ·simp only [Act.put, zw]
               rfl
              refine last_ (i := 13) (N := some 41) #[true, true, true, true, true, true, true, true, true, true, true, true, true, true, false, false] rfl rfl (one_of HT_.out (by kernel_rfl)) (by decide) (fun K hK => ?_)
              refine zbd (w1 := ?_) (v := ?_) (by rfl) rfl ?_ ?_
              rotate_left 2
              ·go_simp
               constructor
               ·rfl
               ·rfl
              refine hK.out _ _ ?_
              clear hK K
              refine norm_ (a' := ?_) ?_ ?_
              rotate_left
              ·show Act.put _ (some 41) _ = _
               simp only [Act.put, zw]
               rfl
              refine last_ (i := 14) (N := some 42) #[true, true, true, true, true, true, true, true, true, true, true, true, true, true, true, false] rfl rfl (one_of HT_.out (by kernel_rfl)) (by decide) (fun K hK => ?_)
              refine Kd.R_append_step (Kd.int .u64) (w0 := w) w.heap.size (by rfl) (.tmp 28) (.tmp 41) 71 104 (.int .u64 0) 8 rfl Tryz.underlying71 info104 rfl (by decide) (by omega) u6 x6_2 (Go.bits .xor .u64 (rd x0_1 x7_2) (rd (rd_L3 l1 x5_1) x7_2)) [.int .u64 (Go.bits .xor .u64 (rd x0_1 x7_2) (rd (rd_L3 l1 x5_1) x7_2))] (fun k_ => (w.heap.size ≤ k_)) (fun _ => False) rfl rfl ?aP (fun _ hk => hk.elim) ?aF ?aO ?aB ?aS ?aL ?_
              (case aP => exact rfl)
              (case aB => exact (by apply_rules only [HB.out, ze, zb, zf]))
              (case aF => exact (fun k_ hk => (Nat.le_trans (zm (by apply_rules only [HB.out, ze, zb, zf])) hk)))
              (case aO => exact (by apply_rules only [HO_6.out, Kd.zka, Kd.zja, Kd.zya]))
              (case aS => exact (zm (by apply_rules only [HB.out, ze, zb, zf])))
              (case aL => have := LMc16.out; omega)
              intro v501 w18 ho hb hg hat
              rw [← Ny500.out] at ho
              have n0_ := za.mk (Kd.V_afterv (ok := (fun k_ => (P0_ k_ ∨ w.heap.size ≤ k_))) (by (with_reducible repeat (first | apply Kd.V_alloc | apply Kd.zaf | apply Kd.V_drew)); exact HO_0.out) hg hat)
              have n1_ := za.mk (hb)
              have n2_ := za.mk (ho)
              clear HO_0
              clear HB
              clear HO_6
              have HO_0 := n0_
              have HB := n1_
              have HO502 := n2_
              clear n0_ n1_ n2_
              clear ho hb hg hat
              refine hK.out _ _ ?_
              clear hK K
              refine norm_ (a' := ?_) ?_ ?_
              rotate_left
              ·show Act.put _ (some 42) _ = _
               simp only [Act.put, zw]
               rfl
              refine pure_ (i := 15) (N := some 6) (v := ?_) (a' := ?_) #[true, true, true, true, true, true, true, true, true, true, true, true, true, true, true, true] rfl rfl (zvb HT_.out (by kernel_rfl)) (fun _ _ _ h => h) (Or.inl ⟨by rfl, ?_⟩) ?_ ?_
              rotate_left
              ·intro w'
               go_simp
               with_reducible rfl
              rotate_left
              ·simp only [Act.put, zw]
               rfl
              refine done_ (done_of HT_.out (by kernel_rfl)) ?_
              try go_wp2
              go_roundg k2
              case measure => have := HK1.out; have := HK2.out; omega
              case rel => exact ⟨(y500), (wrap64 (x7_2 + 1)), (by first | rfl | simp [*]), H', ⟨by have := HK1.out; have := HK2.out; omega⟩, ⟨by (with_reducible repeat (first | apply Kd.V_alloc | apply Kd.zaf | apply Kd.V_drew)); exact HO_0.out⟩, ⟨by apply_rules only [HO502.out, Kd.zka, Kd.zja, Kd.zya]⟩, ⟨by apply_rules only [HB.out, ze, zb, zf]⟩⟩
             ·rw [if_neg c16] at H
              exact absurd H (by simp)
            ·rw [if_neg c15] at H
             exact absurd H (by simp)
           ·rw [if_neg c14] at H
            exact absurd H (by simp)
          ·rw [if_neg c13] at H
           exact absurd H (by simp)
         ·rw [if_neg c12] at H
          exact absurd H (by simp)
        ·rw [if_neg c11] at H
         have c11b0 : decide (x7_2 < (x0_1.length : Int)) = false := decide_eq_false c11
         clear c11
         have H' := za.mk H
         clear H
         go_wp2
         go_roundg k2
         case measure => have := HK1.out; have := HK2.out; omega
         case rel => exact ⟨(x6_2), (wrap64 (x5_1 + 1)), (by first | rfl | simp [*]), H', ⟨by have := HK1.out; have := HK2.out; omega⟩, ⟨Kd.V_mono (Kd.R_V (by apply_rules only [HO_6.out, Kd.zka, Kd.zja, Kd.zya])) (fun k_ hk => by first | exact ⟨(.inr (hk.1)), hk.2⟩ | exact (.inr (hk)))⟩, ⟨by apply_rules only [HB.out, ze, zb, zf]⟩⟩
     ·replace c7 := Bool.eq_false_iff.mpr c7
      subst c7
      have H1 : (zda.l0 k1 x0_1 l1 (wrap64 (x5_1 + 1))) = some r := by rw [if_neg (show ¬ (false = true) by decide)] at H; exact H
      clear H
      have H := H1
      clear H1
      have H' := za.mk H
      clear H
      have p491 : 0 ≤ (x5_1 : Int) := of_decide_eq_true (by first | (with_reducible assumption) | assumption)
      have q491 : x5_1 < (l1.length : Int) := of_decide_eq_true (by first | (with_reducible assumption) | assumption)
      obtain ⟨ad491, A491_0, c491_0, e491, hx491_0, hl491_0, hi491_0⟩ := at_L3 HR1.out x5_1 p491 q491
      cases e491
      replace hx491_0 := (HB.out.cell (World.block_lt_of_cell? w _ hx491_0)).trans hx491_0
      have HR491_0 := za.mk hi491_0
      have HC491_0 := za.mk hl491_0
      clear hi491_0 hl491_0
      replace p491 := eq_true p491
      replace q491 := eq_true q491
      go_wp2_with (first | ((with_reducible refine zaa (f := 39) rfl ?_); refine zmc (some 19) rfl rfl Tryz.func39 (by kernel_rfl) rfl #[.slice A491_0 (rd_L3 l1 x5_1).length c491_0] rfl (by (try simp only [zpa]); first | done | rfl | simp) ?_; (with_reducible refine (ztb.calls k1 _ _ (rd_L3 l1 x5_1) t492 _ ?side1 ?side2 A5.out).mono ?_); (case side1 => apply_rules only [(Kd.znd HR491_0.out HB.out), Kd.zod, Kd.zmd, Kd.zme]); (case side2 => exact HC491_0.out); rintro e w' ⟨rfl, ⟨nd, rfl⟩⟩; refine ⟨_, rfl, ?_⟩; obtain ⟨Ao19, co19, eo19⟩ := Kd.V_slice HO_0.out; subst eo19) | ((with_reducible refine zaa (f := 63) rfl ?_); refine zmc (some 20) rfl rfl Tryz.func63 (by kernel_rfl) rfl #[.slice Ao19 x0_1.length co19, .int .i64 t492] rfl (by (try simp only [zpa]); first | done | rfl | simp) ?_; (with_reducible refine (zrd.calls _ _ x0_1 t492 false _ ?side1 ?side2 A6.out).mono ?_); (case side1 => apply_rules only [(Kd.znf HO_0.out).2.2, Kd.zod, Kd.zmd, Kd.zme]); (case side2 => exact (Kd.znf HO_0.out).2.1); rintro e w' ⟨rfl, ⟨nd, rfl⟩⟩; refine ⟨_, rfl, ?_⟩))
      go_roundg k1
      case measure => have := HK1.out; omega
      case rel => exact ⟨(x0_1), (wrap64 (x5_1 + 1)), (by first | rfl | simp [*]), H', ⟨by have := HK1.out; omega⟩, ⟨by (with_reducible repeat (first | apply Kd.V_alloc | apply Kd.zaf | apply Kd.V_drew)); exact HO_0.out⟩, ⟨by apply_rules only [HB.out, ze, zb, zf]⟩⟩
    ·rw [if_neg c4] at H
     exact absurd H (by simp)
   ·rw [if_neg c3] at H
    have c3b0 : decide (x5_1 < (l1.length : Int)) = false := decide_eq_false c3
    clear c3
    obtain rfl := Option.some.inj H
    go_wp2
    go_ret
    exact ⟨_, by first | rfl | (simp [zn, zo] <;> rfl) | (simp [*, zn, zo] <;> rfl), by (with_reducible repeat (first | apply Kd.V_alloc | apply Kd.zaf | apply Kd.V_drew)); exact HO_0.out, by apply_rules only [HB.out, ze, zb, zf]⟩
def zdb.l0 : Nat → List (List Int) → List (List Int) → Int → Option (Int)
 | 0, _, _, _ => none
 | k + 1, x7, x8, x9 => if x9 < (x7.length : Int) then (if 0 ≤ x9 then ((zda.f k (rd_L3 x7 x9) x8).bind fun t511 => ((ztb.f k t511).bind fun t514 => (if t514 ≥ 0 then (if x8.length < 5864062014805 then (zdb.l0 k x7 (x8 ++ [t511]) (wrap64 (x9 + 1))) else (none)) else (zdb.l0 k x7 x8 (wrap64 (x9 + 1)))))) else (none)) else (some (x8.length : Int))
def zdb.f (k : Nat) (a0_0 : Int) (a0_1 : Int) (a0_2 : Int) (a0_3 : Int) (a0_4 : Int) (a1 : Int) (l2 : List Int) : Option (Int) := (zab.f k a0_0 a0_1 a0_2 a0_3 a0_4 a1 l2).bind fun t504 => (zdb.l0 k t504 (([] : List (List Int))) 0)
theorem zdb.calls (k : Nat) (a0_0 : Int) (a0_1 : Int) (a0_2 : Int) (a0_3 : Int) (a0_4 : Int) (a1 : Int) (A2 : Option Addr) (c2 : Nat) (l2 : List Int) (r : Int) (w : World) (hr2 : Kd.C (Kd.int .i64) w A2 l2.length l2) (hc2 : l2.length ≤ c2) (h : zdb.f k a0_0 a0_1 a0_2 a0_3 a0_4 a1 l2 = some r) :
  Calls Tryz.prog 11 #[.agg #[.int .i64 a0_0, .int .i64 a0_1, .int .i64 a0_2, .int .i64 a0_3, .int .i64 a0_4], .int .i64 a1, .slice A2 l2.length c2] w fun e w' => e = .returned (.int .i64 r) ∧ Below w.heap.size w w' := by
 have hu23 := Tryz.underlying23
 have HR2 := za.mk hr2
 have HC2 := za.mk hc2
 clear hr2 hc2
 have HB := za.mk (Below.refl w.heap.size w)
 have H : ((zab.f k a0_0 a0_1 a0_2 a0_3 a0_4 a1 l2).bind fun t504 => (zdb.l0 k t504 (([] : List (List Int))) 0)) = some r := h
 clear h
 replace H := Option.bind_eq_some_iff.mp H
 obtain ⟨t504, A40, H⟩ := H
 replace H : (zdb.l0 k t504 (([] : List (List Int))) 0) = some r := H
 have A4 := za.mk A40
 clear A40
 obtain ⟨y507, hy507⟩ : ∃ y_ : List (List Int), y_ = (([] : List (List Int))) := ⟨_, rfl⟩
 replace H : (zdb.l0 k t504 y507 0) = some r := by first | (rw [hy507]; with_reducible exact H) | (have H2_ := (Option.bind_some _ _).symm.trans H; rw [hy507]; with_reducible exact H2_) | (have H2_ := (Option.bind_some _ _).symm.trans H; with_reducible exact H2_) | with_reducible exact H | (rw [hy507]; exact H) | exact H
 have Ny507 := za.mk hy507
 clear hy507
 have H' := za.mk H
 clear H
 go_enter Tryz.func11, Tryz.ntmps11
 go_wp2_with (first | ((with_reducible refine zza (N := 3) rfl ?_); refine zgc ?hg (N := 3) ?hd (cs := #[.int .i64 a0_0, .int .i64 a0_1, .int .i64 a0_2, .int .i64 a0_3, .int .i64 a0_4]) (t := 23) ?hr ?_; (case hd => rfl); (case hg => rfl); (case hr => first | (go_simp; done) | (go_simp; rfl)); intro gb503 hg w5 hbox hb; have n0_ := za.mk (zk (by apply_rules only [HB.out, ze, zb, zf]) hb); have n1_ := za.mk (hbox); have n2_ := za.mk ((by rw [hg]; exact (zm (by apply_rules only [HB.out, ze, zb, zf])) : w.heap.size ≤ gb503)); have n3_ := za.mk ((by rw [hg]; exact (zm (by apply_rules only [HB.out, ze, zb, zf])) : w.heap.size ≤ gb503)); clear HB; have HB := n0_; have BK503 := n1_; have GW503 := n2_; have GE503 := n3_; clear n0_ n1_ n2_ n3_; clear hb hbox hg; obtain ⟨hcz6_0, hcz6_1, hcz6_2, hcz6_3, hcz6_4⟩ := cells5 BK503.out; obtain ⟨hfz6_0, hfz6_1, hfz6_2, hfz6_3, hfz6_4⟩ := zic BK503.out) | ((with_reducible refine zaa (f := 37) rfl ?_); refine zmc (some 14) rfl rfl Tryz.func37 (by kernel_rfl) rfl #[.agg #[.int .i64 a0_0, .int .i64 a0_1, .int .i64 a0_2, .int .i64 a0_3, .int .i64 a0_4], .int .i64 a1, .slice A2 l2.length c2] rfl (by (try simp only [zpa]); first | done | rfl | simp) ?_; (with_reducible refine (zab.calls k a0_0 a0_1 a0_2 a0_3 a0_4 a1 _ _ l2 t504 _ ?side1 ?side2 A4.out).mono ?_); (case side1 => apply_rules only [(Kd.znd HR2.out HB.out), Kd.zod, Kd.zmd, Kd.zme]); (case side2 => exact HC2.out); rintro e w7 ⟨v505, rfl, ho0, hb⟩; refine ⟨_, rfl, ?_⟩; have n0_ := za.mk (Kd.N_lower (Kd.zye (ok' := fun k_ => k_ ≠ gb503) ho0 (fun k_ hk_ => (Kd.freshB (g := gb503) (o := .cells #[.int .i64 a0_0, .int .i64 a0_1, .int .i64 a0_2, .int .i64 a0_3, .int .i64 a0_4] 23 (0, 0)) (by apply_rules only [BK503.out, zh, zj, zi]) k_ hk_))) (zm (by apply_rules only [HB.out, ze, zb, zf, fun h => zg h GE503.out]))); have n1_ := za.mk (zy (g := gb503) (o := .cells #[.int .i64 a0_0, .int .i64 a0_1, .int .i64 a0_2, .int .i64 a0_3, .int .i64 a0_4] 23 (0, 0)) (by apply_rules only [BK503.out, zh, zj, zi]) hb); have n2_ := za.mk (zk (by apply_rules only [HB.out, ze, zb, zf, fun h => zg h GE503.out]) hb); clear BK503; clear HB; have HO506 := n0_; have BK503 := n1_; have HB := n2_; clear n0_ n1_ n2_; (try clear hb); (try clear hb2); (try clear hk); (try clear hi); (try clear ho0)) | ((with_reducible refine zza (N := 15) rfl ?_); refine Kd.N_lit (Kd.slice 104 (Kd.int .u64)) _ 71 ?hg (N' := 15) ?hd (xs := ([] : List (List Int))) (inner := []) (ok := (fun k_ => some k_ ≠ (v505 : Value).ownBlock ∧ k_ ≠ gb503)) (okp := (fun k_ => some k_ ≠ (v505 : Value).ownBlock ∧ k_ ≠ gb503)) ?hr ?hp (fun _ hk => hk) ((show ∀ k_, w7.heap.size ≤ k_ → (fun k_ => some k_ ≠ (v505 : Value).ownBlock ∧ k_ ≠ gb503) k_ from fun k_ hk => ⟨Kd.fresh' (Kd.N_lt (by apply_rules only [HO506.out, Kd.zkc, Kd.zjc, Kd.zvc])) k_ hk, Kd.freshB (g := gb503) (o := .cells #[.int .i64 a0_0, .int .i64 a0_1, .int .i64 a0_2, .int .i64 a0_3, .int .i64 a0_4] 23 (0, 0)) (by apply_rules only [BK503.out, zh, zj, zi]) k_ hk⟩) _ (Nat.le_refl _)) (Below.refl _ _) (Nat.le_refl _) (by simp) ?_; (case hd => rfl); (case hg => rfl); (case hr => first | (go_simp; done) | (go_simp; rfl)); (case hp => exact (Reps.none _ _)); intro v508 w8 ho9 hb hg_ hnew_; clear hg_ hnew_; (first | rw [← Ny507.out] at ho9 | (simp only [Int.reduceToNat] at ho9; rw [← Ny507.out] at ho9)); have n0_ := za.mk (Kd.zff (by apply_rules only [HO506.out, Kd.zkc, Kd.zjc, Kd.zvc]) (Kd.N_base ho9) hb); have n1_ := za.mk (Kd.N_lower ho9 (zm (by apply_rules only [HB.out, ze, zb, zf, fun h => zg h GE503.out]))); have n2_ := za.mk (zy (g := gb503) (o := .cells #[.int .i64 a0_0, .int .i64 a0_1, .int .i64 a0_2, .int .i64 a0_3, .int .i64 a0_4] 23 (0, 0)) (by apply_rules only [BK503.out, zh, zj, zi]) hb); have n3_ := za.mk (zk (by apply_rules only [HB.out, ze, zb, zf, fun h => zg h GE503.out]) hb); clear HO506; clear BK503; clear HB; have HO506 := n0_; have HO509 := n1_; have BK503 := n2_; have HB := n3_; clear n0_ n1_ n2_ n3_; clear hb ho9))
 go_loopg [8, 9] k (fun kq v8 v9 w' => ∃ (x8_1 : List (List Int)) (x9_1 : Int), v9 = .int .i64 x9_1 ∧ za (zdb.l0 kq t504 x8_1 x9_1 = some r) ∧ za (kq ≤ k) ∧ za (Kd.N (Kd.slice 104 (Kd.int .u64)) 71 w' w.heap.size (fun k_ => some k_ ≠ (v8 : Value).ownBlock ∧ k_ ≠ gb503) v505 t504) ∧ za (Kd.N (Kd.slice 104 (Kd.int .u64)) 71 w' w.heap.size (fun k_ => some k_ ≠ (v505 : Value).ownBlock ∧ k_ ≠ gb503) v8 x8_1) ∧ za (w'.heap[gb503]? = some (.cells #[.int .i64 a0_0, .int .i64 a0_1, .int .i64 a0_2, .int .i64 a0_3, .int .i64 a0_4] 23 (0, 0))) ∧ za (Below w.heap.size w w'))
 case atStart => exact ⟨(y507), (0), (by first | rfl | simp [*]), H', ⟨Nat.le_refl _⟩, ⟨by (with_reducible repeat (first | apply Kd.zkc | apply Kd.zjc | apply Kd.zvc)); exact Kd.zye HO506.out (fun _ hk => ⟨hk.2, hk.1⟩)⟩, ⟨by apply_rules only [HO509.out, Kd.zkc, Kd.zjc, Kd.zvc]⟩, ⟨by apply_rules only [BK503.out, zh, zj, zi]⟩, ⟨by apply_rules only [HB.out, ze, zb, zf, fun h => zg h GE503.out]⟩⟩
 case round =>
  clear H'
  obtain ⟨x8_1, x9_1, rfl, HA, HK1, HO_7, HO_8, BK503, HB⟩ := hrel
  cases gk with
  | zero => exact absurd HA.out (by simp [zdb.l0])
  | succ k1 =>
   have H := HA.out
   clear HA
   simp only [zdb.l0] at H
   by_cases c10 : x9_1 < (t504.length : Int)
   ·rw [if_pos c10] at H
    have c10b0 : decide (x9_1 < (t504.length : Int)) = true := decide_eq_true c10
    clear c10
    by_cases c11 : 0 ≤ x9_1
    ·rw [if_pos c11] at H
     have c11b0 : decide (0 ≤ x9_1) = true := decide_eq_true c11
     clear c11
     replace H := Option.bind_eq_some_iff.mp H
     obtain ⟨t511, A120, H⟩ := H
     replace H : ((ztb.f k1 t511).bind fun t514 => (if t514 ≥ 0 then (if x8_1.length < 5864062014805 then (zdb.l0 k1 t504 (x8_1 ++ [t511]) (wrap64 (x9_1 + 1))) else (none)) else (zdb.l0 k1 t504 x8_1 (wrap64 (x9_1 + 1))))) = some r := H
     have A12 := za.mk A120
     clear A120
     replace H := Option.bind_eq_some_iff.mp H
     obtain ⟨t514, A130, H⟩ := H
     replace H : (if t514 ≥ 0 then (if x8_1.length < 5864062014805 then (zdb.l0 k1 t504 (x8_1 ++ [t511]) (wrap64 (x9_1 + 1))) else (none)) else (zdb.l0 k1 t504 x8_1 (wrap64 (x9_1 + 1)))) = some r := H
     have A13 := za.mk A130
     clear A130
     by_cases c14 : t514 ≥ 0
     ·rw [if_pos c14] at H
      have c14b0 : decide (0 ≤ t514) = true := decide_eq_true c14
      clear c14
      by_cases c15 : x8_1.length < 5864062014805
      ·rw [if_pos c15] at H
       have LMc15 := za.mk c15
       clear c15
       obtain ⟨y515, hy515⟩ : ∃ y_ : List (List Int), y_ = (x8_1 ++ [t511]) := ⟨_, rfl⟩
       replace H : (zdb.l0 k1 t504 y515 (wrap64 (x9_1 + 1))) = some r := by first | (rw [hy515]; with_reducible exact H) | (have H2_ := (Option.bind_some _ _).symm.trans H; rw [hy515]; with_reducible exact H2_) | (have H2_ := (Option.bind_some _ _).symm.trans H; with_reducible exact H2_) | with_reducible exact H | (rw [hy515]; exact H) | exact H
       have Ny515 := za.mk hy515
       clear hy515
       have H' := za.mk H
       clear H
       obtain ⟨Ao16, co16, eo16⟩ := Kd.zbf HO_7.out
       subst eo16
       have p510 : 0 ≤ (x9_1 : Int) := of_decide_eq_true (by first | (with_reducible assumption) | assumption)
       have q510 : x9_1 < (t504.length : Int) := of_decide_eq_true (by first | (with_reducible assumption) | assumption)
       obtain ⟨ad510, A510_0, c510_0, e510, hx510_0, hl510_0, hi510_0⟩ := at_L3 (Kd.zzd HO_7.out).2.2 x9_1 p510 q510
       cases e510
       obtain ⟨ce510, hce510, hMe510, hcc510⟩ := Kd.N_get HO_7.out [] x9_1 p510 (by first | exact q510 | exact of_decide_eq_true (by first | (with_reducible assumption) | assumption) | (have e_ := (Kd.zzd HO_7.out).1; omega))
       obtain ⟨ua510_0, uc510_0, rfl, ul510_0, ge510_0⟩ := Kd.zpf hMe510
       have hv510_0 := hcc510 0 _ rfl
       rw [Nat.add_zero, show ((Kd.slice 104 (Kd.int .u64))).sz = 1 from rfl, Nat.mul_one] at hv510_0
       replace hv510_0 := Option.some.inj (hv510_0.symm.trans hx510_0)
       injection hv510_0 with hva_ hvn_ hvc_
       rw [hva_] at ge510_0
       rw [hvc_] at ul510_0
       have HL510_0 := za.mk (show Kd.V (Kd.int .u64) 104 _ w.heap.size _ _ (rd_L3 t504 x9_1) from Kd.V_mk ul510_0 ge510_0)
       clear hva_ hvn_ hvc_ ge510_0 ul510_0
       clear hcc510 hce510
       have HR510_0 := za.mk hi510_0
       have HC510_0 := za.mk hl510_0
       clear hi510_0 hl510_0
       replace p510 := eq_true p510
       replace q510 := eq_true q510
       obtain ⟨Ao17, co17, eo17⟩ := Kd.zbf HO_8.out
       subst eo17
       go_wp2_with (first | ((with_reducible refine zaa (f := 38) rfl ?_); refine zmc (some 27) rfl rfl Tryz.func38 (by kernel_rfl) rfl #[.slice A510_0 (rd_L3 t504 x9_1).length c510_0, .slice Ao17 x8_1.length co17] rfl (by (try simp only [zpa]); first | done | rfl | simp) ?_; (with_reducible refine (zda.calls k1 (fun k_ => ((some k_ ≠ (.slice Ao17 x8_1.length co17 : Value).ownBlock ∧ k_ ≠ gb503) ∧ some k_ ≠ (.slice (some ad510) t504.length co16 : Value).ownBlock)) _ _ (rd_L3 t504 x9_1) _ _ x8_1 t511 _ ?side1 ?side2 ?side3 A12.out).mono ?_); (case side1 => exact HL510_0.out); (case side2 => apply_rules only [(Kd.zzd HO_8.out).2.2, Kd.zod, Kd.zmd, Kd.zme]); (case side3 => exact (Kd.zzd HO_8.out).2.1); rintro e w18 ⟨v512, rfl, ho0, hb⟩; refine ⟨_, rfl, ?_⟩; have n0_ := za.mk (Kd.N_below (by apply_rules only [HO_7.out, Kd.zkc, Kd.zjc, Kd.zvc]) hb); have n1_ := za.mk (Kd.N_below (by apply_rules only [HO_8.out, Kd.zkc, Kd.zjc, Kd.zvc]) hb); have n2_ := za.mk (Kd.V_below (by (with_reducible repeat (first | apply Kd.V_alloc | apply Kd.zaf | apply Kd.V_drew)); exact HL510_0.out) hb); have n3_ := za.mk (Kd.V_lower (Kd.V_mono (ok' := fun k_ => some k_ ≠ (.slice (some ad510) t504.length co16 : Value).ownBlock ∧ some k_ ≠ (.slice Ao17 x8_1.length co17 : Value).ownBlock ∧ k_ ≠ gb503) ho0 (fun k_ hk_ => ⟨Or.elim hk_ (fun hs_ => hs_.2) (fun hn_ => (Kd.fresh' (Kd.N_lt (by apply_rules only [HO_7.out, Kd.zkc, Kd.zjc, Kd.zvc])) k_ hn_)), Or.elim hk_ (fun hs_ => hs_.1.1) (fun hn_ => (Kd.fresh' (Kd.N_lt (by apply_rules only [HO_8.out, Kd.zkc, Kd.zjc, Kd.zvc])) k_ hn_)), Or.elim hk_ (fun hs_ => hs_.1.2) (fun hn_ => (Kd.freshB (g := gb503) (o := .cells #[.int .i64 a0_0, .int .i64 a0_1, .int .i64 a0_2, .int .i64 a0_3, .int .i64 a0_4] 23 (0, 0)) (by apply_rules only [BK503.out, zh, zj, zi]) k_ hn_))⟩)) (zm (by apply_rules only [HB.out, ze, zb, zf, fun h => zg h GE503.out]))); have n4_ := za.mk (zy (g := gb503) (o := .cells #[.int .i64 a0_0, .int .i64 a0_1, .int .i64 a0_2, .int .i64 a0_3, .int .i64 a0_4] 23 (0, 0)) (by apply_rules only [BK503.out, zh, zj, zi]) hb); have n5_ := za.mk (Kd.znd (by apply_rules only [HR510_0.out, Kd.zod, Kd.zmd, Kd.zme]) hb); have n6_ := za.mk (zk (by apply_rules only [HB.out, ze, zb, zf, fun h => zg h GE503.out]) hb); clear HO_7; clear HO_8; clear HL510_0; clear BK503; clear HR510_0; clear HB; have HO_7 := n0_; have HO_8 := n1_; have HL510_0 := n2_; have HO513 := n3_; have BK503 := n4_; have HR510_0 := n5_; have HB := n6_; clear n0_ n1_ n2_ n3_ n4_ n5_ n6_; (try clear hb); (try clear hb2); (try clear hk); (try clear hi); (try clear ho0); obtain ⟨Ao19, co19, eo19⟩ := Kd.V_slice HO513.out; subst eo19) | ((with_reducible refine zaa (f := 39) rfl ?_); refine zmc (some 29) rfl rfl Tryz.func39 (by kernel_rfl) rfl #[.slice Ao19 t511.length co19] rfl (by (try simp only [zpa]); first | done | rfl | simp) ?_; (with_reducible refine (ztb.calls k1 _ _ t511 t514 _ ?side1 ?side2 A13.out).mono ?_); (case side1 => apply_rules only [(Kd.znf HO513.out).2.2, Kd.zod, Kd.zmd, Kd.zme]); (case side2 => exact (Kd.znf HO513.out).2.1); rintro e w' ⟨rfl, ⟨nd, rfl⟩⟩; refine ⟨_, rfl, ?_⟩) | ((with_reducible refine zdd (b := .append) (xs := #[.tmp 31, .tmp 33]) rfl ?_); at_builtin; refine Kd.N_append (Kd.slice 104 (Kd.int .u64)) (w0 := w) w.heap.size rfl (.tmp 31) (.tmp 33) 69 71 (.slice none 0 0) 24 rfl Tryz.underlying69 info71 rfl (by decide) (by omega) (.slice Ao17 x8_1.length co17) x8_1 t511 [.slice Ao19 t511.length co19] (fun k_ => some k_ ≠ (.slice (some ad510) t504.length co16 : Value).ownBlock ∧ k_ ≠ gb503) (fun k_ => ((fun k_ => some k_ ≠ (.slice (some ad510) t504.length co16 : Value).ownBlock ∧ k_ ≠ gb503)) k_ ∧ some k_ ≠ (.slice Ao17 x8_1.length co17 : Value).ownBlock) rfl rfl ?aP (fun _ hk => hk) ?aF ?aO ?aB ?aS ?aL ?_; (case aP => exact (Kd.FK_slice_mk (Kd.znf (Kd.V_mono (ok' := (fun k_ => ((fun k_ => some k_ ≠ (.slice (some ad510) t504.length co16 : Value).ownBlock ∧ k_ ≠ gb503)) k_ ∧ some k_ ≠ (.slice Ao17 x8_1.length co17 : Value).ownBlock)) (HO513.out) (fun k_ hk => ⟨⟨hk.1, hk.2.2⟩, hk.2.1⟩))).2.1 (Kd.V_F (Kd.V_mono (ok' := (fun k_ => ((fun k_ => some k_ ≠ (.slice (some ad510) t504.length co16 : Value).ownBlock ∧ k_ ≠ gb503)) k_ ∧ some k_ ≠ (.slice Ao17 x8_1.length co17 : Value).ownBlock)) (Kd.zaf HO513.out _) (fun k_ hk => ⟨⟨hk.1, hk.2.2⟩, hk.2.1⟩))))); (case aB => exact (by apply_rules only [HB.out, ze, zb, zf, fun h => zg h GE503.out])); (case aF => exact (fun k_ hk => ⟨Kd.fresh' (Kd.N_lt (by apply_rules only [HO_7.out, Kd.zkc, Kd.zjc, Kd.zvc])) k_ hk, Kd.freshB (g := gb503) (o := .cells #[.int .i64 a0_0, .int .i64 a0_1, .int .i64 a0_2, .int .i64 a0_3, .int .i64 a0_4] 23 (0, 0)) (by apply_rules only [BK503.out, zh, zj, zi]) k_ hk⟩)); (case aO => exact (by apply_rules only [HO_8.out, Kd.zkc, Kd.zjc, Kd.zvc])); (case aS => exact (zm (by apply_rules only [HB.out, ze, zb, zf, fun h => zg h GE503.out]))); (case aL => have := LMc15.out; omega); intro v516 w20 ho hb hg hat; rw [← Ny515.out] at ho; have n0_ := za.mk (Kd.N_afterv (ok := (fun k_ => k_ ≠ gb503)) (by (with_reducible repeat (first | apply Kd.zkc | apply Kd.zjc | apply Kd.zvc)); exact Kd.zye HO_7.out (fun _ hk => ⟨hk.2, hk.1⟩)) hg hat); have n1_ := za.mk (zwc (g := gb503) (o := .cells #[.int .i64 a0_0, .int .i64 a0_1, .int .i64 a0_2, .int .i64 a0_3, .int .i64 a0_4] 23 (0, 0)) (by apply_rules only [BK503.out, zh, zj, zi]) hg (Kd.N_ne HO_8.out BK503.out (by decide))); have n2_ := za.mk (Kd.V_afterv (ok := (fun k_ => some k_ ≠ (.slice (some ad510) t504.length co16 : Value).ownBlock ∧ k_ ≠ gb503)) (by (with_reducible repeat (first | apply Kd.V_alloc | apply Kd.zaf | apply Kd.V_drew)); exact Kd.V_mono HL510_0.out (fun _ hk => ⟨⟨hk.2, hk.1.2⟩, hk.1.1⟩)) hg hat); have n3_ := za.mk (Kd.V_afterv (ok := (fun k_ => some k_ ≠ (.slice (some ad510) t504.length co16 : Value).ownBlock ∧ k_ ≠ gb503)) (by (with_reducible repeat (first | apply Kd.V_alloc | apply Kd.zaf | apply Kd.V_drew)); exact Kd.V_mono HO513.out (fun _ hk => ⟨⟨hk.1, hk.2.2⟩, hk.2.1⟩)) hg hat); have n4_ := za.mk (hb); have n5_ := za.mk (ho); clear HO_7; clear BK503; clear HL510_0; clear HO513; clear HB; clear HO_8; have HO_7 := n0_; have BK503 := n1_; have HL510_0 := n2_; have HO513 := n3_; have HB := n4_; have HO517 := n5_; clear n0_ n1_ n2_ n3_ n4_ n5_; clear ho hb hg hat))
       go_roundg k1
       case measure => have := HK1.out; omega
       case rel => exact ⟨(y515), (wrap64 (x9_1 + 1)), (by first | rfl | simp [*]), H', ⟨by have := HK1.out; omega⟩, ⟨by (with_reducible repeat (first | apply Kd.zkc | apply Kd.zjc | apply Kd.zvc)); exact Kd.zye HO_7.out (fun _ hk => ⟨hk.2, hk.1⟩)⟩, ⟨by apply_rules only [HO517.out, Kd.zkc, Kd.zjc, Kd.zvc]⟩, ⟨by apply_rules only [BK503.out, zh, zj, zi]⟩, ⟨by apply_rules only [HB.out, ze, zb, zf, fun h => zg h GE503.out]⟩⟩
      ·rw [if_neg c15] at H
       exact absurd H (by simp)
     ·rw [if_neg c14] at H
      have c14b0 : decide (0 ≤ t514) = false := decide_eq_false c14
      clear c14
      have H' := za.mk H
      clear H
      obtain ⟨Ao21, co21, eo21⟩ := Kd.zbf HO_7.out
      subst eo21
      have p510 : 0 ≤ (x9_1 : Int) := of_decide_eq_true (by first | (with_reducible assumption) | assumption)
      have q510 : x9_1 < (t504.length : Int) := of_decide_eq_true (by first | (with_reducible assumption) | assumption)
      obtain ⟨ad510, A510_0, c510_0, e510, hx510_0, hl510_0, hi510_0⟩ := at_L3 (Kd.zzd HO_7.out).2.2 x9_1 p510 q510
      cases e510
      obtain ⟨ce510, hce510, hMe510, hcc510⟩ := Kd.N_get HO_7.out [] x9_1 p510 (by first | exact q510 | exact of_decide_eq_true (by first | (with_reducible assumption) | assumption) | (have e_ := (Kd.zzd HO_7.out).1; omega))
      obtain ⟨ua510_0, uc510_0, rfl, ul510_0, ge510_0⟩ := Kd.zpf hMe510
      have hv510_0 := hcc510 0 _ rfl
      rw [Nat.add_zero, show ((Kd.slice 104 (Kd.int .u64))).sz = 1 from rfl, Nat.mul_one] at hv510_0
      replace hv510_0 := Option.some.inj (hv510_0.symm.trans hx510_0)
      injection hv510_0 with hva_ hvn_ hvc_
      rw [hva_] at ge510_0
      rw [hvc_] at ul510_0
      have HL510_0 := za.mk (show Kd.V (Kd.int .u64) 104 _ w.heap.size _ _ (rd_L3 t504 x9_1) from Kd.V_mk ul510_0 ge510_0)
      clear hva_ hvn_ hvc_ ge510_0 ul510_0
      clear hcc510 hce510
      have HR510_0 := za.mk hi510_0
      have HC510_0 := za.mk hl510_0
      clear hi510_0 hl510_0
      replace p510 := eq_true p510
      replace q510 := eq_true q510
      obtain ⟨Ao22, co22, eo22⟩ := Kd.zbf HO_8.out
      subst eo22
      go_wp2_with (first | ((with_reducible refine zaa (f := 38) rfl ?_); refine zmc (some 27) rfl rfl Tryz.func38 (by kernel_rfl) rfl #[.slice A510_0 (rd_L3 t504 x9_1).length c510_0, .slice Ao22 x8_1.length co22] rfl (by (try simp only [zpa]); first | done | rfl | simp) ?_; (with_reducible refine (zda.calls k1 (fun k_ => ((some k_ ≠ (.slice Ao22 x8_1.length co22 : Value).ownBlock ∧ k_ ≠ gb503) ∧ some k_ ≠ (.slice (some ad510) t504.length co21 : Value).ownBlock)) _ _ (rd_L3 t504 x9_1) _ _ x8_1 t511 _ ?side1 ?side2 ?side3 A12.out).mono ?_); (case side1 => exact HL510_0.out); (case side2 => apply_rules only [(Kd.zzd HO_8.out).2.2, Kd.zod, Kd.zmd, Kd.zme]); (case side3 => exact (Kd.zzd HO_8.out).2.1); rintro e w23 ⟨v512, rfl, ho0, hb⟩; refine ⟨_, rfl, ?_⟩; have n0_ := za.mk (Kd.N_below (by apply_rules only [HO_7.out, Kd.zkc, Kd.zjc, Kd.zvc]) hb); have n1_ := za.mk (Kd.N_below (by apply_rules only [HO_8.out, Kd.zkc, Kd.zjc, Kd.zvc]) hb); have n2_ := za.mk (Kd.V_below (by (with_reducible repeat (first | apply Kd.V_alloc | apply Kd.zaf | apply Kd.V_drew)); exact HL510_0.out) hb); have n3_ := za.mk (Kd.V_lower (Kd.V_mono (ok' := fun k_ => some k_ ≠ (.slice (some ad510) t504.length co21 : Value).ownBlock ∧ some k_ ≠ (.slice Ao22 x8_1.length co22 : Value).ownBlock ∧ k_ ≠ gb503) ho0 (fun k_ hk_ => ⟨Or.elim hk_ (fun hs_ => hs_.2) (fun hn_ => (Kd.fresh' (Kd.N_lt (by apply_rules only [HO_7.out, Kd.zkc, Kd.zjc, Kd.zvc])) k_ hn_)), Or.elim hk_ (fun hs_ => hs_.1.1) (fun hn_ => (Kd.fresh' (Kd.N_lt (by apply_rules only [HO_8.out, Kd.zkc, Kd.zjc, Kd.zvc])) k_ hn_)), Or.elim hk_ (fun hs_ => hs_.1.2) (fun hn_ => (Kd.freshB (g := gb503) (o := .cells #[.int .i64 a0_0, .int .i64 a0_1, .int .i64 a0_2, .int .i64 a0_3, .int .i64 a0_4] 23 (0, 0)) (by apply_rules only [BK503.out, zh, zj, zi]) k_ hn_))⟩)) (zm (by apply_rules only [HB.out, ze, zb, zf, fun h => zg h GE503.out]))); have n4_ := za.mk (zy (g := gb503) (o := .cells #[.int .i64 a0_0, .int .i64 a0_1, .int .i64 a0_2, .int .i64 a0_3, .int .i64 a0_4] 23 (0, 0)) (by apply_rules only [BK503.out, zh, zj, zi]) hb); have n5_ := za.mk (Kd.znd (by apply_rules only [HR510_0.out, Kd.zod, Kd.zmd, Kd.zme]) hb); have n6_ := za.mk (zk (by apply_rules only [HB.out, ze, zb, zf, fun h => zg h GE503.out]) hb); clear HO_7; clear HO_8; clear HL510_0; clear BK503; clear HR510_0; clear HB; have HO_7 := n0_; have HO_8 := n1_; have HL510_0 := n2_; have HO513 := n3_; have BK503 := n4_; have HR510_0 := n5_; have HB := n6_; clear n0_ n1_ n2_ n3_ n4_ n5_ n6_; (try clear hb); (try clear hb2); (try clear hk); (try clear hi); (try clear ho0); obtain ⟨Ao24, co24, eo24⟩ := Kd.V_slice HO513.out; subst eo24) | ((with_reducible refine zaa (f := 39) rfl ?_); refine zmc (some 29) rfl rfl Tryz.func39 (by kernel_rfl) rfl #[.slice Ao24 t511.length co24] rfl (by (try simp only [zpa]); first | done | rfl | simp) ?_; (with_reducible refine (ztb.calls k1 _ _ t511 t514 _ ?side1 ?side2 A13.out).mono ?_); (case side1 => apply_rules only [(Kd.znf HO513.out).2.2, Kd.zod, Kd.zmd, Kd.zme]); (case side2 => exact (Kd.znf HO513.out).2.1); rintro e w' ⟨rfl, ⟨nd, rfl⟩⟩; refine ⟨_, rfl, ?_⟩))
      go_roundg k1
      case measure => have := HK1.out; omega
      case rel => exact ⟨(x8_1), (wrap64 (x9_1 + 1)), (by first | rfl | simp [*]), H', ⟨by have := HK1.out; omega⟩, ⟨by apply_rules only [HO_7.out, Kd.zkc, Kd.zjc, Kd.zvc]⟩, ⟨by apply_rules only [HO_8.out, Kd.zkc, Kd.zjc, Kd.zvc]⟩, ⟨by apply_rules only [BK503.out, zh, zj, zi]⟩, ⟨by apply_rules only [HB.out, ze, zb, zf, fun h => zg h GE503.out]⟩⟩
    ·rw [if_neg c11] at H
     exact absurd H (by simp)
   ·rw [if_neg c10] at H
    have c10b0 : decide (x9_1 < (t504.length : Int)) = false := decide_eq_false c10
    clear c10
    obtain rfl := Option.some.inj H
    obtain ⟨Ao25, co25, eo25⟩ := Kd.zbf HO_7.out
    subst eo25
    obtain ⟨Ao26, co26, eo26⟩ := Kd.zbf HO_8.out
    subst eo26
    go_wp2
    go_ret
    exact ⟨by first | rfl | (simp [zn, zo] <;> rfl) | (simp [*, zn, zo] <;> rfl), by apply_rules only [HB.out, ze, zb, zf, fun h => zg h GE503.out]⟩
def zt.j0 : Nat → Int → Bool → Int → Int → Int → Int → Int → Option (Bool)
 | 0, _, _, _, _, _, _, _ => none
 | k + 1, x4, x27, x612000, x612001, x612002, x612003, x612004 => if x27 = true then (some false) else ((zrb.f k x612000).bind fun t615 => ((zdb.f k x612000 x612001 x612002 x612003 x612004 x4 t615).bind fun t618 => (if t618 = x612003 then ((ztd.f k).bind fun t619 => (some t619)) else (some false))))
def zt.f (k : Nat) (a0 : Int) : Option (Bool) := (zkb.f k (wrap64 (1 + (wrap64 (Int.tmod (IntKind.u64.wrap (a0)) 128))))).bind fun bt606 => ((zhc.f k bt606.1).bind fun bt612 => (if bt612.2.isNone = true then (if bt612.1 < 0 then (zt.j0 k bt612.1 true bt606.1 bt606.2.1 bt606.2.2.1 bt606.2.2.2.1 bt606.2.2.2.2) else (zt.j0 k bt612.1 (decide (bt612.1 > 65535)) bt606.1 bt606.2.1 bt606.2.2.1 bt606.2.2.2.1 bt606.2.2.2.2)) else (zt.j0 k bt612.1 true bt606.1 bt606.2.1 bt606.2.2.1 bt606.2.2.2.1 bt606.2.2.2.2)))
def zt.T5 : Bool × List (List Nat × List Nat) := (true, [([], []), ([], []), ([], []), ([2], [2]), ([3], [3]), ([0, 1, 4, 4], [0, 1, 4]), ([], []), ([6], [6]), ([5, 7], [5, 7]), ([8, 5], [8]), ([9, 9], [9]), ([9, 10], [9, 10]), ([11, 10, 0, 1, 2, 3, 4, 5, 6, 7, 8, 9, 10, 11], [11])])
def zt.B5 : List Nat := [0, 0, 0, 4, 12, 31, 0, 64, 255, 511, 1023, 2047, 4095]
theorem zt.tab5 : rtab .any (opsOf Tryz.f3 5) = zt.T5 := by kernel_rfl
theorem zt.bits5 : waitsOk zt.T5.2 zt.B5 = true := by kernel_rfl
theorem zt.calls (k : Nat) (a0 : Int) (r : Bool) (w : World) (h : zt.f k a0 = some r) (hr_ : r = true) (hT : Tab w) :
  Calls Tryz.prog 3 #[.int .i64 a0] w fun e w' => e = .returned (.bool r) ∧ Below w.heap.size w w' := by
 have HR_ := za.mk hr_
 clear hr_
 have HT := za.mk hT
 clear hT
 have hu23 := Tryz.underlying23
 have hu27 := Tryz.underlying27
 have HB := za.mk (Below.refl w.heap.size w)
 have H : ((zkb.f k (wrap64 (1 + (wrap64 (Int.tmod (IntKind.u64.wrap (a0)) 128))))).bind fun bt606 => ((zhc.f k bt606.1).bind fun bt612 => (if bt612.2.isNone = true then (if bt612.1 < 0 then (zt.j0 k bt612.1 true bt606.1 bt606.2.1 bt606.2.2.1 bt606.2.2.2.1 bt606.2.2.2.2) else (zt.j0 k bt612.1 (decide (bt612.1 > 65535)) bt606.1 bt606.2.1 bt606.2.2.1 bt606.2.2.2.1 bt606.2.2.2.2)) else (zt.j0 k bt612.1 true bt606.1 bt606.2.1 bt606.2.2.1 bt606.2.2.2.1 bt606.2.2.2.2)))) = some r := h
 clear h
 replace H := Option.bind_eq_some_iff.mp H
 obtain ⟨⟨t606, t607, t608, t609, t610⟩, A20, H⟩ := H
 replace H : ((zhc.f k t606).bind fun bt612 => (if bt612.2.isNone = true then (if bt612.1 < 0 then (zt.j0 k bt612.1 true t606 t607 t608 t609 t610) else (zt.j0 k bt612.1 (decide (bt612.1 > 65535)) t606 t607 t608 t609 t610)) else (zt.j0 k bt612.1 true t606 t607 t608 t609 t610))) = some r := H
 have A2 := za.mk A20
 clear A20
 replace H := Option.bind_eq_some_iff.mp H
 obtain ⟨⟨t612, t613⟩, A30, H⟩ := H
 replace H : (if t613.isNone = true then (if t612 < 0 then (zt.j0 k t612 true t606 t607 t608 t609 t610) else (zt.j0 k t612 (decide (t612 > 65535)) t606 t607 t608 t609 t610)) else (zt.j0 k t612 true t606 t607 t608 t609 t610)) = some r := H
 have A3 := za.mk A30
 clear A30
 have HC4 := za.mk H
 clear H
 go_enter Tryz.func3, Tryz.ntmps3
 go_upto_region 3 with (first | ((with_reducible refine zaa (f := 9) rfl ?_); refine zmc (some 11) rfl rfl Tryz.func9 (by kernel_rfl) rfl #[.int .i64 (wrap64 (1 + (wrap64 (Int.tmod (IntKind.u64.wrap (a0)) 128))))] rfl (by (try simp only [zpa]); first | done | rfl | simp) ?_; (with_reducible refine (zkb.calls k (wrap64 (1 + (wrap64 (Int.tmod (IntKind.u64.wrap (a0)) 128)))) t606 t607 t608 t609 t610 _ A2.out).mono ?_); rintro e w5 ⟨rfl, hb⟩; refine ⟨_, rfl, ?_⟩; have n0_ := za.mk (zk (by apply_rules only [HB.out, ze, zb, zf]) hb); clear HB; have HB := n0_; clear n0_; (try clear hb); (try clear hb2); (try clear hk); (try clear hi)) | ((with_reducible refine zza (N := 3) rfl ?_); refine zgc ?hg (N := 3) ?hd (cs := #[.int .i64 0, .int .i64 0, .int .i64 0, .int .i64 0, .int .i64 0]) (t := 23) ?hr ?_; (case hd => rfl); (case hg => rfl); (case hr => first | (go_simp; done) | (go_simp; rfl)); intro gb611 hg w6 hbox hb; have n0_ := za.mk (zk (by apply_rules only [HB.out, ze, zb, zf]) hb); have n1_ := za.mk (hbox); have n2_ := za.mk ((by rw [hg]; exact (zm (by apply_rules only [HB.out, ze, zb, zf])) : w.heap.size ≤ gb611)); have n3_ := za.mk ((by rw [hg]; exact (zm (by apply_rules only [HB.out, ze, zb, zf])) : w.heap.size ≤ gb611)); clear HB; have HB := n0_; have BK611 := n1_; have GW611 := n2_; have GE611 := n3_; clear n0_ n1_ n2_ n3_; clear hb hbox hg; obtain ⟨hcz7_0, hcz7_1, hcz7_2, hcz7_3, hcz7_4⟩ := cells5 BK611.out; obtain ⟨hfz7_0, hfz7_1, hfz7_2, hfz7_3, hfz7_4⟩ := zic BK611.out) | ((with_reducible refine zaa (f := 10) rfl ?_); refine zmc (some 15) rfl rfl Tryz.func10 (by kernel_rfl) rfl #[.int .i64 t606] rfl (by (try simp only [zpa]); first | done | rfl | simp) ?_; (with_reducible refine (zhc.calls k t606 t612 t613 _ A3.out (Tab.below HT.out (by repeat (first | exact HB.out | apply ze | apply zb | apply zf | refine zg ?_ GE611.out)))).mono ?_); rintro e w8 ⟨rfl, hb⟩; refine ⟨_, rfl, ?_⟩; have n0_ := za.mk (zy (g := gb611) (o := .cells #[.int .i64 t606, .int .i64 t607, .int .i64 t608, .int .i64 t609, .int .i64 t610] 23 (0, 0)) (by (with_reducible repeat (first | refine zh ?_ _ | refine zj ?_ | refine zi ?_ _)); refine zzc (cs := #[.int .i64 t606, .int .i64 t607, .int .i64 t608, .int .i64 t609, .int .i64 0]) ?_ 4 _ rfl; (with_reducible repeat (first | refine zh ?_ _ | refine zj ?_ | refine zi ?_ _)); refine zzc (cs := #[.int .i64 t606, .int .i64 t607, .int .i64 t608, .int .i64 0, .int .i64 0]) ?_ 3 _ rfl; (with_reducible repeat (first | refine zh ?_ _ | refine zj ?_ | refine zi ?_ _)); refine zzc (cs := #[.int .i64 t606, .int .i64 t607, .int .i64 0, .int .i64 0, .int .i64 0]) ?_ 2 _ rfl; (with_reducible repeat (first | refine zh ?_ _ | refine zj ?_ | refine zi ?_ _)); refine zzc (cs := #[.int .i64 t606, .int .i64 0, .int .i64 0, .int .i64 0, .int .i64 0]) ?_ 1 _ rfl; (with_reducible repeat (first | refine zh ?_ _ | refine zj ?_ | refine zi ?_ _)); refine zzc (cs := #[.int .i64 0, .int .i64 0, .int .i64 0, .int .i64 0, .int .i64 0]) ?_ 0 _ rfl; (with_reducible repeat (first | refine zh ?_ _ | refine zj ?_ | refine zi ?_ _)); exact BK611.out) hb); have n1_ := za.mk (zk (by apply_rules only [HB.out, ze, zb, zf, fun h => zg h GE611.out]) hb); clear BK611; clear HB; have BK611 := n0_; have HB := n1_; clear n0_ n1_; (try clear hb); (try clear hb2); (try clear hk); (try clear hi); (try simp only [zn, zo])))
 (try simp only [Act.put, List.setIfInBounds_toArray, List.set_cons_zero, List.set_cons_succ])
 go_cut [27] (fun v27 wc => ∃ (kq : Nat) (x27_3 : Bool), v27 = .bool x27_3 ∧ za (zt.j0 kq t612 x27_3 t606 t607 t608 t609 t610 = some r) ∧ za (kq ≤ k) ∧ za (wc.heap[gb611]? = some (.cells #[.int .i64 t606, .int .i64 t607, .int .i64 t608, .int .i64 t609, .int .i64 t610] 23 (0, 0))) ∧ za (Below w.heap.size w wc))
 case first =>
  have H := HC4.out
  clear HC4
  rcases t613 with _ | q614
  ·have H1 : (if t612 < 0 then (zt.j0 k t612 true t606 t607 t608 t609 t610) else (zt.j0 k t612 (decide (t612 > 65535)) t606 t607 t608 t609 t610)) = some r := by rw [if_pos (show (none : Option Int).isNone = true by rfl)] at H; exact H
   clear H
   have H := H1
   clear H1
   try simp only [zn, zo]
   by_cases c9 : t612 < 0
   ·rw [if_pos c9] at H
    exact absurd H (by first | (have h_ := HR_.out; subst h_; cases k <;> simp [zt.j0]; done) | (have h_ := HR_.out; subst h_; cases k1 <;> simp [zt.j0]; done) | (have h_ := HR_.out; subst h_; cases k2 <;> simp [zt.j0]; done))
   ·rw [if_neg c9] at H
    have c9b0 : decide (t612 < 0) = false := decide_eq_false c9
    clear c9
    (first | rw [c9b0] | (simp only [i64_w, i32_w]; rw [c9b0]) | skip)
    have H' := za.mk H
    clear H
    go_wp2
    go_meet
    case rel => exact ⟨_, (decide (t612 > 65535)), (by first | rfl | simp [*]), H', ⟨by first | omega | exact Nat.le_refl _⟩, ⟨by apply_rules only [BK611.out, zh, zj, zi]⟩, ⟨by apply_rules only [HB.out, ze, zb, zf, fun h => zg h GE611.out]⟩⟩
  ·have H1 : (zt.j0 k t612 true t606 t607 t608 t609 t610) = some r := by rw [if_neg (show ¬ (some q614).isNone = true by simp)] at H; exact H
   clear H
   have H := H1
   clear H1
   try simp only [zn, zo]
   have H' := za.mk H
   clear H
   go_wp2
   go_meet
   case rel => exact ⟨_, (true), (by first | rfl | simp [*]), H', ⟨by first | omega | exact Nat.le_refl _⟩, ⟨by apply_rules only [BK611.out, zh, zj, zi]⟩, ⟨by apply_rules only [HB.out, ze, zb, zf, fun h => zg h GE611.out]⟩⟩
 case rest =>
  clear HC4
  obtain ⟨kq, x27_3, rfl, HA, HJ3, BK611, HB⟩ := hcut
  cases kq with
  | zero => exact absurd HA.out (by simp [zt.j0])
  | succ kj3 =>
   have H := HA.out
   clear HA
   simp only [zt.j0] at H
   by_cases c10 : x27_3 = true
   ·subst c10
    have H1 : (some false) = some r := by rw [if_pos rfl] at H; exact H
    exact absurd ((Option.some.inj H1).trans HR_.out) (by decide)
   ·replace c10 := Bool.eq_false_iff.mpr c10
    subst c10
    have H1 : ((zrb.f kj3 t606).bind fun t615 => ((zdb.f kj3 t606 t607 t608 t609 t610 t612 t615).bind fun t618 => (if t618 = t609 then ((ztd.f kj3).bind fun t619 => (some t619)) else (some false)))) = some r := by rw [if_neg (show ¬ (false = true) by decide)] at H; exact H
    clear H
    have H := H1
    clear H1
    replace H := Option.bind_eq_some_iff.mp H
    obtain ⟨t615, A110, H⟩ := H
    replace H : ((zdb.f kj3 t606 t607 t608 t609 t610 t612 t615).bind fun t618 => (if t618 = t609 then ((ztd.f kj3).bind fun t619 => (some t619)) else (some false))) = some r := H
    have A11 := za.mk A110
    clear A110
    replace H := Option.bind_eq_some_iff.mp H
    obtain ⟨t618, A120, H⟩ := H
    replace H : (if t618 = t609 then ((ztd.f kj3).bind fun t619 => (some t619)) else (some false)) = some r := H
    have A12 := za.mk A120
    clear A120
    by_cases c13 : t618 = t609
    ·rw [if_pos c13] at H
     have c13b0 : (t618 == t609) = true := beq_iff_eq.mpr c13
     have c13b1 : (t618 != t609) = false := bne_eq_false_iff_eq.mpr c13
     clear c13
     replace H := Option.bind_eq_some_iff.mp H
     obtain ⟨t619, A140, H⟩ := H
     replace H : (some t619) = some r := H
     have A14 := za.mk A140
     clear A140
     obtain rfl := Option.some.inj H
     try go_wp2
     have n0_ := za.mk (zj BK611.out)
     have n1_ := za.mk (zf HB.out)
     clear BK611
     clear HB
     have BK611 := n0_
     have HB := n1_
     clear n0_ n1_
     refine zsf (n := 13) (S := fun w' => w'.cell? ⟨gb611, 0, none⟩ = some (.int .i64 t606) ∧ w'.cell? ⟨gb611, 1, none⟩ = some (.int .i64 t607) ∧ w'.cell? ⟨gb611, 2, none⟩ = some (.int .i64 t608) ∧ w'.cell? ⟨gb611, 3, none⟩ = some (.int .i64 t609) ∧ w'.cell? ⟨gb611, 4, none⟩ = some (.int .i64 t610)) (ds := []) #[false, false, false, false, false, false, false, false, false, false, false, false, false] (by kernel_rfl) rfl rfl ⟨(zl BK611.out 0).trans rfl, (zl BK611.out 1).trans rfl, (zl BK611.out 2).trans rfl, (zl BK611.out 3).trans rfl, (zl BK611.out 4).trans rfl⟩ (fun hHeld => ?_); refine zke zt.tab5 zt.bits5 (fun HT_ HW_ => ?_)
     generalize wc.drew = w15 at BK611 HB hHeld ⊢
     refine pure_ (i := 1) (N := some 29) (v := ?_) (a' := ?_) #[false, true, false, false, false, false, false, false, false, false, false, false, false] rfl rfl (zvb HT_.out (by kernel_rfl)) (fun _ _ _ h => h) (Or.inl ⟨by rfl, ?_⟩) ?_ ?_
     rotate_left
     ·intro w'
      go_simp
      with_reducible rfl
     rotate_left
     ·simp only [Act.put, zw]
      rfl
     refine pure_ (i := 2) (N := some 30) (v := ?_) (a' := ?_) #[false, true, true, false, false, false, false, false, false, false, false, false, false] rfl rfl (zvb HT_.out (by kernel_rfl)) (fun _ _ _ h => h) (Or.inl ⟨by rfl, ?_⟩) ?_ ?_
     rotate_left
     ·intro w'
      go_simp
      with_reducible rfl
     rotate_left
     ·simp only [Act.put, zw]
      rfl
     refine pure_ (i := 6) (N := some 34) (v := ?_) (a' := ?_) #[false, true, true, false, false, false, true, false, false, false, false, false, false] rfl rfl (zvb HT_.out (by kernel_rfl)) (fun _ _ _ h => h) (Or.inl ⟨by rfl, ?_⟩) ?_ ?_
     rotate_left
     ·intro w'
      go_simp
      with_reducible rfl
     rotate_left
     ·simp only [Act.put, zw]
      rfl
     refine take_ (i := 0) (N := some 28) (v := ?_) (a' := ?_) #[true, true, true, false, false, false, true, false, false, false, false, false, false] rfl rfl (zje HT_.out HW_.out (by kernel_rfl)) (fun _ _ _ h => h) (Or.inl ⟨by rfl, ?_⟩) hHeld ?_ ?_
     rotate_left
     ·rintro w' ⟨s0, s1, s2, s3, s4⟩
      go_simp
      with_reducible rfl
     rotate_left
     ·simp only [Act.put, zw]
      rfl
     refine take_ (i := 3) (N := some 31) (v := ?_) (a' := ?_) #[true, true, true, true, false, false, true, false, false, false, false, false, false] rfl rfl (zje HT_.out HW_.out (by kernel_rfl)) (fun _ _ _ h => h) (Or.inl ⟨by rfl, ?_⟩) hHeld ?_ ?_
     rotate_left
     ·rintro w' ⟨s0, s1, s2, s3, s4⟩
      go_simp
      with_reducible rfl
     rotate_left
     ·simp only [Act.put, zw]
      rfl
     refine take_ (i := 7) (N := some 35) (v := ?_) (a' := ?_) #[true, true, true, true, false, false, true, true, false, false, false, false, false] rfl rfl (zje HT_.out HW_.out (by kernel_rfl)) (fun _ _ _ h => h) (Or.inl ⟨by rfl, ?_⟩) hHeld ?_ ?_
     rotate_left
     ·rintro w' ⟨s0, s1, s2, s3, s4⟩
      go_simp
      with_reducible rfl
     rotate_left
     ·simp only [Act.put, zw]
      rfl
     refine one_ (i := 4) (N := some 32) #[true, true, true, true, true, false, true, true, false, false, false, false, false] rfl rfl (one_of HT_.out (by kernel_rfl)) (by decide) (fun K hK => ?_)
     refine goes_ Tryz.func12 (by kernel_rfl) rfl #[.int .i64 t606] (by rfl) rfl rfl (by (try simp only [zpa]); first | done | rfl | simp) ?_
     with_reducible refine (zrb.calls kj3 t606 t615 _ A11.out).mono ?_
     rintro e w16 ⟨v616, rfl, ho0, hb⟩
     refine ⟨_, rfl, ?_⟩
     have n0_ := za.mk (Kd.zcd ho0 (zm (by apply_rules only [HB.out, ze, zb, zf, fun h => zg h GE611.out])))
     have n1_ := za.mk (zy (g := gb611) (o := .cells #[.int .i64 t606, .int .i64 t607, .int .i64 t608, .int .i64 t609, .int .i64 t610] 23 (0, 0)) (by apply_rules only [BK611.out, zh, zj, zi]) hb)
     have n2_ := za.mk (zk (by apply_rules only [HB.out, ze, zb, zf, fun h => zg h GE611.out]) hb)
     clear BK611
     clear HB
     have HO617 := n0_
     have BK611 := n1_
     have HB := n2_
     clear n0_ n1_ n2_
     (try clear hb)
     (try clear hb2)
     (try clear hk)
     (try clear hi)
     (try clear ho0)
     obtain ⟨Ao17, co17, eo17⟩ := Kd.zsc HO617.out
     (first | subst eo17 | (injection eo17 with f1_ f2_ f3_; have f4_ := f1_.symm; have f5_ := f3_.symm; clear f1_ f2_ f3_; subst f4_; subst f5_))
     refine hK.out _ _ ⟨(zl BK611.out 0).trans rfl, (zl BK611.out 1).trans rfl, (zl BK611.out 2).trans rfl, (zl BK611.out 3).trans rfl, (zl BK611.out 4).trans rfl⟩ (fun hHeld => ?_)
     clear hK K
     refine norm_ (a' := ?_) ?_ ?_
     rotate_left
     ·show Act.put _ (some 32) _ = _
      simp only [Act.put, zw]
      rfl
     refine one_ (i := 5) (N := some 33) #[true, true, true, true, true, true, true, true, false, false, false, false, false] rfl rfl (one_of HT_.out (by kernel_rfl)) (by decide) (fun K hK => ?_)
     refine goes_ Tryz.func11 (by kernel_rfl) rfl #[.agg #[.int .i64 t606, .int .i64 t607, .int .i64 t608, .int .i64 t609, .int .i64 t610], .int .i64 t612, .slice Ao17 t615.length co17] (by rfl) rfl rfl (by (try simp only [zpa]); first | done | rfl | simp) ?_
     with_reducible refine (zdb.calls kj3 t606 t607 t608 t609 t610 t612 _ _ t615 t618 _ ?side1 ?side2 A12.out).mono ?_
     (case side1 => apply_rules only [(Kd.zsb HO617.out).2.2, Kd.zod, Kd.zmd, Kd.zme])
     (case side2 => exact (Kd.zsb HO617.out).2.1)
     rintro e w18 ⟨rfl, hb⟩
     refine ⟨_, rfl, ?_⟩
     have n0_ := za.mk (Kd.zvd (by apply_rules only [HO617.out, Kd.zka, Kd.zja, Kd.zya]) hb)
     have n1_ := za.mk (zy (g := gb611) (o := .cells #[.int .i64 t606, .int .i64 t607, .int .i64 t608, .int .i64 t609, .int .i64 t610] 23 (0, 0)) (by apply_rules only [BK611.out, zh, zj, zi]) hb)
     have n2_ := za.mk (zk (by apply_rules only [HB.out, ze, zb, zf, fun h => zg h GE611.out]) hb)
     clear HO617
     clear BK611
     clear HB
     have HO617 := n0_
     have BK611 := n1_
     have HB := n2_
     clear n0_ n1_ n2_
     (try clear hb)
     (try clear hb2)
     (try clear hk)
     (try clear hi)
     refine hK.out _ _ ⟨(zl BK611.out 0).trans rfl, (zl BK611.out 1).trans rfl, (zl BK611.out 2).trans rfl, (zl BK611.out 3).trans rfl, (zl BK611.out 4).trans rfl⟩ (fun hHeld => ?_)
     clear hK K
     refine norm_ (a' := ?_) ?_ ?_
     rotate_left
     ·show Act.put _ (some 33) _ = _
      simp only [Act.put, zw]
      rfl
     refine pure_ (i := 8) (N := some 36) (v := ?_) (a' := ?_) #[true, true, true, true, true, true, true, true, true, false, false, false, false] rfl rfl (zvb HT_.out (by kernel_rfl)) (fun _ _ _ h => h) (Or.inl ⟨by rfl, ?_⟩) ?_ ?_
     rotate_left
     ·intro w'
      go_simp
      with_reducible rfl
     rotate_left
     ·simp only [Act.put, zw]
      rfl
     refine pure_ (i := 9) (N := some 37) (v := ?_) (a' := ?_) #[true, true, true, true, true, true, true, true, true, true, false, false, false] rfl rfl (zvb HT_.out (by kernel_rfl)) (fun _ _ _ h => h) (Or.inl ⟨by rfl, ?_⟩) ?_ ?_
     rotate_left
     ·intro w'
      go_simp
      with_reducible rfl
     rotate_left
     ·simp only [Act.put, zw]
      rfl
     refine one_ (i := 10) (N := some 38) #[true, true, true, true, true, true, true, true, true, true, true, false, false] rfl rfl (one_of HT_.out (by kernel_rfl)) (by decide) (fun K hK => ?_)
     refine goes_ Tryz.func13 (by kernel_rfl) rfl #[] (by rfl) rfl rfl (by (try simp only [zpa]); first | done | rfl | simp) ?_
     with_reducible refine (ztd.calls kj3  t619 _ A14.out HR_.out (Tab.below HT.out (by repeat (first | exact HB.out | apply ze | apply zb | apply zf | refine zg ?_ GE611.out)))).mono ?_
     rintro e w19 ⟨rfl, hb⟩
     refine ⟨_, rfl, ?_⟩
     have n0_ := za.mk (Kd.zvd (by apply_rules only [HO617.out, Kd.zka, Kd.zja, Kd.zya]) hb)
     have n1_ := za.mk (zy (g := gb611) (o := .cells #[.int .i64 t606, .int .i64 t607, .int .i64 t608, .int .i64 t609, .int .i64 t610] 23 (0, 0)) (by apply_rules only [BK611.out, zh, zj, zi]) hb)
     have n2_ := za.mk (zk (by apply_rules only [HB.out, ze, zb, zf, fun h => zg h GE611.out]) hb)
     clear HO617
     clear BK611
     clear HB
     have HO617 := n0_
     have BK611 := n1_
     have HB := n2_
     clear n0_ n1_ n2_
     (try clear hb)
     (try clear hb2)
     (try clear hk)
     (try clear hi)
     refine hK.out _ _ ⟨(zl BK611.out 0).trans rfl, (zl BK611.out 1).trans rfl, (zl BK611.out 2).trans rfl, (zl BK611.out 3).trans rfl, (zl BK611.out 4).trans rfl⟩ (fun hHeld => ?_)
     clear hK K
     refine norm_ (a' := ?_) ?_ ?_
     rotate_left
     ·show Act.put _ (some 38) _ = _
      simp only [Act.put, zw]
      rfl
     refine pure_ (i := 11) (N := some 39) (v := ?_) (a' := ?_) #[true, true, true, true, true, true, true, true, true, true, true, true, false] rfl rfl (zvb HT_.out (by kernel_rfl)) (fun _ _ _ h => h) (Or.inl ⟨by rfl, ?_⟩) ?_ ?_
     rotate_left
     ·intro w'
      go_simp
      with_reducible rfl
     rotate_left
     ·simp only [Act.put, zw]
      rfl
     refine pure_ (i := 12) (N := some 2) (v := ?_) (a' := ?_) #[true, true, true, true, true, true, true, true, true, true, true, true, true] rfl rfl (zvb HT_.out (by kernel_rfl)) (fun _ _ _ h => h) (Or.inl ⟨by rfl, ?_⟩) ?_ ?_
     rotate_left
     ·intro w'
      go_simp
      with_reducible rfl
     rotate_left
     ·simp only [Act.put, zw]
      rfl
     refine done_ (done_of HT_.out (by kernel_rfl)) ?_
     try go_wp2
     go_ret
     exact ⟨by first | rfl | (simp [zn, zo] <;> rfl) | (simp [*, zn, zo] <;> rfl), by apply_rules only [HB.out, ze, zb, zf, fun h => zg h GE611.out]⟩
    ·rw [if_neg c13] at H
     exact absurd ((Option.some.inj H).trans HR_.out) (by decide)
def zt.Pure : Prop := ∀ (a0 : Int), (Lit.int .i64 a0).wf = true → ∃ k, zt.f k a0 = some true
theorem zt.walk (P : zt.Pure) (a0 : Int) (w : World) (w0 : (Lit.int .i64 a0).wf = true) (hT : Tab w) :
  Calls Tryz.prog 3 #[.int .i64 a0] w fun e w' => e = .returned (.bool true) ∧ Below w.heap.size w w' := by
 obtain ⟨k, h⟩ := P a0 w0
 refine (zt.calls k a0 true w h rfl hT).mono ?_
 rintro e w' ⟨rfl, hd⟩
 exact ⟨rfl, hd⟩
end Go.Proofs.YtnglindlofmknaaGreatDoor.B
end
section
set_option maxHeartbeats 8000000
set_option maxRecDepth 100000
namespace Go.Proofs.YtnglindlofmknaaGreatDoor.systemAll
open Go.ChangeShapes Go.WideShapes Go.ChangeAt Go.RowKit
open Go.ChangeMaps (open_string shut_string)
set_option linter.unusedVariables false
theorem own : ownKnob Tryz.prog.godebug = none := by kernel_rfl
theorem laidRow (os : Os) : ((laidWorld os ⟨#[], #[.int .i64 0], []⟩).forCall (fun _ _ => 0) ⟨#[], #[.int .i64 0], []⟩).memory.heap[0]? = some (.cells tabValues 167 (0, 0)) := by kernel_rfl
abbrev laidX : List (String × DataW Unit) := [("math/bits.deBruijn64tab", Rows.laid_math_bits_deBruijn64tab)]
theorem row_nodup (n : Nat) : ((MemPlace.row ⟨0, 0, none⟩ n ++ [] ++ []) : List MemPlace).Nodup := by
 simp only [List.append_nil, MemPlace.row]
 rw [List.Nodup, List.pairwise_map]
 exact List.nodup_range.imp fun {a b} h e => by injection e with _ e; omega
theorem laidWit (os : Os) : laidMet Tryz.prog laidX ((laidWorld os ⟨#[], #[.int .i64 0], []⟩).forCall (fun _ _ => 0) ⟨#[], #[.int .i64 0], []⟩).memory :=
 ⟨_, ⟨0, 167, tabValues, 8, [], [], by kernel_rfl, by kernel_rfl, by kernel_rfl, by kernel_rfl, rfl, rfl⟩, row_nodup _, fun b off h => by
  obtain ⟨hb, hlt⟩ : b = 0 ∧ off < tabValues.size := by
   simp only [List.append_nil] at h
   unfold MemPlace.row at h
   simp at h
   omega
  subst hb
  refine ⟨⟨_, _, laidRow os⟩, fun u v hc => ?_⟩
  simp only [World.cell?, laidRow os] at hc
  have hall : tabValues.all (fun x => match x with | .iface _ _ => false | _ => true) = true := by kernel_rfl
  rw [Array.all_eq_true] at hall
  have h2 := hall off hlt
  have h3 : tabValues[off]? = some (.iface u v) := by simpa using hc
  rw [Array.getElem?_eq_getElem hlt] at h3
  rw [Option.some.inj h3] at h2
  cases h2⟩
theorem lifted (P : B.zt.Pure) (os : Os) (started : os.Started) (H : Type) (enc : TypeId × Value → H) :
  ReturnsInHanded {} Tryz.checked os 3 .any (fun w args => (Rows.systemAllSpec.pre enc Tryz.prog Tryz.f3 Rows.systemAllRow.domain false w args ∧ laidMet Tryz.prog laidX w) ∧ sizedMet enc Tryz.prog Tryz.f3 (OpenSpec.ofChange Rows.systemAllSpec) false w args)
   (Rows.systemAllSpec.post enc Tryz.prog Tryz.f3 false true false false) := by
 refine returnsInHanded_of_change_and (C := Tryz.checked) (X := fun w _ => laidMet Tryz.prog laidX w) (fun _ _ _ hh h => h.of_heap hh) own started (by kernel_rfl) Tryz.func3
  (ChangeSpec.witness_at (enc := enc) (C := Tryz.checked) (os := os) (X := fun w _ => laidMet Tryz.prog laidX w) false (laidWorld os ⟨#[], #[.int .i64 0], []⟩) #[.int .i64 0] 8 rfl (by kernel_rfl) (by kernel_rfl) (by kernel_rfl) (by kernel_rfl) (by kernel_rfl) (laidWit os)) ?_
 intro W base args ds gs before hval0 hW _ _ hL _
 have hT := tab_of_laid hL
 have hval : ∀ (j : Nat) t v, Tryz.f3.params[j]? = some t → args[j]? = some v → Value.okWide Tryz.prog W .any base t v := hval0
 have hW' := hW
 obtain ⟨p, q, hA0, hV, rfl, hfz, hnd⟩ := hW
 have hA : DataW.TrodAll enc Tryz.prog W 0 (fun _ => true) true Tryz.f3.params.toList args.toList ds p := hA0
 rw [Tryz.params3] at hA hval
 obtain ⟨v0, vs0, d0, ds0, p0, q0, hargs, rfl, rfl, h0, r0⟩ := trodAll_cons hA
 obtain ⟨rfl, rfl, rfl⟩ := trodAll_nil r0
 obtain rfl : args = #[v0] := by cases args; simp_all
 obtain ⟨rfl, rfl⟩ := trodVars_none hV
 obtain ⟨a0, rfl, rfl, rfl, w0⟩ := open_int Tryz.underlying3 (hval 0 3 v0 rfl rfl) h0
 clear hA0 hval0
 refine (B.zt.walk P a0 W w0 hT).mono fun e W' ⟨he, bel⟩ => ?_
 subst he
 exact ⟨_, rfl, _, _, _, [], _, [], hW', trodAll_mk1 (shut_bool Tryz.underlying4 _), (trodAll_cons_mk (shut_int Tryz.underlying3 w0) trodAll_mk0), rfl, bel.frame _, fun h => by cases h⟩
theorem over (P : B.zt.Pure) : Rows.systemAllRow.holds Tryz.pinned (OpenSpec.ofChange Rows.systemAllSpec) :=
 OpenClaim.holds_of_wide 3 Tryz.f3 rfl rfl rfl rfl rfl rfl rfl ⟨rfl, rfl, rfl, rfl, rfl⟩ rfl rfl rfl rfl rfl (by kernel_rfl) Tryz.func3 (by kernel_rfl)
  (of_decide_eq_true (by kernel_rfl)) (by unfold Func.isWrapper; first | (rw [if_pos (by decide +kernel)]; kernel_rfl) | (rw [if_neg (by decide +kernel)]; exact ⟨rfl, rfl⟩))
  (fun os started H enc _ => lifted P os started H enc)
theorem card (P : B.zt.Pure) : Rows.SystemAllCardSaid :=
 Claim7.holds_tied_plain_at .later [] [.data] true (true, "823cf3d5eead15eed18e72a3c4c5c50b354c6fb49ac2dccf8dd446401eab17b5") false
  (over P) (fun _ h => by cases h) (by kernel_rfl) (fun _ h => by cases h) systemAll_row_tie rfl ⟨rfl, rfl⟩ (by kernel_rfl) rfl
  (fun f fn hf hfn => by
   obtain rfl : f = 3 := Option.some.inj ((show Tryz.prog.funcNamed "geyser/geyserlaw11.SystemAll" = some 3 by kernel_rfl).symm.trans hf) |>.symm
   obtain rfl : fn = Tryz.f3 := (Option.some.inj (Tryz.func3.symm.trans hfn)).symm
   exact ⟨by kernel_rfl, fun j t ht => by
    rw [Tryz.params3] at ht
    have h3 : t = 3 := by
     rcases j with _ | j
     ·simpa using ht.symm
     ·simp at ht
    subst h3
    exact (show Tryz.prog.wantsStandIn 3 = false by kernel_rfl)⟩)
  (by kernel_rfl)
end Go.Proofs.YtnglindlofmknaaGreatDoor.systemAll
end
section
set_option maxHeartbeats 8000000
set_option maxRecDepth 100000
namespace Go.Proofs.YtnglindlofmknaaGreatDoor.B
open Go.RowKit Go.Proofs.YW.PrintWords Go.Proofs.YW.PrintLast Go.Proofs.YW.PrintMore
set_option linter.unusedVariables false
theorem zqa {α : Type} {g : Nat → Option α} {r : α} (h : Ev (fun k => g (k + 1)) r) : Ev g r := by
 obtain ⟨K, hK⟩ := h
 refine ⟨K + 1, fun k hk => ?_⟩
 obtain ⟨m, rfl⟩ : ∃ m, k = m + 1 := ⟨k - 1, by omega⟩
 exact hK m (by omega)
theorem zjd {α : Type} (r : α) : Ev (fun _ => some r) r := ⟨0, fun _ _ => rfl⟩
theorem zpd {α : Type} {a r : α} (h : a = r) : Ev (fun _ => some a) r := ⟨0, fun _ _ => by rw [h]⟩
theorem zx {α : Type} {c : Prop} [Decidable c] {A B : Nat → Option α} {r : α} (hc : c) (h : Ev A r) : Ev (fun k => if c then A k else B k) r := by
 obtain ⟨K, hK⟩ := h
 exact ⟨K, fun k hk => by simp only [if_pos hc]; exact hK k hk⟩
theorem zbc {α : Type} {c : Prop} [Decidable c] {A B : Nat → Option α} {r : α} (hc : ¬ c) (h : Ev B r) : Ev (fun k => if c then A k else B k) r := by
 obtain ⟨K, hK⟩ := h
 exact ⟨K, fun k hk => by simp only [if_neg hc]; exact hK k hk⟩
theorem zjb {α β : Type} {g : Nat → Option α} {f : Nat → α → Option β} {a : α} {r : β} (h : Ev g a) (k : Ev (fun n => f n a) r) : Ev (fun n => (g n).bind (f n)) r := Ev.bind h k
theorem zle {α β : Type} {o : Option α} {f : Nat → α → Option β} {a : α} {r : β} (h : o = some a) (k : Ev (fun n => f n a) r) : Ev (fun n => o.bind (f n)) r := by
 subst h; exact k
theorem Ev_at {α : Type} {g : Nat → Option α} {r : α} (h : Ev g r) : ∃ k, g k = some r := Ev.rounds h
theorem Ev_eq {α : Type} {g : Nat → Option α} {r q : α} (h : Ev g r) (e : r = q) : Ev g q := e ▸ h
theorem w64 {x : Int} (h : -9223372036854775808 ≤ x) (k : x < 9223372036854775808) : wrap64 x = x := by unfold wrap64; omega
theorem u64w {x : Int} (h : 0 ≤ x) (k : x < 18446744073709551616) : IntKind.u64.wrap x = x := by rw [IntKind.wrap_u64]; omega
theorem tdivE {a b : Int} (h : 0 ≤ a) : Int.tdiv a b = a / b := Int.tdiv_eq_ediv_of_nonneg h
theorem tmodE {a b : Int} (h : 0 ≤ a) : Int.tmod a b = a % b := Int.tmod_eq_emod_of_nonneg h
theorem zdf (l : List Int) (i : Nat) : rd l (i : Int) = l.getD i 0 := by unfold rd; simp
end Go.Proofs.YtnglindlofmknaaGreatDoor.B
end
section
set_option maxHeartbeats 8000000
set_option maxRecDepth 100000
namespace Lin
def IsLead (v c : Nat) : Prop := v.testBit c = true ∧ ∀ i, i < c → v.testBit i = false
theorem IsLead.ne {v c : Nat} (h : IsLead v c) : v ≠ 0 := by
 rintro rfl
 simpa using h.1
theorem IsLead.uniq {v c d : Nat} (h : IsLead v c) (k : IsLead v d) : c = d := by
 rcases Nat.lt_trichotomy c d with hl | he | hl
 ·have := k.2 c hl; rw [h.1] at this; cases this
 ·exact he
 ·have := h.2 d hl; rw [k.1] at this; cases this
theorem least_of (p : Nat → Bool) (n : Nat) : (∃ i, i < n ∧ p i = true) → ∃ c, c < n ∧ p c = true ∧ ∀ i, i < c → p i = false := by
 induction n with
 | zero => rintro ⟨i, h, _⟩; omega
 | succ n ih =>
  rintro ⟨i, hi, hp⟩
  by_cases h : ∃ j, j < n ∧ p j = true
  ·obtain ⟨c, hc, h1, h2⟩ := ih h
   exact ⟨c, by omega, h1, h2⟩
  ·have hin : i = n := by
    by_cases he : i = n
    ·exact he
    ·exact absurd ⟨i, by omega, hp⟩ h
   subst hin
   refine ⟨i, by omega, hp, fun j hj => ?_⟩
   cases hpj : p j with
   | false => rfl
   | true => exact absurd ⟨j, hj, hpj⟩ h
theorem lead_of_ne {v : Nat} (h : v ≠ 0) : ∃ c, IsLead v c := by
 obtain ⟨i, hi⟩ := Nat.exists_testBit_of_ne_zero h
 obtain ⟨c, _, h1, h2⟩ := least_of (fun i => v.testBit i) (i + 1) ⟨i, by omega, hi⟩
 exact ⟨c, h1, h2⟩
theorem IsLead.lt {v c n : Nat} (h : IsLead v c) (hv : v < 2 ^ n) : c < n := by
 apply Decidable.byContradiction
 intro hc
 have hlt : v < 2 ^ c := Nat.lt_of_lt_of_le hv (Nat.pow_le_pow_right (by omega) (by omega))
 have := Nat.testBit_lt_two_pow hlt
 rw [h.1] at this
 cases this
theorem IsLead.xor {v w c d : Nat} (h : IsLead v c) (k : IsLead w d) (hne : c ≠ d) : IsLead (v ^^^ w) (min c d) := by
 constructor
 ·rw [Nat.testBit_xor]
  rcases Nat.lt_or_gt_of_ne hne with hl | hl
  ·rw [Nat.min_eq_left (by omega), h.1, k.2 c hl]; rfl
  ·rw [Nat.min_eq_right (by omega), k.1, h.2 d hl]; rfl
 ·intro i hi
  rw [Nat.testBit_xor, h.2 i (by omega), k.2 i (by omega)]; rfl
theorem xor_self_cancel (a b : Nat) : a ^^^ b ^^^ b = a := by
 rw [Nat.xor_assoc, Nat.xor_self, Nat.xor_zero]
theorem xor_eq_zero_iff' {a b : Nat} : a ^^^ b = 0 ↔ a = b := by
 constructor
 ·intro h
  have := congrArg (· ^^^ b) h
  simpa [xor_self_cancel] using this
 ·rintro rfl; exact Nat.xor_self a
abbrev Eqn := Nat × Nat
def add (a b : Eqn) : Eqn := (a.1 ^^^ b.1, a.2 ^^^ b.2)
theorem add_comm (a b : Eqn) : add a b = add b a := by simp [add, Nat.xor_comm]
theorem add_assoc (a b c : Eqn) : add (add a b) c = add a (add b c) := by simp [add, Nat.xor_assoc]
theorem add_cancel (a b : Eqn) : add (add a b) b = a := by simp [add, xor_self_cancel]
theorem add_zero (a : Eqn) : add a (0, 0) = a := by simp [add]
theorem zero_add (a : Eqn) : add (0, 0) a = a := by simp [add]
theorem add_self (a : Eqn) : add a a = (0, 0) := by simp [add]
inductive Span (l : List Eqn) : Eqn → Prop
 | zero : Span l (0, 0)
 | step {v x : Eqn} : Span l v → x ∈ l → Span l (add v x)
theorem Span.mem {l : List Eqn} {x : Eqn} (h : x ∈ l) : Span l x := by
 have := Span.step (Span.zero (l := l)) h
 rwa [zero_add] at this
theorem Span.add {l : List Eqn} {v w : Eqn} (hv : Span l v) (hw : Span l w) : Span l (Lin.add v w) := by
 induction hw with
 | zero => rwa [add_zero]
 | step _ hx ih => rw [← add_assoc]; exact .step ih hx
theorem Span.of {l m : List Eqn} (h : ∀ x, x ∈ l → Span m x) {v : Eqn} (hv : Span l v) : Span m v := by
 induction hv with
 | zero => exact .zero
 | step _ hx ih => exact ih.add (h _ hx)
theorem Span.mono {l m : List Eqn} (h : ∀ x, x ∈ l → x ∈ m) {v : Eqn} (hv : Span l v) : Span m v :=
 hv.of fun x hx => .mem (h x hx)
theorem Span.nil {v : Eqn} (h : Span [] v) : v = (0, 0) := by
 cases h with
 | zero => rfl
 | step _ hx => simp at hx
theorem Span.cons {x : Eqn} {l : List Eqn} {v : Eqn} (h : Span (x :: l) v) : Span l v ∨ Span l (Lin.add v x) := by
 induction h with
 | zero => exact .inl .zero
 | step _ hy ih =>
  rename_i v y _
  rcases List.mem_cons.1 hy with rfl | hy
  ·rcases ih with h | h
   ·right; rwa [add_cancel]
   ·left; exact h
  ·rcases ih with h | h
   ·left; exact .step h hy
   ·right
    have := Span.step h hy
    rwa [add_assoc, add_comm x y, ← add_assoc] at this
def Tri (l : List Eqn) : Prop := (∀ x, x ∈ l → x.1 ≠ 0) ∧ l.Pairwise fun x y => ∀ c, IsLead x.1 c → y.1.testBit c = false
def Ech (l : List Eqn) : Prop := (∀ x, x ∈ l → x.1 ≠ 0) ∧ l.Pairwise fun x y => ∀ c, IsLead x.1 c → ¬ IsLead y.1 c
theorem Tri.ech {l : List Eqn} (h : Tri l) : Ech l :=
 ⟨h.1, h.2.imp fun {x y} hxy c hc hy => by have := hxy c hc; rw [hy.1] at this; cases this⟩
theorem Ech.tail {x : Eqn} {l : List Eqn} (h : Ech (x :: l)) : Ech l :=
 ⟨fun y hy => h.1 y (List.mem_cons_of_mem _ hy), (List.pairwise_cons.1 h.2).2⟩
theorem Ech.span {l : List Eqn} (h : Ech l) {v : Eqn} (hv : Span l v) : (v.1 = 0 → v.2 = 0) ∧ ∀ c, IsLead v.1 c → ∃ x, x ∈ l ∧ IsLead x.1 c := by
 induction l generalizing v with
 | nil => rw [hv.nil]; exact ⟨fun _ => rfl, fun c hc => absurd rfl hc.ne⟩
 | cons x l ih =>
  obtain ⟨cx, hcx⟩ := lead_of_ne (h.1 x (List.mem_cons_self ..))
  have hp := (List.pairwise_cons.1 h.2).1
  rcases hv.cons with k | k
  ·obtain ⟨h1, h2⟩ := ih h.tail k
   exact ⟨h1, fun c hc => let ⟨y, hy, hc⟩ := h2 c hc; ⟨y, List.mem_cons_of_mem _ hy, hc⟩⟩
  ·obtain ⟨h1, h2⟩ := ih h.tail k
   have hvw : v = Lin.add (Lin.add v x) x := (add_cancel v x).symm
   generalize hw : Lin.add v x = w at *
   by_cases hz : w.1 = 0
   ·have hw2 := h1 hz
    have : w = (0, 0) := Prod.ext hz hw2
    subst this
    rw [zero_add] at hvw
    subst hvw
    exact ⟨fun h0 => absurd h0 hcx.ne, fun c hc => ⟨_, List.mem_cons_self .., hc⟩⟩
   ·obtain ⟨cw, hcw⟩ := lead_of_ne hz
    obtain ⟨y, hy, hcy⟩ := h2 cw hcw
    have hne : cw ≠ cx := fun he => by subst he; exact hp y hy _ hcx hcy
    have hlead : IsLead v.1 (min cw cx) := by
     rw [hvw]; exact hcw.xor hcx hne
    refine ⟨fun h0 => absurd h0 hlead.ne, fun c hc => ?_⟩
    rcases Nat.lt_or_gt_of_ne hne with hl | hl
    ·rw [Nat.min_eq_left (by omega)] at hlead
     have := hc.uniq hlead; subst this
     exact ⟨y, List.mem_cons_of_mem _ hy, hcy⟩
    ·rw [Nat.min_eq_right (by omega)] at hlead
     have := hc.uniq hlead; subst this
     exact ⟨x, List.mem_cons_self .., hcx⟩
def Red (l : List Eqn) (v w : Eqn) : Prop := Span l (add v w) ∧ ∀ x, x ∈ l → ∀ c, IsLead x.1 c → w.1.testBit c = false
theorem Red.span_of_zero {l : List Eqn} {v w : Eqn} (r : Red l v w) (hw : w.1 = 0) : Span l (v.1, v.2 ^^^ w.2) := by
 have := r.1
 simp only [add, hw, Nat.xor_zero] at this
 exact this
theorem Tri.snoc {l : List Eqn} (h : Tri l) {v w : Eqn} (r : Red l v w) (hw : w.1 ≠ 0) : Tri (l ++ [w]) := by
 refine ⟨?_, ?_⟩
 ·intro x hx
  rcases List.mem_append.1 hx with hx | hx
  ·exact h.1 x hx
  ·rw [List.mem_singleton.1 hx]; exact hw
 ·rw [List.pairwise_append]
  refine ⟨h.2, by simp, fun x hx y hy => ?_⟩
  rw [List.mem_singleton.1 hy]
  exact r.2 x hx
theorem Red.span_snoc {l : List Eqn} {v w : Eqn} (r : Red l v w) : Span (l ++ [w]) v := by
 have h1 : Span (l ++ [w]) (add v w) := r.1.mono fun x hx => by simp [hx]
 have h2 : Span (l ++ [w]) w := .mem (by simp)
 have := h1.add h2
 rwa [add_cancel] at this
theorem Red.snoc_span {l : List Eqn} {v w : Eqn} (r : Red l v w) : Span (l ++ [v]) w := by
 have h1 : Span (l ++ [v]) (add v w) := r.1.mono fun x hx => by simp [hx]
 have h2 : Span (l ++ [v]) v := .mem (by simp)
 have := h1.add h2
 rwa [add_comm v w, add_cancel] at this
theorem zte {l m : List Nat} (hn : l.Nodup) (h : ∀ x, x ∈ l → x ∈ m) : l.length ≤ m.length := by
 induction l generalizing m with
 | nil => simp
 | cons x l ih =>
  have hx := h x (List.mem_cons_self ..)
  have hnd := List.nodup_cons.1 hn
  have : ∀ y, y ∈ l → y ∈ m.erase x := fun y hy => by
   have hyx : y ≠ x := fun he => hnd.1 (he ▸ hy)
   exact (List.mem_erase_of_ne hyx).2 (h y (List.mem_cons_of_mem _ hy))
  have h2 := ih hnd.2 this
  rw [List.length_erase_of_mem hx] at h2
  have : 0 < m.length := List.length_pos_of_mem hx
  simp only [List.length_cons]; omega
theorem exists_leads {l : List Eqn} (h : ∀ x, x ∈ l → x.1 ≠ 0) : ∃ cs : List Nat, cs.length = l.length ∧ ∀ (i : Nat) (x : Eqn) (c : Nat), l[i]? = some x → cs[i]? = some c → IsLead x.1 c := by
 induction l with
 | nil => exact ⟨[], rfl, by simp⟩
 | cons x l ih =>
  obtain ⟨cs, h1, h2⟩ := ih fun y hy => h y (List.mem_cons_of_mem _ hy)
  obtain ⟨c, hc⟩ := lead_of_ne (h x (List.mem_cons_self ..))
  refine ⟨c :: cs, by simp [h1], ?_⟩
  intro i y d hy hd
  cases i with
  | zero => simp at hy hd; subst hy; subst hd; exact hc
  | succ i => simp at hy hd; exact h2 i y d hy hd
theorem leads_of {l : List Eqn} (h : Ech l) : ∃ cs : List Nat, cs.length = l.length ∧ cs.Nodup ∧ (∀ c, c ∈ cs ↔ ∃ x, x ∈ l ∧ IsLead x.1 c) := by
 obtain ⟨cs, h1, h2⟩ := exists_leads h.1
 refine ⟨cs, h1, ?_, fun c => ⟨fun hc => ?_, ?_⟩⟩
 ·rw [List.Nodup, List.pairwise_iff_getElem]
  intro i j hi hj hij he
  have hp := List.pairwise_iff_getElem.1 h.2 i j (by omega) (by omega) hij
  refine hp cs[i] (h2 i _ _ (List.getElem?_eq_getElem (by omega)) (List.getElem?_eq_getElem hi)) ?_
  rw [he]
  exact h2 j _ _ (List.getElem?_eq_getElem (by omega)) (List.getElem?_eq_getElem hj)
 ·obtain ⟨i, hi, rfl⟩ := List.getElem_of_mem hc
  exact ⟨l[i]'(by omega), List.getElem_mem _, h2 i _ _ (List.getElem?_eq_getElem (by omega)) (List.getElem?_eq_getElem hi)⟩
 ·rintro ⟨x, hx, hc⟩
  obtain ⟨i, hi, rfl⟩ := List.getElem_of_mem hx
  have := h2 i _ (cs[i]'(by omega)) (List.getElem?_eq_getElem hi) (List.getElem?_eq_getElem (by omega))
  rw [hc.uniq this]; exact List.getElem_mem _
def Rows (l : List Eqn) (r : Nat) : Prop := ∃ s, Span l (r, s)
theorem Ech.len_le {l m : List Eqn} (h : Ech l) (k : Ech m) (hs : ∀ r, Rows l r → Rows m r) : l.length ≤ m.length := by
 obtain ⟨cs, c1, c2, c3⟩ := leads_of h
 obtain ⟨ds, d1, _, d3⟩ := leads_of k
 rw [← c1, ← d1]
 refine zte c2 fun c hc => ?_
 obtain ⟨x, hx, hxc⟩ := (c3 c).1 hc
 obtain ⟨s, hsp⟩ := hs x.1 ⟨x.2, .mem hx⟩
 exact (d3 c).2 ((k.span hsp).2 c hxc)
theorem Ech.len_eq {l m : List Eqn} (h : Ech l) (k : Ech m) (hs : ∀ r, Rows l r ↔ Rows m r) : l.length = m.length :=
 Nat.le_antisymm (h.len_le k fun r => (hs r).1) (k.len_le h fun r => (hs r).2)
theorem Ech.len_le_cols {l : List Eqn} (h : Ech l) {n : Nat} (hn : ∀ x, x ∈ l → x.1 < 2 ^ n) : l.length ≤ n := by
 obtain ⟨cs, c1, c2, c3⟩ := leads_of h
 rw [← c1]
 have := zte (m := List.range n) c2 fun c hc => by
  obtain ⟨x, hx, hxc⟩ := (c3 c).1 hc
  exact List.mem_range.2 (hxc.lt (hn x hx))
 simpa using this
theorem Ech.full {l : List Eqn} (h : Ech l) {n : Nat} (hn : ∀ x, x ∈ l → x.1 < 2 ^ n) (hl : l.length = n) (c : Nat) (hc : c < n) : ∃ x, x ∈ l ∧ IsLead x.1 c := by
 obtain ⟨cs, c1, c2, c3⟩ := leads_of h
 apply (c3 c).1
 apply Decidable.byContradiction
 intro hnot
 have : (c :: cs).length ≤ (List.range n).length := zte (List.nodup_cons.2 ⟨hnot, c2⟩) fun d hd => by
  rcases List.mem_cons.1 hd with rfl | hd
  ·exact List.mem_range.2 hc
  ·obtain ⟨x, hx, hxc⟩ := (c3 d).1 hd
   exact List.mem_range.2 (hxc.lt (hn x hx))
 simp only [List.length_cons, List.length_range] at this
 omega
theorem Red.zero_of_full {l : List Eqn} (h : Ech l) {n : Nat} (hn : ∀ x, x ∈ l → x.1 < 2 ^ n) (hl : l.length = n) {v w : Eqn} (r : Red l v w) (hw : w.1 < 2 ^ n) : w.1 = 0 := by
 apply Decidable.byContradiction
 intro hne
 obtain ⟨c, hc⟩ := lead_of_ne hne
 obtain ⟨x, hx, hxc⟩ := h.full hn hl c (hc.lt hw)
 have := r.2 x hx c hxc
 rw [hc.1] at this; cases this
def dot (r : Nat) (m : Nat → Nat) : Nat → Nat
 | 0 => 0
 | n + 1 => if r.testBit n then dot r m n ^^^ m n else dot r m n
theorem dot_xor (a b : Nat) (m : Nat → Nat) (n : Nat) : dot (a ^^^ b) m n = dot a m n ^^^ dot b m n := by
 induction n with
 | zero => simp [dot]
 | succ n ih =>
  simp only [dot, Nat.testBit_xor, ih]
  cases a.testBit n <;> cases b.testBit n <;> simp
  ·ac_rfl
  ·ac_rfl
  ·have : dot a m n ^^^ m n ^^^ (dot b m n ^^^ m n) = dot a m n ^^^ dot b m n ^^^ (m n ^^^ m n) := by ac_rfl
   rw [this, Nat.xor_self, Nat.xor_zero]
theorem dot_zero (m : Nat → Nat) (n : Nat) : dot 0 m n = 0 := by
 induction n with
 | zero => rfl
 | succ n ih => simp [dot, ih]
theorem dot_one (c : Nat) (m : Nat → Nat) (n : Nat) (h : c < n) : dot (2 ^ c) m n = m c := by
 have aux : ∀ n, n ≤ c → dot (2 ^ c) m n = 0 := by
  intro n
  induction n with
  | zero => intro _; rfl
  | succ n ih =>
   intro hn
   simp only [dot]
   rw [if_neg, ih (by omega)]
   rw [Nat.testBit_two_pow]; simp; omega
 induction n with
 | zero => omega
 | succ n ih =>
  simp only [dot]
  by_cases he : c = n
  ·subst he
   rw [if_pos (by rw [Nat.testBit_two_pow]; simp), aux c (by omega), Nat.zero_xor]
  ·rw [if_neg, ih (by omega)]
   rw [Nat.testBit_two_pow]; simp; omega
end Lin
end
section
set_option maxHeartbeats 8000000
set_option maxRecDepth 100000
namespace Sp
set_option linter.unusedSimpArgs false
def s16 (h : Nat) : Nat := h ^^^ (h / 65536)
def s13 (h : Nat) : Nat := h ^^^ (h / 8192)
def mixT (h : Nat) : Nat := s16 (s13 (s16 h * 2246822507 % 4294967296) * 3266489909 % 4294967296)
def mixN (x s : Nat) : Nat := mixT ((x * 2654435761 + s) % 4294967296)
def degN (v : Nat) : Nat := if v < 10241 then 1 else if v < 491582 then 2 else if v < 712794 then 3 else if v < 831695 then 4 else if v < 948446 then 10 else if v < 1032189 then 11 else 40
theorem s16_lt {h : Nat} (k : h < 4294967296) : s16 h < 4294967296 := by
 have : h ^^^ h / 65536 < 2 ^ 32 := Nat.xor_lt_two_pow (by omega) (by omega)
 unfold s16; omega
theorem s13_lt {h : Nat} (k : h < 4294967296) : s13 h < 4294967296 := by
 have : h ^^^ h / 8192 < 2 ^ 32 := Nat.xor_lt_two_pow (by omega) (by omega)
 unfold s13; omega
theorem mixN_lt (x s : Nat) : mixN x s < 4294967296 := s16_lt (Nat.mod_lt _ (by decide))
theorem degN_pos (v : Nat) : 1 ≤ degN v := by unfold degN; split <;> (try omega); split <;> (try omega); split <;> (try omega); split <;> (try omega); split <;> (try omega); split <;> omega
def nx (L P st : Nat) : Nat → Nat → Nat
 | 0, at_ => at_
 | f + 1, at_ => if at_ < L then at_ else nx L P st f ((at_ + st) % P)
def wk (L P st : Nat) : Nat → Nat → List Nat
 | 0, _ => []
 | d + 1, at_ => nx L P st P at_ :: wk L P st d ((nx L P st P at_ + st) % P)
def orb (P st : Nat) : Nat → Nat → List Nat
 | 0, _ => []
 | n + 1, at_ => at_ :: orb P st n ((at_ + st) % P)
theorem nx_ge {L P st at_ : Nat} (h : ¬ at_ < L) (f : Nat) : nx L P st (f + 1) at_ = nx L P st f ((at_ + st) % P) := by simp [nx, h]
theorem nx_lt {L P st at_ : Nat} (h : at_ < L) (f : Nat) : nx L P st f at_ = at_ := by cases f <;> simp [nx, h]
theorem nx_hit {L P st : Nat} : ∀ (n at_ : Nat), (orb P st n at_).filter (· < L) ≠ [] → ∀ f, n ≤ f → nx L P st f at_ < L ∧ nx L P st f at_ = nx L P st n at_
 | 0, _, h, _, _ => absurd rfl h
 | n + 1, at_, h, f, hf => by
  by_cases hl : at_ < L
  ·rw [nx_lt hl, nx_lt hl]; exact ⟨hl, rfl⟩
  ·obtain ⟨f, rfl⟩ : ∃ m, f = m + 1 := ⟨f - 1, by omega⟩
   rw [nx_ge hl, nx_ge hl]
   refine nx_hit n _ ?_ f (by omega)
   simpa [orb, hl] using h
theorem wk_eq {L P st : Nat} (hP : 0 < P) : ∀ (n at_ d : Nat), n ≤ P → d ≤ ((orb P st n at_).filter (· < L)).length → wk L P st d at_ = ((orb P st n at_).filter (· < L)).take d
 | _, _, 0, _, _ => by simp [wk]
 | 0, _, d + 1, _, h => by simp [orb] at h
 | n + 1, at_, d + 1, hn, h => by
  by_cases hl : at_ < L
  ·have e : (orb P st (n + 1) at_).filter (· < L) = at_ :: (orb P st n ((at_ + st) % P)).filter (· < L) := by simp [orb, hl]
   rw [e] at h ⊢
   simp only [wk, nx_lt hl, List.take_succ_cons]
   rw [wk_eq hP n _ d (by omega) (by simpa using h)]
  ·have e : (orb P st (n + 1) at_).filter (· < L) = (orb P st n ((at_ + st) % P)).filter (· < L) := by simp [orb, hl]
   rw [e] at h ⊢
   rw [← wk_eq hP n _ (d + 1) (by omega) h]
   have hne : (orb P st n ((at_ + st) % P)).filter (· < L) ≠ [] := fun e => by rw [e] at h; simp at h
   have h1 := nx_hit n _ hne P (by omega)
   have h2 := nx_hit n _ hne (P - 1) (by omega)
   have h3 : nx L P st P at_ = nx L P st (P - 1) ((at_ + st) % P) := by
    conv => lhs; rw [show P = (P - 1) + 1 by omega]
    have := nx_ge (P := P) (st := st) hl (P - 1)
    rw [show P - 1 + 1 = P by omega] at this ⊢
    exact this
   simp only [wk]
   rw [h3, h2.2, ← h1.2]
theorem orb_len (P st : Nat) : ∀ n at_, (orb P st n at_).length = n
 | 0, _ => rfl
 | n + 1, at_ => by simp [orb, orb_len P st n]
theorem orb_get (P st : Nat) : ∀ (n at_ j : Nat), at_ < P → j < n → (orb P st n at_)[j]? = some ((at_ + j * st) % P)
 | 0, _, _, _, h => by omega
 | n + 1, at_, 0, h, _ => by simp [orb, Nat.mod_eq_of_lt h]
 | n + 1, at_, j + 1, h, hj => by
  simp only [orb, List.getElem?_cons_succ]
  rw [orb_get P st n _ j (Nat.mod_lt _ (by omega)) (by omega)]
  congr 1
  rw [Nat.add_mod, Nat.mod_mod, ← Nat.add_mod, Nat.add_assoc, Nat.succ_mul, Nat.add_comm st]
theorem orb_lt (P st : Nat) {n at_ : Nat} (h : at_ < P) : ∀ x, x ∈ orb P st n at_ → x < P := by
 intro x hx
 obtain ⟨j, hj, rfl⟩ := List.getElem_of_mem hx
 have := orb_get P st n at_ j h (by rw [orb_len] at hj; exact hj)
 rw [List.getElem?_eq_getElem hj] at this
 rw [Option.some.inj this]; exact Nat.mod_lt _ (by omega)
theorem orb_nodup {P st at_ : Nat} (h : at_ < P) (hc : P.Coprime st) : (orb P st P at_).Nodup := by
 rw [List.Nodup, List.pairwise_iff_getElem]
 intro i j hi hj hij he
 rw [orb_len] at hi hj
 have e1 := orb_get P st P at_ i h hi
 have e2 := orb_get P st P at_ j h hj
 rw [List.getElem?_eq_getElem (by rw [orb_len]; exact hi)] at e1
 rw [List.getElem?_eq_getElem (by rw [orb_len]; exact hj)] at e2
 have e : (at_ + i * st) % P = (at_ + j * st) % P := by rw [← Option.some.inj e1, ← Option.some.inj e2, he]
 have hd : P ∣ st * (j - i) := by
  have h1 : (at_ + j * st) = (at_ + i * st) + st * (j - i) := by
   rw [Nat.mul_comm st, Nat.sub_mul]
   have : i * st ≤ j * st := Nat.mul_le_mul_right _ (by omega)
   omega
  rw [h1] at e
  have := Nat.sub_mod_eq_zero_of_mod_eq e.symm
  rw [Nat.add_sub_cancel_left] at this
  exact Nat.dvd_of_mod_eq_zero this
 have h2 := Nat.Coprime.dvd_of_dvd_mul_left hc hd
 have := Nat.le_of_dvd (by omega) h2
 omega
theorem perm_range {l : List Nat} {n : Nat} (hn : l.Nodup) (hl : l.length = n) (h : ∀ x, x ∈ l → x < n) : l.Perm (List.range n) := by
 rw [List.perm_ext_iff_of_nodup hn List.nodup_range]
 intro a
 constructor
 ·intro ha; exact List.mem_range.2 (h a ha)
 ·intro ha
  apply Decidable.byContradiction
  intro hna
  have := Lin.zte (l := a :: l) (m := List.range n) (List.nodup_cons.2 ⟨hna, hn⟩) fun x hx => by
   rcases List.mem_cons.1 hx with rfl | hx
   ·exact ha
   ·exact List.mem_range.2 (h x hx)
  simp at this
  omega
theorem filter_range {L P : Nat} (h : L ≤ P) : ((List.range P).filter (· < L)).length = L := by
 induction P with
 | zero => simp; omega
 | succ P ih =>
  rw [List.range_succ, List.filter_append]
  by_cases hl : L ≤ P
  ·simp [ih hl]; omega
  ·have : L = P + 1 := by omega
   subst this
   have : (List.range P).filter (· < P + 1) = List.range P := List.filter_eq_self.2 fun x hx => by have := List.mem_range.1 hx; simp; omega
   simp [this]
theorem orb_filter {L P st at_ : Nat} (h : at_ < P) (hL : L ≤ P) (hc : P.Coprime st) : ((orb P st P at_).filter (· < L)).length = L := by
 have := ((perm_range (orb_nodup h hc) (orb_len ..) (orb_lt P st h)).filter (fun x => decide (x < L))).length_eq
 rw [this, filter_range hL]
theorem wk_len {L P st : Nat} : ∀ d at_, (wk L P st d at_).length = d
 | 0, _ => rfl
 | d + 1, _ => by simp [wk, wk_len d]
theorem wk_ok {L P st at_ d : Nat} (h : at_ < P) (hL : L ≤ P) (hc : P.Coprime st) (hd : d ≤ L) : (wk L P st d at_).Nodup ∧ ∀ x, x ∈ wk L P st d at_ → x < L := by
 rw [wk_eq (by omega) P at_ d (Nat.le_refl _) (by rw [orb_filter h hL hc]; exact hd)]
 refine ⟨((orb_nodup h hc).filter _).take, fun x hx => ?_⟩
 have := List.mem_filter.1 (List.mem_of_mem_take hx)
 simpa using this.2
theorem nx_ok {L P st at_ : Nat} (h : at_ < P) (hL : L ≤ P) (hL0 : 0 < L) (hc : P.Coprime st) : nx L P st P at_ < L := by
 refine (nx_hit P at_ (fun e => ?_) P (Nat.le_refl _)).1
 have := orb_filter h hL hc
 rw [e] at this; simp at this; omega
def tripN (L P seed esi : Nat) : Nat × Nat × Nat :=
 let y := mixN esi seed
 (min (degN (mixN y 0 % 1048576)) L, 1 + mixN y 1 % (P - 1), mixN y 2 % P)
def walkN (L P seed esi : Nat) : List Nat := wk L P (tripN L P seed esi).2.1 (tripN L P seed esi).1 (tripN L P seed esi).2.2
def rowN (L P seed esi : Nat) : List Nat := (List.range L).filter fun x => decide (x ∈ walkN L P seed esi)
structure Nice (L P : Nat) : Prop where
 L0 : 0 < L
 LP : L ≤ P
 P2 : 2 ≤ P
 cop : ∀ st, 1 ≤ st → st < P → P.Coprime st
theorem trip_ok {L P : Nat} (h : Nice L P) (seed esi : Nat) : 1 ≤ (tripN L P seed esi).1 ∧ (tripN L P seed esi).1 ≤ L ∧ 1 ≤ (tripN L P seed esi).2.1 ∧ (tripN L P seed esi).2.1 < P ∧ (tripN L P seed esi).2.2 < P := by
 have h0 := h.L0
 have h2 := h.P2
 have h3 := degN_pos (mixN (mixN esi seed) 0 % 1048576)
 have h4 := Nat.mod_lt (mixN (mixN esi seed) 1) (show 0 < P - 1 by omega)
 have h5 := Nat.mod_lt (mixN (mixN esi seed) 2) (show 0 < P by omega)
 simp only [tripN]
 omega
theorem walk_ok {L P : Nat} (h : Nice L P) (seed esi : Nat) : (walkN L P seed esi).Nodup ∧ ∀ x, x ∈ walkN L P seed esi → x < L := by
 obtain ⟨h1, h2, h3, h4, h5⟩ := trip_ok h seed esi
 exact wk_ok h5 h.LP (h.cop _ h3 h4) h2
theorem row_perm {L P : Nat} (h : Nice L P) (seed esi : Nat) : (walkN L P seed esi).Perm (rowN L P seed esi) := by
 have hn : (rowN L P seed esi).Nodup := List.nodup_range.filter _
 rw [List.perm_ext_iff_of_nodup (walk_ok h seed esi).1 hn]
 intro a
 simp only [rowN, List.mem_filter, List.mem_range, decide_eq_true_eq]
 exact ⟨fun ha => ⟨(walk_ok h seed esi).2 a ha, ha⟩, fun ha => ha.2⟩
end Sp
end
section
set_option maxHeartbeats 8000000
set_option maxRecDepth 100000
namespace Lin
open Go
set_option linter.unusedSimpArgs false
def val (s : Nat) : List Int → Nat
 | [] => 0
 | x :: l => 2 ^ s * val s l + x.toNat
def Wf (s : Nat) (l : List Int) : Prop := ∀ x, x ∈ l → 0 ≤ x ∧ x < 2 ^ s
theorem Wf.nil (s : Nat) : Wf s [] := fun _ h => by simp at h
theorem Wf.cons {s : Nat} {x : Int} {l : List Int} (h : 0 ≤ x ∧ x < 2 ^ s) (k : Wf s l) : Wf s (x :: l) := fun y hy => by
 rcases List.mem_cons.1 hy with rfl | hy
 ·exact h
 ·exact k y hy
theorem Wf.tail {s : Nat} {x : Int} {l : List Int} (h : Wf s (x :: l)) : Wf s l := fun y hy => h y (List.mem_cons_of_mem _ hy)
theorem Wf.head {s : Nat} {x : Int} {l : List Int} (h : Wf s (x :: l)) : 0 ≤ x ∧ x < 2 ^ s := h x (List.mem_cons_self ..)
theorem Wf.zeros (s n : Nat) : Wf s (List.replicate n 0) := fun y hy => by
 rw [(List.mem_replicate.1 hy).2]
 exact ⟨Int.le_refl _, by exact_mod_cast Nat.two_pow_pos s⟩
theorem Wf.set {s : Nat} {l : List Int} (h : Wf s l) (i : Nat) {x : Int} (hx : 0 ≤ x ∧ x < 2 ^ s) : Wf s (l.set i x) := fun y hy => by
 rcases List.mem_or_eq_of_mem_set hy with hy | rfl
 ·exact h y hy
 ·exact hx
theorem Wf.getD {s : Nat} {l : List Int} (h : Wf s l) (i : Nat) : 0 ≤ l.getD i 0 ∧ l.getD i 0 < 2 ^ s := by
 rw [List.getD_eq_getElem?_getD]
 cases e : l[i]? with
 | none => exact ⟨Int.le_refl _, by simp only [Option.getD_none]; exact_mod_cast Nat.two_pow_pos s⟩
 | some x => exact h x (List.mem_of_getElem? e)
theorem toNat_lt {s : Nat} {x : Int} (h : 0 ≤ x ∧ x < 2 ^ s) : x.toNat < 2 ^ s := by
 have h2 : ((2 : Int) ^ s) = ((2 ^ s : Nat) : Int) := by simp
 rw [h2] at h; omega
theorem val_lt {s : Nat} {l : List Int} (h : Wf s l) : val s l < 2 ^ (s * l.length) := by
 induction l with
 | nil => simp [val]
 | cons x l ih =>
  have h1 := ih h.tail
  have h2 := toNat_lt h.head
  simp only [val, List.length_cons]
  rw [show s * (l.length + 1) = s + s * l.length from by rw [Nat.mul_add]; omega, Nat.pow_add]
  calc 2 ^ s * val s l + x.toNat < 2 ^ s * val s l + 2 ^ s := by omega
   _ = 2 ^ s * (val s l + 1) := by rw [Nat.mul_add, Nat.mul_one]
   _ ≤ 2 ^ s * 2 ^ (s * l.length) := Nat.mul_le_mul_left _ h1
theorem zve {s : Nat} (hs : 0 < s) {l : List Int} (h : Wf s l) (i : Nat) : (val s l).testBit i = ((l.getD (i / s) 0).toNat).testBit (i % s) := by
 induction l generalizing i with
 | nil => simp [val]
 | cons x l ih =>
  simp only [val]
  rw [Nat.testBit_two_pow_mul_add _ (toNat_lt h.head)]
  by_cases hi : i < s
  ·rw [if_pos hi, Nat.div_eq_of_lt hi, Nat.mod_eq_of_lt hi]; rfl
  ·rw [if_neg hi, ih h.tail]
   have e1 : i / s = (i - s) / s + 1 := by rw [Nat.div_eq_sub_div hs (by omega)]
   have e2 : i % s = (i - s) % s := by rw [Nat.mod_eq_sub_mod (by omega)]
   rw [e1, e2]; rfl
theorem val_inj {s : Nat} {l m : List Int} (h : Wf s l) (k : Wf s m) (hl : l.length = m.length) (he : val s l = val s m) : l = m := by
 induction l generalizing m with
 | nil => cases m with
  | nil => rfl
  | cons y m => simp at hl
 | cons x l ih => cases m with
  | nil => simp at hl
  | cons y m =>
   simp only [val] at he
   have hx := toNat_lt h.head
   have hy := toNat_lt k.head
   have e1 : x.toNat = y.toNat := by
    have := congrArg (· % 2 ^ s) he
    simpa [Nat.mul_add_mod, Nat.mod_eq_of_lt hx, Nat.mod_eq_of_lt hy] using this
   have e2 : val s l = val s m := by
    rw [e1] at he
    exact Nat.eq_of_mul_eq_mul_left (Nat.two_pow_pos s) (Nat.add_right_cancel he)
   rw [ih h.tail k.tail (by simpa using hl) e2]
   have := h.head; have := k.head
   rw [show x = y from by omega]
theorem val_zeros (s n : Nat) : val s (List.replicate n 0) = 0 := by
 induction n with
 | zero => rfl
 | succ n ih => simp [List.replicate_succ, val, ih]
theorem val_zero_iff {s : Nat} {l : List Int} (h : Wf s l) : val s l = 0 ↔ ∀ x, x ∈ l → x = 0 := by
 constructor
 ·intro h0
  have := val_inj h (Wf.zeros s l.length) (by simp) (by rw [h0, val_zeros])
  intro x hx; rw [this] at hx; exact (List.mem_replicate.1 hx).2
 ·intro h0
  rw [show l = List.replicate l.length 0 from List.eq_replicate_iff.2 ⟨rfl, h0⟩, val_zeros]
def xorI (a b : Int) : Int := ((a.toNat ^^^ b.toNat : Nat) : Int)
theorem xorI_wf {s : Nat} {a b : Int} (h : 0 ≤ a ∧ a < 2 ^ s) (k : 0 ≤ b ∧ b < 2 ^ s) : 0 ≤ xorI a b ∧ xorI a b < 2 ^ s := by
 refine ⟨by unfold xorI; omega, ?_⟩
 have := Nat.xor_lt_two_pow (toNat_lt h) (toNat_lt k)
 unfold xorI; exact_mod_cast this
def xorL (a b : List Int) : List Int := List.zipWith xorI a b
theorem zce {a b : List Int} (h : a.length = b.length) : (xorL a b).length = a.length := by simp [xorL, h]
theorem xorL_wf {s : Nat} {a b : List Int} (h : Wf s a) (k : Wf s b) : Wf s (xorL a b) := by
 induction a generalizing b with
 | nil => simp [xorL, Wf]
 | cons x a ih => cases b with
  | nil => simp [xorL, Wf]
  | cons y b => exact Wf.cons (xorI_wf h.head k.head) (ih h.tail k.tail)
theorem xorL_getD {a b : List Int} (h : a.length = b.length) (i : Nat) : (xorL a b).getD i 0 = xorI (a.getD i 0) (b.getD i 0) := by
 induction a generalizing b i with
 | nil => cases b with
  | nil => simp [xorL, xorI]
  | cons y b => simp at h
 | cons x a ih => cases b with
  | nil => simp at h
  | cons y b => cases i with
   | zero => simp [xorL]
   | succ i => have := ih (b := b) (by simpa using h) i; simpa [xorL] using this
theorem val_xorL {s : Nat} (hs : 0 < s) {a b : List Int} (h : Wf s a) (k : Wf s b) (hl : a.length = b.length) : val s (xorL a b) = val s a ^^^ val s b := by
 apply Nat.eq_of_testBit_eq
 intro i
 rw [zve hs (xorL_wf h k), xorL_getD hl, Nat.testBit_xor, zve hs h, zve hs k]
 unfold xorI
 rw [Int.toNat_natCast, Nat.testBit_xor]
theorem bits_xor_u64 {a b : Int} (h : 0 ≤ a ∧ a < 2 ^ 64) (k : 0 ≤ b ∧ b < 2 ^ 64) : Go.bits .xor .u64 a b = xorI a b := by
 have := bits_xor_u64_nat a.toNat b.toNat (by have := toNat_lt h; simpa using this) (by have := toNat_lt k; simpa using this)
 rwa [Int.toNat_of_nonneg h.1, Int.toNat_of_nonneg k.1] at this
theorem bits_or_u64 {a b : Int} (h : 0 ≤ a ∧ a < 2 ^ 64) (k : 0 ≤ b ∧ b < 2 ^ 64) : Go.bits .or .u64 a b = ((a.toNat ||| b.toNat : Nat) : Int) := by
 have := bits_or_u64_nat a.toNat b.toNat (by have := toNat_lt h; simpa using this) (by have := toNat_lt k; simpa using this)
 rwa [Int.toNat_of_nonneg h.1, Int.toNat_of_nonneg k.1] at this
theorem bits_and_u64 {a b : Int} (h : 0 ≤ a ∧ a < 2 ^ 64) (k : 0 ≤ b ∧ b < 2 ^ 64) : Go.bits .and .u64 a b = ((a.toNat &&& b.toNat : Nat) : Int) := by
 have := bits_and_u64_nat a.toNat b.toNat (by have := toNat_lt h; simpa using this) (by have := toNat_lt k; simpa using this)
 rwa [Int.toNat_of_nonneg h.1, Int.toNat_of_nonneg k.1] at this
theorem bits_xor_small (k : IntKind) (s : Nat) (hk : k.bits = s) (hw : ∀ n : Int, 0 ≤ n → n < 2 ^ s → k.wrap n = n) {a b : Int} (ha : 0 ≤ a ∧ a < 2 ^ s) (hb : 0 ≤ b ∧ b < 2 ^ s) : Go.bits .xor k a b = xorI a b := by
 have h1 := toNat_lt ha
 have h2 := toNat_lt hb
 obtain ⟨a, rfl⟩ := Int.eq_ofNat_of_zero_le ha.1
 obtain ⟨b, rfl⟩ := Int.eq_ofNat_of_zero_le hb.1
 simp only [Int.toNat_natCast] at h1 h2
 unfold Go.bits
 subst hk
 simp only [BitVec.ofInt_natCast, BitVec.toNat_xor, BitVec.toNat_ofNat, Nat.mod_eq_of_lt h1, Nat.mod_eq_of_lt h2]
 rw [hw _ (Int.natCast_nonneg _) (by exact_mod_cast Nat.xor_lt_two_pow h1 h2)]
 simp [xorI]
theorem bits_xor_u8 {a b : Int} (h : 0 ≤ a ∧ a < 2 ^ 8) (k : 0 ≤ b ∧ b < 2 ^ 8) : Go.bits .xor .u8 a b = xorI a b :=
 bits_xor_small .u8 8 rfl (fun n h0 h1 => by rw [IntKind.wrap_u8]; omega) h k
theorem bits_xor_u32 {a b : Int} (h : 0 ≤ a ∧ a < 2 ^ 32) (k : 0 ≤ b ∧ b < 2 ^ 32) : Go.bits .xor .u32 a b = xorI a b :=
 bits_xor_small .u32 32 rfl (fun n h0 h1 => by rw [IntKind.wrap_u32]; omega) h k
theorem val_setBit {s : Nat} (hs : 0 < s) {l : List Int} (h : Wf s l) (i : Nat) (hi : i / s < l.length) :
  Wf s (l.set (i / s) ((((l.getD (i / s) 0).toNat ||| 2 ^ (i % s) : Nat)) : Int)) ∧ val s (l.set (i / s) ((((l.getD (i / s) 0).toNat ||| 2 ^ (i % s) : Nat)) : Int)) = val s l ||| 2 ^ i := by
 have hlt : (l.getD (i / s) 0).toNat ||| 2 ^ (i % s) < 2 ^ s := Nat.or_lt_two_pow (toNat_lt (h.getD _)) (Nat.pow_lt_pow_right (by omega) (Nat.mod_lt _ hs))
 have hw : Wf s (l.set (i / s) ((((l.getD (i / s) 0).toNat ||| 2 ^ (i % s) : Nat)) : Int)) := h.set _ ⟨by omega, by exact_mod_cast hlt⟩
 refine ⟨hw, ?_⟩
 apply Nat.eq_of_testBit_eq
 intro j
 rw [zve hs hw, Nat.testBit_or, zve hs h, Nat.testBit_two_pow]
 by_cases hj : i / s = j / s
 ·have e : (l.set (i / s) ((((l.getD (i / s) 0).toNat ||| 2 ^ (i % s) : Nat)) : Int)).getD (j / s) 0 = ((((l.getD (i / s) 0).toNat ||| 2 ^ (i % s) : Nat)) : Int) := by
   rw [← hj, List.getD_eq_getElem?_getD, List.getElem?_set_self hi]; rfl
  rw [e, Int.toNat_natCast, Nat.testBit_or, hj, Nat.testBit_two_pow]
  congr 1
  have d1 := Nat.div_add_mod i s
  have d2 := Nat.div_add_mod j s
  rw [hj] at d1
  by_cases hm : i % s = j % s
  ·have : i = j := by omega
   simp [*]
  ·have : i ≠ j := fun e => hm (by rw [e])
   simp [*]
 ·have e : (l.set (i / s) ((((l.getD (i / s) 0).toNat ||| 2 ^ (i % s) : Nat)) : Int)).getD (j / s) 0 = l.getD (j / s) 0 := by
   rw [List.getD_eq_getElem?_getD, List.getElem?_set_ne hj, ← List.getD_eq_getElem?_getD]
  have : i ≠ j := fun e => hj (by rw [e])
  rw [e]; simp [this]
end Lin
end
section
set_option maxHeartbeats 8000000
set_option maxRecDepth 100000
namespace Go.Proofs.YtnglindlofmknaaGreatDoor.B
open Go.RowKit Go.Proofs.YW.PrintWords Go.Proofs.YW.PrintLast Go.Proofs.YW.PrintMore
open Sp
set_option linter.unusedVariables false
set_option linter.unusedSimpArgs false
def zs (l : List Nat) : List Int := l.map fun (n : Nat) => (n : Int)
theorem zcf (l : List Nat) : (zs l).length = l.length := by simp [zs]
theorem zgf (l m : List Nat) : zs (l ++ m) = zs l ++ zs m := by simp [zs]
theorem zs_getD (l : List Nat) (i : Nat) : (zs l).getD i 0 = ((l.getD i 0 : Nat) : Int) := by
 simp only [zs, List.getD_eq_getElem?_getD, List.getElem?_map]
 cases l[i]? <;> rfl
theorem bind_of {α β : Type} {o : Option α} {f : α → Option β} {a : α} {r : Option β} (h : o = some a) (k : f a = r) : o.bind f = r := by rw [h]; exact k
theorem xor32 {a b : Nat} (h : a < 4294967296) (k : b < 4294967296) : Go.bits .xor .u32 (a : Int) (b : Int) = ((a ^^^ b : Nat) : Int) := by
 rw [Lin.bits_xor_u32 ⟨by omega, by omega⟩ ⟨by omega, by omega⟩]
 simp [Lin.xorI]
theorem xor64 {a b : Nat} (h : a < 18446744073709551616) (k : b < 18446744073709551616) : Go.bits .xor .u64 (a : Int) (b : Int) = ((a ^^^ b : Nat) : Int) := bits_xor_u64_nat a b h k
theorem mix_tail (h : Nat) (h0 : h < 4294967296) :
  some (Go.bits .xor .u32 (((Go.bits .xor .u32 (((Go.bits .xor .u32 (h : Int) ((h : Int) / 65536)) * 2246822507) % 4294967296) ((((Go.bits .xor .u32 (h : Int) ((h : Int) / 65536)) * 2246822507) % 4294967296) / 8192)) * 3266489909) % 4294967296) ((((Go.bits .xor .u32 (((Go.bits .xor .u32 (h : Int) ((h : Int) / 65536)) * 2246822507) % 4294967296) ((((Go.bits .xor .u32 (h : Int) ((h : Int) / 65536)) * 2246822507) % 4294967296) / 8192)) * 3266489909) % 4294967296) / 65536)) = some (mixT h : Int) := by
 have e1 : ∀ h : Nat, h < 4294967296 → Go.bits .xor .u32 (h : Int) ((h : Int) / 65536) = ((s16 h : Nat) : Int) := fun h k => by
  rw [show ((h : Int) / 65536) = ((h / 65536 : Nat) : Int) by omega, xor32 k (by omega)]; rfl
 have e2 : ∀ h : Nat, h < 4294967296 → Go.bits .xor .u32 (h : Int) ((h : Int) / 8192) = ((s13 h : Nat) : Int) := fun h k => by
  rw [show ((h : Int) / 8192) = ((h / 8192 : Nat) : Int) by omega, xor32 k (by omega)]; rfl
 rw [e1 h h0]
 have e3 : ((s16 h : Nat) : Int) * 2246822507 % 4294967296 = ((s16 h * 2246822507 % 4294967296 : Nat) : Int) := by omega
 rw [e3, e2 _ (Nat.mod_lt _ (by decide))]
 have e4 : ((s13 (s16 h * 2246822507 % 4294967296) : Nat) : Int) * 3266489909 % 4294967296 = ((s13 (s16 h * 2246822507 % 4294967296) * 3266489909 % 4294967296 : Nat) : Int) := by omega
 rw [e4, e1 _ (Nat.mod_lt _ (by decide))]
 rfl
theorem mix_f (x s : Nat) : mix_Mix.f (x : Int) (s : Int) = some (mixN x s : Int) := by
 unfold mix_Mix.f
 have e0 : ((((x : Int) * 2654435761) % 4294967296) + (s : Int)) % 4294967296 = (((x * 2654435761 + s) % 4294967296 : Nat) : Int) := by omega
 rw [e0]
 exact mix_tail _ (Nat.mod_lt _ (by decide))
theorem times_tail (u v : Nat) (q1 : u ≤ 4294967295 * 65535) (q2 : v ≤ 4294967295 * 65535) :
  some (Int.tmod (IntKind.u64.wrap ((IntKind.u64.wrap (u : Int)) + (IntKind.u64.wrap ((Int.tmod (IntKind.u64.wrap (v : Int)) 4294967296) * 65536)))) 4294967296) = some (((u + v * 65536) % 4294967296 : Nat) : Int) := by
 rw [u64w (x := (u : Int)) (by omega) (by omega), u64w (x := (v : Int)) (by omega) (by omega), tmodE (by omega : (0 : Int) ≤ v)]
 rw [u64w (x := (v : Int) % 4294967296 * 65536) (by omega) (by omega), u64w (x := (u : Int) + (v : Int) % 4294967296 * 65536) (by omega) (by omega), tmodE (by omega)]
 exact congrArg some (by omega)
theorem ref06_times (a b : Nat) (ha : a < 4294967296) (hb : b < 4294967296) : zwb.f (a : Int) (b : Int) = some ((a * b % 4294967296 : Nat) : Int) := by
 unfold zwb.f
 rw [tmodE (by omega : (0 : Int) ≤ b), tdivE (by omega : (0 : Int) ≤ b)]
 have d1 : (b : Int) % 65536 = ((b % 65536 : Nat) : Int) := by omega
 have d2 : (b : Int) / 65536 = ((b / 65536 : Nat) : Int) := by omega
 rw [d1, d2, u64w (x := ((b / 65536 : Nat) : Int)) (by omega) (by omega)]
 have p1 : (a : Int) * ((b % 65536 : Nat) : Int) = ((a * (b % 65536) : Nat) : Int) := by rw [Int.natCast_mul]
 have p2 : (a : Int) * ((b / 65536 : Nat) : Int) = ((a * (b / 65536) : Nat) : Int) := by rw [Int.natCast_mul]
 have q1 : a * (b % 65536) ≤ 4294967295 * 65535 := Nat.mul_le_mul (by omega) (by omega)
 have q2 : a * (b / 65536) ≤ 4294967295 * 65535 := Nat.mul_le_mul (by omega) (by omega)
 have q3 : a * b = a * (b % 65536) + a * (b / 65536) * 65536 := by
  conv => lhs; rw [← Nat.div_add_mod b 65536]
  rw [Nat.mul_add, Nat.mul_comm 65536, ← Nat.mul_assoc]; omega
 rw [p1, p2, q3]
 exact times_tail _ _ q1 q2
theorem ref06_fold16 (h : Nat) (k : h < 4294967296) : zib.f (h : Int) 16 = some ((s16 h : Nat) : Int) := by
 unfold zib.f
 rw [if_pos (by decide)]
 have e : shr .u64 (h : Int) 16 = ((h / 65536 : Nat) : Int) := by
  unfold shr
  show (h : Int) / 2 ^ (min 16 64) = _
  rw [show (2 : Int) ^ (min 16 64) = 65536 from by decide]; omega
 rw [e, xor64 (by omega) (by omega)]; rfl
theorem ref06_fold13 (h : Nat) (k : h < 4294967296) : zib.f (h : Int) 13 = some ((s13 h : Nat) : Int) := by
 unfold zib.f
 rw [if_pos (by decide)]
 have e : shr .u64 (h : Int) 13 = ((h / 8192 : Nat) : Int) := by
  unfold shr
  show (h : Int) / 2 ^ (min 13 64) = _
  rw [show (2 : Int) ^ (min 13 64) = 8192 from by decide]; omega
 rw [e, xor64 (by omega) (by omega)]; rfl
theorem ref06_tail (h : Nat) (h0 : h < 4294967296) : ((zib.f (h : Int) 16).bind fun t382 => ((zwb.f t382 2246822507).bind fun t383 => ((zib.f t383 13).bind fun t384 => ((zwb.f t384 3266489909).bind fun t385 => ((zib.f t385 16).bind fun t386 => (some ((t386) % 4294967296))))))) = some (mixT h : Int) := by
 refine bind_of (ref06_fold16 h h0) ?_
 have t1 := ref06_times (s16 h) 2246822507 (s16_lt h0) (by decide)
 rw [show ((2246822507 : Nat) : Int) = 2246822507 from rfl] at t1
 refine bind_of (t1) ?_
 refine bind_of (ref06_fold13 _ (Nat.mod_lt _ (by decide))) ?_
 have t2 := ref06_times (s13 (s16 h * 2246822507 % 4294967296)) 3266489909 (s13_lt (Nat.mod_lt _ (by decide))) (by decide)
 rw [show ((3266489909 : Nat) : Int) = 3266489909 from rfl] at t2
 refine bind_of (t2) ?_
 refine bind_of (ref06_fold16 _ (Nat.mod_lt _ (by decide))) ?_
 have := s16_lt (h := s13 (s16 h * 2246822507 % 4294967296) * 3266489909 % 4294967296) (Nat.mod_lt _ (by decide))
 unfold mixT
 exact congrArg some (by omega)
theorem ref06_mix (x s : Nat) (hx : x < 4294967296) (hs : s < 4294967296) : zxd.f (x : Int) (s : Int) = some (mixN x s : Int) := by
 unfold zxd.f
 rw [u64w (x := (x : Int)) (by omega) (by omega), u64w (x := (s : Int)) (by omega) (by omega)]
 have t1 := ref06_times x 2654435761 hx (by decide)
 rw [show ((2654435761 : Nat) : Int) = 2654435761 from rfl] at t1
 refine bind_of (t1) ?_
 have e : Int.tmod (IntKind.u64.wrap (((x * 2654435761 % 4294967296 : Nat) : Int) + (s : Int))) 4294967296 = (((x * 2654435761 + s) % 4294967296 : Nat) : Int) := by
  rw [u64w (by omega) (by omega), tmodE (by omega)]; omega
 rw [e]
 exact ref06_tail _ (Nat.mod_lt _ (by decide))
theorem below_f (x s m : Nat) (h1 : 1 ≤ m) (h2 : m ≤ 1048576) : Ev (fun k => zwd.f k (x : Int) (s : Int) (m : Int)) (((mixN x s % m : Nat) : Int), none) := by
 refine zbc (by omega) ?_
 refine zqa ?_
 simp only [zwd.j0]
 refine zbc (by simp; omega) ?_
 refine zle (mix_f x s) ?_
 have e : (m : Int) % 4294967296 = m := by omega
 rw [e]
 refine zbc (by omega) ?_
 refine zpd ?_
 have h3 := Nat.mod_lt (mixN x s) (show 0 < m by omega)
 rw [tmodE (by omega), ← Int.natCast_emod, w64 (by omega) (by omega)]
theorem ref06_below (x s m : Nat) (hx : x < 4294967296) (hs : s < 4294967296) (h1 : 1 ≤ m) (h2 : m ≤ 1048576) : zob.f (x : Int) (s : Int) (m : Int) = some ((mixN x s % m : Nat) : Int) := by
 unfold zob.f
 refine bind_of (ref06_mix x s hx hs) ?_
 have h3 := Nat.mod_lt (mixN x s) (show 0 < m by omega)
 have h4 := mixN_lt x s
 rw [u64w (x := (m : Int)) (by omega) (by omega), if_neg (by omega), u64w (x := (mixN x s : Int)) (by omega) (by omega), tmodE (by omega), ← Int.natCast_emod, w64 (by omega) (by omega)]
theorem degree_f (v : Nat) (h : v < 1048576) : degree_Of.f (v : Int) = some ((degN v : Int), none) := by
 unfold degree_Of.f
 rw [if_pos (by omega), if_pos (by omega)]
 simp only [degAt, degB, degD]
 unfold degN
 by_cases c1 : v < 10241
 ·rw [if_pos (by omega), if_pos c1]; rfl
 rw [if_neg (by omega), if_neg c1]
 by_cases c2 : v < 491582
 ·rw [if_pos (by omega), if_pos c2]; rfl
 rw [if_neg (by omega), if_neg c2]
 by_cases c3 : v < 712794
 ·rw [if_pos (by omega), if_pos c3]; rfl
 rw [if_neg (by omega), if_neg c3]
 by_cases c4 : v < 831695
 ·rw [if_pos (by omega), if_pos c4]; rfl
 rw [if_neg (by omega), if_neg c4]
 by_cases c5 : v < 948446
 ·rw [if_pos (by omega), if_pos c5]; rfl
 rw [if_neg (by omega), if_neg c5]
 by_cases c6 : v < 1032189
 ·rw [if_pos (by omega), if_pos c6]; rfl
 rw [if_neg (by omega), if_neg c6, if_pos (by omega)]; rfl
theorem ref07_f (v : Nat) : zne.f (v : Int) = some (degN v : Int) := by
 unfold zne.f degN
 by_cases c1 : v < 10241
 ·rw [if_pos (by omega), if_pos c1]; rfl
 rw [if_neg (by omega), if_neg c1]
 by_cases c2 : v < 491582
 ·rw [if_pos (by omega), if_pos c2]; rfl
 rw [if_neg (by omega), if_neg c2]
 by_cases c3 : v < 712794
 ·rw [if_pos (by omega), if_pos c3]; rfl
 rw [if_neg (by omega), if_neg c3]
 by_cases c4 : v < 831695
 ·rw [if_pos (by omega), if_pos c4]; rfl
 rw [if_neg (by omega), if_neg c4]
 by_cases c5 : v < 948446
 ·rw [if_pos (by omega), if_pos c5]; rfl
 rw [if_neg (by omega), if_neg c5]
 by_cases c6 : v < 1032189
 ·rw [if_pos (by omega), if_pos c6]; rfl
 rw [if_neg (by omega), if_neg c6]; rfl
theorem mn_nat (a b : Nat) : mn (a : Int) (b : Int) = ((min a b : Nat) : Int) := by unfold mn; split <;> omega
theorem trip1 (L P seed esi : Nat) : (tripN L P seed esi).1 = min (degN (mixN (mixN esi seed) 0 % 1048576)) L := rfl
theorem trip2 (L P seed esi : Nat) : (tripN L P seed esi).2.1 = 1 + mixN (mixN esi seed) 1 % (P - 1) := rfl
theorem trip3 (L P seed esi : Nat) : (tripN L P seed esi).2.2 = mixN (mixN esi seed) 2 % P := rfl
theorem trip_f {L P : Nat} (h : Nice L P) (hP : P ≤ 1048576) (K S H : Int) (seed esi : Nat) (hs : seed < 4294967296) (he : esi < 4294967296) :
  Ev (fun k => zuf.f k K S H (L : Int) (P : Int) (seed : Int) (esi : Int)) (((tripN L P seed esi).1 : Int), ((tripN L P seed esi).2.1 : Int), ((tripN L P seed esi).2.2 : Int), none) := by
 have h2 := h.P2
 have e1 : (esi : Int) % 4294967296 = esi := by omega
 have e2 : (seed : Int) % 4294967296 = seed := by omega
 have e3 : wrap64 ((P : Int) - 1) = ((P - 1 : Nat) : Int) := by rw [w64 (by omega) (by omega)]; omega
 unfold zuf.f
 rw [e1, e2, e3]
 refine zle (mix_f esi seed) ?_
 have f0 := below_f (mixN esi seed) 0 1048576 (by decide) (by decide)
 have f1 := below_f (mixN esi seed) 1 (P - 1) (by omega) (by omega)
 have f2 := below_f (mixN esi seed) 2 P (by omega) (by omega)
 simp only [show ((0 : Nat) : Int) = 0 from rfl, show ((1 : Nat) : Int) = 1 from rfl, show ((2 : Nat) : Int) = 2 from rfl, show ((1048576 : Nat) : Int) = 1048576 from rfl] at f0 f1 f2
 refine zjb f0 ?_
 refine zx rfl ?_
 have hv := Nat.mod_lt (mixN (mixN esi seed) 0) (show 0 < 1048576 by decide)
 refine zle (degree_f _ hv) ?_
 refine zx rfl ?_
 refine zjb f1 ?_
 refine zx rfl ?_
 refine zjb f2 ?_
 refine zx rfl ?_
 refine zpd ?_
 have h4 := Nat.mod_lt (mixN (mixN esi seed) 1) (show 0 < P - 1 by omega)
 rw [mn_nat, trip1, trip2, trip3]
 generalize mixN (mixN esi seed) 1 % (P - 1) = u at h4 ⊢
 rw [w64 (by omega) (by omega), show ((1 + u : Nat) : Int) = 1 + (u : Int) from by omega]
theorem ref10_trip {L P : Nat} (h : Nice L P) (hP : P ≤ 1048576) (K S H : Int) (seed esi : Nat) (hs : seed < 4294967296) (he : esi < 4294967296) :
  zpc.f K S H (L : Int) (P : Int) (seed : Int) (esi : Int) = some (((tripN L P seed esi).1 : Int), ((tripN L P seed esi).2.1 : Int), ((tripN L P seed esi).2.2 : Int)) := by
 have h2 := h.P2
 have e1 : (esi : Int) % 4294967296 = esi := by omega
 have e2 : (seed : Int) % 4294967296 = seed := by omega
 have e3 : wrap64 ((P : Int) - 1) = ((P - 1 : Nat) : Int) := by rw [w64 (by omega) (by omega)]; omega
 have hm := mixN_lt esi seed
 unfold zpc.f
 rw [e1, e2, e3]
 refine bind_of (ref06_mix esi seed he hs) ?_
 have f0 := ref06_below (mixN esi seed) 0 1048576 hm (by decide) (by decide) (by decide)
 have f1 := ref06_below (mixN esi seed) 1 (P - 1) hm (by decide) (by omega) (by omega)
 have f2 := ref06_below (mixN esi seed) 2 P hm (by decide) (by omega) (by omega)
 simp only [show ((0 : Nat) : Int) = 0 from rfl, show ((1 : Nat) : Int) = 1 from rfl, show ((2 : Nat) : Int) = 2 from rfl, show ((1048576 : Nat) : Int) = 1048576 from rfl] at f0 f1 f2
 refine bind_of f0 ?_
 refine bind_of (ref07_f _) ?_
 refine bind_of f1 ?_
 refine bind_of f2 ?_
 have h4 := Nat.mod_lt (mixN (mixN esi seed) 1) (show 0 < P - 1 by omega)
 rw [mn_nat, trip1, trip2, trip3]
 generalize mixN (mixN esi seed) 1 % (P - 1) = u at h4 ⊢
 rw [w64 (by omega) (by omega), show ((1 + u : Nat) : Int) = 1 + (u : Int) from by omega]
structure Par (K S H L P : Nat) : Prop where
 own : Ev (fun k => zgb.f k (K : Int)) ((K : Int), (S : Int), (H : Int), (L : Int), (P : Int), none)
 ref : Ev (fun k => zkb.f k (K : Int)) ((K : Int), (S : Int), (H : Int), (L : Int), (P : Int))
 K1 : 1 ≤ K
 K128 : K ≤ 128
 sum : L = K + S + H
 S3 : 3 ≤ S
 odd : S % 2 = 1
 H1 : 1 ≤ H
 H20 : H ≤ 20
 P1 : P ≤ 1000
 nice : Nice L P
 Sc : ∀ a, 1 ≤ a → a < S → S.Coprime a
theorem cast_step (a b P : Nat) : ((a : Int) + (b : Int)) % (P : Int) = (((a + b) % P : Nat) : Int) := by
 rw [Int.natCast_emod, Int.natCast_add]
theorem ltrow_check_true {K S H L P : Nat} (h : Par K S H L P) : Ev (fun k => zwe.f k (K : Int) S H L P) true := by
 refine zjb h.own ?_
 refine zx rfl ?_
 refine zpd ?_
 simp
theorem walk_skip (L P st : Nat) (deg : Int) (out : List Int) (r : List Int × Option Int) : ∀ (f at_ : Nat),
  Ev (fun k => zad.l0 k (L : Int) P deg st out ((nx L P st f at_ : Nat) : Int)) r → Ev (fun k => zad.l0 k (L : Int) P deg st out (at_ : Int)) r
 | 0, _, h => h
 | f + 1, at_, h => by
  by_cases hl : at_ < L
  ·rwa [nx_lt hl] at h
  ·rw [nx_ge hl] at h
   have := walk_skip L P st deg out r f _ h
   refine zqa ?_
   simp only [zad.l0]
   refine zbc (by omega) ?_
   rw [cast_step]
   exact this
theorem walkFrom {L P st : Nat} (h : Nice L P) (hc : P.Coprime st) (hst : st < P) (hL : L ≤ 1000) : ∀ (d : Nat) (out : List Int) (at_ : Nat) (deg : Int), at_ < P → (out.length : Int) + ((d + 1 : Nat) : Int) = deg → out.length + d ≤ 1000 →
  Ev (fun k => zad.l0 k (L : Int) P deg st out (at_ : Int)) (out ++ zs (wk L P st (d + 1) at_), none) := by
 intro d
 induction d with
 | zero =>
  intro out at_ deg hat hd ho
  refine walk_skip L P st deg out _ P at_ ?_
  have hx := nx_ok hat h.LP h.L0 hc
  refine zqa ?_
  simp only [zad.l0]
  refine zx (by omega) ?_
  refine zx (by simp; omega) ?_
  refine zpd ?_
  simp [wk, zs]
 | succ d ih =>
  intro out at_ deg hat hd ho
  refine walk_skip L P st deg out _ P at_ ?_
  have hx := nx_ok hat h.LP h.L0 hc
  refine zqa ?_
  simp only [zad.l0]
  refine zx (by omega) ?_
  refine zbc (by simp; omega) ?_
  refine zx (by omega) ?_
  rw [cast_step]
  have := ih (out ++ [((nx L P st P at_ : Nat) : Int)]) ((nx L P st P at_ + st) % P) deg (Nat.mod_lt _ (by omega)) (by simp; omega) (by simp; omega)
  refine Ev_eq this ?_
  rw [List.append_assoc]
  rfl
theorem ltrow_Walk_f {K S H L P : Nat} (h : Par K S H L P) {d st at_ : Nat} (h1 : 1 ≤ d) (h2 : d ≤ L) (h3 : 1 ≤ st) (h4 : st < P) (h5 : at_ < P) :
  Ev (fun k => zad.f k (K : Int) S H L P d st at_) (zs (wk L P st d at_), none) := by
 have hP := h.P1
 have hn := h.nice
 have hLP := hn.LP
 unfold zad.f
 refine zjb (ltrow_check_true h) ?_
 refine zx rfl ?_
 refine zx (by omega) ?_
 refine zx (by omega) ?_
 refine zx (by omega) ?_
 refine zx (by omega) ?_
 refine zx (by omega) ?_
 refine zx (by omega) ?_
 refine zx (by omega) ?_
 refine zx (by omega) ?_
 obtain ⟨d, rfl⟩ : ∃ m, d = m + 1 := ⟨d - 1, by omega⟩
 have := walkFrom hn (hn.cop st h3 h4) h4 (by omega) d [] at_ ((d + 1 : Nat) : Int) h5 (by simp) (by simp; omega)
 simpa using this
theorem zs_pairwise {l : List Nat} (h : l.Pairwise (· < ·)) : (zs l).Pairwise (fun a b => decide (a ≤ b) = true) := by
 unfold zs
 rw [List.pairwise_map]
 exact h.imp fun {a b} hab => by simp; omega
theorem sort_row {w r : List Nat} (hp : w.Perm r) (hr : r.Pairwise (· < ·)) : ((zs w).mergeSort fun x y => decide (x ≤ y)) = zs r := by
 have h1 : ((zs w).mergeSort fun x y => decide (x ≤ y)).Perm (zs r) := (List.mergeSort_perm _ _).trans (hp.map _)
 refine List.Perm.eq_of_pairwise (le := fun a b => decide (a ≤ b) = true) ?_ ?_ (zs_pairwise hr) h1
 ·intro a b _ _ hab hba
  simp at hab hba; omega
 ·exact List.pairwise_mergeSort (fun a b c hab hbc => by simp at *; omega) (fun a b => by simp; omega) _
theorem row_sorted (L P seed esi : Nat) : (rowN L P seed esi).Pairwise (· < ·) := List.pairwise_lt_range.filter _
theorem ltrow_Row_f {K S H L P : Nat} (h : Par K S H L P) {seed esi : Nat} (hs : seed < 65536) (he : esi < 65536) :
  Ev (fun k => ltrow_Row.f k (K : Int) S H L P seed esi) (zs (rowN L P seed esi), none) := by
 have hP := h.P1
 obtain ⟨t1, t2, t3, t4, t5⟩ := trip_ok h.nice seed esi
 have htrip : Ev (fun k => zac.f k (K : Int) S H L P seed esi) (((tripN L P seed esi).1 : Int), ((tripN L P seed esi).2.1 : Int), ((tripN L P seed esi).2.2 : Int), none) := by
  unfold zac.f
  refine zjb (ltrow_check_true h) ?_
  refine zx rfl ?_
  refine zbc (by omega) ?_
  refine zbc (by omega) ?_
  refine zbc (by omega) ?_
  refine zqa ?_
  simp only [zac.j0]
  refine zbc (by simp; omega) ?_
  refine zjb (trip_f h.nice (by omega) _ _ _ seed esi (by omega) (by omega)) ?_
  exact zle (a := none) rfl (zjd _)
 unfold ltrow_Row.f
 refine zjb htrip ?_
 refine zx rfl ?_
 refine zjb (ltrow_Walk_f h t1 t2 t3 t4 t5) ?_
 have hlen : (zs (wk L P (tripN L P seed esi).2.1 (tripN L P seed esi).1 (tripN L P seed esi).2.2)).length = (tripN L P seed esi).1 := by rw [zcf, wk_len]
 have hsort : zec.f (zs (wk L P (tripN L P seed esi).2.1 (tripN L P seed esi).1 (tripN L P seed esi).2.2)) = some (zs (rowN L P seed esi)) := by
  unfold zec.f
  have hLP := h.nice.LP
  rw [if_neg (by omega), if_pos (by omega)]
  exact congrArg some (sort_row (row_perm h.nice seed esi) (row_sorted L P seed esi))
 refine zle hsort ?_
 exact zle (a := none) rfl (zjd _)
theorem on_f (L P st : Nat) (K S H : Int) (hP : 0 < P) (hP2 : P ≤ 1000) (hst : st < P) : ∀ (m i at_ : Nat), i + m = P → at_ < P →
  Ev (fun k => ztc.l0 k (at_ : Int) st i K S H L P) ((nx L P st m at_ : Nat) : Int) := by
 intro m
 induction m with
 | zero =>
  intro i at_ hi hat
  refine zqa ?_
  simp only [ztc.l0]
  refine zbc (by omega) ?_
  exact zjd _
 | succ m ih =>
  intro i at_ hi hat
  refine zqa ?_
  simp only [ztc.l0]
  refine zx (by omega) ?_
  by_cases hl : at_ < L
  ·rw [nx_lt hl]
   refine zbc (by omega) ?_
   exact zjd _
  ·rw [nx_ge hl]
   refine zx (by omega) ?_
   refine zbc (by omega) ?_
   rw [w64 (by omega) (by omega), w64 (by omega) (by omega), tmodE (by omega), cast_step]
   exact ih (i + 1) _ (by omega) (Nat.mod_lt _ hP)
theorem ref10_on {L P st : Nat} (K S H : Int) (hP : 0 < P) (hP2 : P ≤ 1000) (hst : st < P) {at_ : Nat} (hat : at_ < P) :
  Ev (fun k => ztc.f k K S H L P at_ st) ((nx L P st P at_ : Nat) : Int) := on_f L P st K S H hP hP2 hst P 0 at_ (by omega) hat
theorem ref10_walk_l0 {L P st : Nat} (h : Nice L P) (hc : P.Coprime st) (hst : st < P) (hP : P ≤ 1000) (K S H : Int) (a at0 : Int) : ∀ (m : Nat) (out : List Int) (i d x : Nat), i + m = d → x < L → out.length = i → d ≤ 1000 →
  Ev (fun k => zbb.l0 k (x : Int) out i K S H L P d st at0) (out ++ zs (wk L P st m ((x + st) % P))) := by
 intro m
 induction m with
 | zero =>
  intro out i d x hi hx ho hd
  refine zqa ?_
  simp only [zbb.l0]
  refine zbc (by omega) ?_
  exact zpd (by simp [wk, zs])
 | succ m ih =>
  intro out i d x hi hx ho hd
  have hLP := h.LP
  refine zqa ?_
  simp only [zbb.l0]
  refine zx (by omega) ?_
  refine zbc (by omega) ?_
  rw [w64 (x := (x : Int) + st) (by omega) (by omega), tmodE (by omega), cast_step]
  refine zjb (ref10_on K S H (by omega) hP hst (Nat.mod_lt _ (by omega))) ?_
  refine zx (by omega) ?_
  rw [w64 (by omega) (by omega)]
  have hx2 := nx_ok (st := st) (Nat.mod_lt (x + st) (show 0 < P by omega)) h.LP h.L0 hc
  have := ih (out ++ [((nx L P st P ((x + st) % P) : Nat) : Int)]) (i + 1) d _ (by omega) hx2 (by simp; omega) hd
  refine Ev_eq this ?_
  rw [List.append_assoc]; rfl
theorem ref10_walk {K S H L P : Nat} (h : Par K S H L P) {d st at_ : Nat} (h1 : 1 ≤ d) (h2 : d ≤ L) (h3 : 1 ≤ st) (h4 : st < P) (h5 : at_ < P) :
  Ev (fun k => zbb.f k (K : Int) S H L P d st at_) (zs (wk L P st d at_)) := by
 have hP := h.P1
 have hn := h.nice
 have hLP := hn.LP
 have hc := hn.cop st h3 h4
 refine zjb (ref10_on _ _ _ (by omega) hP h4 h5) ?_
 obtain ⟨d, rfl⟩ : ∃ m, d = m + 1 := ⟨d - 1, by omega⟩
 have := ref10_walk_l0 hn hc h4 hP (K : Int) S H 0 at_ d [((nx L P st P at_ : Nat) : Int)] 1 (d + 1) _ (by omega) (nx_ok h5 hn.LP hn.L0 hc) rfl (by omega)
 exact Ev_eq this rfl
theorem in_l0 (l : List Int) (c : Int) (hl : l.length ≤ 1000000) : ∀ (m i : Nat), i + m = l.length → Ev (fun k => zqc.l0 k l c i) (decide (c ∈ l.drop i)) := by
 intro m
 induction m with
 | zero =>
  intro i hi
  refine zqa ?_
  simp only [zqc.l0]
  refine zbc (by omega) ?_
  refine zpd ?_
  rw [List.drop_eq_nil_of_le (by omega)]; simp
 | succ m ih =>
  intro i hi
  refine zqa ?_
  simp only [zqc.l0]
  refine zx (by omega) ?_
  refine zx (by omega) ?_
  have hd : l.drop i = l[i]'(by omega) :: l.drop (i + 1) := List.drop_eq_getElem_cons (by omega)
  have hr : rd l (i : Int) = l[i]'(by omega) := by
   rw [zdf, List.getD_eq_getElem?_getD, List.getElem?_eq_getElem (by omega)]; rfl
  rw [hr, hd]
  by_cases hc : l[i]'(by omega) = c
  ·refine zx hc ?_
   exact zpd (by simp [hc])
  ·refine zbc hc ?_
   rw [w64 (by omega) (by omega)]
   refine Ev_eq (ih (i + 1) (by omega)) ?_
   have : ¬ c = l[i]'(by omega) := fun e => hc e.symm
   rw [decide_eq_decide, List.mem_cons]
   exact ⟨.inr, fun h => h.resolve_left this⟩
theorem ref02_in (l : List Int) (c : Int) (hl : l.length ≤ 1000000) : Ev (fun k => zqc.f k l c) (decide (c ∈ l)) := in_l0 l c hl l.length 0 (by omega)
theorem mem_zs (l : List Nat) (n : Nat) : ((n : Int) ∈ zs l) ↔ n ∈ l := by
 unfold zs
 rw [List.mem_map]
 constructor
 ·rintro ⟨a, ha, e⟩
  rwa [show a = n from by omega] at ha
 ·intro h; exact ⟨n, h, rfl⟩
theorem ref10_row_l0 (w : List Nat) (hw : w.length ≤ 1000) (L : Nat) (hL : L ≤ 1000) (K S H P : Int) : ∀ (m i : Nat) (out : List Int), i + m = L → out.length ≤ i →
  Ev (fun k => zub.l0 k (zs w) out i K S H L P) (out ++ zs ((List.range' i m).filter fun x => decide (x ∈ w))) := by
 intro m
 induction m with
 | zero =>
  intro i out hi ho
  refine zqa ?_
  simp only [zub.l0]
  refine zbc (by omega) ?_
  exact zpd (by simp [zs])
 | succ m ih =>
  intro i out hi ho
  refine zqa ?_
  simp only [zub.l0]
  refine zx (by omega) ?_
  refine zjb (ref02_in _ _ (by rw [zcf]; omega)) ?_
  rw [w64 (by omega) (by omega)]
  rw [List.range'_succ]
  by_cases hm : i ∈ w
  ·refine zx (by simp [mem_zs, hm]) ?_
   refine zx (by omega) ?_
   refine Ev_eq (ih (i + 1) (out ++ [(i : Int)]) (by omega) (by simp; omega)) ?_
   simp [hm, zs]
  ·refine zbc (by simp [mem_zs, hm]) ?_
   refine Ev_eq (ih (i + 1) out (by omega) (by omega)) ?_
   simp [hm]
theorem ref10_row {K S H L P : Nat} (h : Par K S H L P) {seed esi : Nat} (hs : seed < 65536) (he : esi < 65536) :
  Ev (fun k => zub.f k (K : Int) S H L P seed esi) (zs (rowN L P seed esi)) := by
 have hP := h.P1
 have hLP := h.nice.LP
 obtain ⟨t1, t2, t3, t4, t5⟩ := trip_ok h.nice seed esi
 unfold zub.f
 refine zle (ref10_trip h.nice (by omega) _ _ _ seed esi (by omega) (by omega)) ?_
 refine zjb (ref10_walk h t1 t2 t3 t4 t5) ?_
 have := ref10_row_l0 (walkN L P seed esi) (by unfold walkN; rw [wk_len]; omega) L (by omega) (K : Int) S H P L 0 [] (by omega) (by simp)
 refine Ev_eq this ?_
 rw [List.nil_append, ← List.range_eq_range']; rfl
end Go.Proofs.YtnglindlofmknaaGreatDoor.B
end
section
set_option maxHeartbeats 8000000
set_option maxRecDepth 100000
namespace Sp
def tabS : List Nat := [3, 5, 5, 5, 5, 5, 7, 7, 7, 7, 7, 7, 7, 7, 7, 11, 11, 11, 11, 11, 11, 11, 11, 11, 11, 11, 11, 11, 11, 11, 11, 11, 11, 11, 11, 11, 11, 11, 11, 11, 11, 11, 11, 11, 11, 13, 13, 13, 13, 13, 13, 13, 13, 13, 13, 13, 13, 13, 13, 13, 13, 13, 13, 13, 13, 13, 17, 17, 17, 17, 17, 17, 17, 17, 17, 17, 17, 17, 17, 17, 17, 17, 17, 17, 17, 17, 17, 17, 17, 17, 17, 17, 17, 17, 17, 17, 17, 17, 17, 17, 17, 17, 17, 17, 17, 19, 19, 19, 19, 19, 19, 19, 19, 19, 19, 19, 19, 19, 19, 19, 19, 19, 19, 19, 19, 19, 19, 19]
def tabH : List Nat := [4, 5, 5, 5, 5, 6, 6, 6, 6, 6, 6, 6, 6, 7, 7, 7, 7, 7, 7, 7, 7, 7, 7, 7, 8, 8, 8, 8, 8, 8, 8, 8, 8, 8, 8, 8, 8, 8, 8, 8, 8, 8, 8, 8, 8, 8, 8, 8, 8, 8, 8, 8, 8, 8, 8, 8, 8, 9, 9, 9, 9, 9, 9, 9, 9, 9, 9, 9, 9, 9, 9, 9, 9, 9, 9, 9, 9, 9, 9, 9, 9, 9, 9, 9, 9, 9, 9, 9, 9, 9, 9, 9, 9, 9, 9, 9, 9, 9, 9, 9, 9, 9, 9, 9, 9, 9, 9, 10, 10, 10, 10, 10, 10, 10, 10, 10, 10, 10, 10, 10, 10, 10, 10, 10, 10, 10, 10, 10]
def tabP : List Nat := [11, 13, 13, 17, 17, 17, 23, 23, 23, 23, 29, 29, 29, 29, 29, 37, 37, 37, 37, 41, 41, 41, 41, 43, 47, 47, 47, 47, 53, 53, 53, 53, 53, 53, 59, 59, 59, 59, 59, 59, 61, 61, 67, 67, 67, 67, 71, 71, 71, 71, 73, 73, 79, 79, 79, 79, 79, 83, 83, 83, 83, 89, 89, 89, 89, 89, 97, 97, 97, 97, 97, 101, 101, 101, 101, 103, 103, 107, 107, 107, 107, 109, 109, 113, 113, 113, 113, 127, 127, 127, 127, 127, 127, 127, 127, 127, 127, 127, 127, 127, 127, 131, 131, 131, 131, 137, 137, 137, 139, 139, 149, 149, 149, 149, 149, 149, 149, 149, 149, 149, 151, 151, 157, 157, 157, 157, 157, 157]
def tabSeed : List Nat := [0, 3, 0, 1, 1, 1, 1, 2, 1, 4, 4, 18, 9, 5, 2, 0, 2, 3, 22, 2, 3, 0, 1, 0, 1, 1, 0, 0, 9, 13, 1, 2, 13, 1, 0, 0, 2, 4, 3, 1, 0, 8, 1, 3, 0, 2, 3, 2, 0, 2, 3, 2, 4, 4, 1, 6, 1, 2, 7, 8, 2, 7, 6, 4, 4, 5, 4, 1, 1, 4, 4, 0, 2, 13, 1, 0, 1, 1, 4, 1, 5, 0, 7, 5, 0, 13, 11, 3, 3, 3, 4, 13, 4, 4, 4, 2, 4, 2, 3, 7, 4, 1, 13, 3, 6, 2, 1, 0, 5, 5, 0, 2, 1, 8, 2, 0, 1, 0, 3, 9, 4, 11, 1, 7, 16, 1, 3, 25]
def pS (K : Nat) : Nat := tabS.getD (K - 1) 0
def pH (K : Nat) : Nat := tabH.getD (K - 1) 0
def pP (K : Nat) : Nat := tabP.getD (K - 1) 0
def pL (K : Nat) : Nat := K + pS K + pH K
def pSeed (K : Nat) : Nat := tabSeed.getD (K - 1) 0
end Sp
end
section
set_option maxHeartbeats 8000000
set_option maxRecDepth 100000
namespace Go.Proofs.YtnglindlofmknaaGreatDoor.B
open Go.RowKit Go.Proofs.YW.PrintWords Go.Proofs.YW.PrintLast Go.Proofs.YW.PrintMore
open Sp
set_option linter.unusedVariables false
set_option maxRecDepth 100000
def ownB (K : Nat) : Bool := match zgb.f 1200 (K : Int) with
 | some (a, b, c, d, e, none) => a == (K : Int) && b == (pS K : Int) && c == (pH K : Int) && d == (pL K : Int) && e == (pP K : Int)
 | _ => false
def refB (K : Nat) : Bool := match zkb.f 1200 (K : Int) with
 | some (a, b, c, d, e) => a == (K : Int) && b == (pS K : Int) && c == (pH K : Int) && d == (pL K : Int) && e == (pP K : Int)
 | _ => false
def numB (K : Nat) : Bool := decide (3 ≤ pS K) && decide (pS K % 2 = 1) && decide (1 ≤ pH K) && decide (pH K ≤ 20) && decide (pP K ≤ 1000) && decide (2 ≤ pP K) && decide (pL K ≤ pP K) &&
 ((List.range (pP K)).all fun st => st == 0 || Nat.gcd (pP K) st == 1) && ((List.range (pS K)).all fun a => a == 0 || Nat.gcd (pS K) a == 1)
theorem own_all : ((List.range 128).all fun i => ownB (i + 1)) = true := by decide +kernel
theorem ref_all : ((List.range 128).all fun i => refB (i + 1)) = true := by decide +kernel
theorem num_all : ((List.range 128).all fun i => numB (i + 1)) = true := by decide +kernel
theorem of_all {p : Nat → Bool} (h : ((List.range 128).all fun i => p (i + 1)) = true) {K : Nat} (h1 : 1 ≤ K) (h2 : K ≤ 128) : p K = true := by
 have := List.all_eq_true.1 h (K - 1) (List.mem_range.2 (by omega))
 rwa [show K - 1 + 1 = K by omega] at this
theorem own_of {K : Nat} (h : ownB K = true) : zgb.f 1200 (K : Int) = some ((K : Int), (pS K : Int), (pH K : Int), (pL K : Int), (pP K : Int), none) := by
 unfold ownB at h
 split at h
 ·rename_i a b c d e he
  simp only [Bool.and_eq_true, beq_iff_eq] at h
  obtain ⟨⟨⟨⟨h1, h2⟩, h3⟩, h4⟩, h5⟩ := h
  rw [he, h1, h2, h3, h4, h5]
 ·cases h
theorem ref_of {K : Nat} (h : refB K = true) : zkb.f 1200 (K : Int) = some ((K : Int), (pS K : Int), (pH K : Int), (pL K : Int), (pP K : Int)) := by
 unfold refB at h
 split at h
 ·rename_i a b c d e he
  simp only [Bool.and_eq_true, beq_iff_eq] at h
  obtain ⟨⟨⟨⟨h1, h2⟩, h3⟩, h4⟩, h5⟩ := h
  rw [he, h1, h2, h3, h4, h5]
 ·cases h
theorem par {K : Nat} (h1 : 1 ≤ K) (h2 : K ≤ 128) : Par K (pS K) (pH K) (pL K) (pP K) := by
 have hn := of_all num_all h1 h2
 simp only [numB, Bool.and_eq_true, decide_eq_true_eq, List.all_eq_true, List.mem_range, Bool.or_eq_true, beq_iff_eq] at hn
 obtain ⟨⟨⟨⟨⟨⟨⟨⟨n1, n2⟩, n3⟩, n4⟩, n5⟩, n6⟩, n7⟩, n8⟩, n9⟩ := hn
 exact {
  own := Ev.of (fun k => zgb.mono _ k) (own_of (of_all own_all h1 h2))
  ref := Ev.of (fun k => zkb.mono _ k) (ref_of (of_all ref_all h1 h2))
  K1 := h1
  K128 := h2
  sum := rfl
  S3 := n1
  odd := n2
  H1 := n3
  H20 := n4
  P1 := n5
  nice := { L0 := by unfold pL; omega, LP := n7, P2 := n6, cop := fun st a b => (n8 st b).resolve_left (by omega) }
  Sc := fun a h b => (n9 a b).resolve_left (by omega) }
end Go.Proofs.YtnglindlofmknaaGreatDoor.B
end
section
set_option maxHeartbeats 8000000
set_option maxRecDepth 100000
namespace Sp
set_option linter.unusedSimpArgs false
set_option maxRecDepth 100000
def popN : Nat → Nat → Nat
 | 0, _ => 0
 | f + 1, n => n % 2 + popN f (n / 2)
def gr (i : Nat) : Nat := i ^^^ (i / 2)
def grL (wt : Nat) : Nat → Nat → Nat → List Nat
 | 0, _, _ => []
 | f + 1, i, n => if n = 0 then [] else if popN 20 (gr i) = wt then gr i :: grL wt f (i + 1) (n - 1) else grL wt f (i + 1) n
def gray (K : Nat) : List Nat := grL ((pH K + 1) / 2) 1024 0 (K + pS K)
theorem gray_len_all : ((List.range 128).all fun i => (gray (i + 1)).length == i + 1 + pS (i + 1)) = true := by decide +kernel
theorem gray_len {K : Nat} (h1 : 1 ≤ K) (h2 : K ≤ 128) : (gray K).length = K + pS K := by
 have := List.all_eq_true.1 gray_len_all (K - 1) (List.mem_range.2 (by omega))
 rw [show K - 1 + 1 = K by omega] at this
 simpa using this
theorem pop_zero : ∀ f, popN f 0 = 0
 | 0 => rfl
 | f + 1 => by simp [popN, pop_zero f]
theorem gr_lt {i : Nat} (h : i < 1048576) : gr i < 1048576 := by
 have : i ^^^ i / 2 < 2 ^ 20 := Nat.xor_lt_two_pow (by omega) (by omega)
 unfold gr; omega
theorem grL_lt (wt : Nat) : ∀ (f i n : Nat), i + f ≤ 1048576 → ∀ x, x ∈ grL wt f i n → x < 1048576
 | 0, _, _, _, x, hx => by simp [grL] at hx
 | f + 1, i, n, h, x, hx => by
  simp only [grL] at hx
  split at hx
  ·simp at hx
  ·split at hx
   ·rcases List.mem_cons.1 hx with rfl | hx
    ·exact gr_lt (by omega)
    ·exact grL_lt wt f _ _ (by omega) x hx
   ·exact grL_lt wt f _ _ (by omega) x hx
theorem gray_lt (K : Nat) : ∀ x, x ∈ gray K → x < 1048576 := grL_lt _ _ _ _ (by decide)
def ldpcN (K S row place : Nat) : Bool :=
 if K ≤ place then place == K + row
 else row == place % S || row == (place % S + (1 + place / S % (S - 1))) % S || row == (place % S + 2 * (1 + place / S % (S - 1))) % S
def halfN (g : List Nat) (h place : Nat) : Bool := (g.getD place 0).testBit h
def ldpcRow (K S row : Nat) : List Nat := (List.range (K + S)).filter (ldpcN K S row)
def halfRow (K S : Nat) (g : List Nat) (h : Nat) : List Nat := (List.range (K + S)).filter (halfN g h) ++ [K + S + h]
def preRows (K : Nat) : List (List Nat) := (List.range (pS K)).map (ldpcRow K (pS K)) ++ (List.range (pH K)).map (halfRow K (pS K) (gray K))
theorem preRows_len (K : Nat) : (preRows K).length = pS K + pH K := by simp [preRows]
def rowsN (K seed : Nat) (esis : List Nat) : List (List Nat) := preRows K ++ esis.map (rowN (pL K) (pP K) seed)
theorem pre_ok {K : Nat} : ∀ r, r ∈ preRows K → r.Pairwise (· < ·) ∧ ∀ x, x ∈ r → x < pL K := by
 intro r hr
 unfold preRows at hr
 rcases List.mem_append.1 hr with hr | hr
 ·obtain ⟨i, hi, rfl⟩ := List.mem_map.1 hr
  refine ⟨List.pairwise_lt_range.filter _, fun x hx => ?_⟩
  have := List.mem_range.1 (List.mem_filter.1 hx).1
  unfold pL; omega
 ·obtain ⟨h, hh, rfl⟩ := List.mem_map.1 hr
  have hh2 := List.mem_range.1 hh
  refine ⟨?_, fun x hx => ?_⟩
  ·rw [halfRow, List.pairwise_append]
   refine ⟨List.pairwise_lt_range.filter _, by simp, fun a ha b hb => ?_⟩
   have := List.mem_range.1 (List.mem_filter.1 ha).1
   rw [List.mem_singleton.1 hb]; omega
  ·rcases List.mem_append.1 hx with hx | hx
   ·have := List.mem_range.1 (List.mem_filter.1 hx).1
    unfold pL; omega
   ·rw [List.mem_singleton.1 hx]; unfold pL; omega
theorem rows_ok {K seed : Nat} {esis : List Nat} : ∀ r, r ∈ rowsN K seed esis → r.Pairwise (· < ·) ∧ ∀ x, x ∈ r → x < pL K := by
 intro r hr
 rcases List.mem_append.1 hr with hr | hr
 ·exact pre_ok r hr
 ·obtain ⟨e, _, rfl⟩ := List.mem_map.1 hr
  exact ⟨List.pairwise_lt_range.filter _, fun x hx => List.mem_range.1 (List.mem_filter.1 hx).1⟩
theorem rows_len (K seed : Nat) (esis : List Nat) : (rowsN K seed esis).length = pS K + pH K + esis.length := by simp [rowsN, preRows_len]
end Sp
end
section
set_option maxHeartbeats 8000000
set_option maxRecDepth 100000
namespace Go.Proofs.YtnglindlofmknaaGreatDoor.B
open Go.RowKit Go.Proofs.YW.PrintWords Go.Proofs.YW.PrintLast Go.Proofs.YW.PrintMore
open Sp
set_option linter.unusedVariables false
set_option linter.unusedSimpArgs false
set_option maxRecDepth 100000
theorem xorI64 {a b : Nat} (h : a < 1048576) (k : b < 1048576) : Go.bits .xor .i64 (a : Int) (b : Int) = ((a ^^^ b : Nat) : Int) := by
 have h1 : a ^^^ b < 2 ^ 20 := Nat.xor_lt_two_pow (by omega) (by omega)
 unfold Go.bits
 simp only [BitVec.ofInt_natCast, BitVec.toNat_xor, BitVec.toNat_ofNat]
 rw [show IntKind.i64.bits = 64 from rfl, Nat.mod_eq_of_lt (show a < 2 ^ 64 by omega), Nat.mod_eq_of_lt (show b < 2 ^ 64 by omega), IntKind.wrap_i64]
 omega
theorem ones_l0 : ∀ (f x c : Nat), x < 2 ^ f → f ≤ 40 → c + f ≤ 1000 → Ev (fun k => zoc.l0 k (x : Int) (c : Int)) ((c + popN f x : Nat) : Int)
 | 0, x, c, h, _, _ => by
  have : x = 0 := by simpa using h
  subst this
  refine zqa ?_
  simp only [zoc.l0]
  refine zbc (by omega) ?_
  exact zpd (by simp [popN])
 | f + 1, x, c, h, hf, hc => by
  refine zqa ?_
  simp only [zoc.l0]
  have hb : (2 : Nat) ^ (f + 1) ≤ 2 ^ 40 := Nat.pow_le_pow_right (by decide) hf
  rw [show (2 : Nat) ^ 40 = 1099511627776 from by decide] at hb
  by_cases hx : x = 0
  ·subst hx
   refine zbc (by omega) ?_
   exact zpd (by rw [pop_zero]; simp)
  ·refine zx (by omega) ?_
   rw [tdivE (by omega), tmodE (by omega), show (x : Int) / 2 = ((x / 2 : Nat) : Int) by omega, show (c : Int) + (x : Int) % 2 = ((c + x % 2 : Nat) : Int) by omega, w64 (by omega) (by omega), w64 (by omega) (by omega)]
   refine Ev_eq (ones_l0 f (x / 2) (c + x % 2) (by rw [Nat.pow_succ] at h; omega) (by omega) (by omega)) ?_
   simp only [popN]; rw [Nat.add_assoc]
theorem ref09_ones {x : Nat} (h : x < 1048576) : Ev (fun k => zoc.f k (x : Int)) ((popN 20 x : Nat) : Int) := by
 have := ones_l0 20 x 0 (by simpa using h) (by decide) (by decide)
 rw [Nat.zero_add] at this
 exact this
theorem ref09_gray_l0 (wt n : Nat) : ∀ (f i : Nat) (out : List Int), i + f ≤ 1048576 → out.length ≤ n → n ≤ 1000 → (grL wt f i (n - out.length)).length = n - out.length →
  Ev (fun k => zwa.l0 k (wt : Int) (n : Int) out (i : Int)) (out ++ zs (grL wt f i (n - out.length))) := by
 intro f
 induction f with
 | zero =>
  intro i out hi ho hn hl
  have hz : n - out.length = 0 := by simpa [grL] using hl.symm
  refine zqa ?_
  simp only [zwa.l0]
  have hd : decide ((out.length : Int) < (n : Int)) = false := by simp; omega
  by_cases hm : i < 1048576
  ·refine zx (by omega) ?_
   refine zqa ?_
   simp only [zwa.j1]
   refine zbc (by rw [hd]; simp) ?_
   exact zpd (by simp [grL, zs])
  ·refine zbc (by omega) ?_
   refine zqa ?_
   simp only [zwa.j1]
   refine zbc (by simp) ?_
   exact zpd (by simp [grL, zs])
 | succ f ih =>
  intro i out hi ho hn hl
  refine zqa ?_
  simp only [zwa.l0]
  refine zx (by omega) ?_
  refine zqa ?_
  simp only [zwa.j1]
  by_cases hz : n - out.length = 0
  ·refine zbc (by simp; omega) ?_
   exact zpd (by simp [grL, zs, hz])
  ·refine zx (by simp; omega) ?_
   rw [tdivE (by omega), show (i : Int) / 2 = ((i / 2 : Nat) : Int) by omega, w64 (by omega) (by omega), xorI64 (by omega) (by omega)]
   have hg : i ^^^ (i / 2) = gr i := rfl
   rw [hg]
   refine zjb (ref09_ones (gr_lt (by omega))) ?_
   rw [w64 (x := (i : Int) + 1) (by omega) (by omega)]
   simp only [grL, if_neg hz] at hl ⊢
   by_cases hp : popN 20 (gr i) = wt
   ·rw [if_pos hp] at hl ⊢
    refine zx (by omega) ?_
    refine zx (by omega) ?_
    have e : n - (out ++ [((gr i : Nat) : Int)]).length = n - out.length - 1 := by simp; omega
    refine Ev_eq (ih (i + 1) (out ++ [((gr i : Nat) : Int)]) (by omega) (by simp; omega) hn (by rw [e]; simp at hl; omega)) ?_
    rw [e, List.append_assoc]; rfl
   ·rw [if_neg hp] at hl ⊢
    refine zbc (by omega) ?_
    exact ih (i + 1) out (by omega) ho hn hl
theorem ref09_gray {K : Nat} (h1 : 1 ≤ K) (h2 : K ≤ 128) : Ev (fun k => zwa.f k (((pH K + 1) / 2 : Nat) : Int) ((K + pS K : Nat) : Int)) (zs (gray K)) := by
 have hl := gray_len h1 h2
 have h128 : K + pS K ≤ 1000 := by have := (par h1 h2).P1; have := (par h1 h2).nice.LP; unfold pL at this; omega
 have := ref09_gray_l0 ((pH K + 1) / 2) (K + pS K) 1024 0 [] (by decide) (by simp) h128 (by rw [List.length_nil, Nat.sub_zero]; exact hl)
 rw [List.length_nil, Nat.sub_zero, List.nil_append] at this
 exact this
theorem ref02_bit {w h : Nat} (hw : w < 18446744073709551616) (hh : h < 64) : zsd.f (w : Int) (h : Int) = some (w.testBit h) := by
 unfold zsd.f
 rw [u64w (x := (h : Int)) (by omega) (by omega), if_pos (by omega)]
 refine congrArg some ?_
 unfold shr
 rw [show min ((h : Int)).toNat IntKind.u64.bits = h from by show min ((h : Int)).toNat 64 = h; rw [Int.toNat_natCast]; omega]
 have hq : (w : Int) / 2 ^ h = ((w / 2 ^ h : Nat) : Int) := by rw [Int.natCast_ediv]; simp
 rw [hq, tmodE (Int.natCast_nonneg _), Nat.testBit_eq_decide_div_mod_eq]
 have : w / 2 ^ h % 2 < 2 := Nat.mod_lt _ (by decide)
 by_cases h1 : w / 2 ^ h % 2 = 1
 ·simp [h1]; omega
 ·have h0 : w / 2 ^ h % 2 = 0 := by omega
  simp [h0]; omega
theorem beq_cast (a b : Nat) : ((a : Int) == (b : Int)) = (a == b) := by
 rw [Bool.eq_iff_iff, beq_iff_eq, beq_iff_eq]; omega
theorem ldpc_f {K S : Nat} (hS : 3 ≤ S) (hS2 : S ≤ 1000) (hK : K ≤ 1000) (H L P : Int) {row place : Nat} (hr : row ≤ 1000) (hp : place ≤ 2000) :
  zoe.f (K : Int) S H L P row place = some (ldpcN K S row place) := by
 unfold zoe.f ldpcN
 by_cases h : K ≤ place
 ·rw [if_pos (by omega), if_pos h, w64 (by omega) (by omega)]
  refine congrArg some ?_
  rw [show (K : Int) + (row : Int) = ((K + row : Nat) : Int) by omega, beq_cast]
 ·rw [if_neg (by omega), if_neg h, if_neg (by omega)]
  rw [w64 (x := (S : Int) - 1) (by omega) (by omega), if_neg (by omega)]
  rw [tmodE (a := (place : Int)) (by omega), tdivE (a := (place : Int)) (by omega)]
  have q0 : (place : Int) / S = ((place / S : Nat) : Int) := (Int.natCast_ediv ..).symm
  have q1 : (place : Int) % S = ((place % S : Nat) : Int) := (Int.natCast_emod ..).symm
  have b1 : place / S ≤ place := Nat.div_le_self ..
  have b2 : place % S < S := Nat.mod_lt _ (by omega)
  have b3 : place / S % (S - 1) < S - 1 := Nat.mod_lt _ (by omega)
  rw [q0, q1]
  clear q0 q1
  generalize place / S = pd at b1 b3 ⊢
  generalize place % S = v at b2 ⊢
  rw [w64 (x := (pd : Int)) (by omega) (by omega), tmodE (a := (pd : Int)) (by omega)]
  have q2 : (pd : Int) % ((S : Int) - 1) = ((pd % (S - 1) : Nat) : Int) := by rw [show (S : Int) - 1 = ((S - 1 : Nat) : Int) by omega]; exact (Int.natCast_emod ..).symm
  rw [q2]
  clear q2
  generalize pd % (S - 1) = u at b3 ⊢
  rw [w64 (x := 1 + (u : Int)) (by omega) (by omega), w64 (x := (v : Int) + (1 + u)) (by omega) (by omega), w64 (x := 2 * (1 + (u : Int))) (by omega) (by omega), w64 (x := (v : Int) + 2 * (1 + u)) (by omega) (by omega), tmodE (by omega), tmodE (by omega)]
  have q3 : ((v : Int) + (1 + u)) % S = (((v + (1 + u)) % S : Nat) : Int) := by rw [Int.natCast_emod]; congr 1
  have q4 : ((v : Int) + 2 * (1 + u)) % S = (((v + 2 * (1 + u)) % S : Nat) : Int) := by rw [Int.natCast_emod]; congr 1
  rw [q3, q4]
  generalize (v + (1 + u)) % S = y
  generalize (v + 2 * (1 + u)) % S = z
  by_cases e1 : row = v
  ·rw [if_pos (by omega)]; simp [e1]
  ·rw [if_neg (by omega)]
   by_cases e2 : row = y
   ·rw [if_pos (by omega)]; simp [e2]
   ·rw [if_neg (by omega)]
    refine congrArg some ?_
    rw [beq_cast]
    simp [e1, e2]
theorem ref09_rows_l1 {K S : Nat} (hS : 3 ≤ S) (hS2 : S ≤ 998) (hK : K ≤ 900) (H L P : Int) (gl : List Int) (rows : List (List Int)) (row : Nat) (hr : row ≤ 1000) (r : List (List Int))
  (hrows : rows.length ≤ 2000)
  (hnext : Ev (fun k => zq.l0 k gl (rows ++ [zs (ldpcRow K S row)]) ((row + 1 : Nat) : Int) (K : Int) S H L P) r) : ∀ (m i : Nat) (out : List Int), i + m = K + S → out = zs ((List.range i).filter (ldpcN K S row)) →
  Ev (fun k => zq.l1 k gl rows row out (i : Int) (K : Int) S H L P) r := by
 intro m
 induction m with
 | zero =>
  intro i out hi ho
  refine zqa ?_
  simp only [zq.l1]
  rw [w64 (x := (K : Int) + S) (by omega) (by omega)]
  refine zbc (by omega) ?_
  refine zx (by omega) ?_
  rw [w64 (by omega) (by omega)]
  have : i = K + S := by omega
  subst this; subst ho
  exact hnext
 | succ m ih =>
  intro i out hi ho
  refine zqa ?_
  simp only [zq.l1]
  rw [w64 (x := (K : Int) + S) (by omega) (by omega)]
  refine zx (by omega) ?_
  refine zle (ldpc_f hS (by omega) (by omega) H L P hr (by omega)) ?_
  have hlen : out.length ≤ i := by rw [ho, zcf]; exact Nat.le_trans (List.length_filter_le ..) (by simp)
  rw [w64 (x := (i : Int) + 1) (by omega) (by omega)]
  by_cases hc : ldpcN K S row i = true
  ·refine zx hc ?_
   refine zx (by omega) ?_
   refine ih (i + 1) _ (by omega) ?_
   rw [List.range_succ, List.filter_append, zgf, ho]
   simp [hc, zs]
  ·refine zbc hc ?_
   refine ih (i + 1) _ (by omega) ?_
   rw [List.range_succ, List.filter_append, zgf, ho]
   simp [hc, zs]
theorem ref09_rows_l3 {K S : Nat} (hS2 : S ≤ 998) (hK : K ≤ 900) (H L P : Int) (g : List Nat) (hg : g.length = K + S) (hg2 : ∀ x, x ∈ g → x < 1048576) (rows : List (List Int)) (row : Nat) (hr : row < 64) (r : List (List Int))
  (hrows : rows.length ≤ 2000)
  (hnext : Ev (fun k => zq.l2 k (zs g) (rows ++ [zs (halfRow K S g row)]) ((row + 1 : Nat) : Int) (K : Int) S H L P) r) : ∀ (m i : Nat) (out : List Int), i + m = K + S → out = zs ((List.range i).filter (halfN g row)) →
  Ev (fun k => zq.l3 k (zs g) rows row out (i : Int) (K : Int) S H L P) r := by
 intro m
 induction m with
 | zero =>
  intro i out hi ho
  have hlen : out.length ≤ i := by rw [ho, zcf]; exact Nat.le_trans (List.length_filter_le ..) (by simp)
  refine zqa ?_
  simp only [zq.l3]
  rw [w64 (x := (K : Int) + S) (by omega) (by omega)]
  refine zbc (by omega) ?_
  refine zx (by omega) ?_
  refine zx (by omega) ?_
  rw [w64 (x := (K : Int) + S + row) (by omega) (by omega), w64 (by omega) (by omega)]
  have : i = K + S := by omega
  subst this; subst ho
  have e : zs ((List.range (K + S)).filter (halfN g row)) ++ [(K : Int) + S + row] = zs (halfRow K S g row) := by simp [halfRow, zs]
  rw [e]
  exact hnext
 | succ m ih =>
  intro i out hi ho
  refine zqa ?_
  simp only [zq.l3]
  rw [w64 (x := (K : Int) + S) (by omega) (by omega)]
  refine zx (by omega) ?_
  refine zx (by omega) ?_
  refine zx (by rw [zcf]; omega) ?_
  have hlen : out.length ≤ i := by rw [ho, zcf]; exact Nat.le_trans (List.length_filter_le ..) (by simp)
  have hgi : g.getD i 0 < 1048576 := by
   rw [List.getD_eq_getElem?_getD, List.getElem?_eq_getElem (by omega)]
   exact hg2 _ (List.getElem_mem _)
  rw [zdf, zs_getD, u64w (by omega) (by omega)]
  refine zle (ref02_bit (by omega) hr) ?_
  rw [w64 (x := (i : Int) + 1) (by omega) (by omega)]
  by_cases hc : (g.getD i 0).testBit row = true
  ·refine zx hc ?_
   refine zx (by omega) ?_
   refine ih (i + 1) _ (by omega) ?_
   rw [List.range_succ, List.filter_append, zgf, ho]
   have hh : halfN g row i = true := hc
   simp [hh, zs]
  ·refine zbc hc ?_
   refine ih (i + 1) _ (by omega) ?_
   rw [List.range_succ, List.filter_append, zgf, ho]
   have hh : halfN g row i = false := Bool.eq_false_iff.2 hc
   simp [hh, zs]
def zss (l : List (List Nat)) : List (List Int) := l.map zs
theorem zss_len (l : List (List Nat)) : (zss l).length = l.length := by simp [zss]
theorem ref09_rows_l2 {K S : Nat} (hS2 : S ≤ 998) (hK : K ≤ 900) (H : Nat) (hH : H ≤ 20) (L P : Int) (g : List Nat) (hg : g.length = K + S) (hg2 : ∀ x, x ∈ g → x < 1048576) : ∀ (m i : Nat) (rows : List (List Int)), i + m = H → rows.length ≤ S + i →
  Ev (fun k => zq.l2 k (zs g) rows (i : Int) (K : Int) S H L P) (rows ++ zss ((List.range' i m).map (halfRow K S g))) := by
 intro m
 induction m with
 | zero =>
  intro i rows hi hr
  refine zqa ?_
  simp only [zq.l2]
  refine zbc (by omega) ?_
  exact zpd (by simp [zss])
 | succ m ih =>
  intro i rows hi hr
  refine zqa ?_
  simp only [zq.l2]
  refine zx (by omega) ?_
  refine ref09_rows_l3 hS2 hK H L P g hg hg2 rows i (by omega) _ (by omega) ?_ (K + S) 0 [] (by omega) (by simp [zs])
  refine Ev_eq (ih (i + 1) (rows ++ [zs (halfRow K S g i)]) (by omega) (by simp; omega)) ?_
  rw [List.range'_succ, List.append_assoc]; rfl
theorem ref09_rows_l0 {K S : Nat} (hS : 3 ≤ S) (hS2 : S ≤ 998) (hK : K ≤ 900) (H : Nat) (hH : H ≤ 20) (L P : Int) (g : List Nat) (hg : g.length = K + S) (hg2 : ∀ x, x ∈ g → x < 1048576) : ∀ (m i : Nat) (rows : List (List Int)), i + m = S → rows.length = i →
  Ev (fun k => zq.l0 k (zs g) rows (i : Int) (K : Int) S H L P) (rows ++ zss ((List.range' i m).map (ldpcRow K S)) ++ zss ((List.range H).map (halfRow K S g))) := by
 intro m
 induction m with
 | zero =>
  intro i rows hi hr
  refine zqa ?_
  simp only [zq.l0]
  refine zbc (by omega) ?_
  refine Ev_eq (ref09_rows_l2 hS2 hK H hH L P g hg hg2 H 0 rows (by omega) (by omega)) ?_
  rw [← List.range_eq_range']; simp [zss]
 | succ m ih =>
  intro i rows hi hr
  refine zqa ?_
  simp only [zq.l0]
  refine zx (by omega) ?_
  refine ref09_rows_l1 hS hS2 hK H L P (zs g) rows i (by omega) _ (by omega) ?_ (K + S) 0 [] (by omega) (by simp [zs])
  refine Ev_eq (ih (i + 1) (rows ++ [zs (ldpcRow K S i)]) (by omega) (by simp; omega)) ?_
  rw [List.range'_succ]
  simp [zss]
theorem ref09_rows {K : Nat} (h1 : 1 ≤ K) (h2 : K ≤ 128) : Ev (fun k => zq.f k (K : Int) (pS K) (pH K) (pL K) (pP K)) (zss (preRows K)) := by
 have h := par h1 h2
 have hb := h.P1
 have hLP := h.nice.LP
 have hs := h.sum
 unfold zq.f
 have hH := h.H20
 have hH1 := h.H1
 have e1 : wrap64 (Int.tdiv (wrap64 ((pH K : Int) + 1)) 2) = (((pH K + 1) / 2 : Nat) : Int) := by
  rw [w64 (x := (pH K : Int) + 1) (by omega) (by omega), tdivE (by omega), w64 (by omega) (by omega)]; omega
 have e2 : wrap64 ((K : Int) + (pS K : Int)) = ((K + pS K : Nat) : Int) := by rw [w64 (by omega) (by omega)]; omega
 rw [e1, e2]
 refine zjb (ref09_gray h1 h2) ?_
 have := ref09_rows_l0 h.S3 (by omega) (by omega) (pH K) hH (pL K : Int) (pP K : Int) (gray K) (gray_len h1 h2) (gray_lt K) (pS K) 0 [] (by omega) rfl
 refine Ev_eq this ?_
 rw [← List.range_eq_range']
 simp [zss, preRows]
theorem ones_all : ((List.range 1024).all fun i => ones64 (IntKind.u64.wrap (grayAt (i : Int))) == ((popN 20 (gr i) : Nat) : Int)) = true := by decide +kernel
theorem ones_at {i : Nat} (h : i < 1024) : ones64 (IntKind.u64.wrap (grayAt (i : Int))) = ((popN 20 (gr i) : Nat) : Int) := by
 have := List.all_eq_true.1 ones_all i (List.mem_range.2 h)
 simpa using this
theorem grayAt_nat {i : Nat} (h : i < 1048576) : grayAt (i : Int) = ((gr i : Nat) : Int) := by
 unfold grayAt
 rw [show (i : Int) / 2 = ((i / 2 : Nat) : Int) by omega, xorI64 h (by omega)]; rfl
theorem grays_take (wt : Nat) : ∀ (f F i n : Nat), f ≤ F → i + f ≤ 1024 → (grL wt f i n).length = n → (grays (wt : Int) F (i : Int)).take n = zs (grL wt f i n)
 | 0, F, i, n, _, _, hl => by
  have : n = 0 := by simpa [grL] using hl.symm
  subst this; simp [grL, zs]
 | f + 1, F, i, n, hF, hi, hl => by
  by_cases hz : n = 0
  ·subst hz; simp [grL, zs]
  obtain ⟨F, rfl⟩ : ∃ m, F = m + 1 := ⟨F - 1, by omega⟩
  simp only [grL, if_neg hz] at hl ⊢
  simp only [grays]
  rw [ones_at (by omega), grayAt_nat (by omega), show (i : Int) + 1 = ((i + 1 : Nat) : Int) by omega]
  by_cases hp : popN 20 (gr i) = wt
  ·rw [if_pos hp] at hl ⊢
   rw [if_pos (by omega)]
   obtain ⟨n, rfl⟩ : ∃ m, n = m + 1 := ⟨n - 1, by omega⟩
   rw [List.take_succ_cons, Nat.add_sub_cancel, grays_take wt f F (i + 1) n (by omega) (by omega) (by simpa using hl)]
   rfl
  ·rw [if_neg hp] at hl ⊢
   rw [if_neg (by omega)]
   exact grays_take wt f F (i + 1) n (by omega) (by omega) hl
def chooseB (K : Nat) : Bool := match zea.f 500 20 (((pH K + 1) / 2 : Nat) : Int) with
 | some (c, none) => decide (((K + pS K : Nat) : Int) ≤ c) && decide (1 ≤ (pH K + 1) / 2)
 | _ => false
theorem choose_all : ((List.range 128).all fun i => chooseB (i + 1)) = true := by decide +kernel
theorem choose_of {K : Nat} (h : chooseB K = true) : ∃ c, zea.f 500 20 (((pH K + 1) / 2 : Nat) : Int) = some (c, none) ∧ ((K + pS K : Nat) : Int) ≤ c ∧ 1 ≤ (pH K + 1) / 2 := by
 unfold chooseB at h
 split at h
 ·rename_i c he
  simp only [Bool.and_eq_true, decide_eq_true_eq] at h
  exact ⟨c, he, h.1, h.2⟩
 ·cases h
theorem precode_gray {K : Nat} (h1 : 1 ≤ K) (h2 : K ≤ 128) : Ev (fun k => zge.f k (((pH K + 1) / 2 : Nat) : Int) ((K + pS K : Nat) : Int)) (zs (gray K)) := by
 have h := par h1 h2
 have hb := h.P1
 have hLP := h.nice.LP
 have hs := h.sum
 have hH := h.H20
 obtain ⟨c, hc, hn, hw⟩ := choose_of (of_all choose_all h1 h2)
 unfold zge.f
 refine zx ⟨by omega, by omega, by omega, by omega⟩ ?_
 refine zjb (Ev.of (fun k => zea.mono _ _ k) hc) ?_
 refine zx hn ?_
 refine zpd ?_
 rw [Int.toNat_natCast]
 exact grays_take ((pH K + 1) / 2) 1024 1048576 0 (K + pS K) (by decide) (by decide) (gray_len h1 h2)
def tabl (n : Nat) (F : Nat → List Int) : List (List Int) := (List.range n).map F
def upd (F : Nat → List Int) (r : Nat) (p : Int) : Nat → List Int := fun j => if j = r then F j ++ [p] else F j
theorem tabl_len (n : Nat) (F : Nat → List Int) : (tabl n F).length = n := by simp [tabl]
theorem ztf {n : Nat} {F G : Nat → List Int} (h : ∀ r, r < n → F r = G r) : tabl n F = tabl n G := by
 unfold tabl
 exact List.map_congr_left fun r hr => h r (List.mem_range.1 hr)
theorem tabl_get {n r : Nat} (F : Nat → List Int) (h : r < n) : (tabl n F).getD r [] = F r := by
 simp [tabl, List.getD_eq_getElem?_getD, List.getElem?_map, List.getElem?_range h]
theorem tabl_set {n r : Nat} (F : Nat → List Int) (v : List Int) : (tabl n F).set r v = tabl n (fun j => if j = r then v else F j) := by
 apply List.ext_getElem?
 intro j
 by_cases hj : j < n
 ·rw [List.getElem?_set]
  by_cases e : r = j
  ·subst e; simp [tabl, hj]
  ·simp only [if_neg e, tabl, List.getElem?_map, List.getElem?_range hj, Option.map_some]
   rw [if_neg (Ne.symm e)]
 ·rw [List.getElem?_eq_none (by simp [tabl]; omega), List.getElem?_eq_none (by simp [tabl]; omega)]
theorem put_tab {n r : Nat} (F : Nat → List Int) (p : Int) (h : r < n) (hl : (F r).length ≤ 1000000) : zue (tabl n F) (r : Int) p = some (tabl n (upd F r p)) := by
 unfold zue
 rw [Int.toNat_natCast, tabl_get F h, if_pos ⟨by omega, by rw [tabl_len]; omega, hl⟩, tabl_set]
 refine congrArg some (ztf fun j _ => ?_)
 unfold upd
 by_cases e : j = r
 ·subst e; simp
 ·simp [e]
def ldpc3 (S row place : Nat) : Bool := row == place % S || row == (place % S + (1 + place / S % (S - 1))) % S || row == (place % S + 2 * (1 + place / S % (S - 1))) % S
def rowA (S i r : Nat) : List Int := if r < S then zs ((List.range i).filter (ldpc3 S r)) else []
theorem rowA_len (S i r : Nat) : (rowA S i r).length ≤ i := by
 unfold rowA
 split
 ·rw [zcf]; exact Nat.le_trans (List.length_filter_le ..) (by simp)
 ·simp
theorem upd_len (F : Nat → List Int) (r : Nat) (p : Int) (j : Nat) : (upd F r p j).length ≤ (F j).length + 1 := by
 unfold upd; split <;> simp
theorem rows_l0 {K S n : Nat} (hS : 3 ≤ S) (hS2 : S ≤ 998) (hK : K ≤ 900) (hn : S ≤ n) (hodd : S % 2 = 1) (hco : ∀ a, 1 ≤ a → a < S → S.Coprime a) : ∀ (m i : Nat), i + m = K →
  Ev (fun k => zca.l0 k (K : Int) S (tabl n (rowA S i)) (i : Int)) (tabl n (rowA S K)) := by
 intro m
 induction m with
 | zero =>
  intro i hi
  refine zqa ?_
  simp only [zca.l0]
  refine zbc (by omega) ?_
  rw [show i = K by omega]
  exact zjd _
 | succ m ih =>
  intro i hi
  refine zqa ?_
  simp only [zca.l0]
  refine zx (by omega) ?_
  have ha1 : 1 ≤ 1 + i / S % (S - 1) := by omega
  have ha2 : 1 + i / S % (S - 1) < S := by have := Nat.mod_lt (i / S) (show 0 < S - 1 by omega); omega
  have q1 : (i : Int) % S = ((i % S : Nat) : Int) := (Int.natCast_emod ..).symm
  have q2 : (1 + (i : Int) / S % ((S : Int) - 1)) = ((1 + i / S % (S - 1) : Nat) : Int) := by
   rw [show (S : Int) - 1 = ((S - 1 : Nat) : Int) by omega, ← Int.natCast_ediv, ← Int.natCast_emod]; omega
  rw [q2, q1]
  have hcc := hco _ ha1 ha2
  have hl3 : ∀ r, ldpc3 S r i = (r == i % S || r == (i % S + (1 + i / S % (S - 1))) % S || r == (i % S + 2 * (1 + i / S % (S - 1))) % S) := fun r => rfl
  generalize 1 + i / S % (S - 1) = a at ha1 ha2 hcc hl3 ⊢
  have q3 : ((i : Int) + (a : Int)) % S = (((i % S + a) % S : Nat) : Int) := by rw [← Int.natCast_add, ← Int.natCast_emod, Nat.mod_add_mod]
  have q4 : ((i : Int) + 2 * (a : Int)) % S = (((i % S + 2 * a) % S : Nat) : Int) := by
   rw [show (i : Int) + 2 * (a : Int) = ((i + 2 * a : Nat) : Int) by omega, ← Int.natCast_emod, Nat.mod_add_mod]
  rw [q3, q4]
  have hb : i % S < S := Nat.mod_lt _ (by omega)
  have noA : ∀ c, c < S → c ≠ 0 → ∀ v, (v + c) % S ≠ v % S := fun c hc h0 v e => by
   have := Nat.sub_mod_eq_zero_of_mod_eq e
   rw [Nat.add_sub_cancel_left, Nat.mod_eq_of_lt hc] at this
   exact h0 this
  have n12 : i % S ≠ (i % S + a) % S := fun e => noA a ha2 (by omega) (i % S) (by rw [← e, Nat.mod_mod])
  have n2a : (2 * a) % S ≠ 0 := fun e => by
   have hd : S ∣ a * 2 := by rw [Nat.mul_comm]; exact Nat.dvd_of_mod_eq_zero e
   have := Nat.le_of_dvd (by decide) (Nat.Coprime.dvd_of_dvd_mul_left hcc hd)
   omega
  have n13 : i % S ≠ (i % S + 2 * a) % S := fun e => by
   have := noA ((2 * a) % S) (Nat.mod_lt _ (by omega)) n2a (i % S)
   apply this
   rw [Nat.add_mod_mod, ← e, Nat.mod_mod]
  have n23 : (i % S + a) % S ≠ (i % S + 2 * a) % S := fun e => by
   have := noA a ha2 (by omega) (i % S + a)
   apply this
   rw [e, Nat.add_assoc, ← Nat.two_mul]
  generalize i % S = r1 at *
  have h2 : (r1 + a) % S < S := Nat.mod_lt _ (by omega)
  have h3 : (r1 + 2 * a) % S < S := Nat.mod_lt _ (by omega)
  generalize (r1 + a) % S = r2 at *
  generalize (r1 + 2 * a) % S = r3 at *
  have len0 := rowA_len S i
  refine zle (put_tab (rowA S i) i (by omega) (by have := len0 r1; omega)) ?_
  refine zle (put_tab _ i (by omega) (by have := len0 r2; have := upd_len (rowA S i) r1 i r2; omega)) ?_
  refine zle (put_tab _ i (by omega) (by have := len0 r3; have := upd_len (rowA S i) r1 i r3; have := upd_len (upd (rowA S i) r1 i) r2 i r3; omega)) ?_
  rw [show (i : Int) + 1 = ((i + 1 : Nat) : Int) by omega]
  have e : tabl n (upd (upd (upd (rowA S i) r1 i) r2 i) r3 i) = tabl n (rowA S (i + 1)) := ztf fun r hr => by
   unfold upd rowA
   by_cases hrS : r < S
   ·rw [if_pos hrS, if_pos hrS, List.range_succ, List.filter_append, zgf]
    by_cases c1 : r = r1
    ·have : ldpc3 S r i = true := by rw [hl3]; simp [c1]
     have e2 : ¬ r = r2 := fun e => n12 (by rw [← c1, e])
     have e3 : ¬ r = r3 := fun e => n13 (by rw [← c1, e])
     rw [if_neg e3, if_neg e2, if_pos c1]
     simp [this, zs]
    ·by_cases c2 : r = r2
     ·have : ldpc3 S r i = true := by rw [hl3]; simp [c2]
      have e3 : ¬ r = r3 := fun e => n23 (by rw [← c2, e])
      simp [this, zs, if_neg c1, if_pos c2, if_neg e3]
     ·by_cases c3 : r = r3
      ·have : ldpc3 S r i = true := by rw [hl3]; simp [c3]
       simp [this, zs, if_neg c1, if_neg c2, if_pos c3]
      ·have : ldpc3 S r i = false := by rw [hl3]; simp [c1, c2, c3]
       simp [this, zs, if_neg c1, if_neg c2, if_neg c3]
   ·have e1 : ¬ r = r1 := fun e => hrS (by omega)
    have e2 : ¬ r = r2 := fun e => hrS (by omega)
    have e3 : ¬ r = r3 := fun e => hrS (by omega)
    simp [hrS, e1, e2, e3]
  rw [e]
  exact ih (i + 1) (by omega)
def rowB (S K H : Nat) (g : List Nat) (j h r : Nat) : List Int :=
 if r < S then rowA S K r else if r < S + H then zs ((List.range (if r < S + h then j + 1 else j)).filter (halfN g (r - S))) else []
theorem rowB_len (S K H : Nat) (g : List Nat) (j h r : Nat) : (rowB S K H g j h r).length ≤ K + j + 1 := by
 unfold rowB
 split
 ·have := rowA_len S K r; omega
 ·split
  ·rw [zcf]
   refine Nat.le_trans (List.length_filter_le ..) ?_
   rw [List.length_range]; split <;> omega
  ·simp
theorem half_bit {g h : Nat} (hg : g < 1048576) (hh : h ≤ 60) : (Go.bits BinOp.and IntKind.i64 ((g : Int) / 2 ^ ((h : Int)).toNat) 1 = 1) ↔ g.testBit h = true := by
 rw [Int.toNat_natCast, show (g : Int) / 2 ^ h = ((g / 2 ^ h : Nat) : Int) from by rw [Int.natCast_ediv]; simp]
 have hlt : g / 2 ^ h < 1048576 := Nat.lt_of_le_of_lt (Nat.div_le_self ..) hg
 rw [Nat.testBit_eq_decide_div_mod_eq]
 generalize g / 2 ^ h = x at hlt ⊢
 unfold Go.bits
 have e : (BitVec.ofInt IntKind.i64.bits (x : Int) &&& BitVec.ofInt IntKind.i64.bits 1).toNat = x % 2 := by
  rw [BitVec.toNat_and, BitVec.ofInt_natCast, BitVec.toNat_ofNat, show (BitVec.ofInt IntKind.i64.bits 1).toNat = 1 from rfl, show IntKind.i64.bits = 64 from rfl, Nat.mod_eq_of_lt (show x < 2 ^ 64 by omega), Nat.and_one_is_mod]
 have e2 : IntKind.i64.wrap (((x % 2 : Nat) : Int)) = ((x % 2 : Nat) : Int) := by rw [IntKind.wrap_i64]; omega
 show IntKind.i64.wrap (((BitVec.ofInt IntKind.i64.bits (x : Int) &&& BitVec.ofInt IntKind.i64.bits 1).toNat : Nat) : Int) = 1 ↔ _
 rw [e, e2]
 simp; omega
theorem rows_l2 {K S H : Nat} (hS2 : S ≤ 998) (hK : K ≤ 900) (hH : H ≤ 20) (g : List Nat) (j : Nat) (hj : j ≤ 2000) (hgj : g.getD j 0 < 1048576) : ∀ (m h : Nat), h + m = H →
  Ev (fun k => zca.l2 k (S : Int) H j ((g.getD j 0 : Nat) : Int) (tabl (S + H) (rowB S K H g j h)) (h : Int)) (tabl (S + H) (rowB S K H g j H)) := by
 intro m
 induction m with
 | zero =>
  intro h hh
  refine zqa ?_
  simp only [zca.l2]
  refine zbc (by omega) ?_
  rw [show h = H by omega]
  exact zjd _
 | succ m ih =>
  intro h hh
  refine zqa ?_
  simp only [zca.l2]
  refine zx (by omega) ?_
  rw [show (h : Int) + 1 = ((h + 1 : Nat) : Int) by omega, show (S : Int) + (h : Int) = ((S + h : Nat) : Int) by omega]
  have hbit := half_bit (h := h) hgj (by omega)
  by_cases hb : (g.getD j 0).testBit h = true
  ·refine zx (hbit.2 hb) ?_
   refine zle (put_tab _ j (by omega) (by have := rowB_len S K H g j h (S + h); omega)) ?_
   have e : tabl (S + H) (upd (rowB S K H g j h) (S + h) j) = tabl (S + H) (rowB S K H g j (h + 1)) := ztf fun r hr => by
    unfold upd rowB
    by_cases c1 : r < S
    ·rw [if_pos c1, if_pos c1, if_neg (by omega)]
    ·rw [if_neg c1, if_neg c1, if_pos hr, if_pos hr]
     by_cases c2 : r = S + h
     ·subst c2
      rw [if_pos rfl, if_neg (by omega), if_pos (by omega), Nat.add_sub_cancel_left, List.range_succ, List.filter_append, zgf]
      have hh2 : halfN g h j = true := hb
      simp [hh2, zs]
     ·rw [if_neg c2]
      by_cases c3 : r < S + h
      ·rw [if_pos c3, if_pos (by omega)]
      ·rw [if_neg c3, if_neg (by omega)]
   rw [e]
   exact ih (h + 1) (by omega)
  ·refine zbc (fun e => hb (hbit.1 e)) ?_
   have e : tabl (S + H) (rowB S K H g j h) = tabl (S + H) (rowB S K H g j (h + 1)) := ztf fun r hr => by
    unfold rowB
    by_cases c1 : r < S
    ·rw [if_pos c1, if_pos c1]
    ·rw [if_neg c1, if_neg c1, if_pos hr, if_pos hr]
     by_cases c2 : r = S + h
     ·subst c2
      rw [if_neg (by omega), if_pos (by omega), Nat.add_sub_cancel_left, List.range_succ, List.filter_append, zgf]
      have hh2 : halfN g h j = false := Bool.eq_false_iff.2 hb
      simp [hh2, zs]
     ·by_cases c3 : r < S + h
      ·rw [if_pos c3, if_pos (by omega)]
      ·rw [if_neg c3, if_neg (by omega)]
   rw [e]
   exact ih (h + 1) (by omega)
theorem rows_l1 {K S H : Nat} (hS2 : S ≤ 998) (hK : K ≤ 900) (hH : H ≤ 20) (g : List Nat) (hg : g.length = K + S) (hg2 : ∀ x, x ∈ g → x < 1048576) : ∀ (m j : Nat), j + m = K + S →
  Ev (fun k => zca.l1 k (S : Int) H (zs g) (tabl (S + H) (rowB S K H g j 0)) (j : Int)) (tabl (S + H) (rowB S K H g (K + S) 0)) := by
 intro m
 induction m with
 | zero =>
  intro j hj
  refine zqa ?_
  simp only [zca.l1]
  refine zbc (by rw [zcf]; omega) ?_
  rw [show j = K + S by omega]
  exact zjd _
 | succ m ih =>
  intro j hj
  refine zqa ?_
  simp only [zca.l1]
  refine zx (by rw [zcf]; omega) ?_
  have hgi : g.getD j 0 < 1048576 := by
   rw [List.getD_eq_getElem?_getD, List.getElem?_eq_getElem (by omega)]
   exact hg2 _ (List.getElem_mem _)
  rw [zdf, zs_getD, show (j : Int) + 1 = ((j + 1 : Nat) : Int) by omega]
  refine zjb (rows_l2 hS2 hK hH g j (by omega) hgi H 0 (by omega)) ?_
  have e : tabl (S + H) (rowB S K H g j H) = tabl (S + H) (rowB S K H g (j + 1) 0) := ztf fun r hr => by
   unfold rowB
   by_cases c1 : r < S
   ·rw [if_pos c1, if_pos c1]
   ·rw [if_neg c1, if_neg c1, if_pos hr, if_pos hr, if_pos hr, if_neg (by omega)]
  rw [e]
  exact ih (j + 1) (by omega)
def rowC (F : Nat → List Int) (K i r : Nat) : List Int := if r < i then F r ++ [((K + r : Nat) : Int)] else F r
theorem rows_l3 {n K : Nat} (hn : n ≤ 2000) (hK : K ≤ 900) (F : Nat → List Int) (hF : ∀ r, r < n → (F r).length ≤ 5000) (hs : ∀ r, r < n → (F r ++ [((K + r : Nat) : Int)]).Pairwise fun a b => decide (a ≤ b) = true) : ∀ (m i : Nat), i + m = n →
  Ev (fun k => zca.l3 k (K : Int) (tabl n (rowC F K i)) (i : Int)) (tabl n (rowC F K n)) := by
 intro m
 induction m with
 | zero =>
  intro i hi
  refine zqa ?_
  simp only [zca.l3]
  refine zbc (by rw [tabl_len]; omega) ?_
  rw [show i = n by omega]
  exact zjd _
 | succ m ih =>
  intro i hi
  refine zqa ?_
  simp only [zca.l3]
  refine zx (by rw [tabl_len]; omega) ?_
  have hFi := hF i (by omega)
  have hc : rowC F K i i = F i := by unfold rowC; rw [if_neg (by omega)]
  rw [show (K : Int) + (i : Int) = ((K + i : Nat) : Int) by omega, show (i : Int) + 1 = ((i + 1 : Nat) : Int) by omega, Int.toNat_natCast]
  refine zle (put_tab _ _ (by omega) (by rw [hc]; omega)) ?_
  have hu : upd (rowC F K i) i ((K + i : Nat) : Int) i = F i ++ [((K + i : Nat) : Int)] := by unfold upd; rw [if_pos rfl, hc]
  have hsort : zec.f ((tabl n (upd (rowC F K i) i ((K + i : Nat) : Int))).getD i []) = some (F i ++ [((K + i : Nat) : Int)]) := by
   rw [tabl_get _ (by omega), hu]
   unfold zec.f
   rw [if_neg (by simp), if_pos (by simp; omega)]
   exact congrArg some (List.mergeSort_of_pairwise (hs i (by omega)))
  refine zle hsort ?_
  rw [tabl_set]
  have e : tabl n (fun j => if j = i then F i ++ [((K + i : Nat) : Int)] else upd (rowC F K i) i ((K + i : Nat) : Int) j) = tabl n (rowC F K (i + 1)) := ztf fun r hr => by
   unfold upd rowC
   by_cases c : r = i
   ·subst c; rw [if_pos rfl, if_pos (by omega)]
   ·rw [if_neg c, if_neg c]
    by_cases c2 : r < i
    ·rw [if_pos c2, if_pos (by omega)]
    ·rw [if_neg c2, if_neg (by omega)]
  rw [e]
  exact ih (i + 1) (by omega)
theorem filter_single (l : List Nat) (n x : Nat) (hx : x < n) : (List.range n).filter (fun p => p == x) = [x] := by
 induction n with
 | zero => omega
 | succ n ih =>
  rw [List.range_succ, List.filter_append]
  by_cases h : x = n
  ·subst h
   have : (List.range x).filter (fun p => p == x) = [] := List.filter_eq_nil_iff.2 fun a ha => by have := List.mem_range.1 ha; simp; omega
   simp [this]
  ·rw [ih (by omega)]; simp; omega
theorem ldpcRow_eq {K S r : Nat} (hr : r < S) : ldpcRow K S r = (List.range K).filter (ldpc3 S r) ++ [K + r] := by
 unfold ldpcRow
 have e : List.range (K + S) = List.range K ++ List.range' K S := by
  rw [List.range_eq_range', List.range_eq_range', ← List.range'_append_1, Nat.zero_add]
 rw [e, List.filter_append]
 congr 1
 ·exact List.filter_congr fun x hx => by
   have := List.mem_range.1 hx
   unfold ldpcN ldpc3
   rw [if_neg (by omega)]
 ·have e2 : List.range' K S = (List.range S).map (K + ·) := List.range'_eq_map_range ..
  rw [e2, List.filter_map]
  have : (List.range S).filter (ldpcN K S r ∘ fun x => K + x) = (List.range S).filter (fun p => p == r) := List.filter_congr fun x hx => by
   simp only [Function.comp, ldpcN]
   rw [if_pos (by omega)]
   rw [Bool.eq_iff_iff, beq_iff_eq, beq_iff_eq]; omega
  rw [this, filter_single [] S r hr]; rfl
theorem precode_rows_f {K : Nat} (h1 : 1 ≤ K) (h2 : K ≤ 128) : Ev (fun k => zca.f k (K : Int) (pS K) (pH K) (pL K) (pP K)) (zss (preRows K)) := by
 have h := par h1 h2
 have hb := h.P1
 have hLP := h.nice.LP
 have hs := h.sum
 have hH := h.H20
 have hH1 := h.H1
 have hS3 := h.S3
 have hgl := gray_len h1 h2
 unfold zca.f
 refine zx ⟨by omega, by omega, by omega, by omega, by omega, by omega⟩ ?_
 have e0 : List.replicate (((pS K : Int) + (pH K : Int))).toNat ([] : List Int) = tabl (pS K + pH K) (rowA (pS K) 0) := by
  rw [show (((pS K : Int) + (pH K : Int))).toNat = pS K + pH K by omega]
  unfold tabl
  symm
  rw [List.eq_replicate_iff]
  refine ⟨by simp, fun b hb => ?_⟩
  obtain ⟨r, _, rfl⟩ := List.mem_map.1 hb
  unfold rowA; split <;> simp [zs]
 rw [e0]
 have l0 := rows_l0 (K := K) (n := pS K + pH K) hS3 (by omega) (by omega) (by omega) h.odd h.Sc K 0 (by omega)
 refine zjb l0 ?_
 rw [show ((pH K : Int) + 1) / 2 = (((pH K + 1) / 2 : Nat) : Int) by omega, show (K : Int) + (pS K : Int) = ((K + pS K : Nat) : Int) by omega]
 refine zjb (precode_gray h1 h2) ?_
 have e1 : tabl (pS K + pH K) (rowA (pS K) K) = tabl (pS K + pH K) (rowB (pS K) K (pH K) (gray K) 0 0) := ztf fun r hr => by
  unfold rowB
  by_cases c : r < pS K
  ·rw [if_pos c]
  ·rw [if_neg c, if_pos hr, if_neg (by omega)]; unfold rowA; rw [if_neg c]; simp [zs]
 rw [e1]
 refine zjb (rows_l1 (by omega) (by omega) hH (gray K) hgl (gray_lt K) (K + pS K) 0 (by omega)) ?_
 have e2 : tabl (pS K + pH K) (rowB (pS K) K (pH K) (gray K) (K + pS K) 0) = tabl (pS K + pH K) (rowC (rowB (pS K) K (pH K) (gray K) (K + pS K) 0) K 0) := ztf fun r hr => by
  unfold rowC; rw [if_neg (by omega)]
 rw [e2]
 have hrow : ∀ r, r < pS K + pH K → ∃ l : List Nat, rowB (pS K) K (pH K) (gray K) (K + pS K) 0 r ++ [((K + r : Nat) : Int)] = zs l ∧ l = (preRows K).getD r [] ∧ l ∈ preRows K := by
  intro r hr
  by_cases c : r < pS K
  ·refine ⟨ldpcRow K (pS K) r, ?_, ?_, ?_⟩
   ·unfold rowB; rw [if_pos c, ldpcRow_eq c]; unfold rowA; rw [if_pos c, zgf]; rfl
   ·unfold preRows
    rw [List.getD_eq_getElem?_getD, List.getElem?_append_left (by simpa using c)]
    simp [c]
   ·unfold preRows; exact List.mem_append_left _ (List.mem_map.2 ⟨r, List.mem_range.2 c, rfl⟩)
  ·refine ⟨halfRow K (pS K) (gray K) (r - pS K), ?_, ?_, ?_⟩
   ·unfold rowB halfRow; rw [if_neg c, if_pos hr, if_neg (by omega), zgf, show K + pS K + (r - pS K) = K + r by omega]; rfl
   ·unfold preRows
    rw [List.getD_eq_getElem?_getD, List.getElem?_append_right (by simp; omega)]
    simp [show r - pS K < pH K by omega]
   ·unfold preRows; exact List.mem_append_right _ (List.mem_map.2 ⟨r - pS K, List.mem_range.2 (by omega), rfl⟩)
 have l3 := rows_l3 (n := pS K + pH K) (K := K) (by omega) (by omega) (rowB (pS K) K (pH K) (gray K) (K + pS K) 0) (fun r _ => by have := rowB_len (pS K) K (pH K) (gray K) (K + pS K) 0 r; omega)
  (fun r hr => by
   obtain ⟨l, hl, _, hm⟩ := hrow r hr
   rw [hl]
   exact zs_pairwise (pre_ok l hm).1) (pS K + pH K) 0 (by omega)
 refine Ev_eq l3 ?_
 apply List.ext_getElem?
 intro j
 by_cases hj : j < pS K + pH K
 ·obtain ⟨l, hl, hg, _⟩ := hrow j hj
  unfold tabl zss
  rw [List.getElem?_map, List.getElem?_range hj, List.getElem?_map, Option.map_some]
  unfold rowC
  rw [if_pos hj, hl, hg, List.getD_eq_getElem?_getD, List.getElem?_eq_getElem (by rw [preRows_len]; omega)]
  rfl
 ·rw [List.getElem?_eq_none (by rw [tabl_len]; omega), List.getElem?_eq_none (by rw [zss_len, preRows_len]; omega)]
theorem precode_All_f {K : Nat} (h1 : 1 ≤ K) (h2 : K ≤ 128) : Ev (fun k => precode_All.f k (K : Int) (pS K) (pH K) (pL K) (pP K)) (zss (preRows K), none) := by
 have hc : Ev (fun k => zlf.f k (K : Int) (pS K) (pH K) (pL K) (pP K)) true := by
  refine zjb (par h1 h2).own ?_
  refine zx rfl ?_
  exact zpd (by simp)
 refine zjb hc ?_
 refine zx rfl ?_
 exact zjb (precode_rows_f h1 h2) (zjd _)
end Go.Proofs.YtnglindlofmknaaGreatDoor.B
end
section
set_option maxHeartbeats 8000000
set_option maxRecDepth 100000
namespace Sp
open Lin
set_option linter.unusedSimpArgs false
set_option maxRecDepth 100000
def redB : List (Nat × Nat) → Nat → Nat
 | [], v => v
 | (r, m) :: t, v => if v &&& m = 0 then redB t v else redB t (v ^^^ r)
def lowB (v : Nat) : Nat := v &&& (2 ^ 256 - v)
def goB : List Nat → List (Nat × Nat) → Bool
 | [], _ => true
 | v :: t, kept =>
  let w := redB kept v
  let m := lowB w
  (m == 2 ^ Nat.log2 m) && (w % (2 * m) == m) && goB t (kept ++ [(w, m)])
def fullB (rows : List Nat) : Bool := goB rows []
def row1 (v : Nat) : Eqn := (v, 0)
theorem lead_of_mask {w m c : Nat} (hm : m = 2 ^ c) (h : w % (2 * m) = m) : IsLead w c := by
 subst hm
 rw [← Nat.pow_succ'] at h
 constructor
 ·have := congrArg (fun x => x.testBit c) h
  simpa [Nat.testBit_mod_two_pow, Nat.testBit_two_pow] using this
 ·intro i hi
  have := congrArg (fun x => x.testBit i) h
  have hne : ¬ c = i := by omega
  simpa [Nat.testBit_mod_two_pow, Nat.testBit_two_pow, hne, show i < c + 1 by omega] using this
def Masks (kept : List (Nat × Nat)) : Prop := ∀ x, x ∈ kept → ∃ c, x.2 = 2 ^ c ∧ IsLead x.1 c
theorem and_mask (v c : Nat) : (v &&& 2 ^ c = 0) ↔ v.testBit c = false := by
 constructor
 ·intro h
  have := congrArg (fun x => x.testBit c) h
  simpa [Nat.testBit_and, Nat.testBit_two_pow] using this
 ·intro h
  apply Nat.eq_of_testBit_eq
  intro i
  rw [Nat.testBit_and, Nat.testBit_two_pow]
  by_cases e : c = i
  ·subst e; simp [h]
  ·simp [e]
theorem redB_red (v0 : Nat) (all : List (Nat × Nat)) (hm : Masks all) (ht : Tri (all.map fun x => row1 x.1)) : ∀ (t pre : List (Nat × Nat)) (v : Nat), all = pre ++ t → Span (all.map fun x => row1 x.1) (add (row1 v0) (row1 v)) → (∀ x, x ∈ pre → ∀ c, IsLead x.1 c → v.testBit c = false) →
  Red (all.map fun x => row1 x.1) (row1 v0) (row1 (redB t v))
 | [], pre, v, ha, hs, hp => ⟨hs, fun x hx c hc => by
   obtain ⟨y, hy, rfl⟩ := List.mem_map.1 hx
   rw [ha, List.append_nil] at hy
   exact hp y hy c hc⟩
 | (r, m) :: t, pre, v, ha, hs, hp => by
  have hmem : (r, m) ∈ all := by rw [ha]; simp
  obtain ⟨c, hmc, hlc⟩ := hm _ hmem
  have ha' : all = (pre ++ [(r, m)]) ++ t := by rw [ha]; simp
  have hmc' : m = 2 ^ c := hmc
  simp only [redB]
  by_cases hz : v &&& m = 0
  ·rw [if_pos hz]
   refine redB_red v0 all hm ht t (pre ++ [(r, m)]) v ha' hs fun x hx d hd => ?_
   rcases List.mem_append.1 hx with hx | hx
   ·exact hp x hx d hd
   ·rw [List.mem_singleton.1 hx] at hd
    rw [hd.uniq hlc]
    rw [hmc'] at hz
    exact (and_mask v c).1 hz
  ·rw [if_neg hz]
   have hb : v.testBit c = true := by
    rw [hmc'] at hz
    cases hv : v.testBit c with
    | true => rfl
    | false => exact absurd ((and_mask v c).2 hv) hz
   refine redB_red v0 all hm ht t (pre ++ [(r, m)]) (v ^^^ r) ha' ?_ fun x hx d hd => ?_
   ·have : add (row1 v0) (row1 (v ^^^ r)) = add (add (row1 v0) (row1 v)) (row1 r) := by
     simp only [add, row1, Nat.xor_zero, Nat.xor_assoc]
    rw [this]
    exact .step hs (List.mem_map.2 ⟨_, hmem, rfl⟩)
   ·rw [Nat.testBit_xor]
    rcases List.mem_append.1 hx with hx | hx
    ·have h1 := hp x hx d hd
     have h2 : r.testBit d = false := by
      have hpw := ht.2
      rw [ha', List.map_append, List.map_append, List.pairwise_append, List.pairwise_append] at hpw
      exact hpw.1.2.2 (row1 x.1) (List.mem_map.2 ⟨x, hx, rfl⟩) (row1 r) (by simp [row1]) d hd
     rw [h1, h2]; rfl
    ·rw [List.mem_singleton.1 hx] at hd
     rw [hd.uniq hlc, hb, hlc.1]; rfl
theorem goB_ok : ∀ (rows : List Nat) (kept : List (Nat × Nat)) (done : List Eqn), goB rows kept = true → Masks kept → Tri (kept.map fun x => row1 x.1) → (∀ x, x ∈ kept.map (fun x => row1 x.1) → Span done x) → (∀ x, x ∈ done → Span (kept.map fun x => row1 x.1) x) →
  ∃ l : List Eqn, Tri l ∧ l.length = kept.length + rows.length ∧ (∀ x, x ∈ l → Span (done ++ rows.map row1) x) ∧ (∀ x, x ∈ done ++ rows.map row1 → Span l x)
 | [], kept, done, _, hm, ht, h1, h2 => ⟨_, ht, by simp, by simpa using h1, by simpa using h2⟩
 | v :: t, kept, done, h, hm, ht, h1, h2 => by
  simp only [goB, Bool.and_eq_true, beq_iff_eq] at h
  obtain ⟨⟨g1, g2⟩, g3⟩ := h
  have hred := redB_red v kept hm ht kept [] v rfl (by rw [add_self]; exact .zero) (by simp)
  generalize redB kept v = w at *
  have hlead := lead_of_mask g1 g2
  have hne : (row1 w).1 ≠ 0 := hlead.ne
  have e : (kept ++ [(w, lowB w)]).map (fun x => row1 x.1) = kept.map (fun x => row1 x.1) ++ [row1 w] := by simp
  obtain ⟨l, l1, l2, l3, l4⟩ := goB_ok t (kept ++ [(w, lowB w)]) (done ++ [row1 v]) g3
   (fun x hx => by
    rcases List.mem_append.1 hx with hx | hx
    ·exact hm x hx
    ·rw [List.mem_singleton.1 hx]; exact ⟨_, g1, hlead⟩)
   (by rw [e]; exact ht.snoc hred hne)
   (fun x hx => by
    rw [e] at hx
    rcases List.mem_append.1 hx with hx | hx
    ·exact (h1 x hx).mono fun y hy => List.mem_append_left _ hy
    ·rw [List.mem_singleton.1 hx]
     refine Span.of (l := kept.map (fun x => row1 x.1) ++ [row1 v]) (fun y hy => ?_) hred.snoc_span
     rcases List.mem_append.1 hy with hy | hy
     ·exact (h1 y hy).mono fun z hz => List.mem_append_left _ hz
     ·exact .mem (List.mem_append_right _ hy))
   (fun x hx => by
    rw [e]
    rcases List.mem_append.1 hx with hx | hx
    ·exact (h2 x hx).mono fun y hy => List.mem_append_left _ hy
    ·rw [List.mem_singleton.1 hx]; exact hred.span_snoc)
  refine ⟨l, l1, by rw [l2]; simp; omega, ?_, ?_⟩
  ·intro x hx; have := l3 x hx; rwa [List.append_assoc] at this
  ·intro x hx; apply l4; rwa [List.append_assoc]
def IsRank (rows : List Eqn) (n : Nat) : Prop := ∃ l, Tri l ∧ l.length = n ∧ (∀ x, x ∈ l → Span rows x) ∧ (∀ x, x ∈ rows → Span l x)
theorem fullB_ok {rows : List Nat} (h : fullB rows = true) : IsRank (rows.map row1) rows.length := by
 obtain ⟨l, l1, l2, l3, l4⟩ := goB_ok rows [] [] h (fun x hx => by simp at hx) ⟨by simp, by simp⟩ (by simp) (by simp)
 exact ⟨l, l1, by simpa using l2, by simpa using l3, by simpa using l4⟩
theorem IsRank.uniq {rows : List Eqn} {n m : Nat} (h : IsRank rows n) (k : IsRank rows m) : n = m := by
 obtain ⟨l, l1, rfl, l3, l4⟩ := h
 obtain ⟨q, q1, rfl, q3, q4⟩ := k
 refine l1.ech.len_eq q1.ech fun r => ⟨fun ⟨s, hs⟩ => ⟨s, ?_⟩, fun ⟨s, hs⟩ => ⟨s, ?_⟩⟩
 ·exact Span.of q4 (Span.of l3 hs)
 ·exact Span.of l4 (Span.of q3 hs)
theorem span_lt {rows : List Eqn} {n : Nat} (h : ∀ x, x ∈ rows → x.1 < 2 ^ n) {v : Eqn} (hv : Span rows v) : v.1 < 2 ^ n := by
 induction hv with
 | zero => exact Nat.two_pow_pos n
 | step _ hx ih => exact Nat.xor_lt_two_pow ih (h _ hx)
theorem IsRank.le {rows : List Eqn} {n k : Nat} (h : IsRank rows n) (hr : ∀ x, x ∈ rows → x.1 < 2 ^ k) : n ≤ k := by
 obtain ⟨l, l1, rfl, l3, l4⟩ := h
 exact l1.ech.len_le_cols fun x hx => span_lt hr (l3 x hx)
def bitsOf (l : List Nat) : Nat := l.foldr (fun c a => 2 ^ c ||| a) 0
theorem zbe (l : List Nat) (c : Nat) : (bitsOf l).testBit c = decide (c ∈ l) := by
 induction l with
 | nil => simp [bitsOf]
 | cons x l ih =>
  have e : bitsOf (x :: l) = 2 ^ x ||| bitsOf l := rfl
  rw [e, Nat.testBit_or, ih, Nat.testBit_two_pow, Bool.eq_iff_iff]
  simp only [Bool.or_eq_true, decide_eq_true_eq, List.mem_cons]
  constructor
  ·rintro (h | h)
   ·exact .inl h.symm
   ·exact .inr h
  ·rintro (h | h)
   ·exact .inl h.symm
   ·exact .inr h
theorem bitsOf_lt {l : List Nat} {n : Nat} (h : ∀ x, x ∈ l → x < n) : bitsOf l < 2 ^ n := by
 apply Nat.lt_pow_two_of_testBit
 intro i hi
 rw [zbe, decide_eq_false_iff_not]
 intro hm; have := h i hm; omega
theorem bitsOf_congr {l m : List Nat} (h : ∀ c, c ∈ l ↔ c ∈ m) : bitsOf l = bitsOf m := by
 apply Nat.eq_of_testBit_eq
 intro c
 rw [zbe, zbe, decide_eq_decide]; exact h c
def halfB (h : Nat) : List Nat → Nat → Nat
 | [], _ => 0
 | x :: t, i => if x &&& 2 ^ h = 0 then halfB h t (i + 1) else 2 ^ i ||| halfB h t (i + 1)
def ldpcB (S row : Nat) : Nat → Nat → Nat
 | 0, _ => 0
 | n + 1, i => let b := i % S; let a := 1 + i / S % (S - 1); if (row == b || row == (b + a) % S || row == (b + 2 * a) % S) = true then 2 ^ i ||| ldpcB S row n (i + 1) else ldpcB S row n (i + 1)
def preB (K S H : Nat) (g : List Nat) : List Nat := (List.range S).map (fun r => 2 ^ (K + r) ||| ldpcB S r K 0) ++ (List.range H).map (fun h => 2 ^ (K + S + h) ||| halfB h g 0)
def rowsB (K seed : Nat) : List Nat := preB K (pS K) (pH K) (gray K) ++ (List.range K).map fun e => bitsOf (walkN (pL K) (pP K) seed e)
def fullK (K : Nat) : Bool := fullB (rowsB K (pSeed K))
end Sp
end
section
set_option maxHeartbeats 8000000
set_option maxRecDepth 100000
namespace Go.Proofs.YtnglindlofmknaaGreatDoor.B
open Go.RowKit Go.Proofs.YW.PrintWords Go.Proofs.YW.PrintLast Go.Proofs.YW.PrintMore
open Sp Lin
set_option linter.unusedVariables false
set_option linter.unusedSimpArgs false
set_option maxRecDepth 100000
def sz (L : Nat) : Nat := (L + 63) / 64
def wd (n v : Nat) : List Int := (List.range n).map fun (i : Nat) => ((v / 2 ^ (64 * i) % 2 ^ 64 : Nat) : Int)
theorem wd_len (n v : Nat) : (wd n v).length = n := by simp [wd]
theorem wd_wf (n v : Nat) : Wf 64 (wd n v) := fun x hx => by
 obtain ⟨i, _, rfl⟩ := List.mem_map.1 hx
 have := Nat.mod_lt (v / 2 ^ (64 * i)) (Nat.two_pow_pos 64)
 exact ⟨by omega, by exact_mod_cast this⟩
theorem wd_val {n v : Nat} (h : v < 2 ^ (64 * n)) : val 64 (wd n v) = v := by
 apply Nat.eq_of_testBit_eq
 intro j
 rw [zve (by decide) (wd_wf n v)]
 by_cases hj : j / 64 < n
 ·have e : (wd n v).getD (j / 64) 0 = ((v / 2 ^ (64 * (j / 64)) % 2 ^ 64 : Nat) : Int) := by
   simp [wd, List.getD_eq_getElem?_getD, List.getElem?_map, List.getElem?_range hj]
  rw [e, Int.toNat_natCast, Nat.testBit_mod_two_pow, Nat.testBit_div_two_pow]
  have : j % 64 < 64 := Nat.mod_lt _ (by decide)
  rw [show j % 64 + 64 * (j / 64) = j by omega]
  simp [this]
 ·have e : (wd n v).getD (j / 64) 0 = 0 := by
   rw [List.getD_eq_getElem?_getD, List.getElem?_eq_none (by rw [wd_len]; omega)]; rfl
  rw [e]
  have : v < 2 ^ j := Nat.lt_of_lt_of_le h (Nat.pow_le_pow_right (by decide) (by omega))
  rw [Nat.testBit_lt_two_pow this]; simp
theorem wd_uniq {n v : Nat} {w : List Int} (hw : Wf 64 w) (hl : w.length = n) (hv : val 64 w = v) : w = wd n v := by
 have hlt : v < 2 ^ (64 * n) := by rw [← hv, ← hl]; exact val_lt hw
 exact val_inj hw (wd_wf n v) (by rw [hl, wd_len]) (by rw [hv, wd_val hlt])
def pk (L : Nat) (l : List Nat) : List Int := wd (sz L) (bitsOf l)
theorem has_f {w : List Int} (h : Wf 64 w) (hl : w.length ≤ 1000000) {c : Nat} (hc : c < 1000000000) : zmf.f w (c : Int) = some ((val 64 w).testBit c) := by
 unfold zmf.f
 rw [if_pos (by omega), tdivE (by omega), tmodE (by omega), show (c : Int) / 64 = ((c / 64 : Nat) : Int) by omega, show (c : Int) % 64 = ((c % 64 : Nat) : Int) by omega, w64 (x := ((c / 64 : Nat) : Int)) (by omega) (by omega)]
 by_cases hi : c / 64 < w.length
 ·rw [if_pos (by omega), if_pos (by omega), if_pos (by omega)]
  refine congrArg some ?_
  rw [zve (by decide) h, zdf]
  have hx := h.getD (c / 64)
  generalize w.getD (c / 64) 0 = x at hx ⊢
  have hm : c % 64 < 64 := Nat.mod_lt _ (by decide)
  generalize c % 64 = m at hm ⊢
  have hsh : shr .u64 x (m : Int) = ((x.toNat / 2 ^ m : Nat) : Int) := by
   unfold shr
   rw [show min ((m : Int)).toNat IntKind.u64.bits = m from by show min ((m : Int)).toNat 64 = m; rw [Int.toNat_natCast]; omega]
   rw [Int.natCast_ediv, Int.toNat_of_nonneg hx.1]; simp
  have hlt := toNat_lt hx
  have hlt2 : x.toNat / 2 ^ m < 2 ^ 64 := Nat.lt_of_le_of_lt (Nat.div_le_self ..) hlt
  rw [hsh, bits_and_u64 ⟨by exact Int.natCast_nonneg _, by exact_mod_cast hlt2⟩ (by decide)]
  rw [Int.toNat_natCast, show (1 : Int).toNat = 1 from rfl, Nat.and_one_is_mod, Nat.testBit_eq_decide_div_mod_eq]
  generalize x.toNat / 2 ^ m = y
  rw [Bool.eq_iff_iff]; simp; omega
 ·rw [if_neg (by omega)]
  refine congrArg some ?_
  have : val 64 w < 2 ^ c := Nat.lt_of_lt_of_le (val_lt h) (Nat.pow_le_pow_right (by decide) (by omega))
  rw [Nat.testBit_lt_two_pow this]
theorem pack_l0 {L : Nat} (hL : L ≤ 1000) (l : List Nat) (hn : l.Nodup) (hb : ∀ x, x ∈ l → x < L) (hll : l.length ≤ 1000) : ∀ (m i : Nat) (w : List Int), i + m = l.length → Wf 64 w → w.length = sz L → val 64 w = bitsOf (l.take i) →
  Ev (fun k => zyb.l0 k w (zs l) (l.length : Int) (i : Int)) (pk L l, none) := by
 intro m
 induction m with
 | zero =>
  intro i w hi hw hwl hv
  refine zqa ?_
  simp only [zyb.l0]
  refine zbc (by omega) ?_
  refine zpd ?_
  rw [wd_uniq hw hwl hv, List.take_of_length_le (by omega)]; rfl
 | succ m ih =>
  intro i w hi hw hwl hv
  have hil : i < l.length := by omega
  refine zqa ?_
  simp only [zyb.l0]
  refine zx (by omega) ?_
  refine zx (by omega) ?_
  refine zx (by rw [zcf]; omega) ?_
  have hx : l.getD i 0 = l[i] := by rw [List.getD_eq_getElem?_getD, List.getElem?_eq_getElem hil]; rfl
  have hlt : l[i] < L := hb _ (List.getElem_mem _)
  have htk : l.take (i + 1) = l.take i ++ [l[i]] := by rw [List.take_succ_eq_append_getElem hil]
  have hnot : l[i] ∉ l.take i := fun hm => by
   have h2 : (l.take (i + 1)).Nodup := hn.take
   rw [htk, List.nodup_append] at h2
   exact h2.2.2 _ hm _ (List.mem_singleton.2 rfl) rfl
  rw [zdf, zs_getD, hx, w64 (x := (i : Int) + 1) (by omega) (by omega)]
  generalize l[i] = c at *
  have hsz : w.length ≤ 1000000 := by rw [hwl]; unfold sz; omega
  refine zle (has_f hw hsz (by omega)) ?_
  refine zbc (by rw [hv, zbe]; simpa using hnot) ?_
  rw [tdivE (by omega), tmodE (by omega), show (c : Int) / 64 = ((c / 64 : Nat) : Int) by omega, show (c : Int) % 64 = ((c % 64 : Nat) : Int) by omega, w64 (x := ((c / 64 : Nat) : Int)) (by omega) (by omega)]
  have hci : c / 64 < w.length := by rw [hwl]; unfold sz; omega
  refine zx (by omega) ?_
  refine zx (by omega) ?_
  refine zx (by omega) ?_
  rw [Int.toNat_natCast, zdf]
  have hm : c % 64 < 64 := Nat.mod_lt _ (by decide)
  have hsh : shl .u64 1 ((c % 64 : Nat) : Int) = ((2 ^ (c % 64) : Nat) : Int) := by
   unfold shl
   rw [show min (((c % 64 : Nat) : Int)).toNat IntKind.u64.bits = c % 64 from by show min (((c % 64 : Nat) : Int)).toNat 64 = c % 64; rw [Int.toNat_natCast]; omega]
   have hp : 2 ^ (c % 64) < 2 ^ 64 := Nat.pow_lt_pow_right (by decide) hm
   have e : (1 : Int) * 2 ^ (c % 64) = ((2 ^ (c % 64) : Nat) : Int) := by simp
   rw [e, u64w (Int.natCast_nonneg _) (by simpa using (show ((2 ^ (c % 64) : Nat) : Int) < ((2 ^ 64 : Nat) : Int) by exact_mod_cast hp))]
  have hp : 2 ^ (c % 64) < 2 ^ 64 := Nat.pow_lt_pow_right (by decide) hm
  rw [hsh, bits_or_u64 (hw.getD _) ⟨Int.natCast_nonneg _, by exact_mod_cast hp⟩, Int.toNat_natCast]
  obtain ⟨h1, h2⟩ := val_setBit (s := 64) (by decide) hw c hci
  rw [show (i : Int) + 1 = ((i + 1 : Nat) : Int) by omega]
  refine ih (i + 1) _ (by omega) h1 (by rw [List.length_set, hwl]) ?_
  rw [h2, hv, htk]
  apply Nat.eq_of_testBit_eq
  intro j
  rw [Nat.testBit_or, zbe, zbe, Nat.testBit_two_pow, Bool.eq_iff_iff]
  simp only [Bool.or_eq_true, decide_eq_true_eq, List.mem_append, List.mem_singleton]
  exact ⟨fun h => h.imp id Eq.symm, fun h => h.imp id Eq.symm⟩
theorem check_l0 {L : Nat} (l : List Nat) (hb : ∀ x, x ∈ l → x < L) (hll : l.length ≤ 1000) : ∀ (m i : Nat), i + m = l.length →
  Ev (fun k => zgd.l0 k (L : Int) (zs l) (l.length : Int) (i : Int)) 0 := by
 intro m
 induction m with
 | zero =>
  intro i hi
  refine zqa ?_
  simp only [zgd.l0]
  refine zbc (by omega) ?_
  exact zjd _
 | succ m ih =>
  intro i hi
  have hil : i < l.length := by omega
  refine zqa ?_
  simp only [zgd.l0]
  refine zx (by omega) ?_
  refine zx (by omega) ?_
  refine zx (by rw [zcf]; omega) ?_
  have hx : l.getD i 0 = l[i] := by rw [List.getD_eq_getElem?_getD, List.getElem?_eq_getElem hil]; rfl
  have hlt : l[i] < L := hb _ (List.getElem_mem _)
  rw [zdf, zs_getD, hx, w64 (x := (i : Int) + 1) (by omega) (by omega)]
  refine zbc (by omega) ?_
  refine zbc (by omega) ?_
  exact ih (i + 1) (by omega)
theorem size_f {L : Nat} (h : L ≤ 1000) : zde.f (L : Int) = some (sz L : Int) := by
 unfold zde.f
 rw [if_neg (by omega), if_neg (by omega), w64 (x := (L : Int) + 63) (by omega) (by omega), tdivE (by omega), w64 (by omega) (by omega)]
 unfold sz
 exact congrArg some (by omega)
theorem pack_f {L : Nat} (hL : L ≤ 1000) {l : List Nat} (hn : l.Nodup) (hb : ∀ x, x ∈ l → x < L) : Ev (fun k => zyb.f k (zs l) (L : Int)) (pk L l, none) := by
 have hll : l.length ≤ 1000 := by
  have := zte (m := List.range L) hn fun x hx => List.mem_range.2 (hb x hx)
  simp at this; omega
 have hc : Ev (fun k => zgd.f k (zs l) (L : Int)) 0 := by
  unfold zgd.f
  refine zbc (by omega) ?_
  refine zbc (by omega) ?_
  rw [zcf]
  exact check_l0 l hb hll l.length 0 (by omega)
 unfold zyb.f
 refine zjb hc ?_
 refine zx rfl ?_
 refine zle (size_f hL) ?_
 have : sz L ≤ 1000 := by unfold sz; omega
 refine zx (by omega) ?_
 refine zx (by omega) ?_
 rw [Int.toNat_natCast, zcf]
 exact pack_l0 hL l hn hb hll l.length 0 _ (by omega) (Wf.zeros _ _) (by simp) (by rw [val_zeros]; rfl)
def sizeB (n : Nat) : Bool := match zma.f 40 (n : Int) with
 | some x => x == ((sz n : Nat) : Int)
 | none => false
theorem size_all : ((List.range 1001).all sizeB) = true := by decide +kernel
theorem ref02_size {L : Nat} (h : L ≤ 1000) : Ev (fun k => zma.f k (L : Int)) (sz L : Int) := by
 have := List.all_eq_true.1 size_all L (List.mem_range.2 (by omega))
 unfold sizeB at this
 split at this
 ·rename_i x hx
  simp only [beq_iff_eq] at this
  rw [this] at hx
  exact Ev.of (fun k => zma.mono _ k) hx
 ·cases this
theorem mod_step (x t : Nat) : x % 2 ^ (t + 1) = 2 * (x / 2 % 2 ^ t) + x % 2 := by
 rw [Nat.pow_succ, Nat.mul_comm (2 ^ t), Nat.mod_mul]; omega
theorem ref02_pack_l1 {L : Nat} (hL : L ≤ 1000) (l : List Nat) (hll : l.length ≤ 1000) (out : List Int) (i : Nat) (hi : i < 100) (ho : out.length ≤ 1000) (r : List Int)
  (hnext : Ev (fun k => zra.l0 k (zs l) (L : Int) (out ++ [((bitsOf l / 2 ^ (64 * i) % 2 ^ 64 : Nat) : Int)]) ((i + 1 : Nat) : Int)) r) : ∀ (b : Nat) (x : Nat), b ≤ 64 → x = bitsOf l / 2 ^ (64 * i + b) % 2 ^ (64 - b) →
  Ev (fun k => zra.l1 k (zs l) (L : Int) out (i : Int) (x : Int) ((b : Int) - 1)) r := by
 intro b
 induction b with
 | zero =>
  intro x hb hx
  refine zqa ?_
  simp only [zra.l1]
  refine zbc (by omega) ?_
  refine zx (by omega) ?_
  rw [w64 (by omega) (by omega), hx]
  exact hnext
 | succ b ih =>
  intro x hb hx
  refine zqa ?_
  simp only [zra.l1]
  refine zx (by omega) ?_
  rw [w64 (x := 64 * (i : Int)) (by omega) (by omega), w64 (x := 64 * (i : Int) + (((b + 1 : Nat) : Int) - 1)) (by omega) (by omega), w64 (x := ((b + 1 : Nat) : Int) - 1 - 1) (by omega) (by omega)]
  rw [show 64 * (i : Int) + (((b + 1 : Nat) : Int) - 1) = ((64 * i + b : Nat) : Int) by omega, show ((b + 1 : Nat) : Int) - 1 - 1 = (b : Int) - 1 by omega]
  refine zjb (ref02_in (zs l) _ (by rw [zcf]; omega)) ?_
  have hxlt : x < 2 ^ 63 := by
   rw [hx]
   exact Nat.lt_of_lt_of_le (Nat.mod_lt _ (Nat.two_pow_pos _)) (Nat.pow_le_pow_right (by decide) (by omega))
  have hstep : bitsOf l / 2 ^ (64 * i + b) % 2 ^ (64 - b) = 2 * x + bitsOf l / 2 ^ (64 * i + b) % 2 := by
   rw [show 64 - b = (64 - (b + 1)) + 1 by omega, mod_step, hx, show 64 * i + (b + 1) = (64 * i + b) + 1 by omega, Nat.pow_succ, Nat.div_div_eq_div_mul]
  have hbit : (bitsOf l).testBit (64 * i + b) = decide (64 * i + b ∈ l) := zbe ..
  rw [Nat.testBit_eq_decide_div_mod_eq] at hbit
  rw [u64w (x := 2 * (x : Int)) (by omega) (by omega)]
  by_cases hm : 64 * i + b ∈ l
  ·refine zx (by simpa [mem_zs] using (mem_zs l (64 * i + b)).2 hm) ?_
   have h1 : bitsOf l / 2 ^ (64 * i + b) % 2 = 1 := by simpa [hm] using hbit
   rw [u64w (by omega) (by omega), show 2 * (x : Int) + 1 = ((2 * x + 1 : Nat) : Int) by omega]
   exact ih _ (by omega) (by rw [hstep, h1])
  ·refine zbc (by simpa using fun h => hm ((mem_zs l (64 * i + b)).1 h)) ?_
   have h0 : bitsOf l / 2 ^ (64 * i + b) % 2 = 0 := by
    have h2 : ¬ bitsOf l / 2 ^ (64 * i + b) % 2 = 1 := by simpa [hm] using hbit
    omega
   rw [show 2 * (x : Int) = ((2 * x : Nat) : Int) by omega]
   exact ih _ (by omega) (by rw [hstep, h0]; rfl)
theorem ref02_pack {L : Nat} (hL : L ≤ 1000) {l : List Nat} (hn : l.Nodup) (hb : ∀ x, x ∈ l → x < L) : Ev (fun k => zra.f k (zs l) (L : Int)) (pk L l) := by
 have hll : l.length ≤ 1000 := by
  have := zte (m := List.range L) hn fun x hx => List.mem_range.2 (hb x hx)
  simp at this; omega
 have hbl := bitsOf_lt hb
 have go : ∀ (m i : Nat) (out : List Int), i + m = sz L → out = (List.range i).map (fun (i : Nat) => ((bitsOf l / 2 ^ (64 * i) % 2 ^ 64 : Nat) : Int)) → Ev (fun k => zra.l0 k (zs l) (L : Int) out (i : Int)) (pk L l) := by
  intro m
  induction m with
  | zero =>
   intro i out hi ho
   refine zqa ?_
   simp only [zra.l0]
   refine zjb (ref02_size hL) ?_
   refine zbc (by omega) ?_
   refine zpd ?_
   rw [ho, show i = sz L by omega]; rfl
  | succ m ih =>
   intro i out hi ho
   have hs : sz L ≤ 17 := by unfold sz; omega
   refine zqa ?_
   simp only [zra.l0]
   refine zjb (ref02_size hL) ?_
   refine zx (by omega) ?_
   have := ref02_pack_l1 hL l hll out i (by omega) (by rw [ho]; simp; omega) (pk L l) (ih (i + 1) _ (by omega) (by rw [ho, List.range_succ, List.map_append]; rfl)) 64 0 (by decide) (by
    rw [Nat.sub_self, Nat.pow_zero, Nat.mod_one])
   exact this
 exact go (sz L) 0 [] (by omega) rfl
theorem first_f {K : Nat} (hK : K ≤ 1000) : Ev (fun k => zfd.f k (K : Int)) (zs (List.range K)) := by
 have go : ∀ (m i : Nat), i + m = K → Ev (fun k => zfd.l0 k (zs (List.range i)) (K : Int) (i : Int)) (zs (List.range K)) := by
  intro m
  induction m with
  | zero =>
   intro i hi
   refine zqa ?_
   simp only [zfd.l0]
   refine zbc (by omega) ?_
   rw [show i = K by omega]; exact zjd _
  | succ m ih =>
   intro i hi
   refine zqa ?_
   simp only [zfd.l0]
   refine zx (by omega) ?_
   refine zx (by rw [zcf]; simp; omega) ?_
   rw [w64 (by omega) (by omega)]
   have := ih (i + 1) (by omega)
   rw [List.range_succ, zgf] at this
   exact this
 exact go K 0 (by omega)
theorem ref11_first {K : Nat} (hK : K ≤ 1000) : Ev (fun k => zrb.f k (K : Int)) (zs (List.range K)) := by
 have go : ∀ (m i : Nat), i + m = K → Ev (fun k => zrb.l0 k (K : Int) (zs (List.range i)) (i : Int)) (zs (List.range K)) := by
  intro m
  induction m with
  | zero =>
   intro i hi
   refine zqa ?_
   simp only [zrb.l0]
   refine zbc (by omega) ?_
   rw [show i = K by omega]; exact zjd _
  | succ m ih =>
   intro i hi
   refine zqa ?_
   simp only [zrb.l0]
   refine zx (by omega) ?_
   refine zx (by rw [zcf]; simp; omega) ?_
   rw [w64 (by omega) (by omega)]
   have := ih (i + 1) (by omega)
   rw [List.range_succ, zgf] at this
   exact this
 exact go K 0 (by omega)
def pks (L : Nat) (rows : List (List Nat)) : List (List Int) := rows.map (pk L)
theorem zss_get (l : List (List Nat)) (i : Nat) : (zss l).getD i [] = zs (l.getD i []) := by
 simp only [zss, List.getD_eq_getElem?_getD, List.getElem?_map]
 cases l[i]? <;> rfl
theorem getD_mem {l : List (List Nat)} {i : Nat} (h : i < l.length) : l.getD i [] = l[i] ∧ l[i] ∈ l := ⟨by rw [List.getD_eq_getElem?_getD, List.getElem?_eq_getElem h]; rfl, List.getElem_mem _⟩
theorem sysrows_l2 {L : Nat} (hL : L ≤ 1000) (K S H P : Int) (rows : List (List Nat)) (hr : rows.length ≤ 100000) (hok : ∀ r, r ∈ rows → r.Pairwise (· < ·) ∧ ∀ x, x ∈ r → x < L) : ∀ (m i : Nat), i + m = rows.length →
  Ev (fun k => zoa.l2 k (pks L (rows.take i)) (zss rows) (rows.length : Int) (i : Int) K S H L P) (pks L rows, none) := by
 intro m
 induction m with
 | zero =>
  intro i hi
  refine zqa ?_
  simp only [zoa.l2]
  refine zbc (by omega) ?_
  refine zpd ?_
  rw [List.take_of_length_le (by omega)]
 | succ m ih =>
  intro i hi
  have hil : i < rows.length := by omega
  refine zqa ?_
  simp only [zoa.l2]
  refine zx (by omega) ?_
  refine zx (by omega) ?_
  refine zx (by rw [zss_len]; omega) ?_
  have hg := getD_mem hil
  have e : rd_L2 (zss rows) (i : Int) = zs rows[i] := by
   unfold rd_L2; rw [Int.toNat_natCast, zss_get, hg.1]
  rw [e]
  have ho := hok _ hg.2
  refine zjb (pack_f hL (ho.1.imp fun {a b} h => Nat.ne_of_lt h) ho.2) ?_
  refine zx rfl ?_
  refine zx (by unfold pks; simp; omega) ?_
  rw [w64 (by omega) (by omega)]
  have := ih (i + 1) (by omega)
  rw [List.take_succ_eq_append_getElem hil] at this
  unfold pks at this ⊢
  rw [List.map_append] at this
  exact this
def Esis (l : List Nat) : Prop := l.length ≤ 4096 ∧ ∀ e, e ∈ l → e < 65536
theorem sysrows_l1 {K S H L P : Nat} (h : Par K S H L P) {seed : Nat} (hs : seed < 65536) (esis : List Nat) (he : Esis esis) (pre : List (List Nat)) (hpre : pre.length ≤ 5000) (r : List (List Int) × Option Int)
  (hnext : Ev (fun k => zoa.l2 k [] (zss (pre ++ esis.map (rowN L P seed))) ((pre ++ esis.map (rowN L P seed)).length : Int) 0 (K : Int) S H L P) r) : ∀ (m i : Nat), i + m = esis.length →
  Ev (fun k => zoa.l1 k (seed : Int) (zss (pre ++ (esis.take i).map (rowN L P seed))) (zs esis) (esis.length : Int) (i : Int) (K : Int) S H L P) r := by
 intro m
 induction m with
 | zero =>
  intro i hi
  refine zqa ?_
  simp only [zoa.l1]
  refine zbc (by omega) ?_
  rw [List.take_of_length_le (by omega), zss_len]
  exact hnext
 | succ m ih =>
  intro i hi
  have hil : i < esis.length := by omega
  have hlen := he.1
  refine zqa ?_
  simp only [zoa.l1]
  refine zx (by omega) ?_
  refine zx (by omega) ?_
  refine zx (by rw [zcf]; omega) ?_
  have hx : esis.getD i 0 = esis[i] := by rw [List.getD_eq_getElem?_getD, List.getElem?_eq_getElem hil]; rfl
  rw [zdf, zs_getD, hx]
  refine zjb (ltrow_Row_f h hs (he.2 _ (List.getElem_mem _))) ?_
  refine zx rfl ?_
  refine zx (by rw [zss_len]; simp; omega) ?_
  rw [w64 (by omega) (by omega)]
  have := ih (i + 1) (by omega)
  rw [List.take_succ_eq_append_getElem hil, List.map_append, ← List.append_assoc] at this
  have e : zss (pre ++ (esis.take i).map (rowN L P seed) ++ [esis[i]].map (rowN L P seed)) = zss (pre ++ (esis.take i).map (rowN L P seed)) ++ [zs (rowN L P seed esis[i])] := by unfold zss; rw [List.map_append]; rfl
  rw [e] at this
  exact this
theorem sysrows_l0 {K S H L P : Int} {seed : Int} (esis : List Nat) (he : Esis esis) (pre : List (List Int)) (r : List (List Int) × Option Int)
  (hnext : Ev (fun k => zoa.l1 k seed pre (zs esis) (esis.length : Int) 0 K S H L P) r) : ∀ (m i : Nat), i + m = esis.length →
  Ev (fun k => zoa.l0 k seed (zs esis) pre (zs esis) (esis.length : Int) (i : Int) K S H L P) r := by
 intro m
 induction m with
 | zero =>
  intro i hi
  have hlen := he.1
  refine zqa ?_
  simp only [zoa.l0]
  refine zbc (by omega) ?_
  rw [zcf]
  refine zbc (by omega) ?_
  exact hnext
 | succ m ih =>
  intro i hi
  have hil : i < esis.length := by omega
  have hlen := he.1
  refine zqa ?_
  simp only [zoa.l0]
  refine zx (by omega) ?_
  refine zx (by omega) ?_
  refine zx (by rw [zcf]; omega) ?_
  have hx : esis.getD i 0 = esis[i] := by rw [List.getD_eq_getElem?_getD, List.getElem?_eq_getElem hil]; rfl
  have hlt := he.2 _ (List.getElem_mem hil)
  rw [zdf, zs_getD, hx, w64 (x := (i : Int) + 1) (by omega) (by omega)]
  refine zbc (by omega) ?_
  refine zbc (by omega) ?_
  exact ih (i + 1) (by omega)
theorem system_Rows_f {K seed : Nat} (h1 : 1 ≤ K) (h2 : K ≤ 128) (hs : seed < 65536) (esis : List Nat) (he : Esis esis) :
  Ev (fun k => zoa.f k (K : Int) (pS K) (pH K) (pL K) (pP K) seed (zs esis)) (pks (pL K) (rowsN K seed esis), none) := by
 have h := par h1 h2
 have hb := h.P1
 have hLP := h.nice.LP
 have hsum := h.sum
 have hlen := he.1
 unfold zoa.f
 refine zjb (precode_All_f h1 h2) ?_
 refine zx rfl ?_
 refine zbc (by omega) ?_
 refine zqa ?_
 simp only [zoa.j0]
 refine zbc (by simp; omega) ?_
 rw [zcf]
 refine sysrows_l0 esis he _ _ ?_ esis.length 0 (by omega)
 have l2 := sysrows_l2 (L := pL K) (by omega) (K : Int) (pS K) (pH K) (pP K) (rowsN K seed esis) (by rw [rows_len]; omega) rows_ok (rowsN K seed esis).length 0 (by omega)
 have l1 := sysrows_l1 h hs esis he (preRows K) (by rw [preRows_len]; omega) _ l2 esis.length 0 (by omega)
 rw [List.take_zero, List.map_nil, List.append_nil] at l1
 exact l1
theorem ref11_places {K seed : Nat} (h1 : 1 ≤ K) (h2 : K ≤ 128) (hs : seed < 65536) (esis : List Nat) (he : Esis esis) :
  Ev (fun k => zga.f k (K : Int) (pS K) (pH K) (pL K) (pP K) seed (zs esis)) (zss (rowsN K seed esis)) := by
 have h := par h1 h2
 have hb := h.P1
 have hLP := h.nice.LP
 have hsum := h.sum
 have hlen := he.1
 have go : ∀ (m i : Nat), i + m = esis.length → Ev (fun k => zga.l0 k (seed : Int) (zs esis) (zss (preRows K ++ (esis.take i).map (rowN (pL K) (pP K) seed))) (i : Int) (K : Int) (pS K) (pH K) (pL K) (pP K)) (zss (rowsN K seed esis)) := by
  intro m
  induction m with
  | zero =>
   intro i hi
   refine zqa ?_
   simp only [zga.l0]
   refine zbc (by rw [zcf]; omega) ?_
   rw [List.take_of_length_le (by omega)]
   exact zjd _
  | succ m ih =>
   intro i hi
   have hil : i < esis.length := by omega
   refine zqa ?_
   simp only [zga.l0]
   refine zx (by rw [zcf]; omega) ?_
   refine zx (by omega) ?_
   have hx : esis.getD i 0 = esis[i] := by rw [List.getD_eq_getElem?_getD, List.getElem?_eq_getElem hil]; rfl
   rw [zdf, zs_getD, hx]
   refine zjb (ref10_row h hs (he.2 _ (List.getElem_mem _))) ?_
   refine zx (by rw [zss_len]; simp [preRows_len]; omega) ?_
   rw [w64 (by omega) (by omega)]
   have := ih (i + 1) (by omega)
   rw [List.take_succ_eq_append_getElem hil, List.map_append, ← List.append_assoc] at this
   have e : zss (preRows K ++ (esis.take i).map (rowN (pL K) (pP K) seed) ++ [esis[i]].map (rowN (pL K) (pP K) seed)) = zss (preRows K ++ (esis.take i).map (rowN (pL K) (pP K) seed)) ++ [zs (rowN (pL K) (pP K) seed esis[i])] := by unfold zss; rw [List.map_append]; rfl
   rw [e] at this
   exact this
 unfold zga.f
 refine zle rfl ?_
 refine zjb (ref09_rows h1 h2) ?_
 refine zx (by rw [zss_len, preRows_len]; simp; omega) ?_
 have := go esis.length 0 (by omega)
 rw [List.take_zero, List.map_nil, List.append_nil] at this
 exact this
theorem ref11_rows {K seed : Nat} (h1 : 1 ≤ K) (h2 : K ≤ 128) (hs : seed < 65536) (esis : List Nat) (he : Esis esis) :
  Ev (fun k => zab.f k (K : Int) (pS K) (pH K) (pL K) (pP K) seed (zs esis)) (pks (pL K) (rowsN K seed esis)) := by
 have h := par h1 h2
 have hb := h.P1
 have hLP := h.nice.LP
 have hsum := h.sum
 have hlen := he.1
 have hrl := rows_len K seed esis
 have hok := @rows_ok K seed esis
 generalize hrows : rowsN K seed esis = rows at *
 have go : ∀ (m i : Nat), i + m = rows.length → Ev (fun k => zab.l0 k (zss rows) (pks (pL K) (rows.take i)) (i : Int) (K : Int) (pS K) (pH K) (pL K) (pP K)) (pks (pL K) rows) := by
  intro m
  induction m with
  | zero =>
   intro i hi
   refine zqa ?_
   simp only [zab.l0]
   refine zbc (by rw [zss_len]; omega) ?_
   rw [List.take_of_length_le (by omega)]
   exact zjd _
  | succ m ih =>
   intro i hi
   have hil : i < rows.length := by omega
   refine zqa ?_
   simp only [zab.l0]
   refine zx (by rw [zss_len]; omega) ?_
   refine zx (by omega) ?_
   have hg := getD_mem hil
   have e : rd_L2 (zss rows) (i : Int) = zs rows[i] := by
    unfold rd_L2; rw [Int.toNat_natCast, zss_get, hg.1]
   rw [e]
   have ho := hok _ hg.2
   refine zjb (ref02_pack (by omega) (ho.1.imp fun {a b} h => Nat.ne_of_lt h) ho.2) ?_
   refine zx (by unfold pks; simp; omega) ?_
   rw [w64 (by omega) (by omega)]
   have := ih (i + 1) (by omega)
   rw [List.take_succ_eq_append_getElem hil] at this
   unfold pks at this ⊢
   rw [List.map_append] at this
   exact this
 unfold zab.f
 have hp := ref11_places h1 h2 hs esis he
 rw [hrows] at hp
 refine zjb hp ?_
 exact go rows.length 0 (by omega)
theorem getD_lt {l : List Int} {i : Nat} (h : i < l.length) : l.getD i 0 = l[i] := by rw [List.getD_eq_getElem?_getD, List.getElem?_eq_getElem h]; rfl
theorem ctz_lead {x : Nat} (h0 : x ≠ 0) (h : x < 2 ^ 64) : x.testBit (Lib.ctz 64 x) = true ∧ (∀ j, j < Lib.ctz 64 x → x.testBit j = false) ∧ Lib.ctz 64 x < 64 := by
 obtain ⟨m, hm, hk⟩ := Lib.ctzFrom_spec 64 x (by omega) h
 have e : Lib.ctz 64 x = Lib.ctzFrom 64 x := by simp [Lib.ctz, h0]
 rw [e]
 generalize Lib.ctzFrom 64 x = k at hm hk ⊢
 refine ⟨?_, fun j hj => ?_, hk⟩
 ·rw [hm, Nat.testBit_two_pow_mul]
  simp
 ·rw [hm, Nat.testBit_two_pow_mul]
  simp; omega
def FirstIs (v : Nat) (c : Int) : Prop := (c = -1 ∧ v = 0) ∨ ∃ m : Nat, c = (m : Int) ∧ IsLead v m
theorem first_l0 {w : List Int} (h : Wf 64 w) (hl : w.length ≤ 1000) : ∀ (m i : Nat), i + m = w.length → (∀ j, j < i → w.getD j 0 = 0) → ∃ c, Ev (fun k => zhd.l0 k w (i : Int)) c ∧ FirstIs (val 64 w) c := by
 intro m
 induction m with
 | zero =>
  intro i hi hz
  refine ⟨-1, ?_, .inl ⟨rfl, ?_⟩⟩
  ·refine zqa ?_
   simp only [zhd.l0]
   refine zbc (by omega) ?_
   exact zjd _
  ·rw [val_zero_iff h]
   intro x hx
   obtain ⟨j, hj, rfl⟩ := List.getElem_of_mem hx
   have := hz j (by omega)
   rwa [getD_lt hj] at this
 | succ m ih =>
  intro i hi hz
  by_cases h0 : w.getD i 0 = 0
  ·obtain ⟨c, hc, hf⟩ := ih (i + 1) (by omega) (fun j hj => by
    by_cases e : j = i
    ·rw [e, h0]
    ·exact hz j (by omega))
   refine ⟨c, ?_, hf⟩
   refine zqa ?_
   simp only [zhd.l0]
   refine zx (by omega) ?_
   rw [zdf]
   refine zx h0 ?_
   exact hc
  ·have hx := h.getD i
   have hlt := toNat_lt hx
   obtain ⟨t1, t2, t3⟩ := ctz_lead (x := (w.getD i 0).toNat) (by omega) hlt
   refine ⟨((64 * i + Lib.ctz 64 (w.getD i 0).toNat : Nat) : Int), ?_, .inr ⟨_, rfl, ?_, fun j hj => ?_⟩⟩
   ·refine zqa ?_
    simp only [zhd.l0]
    refine zx (by omega) ?_
    rw [zdf]
    refine zbc h0 ?_
    refine zx hx.1 ?_
    refine zx (by have := hx.2; unfold U64; simpa using this) ?_
    exact zpd (by omega)
   ·rw [zve (by decide) h, show (64 * i + Lib.ctz 64 (w.getD i 0).toNat) / 64 = i by omega, show (64 * i + Lib.ctz 64 (w.getD i 0).toNat) % 64 = Lib.ctz 64 (w.getD i 0).toNat by omega]
    exact t1
   ·rw [zve (by decide) h]
    by_cases hji : j / 64 < i
    ·rw [hz _ hji]; simp
    ·have : j / 64 = i := by omega
     rw [this]
     exact t2 _ (by omega)
theorem packFirst_f {w : List Int} (h : Wf 64 w) (hl : w.length ≤ 1000) : ∃ c, Ev (fun k => zhd.f k w) c ∧ FirstIs (val 64 w) c := by
 obtain ⟨c, hc, hf⟩ := first_l0 h hl w.length 0 (by omega) (fun j hj => by omega)
 exact ⟨c, by unfold zhd.f; exact zx (by omega) hc, hf⟩
theorem set_part {X A : List Int} (hl : X.length = A.length) {i : Nat} (hi : i < X.length) : (X.take i ++ A.drop i).set i (X.getD i 0) = X.take (i + 1) ++ A.drop (i + 1) := by
 have e1 : (X.take i).length = i := by rw [List.length_take]; omega
 rw [List.set_append_right _ _ (by omega), e1, Nat.sub_self, List.drop_eq_getElem_cons (by omega), List.set_cons_zero, List.take_succ_eq_append_getElem hi, getD_lt hi, List.append_assoc]
 rfl
theorem part_getD {X A : List Int} (hl : X.length = A.length) {i : Nat} (hi : i < X.length) : (X.take i ++ A.drop i).getD i 0 = A.getD i 0 := by
 have e1 : (X.take i).length = i := by rw [List.length_take]; omega
 rw [List.getD_eq_getElem?_getD, List.getElem?_append_right (by omega), e1, Nat.sub_self, List.getElem?_drop, List.getD_eq_getElem?_getD, Nat.add_zero]
theorem xor_l0 {a b : List Int} (ha : Wf 64 a) (hb : Wf 64 b) (hl : a.length = b.length) (hn : a.length ≤ 100000) : ∀ (m i : Nat), i + m = a.length →
  Ev (fun k => zxc.l0 k a b ((xorL a b).take i ++ (List.replicate a.length 0).drop i) (a.length : Int) (i : Int)) (xorL a b, none) := by
 intro m
 induction m with
 | zero =>
  intro i hi
  refine zqa ?_
  simp only [zxc.l0]
  refine zbc (by omega) ?_
  refine zpd ?_
  rw [List.take_of_length_le (by rw [zce hl]; omega), List.drop_eq_nil_of_le (by simp; omega), List.append_nil]
 | succ m ih =>
  intro i hi
  refine zqa ?_
  simp only [zxc.l0]
  refine zx (by omega) ?_
  refine zx (by omega) ?_
  refine zx (by omega) ?_
  refine zx (by omega) ?_
  refine zx (by rw [List.length_append, List.length_take, List.length_drop, zce hl, List.length_replicate]; omega) ?_
  rw [zdf, zdf, Int.toNat_natCast, bits_xor_u64 (ha.getD i) (hb.getD i), ← xorL_getD hl, set_part (by rw [zce hl]; simp) (by rw [zce hl]; omega), w64 (by omega) (by omega)]
  exact ih (i + 1) (by omega)
theorem xor_f {a b : List Int} (ha : Wf 64 a) (hb : Wf 64 b) (hl : a.length = b.length) (hn : a.length ≤ 100000) : Ev (fun k => zxc.f k a b) (xorL a b, none) := by
 unfold zxc.f
 refine zx (by omega) ?_
 refine zx (by omega) ?_
 rw [Int.toNat_natCast]
 refine zx (by omega) ?_
 refine zle rfl ?_
 rw [List.length_replicate]
 exact xor_l0 ha hb hl hn a.length 0 (by omega)
def Syms (n : Nat) (ls : List (List Int)) : Prop := ∀ s, s ∈ ls → s.length = n ∧ Wf 8 s
theorem into_l1 {a b : List Int} (ha : Wf 8 a) (hb : Wf 8 b) (hl : a.length = b.length) (hn : a.length ≤ 100000) (ls : List (List Int)) (n c : Int) (r : List Int)
  (hnext : Ev (fun k => zrc.l0 k (xorL a b) ls n (wrap64 (c + 1))) r) : ∀ (m i : Nat), i + m = a.length →
  Ev (fun k => zrc.l1 k ((xorL a b).take i ++ a.drop i) ls n c b (a.length : Int) (i : Int)) r := by
 intro m
 induction m with
 | zero =>
  intro i hi
  refine zqa ?_
  simp only [zrc.l1]
  refine zbc (by omega) ?_
  rw [List.take_of_length_le (by rw [zce hl]; omega), List.drop_eq_nil_of_le (by omega), List.append_nil]
  exact hnext
 | succ m ih =>
  intro i hi
  refine zqa ?_
  simp only [zrc.l1]
  refine zx (by omega) ?_
  refine zx (by omega) ?_
  refine zx (by omega) ?_
  refine zx (by rw [List.length_append, List.length_take, List.length_drop, zce hl]; omega) ?_
  rw [zdf, zdf, Int.toNat_natCast, part_getD (zce hl) (by rw [zce hl]; omega), bits_xor_u8 (ha.getD i) (hb.getD i), ← xorL_getD hl, set_part (zce hl) (by rw [zce hl]; omega), w64 (by omega) (by omega)]
  exact ih (i + 1) (by omega)
theorem into_l0 {n : Nat} (hn : n ≤ 100000) (ls : List (List Int)) (hls : Syms n ls) (hll : ls.length ≤ 100000) : ∀ (m i : Nat) (a : List Int), i + m = ls.length → a.length = n → Wf 8 a →
  Ev (fun k => zrc.l0 k a ls (ls.length : Int) (i : Int)) ((ls.drop i).foldl xorL a) := by
 intro m
 induction m with
 | zero =>
  intro i a hi ha hw
  refine zqa ?_
  simp only [zrc.l0]
  refine zbc (by omega) ?_
  rw [List.drop_eq_nil_of_le (by omega)]
  exact zjd _
 | succ m ih =>
  intro i a hi ha hw
  have hil : i < ls.length := by omega
  refine zqa ?_
  simp only [zrc.l0]
  refine zx (by omega) ?_
  refine zx (by omega) ?_
  refine zx (by omega) ?_
  obtain ⟨h1, h2⟩ := hls _ (List.getElem_mem hil)
  have e : rd_L5 ls (i : Int) = ls[i] := by
   unfold rd_L5; rw [Int.toNat_natCast, List.getD_eq_getElem?_getD, List.getElem?_eq_getElem hil]; rfl
  rw [e, List.drop_eq_getElem_cons hil, List.foldl_cons]
  have hlen : a.length = ls[i].length := by rw [ha, h1]
  have := into_l1 hw h2 hlen (by omega) ls (ls.length : Int) (i : Int) ((ls.drop (i + 1)).foldl xorL (xorL a ls[i])) (by
   rw [w64 (by omega) (by omega)]
   exact ih (i + 1) _ (by omega) (by rw [zce hlen, ha]) (xorL_wf hw h2)) a.length 0 (by omega)
  rw [List.take_zero, List.drop_zero, List.nil_append, hlen] at this
  exact this
theorem into_f {n : Nat} (hn : n ≤ 100000) {a : List Int} (ha : a.length = n) (hw : Wf 8 a) {ls : List (List Int)} (hls : Syms n ls) (hll : ls.length ≤ 100000) : Ev (fun k => zrc.f k a ls) (ls.foldl xorL a) :=
 into_l0 hn ls hls hll ls.length 0 a (by omega) ha hw
theorem symXor_f {a b : List Int} (ha : Wf 8 a) (hb : Wf 8 b) (hl : a.length = b.length) (hn : a.length ≤ 100000) : Ev (fun k => zkf.f k a b) (xorL a b, none) := by
 unfold zkf.f
 refine zx (by omega) ?_
 refine zx (by omega) ?_
 refine zjb (into_f hn rfl ha (ls := [b]) (fun s hs => by rw [List.mem_singleton.1 hs]; exact ⟨hl.symm, hb⟩) (by simp)) ?_
 exact zjd _
theorem zero_l0 {l : List Int} (hn : l.length ≤ 100000) : ∀ (m i : Nat), i + m = l.length → Ev (fun k => zyd.l0 k l (l.length : Int) (i : Int)) (decide (∀ x, x ∈ l.drop i → x = 0)) := by
 intro m
 induction m with
 | zero =>
  intro i hi
  refine zqa ?_
  simp only [zyd.l0]
  refine zbc (by omega) ?_
  rw [List.drop_eq_nil_of_le (by omega)]
  exact zpd (by simp)
 | succ m ih =>
  intro i hi
  have hil : i < l.length := by omega
  refine zqa ?_
  simp only [zyd.l0]
  refine zx (by omega) ?_
  refine zx (by omega) ?_
  refine zx (by omega) ?_
  rw [zdf, getD_lt hil, List.drop_eq_getElem_cons hil]
  by_cases h0 : l[i] = 0
  ·refine zx h0 ?_
   rw [w64 (by omega) (by omega)]
   refine Ev_eq (ih (i + 1) (by omega)) ?_
   rw [decide_eq_decide]
   constructor
   ·intro h x hx
    rcases List.mem_cons.1 hx with rfl | hx
    ·exact h0
    ·exact h x hx
   ·intro h x hx; exact h x (List.mem_cons_of_mem _ hx)
  ·refine zbc h0 ?_
   refine zpd ?_
   symm
   rw [decide_eq_false_iff_not]
   intro h; exact h0 (h _ (List.mem_cons_self ..))
theorem zero_f {l : List Int} (hw : Wf 8 l) (hn : l.length ≤ 100000) : Ev (fun k => zyd.f k l) (decide (val 8 l = 0)) := by
 refine Ev_eq (zero_l0 hn l.length 0 (by omega)) ?_
 rw [decide_eq_decide, val_zero_iff hw]; rfl
def eqn (e : EQ2) : Eqn := (val 64 e.1, val 8 e.2)
def eqns (kept : List EQ2) : List Eqn := kept.map eqn
structure EqOk (n size : Nat) (e : EQ2) : Prop where
 w1 : Wf 64 e.1
 l1 : e.1.length = sz n
 lt : val 64 e.1 < 2 ^ n
 w2 : Wf 8 e.2
 l2 : e.2.length = size
structure Keep (n size : Nat) (kept : List EQ2) (at_ : List Int) : Prop where
 ok : ∀ e, e ∈ kept → EqOk n size e
 tri : Tri (eqns kept)
 al : at_.length = n
 no : ∀ c, c < n → at_.getD c 0 < 0 → ∀ e, e ∈ kept → ¬ IsLead (val 64 e.1) c
 yes : ∀ c, c < n → 0 ≤ at_.getD c 0 → ∃ i : Nat, at_.getD c 0 = (i : Int) ∧ ∃ h : i < kept.length, IsLead (val 64 (kept[i]).1) c
theorem Keep.len {n size : Nat} {kept : List EQ2} {at_ : List Int} (h : Keep n size kept at_) : kept.length ≤ n := by
 have := h.tri.ech.len_le_cols (n := n) fun x hx => by
  obtain ⟨e, he, rfl⟩ := List.mem_map.1 hx
  exact (h.ok e he).lt
 simpa [eqns] using this
theorem xor_ok {n size : Nat} {a b : EQ2} (ha : EqOk n size a) (hb : EqOk n size b) : EqOk n size (xorL a.1 b.1, xorL a.2 b.2) ∧ eqn (xorL a.1 b.1, xorL a.2 b.2) = add (eqn a) (eqn b) := by
 have h1 : a.1.length = b.1.length := by rw [ha.l1, hb.l1]
 have h2 : a.2.length = b.2.length := by rw [ha.l2, hb.l2]
 have v1 := val_xorL (by decide) ha.w1 hb.w1 h1
 have v2 := val_xorL (by decide) ha.w2 hb.w2 h2
 refine ⟨⟨xorL_wf ha.w1 hb.w1, by rw [zce h1, ha.l1], by show val 64 (xorL a.1 b.1) < _; rw [v1]; exact Nat.xor_lt_two_pow ha.lt hb.lt, xorL_wf ha.w2 hb.w2, by rw [zce h2, ha.l2]⟩, ?_⟩
 unfold eqn add
 rw [v1, v2]
def Sofar (v c : Nat) (first : Int) : Prop := (first = -1 ∧ ∀ i, i < c → v.testBit i = false) ∨ ∃ f : Nat, first = (f : Int) ∧ f < c ∧ IsLead v f
theorem Sofar.step_no {v c : Nat} {first : Int} (h : Sofar v c first) (hb : v.testBit c = false) : Sofar v (c + 1) first := by
 rcases h with ⟨h1, h2⟩ | ⟨f, h1, h2, h3⟩
 ·exact .inl ⟨h1, fun i hi => by
   by_cases e : i = c
   ·rw [e, hb]
   ·exact h2 i (by omega)⟩
 ·exact .inr ⟨f, h1, by omega, h3⟩
theorem Sofar.step_new {v c : Nat} {first : Int} (h : Sofar v c first) (hf : first < 0) (hb : v.testBit c = true) : Sofar v (c + 1) (c : Int) := by
 rcases h with ⟨h1, h2⟩ | ⟨f, h1, h2, h3⟩
 ·exact .inr ⟨c, rfl, by omega, hb, h2⟩
 ·omega
theorem Sofar.step_old {v c : Nat} {first : Int} (h : Sofar v c first) (hf : ¬ first < 0) : Sofar v (c + 1) first := by
 rcases h with ⟨h1, h2⟩ | ⟨f, h1, h2, h3⟩
 ·omega
 ·exact .inr ⟨f, h1, by omega, h3⟩
theorem xor_low {v w c : Nat} (hw : IsLead w c) (i : Nat) (hi : i < c) : (v ^^^ w).testBit i = v.testBit i := by
 rw [Nat.testBit_xor, hw.2 i hi]; simp
theorem Sofar.step_xor {v w c : Nat} {first : Int} (h : Sofar v c first) (hw : IsLead w c) (hb : v.testBit c = true) : Sofar (v ^^^ w) (c + 1) first := by
 have hc : (v ^^^ w).testBit c = false := by rw [Nat.testBit_xor, hb, hw.1]; rfl
 rcases h with ⟨h1, h2⟩ | ⟨f, h1, h2, h3⟩
 ·refine .inl ⟨h1, fun i hi => ?_⟩
  by_cases e : i = c
  ·rw [e, hc]
  ·rw [xor_low hw i (by omega)]; exact h2 i (by omega)
 ·refine .inr ⟨f, h1, by omega, ?_, fun i hi => ?_⟩
  ·rw [xor_low hw f h2]; exact h3.1
  ·rw [xor_low hw i (by omega)]; exact h3.2 i hi
theorem down_l0 {n size : Nat} (hn : n ≤ 4096) (hsz : size ≤ 64) {kept : List EQ2} {at_ : List Int} (hk : Keep n size kept at_) (v : Eqn) : ∀ (m c : Nat) (e : EQ2) (first : Int), c + m = n → EqOk n size e →
  Span (eqns kept) (add v (eqn e)) → (∀ x, x ∈ eqns kept → ∀ d, IsLead x.1 d → d < c → (eqn e).1.testBit d = false) → Sofar (eqn e).1 c first →
  ∃ (e' : EQ2) (first' : Int), Ev (fun k => zdc.l0 k (n : Int) kept at_ e.1 e.2 (c : Int) first) (e'.1, e'.2, first') ∧ EqOk n size e' ∧ Red (eqns kept) v (eqn e') ∧ Sofar (eqn e').1 n first' := by
 intro m
 induction m with
 | zero =>
  intro c e first hc he hsp hl hf
  refine ⟨e, first, ?_, he, ⟨hsp, fun x hx d hd => hl x hx d hd ?_⟩, ?_⟩
  ·refine zqa ?_
   simp only [zdc.l0]
   refine zx (by omega) ?_
   refine zbc (by omega) ?_
   exact zjd _
  ·obtain ⟨y, hy, rfl⟩ := List.mem_map.1 hx
   have := hd.lt (hk.ok y hy).lt; omega
  ·rwa [show n = c by omega]
 | succ m ih =>
  intro c e first hc he hsp hl hf
  have hsz64 : sz n ≤ 1000 := by unfold sz; omega
  have hhas : zmf.f e.1 (c : Int) = some ((eqn e).1.testBit c) := has_f he.w1 (by rw [he.l1]; omega) (by omega)
  by_cases hb : (eqn e).1.testBit c = true
  ·have hrd : rd at_ (c : Int) = at_.getD c 0 := zdf _ _
   have hal : (c : Int) < (at_.length : Int) := by rw [hk.al]; omega
   by_cases hneg : at_.getD c 0 < 0
   ·have hno := hk.no c (by omega) hneg
    have hl' : ∀ x, x ∈ eqns kept → ∀ d, IsLead x.1 d → d < c + 1 → (eqn e).1.testBit d = false := fun x hx d hd hdc => by
     by_cases hdc2 : d = c
     ·subst hdc2
      obtain ⟨y, hy, rfl⟩ := List.mem_map.1 hx
      exact absurd hd (hno y hy)
     ·exact hl x hx d hd (by omega)
    by_cases hfn : first < 0
    ·obtain ⟨e', f', h1, h2, h3, h4⟩ := ih (c + 1) e (c : Int) (by omega) he hsp hl' (hf.step_new hfn hb)
     refine ⟨e', f', ?_, h2, h3, h4⟩
     refine zqa ?_
     simp only [zdc.l0]
     refine zx (by omega) ?_
     refine zx (by omega) ?_
     refine zle hhas ?_
     refine zx hb ?_
     refine zx hal ?_
     rw [hrd]
     refine zx hneg ?_
     refine zx hfn ?_
     exact h1
    ·obtain ⟨e', f', h1, h2, h3, h4⟩ := ih (c + 1) e first (by omega) he hsp hl' (hf.step_old hfn)
     refine ⟨e', f', ?_, h2, h3, h4⟩
     refine zqa ?_
     simp only [zdc.l0]
     refine zx (by omega) ?_
     refine zx (by omega) ?_
     refine zle hhas ?_
     refine zx hb ?_
     refine zx hal ?_
     rw [hrd]
     refine zx hneg ?_
     refine zbc hfn ?_
     exact h1
   ·obtain ⟨i, hi, hil, hlead⟩ := hk.yes c (by omega) (by omega)
    have hmem : kept[i] ∈ kept := List.getElem_mem hil
    have hkok := hk.ok _ hmem
    obtain ⟨x1, x2⟩ := xor_ok he hkok
    have hke : (eqn kept[i]).1 = val 64 (kept[i]).1 := rfl
    have hl' : ∀ x, x ∈ eqns kept → ∀ d, IsLead x.1 d → d < c + 1 → (eqn (xorL e.1 kept[i].1, xorL e.2 kept[i].2)).1.testBit d = false := fun x hx d hd hdc => by
     rw [x2]
     show ((eqn e).1 ^^^ (eqn kept[i]).1).testBit d = false
     by_cases hdc2 : d = c
     ·subst hdc2
      rw [Nat.testBit_xor, hb, hke, hlead.1]; rfl
     ·rw [hke, xor_low hlead d (by omega)]
      exact hl x hx d hd (by omega)
    have hsp' : Span (eqns kept) (add v (eqn (xorL e.1 kept[i].1, xorL e.2 kept[i].2))) := by
     rw [x2, ← add_assoc]
     exact .step hsp (List.mem_map.2 ⟨_, hmem, rfl⟩)
    have hf' : Sofar (eqn (xorL e.1 kept[i].1, xorL e.2 kept[i].2)).1 (c + 1) first := by
     rw [x2]
     exact hf.step_xor hlead hb
    obtain ⟨e', f', h1, h2, h3, h4⟩ := ih (c + 1) (xorL e.1 kept[i].1, xorL e.2 kept[i].2) first (by omega) x1 hsp' hl' hf'
    refine ⟨e', f', ?_, h2, h3, h4⟩
    refine zqa ?_
    simp only [zdc.l0]
    refine zx (by omega) ?_
    refine zx (by omega) ?_
    refine zle hhas ?_
    refine zx hb ?_
    refine zx hal ?_
    rw [hrd]
    refine zbc hneg ?_
    rw [hi]
    refine zx (by omega) ?_
    have hget : kept.getD ((i : Int)).toNat zEQ = kept[i] := by rw [Int.toNat_natCast, List.getD_eq_getElem?_getD, List.getElem?_eq_getElem hil]; rfl
    rw [hget]
    refine zjb (xor_f he.w1 hkok.w1 (by rw [he.l1, hkok.l1]) (by rw [he.l1]; omega)) ?_
    refine zjb (symXor_f he.w2 hkok.w2 (by rw [he.l2, hkok.l2]) (by rw [he.l2]; omega)) ?_
    exact h1
  ·have hb' : (eqn e).1.testBit c = false := by simpa using hb
   obtain ⟨e', f', h1, h2, h3, h4⟩ := ih (c + 1) e first (by omega) he hsp (fun x hx d hd hdc => by
    by_cases hdc2 : d = c
    ·rw [hdc2, hb']
    ·exact hl x hx d hd (by omega)) (hf.step_no hb')
   refine ⟨e', f', ?_, h2, h3, h4⟩
   refine zqa ?_
   simp only [zdc.l0]
   refine zx (by omega) ?_
   refine zx (by omega) ?_
   refine zle hhas ?_
   refine zbc hb ?_
   exact h1
theorem down_f {n size : Nat} (hn : n ≤ 4096) (hsz : size ≤ 64) {kept : List EQ2} {at_ : List Int} (hk : Keep n size kept at_) {e : EQ2} (he : EqOk n size e) :
  ∃ (e' : EQ2) (first' : Int), Ev (fun k => zdc.f k (n : Int) kept at_ e.1 e.2) (e'.1, e'.2, first') ∧ EqOk n size e' ∧ Red (eqns kept) (eqn e) (eqn e') ∧ FirstIs (eqn e').1 first' := by
 have hsz64 : sz n ≤ 1000 := by unfold sz; omega
 obtain ⟨c, hc, hf⟩ := packFirst_f he.w1 (by rw [he.l1]; omega)
 have hspan0 : Span (eqns kept) (add (eqn e) (eqn e)) := by rw [add_self]; exact .zero
 rcases hf with ⟨rfl, h0⟩ | ⟨m, rfl, hm⟩
 ·refine ⟨e, -1, ?_, he, ⟨hspan0, fun x hx d hd => ?_⟩, .inl ⟨rfl, h0⟩⟩
  ·unfold zdc.f
   refine zx (by omega) ?_
   refine zx (by rw [he.l1]; omega) ?_
   refine zx (by rw [he.l2]; omega) ?_
   refine zjb hc ?_
   refine zx (by omega) ?_
   refine zx (by omega) ?_
   refine zqa ?_
   simp only [zdc.l0]
   refine zbc (by omega) ?_
   exact zjd _
  ·show (val 64 e.1).testBit d = false
   rw [h0]; simp
 ·have hmn : m < n := hm.lt he.lt
  obtain ⟨e', f', h1, h2, h3, h4⟩ := down_l0 hn hsz hk (eqn e) (n - m) m e (-1) (by omega) he hspan0 (fun x hx d hd hdm => hm.2 d hdm) (.inl ⟨rfl, hm.2⟩)
  refine ⟨e', f', ?_, h2, h3, ?_⟩
  ·unfold zdc.f
   refine zx (by omega) ?_
   refine zx (by rw [he.l1]; omega) ?_
   refine zx (by rw [he.l2]; omega) ?_
   refine zjb hc ?_
   refine zx (by omega) ?_
   refine zx (by omega) ?_
   exact h1
  ·rcases h4 with ⟨g1, g2⟩ | ⟨f, g1, g2, g3⟩
   ·refine .inl ⟨g1, Nat.eq_of_testBit_eq fun i => ?_⟩
    rw [Nat.zero_testBit]
    by_cases hi : i < n
    ·exact g2 i hi
    ·exact Nat.testBit_lt_two_pow (Nat.lt_of_lt_of_le h2.lt (Nat.pow_le_pow_right (by decide) (by omega)))
   ·exact .inr ⟨f, g1, g3⟩
inductive Came (n size : Nat) (kept : List EQ2) (at_ : List Int) (e : EQ2) : Int → List EQ2 → List Int → Bool → Prop
 | fresh (e' : EQ2) (at' : List Int) : EqOk n size e' → Red (eqns kept) (eqn e) (eqn e') → (eqn e').1 ≠ 0 → Keep n size (kept ++ [e']) at' → Came n size kept at_ e 1 (kept ++ [e']) at' false
 | known : Span (eqns kept) (eqn e) → Came n size kept at_ e 2 kept at_ false
 | clash (s : Nat) : Span (eqns kept) ((eqn e).1, s) → s ≠ (eqn e).2 → Came n size kept at_ e 3 kept at_ true
theorem add_f {n size : Nat} (hn : n ≤ 4096) (hsz : size ≤ 64) {kept : List EQ2} {at_ : List Int} (hk : Keep n size kept at_) {e : EQ2} (he : EqOk n size e) :
  ∃ (q : Int) (kept' : List EQ2) (at' : List Int) (cl : Bool), Ev (fun k => zkd.f k (n : Int) kept at_ e.1 e.2) (q, kept', at', cl) ∧ Came n size kept at_ e q kept' at' cl := by
 obtain ⟨e', f, h1, h2, h3, h4⟩ := down_f hn hsz hk he
 have hlen := hk.len
 rcases h4 with ⟨rfl, h0⟩ | ⟨c, rfl, hc⟩
 ·have hz := zero_f h2.w2 (by rw [h2.l2]; omega)
  have hsp := h3.span_of_zero h0
  by_cases hs : val 8 e'.2 = 0
  ·refine ⟨2, kept, at_, false, ?_, .known ?_⟩
   ·unfold zkd.f
    refine zjb h1 ?_
    refine zbc (by show ¬ (0 : Int) ≤ -1; decide) ?_
    refine zjb hz ?_
    refine zx (by simpa using hs) ?_
    exact zjd _
   ·have : (eqn e').2 = 0 := hs
    rw [this, Nat.xor_zero] at hsp
    exact hsp
  ·refine ⟨3, kept, at_, true, ?_, .clash _ hsp fun e0 => hs ?_⟩
   ·unfold zkd.f
    refine zjb h1 ?_
    refine zbc (by show ¬ (0 : Int) ≤ -1; decide) ?_
    refine zjb hz ?_
    refine zbc (by simpa using hs) ?_
    exact zjd _
   ·have := congrArg (fun t => (eqn e).2 ^^^ t) e0
    simp only [← Nat.xor_assoc, Nat.xor_self, Nat.zero_xor] at this
    exact this
 ·have hcn : c < n := hc.lt h2.lt
  have hne : (eqn e').1 ≠ 0 := hc.ne
  refine ⟨1, kept ++ [e'], at_.set c (kept.length : Int), false, ?_, .fresh e' _ h2 h3 hne ?_⟩
  ·unfold zkd.f
   refine zjb h1 ?_
   refine zx (by show (0 : Int) ≤ (c : Int); omega) ?_
   refine zx (by show (c : Int) < (at_.length : Int); rw [hk.al]; omega) ?_
   refine zx (by omega) ?_
   refine zpd ?_
   show (1, kept ++ [(e'.1, e'.2)], at_.set ((c : Int)).toNat (kept.length : Int), false) = _
   rw [Int.toNat_natCast]
  ·have htri : Tri (eqns (kept ++ [e'])) := by
    unfold eqns; rw [List.map_append]
    exact hk.tri.snoc h3 hne
   refine ⟨fun x hx => ?_, htri, by rw [List.length_set, hk.al], fun d hd hneg x hx hl => ?_, fun d hd h0 => ?_⟩
   ·rcases List.mem_append.1 hx with hx | hx
    ·exact hk.ok x hx
    ·rw [List.mem_singleton.1 hx]; exact h2
   ·by_cases hdc : d = c
    ·subst hdc
     rw [List.getD_eq_getElem?_getD, List.getElem?_set_self (by rw [hk.al]; exact hd)] at hneg
     simp at hneg; omega
    ·rw [List.getD_eq_getElem?_getD, List.getElem?_set_ne (Ne.symm hdc), ← List.getD_eq_getElem?_getD] at hneg
     rcases List.mem_append.1 hx with hx | hx
     ·exact hk.no d hd hneg x hx hl
     ·rw [List.mem_singleton.1 hx] at hl
      exact hdc (hl.uniq hc)
   ·by_cases hdc : d = c
    ·subst hdc
     refine ⟨kept.length, ?_, by simp, ?_⟩
     ·rw [List.getD_eq_getElem?_getD, List.getElem?_set_self (by rw [hk.al]; exact hd)]; rfl
     ·have hc' : IsLead (val 64 e'.1) d := hc
      simpa using hc'
    ·rw [List.getD_eq_getElem?_getD, List.getElem?_set_ne (Ne.symm hdc), ← List.getD_eq_getElem?_getD] at h0 ⊢
     obtain ⟨i, hi, hil, hl⟩ := hk.yes d hd h0
     refine ⟨i, hi, by simp; omega, ?_⟩
     rw [List.getElem_append_left hil]; exact hl
theorem keep_new (n size : Nat) : Keep n size [] (List.replicate n (-1)) := by
 refine ⟨by simp, ⟨by simp [eqns], by simp [eqns]⟩, by simp, by simp, fun c hc h => ?_⟩
 rw [List.getD_eq_getElem?_getD, List.getElem?_replicate, if_pos hc] at h
 simp at h
structure Spans (kept : List EQ2) (all : List Eqn) : Prop where
 down : ∀ x, x ∈ eqns kept → Span all x
 up : ∀ x, x ∈ all → Span (eqns kept) x
theorem Came.spans {n size : Nat} {kept kept' : List EQ2} {at_ at' : List Int} {e : EQ2} {q : Int} (h : Came n size kept at_ e q kept' at' false) {all : List Eqn} (hs : Spans kept all) : Spans kept' (all ++ [eqn e]) := by
 have mono : ∀ x, Span all x → Span (all ++ [eqn e]) x := fun x hx => hx.mono fun y hy => List.mem_append_left _ hy
 cases h with
 | fresh e' _ h1 h2 h3 h4 =>
  refine ⟨fun x hx => ?_, fun x hx => ?_⟩
  ·unfold eqns at hx; rw [List.map_append] at hx
   rcases List.mem_append.1 hx with hx | hx
   ·exact mono x (hs.down x hx)
   ·rw [List.mem_singleton.1 hx]
    refine Span.of (l := eqns kept ++ [eqn e]) (fun y hy => ?_) h2.snoc_span
    rcases List.mem_append.1 hy with hy | hy
    ·exact mono y (hs.down y hy)
    ·exact .mem (List.mem_append_right _ hy)
  ·unfold eqns; rw [List.map_append]
   rcases List.mem_append.1 hx with hx | hx
   ·exact (hs.up x hx).mono fun y hy => List.mem_append_left _ hy
   ·rw [List.mem_singleton.1 hx]
    exact h2.span_snoc
 | known h1 =>
  refine ⟨fun x hx => mono x (hs.down x hx), fun x hx => ?_⟩
  rcases List.mem_append.1 hx with hx | hx
  ·exact hs.up x hx
  ·rw [List.mem_singleton.1 hx]; exact h1
theorem Came.keep {n size : Nat} {kept kept' : List EQ2} {at_ at' : List Int} {e : EQ2} {q : Int} {cl : Bool} (h : Came n size kept at_ e q kept' at' cl) (hk : Keep n size kept at_) : Keep n size kept' at' := by
 cases h with
 | fresh _ _ _ _ _ h4 => exact h4
 | known _ => exact hk
 | clash _ _ _ => exact hk
def rowEqs (rows : List (List Nat)) : List Eqn := rows.map fun r => row1 (bitsOf r)
theorem sz_lt (L : Nat) : L ≤ 64 * sz L := by unfold sz; omega
theorem pk_wf (L : Nat) (r : List Nat) : Wf 64 (pk L r) := wd_wf _ _
theorem pk_len (L : Nat) (r : List Nat) : (pk L r).length = sz L := wd_len _ _
theorem pk_val {L : Nat} {r : List Nat} (h : ∀ x, x ∈ r → x < L) : val 64 (pk L r) = bitsOf r :=
 wd_val (Nat.lt_of_lt_of_le (bitsOf_lt h) (Nat.pow_le_pow_right (by decide) (sz_lt L)))
theorem pk_ok {L size : Nat} {r : List Nat} (h : ∀ x, x ∈ r → x < L) {s : List Int} (hs : s.length = size) (hw : Wf 8 s) : EqOk L size (pk L r, s) :=
 ⟨pk_wf L r, pk_len L r, by show val 64 (pk L r) < _; rw [pk_val h]; exact bitsOf_lt h, hw, hs⟩
theorem fits_pk {L : Nat} (hL : L ≤ 1000) (h1 : 1 ≤ L) {r : List Nat} (h : ∀ x, x ∈ r → x < L) : fitsB (L : Int) (pk L r) = true := by
 unfold fitsB
 rw [decide_eq_true_eq]
 refine ⟨by omega, by omega, by rw [size_f hL, pk_len], ?_⟩
 by_cases hm : L % 64 = 0
 ·left; omega
 ·right
  have hsz : 0 < sz L := by unfold sz; omega
  refine ⟨by rw [pk_len]; exact hsz, ?_⟩
  rw [pk_len, show (sz L : Int) - 1 = ((sz L - 1 : Nat) : Int) by omega, zdf, show ((L : Int) % 64).toNat = L % 64 by omega]
  have e : (pk L r).getD (sz L - 1) 0 = ((bitsOf r / 2 ^ (64 * (sz L - 1)) % 2 ^ 64 : Nat) : Int) := by
   have : sz L - 1 < sz L := by omega
   simp [pk, wd, List.getD_eq_getElem?_getD, List.getElem?_map, List.getElem?_range this]
  rw [e]
  have hlt := bitsOf_lt h
  have h64 : L = 64 * (sz L - 1) + L % 64 := by unfold sz; omega
  have hq : bitsOf r / 2 ^ (64 * (sz L - 1)) < 2 ^ (L % 64) := by
   rw [Nat.div_lt_iff_lt_mul (Nat.two_pow_pos _), ← Nat.pow_add, Nat.add_comm, ← h64]; exact hlt
  have h0 : bitsOf r / 2 ^ (64 * (sz L - 1)) % 2 ^ 64 / 2 ^ (L % 64) = 0 := by
   rw [Nat.div_eq_zero_iff]
   right
   exact Nat.lt_of_le_of_lt (Nat.mod_le _ _) hq
  have : (((bitsOf r / 2 ^ (64 * (sz L - 1)) % 2 ^ 64 : Nat) : Int)) / 2 ^ (L % 64) = ((bitsOf r / 2 ^ (64 * (sz L - 1)) % 2 ^ 64 / 2 ^ (L % 64) : Nat) : Int) := by
   rw [Int.natCast_ediv]; simp
  rw [this, h0]; rfl
theorem span_zero {l : List Eqn} (h : ∀ x, x ∈ l → x.2 = 0) {v : Eqn} (hv : Span l v) : v.2 = 0 := by
 induction hv with
 | zero => rfl
 | step _ hx ih => simp only [add, ih, h _ hx, Nat.xor_self]
theorem pks_get {L : Nat} (rows : List (List Nat)) {i : Nat} (h : i < rows.length) : (pks L rows).getD i [] = pk L rows[i] := by
 unfold pks
 rw [List.getD_eq_getElem?_getD, List.getElem?_map, List.getElem?_eq_getElem h]; rfl
theorem rank_l0 {L : Nat} (hL : L ≤ 1000) (h1 : 1 ≤ L) (rows : List (List Nat)) (hr : rows.length ≤ 100000) (hok : ∀ r, r ∈ rows → ∀ x, x ∈ r → x < L) : ∀ (m i : Nat) (kept : List EQ2) (at_ : List Int), i + m = rows.length → Keep L 1 kept at_ → Spans kept (rowEqs (rows.take i)) →
  ∃ (kept' : List EQ2) (at' : List Int), Ev (fun k => zyc.l0 k (L : Int) (pks L rows) (i : Int) kept at_) (kept'.length : Int) ∧ Keep L 1 kept' at' ∧ Spans kept' (rowEqs rows) := by
 intro m
 induction m with
 | zero =>
  intro i kept at_ hi hk hs
  refine ⟨kept, at_, ?_, hk, by rwa [List.take_of_length_le (by omega)] at hs⟩
  refine zqa ?_
  simp only [zyc.l0]
  refine zbc (by unfold pks; rw [List.length_map]; omega) ?_
  exact zjd _
 | succ m ih =>
  intro i kept at_ hi hk hs
  have hil : i < rows.length := by omega
  have hb := hok _ (List.getElem_mem hil)
  have hw : Wf 8 [0] := Wf.cons (by decide) (Wf.nil 8)
  have he : EqOk L 1 (pk L rows[i], [0]) := pk_ok hb rfl hw
  have heq : eqn (pk L rows[i], [0]) = row1 (bitsOf rows[i]) := by
   unfold eqn row1; rw [pk_val hb]; rfl
  obtain ⟨q, kept', at', cl, ha, hc⟩ := add_f (by omega) (by decide) hk he
  have hz : ∀ x, x ∈ eqns kept → x.2 = 0 := fun x hx => span_zero (fun y hy => by
   obtain ⟨r, _, rfl⟩ := List.mem_map.1 hy; rfl) (hs.down x hx)
  have hcl : cl = false := by
   cases hc with
   | fresh => rfl
   | known => rfl
   | clash s h1 h2 =>
    have := span_zero hz h1
    rw [heq] at h2
    exact absurd this h2
  subst hcl
  have hs' := hc.spans hs
  have htk : rows.take (i + 1) = rows.take i ++ [rows[i]] := by rw [List.take_succ_eq_append_getElem hil]
  rw [heq, show rowEqs (rows.take i) ++ [row1 (bitsOf rows[i])] = rowEqs (rows.take (i + 1)) from by rw [htk]; unfold rowEqs; rw [List.map_append]; rfl] at hs'
  obtain ⟨kf, af, h5, h6, h7⟩ := ih (i + 1) kept' at' (by omega) (hc.keep hk) hs'
  refine ⟨kf, af, ?_, h6, h7⟩
  refine zqa ?_
  simp only [zyc.l0]
  refine zx (by unfold pks; rw [List.length_map]; omega) ?_
  rw [Int.toNat_natCast, pks_get rows hil]
  refine zx (fits_pk hL h1 hb) ?_
  refine zjb ha ?_
  refine zx rfl ?_
  exact h5
theorem keep_rank {L size : Nat} {kept : List EQ2} {at_ : List Int} (hk : Keep L size kept at_) {all : List Eqn} (hs : Spans kept all) : IsRank all kept.length :=
 ⟨eqns kept, hk.tri, by simp [eqns], hs.down, hs.up⟩
theorem system_Rank_f {K seed : Nat} (h1 : 1 ≤ K) (h2 : K ≤ 128) (hs : seed < 65536) (esis : List Nat) (he : Esis esis) :
  ∃ n : Nat, Ev (fun k => zyc.f k (K : Int) (pS K) (pH K) (pL K) (pP K) seed (zs esis)) ((n : Int), none) ∧ IsRank (rowEqs (rowsN K seed esis)) n := by
 have h := par h1 h2
 have hb := h.P1
 have hLP := h.nice.LP
 have hL0 := h.nice.L0
 have hsum := h.sum
 have hlen := he.1
 obtain ⟨kept, at_, e1, e2, e3⟩ := rank_l0 (L := pL K) (by omega) (by omega) (rowsN K seed esis) (by rw [rows_len]; omega) (fun r hr => (rows_ok r hr).2) (rowsN K seed esis).length 0 [] (List.replicate (pL K) (-1)) (by omega) (keep_new _ _) ⟨by simp [eqns], by simp [rowEqs]⟩
 refine ⟨kept.length, ?_, keep_rank e2 e3⟩
 unfold zyc.f
 refine zjb (system_Rows_f h1 h2 hs esis he) ?_
 refine zx rfl ?_
 refine zx ⟨by omega, by omega⟩ ?_
 rw [Int.toNat_natCast]
 exact zjb e1 (zjd _)
end Go.Proofs.YtnglindlofmknaaGreatDoor.B
end
