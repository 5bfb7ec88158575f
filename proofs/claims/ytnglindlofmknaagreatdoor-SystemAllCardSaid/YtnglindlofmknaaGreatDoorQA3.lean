import Derived.IntWalk
import Derived.LoopIn
import Derived.LoopNIn
import Derived.Maps.AppendAt
import Derived.OwnWalkIn
import Derived.RangeFuncBox
import Derived.RangeFuncCalls
import Derived.RangeFuncLeaves
import Derived.Shelf.Abstract
import Derived.Shelf.RegionOpen
import Derived.Sort.QuietIn
import Derived.TacticsInMore
import Derived.WalkKit
import Derived.WalkLawsBesides
import Derived.WalkSpells
import Derived.Test.YtnglindlofmknaaGreatDoorQA1
import Derived.Test.YtnglindlofmknaaGreatDoorQA2
section
set_option maxHeartbeats 8000000
set_option maxRecDepth 100000
namespace Go.Proofs.YtnglindlofmknaaGreatDoor.B
open Go.RowKit Go.Proofs.YW.PrintWords Go.Proofs.YW.PrintLast Go.Proofs.YW.PrintMore
attribute [local go_sem] zva zta zmb zlb zia zha zua zsa
set_option linter.unusedVariables false
set_option linter.unusedSimpArgs false
def ltrow_Row.f (k : Nat) (a0_0 : Int) (a0_1 : Int) (a0_2 : Int) (a0_3 : Int) (a0_4 : Int) (a1 : Int) (a2 : Int) : Option (List Int × Option Int) := (zac.f k a0_0 a0_1 a0_2 a0_3 a0_4 a1 a2).bind fun bt265 => (if bt265.2.2.2.isNone = true then ((zad.f k a0_0 a0_1 a0_2 a0_3 a0_4 bt265.1 bt265.2.1 bt265.2.2.1).bind fun bt271 => ((zec.f bt271.1).bind fun t275 => ((zfb.f (⟨#[108, 116, 114, 111, 119, 46, 82, 111, 119]⟩ : ByteArray) bt271.2).bind fun t276 => (some (t275, t276))))) else ((zfb.f (⟨#[108, 116, 114, 111, 119, 46, 82, 111, 119]⟩ : ByteArray) (some (bt265.2.2.2.getD 0))).bind fun t277 => (some (([] : List Int), t277))))
theorem ltrow_Row.calls (k : Nat) (a0_0 : Int) (a0_1 : Int) (a0_2 : Int) (a0_3 : Int) (a0_4 : Int) (a1 : Int) (a2 : Int) (r1 : List Int) (r2 : Option Int) (w : World) (h : ltrow_Row.f k a0_0 a0_1 a0_2 a0_3 a0_4 a1 a2 = some (r1, r2)) :
  Calls Tryz.prog 53 #[.agg #[.int .i64 a0_0, .int .i64 a0_1, .int .i64 a0_2, .int .i64 a0_3, .int .i64 a0_4], .int .i64 a1, .int .i64 a2] w fun e w' => ∃ v0_ : Value, e = .returned (.tuple #[v0_, errW r2]) ∧ Kd.R (Kd.int .i64) 3 w' w.heap.size (fun _ => True) v0_ r1 ∧ Below w.heap.size w w' := by
 have hu23 := Tryz.underlying23
 have hu125 := Tryz.underlying125
 have hu27 := Tryz.underlying27
 have HB := za.mk (Below.refl w.heap.size w)
 have H : ((zac.f k a0_0 a0_1 a0_2 a0_3 a0_4 a1 a2).bind fun bt265 => (if bt265.2.2.2.isNone = true then ((zad.f k a0_0 a0_1 a0_2 a0_3 a0_4 bt265.1 bt265.2.1 bt265.2.2.1).bind fun bt271 => ((zec.f bt271.1).bind fun t275 => ((zfb.f (⟨#[108, 116, 114, 111, 119, 46, 82, 111, 119]⟩ : ByteArray) bt271.2).bind fun t276 => (some (t275, t276))))) else ((zfb.f (⟨#[108, 116, 114, 111, 119, 46, 82, 111, 119]⟩ : ByteArray) (some (bt265.2.2.2.getD 0))).bind fun t277 => (some (([] : List Int), t277))))) = some (r1, r2) := h
 clear h
 replace H := Option.bind_eq_some_iff.mp H
 obtain ⟨⟨t265, t266, t267, t268⟩, A40, H⟩ := H
 replace H : (if t268.isNone = true then ((zad.f k a0_0 a0_1 a0_2 a0_3 a0_4 t265 t266 t267).bind fun bt271 => ((zec.f bt271.1).bind fun t275 => ((zfb.f (⟨#[108, 116, 114, 111, 119, 46, 82, 111, 119]⟩ : ByteArray) bt271.2).bind fun t276 => (some (t275, t276))))) else ((zfb.f (⟨#[108, 116, 114, 111, 119, 46, 82, 111, 119]⟩ : ByteArray) (some (t268.getD 0))).bind fun t277 => (some (([] : List Int), t277)))) = some (r1, r2) := H
 have A4 := za.mk A40
 clear A40
 rcases t268 with _ | q270
 ·have H1 : ((zad.f k a0_0 a0_1 a0_2 a0_3 a0_4 t265 t266 t267).bind fun bt271 => ((zec.f bt271.1).bind fun t275 => ((zfb.f (⟨#[108, 116, 114, 111, 119, 46, 82, 111, 119]⟩ : ByteArray) bt271.2).bind fun t276 => (some (t275, t276))))) = some (r1, r2) := by rw [if_pos (show (none : Option Int).isNone = true by rfl)] at H; exact H
  clear H
  have H := H1
  clear H1
  try simp only [zn, zo]
  replace H := Option.bind_eq_some_iff.mp H
  obtain ⟨⟨t271, t274⟩, A50, H⟩ := H
  replace H : ((zec.f t271).bind fun t275 => ((zfb.f (⟨#[108, 116, 114, 111, 119, 46, 82, 111, 119]⟩ : ByteArray) t274).bind fun t276 => (some (t275, t276)))) = some (r1, r2) := H
  have A5 := za.mk A50
  clear A50
  replace H := Option.bind_eq_some_iff.mp H
  obtain ⟨t275, A60, H⟩ := H
  replace H : ((zfb.f (⟨#[108, 116, 114, 111, 119, 46, 82, 111, 119]⟩ : ByteArray) t274).bind fun t276 => (some (t275, t276))) = some (r1, r2) := H
  have A6 := za.mk A60
  clear A60
  replace H := Option.bind_eq_some_iff.mp H
  obtain ⟨t276, A70, H⟩ := H
  replace H : (some (t275, t276)) = some (r1, r2) := H
  have A7 := za.mk A70
  clear A70
  simp only [Option.some.injEq, Prod.mk.injEq] at H
  obtain ⟨rfl, rfl⟩ := H
  go_enter Tryz.func53, Tryz.ntmps53
  go_wp2_with (first | ((with_reducible refine zza (N := 3) rfl ?_); refine zgc ?hg (N := 3) ?hd (cs := #[.int .i64 a0_0, .int .i64 a0_1, .int .i64 a0_2, .int .i64 a0_3, .int .i64 a0_4]) (t := 23) ?hr ?_; (case hd => rfl); (case hg => rfl); (case hr => first | (go_simp; done) | (go_simp; rfl)); intro gb264 hg w8 hbox hb; have n0_ := za.mk (zk (by apply_rules only [HB.out, ze, zb, zf]) hb); have n1_ := za.mk (hbox); have n2_ := za.mk ((by rw [hg]; exact (zm (by apply_rules only [HB.out, ze, zb, zf])) : w.heap.size ≤ gb264)); have n3_ := za.mk ((by rw [hg]; exact (zm (by apply_rules only [HB.out, ze, zb, zf])) : w.heap.size ≤ gb264)); clear HB; have HB := n0_; have BK264 := n1_; have GW264 := n2_; have GE264 := n3_; clear n0_ n1_ n2_ n3_; clear hb hbox hg; obtain ⟨hcz9_0, hcz9_1, hcz9_2, hcz9_3, hcz9_4⟩ := cells5 BK264.out; obtain ⟨hfz9_0, hfz9_1, hfz9_2, hfz9_3, hfz9_4⟩ := zic BK264.out) | ((with_reducible refine zaa (f := 73) rfl ?_); refine zmc (some 15) rfl rfl Tryz.func73 (by kernel_rfl) rfl #[.agg #[.int .i64 a0_0, .int .i64 a0_1, .int .i64 a0_2, .int .i64 a0_3, .int .i64 a0_4], .int .i64 a1, .int .i64 a2] rfl (by (try simp only [zpa]); first | done | rfl | simp) ?_; (with_reducible refine (zac.calls k a0_0 a0_1 a0_2 a0_3 a0_4 a1 a2 t265 t266 t267 none _ A4.out).mono ?_); rintro e w10 ⟨rfl, hb⟩; refine ⟨_, rfl, ?_⟩; have n0_ := za.mk (zy (g := gb264) (o := .cells #[.int .i64 a0_0, .int .i64 a0_1, .int .i64 a0_2, .int .i64 a0_3, .int .i64 a0_4] 23 (0, 0)) (by apply_rules only [BK264.out, zh, zj, zi]) hb); have n1_ := za.mk (zk (by apply_rules only [HB.out, ze, zb, zf, fun h => zg h GE264.out]) hb); clear BK264; clear HB; have BK264 := n0_; have HB := n1_; clear n0_ n1_; (try clear hb); (try clear hb2); (try clear hk); (try clear hi); (try simp only [zn, zo])) | ((with_reducible refine zza (N := 8) rfl ?_); refine zgc ?hg (N := 8) ?hd (cs := #[.int .i64 0, .int .i64 0, .int .i64 0]) (t := 125) ?hr ?_; (case hd => rfl); (case hg => rfl); (case hr => first | (go_simp; done) | (go_simp; rfl)); intro gb269 hg w11 hbox hb; have n0_ := za.mk (zy (g := gb264) (o := .cells #[.int .i64 a0_0, .int .i64 a0_1, .int .i64 a0_2, .int .i64 a0_3, .int .i64 a0_4] 23 (0, 0)) (by apply_rules only [BK264.out, zh, zj, zi]) hb); have n1_ := za.mk (zk (by apply_rules only [HB.out, ze, zb, zf, fun h => zg h GE264.out]) hb); have n2_ := za.mk (hbox); have n3_ := za.mk ((by rw [hg]; exact (zm (by apply_rules only [HB.out, ze, zb, zf, fun h => zg h GE264.out])) : w.heap.size ≤ gb269)); have n4_ := za.mk ((by rw [hg]; exact (zm (by apply_rules only [HB.out, ze, zb, zf, fun h => zg h GE264.out])) : w.heap.size ≤ gb269)); have n5_ := za.mk ((by rw [hg]; exact Nat.ne_of_lt (zpe (g := gb264) (o := .cells #[.int .i64 a0_0, .int .i64 a0_1, .int .i64 a0_2, .int .i64 a0_3, .int .i64 a0_4] 23 (0, 0)) (by apply_rules only [BK264.out, zh, zj, zi])) : gb264 ≠ gb269)); have n6_ := za.mk ((by rw [hg]; exact Nat.ne_of_gt (zpe (g := gb264) (o := .cells #[.int .i64 a0_0, .int .i64 a0_1, .int .i64 a0_2, .int .i64 a0_3, .int .i64 a0_4] 23 (0, 0)) (by apply_rules only [BK264.out, zh, zj, zi])) : gb269 ≠ gb264)); clear BK264; clear HB; have BK264 := n0_; have HB := n1_; have BK269 := n2_; have GW269 := n3_; have GE269 := n4_; have NB264_269 := n5_; have NB269_264 := n6_; clear n0_ n1_ n2_ n3_ n4_ n5_ n6_; clear hb hbox hg; have hnb12 := NB269_264.out; have hnc12 := NB264_269.out; obtain ⟨hcz13_0, hcz13_1, hcz13_2⟩ := cells3 BK269.out; have hfz13_0 := zxb BK269.out 0; have hfz13_1 := zxb BK269.out 1; have hfz13_2 := zxb BK269.out 2; obtain ⟨hcz14_0, hcz14_1, hcz14_2, hcz14_3, hcz14_4⟩ := cells5 BK264.out; obtain ⟨hfz14_0, hfz14_1, hfz14_2, hfz14_3, hfz14_4⟩ := zic BK264.out) | ((with_reducible refine zaa (f := 74) rfl ?_); refine zmc (some 25) rfl rfl Tryz.func74 (by kernel_rfl) rfl #[.agg #[.int .i64 a0_0, .int .i64 a0_1, .int .i64 a0_2, .int .i64 a0_3, .int .i64 a0_4], .agg #[.int .i64 t265, .int .i64 t266, .int .i64 t267]] rfl (by (try simp only [zpa]); first | done | rfl | simp) ?_; (with_reducible refine (zad.calls k a0_0 a0_1 a0_2 a0_3 a0_4 t265 t266 t267 t271 t274 _ A5.out).mono ?_); rintro e w15 ⟨v272, rfl, ho0, hb⟩; refine ⟨_, rfl, ?_⟩; have n0_ := za.mk (Kd.zcd ho0 (zm (by apply_rules only [HB.out, ze, zb, zf, fun h => zg h GE264.out, fun h => zg h GE269.out]))); have n1_ := za.mk (zy (g := gb264) (o := .cells #[.int .i64 a0_0, .int .i64 a0_1, .int .i64 a0_2, .int .i64 a0_3, .int .i64 a0_4] 23 (0, 0)) (by (with_reducible repeat (first | refine zh ?_ _ | refine zj ?_ | refine zi ?_ _)); refine zre ?_ NB264_269.out _; (with_reducible repeat (first | refine zh ?_ _ | refine zj ?_ | refine zi ?_ _)); refine zre ?_ NB264_269.out _; (with_reducible repeat (first | refine zh ?_ _ | refine zj ?_ | refine zi ?_ _)); refine zre ?_ NB264_269.out _; (with_reducible repeat (first | refine zh ?_ _ | refine zj ?_ | refine zi ?_ _)); exact BK264.out) hb); have n2_ := za.mk (zy (g := gb269) (o := .cells #[.int .i64 t265, .int .i64 t266, .int .i64 t267] 125 (0, 0)) (by (with_reducible repeat (first | refine zh ?_ _ | refine zj ?_ | refine zi ?_ _)); refine zzc (cs := #[.int .i64 t265, .int .i64 t266, .int .i64 0]) ?_ 2 _ rfl; (with_reducible repeat (first | refine zh ?_ _ | refine zj ?_ | refine zi ?_ _)); refine zzc (cs := #[.int .i64 t265, .int .i64 0, .int .i64 0]) ?_ 1 _ rfl; (with_reducible repeat (first | refine zh ?_ _ | refine zj ?_ | refine zi ?_ _)); refine zzc (cs := #[.int .i64 0, .int .i64 0, .int .i64 0]) ?_ 0 _ rfl; (with_reducible repeat (first | refine zh ?_ _ | refine zj ?_ | refine zi ?_ _)); exact BK269.out) hb); have n3_ := za.mk (zk (by apply_rules only [HB.out, ze, zb, zf, fun h => zg h GE264.out, fun h => zg h GE269.out]) hb); clear BK264; clear BK269; clear HB; have HO273 := n0_; have BK264 := n1_; have BK269 := n2_; have HB := n3_; clear n0_ n1_ n2_ n3_; (try clear hb); (try clear hb2); (try clear hk); (try clear hi); (try clear ho0); (try simp only [zn, zo]); obtain ⟨Ao16, co16, eo16⟩ := Kd.zsc HO273.out; subst eo16) | ((with_reducible refine zaa (f := 75) rfl ?_); refine zmc (some 29) rfl rfl Tryz.func75 (by kernel_rfl) rfl #[.slice Ao16 t271.length co16] rfl (by (try simp only [zpa]); first | done | rfl | simp) ?_; (with_reducible refine (zec.calls (fun k_ => some k_ = (.slice Ao16 t271.length co16 : Value).ownBlock) (.slice Ao16 t271.length co16) t271 t275 w _ ?side1 ?side2 A6.out).mono ?_); (case side1 => repeat (first | (with_reducible first | exact HB.out | apply ze | apply zb | apply zf | refine zg ?_ GE264.out | refine zg ?_ GE269.out) | exact HB.out)); (case side2 => exact Kd.R_tight rfl HO273.out); rintro e w17 ⟨rfl, hy0, hb, hkp⟩; refine ⟨_, rfl, ?_⟩; have n0_ := za.mk (blk_kept (by apply_rules only [BK264.out, zh, zj, zi]) hkp (fun hs_ => (fun e_ => (Kd.R_ne HO273.out BK264.out (by decide)) e_) hs_)); have n1_ := za.mk (blk_kept (by apply_rules only [BK269.out, zh, zj, zi]) hkp (fun hs_ => (fun e_ => (Kd.R_ne HO273.out BK269.out (by decide)) e_) hs_)); have n2_ := za.mk (Kd.R_reok rfl hy0 (fun k_ e_ => HO273.out.1 k_ e_)); have n3_ := za.mk (hb); clear BK264; clear BK269; clear HO273; clear HB; have BK264 := n0_; have BK269 := n1_; have HO273 := n2_; have HB := n3_; clear n0_ n1_ n2_ n3_; (try clear hb); (try clear hkp); (try clear hy0); have CA7 := fun W => zfb.calls (⟨#[108, 116, 114, 111, 119, 46, 82, 111, 119]⟩ : ByteArray) t274 t276 W A7.out; try simp only [zn, zo] at CA7) | (go_at_call 33; (with_reducible refine (CA7 _).mono ?_); rintro e w' ⟨rfl, ⟨nd, rfl⟩⟩; (try simp only [zn, zo])))
  go_ret2
  exact ⟨_, by first | rfl | (simp [zn, zo] <;> rfl) | (simp [*, zn, zo] <;> rfl), by apply_rules only [HO273.out, Kd.zka, Kd.zja, Kd.zya], by apply_rules only [HB.out, ze, zb, zf, fun h => zg h GE264.out, fun h => zg h GE269.out]⟩
 ·have H1 : ((zfb.f (⟨#[108, 116, 114, 111, 119, 46, 82, 111, 119]⟩ : ByteArray) (some q270)).bind fun t277 => (some (([] : List Int), t277))) = some (r1, r2) := by rw [if_neg (show ¬ (some q270).isNone = true by simp)] at H; exact H
  exact absurd H1 (by simp [zcb.f, zfb.f])
def ones_1 (x : Int) : Int := IntKind.u64.wrap (bits BinOp.and IntKind.u64 (x / 2) 6148914691236517205 + bits BinOp.and IntKind.u64 x 6148914691236517205)
def ones_2 (x : Int) : Int := IntKind.u64.wrap (bits BinOp.and IntKind.u64 (x / 4) 3689348814741910323 + bits BinOp.and IntKind.u64 x 3689348814741910323)
def ones_3 (x : Int) : Int := bits BinOp.and IntKind.u64 (IntKind.u64.wrap (x / 16 + x)) 1085102592571150095
def ones_4 (x : Int) : Int := IntKind.u64.wrap (x + x / 256)
def ones_5 (x : Int) : Int := IntKind.u64.wrap (x + x / 65536)
def ones_6 (x : Int) : Int := IntKind.u64.wrap (x + x / 4294967296)
def ones_7 (x : Int) : Int := bits BinOp.and IntKind.i64 (wrap64 x) 127
def ones64 (x : Int) : Int := ones_7 (ones_6 (ones_5 (ones_4 (ones_3 (ones_2 (ones_1 x))))))
theorem bits_OnesCount64.calls (x : Int) (w : World) :
  Calls Tryz.prog 136 #[.int .u64 x] w fun e w' => e = .returned (.int .i64 (ones_7 (ones_6 (ones_5 (ones_4 (ones_3 (ones_2 (ones_1 x))))))) ) ∧ w' = w := by
 go_enter Tryz.func136, Tryz.ntmps136
 go_upto_region 2 with fail
 rw [show IntKind.u64.wrap (bits BinOp.and IntKind.u64 (x / 2) 6148914691236517205 + bits BinOp.and IntKind.u64 x 6148914691236517205) = ones_1 x from rfl]
 obtain ⟨y1, e_⟩ : ∃ y, y = ones_1 x := ⟨_, rfl⟩
 rw [← e_]
 have E1 := za.mk e_
 clear e_
 go_upto_region 3 with fail
 rw [show IntKind.u64.wrap (bits BinOp.and IntKind.u64 (y1 / 4) 3689348814741910323 + bits BinOp.and IntKind.u64 y1 3689348814741910323) = ones_2 y1 from rfl]
 obtain ⟨y2, e_⟩ : ∃ y, y = ones_2 y1 := ⟨_, rfl⟩
 rw [← e_]
 have E2 := za.mk e_
 clear e_
 go_upto_region 4 with fail
 rw [show bits BinOp.and IntKind.u64 (IntKind.u64.wrap (y2 / 16 + y2)) 1085102592571150095 = ones_3 y2 from rfl]
 obtain ⟨y3, e_⟩ : ∃ y, y = ones_3 y2 := ⟨_, rfl⟩
 rw [← e_]
 have E3 := za.mk e_
 clear e_
 go_upto_region 5 with fail
 rw [show IntKind.u64.wrap (y3 + y3 / 256) = ones_4 y3 from rfl]
 obtain ⟨y4, e_⟩ : ∃ y, y = ones_4 y3 := ⟨_, rfl⟩
 rw [← e_]
 have E4 := za.mk e_
 clear e_
 go_upto_region 6 with fail
 rw [show IntKind.u64.wrap (y4 + y4 / 65536) = ones_5 y4 from rfl]
 obtain ⟨y5, e_⟩ : ∃ y, y = ones_5 y4 := ⟨_, rfl⟩
 rw [← e_]
 have E5 := za.mk e_
 clear e_
 go_upto_region 7 with fail
 rw [show IntKind.u64.wrap (y5 + y5 / 4294967296) = ones_6 y5 from rfl]
 obtain ⟨y6, e_⟩ : ∃ y, y = ones_6 y5 := ⟨_, rfl⟩
 rw [← e_]
 have E6 := za.mk e_
 clear e_
 go_wp2
 go_ret
 refine ⟨?_, rfl⟩
 rw [← E1.out, ← E2.out, ← E3.out, ← E4.out, ← E5.out, ← E6.out]
 rfl
theorem bits_OnesCount.calls (x : Int) (w : World) :
  Calls Tryz.prog 133 #[.int .u64 x] w fun e w' => e = .returned (.int .i64 (ones64 x)) ∧ w' = w := by
 go_enter Tryz.func133, Tryz.ntmps133
 go_wp2_with fail
 refine (bits_OnesCount64.calls x _).mono ?_
 rintro e w1 ⟨rfl, rfl⟩
 go_wp2
 go_ret
 exact ⟨rfl, rfl⟩
section
open Go.Shelf
attribute [local go_sem] Oper.semAt_some
def grayAt (i : Int) : Int := bits BinOp.xor IntKind.i64 i (i / 2)
def grays (wt : Int) : Nat → Int → List Int
 | 0, _ => []
 | k + 1, i => if ones64 (IntKind.u64.wrap (grayAt i)) = wt then grayAt i :: grays wt k (i + 1) else grays wt k (i + 1)
def grayK (B Bn : Nat) (W W' : World) : Prop := Below B W W' ∧ W'.heap[Bn]? = W.heap[Bn]?
theorem zhf.it1 (n l Bn B N : Nat) (hn : 1 ≤ n) (hN : (N : Int) = 1048576) (wt : Int) (J Jx : List Int → World → Prop)
  (hY : ∀ pre x W, J pre W → pre.length < (grays wt N 0).length → YieldAt Fence.wide (n - 1) Tryz.prog l #[.int .i64 x] W fun e W' =>
   (e = .returned (.bool true) ∧ J (pre ++ [x]) W' ∧ grayK B Bn W W') ∨ (e = .returned (.bool false) ∧ Jx (pre ++ [x]) W'))
  (W : World) (hJ : AbidesFrom W.heap.size J) (hBn : W.heap[Bn]? = some (.cells #[.int .i64 wt] 3 (0, 0))) (h0 : J [] W) :
  CallsIn Fence.wide n Tryz.prog 132 #[.func (.yield l) #[] #[], .pointer (some ⟨Bn, 0, none⟩)] W fun e W' => (∃ v, e = .returned v) ∧
   ((∃ ys, ys = grays wt N 0 ∧ J ys W') ∨ (∃ pre, pre <+: grays wt N 0 ∧ Jx pre W')) := by
 have hmx : Tryz.prog.follows .mixedOrders = true := by kernel_rfl
 refine callsIn_of_wp Tryz.func132 rfl trivial ?_ rfl
 simp only [Tryz.ntmps132, List.size_toArray, List.length_cons, List.length_nil, Nat.reduceAdd, Nat.reduceSub, Array.replicate_succ, Array.replicate_zero, List.push_toArray, List.append_toArray, List.nil_append, List.cons_append]
 have HY := za.mk hY
 have HJ := za.mk hJ
 have HN := za.mk hN
 clear hY hJ hN
 gi_wp2
 gi_loopw [5] (fun p wr => ∃ (i : Int) (pre : List Int), p = .int .i64 i ∧ 0 ≤ i ∧ i ≤ 1048576 ∧ za (grays wt N 0 = pre ++ grays wt (1048576 - i).toNat i) ∧ wr.heap[Bn]? = some (.cells #[.int .i64 wt] 3 (0, 0)) ∧ J pre wr)
  (fun p wr => (1048576 - intOf p).toNat)
 case atStart =>
  exact ⟨0, [], rfl, by omega, by omega, ⟨by rw [show ((1048576 : Int) - 0).toNat = N from by have := HN.out; omega]; rfl⟩, hBn, h0⟩
 case round =>
  obtain ⟨i, pre, rfl, hi0, hi1, HX, hb, hJs⟩ := hrel
  have hJw := hJs
  have hJd : J pre wr.drew := HJ.out pre wr wr.drew none hJs ⟨rfl, rfl, rfl, Nat.le_refl _, fun _ _ _ => rfl⟩ (by simp)
  by_cases t1 : i < 1048576
  ·have b1 : decide (i < 1048576) = true := decide_eq_true t1
   have HW : za (IntKind.i64.wrap (i + 1) = i + 1) := ⟨IntWalk.i64_in _ (by omega)⟩
   have HSTEP := HX.out
   rw [show (1048576 - i).toNat = (1048576 - (i + 1)).toNat + 1 from by omega] at HSTEP
   simp only [grays] at HSTEP
   have hcw : wr.drew.cell? ⟨Bn, 0, none⟩ = some (.int .i64 wt) := (zl (zj hb) 0).trans rfl
   by_cases t2 : ones64 (IntKind.u64.wrap (grayAt i)) = wt
   ·rw [if_pos t2] at HSTEP
    have q : (ones64 (IntKind.u64.wrap (bits BinOp.xor IntKind.i64 i (i / 2))) == wt) = true := beq_iff_eq.mpr t2
    obtain ⟨fn, tmps, assign, body, hy, hR⟩ := HY.out pre (grayAt i) wr.drew hJd (by rw [HSTEP]; simp)
    have HS2 := za.mk HSTEP
    clear HSTEP HX hJs t2
    unfold grayAt at hy hR
    have hRb := hR.mono (R' := fun e W' => ∃ b : Bool, e = .returned (.bool b) ∧ ((b = true ∧ J (pre ++ [bits BinOp.xor IntKind.i64 i (i / 2)]) W' ∧ grayK B Bn wr.drew W') ∨ (b = false ∧ Jx (pre ++ [bits BinOp.xor IntKind.i64 i (i / 2)]) W'))) (fun e W' h => by rcases h with ⟨rfl, h1, h2⟩ | ⟨rfl, h1⟩; exact ⟨true, rfl, .inl ⟨rfl, h1, h2⟩⟩; exact ⟨false, rfl, .inr ⟨rfl, h1⟩⟩)
    clear hR
    gi_wp2
    gi_region_with_o (first | (refine ⟨trivial, ?_⟩; gi_at_call 133; refine (callsIn_wide.2 (bits_OnesCount.calls _ _)).mono ?_; rintro e w' ⟨rfl, rfl⟩) | (refine hRb.mono ?_; rintro e W' ⟨b, rfl, hh⟩))
    all_goals (
     rcases hh with ⟨rfl, hJ2, hk2⟩ | ⟨rfl, hJx2⟩
     ·gi_wp2
      go_roundw
      case rel => exact ⟨i + 1, pre ++ [grayAt i], by first | rfl | rw [HW.out] | rw [← i64_w, HW.out], by omega, by omega, ⟨by rw [HS2.out]; simp⟩, hk2.2.trans (zj hb), hJ2⟩
      case measure => simp only [intOf]; omega
     ·gi_wp2
      refine bodyPost_ret (results_none rfl _ _ _) rfl ?_
      exact ⟨⟨_, rfl⟩, .inr ⟨pre ++ [grayAt i], ⟨grays wt (1048576 - (i + 1)).toNat (i + 1), by rw [HS2.out]; simp⟩, hJx2⟩⟩)
   ·rw [if_neg t2] at HSTEP
    have q : (ones64 (IntKind.u64.wrap (bits BinOp.xor IntKind.i64 i (i / 2))) == wt) = false := beq_eq_false_iff_ne.mpr t2
    have q2 : decide (ones64 (IntKind.u64.wrap (bits BinOp.xor IntKind.i64 i (i / 2))) = wt) = false := decide_eq_false t2
    have HS2 := za.mk HSTEP
    clear HSTEP HX hJs
    unfold grayAt at t2
    gi_wp2
    refine wpIn_wide.2 ?_
    have hc0 : wr.cell? ⟨Bn, 0, none⟩ = some (.int .i64 wt) := (zl hb 0).trans rfl
    go_quiet ((go_at_call 133; exact Calls.quiet_of_same (bits_OnesCount.calls _ _)))
    gi_wp2
    go_roundw
    case rel => exact ⟨i + 1, pre, by first | rfl | rw [HW.out] | rw [← i64_w, HW.out], by omega, by omega, ⟨HS2.out⟩, zh hb _, HJ.out pre wr _ none hJw ⟨rfl, rfl, rfl, Nat.le_refl _, fun _ _ _ => rfl⟩ (by simp)⟩
    case measure => simp only [intOf]; omega
  ·have b1 : decide (i < 1048576) = false := decide_eq_false t1
   obtain rfl : i = 1048576 := by omega
   have HXX := HX.out
   rw [show ((1048576 : Int) - 1048576).toNat = 0 from rfl] at HXX
   simp only [grays, List.append_nil] at HXX
   have HX2 := za.mk HXX
   clear HX HXX hJd t1
   gi_wp2
   go_end0
   exact ⟨⟨_, rfl⟩, .inl ⟨pre, HX2.out.symm, hJw⟩⟩
end
section
open Go.Shelf
attribute [local go_sem] Oper.semAt_some
theorem zhf.in_ (n : Nat) (wt : Int) (w : World) :
  CallsIn Fence.wide n Tryz.prog 123 #[.int .i64 wt] w fun e w' => e = .returned (.func (.func 132) #[] #[.pointer (some ⟨w.heap.size, 0, none⟩)]) ∧ w' = w.alloc (.cells #[.int .i64 wt] 3) := by
 refine callsIn_of_wp Tryz.func123 rfl trivial ?_ rfl
 simp only [Tryz.ntmps123, List.size_toArray, List.length_cons, List.length_nil, Nat.reduceAdd, Nat.reduceSub, Array.replicate_succ, Array.replicate_zero, List.push_toArray, List.append_toArray, List.nil_append, List.cons_append]
 gi_wp2
 go_ret
 exact ⟨rfl, rfl⟩
theorem zhf.stops (n Bn B N : Nat) (hn : 1 ≤ n) (hN : (N : Int) = 1048576) (wt : Int) (w : World) (hb : w.heap[Bn]? = some (.cells #[.int .i64 wt] 3 (0, 0))) :
  SeqStopsK Fence.wide n Tryz.prog 132 #[.pointer (some ⟨Bn, 0, none⟩)] (fun x : Int => #[Value.int .i64 x]) (grayK B Bn) (fun ys => ys = grays wt N 0) (fun pre => pre <+: grays wt N 0) (grays wt N 0).length w := fun l J Jx W hW hJ _ hY h0 =>
 zhf.it1 n l Bn B N hn hN wt J Jx hY W hJ (zy hb hW) h0
theorem grayK.t {B Bn : Nat} {X Y Z : World} (h : grayK B Bn X Y) (k : grayK B Bn Y Z) : grayK B Bn X Z := ⟨h.1.trans k.1, k.2.trans h.2⟩
theorem grayK.b {B Bn : Nat} {w : World} (hB : B ≤ w.heap.size) (hBn : Bn < w.heap.size) (W : World) (l : Nat) (o o' : Obj) (hl : w.heap.size ≤ l) (h : W.heap[l]? = some o) (h1 : o.isCells = false) (h2 : o.isWalk = false) : grayK B Bn W (W.putObj l o') :=
 ⟨belowK_b hB W l o o' hl h h1 h2, World.putObj_heap_other (by omega)⟩
theorem gray_appended {W w1 : World} {n1 Bo Bn : Nat} {t e : TypeId} {v v' : Value} {k m : Nat} {xs ys : List Value} {tmp : Obj}
  (hv : Boxed W Bo t v) (hte : t ≠ e) (hrow : W.ownsRow n1 e 1 v k xs) (hn1 : n1 ≤ W.heap.size) (hBo : Bo < Bn) (hBn : Bn < n1)
  (hown' : w1.ownsRow n1 e 1 v' m ys) (hgrow : (W.alloc tmp).grownBy w1 v.ownBlock) :
  Boxed w1 Bo t v ∧ Boxed (w1.setCell ⟨Bo, 0, none⟩ v') Bo t v' ∧ (w1.setCell ⟨Bo, 0, none⟩ v').ownsRow n1 e 1 v' m ys ∧ KeepsOthers W (w1.setCell ⟨Bo, 0, none⟩ v') ∧ grayK Bo Bn W (w1.setCell ⟨Bo, 0, none⟩ v') := by
 have hv1 : Boxed w1 Bo t v := (hv.alloc tmp).kept hgrow (hv.not_row hte hrow)
 have hge : ∀ j, v.ownBlock = some j → n1 ≤ j := fun j ej => by
  rcases hrow.2 with ⟨rfl, _⟩ | ⟨g, cap, cur, rfl, hb, _⟩
  ·simp [Value.ownBlock] at ej
  ·obtain rfl : g = j := by simpa [Value.ownBlock] using ej
   exact hb
 refine ⟨hv1, hv1.set v', hown'.kept (grownBy_setCell' w1 Bo v') (.inr (hv1.not_row hte hown').symm), ?_, ?_, ?_⟩
 ·refine ((KeepsOthers.alloc W tmp).trans (KeepsOthers.of_grownBy hgrow fun j o ej hj => ?_)).trans (KeepsOthers.setCell _ _ _)
  rcases (hrow.alloc tmp).2 with ⟨rfl, _⟩ | ⟨g, cap, cur, rfl, _, hgb, _⟩
  ·simp [Value.ownBlock] at ej
  ·obtain rfl : g = j := by simpa [Value.ownBlock] using ej
   rw [hgb] at hj; cases hj; rfl
 ·exact (((Below.refl Bo W).alloc (by omega) tmp).grown hgrow (by simp; omega) fun j ej => by have := hge j ej; omega).setCell (p := ⟨Bo, 0, none⟩) (Nat.le_refl _) v'
 ·have h1 : (w1.setCell ⟨Bo, 0, none⟩ v').heap[Bn]? = w1.heap[Bn]? := Below.heap_setCell w1 ⟨Bo, 0, none⟩ v' Bn (by show Bn ≠ Bo; omega)
  have h2 : w1.heap[Bn]? = (W.alloc tmp).heap[Bn]? := hgrow.block Bn (by rw [World.size_alloc]; omega) (fun ej => by have := hge Bn ej.symm; omega)
  exact h1.trans (h2.trans (Below.heap_alloc W tmp Bn (by omega)))
def zge.f (k : Nat) (wt n : Int) : Option (List Int) :=
 if 1 ≤ wt ∧ wt ≤ 16 ∧ 1 ≤ n ∧ n ≤ 4096 then ((zea.f k 20 wt).bind fun c => if n ≤ c.1 then some ((grays wt 1048576 0).take n.toNat) else none) else none
theorem zge.go (n : Nat) (hn : 3 ≤ n) (k : Nat) (wt m c1 : Int) (c2 : Option Int) (N : Nat) (hN : (N : Int) = 1048576) (r : List Int) (w : World) (h1 : 1 ≤ wt) (h2 : wt ≤ 16) (h3 : 1 ≤ m) (h4 : m ≤ 4096) (hc : zea.f k 20 wt = some (c1, c2)) (h5 : m ≤ c1) (hr : (grays wt N 0).take m.toNat = r) :
  CallsIn Fence.wide n Tryz.prog 104 #[.int .i64 wt, .int .i64 m] w fun e w' => ∃ v, e = .returned (.tuple #[v, .nilIface]) ∧ Kd.R (Kd.int .i64) 3 w' w.heap.size (fun _ => True) v r ∧ Below w.heap.size w w' := by
 have hn1 : 1 ≤ n := by omega
 obtain ⟨i0, hi, hz0, hz1, hz2⟩ := info_parts info3
 have HC := za.mk hc
 have HR := za.mk hr
 have HN := za.mk hN
 clear hc hr hN
 have b1 : decide (wt < 1) = false := decide_eq_false (by omega)
 have b2 : decide (wt > 16) = false := decide_eq_false (by omega)
 have b3 : decide (m < 0) = false := decide_eq_false (by omega)
 have b4 : decide (m > 4096) = false := decide_eq_false (by omega)
 have b5 : decide (c1 < m) = false := decide_eq_false (by omega)
 have b6 : (m == 0) = false := beq_eq_false_iff_ne.mpr (by omega)
 refine callsIn_of_wp_marks Tryz.func104 rfl trivial ?_ rfl
 simp only [Tryz.ntmps104, List.size_toArray, List.length_cons, List.length_nil, Nat.reduceAdd, Nat.reduceSub, Array.replicate_succ, Array.replicate_zero, List.push_toArray, List.append_toArray, List.nil_append, List.cons_append]
 have hb0 : Boxed (w.alloc (.cells #[.int .i64 m] 3)) w.heap.size 3 (.int .i64 m) := Boxed.new w _ _
 have hB0 := (Below.refl w.heap.size w).alloc (Nat.le_refl _) (.cells #[.int .i64 m] 3)
 have hq0 := hb0.cell
 gi_wp2_with (first | (refine ⟨trivial, ?_⟩; gi_at_call 61; refine (callsIn_wide.2 (zea.calls k 20 wt c1 c2 _ HC.out)).mono ?_; rintro e w1 ⟨rfl, hbw⟩; have hw1 : Boxed w1 w.heap.size 3 (.int .i64 m) := zy hb0 hbw; have hq1 := hw1.cell; have hB1 := zk hB0 hbw; have hq2 := (hw1.alloc (.cells #[.slice none 0 0] 31)).cell; clear hq0 hB0 hb0) | (refine ⟨trivial, ?_⟩; gi_at_call 123; refine (zhf.in_ _ wt _).mono ?_; rintro e w' ⟨rfl, rfl⟩))
 have bO := Boxed.new w1 31 (.slice none 0 0)
 have bW := Boxed.new (w1.alloc (.cells #[.slice none 0 0] 31)) 3 (.int .i64 wt)
 rw [World.size_alloc] at bW
 have bN := (hw1.alloc (.cells #[.slice none 0 0] 31)).alloc (.cells #[.int .i64 wt] 3)
 have hsz1 := hB1.size
 have hlt1 := hw1.lt
 have hB3 : Below w.heap.size w ((w1.alloc (.cells #[.slice none 0 0] 31)).alloc (.cells #[.int .i64 wt] 3)) := (hB1.alloc (by omega) _).alloc (by rw [World.size_alloc]; omega) _
 refine wpIn_rangeFunc_ownG rfl hn1 (gf := 132) (lb := #[.pointer (some ⟨w1.heap.size + 1, 0, none⟩)]) rfl trivial (enters_of Tryz.func132 (by kernel_rfl) rfl)
  (zhf.stops (n - 1) (w1.heap.size + 1) w1.heap.size N (by omega) HN.out wt _ bW) grayK.t (grayK.b (by simp; omega) (by simp)) (Below.refl _ _) (fun _ => rfl)
  (fun pre W => (∃ v, Boxed W w1.heap.size 31 v ∧ W.ownsRow (w1.heap.size + 2) 3 1 v pre.length (pre.map (Value.int .i64)) ∧ True) ∧ Boxed W w.heap.size 3 (.int .i64 m) ∧ Below w.heap.size w W ∧ pre.length < m.toNat ∧ w1.heap.size + 2 ≤ W.heap.size)
  (fun c pre W => c = .exit 0 ∧ (∃ v, Boxed W w1.heap.size 31 v ∧ W.ownsRow (w1.heap.size + 2) 3 1 v pre.length (pre.map (Value.int .i64)) ∧ True) ∧ Below w.heap.size w W ∧ pre.length = m.toNat)
  ?hI ?hIx ⟨⟨_, bO.alloc _, World.ownsRow_nil _ _ _ _, trivial⟩, bN, hB3, by simp; omega, by simp⟩
  (fun x => { tmps := #[.int .i64 wt, .int .i64 m, undef, .pointer (some ⟨w.heap.size, 0, none⟩), .slice none 0 0, .nilIface, .int .i64 c1, errW c2, .pointer (some ⟨w1.heap.size, 0, none⟩), .int .i64 x, .int .i64 wt, .bool false, .bool false, .int .i64 wt, .bool false, .bool false, .bool false, .int .i64 m, .bool false, .bool false, .bool false, .int .i64 m, .bool false, .bool false, undef, .tuple #[.int .i64 c1, errW c2], .int .i64 wt, .tuple #[.int .i64 c1, errW c2], .int .i64 c1, errW c2, .int .i64 c1, .int .i64 m, .bool false, undef, .int .i64 m, .bool false, .int .i64 wt, .func (.func 132) #[] #[.pointer (some ⟨w1.heap.size + 1, 0, none⟩)], .int .i64 x, undef, undef, undef, undef, undef, undef, undef, undef, undef], defers := [] }) ?assign ?body ?done ?stop
 case hI =>
  exact OwnFrom.and (Own.from (holdsRow_own (w1.heap.size + 2) w1.heap.size 31 3 1 (fun (pre : List Int) => pre.length) (fun (pre : List Int) => pre.map (Value.int .i64)) (fun _ _ => True)) _) (fun pre W W' row hs hg hr => ⟨hs.1.kept hg (fun e => by have := (hr _ e.symm).1; simp at this; omega), hs.2.1.grown hg (by have := hs.2.1.size; omega) (fun k e => by have := (hr k e).1; simp at this; omega), hs.2.2.1, Nat.le_trans hs.2.2.2 hg.size⟩)
 case hIx =>
  intro c pre W W' row hs hg hr
  refine ⟨hs.1, Own.from (holdsRow_own (w1.heap.size + 2) w1.heap.size 31 3 1 (fun (pre : List Int) => pre.length) (fun (pre : List Int) => pre.map (Value.int .i64)) (fun _ _ => True)) _ pre W W' row hs.2.1 hg hr, hs.2.2.1.grown hg (by have := hs.2.2.1.size; omega) (fun k e => by have := (hr k e).1; simp at this; omega), hs.2.2.2⟩
 case assign =>
  intro l x W K hK
  gi_wp2
  exact hK
 case body =>
  rintro l pre x W ⟨⟨v, hv, hrow, _⟩, hN, hB, hlen, hWs⟩ _
  have hc := hv.cell
  have hmax : pre.length + 1 ≤ maxLen := by (have : (4097 : Nat) ≤ maxLen := by decide); omega
  by_cases t1 : (pre.length : Int) + 1 = m
  ·have q : ((pre.length : Int) + 1 == m) = true := beq_iff_eq.mpr t1
   gi_wp2_with (gi_at_builtin; refine wpListIn_append_own _ rfl _ _ 31 rfl (w1.heap.size + 2) 3 i0 (.int .i64 0) 1 8 Tryz.underlying31 hi hz0 hz1 hz2 rfl (by decide) _ _ _ rfl (hrow.alloc _) ⟨W.heap.size, 0, none⟩ 1 1 [.int .i64 x] rfl rfl (cell_one_new _ _ _) (by simp [Value.oneCell']) (by omega) (by omega) (by simp; omega) ?_; intro v' w4 hown' hgrow _; obtain ⟨g', cap', rfl⟩ := ownsRow_succ hown'; obtain ⟨hv1, hv2, hr2, hk2, hb2⟩ := gray_appended (Bn := w1.heap.size + 1) hv (by decide) hrow hWs (by omega) (by omega) hown' hgrow; have hc1 := hv1.cell; have hf1 := hv1.frozen; have hc2 := hv2.cell; have hN2 : Boxed _ w.heap.size 3 (.int .i64 m) := (hb2.1.block w.heap.size (by omega)).trans hN; have hcn := hN2.cell)
   exact ⟨hk2.from _, rfl, ⟨_, hv2, by simpa using hr2, trivial⟩, hB.trans (hb2.1.mono (by omega)), by simp; omega⟩
  ·have q : ((pre.length : Int) + 1 == m) = false := beq_eq_false_iff_ne.mpr t1
   gi_wp2_with (gi_at_builtin; refine wpListIn_append_own _ rfl _ _ 31 rfl (w1.heap.size + 2) 3 i0 (.int .i64 0) 1 8 Tryz.underlying31 hi hz0 hz1 hz2 rfl (by decide) _ _ _ rfl (hrow.alloc _) ⟨W.heap.size, 0, none⟩ 1 1 [.int .i64 x] rfl rfl (cell_one_new _ _ _) (by simp [Value.oneCell']) (by omega) (by omega) (by simp; omega) ?_; intro v' w4 hown' hgrow _; obtain ⟨g', cap', rfl⟩ := ownsRow_succ hown'; obtain ⟨hv1, hv2, hr2, hk2, hb2⟩ := gray_appended (Bn := w1.heap.size + 1) hv (by decide) hrow hWs (by omega) (by omega) hown' hgrow; have hc1 := hv1.cell; have hf1 := hv1.frozen; have hc2 := hv2.cell; have hN2 : Boxed _ w.heap.size 3 (.int .i64 m) := (hb2.1.block w.heap.size (by omega)).trans hN; have hcn := hN2.cell)
   exact ⟨hk2.from _, hb2, ⟨_, hv2, by simpa using hr2, trivial⟩, hN2, hB.trans (hb2.1.mono (by omega)), by simp; omega, Nat.le_trans hWs hb2.1.size⟩
 case done =>
  rintro D ys W hD rfl ⟨⟨v, hv, hrow, _⟩, hN, hB, hlen, hWs⟩ hK
  obtain rfl : grays wt N 0 = r := by rw [← HR.out, List.take_of_length_le (by omega)]
  have hc := hv.cell
  gi_wp2
  refine ⟨by simp, .inl ⟨_, _, rfl, run_takeDeferred hK, ?_⟩⟩
  exact ⟨_, results_tmp2 rfl _ _ _, v, rfl, Kd.zcd (Kd.R_of_own (ownsRow_putObj hrow _ hK rfl) (fun _ _ => trivial)) (by omega), hB.trans (belowK_b (w := w) (Nat.le_refl _) W D _ _ (by simp at hD; omega) hK rfl rfl)⟩
 case stop =>
  rintro D c pre W hD hpre ⟨rfl, ⟨v, hv, hrow, _⟩, hB, hlen⟩ hK
  obtain rfl : pre = r := by rw [← HR.out, ← hlen]; exact List.prefix_iff_eq_take.1 hpre
  have hc := hv.cell
  gi_wp2
  refine ⟨by simp, .inl ⟨_, _, rfl, run_takeDeferred hK, ?_⟩⟩
  exact ⟨_, results_tmp2 rfl _ _ _, v, rfl, Kd.zcd (Kd.R_of_own (ownsRow_putObj hrow _ hK rfl) (fun _ _ => trivial)) (by omega), hB.trans (belowK_b (w := w) (Nat.le_refl _) W D _ _ (by simp at hD; omega) hK rfl rfl)⟩
theorem zge.calls (k : Nat) (a0 a1 : Int) (r : List Int) (w : World) (h : zge.f k a0 a1 = some r) :
  Calls Tryz.prog 104 #[.int .i64 a0, .int .i64 a1] w fun e w' => ∃ v, e = .returned (.tuple #[v, .nilIface]) ∧ Kd.R (Kd.int .i64) 3 w' w.heap.size (fun _ => True) v r ∧ Below w.heap.size w w' := by
 unfold zge.f at h
 by_cases hx : 1 ≤ a0 ∧ a0 ≤ 16 ∧ 1 ≤ a1 ∧ a1 ≤ 4096
 case neg => rw [if_neg hx] at h; exact absurd h (by simp)
 rw [if_pos hx] at h
 obtain ⟨⟨c1, c2⟩, hc, h⟩ := Option.bind_eq_some_iff.mp h
 by_cases hy : a1 ≤ c1
 case neg => rw [if_neg hy] at h; exact absurd h (by simp)
 rw [if_pos hy] at h
 exact callsIn_wide.1 (zge.go 3 (by omega) k a0 a1 c1 c2 1048576 rfl r w hx.1 hx.2.1 hx.2.2.1 hx.2.2.2 hc hy (Option.some.inj h))
end
abbrev kLI : Kd (List Int) := Kd.slice 3 (Kd.int .i64)
def rows_add.T0 : Bool × List (List Nat × List Nat) := (true, [([], []), ([], []), ([], []), ([], []), ([2, 3], [2, 3]), ([4], [4]), ([], []), ([6], [6]), ([5, 7], [5, 7]), ([0, 1, 0, 1, 2, 3, 4, 5, 6, 7, 8], [0, 1]), ([9, 8, 8, 0, 1, 2, 3, 4, 5, 6, 7, 8], [8, 9])])
def rows_add.B0 : List Nat := [0, 0, 0, 0, 12, 28, 0, 64, 252, 511, 1023]
theorem rows_add.tab0 : rtab .any (opsOf Tryz.f103 0) = rows_add.T0 := by kernel_rfl
theorem rows_add.bits0 : waitsOk rows_add.T0.2 rows_add.B0 = true := by kernel_rfl
theorem rows_add.calls (base Bo : Nat) (ok : Nat → Prop) (v : Value) (xs : List (List Int)) (row place : Int) (w : World)
  (hb : w.heap[Bo]? = some (.cells #[v] 82 (0, 0))) (hbo : ¬ ok Bo) (hbase : base ≤ w.heap.size) (hfr : ∀ k, w.heap.size ≤ k → ok k) (hS : Kd.S kLI 31 w base ok v xs) (h0 : 0 ≤ row) (h1 : row < xs.length) (hl : (xs.getD row.toNat []).length ≤ 1000000) :
  Calls Tryz.prog 103 #[.int .i64 row, .int .i64 place, .pointer (some ⟨Bo, 0, none⟩)] w fun e w' => e = .returned (.tuple #[]) ∧ w'.heap[Bo]? = some (.cells #[v] 82 (0, 0)) ∧ Kd.S kLI 31 w' base ok v (xs.set row.toNat (xs.getD row.toNat [] ++ [place])) ∧ Below base w w' ∧ Kept w w' ok := by
 obtain ⟨g, ca, rfl, hgb, hgw, cellsG, hcg⟩ := Kd.S_form hS (by omega)
 obtain ⟨oki, c, hcl, ⟨vi, rfl, hi⟩, hcc, hoki, hH⟩ := Kd.S_lend hS [] row h0 h1
 generalize hli : xs.getD row.toNat [] = li at *
 clear hli
 obtain ⟨Ai, ci, rfl⟩ := Kd.zsc hi
 have hokj : ∀ k, (oki k ∨ ok k ∧ w.heap.size ≤ k) → ok k := fun k hk => hk.elim (fun h => (hoki k h).1) (fun h => h.1)
 have hgo : ok g := (Kd.S_R hS).1 g rfl
 have HOK := za.mk hokj
 have HFR := za.mk hfr
 have HGO : za (ok g ∧ base ≤ g ∧ ¬ ok Bo ∧ Bo ≠ g ∧ base ≤ w.heap.size) := ⟨hgo, hgb, hbo, fun h => hbo (by rw [h]; exact hgo), hbase⟩
 have HLL := za.mk hl
 have HB0 := za.mk hb
 have HH := za.mk (Kd.H_widen hH)
 have HI := za.mk (Kd.zuc (ok' := fun k => oki k ∨ ok k ∧ w.heap.size ≤ k) hi (fun k hk => .inl hk))
 have C5 : za (w.cell? ⟨g, row.toNat, none⟩ = some (.slice Ai li.length ci)) := ⟨by have := hcc 0 _ rfl; simpa [kLI, Kd.slice] using this⟩
 have HBB := za.mk (Below.refl base w)
 have HK := za.mk (Kept.refl w ok)
 clear hb hbo hfr hS hoki hH hi hcc hokj hgo hl hcg hcl
 have h0' := eq_true h0
 have h1' := eq_true h1
 go_enter Tryz.func103, Tryz.ntmps103
 go_wp2_with fail
 have n1_ := za.mk (zj HB0.out)
 have n2_ := za.mk (Kd.H_drew HH.out)
 have n3_ := za.mk (Kd.zya HI.out)
 have n4_ := za.mk (show w.drew.cell? ⟨g, row.toNat, none⟩ = some (.slice Ai li.length ci) from C5.out)
 have n5_ := za.mk (zf HBB.out)
 have n6_ := za.mk (Kept.drew HK.out)
 clear HB0 HH HI C5 HBB HK
 have HB0 := n1_
 have HH := n2_
 have HI := n3_
 have C5 := n4_
 have HBB := n5_
 have HK := n6_
 clear n1_ n2_ n3_ n4_ n5_ n6_
 refine zsf (n := 11) (S := fun w' => True) (ds := []) #[false, false, false, false, false, false, false, false, false, false, false] (by kernel_rfl) rfl rfl trivial (fun hHeld => ?_)
 refine zke rows_add.tab0 rows_add.bits0 (fun HT_ HW_ => ?_)
 generalize w.drew = w2 at HB0 HH HI C5 HBB HK hHeld ⊢
 refine pure_ (i := 1) (N := some 6) (v := ?_) (a' := ?_) #[false, true, false, false, false, false, false, false, false, false, false] rfl rfl (zvb HT_.out (by kernel_rfl)) (fun _ _ _ h => h) (Or.inl ⟨by rfl, ?_⟩) ?_ ?_
 rotate_left
 ·intro w'
  go_simp
  with_reducible rfl
 rotate_left
 ·simp only [Act.put, zw]
  rfl
 refine pure_ (i := 3) (N := some 8) (v := ?_) (a' := ?_) #[false, true, false, true, false, false, false, false, false, false, false] rfl rfl (zvb HT_.out (by kernel_rfl)) (fun _ _ _ h => h) (Or.inl ⟨by rfl, ?_⟩) ?_ ?_
 rotate_left
 ·intro w'
  go_simp
  with_reducible rfl
 rotate_left
 ·simp only [Act.put, zw]
  rfl
 refine pure_ (i := 6) (N := some 11) (v := ?_) (a' := ?_) #[false, true, false, true, false, false, true, false, false, false, false] rfl rfl (zvb HT_.out (by kernel_rfl)) (fun _ _ _ h => h) (Or.inl ⟨by rfl, ?_⟩) ?_ ?_
 rotate_left
 ·intro w'
  go_simp
  with_reducible rfl
 rotate_left
 ·simp only [Act.put, zw]
  rfl
 refine inv_at [0, 2, 4, 5, 7, 8, 9, 10] (fun a0_ b a w' => ∃ (W7 : World) (v8 : Value) (m7_ : Value), a = putSel a0_ b [(0, 5, .slice (some ⟨g, 0, none⟩) xs.length ca), (2, 7, .slice (some ⟨g, 0, none⟩) xs.length ca), (4, 9, .pointer (some ⟨g, row.toNat, none⟩)), (5, 10, .slice Ai li.length ci), (7, 12, m7_), (8, 13, v8), (9, 14, .pointer (some ⟨g, row.toNat, none⟩))] ∧ (w'.heap[Bo]? = some (.cells #[.slice (some ⟨g, 0, none⟩) xs.length ca] 82 (0, 0))) ∧ (b 7 = false → Kd.H kLI 31 w' base ok (.slice (some ⟨g, 0, none⟩) xs.length ca) xs row (fun k => oki k ∨ ok k ∧ w.heap.size ≤ k) [.slice Ai li.length ci]) ∧ (b 7 = false → Kd.R (Kd.int .i64) 3 w' base (fun k => oki k ∨ ok k ∧ w.heap.size ≤ k) (.slice Ai li.length ci) li) ∧ (b 8 = false → w'.cell? ⟨g, row.toNat, none⟩ = some (.slice Ai li.length ci)) ∧ (Below base w w') ∧ (Kept w w' ok) ∧ (b 7 = true → b 8 = false → w' = W7.alloc (.cells #[.int .i64 place] 3) ∧ W7.heap[Bo]? = some (.cells #[.slice (some ⟨g, 0, none⟩) xs.length ca] 82 (0, 0)) ∧ Kd.H kLI 31 W7 base ok (.slice (some ⟨g, 0, none⟩) xs.length ca) xs row (fun k => oki k ∨ ok k ∧ w.heap.size ≤ k) [.slice Ai li.length ci] ∧ Kd.R (Kd.int .i64) 3 W7 base (fun k => oki k ∨ ok k ∧ w.heap.size ≤ k) (.slice Ai li.length ci) li ∧ Below base w W7 ∧ Kept w W7 ok) ∧ (b 8 = true → b 10 = false → Kd.H kLI 31 w' base ok (.slice (some ⟨g, 0, none⟩) xs.length ca) xs row (fun k => oki k ∨ ok k ∧ w.heap.size ≤ k) [.slice Ai li.length ci]) ∧ (b 8 = true → b 10 = false → Kd.R (Kd.int .i64) 3 w' base (fun k => oki k ∨ ok k ∧ w.heap.size ≤ k) v8 (li ++ [place])) ∧ (b 10 = true → Kd.S kLI 31 w' base ok (.slice (some ⟨g, 0, none⟩) xs.length ca) (xs.set row.toNat (li ++ [place]))) ∧ (b 7 = true → (m7_ : Value) = .slice (some ⟨W7.heap.size, 0, none⟩) 1 1)) HT_.out HW_.out (by kernel_rfl) (by kernel_rfl) ?_ ?_ ?_
 ·exact ⟨w, .bool false, .bool false, by simp only [putSel, Bool.false_eq_true, if_false], HB0.out, fun _ => HH.out, fun _ => HI.out, fun _ => C5.out, HBB.out, HK.out, fun h_ => absurd h_ (by decide), fun h_ => absurd h_ (by decide), fun h_ => absurd h_ (by decide), fun h_ => absurd h_ (by decide), fun h_ => absurd h_ (by decide)⟩
 ·skip
  clear C5 HB0 HBB HH HI HK
  refine zfa ?_ ?_
  ·rintro b a w' ⟨W7, v8, m7_, ha, Q_HB0, Q_HH, Q_HI, Q_C5, Q_HBB, Q_HK, Q_R7, Q_HH8, Q_HI8, Q_HS, Q_X7_⟩ hb_ hon hoff
   refine ⟨_, rfl, fun K hK => ?_⟩
   have e2 : a.tmps[2]? = some (.pointer (some ⟨Bo, 0, none⟩)) := by rw [ha]; exact (zlc rfl).trans rfl
   replace ha := za.mk ha
   have HB0 := za.mk Q_HB0
   have HBB := za.mk Q_HBB
   have HK := za.mk Q_HK
   have z_ := (zl HB0.out 0).trans rfl
   refine zbd (w1 := w') (v := .slice (some ⟨g, 0, none⟩) xs.length ca) (by rfl) rfl ?_ ?_
   ·go_simp
    (try simp only [i64_w])
    try rfl
   refine hK.out _ _ ⟨W7, v8, m7_, (by rw [ha.out]; exact zla 0 hb_ rfl rfl rfl), Q_HB0, Q_HH, Q_HI, Q_C5, Q_HBB, Q_HK, Q_R7, Q_HH8, Q_HI8, fun h0_ => absurd ((hoff 10 (by kernel_rfl)).symm.trans h0_) (by decide), Q_X7_⟩
  refine zfa ?_ ?_
  ·rintro b a w' ⟨W7, v8, m7_, ha, Q_HB0, Q_HH, Q_HI, Q_C5, Q_HBB, Q_HK, Q_R7, Q_HH8, Q_HI8, Q_HS, Q_X7_⟩ hb_ hon hoff
   refine ⟨_, rfl, fun K hK => ?_⟩
   have e2 : a.tmps[2]? = some (.pointer (some ⟨Bo, 0, none⟩)) := by rw [ha]; exact (zlc rfl).trans rfl
   replace ha := za.mk ha
   have HB0 := za.mk Q_HB0
   have C5 := za.mk (Q_C5 (hoff 8 (by kernel_rfl)))
   have HBB := za.mk Q_HBB
   have HK := za.mk Q_HK
   have z_ := (zl HB0.out 0).trans rfl
   refine zbd (w1 := w') (v := .slice (some ⟨g, 0, none⟩) xs.length ca) (by rfl) rfl ?_ ?_
   ·go_simp
    (try simp only [i64_w])
    try rfl
   refine hK.out _ _ ⟨W7, v8, m7_, (by rw [ha.out]; exact zla 1 hb_ rfl rfl rfl), Q_HB0, Q_HH, Q_HI, Q_C5, Q_HBB, Q_HK, Q_R7, fun h0_ _ => absurd ((hoff 8 (by kernel_rfl)).symm.trans h0_) (by decide), fun h0_ _ => absurd ((hoff 8 (by kernel_rfl)).symm.trans h0_) (by decide), fun h0_ => absurd ((hoff 10 (by kernel_rfl)).symm.trans h0_) (by decide), Q_X7_⟩
  refine zfa ?_ ?_
  ·rintro b a w' ⟨W7, v8, m7_, ha, Q_HB0, Q_HH, Q_HI, Q_C5, Q_HBB, Q_HK, Q_R7, Q_HH8, Q_HI8, Q_HS, Q_X7_⟩ hb_ hon hoff
   refine ⟨_, rfl, fun K hK => ?_⟩
   have e7 : a.tmps[7]? = some (.slice (some ⟨g, 0, none⟩) xs.length ca) := by rw [ha]; exact zxa (e := (2, 7, .slice (some ⟨g, 0, none⟩) xs.length ca)) 1 rfl rfl (hon 2 (by kernel_rfl)) rfl
   have e8 : a.tmps[8]? = some (.int .i64 row) := by rw [ha]; exact (zlc rfl).trans rfl
   replace ha := za.mk ha
   have HB0 := za.mk Q_HB0
   have C5 := za.mk (Q_C5 (hoff 8 (by kernel_rfl)))
   have HBB := za.mk Q_HBB
   have HK := za.mk Q_HK
   refine zbd (w1 := w') (v := .pointer (some ⟨g, row.toNat, none⟩)) (by rfl) rfl ?_ ?_
   ·go_simp
    (try simp only [i64_w])
    try rfl
   refine hK.out _ _ ⟨W7, v8, m7_, (by rw [ha.out]; exact zla 2 hb_ rfl rfl rfl), Q_HB0, Q_HH, Q_HI, Q_C5, Q_HBB, Q_HK, Q_R7, fun h0_ _ => absurd ((hoff 8 (by kernel_rfl)).symm.trans h0_) (by decide), fun h0_ _ => absurd ((hoff 8 (by kernel_rfl)).symm.trans h0_) (by decide), fun h0_ => absurd ((hoff 10 (by kernel_rfl)).symm.trans h0_) (by decide), Q_X7_⟩
  refine zfa ?_ ?_
  ·rintro b a w' ⟨W7, v8, m7_, ha, Q_HB0, Q_HH, Q_HI, Q_C5, Q_HBB, Q_HK, Q_R7, Q_HH8, Q_HI8, Q_HS, Q_X7_⟩ hb_ hon hoff
   refine ⟨_, rfl, fun K hK => ?_⟩
   have e9 : a.tmps[9]? = some (.pointer (some ⟨g, row.toNat, none⟩)) := by rw [ha]; exact zxa (e := (4, 9, .pointer (some ⟨g, row.toNat, none⟩))) 2 rfl rfl (hon 4 (by kernel_rfl)) rfl
   replace ha := za.mk ha
   have HB0 := za.mk Q_HB0
   have C5 := za.mk (Q_C5 (hoff 8 (by kernel_rfl)))
   have HBB := za.mk Q_HBB
   have HK := za.mk Q_HK
   have z_ := C5.out
   refine zbd (w1 := w') (v := .slice Ai li.length ci) (by rfl) rfl ?_ ?_
   ·go_simp
    (try simp only [i64_w])
    try rfl
   refine hK.out _ _ ⟨W7, v8, m7_, (by rw [ha.out]; exact zla 3 hb_ rfl rfl rfl), Q_HB0, Q_HH, Q_HI, Q_C5, Q_HBB, Q_HK, Q_R7, fun h0_ _ => absurd ((hoff 8 (by kernel_rfl)).symm.trans h0_) (by decide), fun h0_ _ => absurd ((hoff 8 (by kernel_rfl)).symm.trans h0_) (by decide), fun h0_ => absurd ((hoff 10 (by kernel_rfl)).symm.trans h0_) (by decide), Q_X7_⟩
  refine zfa ?_ ?_
  ·rintro b a w' ⟨W7, v8, m7_, ha, Q_HB0, Q_HH, Q_HI, Q_C5, Q_HBB, Q_HK, Q_R7, Q_HH8, Q_HI8, Q_HS, Q_X7_⟩ hb_ hon hoff
   refine ⟨_, rfl, fun K hK => ?_⟩
   have e11 : a.tmps[11]? = some (.int .i64 place) := by rw [ha]; exact (zlc rfl).trans rfl
   replace ha := za.mk ha
   have HB0 := za.mk Q_HB0
   have HH := za.mk (Q_HH hb_)
   have HI := za.mk (Q_HI hb_)
   have C5 := za.mk (Q_C5 (hoff 8 (by kernel_rfl)))
   have HBB := za.mk Q_HBB
   have HK := za.mk Q_HK
   have hsz := HBB.out.size
   have hbs := HGO.out.2.2.2.2
   refine zbd (w1 := w'.alloc (.cells #[.int .i64 place] 3)) (v := .slice (some ⟨w'.heap.size, 0, none⟩) 1 1) (by rfl) rfl ?_ ?_
   ·go_simp
   refine hK.out _ _ ⟨w', v8, (.slice (some ⟨w'.heap.size, 0, none⟩) 1 1), (by rw [ha.out]; exact zla 4 hb_ rfl rfl rfl), zi HB0.out _, fun h0_ => absurd ((zie b 7).symm.trans h0_) (by decide), fun h0_ => absurd ((zie b 7).symm.trans h0_) (by decide), fun _ => (World.cell?_alloc_lt _ _ _ (World.block_lt_of_cell? _ _ C5.out)).trans C5.out, HBB.out.alloc (by omega) _, Kept.alloc HK.out _, fun _ _ => ⟨rfl, HB0.out, HH.out, HI.out, HBB.out, HK.out⟩, fun h0_ _ => absurd ((hoff 8 (by kernel_rfl)).symm.trans h0_) (by decide), fun h0_ _ => absurd ((hoff 8 (by kernel_rfl)).symm.trans h0_) (by decide), fun h0_ => absurd ((hoff 10 (by kernel_rfl)).symm.trans h0_) (by decide), fun _ => rfl⟩
  refine zfa ?_ ?_
  ·rintro b a w' ⟨W7, v8, m7_, ha, Q_HB0, Q_HH, Q_HI, Q_C5, Q_HBB, Q_HK, Q_R7, Q_HH8, Q_HI8, Q_HS, Q_X7_⟩ hb_ hon hoff
   refine ⟨_, rfl, fun K hK => ?_⟩
   have e10 : a.tmps[10]? = some (.slice Ai li.length ci) := by rw [ha]; exact zxa (e := (5, 10, .slice Ai li.length ci)) 3 rfl rfl (hon 5 (by kernel_rfl)) rfl
   have e12 : a.tmps[12]? = some (m7_) := by rw [ha]; exact zxa (e := (7, 12, m7_)) 4 rfl rfl (hon 7 (by kernel_rfl)) rfl
   rw [Q_X7_ (hon 7 (by kernel_rfl))] at e12
   replace ha := za.mk ha
   have HB0 := za.mk Q_HB0
   have C5 := za.mk (Q_C5 hb_)
   have HBB := za.mk Q_HBB
   have HK := za.mk Q_HK
   have R7 := za.mk (Q_R7 (hon 7 (by kernel_rfl)) hb_)
   obtain ⟨rW, rB, rH, rI, rBB, rK⟩ := R7.out
   subst rW
   have hsz := rBB.size
   have hbs := HGO.out.2.2.2.2
   refine Kd.R_append_step (Kd.int .i64) (w0 := w) base (by rfl) (.tmp 10) (.tmp 12) 31 3 (.int .i64 0) 8 rfl Tryz.underlying31 info3 rfl (by decide) (by decide) (.slice Ai li.length ci) li place [.int .i64 place] (fun k => oki k ∨ ok k ∧ w.heap.size ≤ k) (fun _ => False) (eval_of e10) (eval_of e12) rfl (fun _ h => h.elim) (fun k hk => .inr ⟨HFR.out k (by omega), by omega⟩) rI rBB (by omega) (by have := HLL.out; omega) ?_
   intro n8 w1' ho hb hg hat
   refine hK.out _ _ ⟨W7, n8, m7_, (by rw [ha.out]; exact zla 5 hb_ rfl rfl rfl), zwc rB hg (fun he => HGO.out.2.2.1 (HOK.out Bo (rI.1 Bo he.symm))), fun h0_ => absurd ((hon 7 (by kernel_rfl)).symm.trans h0_) (by decide), fun h0_ => absurd ((hon 7 (by kernel_rfl)).symm.trans h0_) (by decide), fun h0_ => absurd ((zie b 8).symm.trans h0_) (by decide), hb, Kept.of_grown hg rK (fun k hk => .inl (HOK.out k (rI.1 k hk))), fun _ h1_ => absurd ((zie b 8).symm.trans h1_) (by decide), fun _ _ => Kd.H_grown rH hg (fun k hk => rI.1 k hk), fun _ _ => ho, fun h0_ => absurd ((hoff 10 (by kernel_rfl)).symm.trans h0_) (by decide), Q_X7_⟩
  refine zfa ?_ ?_
  ·rintro b a w' ⟨W7, v8, m7_, ha, Q_HB0, Q_HH, Q_HI, Q_C5, Q_HBB, Q_HK, Q_R7, Q_HH8, Q_HI8, Q_HS, Q_X7_⟩ hb_ hon hoff
   refine ⟨_, rfl, fun K hK => ?_⟩
   have e5 : a.tmps[5]? = some (.slice (some ⟨g, 0, none⟩) xs.length ca) := by rw [ha]; exact zxa (e := (0, 5, .slice (some ⟨g, 0, none⟩) xs.length ca)) 0 rfl rfl (hon 0 (by kernel_rfl)) rfl
   have e6 : a.tmps[6]? = some (.int .i64 row) := by rw [ha]; exact (zlc rfl).trans rfl
   replace ha := za.mk ha
   have HB0 := za.mk Q_HB0
   have HBB := za.mk Q_HBB
   have HK := za.mk Q_HK
   have HH8 := za.mk (Q_HH8 (hon 8 (by kernel_rfl)) (hoff 10 (by kernel_rfl)))
   have HI8 := za.mk (Q_HI8 (hon 8 (by kernel_rfl)) (hoff 10 (by kernel_rfl)))
   refine zbd (w1 := w') (v := .pointer (some ⟨g, row.toNat, none⟩)) (by rfl) rfl ?_ ?_
   ·go_simp
    (try simp only [i64_w])
    try rfl
   refine hK.out _ _ ⟨W7, v8, m7_, (by rw [ha.out]; exact zla 6 hb_ rfl rfl rfl), Q_HB0, fun h0_ => absurd ((hon 7 (by kernel_rfl)).symm.trans h0_) (by decide), fun h0_ => absurd ((hon 7 (by kernel_rfl)).symm.trans h0_) (by decide), fun h0_ => absurd ((hon 8 (by kernel_rfl)).symm.trans h0_) (by decide), Q_HBB, Q_HK, fun _ h1_ => absurd ((hon 8 (by kernel_rfl)).symm.trans h1_) (by decide), Q_HH8, Q_HI8, fun h0_ => absurd ((hoff 10 (by kernel_rfl)).symm.trans h0_) (by decide), Q_X7_⟩
  refine zfa ?_ ?_
  ·rintro b a w' ⟨W7, v8, m7_, ha, Q_HB0, Q_HH, Q_HI, Q_C5, Q_HBB, Q_HK, Q_R7, Q_HH8, Q_HI8, Q_HS, Q_X7_⟩ hb_ hon hoff
   refine ⟨_, rfl, fun K hK => ?_⟩
   have e14 : a.tmps[14]? = some (.pointer (some ⟨g, row.toNat, none⟩)) := by rw [ha]; exact zxa (e := (9, 14, .pointer (some ⟨g, row.toNat, none⟩))) 6 rfl rfl (hon 9 (by kernel_rfl)) rfl
   have e13 : a.tmps[13]? = some (v8) := by rw [ha]; exact zxa (e := (8, 13, v8)) 5 rfl rfl (hon 8 (by kernel_rfl)) rfl
   replace ha := za.mk ha
   have HB0 := za.mk Q_HB0
   have HBB := za.mk Q_HBB
   have HK := za.mk Q_HK
   have HH8 := za.mk (Q_HH8 (hon 8 (by kernel_rfl)) hb_)
   have HI8 := za.mk (Q_HI8 (hon 8 (by kernel_rfl)) hb_)
   obtain ⟨A8, c8, eo_⟩ := Kd.zsc HI8.out
   subst eo_
   have hHf := (Kd.H_at HH8.out h0 h1).1 0 _ rfl
   have hFf := (Kd.H_at HH8.out h0 h1).2 0
   rw [show row.toNat * Kd.sz kLI + 0 = row.toNat from by show row.toNat * 1 + 0 = _; omega] at hHf hFf
   have hSS := (Kd.S_seg0 HH8.out h0 h1 (seg := [.slice A8 (li ++ [place]).length c8]) (j := 0) (x' := li ++ [place]) (Nat.le_refl 1) (by exact Kd.M_row HI8.out) (fun _ h => h)).1
   rw [show row.toNat * Kd.sz kLI + 0 = row.toNat from by show row.toNat * 1 + 0 = _; omega] at hSS
   refine skip_ (w1 := w'.setCell ⟨g, row.toNat, none⟩ (.slice A8 (li ++ [place]).length c8)) (by rfl) rfl ?_ ?_
   ·go_simp
   refine hK.out _ _ ⟨W7, (.slice A8 (li ++ [place]).length c8), m7_, (by rw [ha.out]; exact putSel_none (v := undef) rfl), zre HB0.out (p := ⟨g, row.toNat, none⟩) HGO.out.2.2.2.1 _, fun h0_ => absurd ((hon 7 (by kernel_rfl)).symm.trans h0_) (by decide), fun h0_ => absurd ((hon 7 (by kernel_rfl)).symm.trans h0_) (by decide), fun h0_ => absurd ((hon 8 (by kernel_rfl)).symm.trans h0_) (by decide), HBB.out.setCell (p := ⟨g, row.toNat, none⟩) HGO.out.2.1 _, Kept.setCell (p := ⟨g, row.toNat, none⟩) HK.out (.inl HGO.out.1) _, fun _ h1_ => absurd ((hon 8 (by kernel_rfl)).symm.trans h1_) (by decide), fun _ h1_ => absurd ((zie b 10).symm.trans h1_) (by decide), fun _ h1_ => absurd ((zie b 10).symm.trans h1_) (by decide), fun _ => hSS, Q_X7_⟩
  exact steps_nil
 rintro b a wl hall ⟨W7, v8, m7_, ha, Q_HB0, Q_HH, Q_HI, Q_C5, Q_HBB, Q_HK, Q_R7, Q_HH8, Q_HI8, Q_HS, Q_X7_⟩
 clear C5 HB0 HBB HH HI HK
 have hb0_ := hall 0 (by kernel_rfl)
 have hb2_ := hall 2 (by kernel_rfl)
 have hb4_ := hall 4 (by kernel_rfl)
 have hb5_ := hall 5 (by kernel_rfl)
 have hb7_ := hall 7 (by kernel_rfl)
 have hb8_ := hall 8 (by kernel_rfl)
 have hb9_ := hall 9 (by kernel_rfl)
 have hb10_ := hall 10 (by kernel_rfl)
 subst ha
 obtain rfl := Q_X7_ hb7_
 simp only [putSel, hb0_, hb2_, hb4_, hb5_, hb7_, hb8_, hb9_, hb10_, if_true, Act.put, List.setIfInBounds_toArray, List.set_cons_zero, List.set_cons_succ]
 have HB0 := za.mk Q_HB0
 clear Q_HB0
 clear Q_HH
 clear Q_HI
 clear Q_C5
 have HBB := za.mk Q_HBB
 clear Q_HBB
 have HK := za.mk Q_HK
 clear Q_HK
 clear Q_R7
 clear Q_HH8
 clear Q_HI8
 have HS := za.mk (Q_HS hb10_)
 clear Q_HS
 clear hall hb0_ hb2_ hb4_ hb5_ hb7_ hb8_ hb9_ hb10_
 go_wp2
 go_end0
 exact ⟨rfl, HB0.out, HS.out, HBB.out, HK.out⟩
def zue (out : List (List Int)) (row place : Int) : Option (List (List Int)) :=
 if 0 ≤ row ∧ row < out.length ∧ (out.getD row.toNat []).length ≤ 1000000 then some (out.set row.toNat (out.getD row.toNat [] ++ [place])) else none
def zca.l0 : Nat → Int → Int → List (List Int) → Int → Option (List (List Int))
 | 0, _, _, _, _ => none
 | k + 1, K, S, out, i => if i < K then ((zue out (i % S) i).bind fun o1 => (zue o1 ((i + (1 + i / S % (S - 1))) % S) i).bind fun o2 => (zue o2 ((i + 2 * (1 + i / S % (S - 1))) % S) i).bind fun o3 => zca.l0 k K S o3 (i + 1)) else some out
def zca.l2 : Nat → Int → Int → Int → Int → List (List Int) → Int → Option (List (List Int))
 | 0, _, _, _, _, _, _ => none
 | k + 1, S, H, j, g, out, h => if h < H then (if bits BinOp.and IntKind.i64 (g / 2 ^ h.toNat) 1 = 1 then ((zue out (S + h) j).bind fun o => zca.l2 k S H j g o (h + 1)) else zca.l2 k S H j g out (h + 1)) else some out
def zca.l1 : Nat → Int → Int → List Int → List (List Int) → Int → Option (List (List Int))
 | 0, _, _, _, _, _ => none
 | k + 1, S, H, gray, out, j => if j < (gray.length : Int) then ((zca.l2 k S H j (rd gray j) out 0).bind fun o => zca.l1 k S H gray o (j + 1)) else some out
def zca.l3 : Nat → Int → List (List Int) → Int → Option (List (List Int))
 | 0, _, _, _ => none
 | k + 1, K, out, i => if i < (out.length : Int) then ((zue out i (K + i)).bind fun o => (zec.f (o.getD i.toNat [])).bind fun s => zca.l3 k K (o.set i.toNat s) (i + 1)) else some out
def zca.f (k : Nat) (a0_0 a0_1 a0_2 a0_3 a0_4 : Int) : Option (List (List Int)) :=
 if 0 ≤ a0_0 ∧ a0_0 ≤ 1000 ∧ 2 ≤ a0_1 ∧ a0_1 ≤ 1000 ∧ 0 ≤ a0_2 ∧ a0_2 ≤ 60 then
  ((zca.l0 k a0_0 a0_1 (List.replicate (a0_1 + a0_2).toNat []) 0).bind fun o0 => (zge.f k ((a0_2 + 1) / 2) (a0_0 + a0_1)).bind fun gray => (zca.l1 k a0_1 a0_2 gray o0 0).bind fun o1 => zca.l3 k a0_0 o1 0) else none
structure RowsPR (w W : World) (Bo : Nat) (ok : Nat → Prop) (v : Value) (pc : Array Value) (gv : Value) (gl : List Int) (out : List (List Int)) : Prop where
 bp : W.heap[w.heap.size]? = some (.cells pc 23 (0, 0))
 bo : W.heap[Bo]? = some (.cells #[v] 82 (0, 0))
 hs : Kd.S kLI 31 W w.heap.size ok v out
 hb : Below w.heap.size w W
 fr : ∀ k, W.heap.size ≤ k → ok k
 nb : ¬ ok Bo
 np : ¬ ok w.heap.size
 hg : Kd.R (Kd.int .i64) 3 W w.heap.size (fun k => ¬ ok k) gv gl
section
variable {w W : World} {Bo : Nat} {ok : Nat → Prop} {v : Value} {pc : Array Value} {gv : Value} {gl : List Int} {out o : List (List Int)}
theorem RowsPR.drewN (h : RowsPR w W Bo ok v pc gv gl out) (m : Nat) : RowsPR w (W.drewN m) Bo ok v pc gv gl out := ⟨zh h.bp m, zh h.bo m, Kd.zed h.hs m, zb h.hb m, h.fr, h.nb, h.np, Kd.zja h.hg m⟩
theorem zue.length {row place : Int} (h : zue out row place = some o) : o.length = out.length := by
 unfold zue at h
 by_cases hx : 0 ≤ row ∧ row < out.length ∧ (out.getD row.toNat []).length ≤ 1000000
 ·rw [if_pos hx] at h
  obtain rfl := Option.some.inj h
  simp
 ·rw [if_neg hx] at h; exact absurd h (by simp)
theorem RowsPR.add (h : RowsPR w W Bo ok v pc gv gl out) {row place : Int} (hp : zue out row place = some o) :
  Calls Tryz.prog 103 #[.int .i64 row, .int .i64 place, .pointer (some ⟨Bo, 0, none⟩)] W fun e W' => e = .returned (.tuple #[]) ∧ RowsPR w W' Bo ok v pc gv gl o := by
 unfold zue at hp
 by_cases hx : 0 ≤ row ∧ row < out.length ∧ (out.getD row.toNat []).length ≤ 1000000
 case neg => rw [if_neg hx] at hp; exact absurd hp (by simp)
 rw [if_pos hx] at hp
 obtain rfl := Option.some.inj hp
 refine (rows_add.calls w.heap.size Bo ok v out row place W h.bo h.nb h.hb.size h.fr h.hs hx.1 hx.2.1 hx.2.2).mono ?_
 rintro e W' ⟨rfl, hb2, hs2, hbl, hk⟩
 exact ⟨rfl, blk_kept h.bp hk h.np, hb2, hs2, h.hb.trans hbl, fun k hk2 => h.fr k (Nat.le_trans hk.1 hk2), h.nb, h.np, Kd.R_step h.hg (fun k hk3 hl => hk.2 k hl hk3)⟩
theorem RowsPR.sort {A : Option Addr} {n c : Nat} (h : RowsPR w W Bo ok (.slice A n c) pc gv gl out) {row : Int} {s : List Int} (h0 : 0 ≤ row) (h1 : row < out.length) (hs : zec.f (out.getD row.toNat []) = some s) :
  ∃ g vi, A = some ⟨g, 0, none⟩ ∧ n = out.length ∧ W.cell? ⟨g, row.toNat, none⟩ = some vi ∧ (∃ A1 n1 c1, vi = .slice A1 n1 c1) ∧ Calls Tryz.prog 75 #[vi] W fun e W' => e = .returned (.tuple #[]) ∧ RowsPR w W' Bo ok (.slice A n c) pc gv gl (out.set row.toNat s) := by
 obtain ⟨g, ca, eo_, hgb, hgw, cellsG, hcg⟩ := Kd.S_form h.hs (by omega)
 injection eo_ with f1_ f2_ f3_
 subst f1_ f2_ f3_
 obtain ⟨oki, cc, hcl, ⟨vi, rfl, hi⟩, hcc, hoki, hH⟩ := Kd.S_lend h.hs [] row h0 h1
 refine ⟨g, vi, rfl, rfl, by have := hcc 0 _ rfl; simpa [kLI, Kd.slice] using this, ?_, ?_⟩
 ·obtain ⟨A1, c1, e⟩ := Kd.zsc hi
  exact ⟨A1, _, c1, e⟩
 ·refine (zec.calls oki vi _ s w W h.hb hi hs).mono ?_
  rintro e W' ⟨rfl, hr, hb2, hk⟩
  have hH2 := Kd.H_step (Kd.H_widen hH) (w1 := W') (fun k _ hn hl => hk.2 k hl (fun h => hn (.inl h)))
  have hkk : Kept W W' ok := hk.mono (fun k hk => (hoki k hk).1)
  exact ⟨rfl, blk_kept h.bp hkk h.np, blk_kept h.bo hkk h.nb, Kd.H_back hH2 (Kd.M_row hr) (fun k hk => hk.elim .inl (fun h2 => .inr ⟨h.fr k h2, h2⟩)), hb2, fun k hk2 => h.fr k (Nat.le_trans hkk.1 hk2), h.nb, h.np, Kd.R_step h.hg (fun k hk3 hl => hkk.2 k hl hk3)⟩
end
theorem zca.calls (k : Nat) (K S H_ P L : Int) (r : List (List Int)) (w : World) (hf : zca.f k K S H_ P L = some r) :
  Calls Tryz.prog 89 #[.agg #[.int .i64 K, .int .i64 S, .int .i64 H_, .int .i64 P, .int .i64 L]] w fun e w' => ∃ v, e = .returned v ∧ Kd.S (Kd.slice 3 (Kd.int .i64)) 31 w' w.heap.size (fun _ => True) v r ∧ Below w.heap.size w w' := by
 unfold zca.f at hf
 by_cases hx : 0 ≤ K ∧ K ≤ 1000 ∧ 2 ≤ S ∧ S ≤ 1000 ∧ 0 ≤ H_ ∧ H_ ≤ 60
 case neg => rw [if_neg hx] at hf; exact absurd hf (by simp)
 rw [if_pos hx] at hf
 obtain ⟨y1, y2, y3, y4, y5, y6⟩ := hx
 have HF0 := za.mk hf
 clear hf
 have HW1 : za (IntKind.i64.wrap (S + H_) = S + H_) := ⟨IntWalk.i64_in _ (by omega)⟩
 have hnn : 0 ≤ S + H_ := by omega
 have HNL : za ((S + H_).toNat * 24 ≤ 281474976710656) := ⟨by omega⟩
 have HB0 := za.mk (ze (Below.refl w.heap.size w) (.cells #[.int .i64 K, .int .i64 S, .int .i64 H_, .int .i64 P, .int .i64 L] 23))
 have BP0 := za.mk (zif w (.cells #[.int .i64 K, .int .i64 S, .int .i64 H_, .int .i64 P, .int .i64 L] 23 (0, 0)))
 go_enter Tryz.func89, Tryz.ntmps89
 go_wp2_with ((with_reducible refine zza (N := 19) rfl ?_); refine Kd.S_make kLI w.heap.size 31 rfl (N := 19) rfl 82 _ _ rfl (S + H_) ?x1 ?x2 Tryz.underlying82 (.slice none 0 0) 24 info31 rfl (by decide) (by decide) [] (ok := fun k => w.heap.size < k) (okp := fun k => w.heap.size < k) ?hz (fun _ h => h) ?hf hnn HNL.out HB0.out HB0.out.size ?_; (case x1 => first | rfl | (simp [HW1.out]; done)); (case x2 => first | rfl | (simp [HW1.out]; done)); (case hz => exact ⟨_, rfl, Kd.R_nil _ _ _ _ _⟩); (case hf => simp); intro v1 w1 ho hb hg _; obtain ⟨g0, cv, eo_, _⟩ := Kd.S_form ho (by rw [List.length_replicate]; omega); rw [List.length_replicate] at eo_; subst eo_; have BP := za.mk (zi (zwc BP0.out hg (by simp)) (.cells #[.slice (some ⟨g0, 0, none⟩) (S + H_).toNat cv] 82)); have BO := za.mk (zif w1 (.cells #[.slice (some ⟨g0, 0, none⟩) (S + H_).toNat cv] 82 (0, 0))); have HS := za.mk (Kd.zid (Kd.S_elderB ho w1.heap.size (Nat.le_refl _)) (.cells #[.slice (some ⟨g0, 0, none⟩) (S + H_).toNat cv] 82)); have HB := za.mk (hb.alloc hb.size (.cells #[.slice (some ⟨g0, 0, none⟩) (S + H_).toNat cv] 82)); have HBo : za (w.heap.size < w1.heap.size) := ⟨by have := hg.size; simp at this; omega⟩; have cp0 : (w1.alloc (.cells #[.slice (some ⟨g0, 0, none⟩) (S + H_).toNat cv] 82)).cell? ⟨w.heap.size, 0, none⟩ = some (.int .i64 K) := (zl BP.out 0).trans rfl; clear ho hb hg BP0 HB0)
 generalize hbo : w1.heap.size = Bo at *
 clear hbo
 have HPR : za (RowsPR w (w1.alloc (.cells #[.slice (some ⟨g0, 0, none⟩) (S + H_).toNat cv] 82)) Bo (fun k => w.heap.size < k ∧ k ≠ Bo) (.slice (some ⟨g0, 0, none⟩) (S + H_).toNat cv) #[.int .i64 K, .int .i64 S, .int .i64 H_, .int .i64 P, .int .i64 L] (.slice none 0 0) [] (List.replicate (S + H_).toNat [])) := ⟨BP.out, BO.out, HS.out, HB.out, fun k hk => by have := HBo.out; have := zpe BO.out; omega, fun h => h.2 rfl, fun h => by omega, Kd.R_nil _ _ _ _ _⟩
 clear BP BO HS HB
 go_loopg [23] k (fun kq v23 w' => ∃ (out : List (List Int)) (i : Int), v23 = .int .i64 i ∧ 0 ≤ i ∧ i ≤ K ∧ out.length = (S + H_).toNat ∧ za ((zca.l0 kq K S out i).bind (fun o0 => (zge.f k ((H_ + 1) / 2) (K + S)).bind fun gray => (zca.l1 k S H_ gray o0 0).bind fun o1 => zca.l3 k K o1 0) = some r) ∧ za (RowsPR w w' Bo (fun k => w.heap.size < k ∧ k ≠ Bo) (.slice (some ⟨g0, 0, none⟩) (S + H_).toNat cv) #[.int .i64 K, .int .i64 S, .int .i64 H_, .int .i64 P, .int .i64 L] (.slice none 0 0) [] out))
 case atStart => exact ⟨List.replicate (S + H_).toNat [], 0, rfl, by omega, by omega, by simp, HF0, HPR⟩
 case round =>
  obtain ⟨out, i, rfl, hi0, hi1, hol, HA, HPR⟩ := hrel
  cases kq_ : gk with
  | zero => subst kq_; exact absurd HA.out (by simp [zca.l0])
  | succ k1 =>
  subst kq_
  have H := HA.out
  clear HA
  simp only [zca.l0] at H
  have cp0 : wr.cell? ⟨w.heap.size, 0, none⟩ = some (.int .i64 K) := (zl HPR.out.bp 0).trans rfl
  have cp1 : wr.cell? ⟨w.heap.size, 1, none⟩ = some (.int .i64 S) := (zl HPR.out.bp 1).trans rfl
  have cp2 : wr.cell? ⟨w.heap.size, 2, none⟩ = some (.int .i64 H_) := (zl HPR.out.bp 2).trans rfl
  by_cases t1 : i < K
  ·rw [if_pos t1] at H
   obtain ⟨rr, hrr, H⟩ := Option.bind_eq_some_iff.mp H
   obtain ⟨o1, ho1, hrr⟩ := Option.bind_eq_some_iff.mp hrr
   obtain ⟨o2, ho2, hrr⟩ := Option.bind_eq_some_iff.mp hrr
   obtain ⟨o3, ho3, hrr⟩ := Option.bind_eq_some_iff.mp hrr
   have HFN := za.mk (show (zca.l0 k1 K S o3 (i + 1)).bind (fun o0 => (zge.f k ((H_ + 1) / 2) (K + S)).bind fun gray => (zca.l1 k S H_ gray o0 0).bind fun o1 => zca.l3 k K o1 0) = some r from by rw [hrr]; exact H)
   have O1 := za.mk ho1
   have O2 := za.mk ho2
   have O3 := za.mk ho3
   clear H hrr ho1 ho2 ho3
   have b1 : decide (i < K) = true := decide_eq_true t1
   have e1 : i.tdiv S = i / S := Int.tdiv_eq_ediv_of_nonneg hi0
   have hq0 : 0 ≤ i / S := Int.ediv_nonneg hi0 (by omega)
   have hq1 : i / S ≤ i := Int.ediv_le_self S hi0
   have e2 : (i / S).tmod (S - 1) = i / S % (S - 1) := Int.tmod_eq_emod_of_nonneg hq0
   have e3 : i.tmod S = i % S := Int.tmod_eq_emod_of_nonneg hi0
   have hm0 : 0 ≤ i / S % (S - 1) := Int.emod_nonneg _ (by omega)
   have hm1 : i / S % (S - 1) < S - 1 := Int.emod_lt_of_pos _ (by omega)
   have hn0 : 0 ≤ i % S := Int.emod_nonneg _ (by omega)
   have hn1 : i % S < S := Int.emod_lt_of_pos _ (by omega)
   have z1 : (S == 0) = false := beq_eq_false_iff_ne.mpr (by omega)
   have z2 : (S - 1 == 0) = false := beq_eq_false_iff_ne.mpr (by omega)
   have w1_ : IntKind.i64.wrap (S - 1) = S - 1 := IntWalk.i64_in _ (by omega)
   have w2_ : IntKind.i64.wrap (i / S) = i / S := IntWalk.i64_in _ (by omega)
   have w3_ : IntKind.i64.wrap (1 + i / S % (S - 1)) = 1 + i / S % (S - 1) := IntWalk.i64_in _ (by omega)
   go_wp2_with fail
   go_quiet (fail)
   go_wp2_with fail
   refine (RowsPR.add (HPR.out.drewN nq) O1.out).mono ?_
   rintro e w2 ⟨rfl, hpr⟩
   have HPR1 := za.mk hpr
   have x1_ : IntKind.i64.wrap (i % S + (1 + i / S % (S - 1))) = i % S + (1 + i / S % (S - 1)) := IntWalk.i64_in _ (by omega)
   have x2_ : (i % S + (1 + i / S % (S - 1))).tmod S = (i % S + (1 + i / S % (S - 1))) % S := Int.tmod_eq_emod_of_nonneg (by omega)
   have c1_ : w2.cell? ⟨w.heap.size, 1, none⟩ = some (.int .i64 S) := (zl hpr.bp 1).trans rfl
   clear HPR hpr cp0 cp1 cp2
   go_wp2_with fail
   refine (RowsPR.add HPR1.out O2.out).mono ?_
   rintro e w3 ⟨rfl, hpr⟩
   have HPR2 := za.mk hpr
   have x3_ : IntKind.i64.wrap (2 * (1 + i / S % (S - 1))) = 2 * (1 + i / S % (S - 1)) := IntWalk.i64_in _ (by omega)
   have x4_ : IntKind.i64.wrap (i % S + 2 * (1 + i / S % (S - 1))) = i % S + 2 * (1 + i / S % (S - 1)) := IntWalk.i64_in _ (by omega)
   have x5_ : (i % S + 2 * (1 + i / S % (S - 1))).tmod S = (i % S + 2 * (1 + i / S % (S - 1))) % S := Int.tmod_eq_emod_of_nonneg (by omega)
   have c2_ : w3.cell? ⟨w.heap.size, 1, none⟩ = some (.int .i64 S) := (zl hpr.bp 1).trans rfl
   clear HPR1 hpr c1_
   go_wp2_with fail
   refine (RowsPR.add HPR2.out O3.out).mono ?_
   rintro e w4 ⟨rfl, hpr⟩
   have HPR3 := za.mk hpr
   have x6_ : IntKind.i64.wrap (i + 1) = i + 1 := IntWalk.i64_in _ (by omega)
   clear HPR2 hpr c2_
   go_wp2
   go_roundg k1
   case measure => omega
   case rel => exact ⟨o3, i + 1, by first | rfl | rw [x6_], by omega, by omega, by rw [zue.length O3.out, zue.length O2.out, zue.length O1.out, hol], HFN, HPR3⟩
  ·rw [if_neg t1] at H
   have b1 : decide (i < K) = false := decide_eq_false t1
   obtain ⟨gray, hgray, H⟩ := Option.bind_eq_some_iff.mp (show (zge.f k ((H_ + 1) / 2) (K + S)).bind (fun gray => (zca.l1 k S H_ gray out 0).bind fun o1 => zca.l3 k K o1 0) = some r from H)
   have HGR := za.mk hgray
   have HF1 := za.mk H
   clear hgray H
   have x1_ : IntKind.i64.wrap (H_ + 1) = H_ + 1 := IntWalk.i64_in _ (by omega)
   have x2_ : (H_ + 1).tdiv 2 = (H_ + 1) / 2 := Int.tdiv_eq_ediv_of_nonneg (by omega)
   have x3_ : IntKind.i64.wrap ((H_ + 1) / 2) = (H_ + 1) / 2 := IntWalk.i64_in _ (by omega)
   have x4_ : IntKind.i64.wrap (K + S) = K + S := IntWalk.i64_in _ (by omega)
   go_wp2_with fail
   refine (zge.calls k ((H_ + 1) / 2) (K + S) gray _ HGR.out).mono ?_
   rintro e w5 ⟨gv, rfl, hgv, hb5⟩
   obtain ⟨Ag, cg, eo_⟩ := Kd.zsc hgv
   subst eo_
   have HPR2 : za (RowsPR w w5 Bo (fun k => (w.heap.size < k ∧ k ≠ Bo) ∧ some k ≠ (Value.slice Ag gray.length cg).ownBlock) (.slice (some ⟨g0, 0, none⟩) (S + H_).toNat cv) #[.int .i64 K, .int .i64 S, .int .i64 H_, .int .i64 P, .int .i64 L] (.slice Ag gray.length cg) gray out) := ⟨zy HPR.out.bp hb5, zy HPR.out.bo hb5, Kd.S_elder' HPR.out.hs (Kd.zjf hgv) hb5, zk HPR.out.hb hb5, fun k hk => ⟨HPR.out.fr k (Nat.le_trans hb5.size hk), fun he => by have := Kd.R_lt hgv k he.symm; omega⟩, fun h => HPR.out.nb h.1, fun h => HPR.out.np h.1, Kd.zcd (Kd.zuc (Kd.R_tight rfl hgv) (fun k hk h => h.2 hk)) HPR.out.hb.size⟩
   have HGL : za (gray.length ≤ 9223372036854775807) := ⟨Kd.C_max (Kd.zsb hgv).2.2⟩
   clear HPR hgv hb5 cp0 cp1 cp2 x1_ x2_ x3_ x4_
   go_wp2
   go_loopg [78] k (fun kq v78 w' => ∃ (out : List (List Int)) (j : Int), v78 = .int .i64 j ∧ 0 ≤ j ∧ j ≤ (gray.length : Int) ∧ out.length = (S + H_).toNat ∧ za ((zca.l1 kq S H_ gray out j).bind (fun o1 => zca.l3 k K o1 0) = some r) ∧ za (RowsPR w w' Bo (fun k => (w.heap.size < k ∧ k ≠ Bo) ∧ some k ≠ (Value.slice Ag gray.length cg).ownBlock) (.slice (some ⟨g0, 0, none⟩) (S + H_).toNat cv) #[.int .i64 K, .int .i64 S, .int .i64 H_, .int .i64 P, .int .i64 L] (.slice Ag gray.length cg) gray out))
   case atStart => exact ⟨out, 0, rfl, by omega, by omega, hol, HF1, HPR2⟩
   case round =>
    clear HPR2 HF1
    obtain ⟨out2, j, rfl, hj0, hj1, hol2, HA, HPR⟩ := hrel
    cases kq_ : gk with
    | zero => subst kq_; exact absurd HA.out (by simp [zca.l1])
    | succ k2 =>
    subst kq_
    have H := HA.out
    clear HA
    simp only [zca.l1] at H
    have HGL2 := HGL.out
    by_cases u1 : j < (gray.length : Int)
    ·rw [if_pos u1] at H
     have d1 : decide (j < (gray.length : Int)) = true := decide_eq_true u1
     have HF2 := za.mk (show (zca.l2 k2 S H_ j (rd gray j) out2 0).bind (fun o => (zca.l1 k2 S H_ gray o (j + 1)).bind (fun o1 => zca.l3 k K o1 0)) = some r from by rw [← Option.bind_assoc]; exact H)
     clear H
     obtain ⟨ad, ea, hx⟩ := Kd.zqe (Kd.zsb HPR.out.hg).2.2 j hj0 u1
     cases ea
     have hj0' := eq_true hj0
     have u1' := eq_true u1
     have cp2 : wr.cell? ⟨w.heap.size, 2, none⟩ = some (.int .i64 H_) := (zl HPR.out.bp 2).trans rfl
     go_wp2
     go_loopg [85] k2 (fun kq v85 w' => ∃ (out : List (List Int)) (h : Int), v85 = .int .i64 h ∧ 0 ≤ h ∧ h ≤ H_ ∧ out.length = (S + H_).toNat ∧ za ((zca.l2 kq S H_ j (rd gray j) out h).bind (fun o => (zca.l1 k2 S H_ gray o (j + 1)).bind (fun o1 => zca.l3 k K o1 0)) = some r) ∧ za (RowsPR w w' Bo (fun k => (w.heap.size < k ∧ k ≠ Bo) ∧ some k ≠ (Value.slice (some ad) gray.length cg).ownBlock) (.slice (some ⟨g0, 0, none⟩) (S + H_).toNat cv) #[.int .i64 K, .int .i64 S, .int .i64 H_, .int .i64 P, .int .i64 L] (.slice (some ad) gray.length cg) gray out))
     case atStart => exact ⟨out2, 0, rfl, by omega, by omega, hol2, HF2, HPR⟩
     case round =>
      clear HPR HF2 hx cp2
      obtain ⟨out3, h, rfl, hh0, hh1, hol3, HA, HPR⟩ := hrel
      cases kq_ : gk with
      | zero => subst kq_; exact absurd HA.out (by simp [zca.l2])
      | succ k3 =>
      subst kq_
      have H := HA.out
      clear HA
      simp only [zca.l2] at H
      by_cases v1 : h < H_
      ·rw [if_pos v1] at H
       have d2 : decide (h < H_) = true := decide_eq_true v1
       have x6_ : IntKind.i64.wrap (h + 1) = h + 1 := IntWalk.i64_in _ (by omega)
       by_cases v2 : bits BinOp.and IntKind.i64 (rd gray j / 2 ^ h.toNat) 1 = 1
       ·rw [if_pos v2] at H
        have q1 : (bits BinOp.and IntKind.i64 (rd gray j / 2 ^ h.toNat) 1 == 1) = true := beq_iff_eq.mpr v2
        obtain ⟨rr, hrr, H⟩ := Option.bind_eq_some_iff.mp H
        obtain ⟨o1, ho1, hrr⟩ := Option.bind_eq_some_iff.mp hrr
        have HFN := za.mk (show (zca.l2 k3 S H_ j (rd gray j) o1 (h + 1)).bind (fun o => (zca.l1 k2 S H_ gray o (j + 1)).bind (fun o1 => zca.l3 k K o1 0)) = some r from by rw [hrr]; exact H)
        have O1 := za.mk ho1
        clear H hrr ho1
        have cp1 : wr.cell? ⟨w.heap.size, 1, none⟩ = some (.int .i64 S) := (zl HPR.out.bp 1).trans rfl
        have x7_ : IntKind.i64.wrap (S + h) = S + h := IntWalk.i64_in _ (by omega)
        go_wp2_with fail
        refine (RowsPR.add HPR.out O1.out).mono ?_
        rintro e w6 ⟨rfl, hpr⟩
        have HPR1 := za.mk hpr
        clear HPR hpr cp1
        go_wp2
        go_roundg k3
        case measure => omega
        case rel => exact ⟨o1, h + 1, by first | rfl | rw [x6_], by omega, by omega, by rw [zue.length O1.out, hol3], HFN, HPR1⟩
       ·rw [if_neg v2] at H
        have q1 : (bits BinOp.and IntKind.i64 (rd gray j / 2 ^ h.toNat) 1 == 1) = false := beq_eq_false_iff_ne.mpr v2
        have HFN := za.mk H
        clear H
        go_wp2
        go_roundg k3
        case measure => omega
        case rel => exact ⟨out3, h + 1, by first | rfl | rw [x6_], by omega, by omega, hol3, HFN, HPR⟩
      ·rw [if_neg v1] at H
       have d2 : decide (h < H_) = false := decide_eq_false v1
       have HFN := za.mk (show (zca.l1 k2 S H_ gray out3 (j + 1)).bind (fun o1 => zca.l3 k K o1 0) = some r from H)
       have x6_ : IntKind.i64.wrap (j + 1) = j + 1 := IntWalk.i64_in _ (by omega)
       clear H
       go_wp2
       go_roundg k2
       case measure => omega
       case rel => exact ⟨out3, j + 1, by first | rfl | rw [x6_], by omega, by omega, hol3, HFN, HPR⟩
    ·rw [if_neg u1] at H
     have d1 : decide (j < (gray.length : Int)) = false := decide_eq_false u1
     have HF3 := za.mk (show zca.l3 k K out2 0 = some r from H)
     clear H
     have co : wr.cell? ⟨Bo, 0, none⟩ = some (.slice (some ⟨g0, 0, none⟩) (S + H_).toNat cv) := (zl HPR.out.bo 0).trans rfl
     go_wp2
     go_loopg [104] k (fun kq v104 w' => ∃ (out : List (List Int)) (i : Int), v104 = .int .i64 i ∧ 0 ≤ i ∧ i ≤ ((S + H_).toNat : Int) ∧ out.length = (S + H_).toNat ∧ za (zca.l3 kq K out i = some r) ∧ za (RowsPR w w' Bo (fun k => (w.heap.size < k ∧ k ≠ Bo) ∧ some k ≠ (Value.slice Ag gray.length cg).ownBlock) (.slice (some ⟨g0, 0, none⟩) (S + H_).toNat cv) #[.int .i64 K, .int .i64 S, .int .i64 H_, .int .i64 P, .int .i64 L] (.slice Ag gray.length cg) gray out))
     case atStart => exact ⟨out2, 0, rfl, by omega, by omega, hol2, HF3, HPR⟩
     case round =>
      clear HPR HF3 co
      obtain ⟨out3, i2, rfl, hh0, hh1, hol3, HA, HPR⟩ := hrel
      cases kq_ : gk with
      | zero => subst kq_; exact absurd HA.out (by simp [zca.l3])
      | succ k3 =>
      subst kq_
      have H := HA.out
      clear HA
      simp only [zca.l3] at H
      by_cases v1 : i2 < (out3.length : Int)
      ·rw [if_pos v1] at H
       rw [hol3] at v1
       have d2 : decide (i2 < ((S + H_).toNat : Int)) = true := decide_eq_true v1
       obtain ⟨o1, ho1, H⟩ := Option.bind_eq_some_iff.mp H
       obtain ⟨s1, hs1, H⟩ := Option.bind_eq_some_iff.mp H
       have HFN := za.mk H
       have O1 := za.mk ho1
       have S1 := za.mk hs1
       clear H ho1 hs1
       have cp0 : wr.cell? ⟨w.heap.size, 0, none⟩ = some (.int .i64 K) := (zl HPR.out.bp 0).trans rfl
       have x6_ : IntKind.i64.wrap (i2 + 1) = i2 + 1 := IntWalk.i64_in _ (by omega)
       have x7_ : IntKind.i64.wrap (K + i2) = K + i2 := IntWalk.i64_in _ (by omega)
       go_wp2_with fail
       refine (RowsPR.add HPR.out O1.out).mono ?_
       rintro e w6 ⟨rfl, hpr⟩
       have HOL4 : za (o1.length = (S + H_).toNat) := ⟨by rw [zue.length O1.out, hol3]⟩
       obtain ⟨gg, vi, hAv, -, hci, ⟨A1, n1, c1, hvi⟩, hsort⟩ := RowsPR.sort hpr hh0 (by rw [HOL4.out]; exact v1) S1.out
       cases hAv
       subst hvi
       have HSORT := za.mk hsort
       have co : w6.cell? ⟨Bo, 0, none⟩ = some (.slice (some ⟨g0, 0, none⟩) (S + H_).toNat cv) := (zl hpr.bo 0).trans rfl
       have hh0' := eq_true hh0
       have v1' := eq_true v1
       clear HPR hpr cp0 hsort
       go_wp2_with fail
       refine HSORT.out.mono ?_
       rintro e w7 ⟨rfl, hpr⟩
       have HPR2 := za.mk hpr
       clear hpr
       go_wp2
       go_roundg k3
       case measure => omega
       case rel => exact ⟨o1.set i2.toNat s1, i2 + 1, by first | rfl | rw [x6_], by omega, by omega, by rw [List.length_set, HOL4.out], HFN, HPR2⟩
      ·rw [if_neg v1] at H
       rw [hol3] at v1
       have d2 : decide (i2 < ((S + H_).toNat : Int)) = false := decide_eq_false v1
       obtain rfl := Option.some.inj H
       have co : wr.cell? ⟨Bo, 0, none⟩ = some (.slice (some ⟨g0, 0, none⟩) (S + H_).toNat cv) := (zl HPR.out.bo 0).trans rfl
       go_wp2
       go_ret
       exact ⟨_, rfl, Kd.S_mono HPR.out.hs (fun _ _ => trivial), HPR.out.hb⟩
section
attribute [local go_sem high] eqA23
def zlf.f (k : Nat) (a0_0 : Int) (a0_1 : Int) (a0_2 : Int) (a0_3 : Int) (a0_4 : Int) : Option (Bool) := (zgb.f k a0_0).bind fun bt292 => (if bt292.2.2.2.2.2.isNone = true then (some (a0_0 == bt292.1 && (a0_1 == bt292.2.1 && (a0_2 == bt292.2.2.1 && (a0_3 == bt292.2.2.2.1 && (a0_4 == bt292.2.2.2.2.1)))))) else (some false))
theorem zlf.calls (k : Nat) (a0_0 : Int) (a0_1 : Int) (a0_2 : Int) (a0_3 : Int) (a0_4 : Int) (r : Bool) (w : World) (h : zlf.f k a0_0 a0_1 a0_2 a0_3 a0_4 = some r) :
  Calls Tryz.prog 88 #[.agg #[.int .i64 a0_0, .int .i64 a0_1, .int .i64 a0_2, .int .i64 a0_3, .int .i64 a0_4]] w fun e w' => e = .returned (.bool r) ∧ Below w.heap.size w w' := by
 have hu23 := Tryz.underlying23
 have hu27 := Tryz.underlying27
 have HB := za.mk (Below.refl w.heap.size w)
 have H : ((zgb.f k a0_0).bind fun bt292 => (if bt292.2.2.2.2.2.isNone = true then (some (a0_0 == bt292.1 && (a0_1 == bt292.2.1 && (a0_2 == bt292.2.2.1 && (a0_3 == bt292.2.2.2.1 && (a0_4 == bt292.2.2.2.2.1)))))) else (some false))) = some r := h
 clear h
 replace H := Option.bind_eq_some_iff.mp H
 obtain ⟨⟨t292, t293, t294, t295, t296, t297⟩, A20, H⟩ := H
 replace H : (if t297.isNone = true then (some (a0_0 == t292 && (a0_1 == t293 && (a0_2 == t294 && (a0_3 == t295 && (a0_4 == t296)))))) else (some false)) = some r := H
 have A2 := za.mk A20
 clear A20
 rcases t297 with _ | q299
 ·have H1 : (some (a0_0 == t292 && (a0_1 == t293 && (a0_2 == t294 && (a0_3 == t295 && (a0_4 == t296)))))) = some r := by rw [if_pos (show (none : Option Int).isNone = true by rfl)] at H; exact H
  clear H
  have H := H1
  clear H1
  try simp only [zn, zo]
  obtain rfl := Option.some.inj H
  go_enter Tryz.func88, Tryz.ntmps88
  go_wp2_with (first | ((with_reducible refine zza (N := 1) rfl ?_); refine zgc ?hg (N := 1) ?hd (cs := #[.int .i64 a0_0, .int .i64 a0_1, .int .i64 a0_2, .int .i64 a0_3, .int .i64 a0_4]) (t := 23) ?hr ?_; (case hd => rfl); (case hg => rfl); (case hr => first | (go_simp; done) | (go_simp; rfl)); intro gb291 hg w3 hbox hb; have n0_ := za.mk (zk (by apply_rules only [HB.out, ze, zb, zf]) hb); have n1_ := za.mk (hbox); have n2_ := za.mk ((by rw [hg]; exact (zm (by apply_rules only [HB.out, ze, zb, zf])) : w.heap.size ≤ gb291)); have n3_ := za.mk ((by rw [hg]; exact (zm (by apply_rules only [HB.out, ze, zb, zf])) : w.heap.size ≤ gb291)); clear HB; have HB := n0_; have BK291 := n1_; have GW291 := n2_; have GE291 := n3_; clear n0_ n1_ n2_ n3_; clear hb hbox hg; obtain ⟨hcz4_0, hcz4_1, hcz4_2, hcz4_3, hcz4_4⟩ := cells5 BK291.out; obtain ⟨hfz4_0, hfz4_1, hfz4_2, hfz4_3, hfz4_4⟩ := zic BK291.out) | ((with_reducible refine zaa (f := 32) rfl ?_); refine zmc (some 8) rfl rfl Tryz.func32 (by kernel_rfl) rfl #[.int .i64 a0_0] rfl (by (try simp only [zpa]); first | done | rfl | simp) ?_; (with_reducible refine (zgb.calls k a0_0 t292 t293 t294 t295 t296 none _ A2.out).mono ?_); rintro e w5 ⟨rfl, hb⟩; refine ⟨_, rfl, ?_⟩; have n0_ := za.mk (zy (g := gb291) (o := .cells #[.int .i64 a0_0, .int .i64 a0_1, .int .i64 a0_2, .int .i64 a0_3, .int .i64 a0_4] 23 (0, 0)) (by apply_rules only [BK291.out, zh, zj, zi]) hb); have n1_ := za.mk (zk (by apply_rules only [HB.out, ze, zb, zf, fun h => zg h GE291.out]) hb); clear BK291; clear HB; have BK291 := n0_; have HB := n1_; clear n0_ n1_; (try clear hb); (try clear hb2); (try clear hk); (try clear hi); (try simp only [zn, zo])) | ((with_reducible refine zza (N := 3) rfl ?_); refine zgc ?hg (N := 3) ?hd (cs := #[.int .i64 0, .int .i64 0, .int .i64 0, .int .i64 0, .int .i64 0]) (t := 23) ?hr ?_; (case hd => rfl); (case hg => rfl); (case hr => first | (go_simp; done) | (go_simp; rfl)); intro gb298 hg w6 hbox hb; have n0_ := za.mk (zy (g := gb291) (o := .cells #[.int .i64 a0_0, .int .i64 a0_1, .int .i64 a0_2, .int .i64 a0_3, .int .i64 a0_4] 23 (0, 0)) (by apply_rules only [BK291.out, zh, zj, zi]) hb); have n1_ := za.mk (zk (by apply_rules only [HB.out, ze, zb, zf, fun h => zg h GE291.out]) hb); have n2_ := za.mk (hbox); have n3_ := za.mk ((by rw [hg]; exact (zm (by apply_rules only [HB.out, ze, zb, zf, fun h => zg h GE291.out])) : w.heap.size ≤ gb298)); have n4_ := za.mk ((by rw [hg]; exact (zm (by apply_rules only [HB.out, ze, zb, zf, fun h => zg h GE291.out])) : w.heap.size ≤ gb298)); have n5_ := za.mk ((by rw [hg]; exact Nat.ne_of_lt (zpe (g := gb291) (o := .cells #[.int .i64 a0_0, .int .i64 a0_1, .int .i64 a0_2, .int .i64 a0_3, .int .i64 a0_4] 23 (0, 0)) (by apply_rules only [BK291.out, zh, zj, zi])) : gb291 ≠ gb298)); have n6_ := za.mk ((by rw [hg]; exact Nat.ne_of_gt (zpe (g := gb291) (o := .cells #[.int .i64 a0_0, .int .i64 a0_1, .int .i64 a0_2, .int .i64 a0_3, .int .i64 a0_4] 23 (0, 0)) (by apply_rules only [BK291.out, zh, zj, zi])) : gb298 ≠ gb291)); clear BK291; clear HB; have BK291 := n0_; have HB := n1_; have BK298 := n2_; have GW298 := n3_; have GE298 := n4_; have NB291_298 := n5_; have NB298_291 := n6_; clear n0_ n1_ n2_ n3_ n4_ n5_ n6_; clear hb hbox hg; have hnb7 := NB298_291.out; have hnc7 := NB291_298.out; obtain ⟨hcz8_0, hcz8_1, hcz8_2, hcz8_3, hcz8_4⟩ := cells5 BK298.out; obtain ⟨hfz8_0, hfz8_1, hfz8_2, hfz8_3, hfz8_4⟩ := zic BK298.out; obtain ⟨hcz9_0, hcz9_1, hcz9_2, hcz9_3, hcz9_4⟩ := cells5 BK291.out; obtain ⟨hfz9_0, hfz9_1, hfz9_2, hfz9_3, hfz9_4⟩ := zic BK291.out))
  go_ret
  exact ⟨by first | rfl | (simp [zn, zo] <;> rfl) | (simp [*, zn, zo] <;> rfl), by apply_rules only [HB.out, ze, zb, zf, fun h => zg h GE291.out, fun h => zg h GE298.out]⟩
 ·have H1 : (some false) = some r := by rw [if_neg (show ¬ (some q299).isNone = true by simp)] at H; exact H
  clear H
  have H := H1
  clear H1
  try simp only [zn, zo]
  obtain rfl := Option.some.inj H
  go_enter Tryz.func88, Tryz.ntmps88
  go_wp2_with (first | ((with_reducible refine zza (N := 1) rfl ?_); refine zgc ?hg (N := 1) ?hd (cs := #[.int .i64 a0_0, .int .i64 a0_1, .int .i64 a0_2, .int .i64 a0_3, .int .i64 a0_4]) (t := 23) ?hr ?_; (case hd => rfl); (case hg => rfl); (case hr => first | (go_simp; done) | (go_simp; rfl)); intro gb291 hg w10 hbox hb; have n0_ := za.mk (zk (by apply_rules only [HB.out, ze, zb, zf]) hb); have n1_ := za.mk (hbox); have n2_ := za.mk ((by rw [hg]; exact (zm (by apply_rules only [HB.out, ze, zb, zf])) : w.heap.size ≤ gb291)); have n3_ := za.mk ((by rw [hg]; exact (zm (by apply_rules only [HB.out, ze, zb, zf])) : w.heap.size ≤ gb291)); clear HB; have HB := n0_; have BK291 := n1_; have GW291 := n2_; have GE291 := n3_; clear n0_ n1_ n2_ n3_; clear hb hbox hg; obtain ⟨hcz11_0, hcz11_1, hcz11_2, hcz11_3, hcz11_4⟩ := cells5 BK291.out; obtain ⟨hfz11_0, hfz11_1, hfz11_2, hfz11_3, hfz11_4⟩ := zic BK291.out) | ((with_reducible refine zaa (f := 32) rfl ?_); refine zmc (some 8) rfl rfl Tryz.func32 (by kernel_rfl) rfl #[.int .i64 a0_0] rfl (by (try simp only [zpa]); first | done | rfl | simp) ?_; (with_reducible refine (zgb.calls k a0_0 t292 t293 t294 t295 t296 (some q299) _ A2.out).mono ?_); rintro e w12 ⟨rfl, hb⟩; refine ⟨_, rfl, ?_⟩; have n0_ := za.mk (zy (g := gb291) (o := .cells #[.int .i64 a0_0, .int .i64 a0_1, .int .i64 a0_2, .int .i64 a0_3, .int .i64 a0_4] 23 (0, 0)) (by apply_rules only [BK291.out, zh, zj, zi]) hb); have n1_ := za.mk (zk (by apply_rules only [HB.out, ze, zb, zf, fun h => zg h GE291.out]) hb); clear BK291; clear HB; have BK291 := n0_; have HB := n1_; clear n0_ n1_; (try clear hb); (try clear hb2); (try clear hk); (try clear hi); (try simp only [zn, zo])) | ((with_reducible refine zza (N := 3) rfl ?_); refine zgc ?hg (N := 3) ?hd (cs := #[.int .i64 0, .int .i64 0, .int .i64 0, .int .i64 0, .int .i64 0]) (t := 23) ?hr ?_; (case hd => rfl); (case hg => rfl); (case hr => first | (go_simp; done) | (go_simp; rfl)); intro gb298 hg w13 hbox hb; have n0_ := za.mk (zy (g := gb291) (o := .cells #[.int .i64 a0_0, .int .i64 a0_1, .int .i64 a0_2, .int .i64 a0_3, .int .i64 a0_4] 23 (0, 0)) (by apply_rules only [BK291.out, zh, zj, zi]) hb); have n1_ := za.mk (zk (by apply_rules only [HB.out, ze, zb, zf, fun h => zg h GE291.out]) hb); have n2_ := za.mk (hbox); have n3_ := za.mk ((by rw [hg]; exact (zm (by apply_rules only [HB.out, ze, zb, zf, fun h => zg h GE291.out])) : w.heap.size ≤ gb298)); have n4_ := za.mk ((by rw [hg]; exact (zm (by apply_rules only [HB.out, ze, zb, zf, fun h => zg h GE291.out])) : w.heap.size ≤ gb298)); have n5_ := za.mk ((by rw [hg]; exact Nat.ne_of_lt (zpe (g := gb291) (o := .cells #[.int .i64 a0_0, .int .i64 a0_1, .int .i64 a0_2, .int .i64 a0_3, .int .i64 a0_4] 23 (0, 0)) (by apply_rules only [BK291.out, zh, zj, zi])) : gb291 ≠ gb298)); have n6_ := za.mk ((by rw [hg]; exact Nat.ne_of_gt (zpe (g := gb291) (o := .cells #[.int .i64 a0_0, .int .i64 a0_1, .int .i64 a0_2, .int .i64 a0_3, .int .i64 a0_4] 23 (0, 0)) (by apply_rules only [BK291.out, zh, zj, zi])) : gb298 ≠ gb291)); clear BK291; clear HB; have BK291 := n0_; have HB := n1_; have BK298 := n2_; have GW298 := n3_; have GE298 := n4_; have NB291_298 := n5_; have NB298_291 := n6_; clear n0_ n1_ n2_ n3_ n4_ n5_ n6_; clear hb hbox hg; have hnb14 := NB298_291.out; have hnc14 := NB291_298.out; obtain ⟨hcz15_0, hcz15_1, hcz15_2, hcz15_3, hcz15_4⟩ := cells5 BK298.out; obtain ⟨hfz15_0, hfz15_1, hfz15_2, hfz15_3, hfz15_4⟩ := zic BK298.out))
  go_ret
  exact ⟨by first | rfl | (simp [zn, zo] <;> rfl) | (simp [*, zn, zo] <;> rfl), by apply_rules only [HB.out, ze, zb, zf, fun h => zg h GE291.out, fun h => zg h GE298.out]⟩
end
def precode_All.f (k : Nat) (a0_0 : Int) (a0_1 : Int) (a0_2 : Int) (a0_3 : Int) (a0_4 : Int) : Option ((List (List Int)) × Option Int) := (zlf.f k a0_0 a0_1 a0_2 a0_3 a0_4).bind fun t301 => (if t301 = true then ((zca.f k a0_0 a0_1 a0_2 a0_3 a0_4).bind fun t302 => (some (t302, none))) else ((zcb.f (⟨#[112, 114, 101, 99, 111, 100, 101, 46, 65, 108, 108]⟩ : ByteArray) 1).bind fun t305 => (some (([] : List (List Int)), t305))))
theorem precode_All.calls (k : Nat) (a0_0 : Int) (a0_1 : Int) (a0_2 : Int) (a0_3 : Int) (a0_4 : Int) (r1 : List (List Int)) (r2 : Option Int) (w : World) (h : precode_All.f k a0_0 a0_1 a0_2 a0_3 a0_4 = some (r1, r2)) :
  Calls Tryz.prog 64 #[.agg #[.int .i64 a0_0, .int .i64 a0_1, .int .i64 a0_2, .int .i64 a0_3, .int .i64 a0_4]] w fun e w' => ∃ v0_ : Value, e = .returned (.tuple #[v0_, errW r2]) ∧ Kd.S (Kd.slice 3 (Kd.int .i64)) 31 w' w.heap.size (fun _ => True) v0_ r1 ∧ Below w.heap.size w w' := by
 have hu23 := Tryz.underlying23
 have HB := za.mk (Below.refl w.heap.size w)
 have H : ((zlf.f k a0_0 a0_1 a0_2 a0_3 a0_4).bind fun t301 => (if t301 = true then ((zca.f k a0_0 a0_1 a0_2 a0_3 a0_4).bind fun t302 => (some (t302, none))) else ((zcb.f (⟨#[112, 114, 101, 99, 111, 100, 101, 46, 65, 108, 108]⟩ : ByteArray) 1).bind fun t305 => (some (([] : List (List Int)), t305))))) = some (r1, r2) := h
 clear h
 replace H := Option.bind_eq_some_iff.mp H
 obtain ⟨t301, A20, H⟩ := H
 replace H : (if t301 = true then ((zca.f k a0_0 a0_1 a0_2 a0_3 a0_4).bind fun t302 => (some (t302, none))) else ((zcb.f (⟨#[112, 114, 101, 99, 111, 100, 101, 46, 65, 108, 108]⟩ : ByteArray) 1).bind fun t305 => (some (([] : List (List Int)), t305)))) = some (r1, r2) := H
 have A2 := za.mk A20
 clear A20
 by_cases c3 : t301 = true
 ·subst c3
  have H1 : ((zca.f k a0_0 a0_1 a0_2 a0_3 a0_4).bind fun t302 => (some (t302, none))) = some (r1, r2) := by rw [if_pos rfl] at H; exact H
  clear H
  have H := H1
  clear H1
  replace H := Option.bind_eq_some_iff.mp H
  obtain ⟨t302, A40, H⟩ := H
  replace H : (some (t302, none)) = some (r1, r2) := H
  have A4 := za.mk A40
  clear A40
  simp only [Option.some.injEq, Prod.mk.injEq] at H
  obtain ⟨rfl, rfl⟩ := H
  go_enter Tryz.func64, Tryz.ntmps64
  go_wp2_with (first | ((with_reducible refine zza (N := 1) rfl ?_); refine zgc ?hg (N := 1) ?hd (cs := #[.int .i64 a0_0, .int .i64 a0_1, .int .i64 a0_2, .int .i64 a0_3, .int .i64 a0_4]) (t := 23) ?hr ?_; (case hd => rfl); (case hg => rfl); (case hr => first | (go_simp; done) | (go_simp; rfl)); intro gb300 hg w5 hbox hb; have n0_ := za.mk (zk (by apply_rules only [HB.out, ze, zb, zf]) hb); have n1_ := za.mk (hbox); have n2_ := za.mk ((by rw [hg]; exact (zm (by apply_rules only [HB.out, ze, zb, zf])) : w.heap.size ≤ gb300)); have n3_ := za.mk ((by rw [hg]; exact (zm (by apply_rules only [HB.out, ze, zb, zf])) : w.heap.size ≤ gb300)); clear HB; have HB := n0_; have BK300 := n1_; have GW300 := n2_; have GE300 := n3_; clear n0_ n1_ n2_ n3_; clear hb hbox hg; obtain ⟨hcz6_0, hcz6_1, hcz6_2, hcz6_3, hcz6_4⟩ := cells5 BK300.out; obtain ⟨hfz6_0, hfz6_1, hfz6_2, hfz6_3, hfz6_4⟩ := zic BK300.out) | ((with_reducible refine zaa (f := 88) rfl ?_); refine zmc (some 5) rfl rfl Tryz.func88 (by kernel_rfl) rfl #[.agg #[.int .i64 a0_0, .int .i64 a0_1, .int .i64 a0_2, .int .i64 a0_3, .int .i64 a0_4]] rfl (by (try simp only [zpa]); first | done | rfl | simp) ?_; (with_reducible refine (zlf.calls k a0_0 a0_1 a0_2 a0_3 a0_4 true _ A2.out).mono ?_); rintro e w7 ⟨rfl, hb⟩; refine ⟨_, rfl, ?_⟩; have n0_ := za.mk (zy (g := gb300) (o := .cells #[.int .i64 a0_0, .int .i64 a0_1, .int .i64 a0_2, .int .i64 a0_3, .int .i64 a0_4] 23 (0, 0)) (by apply_rules only [BK300.out, zh, zj, zi]) hb); have n1_ := za.mk (zk (by apply_rules only [HB.out, ze, zb, zf, fun h => zg h GE300.out]) hb); clear BK300; clear HB; have BK300 := n0_; have HB := n1_; clear n0_ n1_; (try clear hb); (try clear hb2); (try clear hk); (try clear hi); obtain ⟨hcz8_0, hcz8_1, hcz8_2, hcz8_3, hcz8_4⟩ := cells5 BK300.out; obtain ⟨hfz8_0, hfz8_1, hfz8_2, hfz8_3, hfz8_4⟩ := zic BK300.out) | ((with_reducible refine zaa (f := 89) rfl ?_); refine zmc (some 9) rfl rfl Tryz.func89 (by kernel_rfl) rfl #[.agg #[.int .i64 a0_0, .int .i64 a0_1, .int .i64 a0_2, .int .i64 a0_3, .int .i64 a0_4]] rfl (by (try simp only [zpa]); first | done | rfl | simp) ?_; (with_reducible refine (zca.calls k a0_0 a0_1 a0_2 a0_3 a0_4 t302 _ A4.out).mono ?_); rintro e w9 ⟨v303, rfl, ho0, hb⟩; refine ⟨_, rfl, ?_⟩; have n0_ := za.mk (Kd.S_lower ho0 (zm (by apply_rules only [HB.out, ze, zb, zf, fun h => zg h GE300.out]))); have n1_ := za.mk (zy (g := gb300) (o := .cells #[.int .i64 a0_0, .int .i64 a0_1, .int .i64 a0_2, .int .i64 a0_3, .int .i64 a0_4] 23 (0, 0)) (by apply_rules only [BK300.out, zh, zj, zi]) hb); have n2_ := za.mk (zk (by apply_rules only [HB.out, ze, zb, zf, fun h => zg h GE300.out]) hb); clear BK300; clear HB; have HO304 := n0_; have BK300 := n1_; have HB := n2_; clear n0_ n1_ n2_; (try clear hb); (try clear hb2); (try clear hk); (try clear hi); (try clear ho0)))
  go_ret2
  exact ⟨_, by first | rfl | (simp [zn, zo] <;> rfl) | (simp [*, zn, zo] <;> rfl), by apply_rules only [HO304.out, Kd.zid, Kd.zed, Kd.zae], by apply_rules only [HB.out, ze, zb, zf, fun h => zg h GE300.out]⟩
 ·replace c3 := Bool.eq_false_iff.mpr c3
  subst c3
  have H1 : ((zcb.f (⟨#[112, 114, 101, 99, 111, 100, 101, 46, 65, 108, 108]⟩ : ByteArray) 1).bind fun t305 => (some (([] : List (List Int)), t305))) = some (r1, r2) := by rw [if_neg (show ¬ (false = true) by decide)] at H; exact H
  exact absurd H1 (by simp [zcb.f, zfb.f])
mutual
def zoa.j0 : Nat → Int → List Int → List (List Int) → Bool → Int → Int → Int → Int → Int → Option ((List (List Int)) × Option Int)
 | 0, _, _, _, _, _, _, _, _, _ => none
 | k + 1, x1, x2, x8, x35, x307000, x307001, x307002, x307003, x307004 => if x35 = true then ((zcb.f (⟨#[115, 121, 115, 116, 101, 109, 46, 82, 111, 119, 115]⟩ : ByteArray) 1).bind fun t312 => (some (([] : List (List Int)), t312))) else (zoa.l0 k x1 x2 x8 x2 (x2.length : Int) 0 x307000 x307001 x307002 x307003 x307004)
def zoa.l0 : Nat → Int → List Int → List (List Int) → List Int → Int → Int → Int → Int → Int → Int → Int → Option ((List (List Int)) × Option Int)
 | 0, _, _, _, _, _, _, _, _, _, _, _ => none
 | k + 1, x1, x2, x8, x37, x38, x39, x307000, x307001, x307002, x307003, x307004 => if x39 < x38 then (if 0 ≤ x39 then (if x39 < (x37.length : Int) then (if (rd x37 x39) < 0 then ((zcb.f (⟨#[115, 121, 115, 116, 101, 109, 46, 82, 111, 119, 115]⟩ : ByteArray) 1).bind fun t314 => (some (([] : List (List Int)), t314))) else (if (rd x37 x39) ≥ 65536 then ((zcb.f (⟨#[115, 121, 115, 116, 101, 109, 46, 82, 111, 119, 115]⟩ : ByteArray) 1).bind fun t315 => (some (([] : List (List Int)), t315))) else (zoa.l0 k x1 x2 x8 x37 x38 (wrap64 (x39 + 1)) x307000 x307001 x307002 x307003 x307004))) else (none)) else (none)) else (if (x2.length : Int) > 4096 then ((zcb.f (⟨#[115, 121, 115, 116, 101, 109, 46, 82, 111, 119, 115]⟩ : ByteArray) 3).bind fun t316 => (some (([] : List (List Int)), t316))) else (zoa.l1 k x1 x8 x2 (x2.length : Int) 0 x307000 x307001 x307002 x307003 x307004))
def zoa.l1 : Nat → Int → List (List Int) → List Int → Int → Int → Int → Int → Int → Int → Int → Option ((List (List Int)) × Option Int)
 | 0, _, _, _, _, _, _, _, _, _, _ => none
 | k + 1, x1, x8, x55, x56, x57, x307000, x307001, x307002, x307003, x307004 => if x57 < x56 then (if 0 ≤ x57 then (if x57 < (x55.length : Int) then ((ltrow_Row.f k x307000 x307001 x307002 x307003 x307004 x1 (rd x55 x57)).bind fun bt318 => (if bt318.2.isNone = true then (if x8.length < 5864062014805 then (zoa.l1 k x1 (x8 ++ [bt318.1]) x55 x56 (wrap64 (x57 + 1)) x307000 x307001 x307002 x307003 x307004) else (none)) else ((zfb.f (⟨#[115, 121, 115, 116, 101, 109, 46, 82, 111, 119, 115]⟩ : ByteArray) (some (bt318.2.getD 0))).bind fun t326 => (some (([] : List (List Int)), t326))))) else (none)) else (none)) else (zoa.l2 k ([] : List (List Int)) x8 (x8.length : Int) 0 x307000 x307001 x307002 x307003 x307004)
def zoa.l2 : Nat → List (List Int) → List (List Int) → Int → Int → Int → Int → Int → Int → Int → Option ((List (List Int)) × Option Int)
 | 0, _, _, _, _, _, _, _, _, _ => none
 | k + 1, x16, x77, x78, x79, x307000, x307001, x307002, x307003, x307004 => if x79 < x78 then (if 0 ≤ x79 then (if x79 < (x77.length : Int) then ((zyb.f k (rd_L2 x77 x79) x307003).bind fun bt328 => (if bt328.2.isNone = true then (if x16.length < 5864062014805 then (zoa.l2 k (x16 ++ [bt328.1]) x77 x78 (wrap64 (x79 + 1)) x307000 x307001 x307002 x307003 x307004) else (none)) else ((zfb.f (⟨#[115, 121, 115, 116, 101, 109, 46, 82, 111, 119, 115]⟩ : ByteArray) (some (bt328.2.getD 0))).bind fun t336 => (some (([] : List (List Int)), t336))))) else (none)) else (none)) else (some (x16, none))
end
def zoa.f (k : Nat) (a0_0 : Int) (a0_1 : Int) (a0_2 : Int) (a0_3 : Int) (a0_4 : Int) (a1 : Int) (l2 : List Int) : Option ((List (List Int)) × Option Int) := (precode_All.f k a0_0 a0_1 a0_2 a0_3 a0_4).bind fun bt307 => (if bt307.2.isNone = true then (if a1 < 0 then (zoa.j0 k a1 l2 bt307.1 true a0_0 a0_1 a0_2 a0_3 a0_4) else (zoa.j0 k a1 l2 bt307.1 (decide (a1 ≥ 65536)) a0_0 a0_1 a0_2 a0_3 a0_4)) else ((zfb.f (⟨#[115, 121, 115, 116, 101, 109, 46, 82, 111, 119, 115]⟩ : ByteArray) (some (bt307.2.getD 0))).bind fun t337 => (some (([] : List (List Int)), t337))))
theorem zoa.calls (k : Nat) (a0_0 : Int) (a0_1 : Int) (a0_2 : Int) (a0_3 : Int) (a0_4 : Int) (a1 : Int) (A2 : Option Addr) (c2 : Nat) (l2 : List Int) (r1 : List (List Int)) (r2 : Option Int) (w : World) (hr2 : Kd.C (Kd.int .i64) w A2 l2.length l2) (hc2 : l2.length ≤ c2) (h : zoa.f k a0_0 a0_1 a0_2 a0_3 a0_4 a1 l2 = some (r1, r2)) :
  Calls Tryz.prog 40 #[.agg #[.int .i64 a0_0, .int .i64 a0_1, .int .i64 a0_2, .int .i64 a0_3, .int .i64 a0_4], .int .i64 a1, .slice A2 l2.length c2] w fun e w' => ∃ v0_ : Value, e = .returned (.tuple #[v0_, errW r2]) ∧ Kd.S (Kd.slice 104 (Kd.int .u64)) 71 w' w.heap.size (fun _ => True) v0_ r1 ∧ Below w.heap.size w w' := by
 have hu23 := Tryz.underlying23
 have hu27 := Tryz.underlying27
 have HR2 := za.mk hr2
 have HC2 := za.mk hc2
 clear hr2 hc2
 have HB := za.mk (Below.refl w.heap.size w)
 have H : ((precode_All.f k a0_0 a0_1 a0_2 a0_3 a0_4).bind fun bt307 => (if bt307.2.isNone = true then (if a1 < 0 then (zoa.j0 k a1 l2 bt307.1 true a0_0 a0_1 a0_2 a0_3 a0_4) else (zoa.j0 k a1 l2 bt307.1 (decide (a1 ≥ 65536)) a0_0 a0_1 a0_2 a0_3 a0_4)) else ((zfb.f (⟨#[115, 121, 115, 116, 101, 109, 46, 82, 111, 119, 115]⟩ : ByteArray) (some (bt307.2.getD 0))).bind fun t337 => (some (([] : List (List Int)), t337))))) = some (r1, r2) := h
 clear h
 replace H := Option.bind_eq_some_iff.mp H
 obtain ⟨⟨t307, t310⟩, A40, H⟩ := H
 replace H : (if t310.isNone = true then (if a1 < 0 then (zoa.j0 k a1 l2 t307 true a0_0 a0_1 a0_2 a0_3 a0_4) else (zoa.j0 k a1 l2 t307 (decide (a1 ≥ 65536)) a0_0 a0_1 a0_2 a0_3 a0_4)) else ((zfb.f (⟨#[115, 121, 115, 116, 101, 109, 46, 82, 111, 119, 115]⟩ : ByteArray) (some (t310.getD 0))).bind fun t337 => (some (([] : List (List Int)), t337)))) = some (r1, r2) := H
 have A4 := za.mk A40
 clear A40
 rcases t310 with _ | q311
 ·have H1 : (if a1 < 0 then (zoa.j0 k a1 l2 t307 true a0_0 a0_1 a0_2 a0_3 a0_4) else (zoa.j0 k a1 l2 t307 (decide (a1 ≥ 65536)) a0_0 a0_1 a0_2 a0_3 a0_4)) = some (r1, r2) := by rw [if_pos (show (none : Option Int).isNone = true by rfl)] at H; exact H
  clear H
  have H := H1
  clear H1
  try simp only [zn, zo]
  have HC5 := za.mk H
  clear H
  go_enter Tryz.func40, Tryz.ntmps40
  go_upto_region 4 with (first | ((with_reducible refine zza (N := 3) rfl ?_); refine zgc ?hg (N := 3) ?hd (cs := #[.int .i64 a0_0, .int .i64 a0_1, .int .i64 a0_2, .int .i64 a0_3, .int .i64 a0_4]) (t := 23) ?hr ?_; (case hd => rfl); (case hg => rfl); (case hr => first | (go_simp; done) | (go_simp; rfl)); intro gb306 hg w6 hbox hb; have n0_ := za.mk (zk (by apply_rules only [HB.out, ze, zb, zf]) hb); have n1_ := za.mk (hbox); have n2_ := za.mk ((by rw [hg]; exact (zm (by apply_rules only [HB.out, ze, zb, zf])) : w.heap.size ≤ gb306)); have n3_ := za.mk ((by rw [hg]; exact (zm (by apply_rules only [HB.out, ze, zb, zf])) : w.heap.size ≤ gb306)); clear HB; have HB := n0_; have BK306 := n1_; have GW306 := n2_; have GE306 := n3_; clear n0_ n1_ n2_ n3_; clear hb hbox hg; obtain ⟨hcz7_0, hcz7_1, hcz7_2, hcz7_3, hcz7_4⟩ := cells5 BK306.out; obtain ⟨hfz7_0, hfz7_1, hfz7_2, hfz7_3, hfz7_4⟩ := zic BK306.out) | ((with_reducible refine zaa (f := 64) rfl ?_); refine zmc (some 23) rfl rfl Tryz.func64 (by kernel_rfl) rfl #[.agg #[.int .i64 a0_0, .int .i64 a0_1, .int .i64 a0_2, .int .i64 a0_3, .int .i64 a0_4]] rfl (by (try simp only [zpa]); first | done | rfl | simp) ?_; (with_reducible refine (precode_All.calls k a0_0 a0_1 a0_2 a0_3 a0_4 t307 none _ A4.out).mono ?_); rintro e w8 ⟨v308, rfl, ho0, hb⟩; refine ⟨_, rfl, ?_⟩; have n0_ := za.mk (Kd.S_lower ho0 (zm (by apply_rules only [HB.out, ze, zb, zf, fun h => zg h GE306.out]))); have n1_ := za.mk (zy (g := gb306) (o := .cells #[.int .i64 a0_0, .int .i64 a0_1, .int .i64 a0_2, .int .i64 a0_3, .int .i64 a0_4] 23 (0, 0)) (by apply_rules only [BK306.out, zh, zj, zi]) hb); have n2_ := za.mk (zk (by apply_rules only [HB.out, ze, zb, zf, fun h => zg h GE306.out]) hb); clear BK306; clear HB; have HO309 := n0_; have BK306 := n1_; have HB := n2_; clear n0_ n1_ n2_; (try clear hb); (try clear hb2); (try clear hk); (try clear hi); (try clear ho0); (try simp only [zn, zo])))
  (try simp only [Act.put, List.setIfInBounds_toArray, List.set_cons_zero, List.set_cons_succ])
  go_cut [35] (fun v35 wc => ∃ (kq : Nat) (x35_4 : Bool), v35 = .bool x35_4 ∧ za (zoa.j0 kq a1 l2 t307 x35_4 a0_0 a0_1 a0_2 a0_3 a0_4 = some (r1, r2)) ∧ za (kq ≤ k) ∧ za (Kd.S (Kd.slice 3 (Kd.int .i64)) 31 wc w.heap.size (fun _ => True) v308 t307) ∧ za (wc.heap[gb306]? = some (.cells #[.int .i64 a0_0, .int .i64 a0_1, .int .i64 a0_2, .int .i64 a0_3, .int .i64 a0_4] 23 (0, 0))) ∧ za (Below w.heap.size w wc))
  case first =>
   have H := HC5.out
   clear HC5
   by_cases c9 : a1 < 0
   ·rw [if_pos c9] at H
    exact absurd H (by first | (cases k <;> simp [zoa.j0, zcb.f]; done) | (cases k1 <;> simp [zoa.j0, zcb.f]; done) | (cases k2 <;> simp [zoa.j0, zcb.f]; done))
   ·rw [if_neg c9] at H
    have c9b0 : decide (a1 < 0) = false := decide_eq_false c9
    clear c9
    (first | rw [c9b0] | (simp only [i64_w, i32_w]; rw [c9b0]) | skip)
    have H' := za.mk H
    clear H
    go_wp2
    go_meet
    case rel => exact ⟨_, (decide (a1 ≥ 65536)), (by first | rfl | simp [*]), H', ⟨by first | omega | exact Nat.le_refl _⟩, ⟨by apply_rules only [HO309.out, Kd.zid, Kd.zed, Kd.zae]⟩, ⟨by apply_rules only [BK306.out, zh, zj, zi]⟩, ⟨by apply_rules only [HB.out, ze, zb, zf, fun h => zg h GE306.out]⟩⟩
  case rest =>
   clear HC5
   obtain ⟨kq, x35_4, rfl, HA, HJ4, HO_8, BK306, HB⟩ := hcut
   cases kq with
   | zero => exact absurd HA.out (by simp [zoa.j0])
   | succ kj4 =>
    have H := HA.out
    clear HA
    simp only [zoa.j0] at H
    by_cases c10 : x35_4 = true
    ·subst c10
     have H1 : ((zcb.f (⟨#[115, 121, 115, 116, 101, 109, 46, 82, 111, 119, 115]⟩ : ByteArray) 1).bind fun t312 => (some (([] : List (List Int)), t312))) = some (r1, r2) := by rw [if_pos rfl] at H; exact H
     exact absurd H1 (by simp [zcb.f, zfb.f])
    ·replace c10 := Bool.eq_false_iff.mpr c10
     subst c10
     have H1 : (zoa.l0 kj4 a1 l2 t307 l2 (l2.length : Int) 0 a0_0 a0_1 a0_2 a0_3 a0_4) = some (r1, r2) := by rw [if_neg (show ¬ (false = true) by decide)] at H; exact H
     clear H
     have H := H1
     clear H1
     have H' := za.mk H
     clear H
     go_wp2
     go_loopg [39] kj4 (fun kq v39 w' => ∃ (x39_2 : Int), v39 = .int .i64 x39_2 ∧ za (zoa.l0 kq a1 l2 t307 l2 (l2.length : Int) x39_2 a0_0 a0_1 a0_2 a0_3 a0_4 = some (r1, r2)) ∧ za (kq ≤ kj4) ∧ za (Kd.S (Kd.slice 3 (Kd.int .i64)) 31 w' w.heap.size (fun _ => True) v308 t307) ∧ za (w'.heap[gb306]? = some (.cells #[.int .i64 a0_0, .int .i64 a0_1, .int .i64 a0_2, .int .i64 a0_3, .int .i64 a0_4] 23 (0, 0))) ∧ za (Below w.heap.size w w'))
     case atStart => exact ⟨(0), (by first | rfl | simp [*]), H', ⟨Nat.le_refl _⟩, ⟨by apply_rules only [HO_8.out, Kd.zid, Kd.zed, Kd.zae]⟩, ⟨by apply_rules only [BK306.out, zh, zj, zi]⟩, ⟨by apply_rules only [HB.out, ze, zb, zf, fun h => zg h GE306.out]⟩⟩
     case round =>
      clear H'
      obtain ⟨x39_2, rfl, HA, HK2, HO_8, BK306, HB⟩ := hrel
      cases gk with
      | zero => exact absurd HA.out (by simp [zoa.l0])
      | succ k2 =>
       have H := HA.out
       clear HA
       simp only [zoa.l0] at H
       by_cases c12 : x39_2 < (l2.length : Int)
       ·rw [if_pos c12] at H
        have c12b0 : decide (x39_2 < (l2.length : Int)) = true := decide_eq_true c12
        clear c12
        by_cases c13 : 0 ≤ x39_2
        ·rw [if_pos c13] at H
         have c13b0 : decide (0 ≤ x39_2) = true := decide_eq_true c13
         clear c13
         by_cases c14 : x39_2 < (l2.length : Int)
         ·rw [if_pos c14] at H
          have c14b0 : decide (x39_2 < (l2.length : Int)) = true := decide_eq_true c14
          clear c14
          by_cases c15 : (rd l2 x39_2) < 0
          ·rw [if_pos c15] at H
           have c15b0 : decide ((rd l2 x39_2) < 0) = true := decide_eq_true c15
           clear c15
           replace H := Option.bind_eq_some_iff.mp H
           obtain ⟨t314, A160, H⟩ := H
           replace H : (some (([] : List (List Int)), t314)) = some (r1, r2) := H
           have A16 := za.mk A160
           clear A160
           simp only [Option.some.injEq, Prod.mk.injEq] at H
           obtain ⟨rfl, rfl⟩ := H
           have p313 : 0 ≤ (x39_2 : Int) := of_decide_eq_true (by first | (with_reducible assumption) | assumption)
           have q313 : x39_2 < (l2.length : Int) := of_decide_eq_true (by first | (with_reducible assumption) | assumption)
           obtain ⟨ad313, e313, hx313_0⟩ := Kd.zqe HR2.out x39_2 p313 q313
           cases e313
           replace hx313_0 := (HB.out.cell (World.block_lt_of_cell? w _ hx313_0)).trans hx313_0
           replace p313 := eq_true p313
           replace q313 := eq_true q313
           go_wp2_with (first | ((with_reducible refine zaa (f := 36) rfl ?_); refine zmc (some 49) rfl rfl Tryz.func36 (by kernel_rfl) rfl #[.string (⟨#[115, 121, 115, 116, 101, 109, 46, 82, 111, 119, 115]⟩ : ByteArray), .int .i64 1] rfl (by (try simp only [zpa]); first | done | rfl | simp) ?_; (with_reducible refine (zcb.calls (⟨#[115, 121, 115, 116, 101, 109, 46, 82, 111, 119, 115]⟩ : ByteArray) 1 t314 _ A16.out).mono ?_); rintro e w' ⟨rfl, ⟨nd, rfl⟩⟩; refine ⟨_, rfl, ?_⟩; (try simp only [zn, zo])))
           go_ret2
           exact ⟨_, by first | rfl | (simp [zn, zo] <;> rfl) | (simp [*, zn, zo] <;> rfl), by first | exact Kd.S_nil _ _ _ _ _ | exact Kd.N_nil _ _ _ _ _ | exact Kd.V_nil _ _ _ _ _ | exact Kd.Q_nil _ _ _ _ _ | exact Kd.R_nil _ _ _ _ _, by apply_rules only [HB.out, ze, zb, zf, fun h => zg h GE306.out]⟩
          ·rw [if_neg c15] at H
           have c15b0 : decide ((rd l2 x39_2) < 0) = false := decide_eq_false c15
           clear c15
           by_cases c17 : (rd l2 x39_2) ≥ 65536
           ·rw [if_pos c17] at H
            have c17b0 : decide (65536 ≤ (rd l2 x39_2)) = true := decide_eq_true c17
            clear c17
            replace H := Option.bind_eq_some_iff.mp H
            obtain ⟨t315, A180, H⟩ := H
            replace H : (some (([] : List (List Int)), t315)) = some (r1, r2) := H
            have A18 := za.mk A180
            clear A180
            simp only [Option.some.injEq, Prod.mk.injEq] at H
            obtain ⟨rfl, rfl⟩ := H
            have p313 : 0 ≤ (x39_2 : Int) := of_decide_eq_true (by first | (with_reducible assumption) | assumption)
            have q313 : x39_2 < (l2.length : Int) := of_decide_eq_true (by first | (with_reducible assumption) | assumption)
            obtain ⟨ad313, e313, hx313_0⟩ := Kd.zqe HR2.out x39_2 p313 q313
            cases e313
            replace hx313_0 := (HB.out.cell (World.block_lt_of_cell? w _ hx313_0)).trans hx313_0
            replace p313 := eq_true p313
            replace q313 := eq_true q313
            go_wp2_with (first | ((with_reducible refine zaa (f := 36) rfl ?_); refine zmc (some 49) rfl rfl Tryz.func36 (by kernel_rfl) rfl #[.string (⟨#[115, 121, 115, 116, 101, 109, 46, 82, 111, 119, 115]⟩ : ByteArray), .int .i64 1] rfl (by (try simp only [zpa]); first | done | rfl | simp) ?_; (with_reducible refine (zcb.calls (⟨#[115, 121, 115, 116, 101, 109, 46, 82, 111, 119, 115]⟩ : ByteArray) 1 t315 _ A18.out).mono ?_); rintro e w' ⟨rfl, ⟨nd, rfl⟩⟩; refine ⟨_, rfl, ?_⟩; (try simp only [zn, zo])))
            go_ret2
            exact ⟨_, by first | rfl | (simp [zn, zo] <;> rfl) | (simp [*, zn, zo] <;> rfl), by first | exact Kd.S_nil _ _ _ _ _ | exact Kd.N_nil _ _ _ _ _ | exact Kd.V_nil _ _ _ _ _ | exact Kd.Q_nil _ _ _ _ _ | exact Kd.R_nil _ _ _ _ _, by apply_rules only [HB.out, ze, zb, zf, fun h => zg h GE306.out]⟩
           ·rw [if_neg c17] at H
            have c17b0 : decide (65536 ≤ (rd l2 x39_2)) = false := decide_eq_false c17
            clear c17
            have H' := za.mk H
            clear H
            have p313 : 0 ≤ (x39_2 : Int) := of_decide_eq_true (by first | (with_reducible assumption) | assumption)
            have q313 : x39_2 < (l2.length : Int) := of_decide_eq_true (by first | (with_reducible assumption) | assumption)
            obtain ⟨ad313, e313, hx313_0⟩ := Kd.zqe HR2.out x39_2 p313 q313
            cases e313
            replace hx313_0 := (HB.out.cell (World.block_lt_of_cell? w _ hx313_0)).trans hx313_0
            replace p313 := eq_true p313
            replace q313 := eq_true q313
            go_wp2
            go_roundg k2
            case measure => have := HJ4.out; have := HK2.out; omega
            case rel => exact ⟨(wrap64 (x39_2 + 1)), (by first | rfl | simp [*]), H', ⟨by have := HJ4.out; have := HK2.out; omega⟩, ⟨by apply_rules only [HO_8.out, Kd.zid, Kd.zed, Kd.zae]⟩, ⟨by apply_rules only [BK306.out, zh, zj, zi]⟩, ⟨by apply_rules only [HB.out, ze, zb, zf, fun h => zg h GE306.out]⟩⟩
         ·rw [if_neg c14] at H
          exact absurd H (by simp)
        ·rw [if_neg c13] at H
         exact absurd H (by simp)
       ·rw [if_neg c12] at H
        have c12b0 : decide (x39_2 < (l2.length : Int)) = false := decide_eq_false c12
        clear c12
        by_cases c19 : (l2.length : Int) > 4096
        ·rw [if_pos c19] at H
         have c19b0 : decide (4096 < (l2.length : Int)) = true := decide_eq_true c19
         have c19b1 : decide (4096 < l2.length) = true := decide_eq_true (by omega)
         clear c19
         replace H := Option.bind_eq_some_iff.mp H
         obtain ⟨t316, A200, H⟩ := H
         replace H : (some (([] : List (List Int)), t316)) = some (r1, r2) := H
         have A20 := za.mk A200
         clear A200
         simp only [Option.some.injEq, Prod.mk.injEq] at H
         obtain ⟨rfl, rfl⟩ := H
         go_wp2_with (first | ((with_reducible refine zaa (f := 36) rfl ?_); refine zmc (some 54) rfl rfl Tryz.func36 (by kernel_rfl) rfl #[.string (⟨#[115, 121, 115, 116, 101, 109, 46, 82, 111, 119, 115]⟩ : ByteArray), .int .i64 3] rfl (by (try simp only [zpa]); first | done | rfl | simp) ?_; (with_reducible refine (zcb.calls (⟨#[115, 121, 115, 116, 101, 109, 46, 82, 111, 119, 115]⟩ : ByteArray) 3 t316 _ A20.out).mono ?_); rintro e w' ⟨rfl, ⟨nd, rfl⟩⟩; refine ⟨_, rfl, ?_⟩; (try simp only [zn, zo])))
         go_ret2
         exact ⟨_, by first | rfl | (simp [zn, zo] <;> rfl) | (simp [*, zn, zo] <;> rfl), by first | exact Kd.S_nil _ _ _ _ _ | exact Kd.N_nil _ _ _ _ _ | exact Kd.V_nil _ _ _ _ _ | exact Kd.Q_nil _ _ _ _ _ | exact Kd.R_nil _ _ _ _ _, by apply_rules only [HB.out, ze, zb, zf, fun h => zg h GE306.out]⟩
        ·rw [if_neg c19] at H
         have c19b0 : decide (4096 < (l2.length : Int)) = false := decide_eq_false c19
         have c19b1 : decide (4096 < l2.length) = false := decide_eq_false (by omega)
         clear c19
         have H' := za.mk H
         clear H
         go_wp2
         go_loopg [8, 57] k2 (fun kq v8 v57 w' => ∃ (x8_3 : List (List Int)) (x57_3 : Int), v57 = .int .i64 x57_3 ∧ za (zoa.l1 kq a1 x8_3 l2 (l2.length : Int) x57_3 a0_0 a0_1 a0_2 a0_3 a0_4 = some (r1, r2)) ∧ za (kq ≤ k2) ∧ za (Kd.S (Kd.slice 3 (Kd.int .i64)) 31 w' w.heap.size (fun _ => True) v8 x8_3) ∧ za (w'.heap[gb306]? = some (.cells #[.int .i64 a0_0, .int .i64 a0_1, .int .i64 a0_2, .int .i64 a0_3, .int .i64 a0_4] 23 (0, 0))) ∧ za (Below w.heap.size w w'))
         case atStart => exact ⟨(t307), (0), (by first | rfl | simp [*]), H', ⟨Nat.le_refl _⟩, ⟨by apply_rules only [HO_8.out, Kd.zid, Kd.zed, Kd.zae]⟩, ⟨by apply_rules only [BK306.out, zh, zj, zi]⟩, ⟨by apply_rules only [HB.out, ze, zb, zf, fun h => zg h GE306.out]⟩⟩
         case round =>
          clear H'
          obtain ⟨x8_3, x57_3, rfl, HA, HK3, HO_8, BK306, HB⟩ := hrel
          cases gk with
          | zero => exact absurd HA.out (by simp [zoa.l1])
          | succ k3 =>
           have H := HA.out
           clear HA
           simp only [zoa.l1] at H
           by_cases c21 : x57_3 < (l2.length : Int)
           ·rw [if_pos c21] at H
            have c21b0 : decide (x57_3 < (l2.length : Int)) = true := decide_eq_true c21
            clear c21
            by_cases c22 : 0 ≤ x57_3
            ·rw [if_pos c22] at H
             have c22b0 : decide (0 ≤ x57_3) = true := decide_eq_true c22
             clear c22
             by_cases c23 : x57_3 < (l2.length : Int)
             ·rw [if_pos c23] at H
              have c23b0 : decide (x57_3 < (l2.length : Int)) = true := decide_eq_true c23
              clear c23
              replace H := Option.bind_eq_some_iff.mp H
              obtain ⟨⟨t318, t321⟩, A240, H⟩ := H
              replace H : (if t321.isNone = true then (if x8_3.length < 5864062014805 then (zoa.l1 k3 a1 (x8_3 ++ [t318]) l2 (l2.length : Int) (wrap64 (x57_3 + 1)) a0_0 a0_1 a0_2 a0_3 a0_4) else (none)) else ((zfb.f (⟨#[115, 121, 115, 116, 101, 109, 46, 82, 111, 119, 115]⟩ : ByteArray) (some (t321.getD 0))).bind fun t326 => (some (([] : List (List Int)), t326)))) = some (r1, r2) := H
              have A24 := za.mk A240
              clear A240
              rcases t321 with _ | q322
              ·have H1 : (if x8_3.length < 5864062014805 then (zoa.l1 k3 a1 (x8_3 ++ [t318]) l2 (l2.length : Int) (wrap64 (x57_3 + 1)) a0_0 a0_1 a0_2 a0_3 a0_4) else (none)) = some (r1, r2) := by rw [if_pos (show (none : Option Int).isNone = true by rfl)] at H; exact H
               clear H
               have H := H1
               clear H1
               try simp only [zn, zo]
               by_cases c25 : x8_3.length < 5864062014805
               ·rw [if_pos c25] at H
                have LMc25 := za.mk c25
                clear c25
                obtain ⟨y323, hy323⟩ : ∃ y_ : List (List Int), y_ = (x8_3 ++ [t318]) := ⟨_, rfl⟩
                replace H : (zoa.l1 k3 a1 y323 l2 (l2.length : Int) (wrap64 (x57_3 + 1)) a0_0 a0_1 a0_2 a0_3 a0_4) = some (r1, r2) := by first | (rw [hy323]; with_reducible exact H) | (have H2_ := (Option.bind_some _ _).symm.trans H; rw [hy323]; with_reducible exact H2_) | (have H2_ := (Option.bind_some _ _).symm.trans H; with_reducible exact H2_) | with_reducible exact H | (rw [hy323]; exact H) | exact H
                have Ny323 := za.mk hy323
                clear hy323
                have H' := za.mk H
                clear H
                have p317 : 0 ≤ (x57_3 : Int) := of_decide_eq_true (by first | (with_reducible assumption) | assumption)
                have q317 : x57_3 < (l2.length : Int) := of_decide_eq_true (by first | (with_reducible assumption) | assumption)
                obtain ⟨ad317, e317, hx317_0⟩ := Kd.zqe HR2.out x57_3 p317 q317
                cases e317
                replace hx317_0 := (HB.out.cell (World.block_lt_of_cell? w _ hx317_0)).trans hx317_0
                replace p317 := eq_true p317
                replace q317 := eq_true q317
                obtain ⟨hcz26_0, hcz26_1, hcz26_2, hcz26_3, hcz26_4⟩ := cells5 BK306.out
                obtain ⟨hfz26_0, hfz26_1, hfz26_2, hfz26_3, hfz26_4⟩ := zic BK306.out
                go_wp2_with (first | ((with_reducible refine zaa (f := 53) rfl ?_); refine zmc (some 65) rfl rfl Tryz.func53 (by kernel_rfl) rfl #[.agg #[.int .i64 a0_0, .int .i64 a0_1, .int .i64 a0_2, .int .i64 a0_3, .int .i64 a0_4], .int .i64 a1, .int .i64 (rd l2 x57_3)] rfl (by (try simp only [zpa]); first | done | rfl | simp) ?_; (with_reducible refine (ltrow_Row.calls k3 a0_0 a0_1 a0_2 a0_3 a0_4 a1 (rd l2 x57_3) t318 none _ A24.out).mono ?_); rintro e w27 ⟨v319, rfl, ho0, hb⟩; refine ⟨_, rfl, ?_⟩; have n0_ := za.mk (Kd.S_elder' (by apply_rules only [HO_8.out, Kd.zid, Kd.zed, Kd.zae]) (Kd.zjf ho0) hb); have n1_ := za.mk (Kd.zcd ho0 (zm (by apply_rules only [HB.out, ze, zb, zf, fun h => zg h GE306.out]))); have n2_ := za.mk (zy (g := gb306) (o := .cells #[.int .i64 a0_0, .int .i64 a0_1, .int .i64 a0_2, .int .i64 a0_3, .int .i64 a0_4] 23 (0, 0)) (by apply_rules only [BK306.out, zh, zj, zi]) hb); have n3_ := za.mk (zk (by apply_rules only [HB.out, ze, zb, zf, fun h => zg h GE306.out]) hb); clear HO_8; clear BK306; clear HB; have HO_8 := n0_; have HO320 := n1_; have BK306 := n2_; have HB := n3_; clear n0_ n1_ n2_ n3_; (try clear hb); (try clear hb2); (try clear hk); (try clear hi); (try clear ho0); (try simp only [zn, zo]); obtain ⟨Ao29, co29, eo29⟩ := Kd.zsc HO320.out; subst eo29) | ((with_reducible refine zdd (b := .append) (xs := #[.tmp 72, .tmp 74]) rfl ?_); at_builtin; refine Kd.S_append (Kd.slice 3 (Kd.int .i64)) (w0 := w) w.heap.size rfl (.tmp 72) (.tmp 74) 82 31 (.slice none 0 0) 24 rfl Tryz.underlying82 info31 rfl (by decide) (by omega) u8 x8_3 t318 [.slice Ao29 t318.length co29] (fun _ => True) (fun k_ => some k_ = (.slice Ao29 t318.length co29 : Value).ownBlock) rfl rfl ?aP (fun k_ hk_ => ((Kd.zuc (ok' := fun k_ => ((fun _ => True)) k_ ∧ some k_ ≠ (u8 : Value).ownBlock) (Kd.zfe (HO320.out) (Kd.S_typed HO_8.out) (by decide)) (fun k_ hk => ⟨trivial, hk.2⟩))).1 k_ hk_.symm) ?aF ?aO ?aB ?aS ?aL ?_; (case aP => exact Kd.M_row (Kd.zuc (Kd.R_tight rfl (Kd.zuc (ok' := fun k_ => ((fun _ => True)) k_ ∧ some k_ ≠ (u8 : Value).ownBlock) (Kd.zfe (HO320.out) (Kd.S_typed HO_8.out) (by decide)) (fun k_ hk => ⟨trivial, hk.2⟩))) (fun _ h_ => h_))); (case aB => exact (by apply_rules only [HB.out, ze, zb, zf, fun h => zg h GE306.out])); (case aF => exact (fun _ _ => trivial)); (case aO => exact (by (with_reducible repeat (first | apply Kd.zid | apply Kd.zed | apply Kd.zae)); exact Kd.S_mono HO_8.out (fun k_ hk => ⟨trivial, fun e_ => hk.2 e_⟩))); (case aS => exact (zm (by apply_rules only [HB.out, ze, zb, zf, fun h => zg h GE306.out]))); (case aL => have := LMc25.out; omega); intro v324 w28 ho hb hg hat; rw [← Ny323.out] at ho; have n0_ := za.mk (zwc (g := gb306) (o := .cells #[.int .i64 a0_0, .int .i64 a0_1, .int .i64 a0_2, .int .i64 a0_3, .int .i64 a0_4] 23 (0, 0)) (by apply_rules only [BK306.out, zh, zj, zi]) hg (Kd.S_ne HO_8.out BK306.out (by decide))); have n1_ := za.mk (hb); have n2_ := za.mk (ho); clear BK306; clear HB; clear HO_8; clear HO320; have BK306 := n0_; have HB := n1_; have HO325 := n2_; clear n0_ n1_ n2_; clear ho hb hg hat))
                go_roundg k3
                case measure => have := HJ4.out; have := HK2.out; have := HK3.out; omega
                case rel => exact ⟨(y323), (wrap64 (x57_3 + 1)), (by first | rfl | simp [*]), H', ⟨by have := HJ4.out; have := HK2.out; have := HK3.out; omega⟩, ⟨by apply_rules only [HO325.out, Kd.zid, Kd.zed, Kd.zae]⟩, ⟨by apply_rules only [BK306.out, zh, zj, zi]⟩, ⟨by apply_rules only [HB.out, ze, zb, zf, fun h => zg h GE306.out]⟩⟩
               ·rw [if_neg c25] at H
                exact absurd H (by simp)
              ·have H1 : ((zfb.f (⟨#[115, 121, 115, 116, 101, 109, 46, 82, 111, 119, 115]⟩ : ByteArray) (some q322)).bind fun t326 => (some (([] : List (List Int)), t326))) = some (r1, r2) := by rw [if_neg (show ¬ (some q322).isNone = true by simp)] at H; exact H
               exact absurd H1 (by simp [zcb.f, zfb.f])
             ·rw [if_neg c23] at H
              exact absurd H (by simp)
            ·rw [if_neg c22] at H
             exact absurd H (by simp)
           ·rw [if_neg c21] at H
            have c21b0 : decide (x57_3 < (l2.length : Int)) = false := decide_eq_false c21
            clear c21
            have H' := za.mk H
            clear H
            obtain ⟨Ao33, co33, eo33⟩ := Kd.S_slice HO_8.out
            subst eo33
            go_wp2
            go_loopg [16, 79] k3 (fun kq v16 v79 w' => ∃ (x16_4 : List (List Int)) (x79_4 : Int), v79 = .int .i64 x79_4 ∧ za (zoa.l2 kq x16_4 x8_3 (x8_3.length : Int) x79_4 a0_0 a0_1 a0_2 a0_3 a0_4 = some (r1, r2)) ∧ za (kq ≤ k3) ∧ za (Kd.S (Kd.slice 104 (Kd.int .u64)) 71 w' w.heap.size (fun _ => True) v16 x16_4) ∧ za (Kd.S (Kd.slice 3 (Kd.int .i64)) 31 w' w.heap.size (fun _ => True) (.slice Ao33 x8_3.length co33) x8_3) ∧ za (w'.heap[gb306]? = some (.cells #[.int .i64 a0_0, .int .i64 a0_1, .int .i64 a0_2, .int .i64 a0_3, .int .i64 a0_4] 23 (0, 0))) ∧ za (Below w.heap.size w w'))
            case atStart => exact ⟨(([] : List (List Int))), (0), (by first | rfl | simp [*]), H', ⟨Nat.le_refl _⟩, ⟨by first | exact Kd.S_nil _ _ _ _ _ | exact Kd.N_nil _ _ _ _ _ | exact Kd.V_nil _ _ _ _ _ | exact Kd.Q_nil _ _ _ _ _ | exact Kd.R_nil _ _ _ _ _⟩, ⟨by apply_rules only [HO_8.out, Kd.zid, Kd.zed, Kd.zae]⟩, ⟨by apply_rules only [BK306.out, zh, zj, zi]⟩, ⟨by apply_rules only [HB.out, ze, zb, zf, fun h => zg h GE306.out]⟩⟩
            case round =>
             clear H'
             obtain ⟨x16_4, x79_4, rfl, HA, HK4, HO_16, HO_77, BK306, HB⟩ := hrel
             cases gk with
             | zero => exact absurd HA.out (by simp [zoa.l2])
             | succ k4 =>
              have H := HA.out
              clear HA
              simp only [zoa.l2] at H
              by_cases c34 : x79_4 < (x8_3.length : Int)
              ·rw [if_pos c34] at H
               have c34b0 : decide (x79_4 < (x8_3.length : Int)) = true := decide_eq_true c34
               clear c34
               by_cases c35 : 0 ≤ x79_4
               ·rw [if_pos c35] at H
                have c35b0 : decide (0 ≤ x79_4) = true := decide_eq_true c35
                clear c35
                by_cases c36 : x79_4 < (x8_3.length : Int)
                ·rw [if_pos c36] at H
                 have c36b0 : decide (x79_4 < (x8_3.length : Int)) = true := decide_eq_true c36
                 clear c36
                 replace H := Option.bind_eq_some_iff.mp H
                 obtain ⟨⟨t328, t329⟩, A370, H⟩ := H
                 replace H : (if t329.isNone = true then (if x16_4.length < 5864062014805 then (zoa.l2 k4 (x16_4 ++ [t328]) x8_3 (x8_3.length : Int) (wrap64 (x79_4 + 1)) a0_0 a0_1 a0_2 a0_3 a0_4) else (none)) else ((zfb.f (⟨#[115, 121, 115, 116, 101, 109, 46, 82, 111, 119, 115]⟩ : ByteArray) (some (t329.getD 0))).bind fun t336 => (some (([] : List (List Int)), t336)))) = some (r1, r2) := H
                 have A37 := za.mk A370
                 clear A370
                 rcases t329 with _ | q332
                 ·have H1 : (if x16_4.length < 5864062014805 then (zoa.l2 k4 (x16_4 ++ [t328]) x8_3 (x8_3.length : Int) (wrap64 (x79_4 + 1)) a0_0 a0_1 a0_2 a0_3 a0_4) else (none)) = some (r1, r2) := by rw [if_pos (show (none : Option Int).isNone = true by rfl)] at H; exact H
                  clear H
                  have H := H1
                  clear H1
                  try simp only [zn, zo]
                  by_cases c38 : x16_4.length < 5864062014805
                  ·rw [if_pos c38] at H
                   have LMc38 := za.mk c38
                   clear c38
                   obtain ⟨y333, hy333⟩ : ∃ y_ : List (List Int), y_ = (x16_4 ++ [t328]) := ⟨_, rfl⟩
                   replace H : (zoa.l2 k4 y333 x8_3 (x8_3.length : Int) (wrap64 (x79_4 + 1)) a0_0 a0_1 a0_2 a0_3 a0_4) = some (r1, r2) := by first | (rw [hy333]; with_reducible exact H) | (have H2_ := (Option.bind_some _ _).symm.trans H; rw [hy333]; with_reducible exact H2_) | (have H2_ := (Option.bind_some _ _).symm.trans H; with_reducible exact H2_) | with_reducible exact H | (rw [hy333]; exact H) | exact H
                   have Ny333 := za.mk hy333
                   clear hy333
                   have H' := za.mk H
                   clear H
                   have p327 : 0 ≤ (x79_4 : Int) := of_decide_eq_true (by first | (with_reducible assumption) | assumption)
                   have q327 : x79_4 < (x8_3.length : Int) := of_decide_eq_true (by first | (with_reducible assumption) | assumption)
                   obtain ⟨ad327, A327_0, c327_0, e327, hx327_0, hl327_0, hi327_0⟩ := at_L2 (Kd.S_reads' HO_77.out).2.2 x79_4 p327 q327
                   cases e327
                   obtain ⟨ce327, hce327, hMe327, hcc327⟩ := Kd.S_get HO_77.out [] x79_4 p327 (by first | exact q327 | exact of_decide_eq_true (by first | (with_reducible assumption) | assumption) | (have e_ := (Kd.S_reads' HO_77.out).1; omega))
                   obtain ⟨ve327_0, rfl, ge327_0⟩ := hMe327
                   have hv327_0 := hcc327 0 _ rfl
                   rw [Nat.add_zero, show ((Kd.slice 3 (Kd.int .i64))).sz = 1 from rfl, Nat.mul_one] at hv327_0
                   replace hv327_0 := Option.some.inj (hv327_0.symm.trans hx327_0)
                   rw [hv327_0] at ge327_0
                   have HL327_0 := za.mk (show Kd.R (Kd.int .i64) 3 _ _ _ _ (rd_L2 x8_3 x79_4) from ge327_0)
                   clear hv327_0 ge327_0
                   clear hcc327 hce327
                   have HR327_0 := za.mk hi327_0
                   have HC327_0 := za.mk hl327_0
                   clear hi327_0 hl327_0
                   replace p327 := eq_true p327
                   replace q327 := eq_true q327
                   obtain ⟨hcz39_0, hcz39_1, hcz39_2, hcz39_3, hcz39_4⟩ := cells5 BK306.out
                   obtain ⟨hfz39_0, hfz39_1, hfz39_2, hfz39_3, hfz39_4⟩ := zic BK306.out
                   go_wp2_with (first | ((with_reducible refine zaa (f := 54) rfl ?_); refine zmc (some 87) rfl rfl Tryz.func54 (by kernel_rfl) rfl #[.slice A327_0 (rd_L2 x8_3 x79_4).length c327_0, .int .i64 a0_3] rfl (by (try simp only [zpa]); first | done | rfl | simp) ?_; (with_reducible refine (zyb.calls k4 _ _ (rd_L2 x8_3 x79_4) a0_3 t328 none _ ?side1 ?side2 A37.out).mono ?_); (case side1 => apply_rules only [HR327_0.out, Kd.zod, Kd.zmd, Kd.zme]); (case side2 => exact HC327_0.out); rintro e w40 ⟨v330, rfl, ho0, hb⟩; refine ⟨_, rfl, ?_⟩; have n0_ := za.mk (Kd.S_elder' (by apply_rules only [HO_16.out, Kd.zid, Kd.zed, Kd.zae]) (Kd.zjf ho0) hb); have n1_ := za.mk (Kd.S_below (by apply_rules only [HO_77.out, Kd.zid, Kd.zed, Kd.zae]) hb); have n2_ := za.mk (Kd.zvd (by apply_rules only [HL327_0.out, Kd.zka, Kd.zja, Kd.zya]) hb); have n3_ := za.mk (Kd.zcd ho0 (zm (by apply_rules only [HB.out, ze, zb, zf, fun h => zg h GE306.out]))); have n4_ := za.mk (zy (g := gb306) (o := .cells #[.int .i64 a0_0, .int .i64 a0_1, .int .i64 a0_2, .int .i64 a0_3, .int .i64 a0_4] 23 (0, 0)) (by apply_rules only [BK306.out, zh, zj, zi]) hb); have n5_ := za.mk (Kd.znd (by apply_rules only [HR327_0.out, Kd.zod, Kd.zmd, Kd.zme]) hb); have n6_ := za.mk (zk (by apply_rules only [HB.out, ze, zb, zf, fun h => zg h GE306.out]) hb); clear HO_16; clear HO_77; clear HL327_0; clear BK306; clear HR327_0; clear HB; have HO_16 := n0_; have HO_77 := n1_; have HL327_0 := n2_; have HO331 := n3_; have BK306 := n4_; have HR327_0 := n5_; have HB := n6_; clear n0_ n1_ n2_ n3_ n4_ n5_ n6_; (try clear hb); (try clear hb2); (try clear hk); (try clear hi); (try clear ho0); (try simp only [zn, zo]); obtain ⟨Ao42, co42, eo42⟩ := Kd.zsc HO331.out; subst eo42) | ((with_reducible refine zdd (b := .append) (xs := #[.tmp 94, .tmp 96]) rfl ?_); at_builtin; refine Kd.S_append (Kd.slice 104 (Kd.int .u64)) (w0 := w) w.heap.size rfl (.tmp 94) (.tmp 96) 69 71 (.slice none 0 0) 24 rfl Tryz.underlying69 info71 rfl (by decide) (by omega) u16 x16_4 t328 [.slice Ao42 t328.length co42] (fun _ => True) (fun k_ => some k_ = (.slice Ao42 t328.length co42 : Value).ownBlock) rfl rfl ?aP (fun k_ hk_ => ((Kd.zuc (ok' := fun k_ => ((fun _ => True)) k_ ∧ some k_ ≠ (u16 : Value).ownBlock) (Kd.zfe (HO331.out) (Kd.S_typed HO_16.out) (by decide)) (fun k_ hk => ⟨trivial, hk.2⟩))).1 k_ hk_.symm) ?aF ?aO ?aB ?aS ?aL ?_; (case aP => exact Kd.M_row (Kd.zuc (Kd.R_tight rfl (Kd.zuc (ok' := fun k_ => ((fun _ => True)) k_ ∧ some k_ ≠ (u16 : Value).ownBlock) (Kd.zfe (HO331.out) (Kd.S_typed HO_16.out) (by decide)) (fun k_ hk => ⟨trivial, hk.2⟩))) (fun _ h_ => h_))); (case aB => exact (by apply_rules only [HB.out, ze, zb, zf, fun h => zg h GE306.out])); (case aF => exact (fun _ _ => trivial)); (case aO => exact (by (with_reducible repeat (first | apply Kd.zid | apply Kd.zed | apply Kd.zae)); exact Kd.S_mono HO_16.out (fun k_ hk => ⟨trivial, fun e_ => hk.2 e_⟩))); (case aS => exact (zm (by apply_rules only [HB.out, ze, zb, zf, fun h => zg h GE306.out]))); (case aL => have := LMc38.out; omega); intro v334 w41 ho hb hg hat; rw [← Ny333.out] at ho; have n0_ := za.mk (Kd.S_over' (by apply_rules only [HO_77.out, Kd.zid, Kd.zed, Kd.zae]) (Kd.S_typed (by apply_rules only [HO_16.out, Kd.zid, Kd.zed, Kd.zae])) (by decide) hg); have n1_ := za.mk (zwc (g := gb306) (o := .cells #[.int .i64 a0_0, .int .i64 a0_1, .int .i64 a0_2, .int .i64 a0_3, .int .i64 a0_4] 23 (0, 0)) (by apply_rules only [BK306.out, zh, zj, zi]) hg (Kd.S_ne HO_16.out BK306.out (by decide))); have n2_ := za.mk (Kd.R_over' (by apply_rules only [HL327_0.out, Kd.zka, Kd.zja, Kd.zya]) (Kd.S_typed (by apply_rules only [HO_16.out, Kd.zid, Kd.zed, Kd.zae])) (by decide) hg); have n3_ := za.mk (hb); have n4_ := za.mk (ho); clear HO_77; clear BK306; clear HL327_0; clear HB; clear HO_16; clear HO331; have HO_77 := n0_; have BK306 := n1_; have HL327_0 := n2_; have HB := n3_; have HO335 := n4_; clear n0_ n1_ n2_ n3_ n4_; clear ho hb hg hat))
                   go_roundg k4
                   case measure => have := HJ4.out; have := HK2.out; have := HK3.out; have := HK4.out; omega
                   case rel => exact ⟨(y333), (wrap64 (x79_4 + 1)), (by first | rfl | simp [*]), H', ⟨by have := HJ4.out; have := HK2.out; have := HK3.out; have := HK4.out; omega⟩, ⟨by apply_rules only [HO335.out, Kd.zid, Kd.zed, Kd.zae]⟩, ⟨by apply_rules only [HO_77.out, Kd.zid, Kd.zed, Kd.zae]⟩, ⟨by apply_rules only [BK306.out, zh, zj, zi]⟩, ⟨by apply_rules only [HB.out, ze, zb, zf, fun h => zg h GE306.out]⟩⟩
                  ·rw [if_neg c38] at H
                   exact absurd H (by simp)
                 ·have H1 : ((zfb.f (⟨#[115, 121, 115, 116, 101, 109, 46, 82, 111, 119, 115]⟩ : ByteArray) (some q332)).bind fun t336 => (some (([] : List (List Int)), t336))) = some (r1, r2) := by rw [if_neg (show ¬ (some q332).isNone = true by simp)] at H; exact H
                  exact absurd H1 (by simp [zcb.f, zfb.f])
                ·rw [if_neg c36] at H
                 exact absurd H (by simp)
               ·rw [if_neg c35] at H
                exact absurd H (by simp)
              ·rw [if_neg c34] at H
               have c34b0 : decide (x79_4 < (x8_3.length : Int)) = false := decide_eq_false c34
               clear c34
               simp only [Option.some.injEq, Prod.mk.injEq] at H
               obtain ⟨rfl, rfl⟩ := H
               go_wp2
               go_ret2
               exact ⟨_, by first | rfl | (simp [zn, zo] <;> rfl) | (simp [*, zn, zo] <;> rfl), by apply_rules only [HO_16.out, Kd.zid, Kd.zed, Kd.zae], by apply_rules only [HB.out, ze, zb, zf, fun h => zg h GE306.out]⟩
 ·have H1 : ((zfb.f (⟨#[115, 121, 115, 116, 101, 109, 46, 82, 111, 119, 115]⟩ : ByteArray) (some q311)).bind fun t337 => (some (([] : List (List Int)), t337))) = some (r1, r2) := by rw [if_neg (show ¬ (some q311).isNone = true by simp)] at H; exact H
  exact absurd H1 (by simp [zcb.f, zfb.f])
def fitsB (n : Int) (row : List Int) : Bool := decide (0 ≤ n ∧ n ≤ 4096 ∧ zde.f n = some (row.length : Int) ∧ (n % 64 = 0 ∨ (0 < row.length ∧ rd row ((row.length : Int) - 1) / 2 ^ (n % 64).toNat = 0)))
theorem fitsB_fits {n : Int} {row : List Int} (h : fitsB n row = true) : Fits n row := by
 have h2 := of_decide_eq_true h
 exact ⟨h2.1, h2.2.1, h2.2.2.1, h2.2.2.2⟩
def zyc.l0 : Nat → Int → List (List Int) → Int → List EQ2 → List Int → Option Int
 | 0, _, _, _, _, _ => none
 | k + 1, n, rows, i, kept, at_ => if i < (rows.length : Int) then (if fitsB n (rows.getD i.toNat []) = true then ((zkd.f k n kept at_ (rows.getD i.toNat []) [0]).bind fun a => if a.2.2.2 = false then zyc.l0 k n rows (i + 1) a.2.1 a.2.2.1 else none) else none) else some (kept.length : Int)
def zyc.f (k : Nat) (a0_0 a0_1 a0_2 a0_3 a0_4 a1 : Int) (l2 : List Int) : Option (Int × Option Int) :=
 (zoa.f k a0_0 a0_1 a0_2 a0_3 a0_4 a1 l2).bind fun x => if x.2.isNone = true then (if 1 ≤ a0_3 ∧ a0_3 ≤ 4096 then ((zyc.l0 k a0_3 x.1 0 [] (List.replicate a0_3.toNat (-1))).bind fun n => some (n, none)) else none) else none
theorem zyc.calls (k : Nat) (a0_0 : Int) (a0_1 : Int) (a0_2 : Int) (a0_3 : Int) (a0_4 : Int) (a1 : Int) (A2 : Option Addr) (c2 : Nat) (l2 : List Int) (r1 : Int) (r2 : Option Int) (w : World) (hr2 : Kd.C (Kd.int .i64) w A2 l2.length l2) (hc2 : l2.length ≤ c2) (h : zyc.f k a0_0 a0_1 a0_2 a0_3 a0_4 a1 l2 = some (r1, r2)) (hT : Tab w) :
  Calls Tryz.prog 34 #[.agg #[.int .i64 a0_0, .int .i64 a0_1, .int .i64 a0_2, .int .i64 a0_3, .int .i64 a0_4], .int .i64 a1, .slice A2 l2.length c2] w fun e w' => e = .returned (.tuple #[.int .i64 r1, errW r2]) ∧ Below w.heap.size w w' := by
 unfold zyc.f at h
 obtain ⟨⟨rows, er⟩, hrows, h⟩ := Option.bind_eq_some_iff.mp h
 cases er with
 | some _ => simp at h
 | none =>
 simp only [Option.isNone_none, if_true] at h
 by_cases hx : 1 ≤ a0_3 ∧ a0_3 ≤ 4096
 case neg => rw [if_neg hx] at h; exact absurd h (by simp)
 rw [if_pos hx] at h
 obtain ⟨nn, hl0, h⟩ := Option.bind_eq_some_iff.mp h
 simp only [Option.some.injEq, Prod.mk.injEq] at h
 obtain ⟨rfl, rfl⟩ := h
 obtain ⟨y1, y2⟩ := hx
 have HR2 := za.mk hr2
 have HROWS := za.mk hrows
 have HF := za.mk hl0
 have HT := za.mk hT
 clear hr2 hrows hl0 hT
 have HB0 := za.mk (ze (Below.refl w.heap.size w) (.cells #[.int .i64 a0_0, .int .i64 a0_1, .int .i64 a0_2, .int .i64 a0_3, .int .i64 a0_4] 23))
 have BP0 := za.mk (zif w (.cells #[.int .i64 a0_0, .int .i64 a0_1, .int .i64 a0_2, .int .i64 a0_3, .int .i64 a0_4] 23 (0, 0)))
 simp only [zn]
 go_enter Tryz.func34, Tryz.ntmps34
 go_wp2_with fail
 refine (zoa.calls k a0_0 a0_1 a0_2 a0_3 a0_4 a1 A2 c2 l2 rows none _ (Kd.znd HR2.out HB0.out) hc2 HROWS.out).mono ?_
 rintro e w2 ⟨v2, rfl, ho, hb⟩
 simp only [zn]
 obtain ⟨Ar, cr, eo_⟩ := Kd.S_slice ho
 subst eo_
 have HRW := za.mk (Kd.S_reads' ho).2.2
 have BP := za.mk (zy BP0.out hb)
 have HB := za.mk (zk HB0.out hb)
 have cp3 : w2.cell? ⟨w.heap.size, 3, none⟩ = some (.int .i64 a0_3) := (zl BP.out 3).trans rfl
 clear ho hb HB0 BP0
 go_wp2_with fail
 refine (elim_New.calls a0_3 1 w2 y1 y2 (by omega) (by omega)).mono ?_
 rintro e w3 ⟨g, rfl, hsys, hb3⟩
 have HSYS := za.mk hsys
 have HB3 := za.mk hb3
 clear hsys hb3 cp3
 go_wp2
 go_loopg [36] k (fun kq v36 w' => ∃ (i : Int) (kept : List EQ2) (at_ : List Int), v36 = .int .i64 i ∧ 0 ≤ i ∧ i ≤ (rows.length : Int) ∧ za (zyc.l0 kq a0_3 rows i kept at_ = some nn) ∧ za (SysO w' w2.heap.size (fun k => w2.heap.size ≤ k) g a0_3 1 kept at_ false) ∧ za (Below w2.heap.size w2 w'))
 case atStart => exact ⟨0, [], List.replicate a0_3.toNat (-1), rfl, by omega, by omega, HF, HSYS, HB3⟩
 case round =>
  clear HF HSYS HB3
  obtain ⟨i, kept, at_, rfl, hi0, hi1, HA, HSYS, HB3⟩ := hrel
  cases kq_ : gk with
  | zero => subst kq_; exact absurd HA.out (by simp [zyc.l0])
  | succ k1 =>
  subst kq_
  have H := HA.out
  clear HA
  simp only [zyc.l0] at H
  have hmax : rows.length ≤ 9223372036854775807 := Kd.C_max HRW.out
  by_cases t1 : i < (rows.length : Int)
  ·rw [if_pos t1] at H
   have b1 : decide (i < (rows.length : Int)) = true := decide_eq_true t1
   by_cases t2 : fitsB a0_3 (rows.getD i.toNat []) = true
   case neg => rw [if_neg t2] at H; exact absurd H (by simp)
   rw [if_pos t2] at H
   obtain ⟨⟨q0, kept', at', cl'⟩, hadd, H⟩ := Option.bind_eq_some_iff.mp H
   cases cl' with
   | true => simp at H
   | false =>
   simp only [if_true] at H
   obtain ⟨ad, c, ea, _, hK, hcells⟩ := Kd.C_get HRW.out [] i hi0 t1
   cases ea
   obtain ⟨Aw, cw, rfl, hlw, hcw⟩ := hK
   have hx0 := hcells 0 _ rfl
   have hx1 : wr.cell? (ad.add i.toNat) = some (.slice Aw (rows.getD i.toNat []).length cw) := (HB3.out.cell (World.block_lt_of_cell? w2 _ (by simpa [Kd.slice] using hx0))).trans (by simpa [Kd.slice] using hx0)
   clear hx0 hcells
   have HFIT := za.mk (fitsB_fits t2)
   have HADD := za.mk hadd
   have HFN := za.mk H
   have HCW := za.mk hcw
   clear H hadd t2 hcw
   generalize rows.getD i.toNat [] = row at *
   have hi0' := eq_true hi0
   have t1' := eq_true t1
   have x6_ : IntKind.i64.wrap (i + 1) = i + 1 := IntWalk.i64_in _ (by omega)
   go_wp2_with ((with_reducible refine zza (N := 42) rfl ?_); refine Kd.R_lit (Kd.int .u8) wr.heap.size 5 rfl (N := 42) rfl (xs := [(0 : Int)]) (inner := [.int .u8 0]) (ok := fun _ => True) (okp := fun _ => True) ?hr ?hp (fun _ hk => hk) trivial (Below.refl _ _) (Nat.le_refl _) (by simp) ?_; (case hr => first | (go_simp; done) | (go_simp; rfl)); (case hp => exact Reps.one rfl (Reps.none _ _)); intro v4 w4 ho4 hb4 _ _; have HO4 := za.mk ho4; have HB4 := za.mk hb4; clear ho4 hb4; obtain ⟨As, cs, eo_⟩ := Kd.zsc HO4.out; subst eo_)
   refine (zkd.calls k1 w2.heap.size (fun k => w2.heap.size ≤ k) g a0_3 1 kept at_ Aw cw row As cs [0] q0 kept' at' false _ (SysO.below HSYS.out HB4.out) (Kd.znd HCW.out (zk HB3.out HB4.out)) (Kd.zsb HO4.out).2.2 (Tab.below HT.out (zk HB.out (zk HB3.out HB4.out))) HFIT.out rfl HADD.out).mono ?_
   rintro e w5 ⟨rfl, hs5, hb5, _⟩
   have HS5 := za.mk (hs5.mono (P' := fun k => w2.heap.size ≤ k) (fun k hk => hk.elim id (fun h => Nat.le_trans (zk HB3.out HB4.out).size h)))
   have HB5 := za.mk ((zk HB3.out HB4.out).trans hb5)
   clear hs5 hb5 HSYS HB3 HO4 HB4 hx1
   go_wp2
   go_roundg k1
   case measure => omega
   case rel => exact ⟨i + 1, kept', at', by first | rfl | rw [x6_], by omega, by omega, HFN, HS5, HB5⟩
  ·rw [if_neg t1] at H
   have b1 : decide (i < (rows.length : Int)) = false := decide_eq_false t1
   obtain rfl := Option.some.inj H
   go_wp2_with fail
   refine (elim_Rank.calls g a0_3 1 kept at_ false _ (SysO.reads HSYS.out)).mono ?_
   rintro e w5 ⟨rfl, ⟨m5, rfl⟩⟩
   go_wp2
   go_ret2
   exact ⟨rfl, zb (zk HB.out HB3.out) _⟩
def zfd.l0 : Nat → List Int → Int → Int → Option (List Int)
 | 0, _, _, _ => none
 | k + 1, x3, x5, x6 => if x6 < x5 then (if x3.length < 17592186044416 then (zfd.l0 k (x3 ++ [x6]) x5 (wrap64 (x6 + 1))) else (none)) else (some x3)
def zfd.f (k : Nat) (a0 : Int) : Option (List Int) := zfd.l0 k ([] : List Int) a0 0
theorem zfd.calls (k : Nat) (a0 : Int) (r : List Int) (w : World) (h : zfd.f k a0 = some r) :
  Calls Tryz.prog 35 #[.int .i64 a0] w fun e w' => ∃ v0_ : Value, e = .returned (v0_) ∧ Kd.R (Kd.int .i64) 3 w' w.heap.size (fun _ => True) v0_ r ∧ Below w.heap.size w w' := by
 have HB := za.mk (Below.refl w.heap.size w)
 have H : (zfd.l0 k ([] : List Int) a0 0) = some r := h
 clear h
 have H' := za.mk H
 clear H
 go_enter Tryz.func35, Tryz.ntmps35
 go_wp2
 go_loopg [3, 6] k (fun kq v3 v6 w' => ∃ (x3_1 : List Int) (x6_1 : Int), v6 = .int .i64 x6_1 ∧ za (zfd.l0 kq x3_1 a0 x6_1 = some r) ∧ za (kq ≤ k) ∧ za (Kd.R (Kd.int .i64) 3 w' w.heap.size (fun _ => True) v3 x3_1) ∧ za (Below w.heap.size w w'))
 case atStart => exact ⟨(([] : List Int)), (0), (by first | rfl | simp [*]), H', ⟨Nat.le_refl _⟩, ⟨by first | exact Kd.R_nil _ _ _ _ _ | exact Kd.N_nil _ _ _ _ _ | exact Kd.V_nil _ _ _ _ _ | exact Kd.Q_nil _ _ _ _ _ | exact Kd.S_nil _ _ _ _ _⟩, ⟨by apply_rules only [HB.out, ze, zb, zf]⟩⟩
 case round =>
  clear H'
  obtain ⟨x3_1, x6_1, rfl, HA, HK1, HO_3, HB⟩ := hrel
  cases gk with
  | zero => exact absurd HA.out (by simp [zfd.l0])
  | succ k1 =>
   have H := HA.out
   clear HA
   simp only [zfd.l0] at H
   by_cases c2 : x6_1 < a0
   ·rw [if_pos c2] at H
    have c2b0 : decide (x6_1 < a0) = true := decide_eq_true c2
    clear c2
    by_cases c3 : x3_1.length < 17592186044416
    ·rw [if_pos c3] at H
     have LMc3 := za.mk c3
     clear c3
     obtain ⟨y367, hy367⟩ : ∃ y_ : List Int, y_ = (x3_1 ++ [x6_1]) := ⟨_, rfl⟩
     replace H : (zfd.l0 k1 y367 a0 (wrap64 (x6_1 + 1))) = some r := by first | (rw [hy367]; with_reducible exact H) | (have H2_ := (Option.bind_some _ _).symm.trans H; rw [hy367]; with_reducible exact H2_) | (have H2_ := (Option.bind_some _ _).symm.trans H; with_reducible exact H2_) | with_reducible exact H | (rw [hy367]; exact H) | exact H
     have Ny367 := za.mk hy367
     clear hy367
     have H' := za.mk H
     clear H
     go_wp2_with (first | ((with_reducible refine zdd (b := .append) (xs := #[.tmp 9, .tmp 11]) rfl ?_); at_builtin; refine Kd.zof (Kd.int .i64) (w0 := w) w.heap.size rfl (.tmp 9) (.tmp 11) 31 3 (.int .i64 0) 8 rfl Tryz.underlying31 info3 rfl (by decide) (by omega) u3 x3_1 x6_1 [.int .i64 x6_1] (fun _ => True) (fun _ => False) rfl rfl ?aP (fun _ hk => hk.elim) ?aF ?aO ?aB ?aS ?aL ?_; (case aP => exact rfl); (case aB => exact (by apply_rules only [HB.out, ze, zb, zf])); (case aF => exact (fun _ _ => trivial)); (case aO => exact (by apply_rules only [HO_3.out, Kd.zka, Kd.zja, Kd.zya])); (case aS => exact (zm (by apply_rules only [HB.out, ze, zb, zf]))); (case aL => have := LMc3.out; omega); intro v368 w4 ho hb hg hat; rw [← Ny367.out] at ho; have n0_ := za.mk (hb); have n1_ := za.mk (ho); clear HB; clear HO_3; have HB := n0_; have HO369 := n1_; clear n0_ n1_; clear ho hb hg hat))
     go_roundg k1
     case measure => have := HK1.out; omega
     case rel => exact ⟨(y367), (wrap64 (x6_1 + 1)), (by first | rfl | simp [*]), H', ⟨by have := HK1.out; omega⟩, ⟨by apply_rules only [HO369.out, Kd.zka, Kd.zja, Kd.zya]⟩, ⟨by apply_rules only [HB.out, ze, zb, zf]⟩⟩
    ·rw [if_neg c3] at H
     exact absurd H (by simp)
   ·rw [if_neg c2] at H
    have c2b0 : decide (x6_1 < a0) = false := decide_eq_false c2
    clear c2
    obtain rfl := Option.some.inj H
    go_wp2
    go_ret
    exact ⟨_, by first | rfl | (simp [zn, zo] <;> rfl) | (simp [*, zn, zo] <;> rfl), by apply_rules only [HO_3.out, Kd.zka, Kd.zja, Kd.zya], by apply_rules only [HB.out, ze, zb, zf]⟩
def zld (src : List (List Int)) (S H size i : Int) : List Int := if 0 ≤ i - S - H then src.getD (i - S - H).toNat [] else List.replicate size.toNat 0
def zqb.l0 : Nat → Int → Int → Int → Int → List (List Int) → List (List Int) → Int → List EQ2 → List Int → Option (List EQ2 × List Int)
 | 0, _, _, _, _, _, _, _, _, _ => none
 | k + 1, n, S, H, size, rows, src, i, kept, at_ => if i < (rows.length : Int) then (if fitsB n (rows.getD i.toNat []) = true ∧ i - S - H < (src.length : Int) ∧ ((zld src S H size i).length : Int) = size then ((zkd.f k n kept at_ (rows.getD i.toNat []) (zld src S H size i)).bind fun a => if a.2.2.2 = false then zqb.l0 k n S H size rows src (i + 1) a.2.1 a.2.2.1 else none) else none) else some (kept, at_)
def zqb.f (k : Nat) (a0_0 a0_1 a0_2 a0_3 a0_4 a1 : Int) (l2 : List (List Int)) (a3 : Int) : Option (List (List Int) × Option Int) :=
 if a0_0 ≤ 128 ∧ 0 ≤ a0_1 ∧ a0_1 ≤ 1000 ∧ 0 ≤ a0_2 ∧ a0_2 ≤ 1000 ∧ 1 ≤ a0_3 ∧ a0_3 ≤ 4096 ∧ 1 ≤ a3 ∧ a3 ≤ 64 ∧ (l2.length : Int) = a0_0 then
  ((zfd.f k a0_0).bind fun fl => (zoa.f k a0_0 a0_1 a0_2 a0_3 a0_4 a1 fl).bind fun x => if x.2.isNone = true then ((zqb.l0 k a0_3 a0_1 a0_2 a3 x.1 l2 0 [] (List.replicate a0_3.toNat (-1))).bind fun s => if (s.1.length : Int) = a0_3 then ((zef.f k a0_3 a3 s.1 s.2).bind fun o => some (o, none)) else none) else none) else none
def zqb.T1 : Bool × List (List Nat × List Nat) := (true, [([], []), ([], []), ([], []), ([2], [2]), ([3], [3]), ([4], [4]), ([0, 1, 5, 5], [0, 1, 5]), ([6], [6]), ([7], [7]), ([7], [7]), ([8, 6, 0, 1, 2, 3, 4, 5, 6, 7, 8], [8]), ([9, 10, 0, 1, 2, 3, 4, 5, 6, 7, 8, 9, 10], [9])])
def zqb.B1 : List Nat := [0, 0, 0, 4, 12, 28, 63, 127, 255, 255, 511, 2047]
theorem zqb.tab1 : rtab .any (opsOf Tryz.f16 1) = zqb.T1 := by kernel_rfl
theorem zqb.bits1 : waitsOk zqb.T1.2 zqb.B1 = true := by kernel_rfl
theorem zqb.calls (k : Nat) (a0_0 : Int) (a0_1 : Int) (a0_2 : Int) (a0_3 : Int) (a0_4 : Int) (a1 : Int) (A2 : Option Addr) (c2 : Nat) (l2 : List (List Int)) (a3 : Int) (r1 : List (List Int)) (r2 : Option Int) (w : World) (hr2 : Kd.C (Kd.slice 5 (Kd.int .u8)) w A2 l2.length l2) (hc2 : l2.length ≤ c2) (h : zqb.f k a0_0 a0_1 a0_2 a0_3 a0_4 a1 l2 a3 = some (r1, r2)) (hT : Tab w) :
  Calls Tryz.prog 16 #[.agg #[.int .i64 a0_0, .int .i64 a0_1, .int .i64 a0_2, .int .i64 a0_3, .int .i64 a0_4], .int .i64 a1, .slice A2 l2.length c2, .int .i64 a3] w fun e w' => ∃ v0_ : Value, e = .returned (.tuple #[v0_, errW r2]) ∧ Kd.S (Kd.slice 5 (Kd.int .u8)) 43 w' w.heap.size (fun _ => True) v0_ r1 ∧ Below w.heap.size w w' := by
 unfold zqb.f at h
 by_cases hx : a0_0 ≤ 128 ∧ 0 ≤ a0_1 ∧ a0_1 ≤ 1000 ∧ 0 ≤ a0_2 ∧ a0_2 ≤ 1000 ∧ 1 ≤ a0_3 ∧ a0_3 ≤ 4096 ∧ 1 ≤ a3 ∧ a3 ≤ 64 ∧ (l2.length : Int) = a0_0
 case neg => rw [if_neg hx] at h; exact absurd h (by simp)
 rw [if_pos hx] at h
 obtain ⟨y1, y2, y3, y4, y5, y6, y7, y8, y9, y10⟩ := hx
 obtain ⟨fl, hfl, h⟩ := Option.bind_eq_some_iff.mp h
 obtain ⟨⟨rows, er⟩, hrows, h⟩ := Option.bind_eq_some_iff.mp h
 cases er with
 | some _ => simp at h
 | none =>
 simp only [Option.isNone_none, if_true] at h
 obtain ⟨⟨kf, af⟩, hl0, h⟩ := Option.bind_eq_some_iff.mp h
 by_cases hkf : (kf.length : Int) = a0_3
 case neg => rw [if_neg hkf] at h; exact absurd h (by simp)
 rw [if_pos hkf] at h
 obtain ⟨o, ho, h⟩ := Option.bind_eq_some_iff.mp h
 simp only [Option.some.injEq, Prod.mk.injEq] at h
 obtain ⟨rfl, rfl⟩ := h
 subst y10
 have HR2 := za.mk hr2
 have HFL := za.mk hfl
 have HROWS := za.mk hrows
 have HF := za.mk hl0
 have HT := za.mk hT
 have HKF := za.mk hkf
 have HALL := za.mk ho
 clear hr2 hfl hrows hl0 hT hkf ho
 have hmin : (128 < (l2.length : Int)) = False := eq_false (by omega)
 have HB := za.mk (ze (Below.refl w.heap.size w) (.cells #[.int .i64 (l2.length : Int), .int .i64 a0_1, .int .i64 a0_2, .int .i64 a0_3, .int .i64 a0_4] 23))
 have BP := za.mk (zif w (.cells #[.int .i64 (l2.length : Int), .int .i64 a0_1, .int .i64 a0_2, .int .i64 a0_3, .int .i64 a0_4] 23 (0, 0)))
 have b1 : decide (a3 < 1) = false := decide_eq_false (by omega)
 have b2 : decide (a3 > 64) = false := decide_eq_false (by omega)
 have es : ((l2.length : Int) == (l2.length : Int)) = true := by simp
 simp only [zn]
 go_enter Tryz.func16, Tryz.ntmps16
 go_wp2_with fail
 generalize hw1 : w.alloc (.cells #[.int .i64 (l2.length : Int), .int .i64 a0_1, .int .i64 a0_2, .int .i64 a0_3, .int .i64 a0_4] 23) = w1 at HB BP ⊢
 clear hw1
 have n1_ := za.mk (zj BP.out)
 have n2_ := za.mk (zf HB.out)
 clear BP HB
 have BP := n1_
 have HB := n2_
 clear n1_ n2_
 refine zsf (n := 12) (S := fun w' => True) (ds := []) #[false, false, false, false, false, false, false, false, false, false, false, false] (by kernel_rfl) rfl rfl trivial (fun hHeld => ?_)
 refine zke zqb.tab1 zqb.bits1 (fun HT_ HW_ => ?_)
 generalize w1.drew = w2 at BP HB hHeld ⊢
 refine pure_ (i := 1) (N := some 22) (v := ?_) (a' := ?_) #[false, true, false, false, false, false, false, false, false, false, false, false] rfl rfl (zvb HT_.out (by kernel_rfl)) (fun _ _ _ h => h) (Or.inl ⟨by rfl, ?_⟩) ?_ ?_
 rotate_left
 ·intro w'
  go_simp
  with_reducible rfl
 rotate_left
 ·simp only [Act.put, zw]
  rfl
 refine pure_ (i := 2) (N := some 23) (v := ?_) (a' := ?_) #[false, true, true, false, false, false, false, false, false, false, false, false] rfl rfl (zvb HT_.out (by kernel_rfl)) (fun _ _ _ h => h) (Or.inl ⟨by rfl, ?_⟩) ?_ ?_
 rotate_left
 ·intro w'
  go_simp
  with_reducible rfl
 rotate_left
 ·simp only [Act.put, zw]
  rfl
 refine inv_at [0, 3, 4, 5, 6, 7, 8, 9, 10, 11] (fun a0_ b a w' => ∃ (v5 : Value) (v6 : Value) (m6_ : Value) (m7_ : Value) (m8_ : Value) (m10_ : Value), a = putSel a0_ b [(0, 21, .agg #[.int .i64 (l2.length : Int), .int .i64 a0_1, .int .i64 a0_2, .int .i64 a0_3, .int .i64 a0_4]), (3, 24, .int .i64 (l2.length : Int)), (4, 25, .int .i64 (l2.length : Int)), (5, 26, v5), (6, 27, m6_), (7, 20, m7_), (8, 28, m8_), (9, 29, .nilIface), (10, 10, m10_), (11, 11, .nilIface)] ∧ (w'.heap[w.heap.size]? = some (.cells #[.int .i64 (l2.length : Int), .int .i64 a0_1, .int .i64 a0_2, .int .i64 a0_3, .int .i64 a0_4] 23 (0, 0))) ∧ (Below w.heap.size w w') ∧ (b 5 = true → b 6 = false → Kd.R (Kd.int .i64) 3 w' w.heap.size (fun _ => True) v5 fl) ∧ (b 6 = true → Kd.S (Kd.slice 104 (Kd.int .u64)) 71 w' w.heap.size (fun _ => True) v6 rows) ∧ (b 6 = true → (m6_ : Value) = .tuple #[v6, .nilIface]) ∧ (b 7 = true → (m7_ : Value) = .tuple #[v6, .nilIface]) ∧ (b 8 = true → (m8_ : Value) = v6) ∧ (b 10 = true → (m10_ : Value) = v6)) HT_.out HW_.out (by kernel_rfl) (by kernel_rfl) ?_ ?_ ?_
 ·exact ⟨.bool false, .bool false, .bool false, .bool false, .bool false, .bool false, by simp only [putSel, Bool.false_eq_true, if_false], BP.out, HB.out, fun h_ => absurd h_ (by decide), fun h_ => absurd h_ (by decide), fun h_ => absurd h_ (by decide), fun h_ => absurd h_ (by decide), fun h_ => absurd h_ (by decide), fun h_ => absurd h_ (by decide)⟩
 ·skip
  clear BP HB
  refine zfa ?_ ?_
  ·rintro b a w' ⟨v5, v6, m6_, m7_, m8_, m10_, ha, Q_BP, Q_HB, Q_R5, Q_R6, Q_X6_, Q_X7_, Q_X8_, Q_X10_⟩ hb_ hon hoff
   refine ⟨_, rfl, fun K hK => ?_⟩
   have e4 : a.tmps[4]? = some (.pointer (some ⟨w.heap.size, 0, none⟩)) := by rw [ha]; exact (zlc rfl).trans rfl
   replace ha := za.mk ha
   have BP := za.mk Q_BP
   have HB := za.mk Q_HB
   have z0_ := (zl BP.out 0).trans rfl
   have z1_ := (zl BP.out 1).trans rfl
   have z2_ := (zl BP.out 2).trans rfl
   have z3_ := (zl BP.out 3).trans rfl
   have z4_ := (zl BP.out 4).trans rfl
   refine zbd (w1 := w') (v := .agg #[.int .i64 (l2.length : Int), .int .i64 a0_1, .int .i64 a0_2, .int .i64 a0_3, .int .i64 a0_4]) (by rfl) rfl ?_ ?_
   ·go_simp
    (try simp only [i64_w])
    try rfl
   refine hK.out _ _ ⟨v5, v6, m6_, m7_, m8_, m10_, (by rw [ha.out]; exact zla 0 hb_ rfl rfl rfl), Q_BP, Q_HB, Q_R5, fun h0_ => absurd ((hoff 6 (by kernel_rfl)).symm.trans h0_) (by decide), fun h0_ => absurd ((hoff 6 (by kernel_rfl)).symm.trans h0_) (by decide), fun h0_ => absurd ((hoff 7 (by kernel_rfl)).symm.trans h0_) (by decide), fun h0_ => absurd ((hoff 8 (by kernel_rfl)).symm.trans h0_) (by decide), fun h0_ => absurd ((hoff 10 (by kernel_rfl)).symm.trans h0_) (by decide)⟩
  refine zfa ?_ ?_
  ·rintro b a w' ⟨v5, v6, m6_, m7_, m8_, m10_, ha, Q_BP, Q_HB, Q_R5, Q_R6, Q_X6_, Q_X7_, Q_X8_, Q_X10_⟩ hb_ hon hoff
   refine ⟨_, rfl, fun K hK => ?_⟩
   have e23 : a.tmps[23]? = some (.pointer (some ⟨w.heap.size, 0, none⟩)) := by rw [ha]; exact (zlc rfl).trans rfl
   replace ha := za.mk ha
   have BP := za.mk Q_BP
   have HB := za.mk Q_HB
   have z0_ := (zl BP.out 0).trans rfl
   refine zbd (w1 := w') (v := .int .i64 (l2.length : Int)) (by rfl) rfl ?_ ?_
   ·go_simp
    (try simp only [i64_w])
    try rfl
   refine hK.out _ _ ⟨v5, v6, m6_, m7_, m8_, m10_, (by rw [ha.out]; exact zla 1 hb_ rfl rfl rfl), Q_BP, Q_HB, fun h0_ _ => absurd ((hoff 5 (by kernel_rfl)).symm.trans h0_) (by decide), fun h0_ => absurd ((hoff 6 (by kernel_rfl)).symm.trans h0_) (by decide), fun h0_ => absurd ((hoff 6 (by kernel_rfl)).symm.trans h0_) (by decide), fun h0_ => absurd ((hoff 7 (by kernel_rfl)).symm.trans h0_) (by decide), fun h0_ => absurd ((hoff 8 (by kernel_rfl)).symm.trans h0_) (by decide), fun h0_ => absurd ((hoff 10 (by kernel_rfl)).symm.trans h0_) (by decide)⟩
  refine zfa ?_ ?_
  ·rintro b a w' ⟨v5, v6, m6_, m7_, m8_, m10_, ha, Q_BP, Q_HB, Q_R5, Q_R6, Q_X6_, Q_X7_, Q_X8_, Q_X10_⟩ hb_ hon hoff
   refine ⟨_, rfl, fun K hK => ?_⟩
   have e24 : a.tmps[24]? = some (.int .i64 (l2.length : Int)) := by rw [ha]; exact zxa (e := (3, 24, .int .i64 (l2.length : Int))) 1 rfl rfl (hon 3 (by kernel_rfl)) rfl
   replace ha := za.mk ha
   have BP := za.mk Q_BP
   have HB := za.mk Q_HB
   refine zbd (w1 := w') (v := .int .i64 (l2.length : Int)) (by rfl) rfl ?_ ?_
   ·go_simp
    (try simp only [i64_w])
    try rfl
   refine hK.out _ _ ⟨v5, v6, m6_, m7_, m8_, m10_, (by rw [ha.out]; exact zla 2 hb_ rfl rfl rfl), Q_BP, Q_HB, fun h0_ _ => absurd ((hoff 5 (by kernel_rfl)).symm.trans h0_) (by decide), fun h0_ => absurd ((hoff 6 (by kernel_rfl)).symm.trans h0_) (by decide), fun h0_ => absurd ((hoff 6 (by kernel_rfl)).symm.trans h0_) (by decide), fun h0_ => absurd ((hoff 7 (by kernel_rfl)).symm.trans h0_) (by decide), fun h0_ => absurd ((hoff 8 (by kernel_rfl)).symm.trans h0_) (by decide), fun h0_ => absurd ((hoff 10 (by kernel_rfl)).symm.trans h0_) (by decide)⟩
  refine zfa ?_ ?_
  ·rintro b a w' ⟨v5, v6, m6_, m7_, m8_, m10_, ha, Q_BP, Q_HB, Q_R5, Q_R6, Q_X6_, Q_X7_, Q_X8_, Q_X10_⟩ hb_ hon hoff
   refine ⟨_, rfl, fun K hK => ?_⟩
   have e25 : a.tmps[25]? = some (.int .i64 (l2.length : Int)) := by rw [ha]; exact zxa (e := (4, 25, .int .i64 (l2.length : Int))) 2 rfl rfl (hon 4 (by kernel_rfl)) rfl
   replace ha := za.mk ha
   have BP := za.mk Q_BP
   have HB := za.mk Q_HB
   refine goes_ Tryz.func35 (by kernel_rfl) rfl #[.int .i64 (l2.length : Int)] (by rfl) rfl rfl (by first | (simp only [List.map_toArray, List.map_cons, List.map_nil, Act.eval, Array.getD_eq_getD_getElem?, Option.getD_some, e25]; done) | (simp only [List.map_toArray, List.map_cons, List.map_nil, Act.eval, Array.getD_eq_getD_getElem?, Option.getD_some, e25]; rfl)) ?_
   refine (zfd.calls k (l2.length : Int) fl _ HFL.out).mono ?_
   rintro e w1' ⟨n5, rfl, ho, hb⟩
   refine ⟨_, rfl, ?_⟩
   refine hK.out _ _ ⟨n5, v6, m6_, m7_, m8_, m10_, (by rw [ha.out]; exact zla 3 hb_ rfl rfl rfl), zy BP.out hb, zk HB.out hb, fun _ _ => Kd.zcd ho HB.out.size, fun h0_ => absurd ((hoff 6 (by kernel_rfl)).symm.trans h0_) (by decide), fun h0_ => absurd ((hoff 6 (by kernel_rfl)).symm.trans h0_) (by decide), fun h0_ => absurd ((hoff 7 (by kernel_rfl)).symm.trans h0_) (by decide), fun h0_ => absurd ((hoff 8 (by kernel_rfl)).symm.trans h0_) (by decide), fun h0_ => absurd ((hoff 10 (by kernel_rfl)).symm.trans h0_) (by decide)⟩
  refine zfa ?_ ?_
  ·rintro b a w' ⟨v5, v6, m6_, m7_, m8_, m10_, ha, Q_BP, Q_HB, Q_R5, Q_R6, Q_X6_, Q_X7_, Q_X8_, Q_X10_⟩ hb_ hon hoff
   refine ⟨_, rfl, fun K hK => ?_⟩
   have e21 : a.tmps[21]? = some (.agg #[.int .i64 (l2.length : Int), .int .i64 a0_1, .int .i64 a0_2, .int .i64 a0_3, .int .i64 a0_4]) := by rw [ha]; exact zxa (e := (0, 21, .agg #[.int .i64 (l2.length : Int), .int .i64 a0_1, .int .i64 a0_2, .int .i64 a0_3, .int .i64 a0_4])) 0 rfl rfl (hon 0 (by kernel_rfl)) rfl
   have e22 : a.tmps[22]? = some (.int .i64 a1) := by rw [ha]; exact (zlc rfl).trans rfl
   have e26 : a.tmps[26]? = some (v5) := by rw [ha]; exact zxa (e := (5, 26, v5)) 3 rfl rfl (hon 5 (by kernel_rfl)) rfl
   replace ha := za.mk ha
   have BP := za.mk Q_BP
   have HB := za.mk Q_HB
   have R5 := za.mk (Q_R5 (hon 5 (by kernel_rfl)) hb_)
   obtain ⟨A5, c5, eo_⟩ := Kd.zsc R5.out
   subst eo_
   refine goes_ Tryz.func40 (by kernel_rfl) rfl #[.agg #[.int .i64 (l2.length : Int), .int .i64 a0_1, .int .i64 a0_2, .int .i64 a0_3, .int .i64 a0_4], .int .i64 a1, .slice A5 fl.length c5] (by rfl) rfl rfl (by first | (simp only [List.map_toArray, List.map_cons, List.map_nil, Act.eval, Array.getD_eq_getD_getElem?, Option.getD_some, e21, e22, e26]; done) | (simp only [List.map_toArray, List.map_cons, List.map_nil, Act.eval, Array.getD_eq_getD_getElem?, Option.getD_some, e21, e22, e26]; rfl)) ?_
   refine (zoa.calls k (l2.length : Int) a0_1 a0_2 a0_3 a0_4 a1 A5 c5 fl rows none _ (Kd.zsb R5.out).2.2 (Kd.zsb R5.out).2.1 HROWS.out).mono ?_
   rintro e w1' ⟨n6, rfl, ho, hb⟩
   simp only [zn]
   refine ⟨_, rfl, ?_⟩
   refine hK.out _ _ ⟨(.slice A5 fl.length c5), n6, (.tuple #[n6, .nilIface]), m7_, m8_, m10_, (by rw [ha.out]; exact zla 4 hb_ rfl rfl rfl), zy BP.out hb, zk HB.out hb, fun _ h1_ => absurd ((zie b 6).symm.trans h1_) (by decide), fun _ => Kd.S_lower ho HB.out.size, fun _ => rfl, fun h0_ => absurd ((hoff 7 (by kernel_rfl)).symm.trans h0_) (by decide), fun h0_ => absurd ((hoff 8 (by kernel_rfl)).symm.trans h0_) (by decide), fun h0_ => absurd ((hoff 10 (by kernel_rfl)).symm.trans h0_) (by decide)⟩
  refine zfa ?_ ?_
  ·rintro b a w' ⟨v5, v6, m6_, m7_, m8_, m10_, ha, Q_BP, Q_HB, Q_R5, Q_R6, Q_X6_, Q_X7_, Q_X8_, Q_X10_⟩ hb_ hon hoff
   refine ⟨_, rfl, fun K hK => ?_⟩
   have e27 : a.tmps[27]? = some (m6_) := by rw [ha]; exact zxa (e := (6, 27, m6_)) 4 rfl rfl (hon 6 (by kernel_rfl)) rfl
   rw [Q_X6_ (hon 6 (by kernel_rfl))] at e27
   replace ha := za.mk ha
   have BP := za.mk Q_BP
   have HB := za.mk Q_HB
   have R6 := za.mk (Q_R6 (hon 6 (by kernel_rfl)))
   refine zbd (w1 := w') (v := .tuple #[v6, .nilIface]) (by rfl) rfl ?_ ?_
   ·go_simp
    (try simp only [i64_w])
    try rfl
   refine hK.out _ _ ⟨v5, v6, m6_, (.tuple #[v6, .nilIface]), m8_, m10_, (by rw [ha.out]; exact zla 5 hb_ rfl rfl rfl), Q_BP, Q_HB, fun _ h1_ => absurd ((hon 6 (by kernel_rfl)).symm.trans h1_) (by decide), Q_R6, Q_X6_, fun _ => rfl, fun h0_ => absurd ((hoff 8 (by kernel_rfl)).symm.trans h0_) (by decide), fun h0_ => absurd ((hoff 10 (by kernel_rfl)).symm.trans h0_) (by decide)⟩
  refine zfa ?_ ?_
  ·rintro b a w' ⟨v5, v6, m6_, m7_, m8_, m10_, ha, Q_BP, Q_HB, Q_R5, Q_R6, Q_X6_, Q_X7_, Q_X8_, Q_X10_⟩ hb_ hon hoff
   refine ⟨_, rfl, fun K hK => ?_⟩
   have e20 : a.tmps[20]? = some (m7_) := by rw [ha]; exact zxa (e := (7, 20, m7_)) 5 rfl rfl (hon 7 (by kernel_rfl)) rfl
   rw [Q_X7_ (hon 7 (by kernel_rfl))] at e20
   replace ha := za.mk ha
   have BP := za.mk Q_BP
   have HB := za.mk Q_HB
   have R6 := za.mk (Q_R6 (hon 6 (by kernel_rfl)))
   refine zbd (w1 := w') (v := v6) (by rfl) rfl ?_ ?_
   ·go_simp
    (try simp only [i64_w])
    try rfl
   refine hK.out _ _ ⟨v5, v6, m6_, m7_, (v6), m10_, (by rw [ha.out]; exact zla 6 hb_ rfl rfl rfl), Q_BP, Q_HB, fun _ h1_ => absurd ((hon 6 (by kernel_rfl)).symm.trans h1_) (by decide), Q_R6, Q_X6_, Q_X7_, fun _ => rfl, fun h0_ => absurd ((hoff 10 (by kernel_rfl)).symm.trans h0_) (by decide)⟩
  refine zfa ?_ ?_
  ·rintro b a w' ⟨v5, v6, m6_, m7_, m8_, m10_, ha, Q_BP, Q_HB, Q_R5, Q_R6, Q_X6_, Q_X7_, Q_X8_, Q_X10_⟩ hb_ hon hoff
   refine ⟨_, rfl, fun K hK => ?_⟩
   have e20 : a.tmps[20]? = some (m7_) := by rw [ha]; exact zxa (e := (7, 20, m7_)) 5 rfl rfl (hon 7 (by kernel_rfl)) rfl
   rw [Q_X7_ (hon 7 (by kernel_rfl))] at e20
   replace ha := za.mk ha
   have BP := za.mk Q_BP
   have HB := za.mk Q_HB
   have R6 := za.mk (Q_R6 (hon 6 (by kernel_rfl)))
   refine zbd (w1 := w') (v := .nilIface) (by rfl) rfl ?_ ?_
   ·go_simp
    (try simp only [i64_w])
    try rfl
   refine hK.out _ _ ⟨v5, v6, m6_, m7_, m8_, m10_, (by rw [ha.out]; exact zla 7 hb_ rfl rfl rfl), Q_BP, Q_HB, fun _ h1_ => absurd ((hon 6 (by kernel_rfl)).symm.trans h1_) (by decide), Q_R6, Q_X6_, Q_X7_, Q_X8_, Q_X10_⟩
  refine zfa ?_ ?_
  ·rintro b a w' ⟨v5, v6, m6_, m7_, m8_, m10_, ha, Q_BP, Q_HB, Q_R5, Q_R6, Q_X6_, Q_X7_, Q_X8_, Q_X10_⟩ hb_ hon hoff
   refine ⟨_, rfl, fun K hK => ?_⟩
   have e28 : a.tmps[28]? = some (m8_) := by rw [ha]; exact zxa (e := (8, 28, m8_)) 6 rfl rfl (hon 8 (by kernel_rfl)) rfl
   rw [Q_X8_ (hon 8 (by kernel_rfl))] at e28
   replace ha := za.mk ha
   have BP := za.mk Q_BP
   have HB := za.mk Q_HB
   have R6 := za.mk (Q_R6 (hon 6 (by kernel_rfl)))
   refine zbd (w1 := w') (v := v6) (by rfl) rfl ?_ ?_
   ·go_simp
    (try simp only [i64_w])
    try rfl
   refine hK.out _ _ ⟨v5, v6, m6_, m7_, m8_, (v6), (by rw [ha.out]; exact zla 8 hb_ rfl rfl rfl), Q_BP, Q_HB, fun _ h1_ => absurd ((hon 6 (by kernel_rfl)).symm.trans h1_) (by decide), Q_R6, Q_X6_, Q_X7_, Q_X8_, fun _ => rfl⟩
  refine zfa ?_ ?_
  ·rintro b a w' ⟨v5, v6, m6_, m7_, m8_, m10_, ha, Q_BP, Q_HB, Q_R5, Q_R6, Q_X6_, Q_X7_, Q_X8_, Q_X10_⟩ hb_ hon hoff
   refine ⟨_, rfl, fun K hK => ?_⟩
   have e29 : a.tmps[29]? = some (.nilIface) := by rw [ha]; exact zxa (e := (9, 29, .nilIface)) 7 rfl rfl (hon 9 (by kernel_rfl)) rfl
   replace ha := za.mk ha
   have BP := za.mk Q_BP
   have HB := za.mk Q_HB
   have R6 := za.mk (Q_R6 (hon 6 (by kernel_rfl)))
   refine zbd (w1 := w') (v := .nilIface) (by rfl) rfl ?_ ?_
   ·go_simp
    (try simp only [i64_w])
    try rfl
   refine hK.out _ _ ⟨v5, v6, m6_, m7_, m8_, m10_, (by rw [ha.out]; exact zla 9 hb_ rfl rfl rfl), Q_BP, Q_HB, fun _ h1_ => absurd ((hon 6 (by kernel_rfl)).symm.trans h1_) (by decide), Q_R6, Q_X6_, Q_X7_, Q_X8_, Q_X10_⟩
  exact steps_nil
 rintro b a wl hall ⟨v5, v6, m6_, m7_, m8_, m10_, ha, Q_BP, Q_HB, Q_R5, Q_R6, Q_X6_, Q_X7_, Q_X8_, Q_X10_⟩
 clear BP HB
 have hb0_ := hall 0 (by kernel_rfl)
 have hb3_ := hall 3 (by kernel_rfl)
 have hb4_ := hall 4 (by kernel_rfl)
 have hb5_ := hall 5 (by kernel_rfl)
 have hb6_ := hall 6 (by kernel_rfl)
 have hb7_ := hall 7 (by kernel_rfl)
 have hb8_ := hall 8 (by kernel_rfl)
 have hb9_ := hall 9 (by kernel_rfl)
 have hb10_ := hall 10 (by kernel_rfl)
 have hb11_ := hall 11 (by kernel_rfl)
 subst ha
 obtain rfl := Q_X6_ hb6_
 obtain rfl := Q_X7_ hb7_
 obtain rfl := Q_X8_ hb8_
 obtain rfl := Q_X10_ hb10_
 simp only [putSel, hb0_, hb3_, hb4_, hb5_, hb6_, hb7_, hb8_, hb9_, hb10_, hb11_, if_true, Act.put, List.setIfInBounds_toArray, List.set_cons_zero, List.set_cons_succ]
 have BP := za.mk Q_BP
 clear Q_BP
 have HB := za.mk Q_HB
 clear Q_HB
 clear Q_R5
 have R6 := za.mk (Q_R6 hb6_)
 clear Q_R6
 clear hall hb0_ hb3_ hb4_ hb5_ hb6_ hb7_ hb8_ hb9_ hb10_ hb11_
 obtain ⟨Ar, cr, eo_⟩ := Kd.S_slice R6.out
 subst eo_
 have HRW := za.mk (Kd.S_reads' R6.out).2.2
 have cp3 : wl.cell? ⟨w.heap.size, 3, none⟩ = some (.int .i64 a0_3) := (zl BP.out 3).trans rfl
 go_wp2_with fail
 refine (elim_New.calls a0_3 a3 wl y6 y7 (by omega) (by omega)).mono ?_
 rintro e w3 ⟨g, rfl, hsys, hb3⟩
 have HSYS := za.mk hsys
 have HB3 := za.mk hb3
 have BP3 := za.mk (zy BP.out hb3)
 have cq0 : w3.cell? ⟨w.heap.size, 0, none⟩ = some (.int .i64 (l2.length : Int)) := (zl BP3.out 0).trans rfl
 clear hsys hb3 cp3 BP3
 go_wp2
 clear cq0
 go_loopg [60] k (fun kq v60 w' => ∃ (i : Int) (kept : List EQ2) (at_ : List Int), v60 = .int .i64 i ∧ 0 ≤ i ∧ i ≤ (rows.length : Int) ∧ za (zqb.l0 kq a0_3 a0_1 a0_2 a3 rows l2 i kept at_ = some (kf, af)) ∧ za (SysO w' wl.heap.size (fun k => wl.heap.size ≤ k) g a0_3 a3 kept at_ false) ∧ za (Below wl.heap.size wl w'))
 case atStart => exact ⟨0, [], List.replicate a0_3.toNat (-1), rfl, by omega, by omega, HF, HSYS, HB3⟩
 case round =>
  clear HF HSYS HB3
  obtain ⟨i, kept, at_, rfl, hi0, hi1, HA, HSYS, HB3⟩ := hrel
  cases kq_ : gk with
  | zero => subst kq_; exact absurd HA.out (by simp [zqb.l0])
  | succ k1 =>
  subst kq_
  have H := HA.out
  clear HA
  simp only [zqb.l0] at H
  have hmax : rows.length ≤ 9223372036854775807 := Kd.C_max HRW.out
  by_cases t1 : i < (rows.length : Int)
  ·rw [if_pos t1] at H
   have b3 : decide (i < (rows.length : Int)) = true := decide_eq_true t1
   by_cases t2 : fitsB a0_3 (rows.getD i.toNat []) = true ∧ i - a0_1 - a0_2 < (l2.length : Int) ∧ ((zld l2 a0_1 a0_2 a3 i).length : Int) = a3
   case neg => rw [if_neg t2] at H; exact absurd H (by simp)
   rw [if_pos t2] at H
   obtain ⟨t3, t4, t5⟩ := t2
   obtain ⟨⟨q0, kept', at', cl'⟩, hadd, H⟩ := Option.bind_eq_some_iff.mp H
   cases cl' with
   | true => simp at H
   | false =>
   simp only [if_true] at H
   obtain ⟨ad, c, ea, _, hK, hcells⟩ := Kd.C_get HRW.out [] i hi0 t1
   cases ea
   obtain ⟨Aw, cw, rfl, hlw, hcw⟩ := hK
   have hx0 := hcells 0 _ rfl
   have hx1 : wr.cell? (ad.add i.toNat) = some (.slice Aw (rows.getD i.toNat []).length cw) := (HB3.out.cell (World.block_lt_of_cell? wl _ (by simpa [Kd.slice] using hx0))).trans (by simpa [Kd.slice] using hx0)
   clear hx0 hcells
   have HFIT := za.mk (fitsB_fits t3)
   have HADD := za.mk hadd
   have HFN := za.mk H
   have HCW := za.mk hcw
   clear H hadd t3 hcw
   generalize rows.getD i.toNat [] = row at *
   have hi0' := eq_true hi0
   have t1' := eq_true t1
   have x6_ : IntKind.i64.wrap (i + 1) = i + 1 := IntWalk.i64_in _ (by omega)
   have x7_ : IntKind.i64.wrap (i - a0_1) = i - a0_1 := IntWalk.i64_in _ (by omega)
   have x8_ : IntKind.i64.wrap (i - a0_1 - a0_2) = i - a0_1 - a0_2 := IntWalk.i64_in _ (by omega)
   have HSZ : za (0 ≤ a3 ∧ a3.toNat * 1 ≤ 281474976710656) := ⟨by omega, by omega⟩
   have BPr := za.mk (zy BP.out HB3.out)
   by_cases t6 : 0 ≤ i - a0_1 - a0_2
   ·have b4 : decide (i - a0_1 - a0_2 ≥ 0) = true := decide_eq_true t6
    have hsy : zld l2 a0_1 a0_2 a3 i = l2.getD (i - a0_1 - a0_2).toNat [] := if_pos t6
    rw [hsy] at t5 HADD
    clear hsy
    obtain ⟨ad2, c', ea, _, hK, hcells⟩ := Kd.C_get HR2.out [] (i - a0_1 - a0_2) t6 t4
    cases ea
    obtain ⟨Az, cz, rfl, hlz, hcz⟩ := hK
    have hz0 : w.cell? (ad2.add (i - a0_1 - a0_2).toNat) = some (.slice Az (l2.getD (i - a0_1 - a0_2).toNat []).length cz) := by have := hcells 0 _ rfl; simpa [Kd.slice] using this
    have HCZ := za.mk hcz
    clear hcells hcz
    generalize l2.getD (i - a0_1 - a0_2).toNat [] = sym at *
    have t6' := eq_true t6
    have t4' := eq_true t4
    have HT5 := za.mk t5
    have HZ0 := za.mk hz0
    clear t5 hz0
    go_wp2_with ((with_reducible refine zza (N := 66) rfl ?_); refine Kd.R_make (Kd.int .u8) _ 5 rfl (N := 66) rfl 43 _ _ rfl a3 rfl rfl Tryz.underlying43 (.int .u8 0) 1 info5 rfl (by decide) (by omega) 0 (ok := fun _ => True) (okp := fun _ => True) rfl (fun _ hk => hk) trivial HSZ.out.1 HSZ.out.2 (Below.refl _ _) (Nat.le_refl _) ?_; intro v4 w4 ho4 hb4 _ hnew4; have HB4 := za.mk (zk HB3.out hb4); have HS4 := za.mk (SysO.below HSYS.out hb4); have BP4 := za.mk (zy BPr.out hb4); have HBw := za.mk (zk HB.out HB4.out); have c41 : w4.cell? ⟨w.heap.size, 1, none⟩ = some (.int .i64 a0_1) := (zl BP4.out 1).trans rfl; have c42 : w4.cell? ⟨w.heap.size, 2, none⟩ = some (.int .i64 a0_2) := (zl BP4.out 2).trans rfl; have hz4 : w4.cell? (ad2.add (i - a0_1 - a0_2).toNat) = some (.slice Az sym.length cz) := (HBw.out.cell (World.block_lt_of_cell? w _ HZ0.out)).trans HZ0.out; clear ho4 hb4 hnew4 HSYS HB3 BPr hx1)
    refine (zkd.calls k1 wl.heap.size (fun k => wl.heap.size ≤ k) g a0_3 a3 kept at_ Aw cw row Az cz sym q0 kept' at' false _ HS4.out (Kd.znd HCW.out HB4.out) (Kd.znd HCZ.out HBw.out) (Tab.below HT.out HBw.out) HFIT.out HT5.out HADD.out).mono ?_
    rintro e w5 ⟨rfl, hs5, hb5, _⟩
    have HS5 := za.mk (hs5.mono (P' := fun k => wl.heap.size ≤ k) (fun k hk => hk.elim id (fun h => Nat.le_trans HB4.out.size h)))
    have HB5 := za.mk (HB4.out.trans hb5)
    clear hs5 hb5 HS4 HB4 c41 c42 hz4
    go_wp2
    go_roundg k1
    case measure => omega
    case rel => exact ⟨i + 1, kept', at', by first | rfl | rw [x6_], by omega, by omega, HFN, HS5, HB5⟩
   ·have b4 : decide (i - a0_1 - a0_2 ≥ 0) = false := decide_eq_false t6
    have hsy : zld l2 a0_1 a0_2 a3 i = List.replicate a3.toNat 0 := if_neg t6
    rw [hsy] at t5 HADD
    clear hsy
    have HT5 := za.mk t5
    clear t5
    go_wp2_with ((with_reducible refine zza (N := 66) rfl ?_); refine Kd.R_make (Kd.int .u8) _ 5 rfl (N := 66) rfl 43 _ _ rfl a3 rfl rfl Tryz.underlying43 (.int .u8 0) 1 info5 rfl (by decide) (by omega) 0 (ok := fun _ => True) (okp := fun _ => True) rfl (fun _ hk => hk) trivial HSZ.out.1 HSZ.out.2 (Below.refl _ _) (Nat.le_refl _) ?_; intro v4 w4 ho4 hb4 _ hnew4; have HB4 := za.mk (zk HB3.out hb4); have HS4 := za.mk (SysO.below HSYS.out hb4); have BP4 := za.mk (zy BPr.out hb4); have HBw := za.mk (zk HB.out HB4.out); have c41 : w4.cell? ⟨w.heap.size, 1, none⟩ = some (.int .i64 a0_1) := (zl BP4.out 1).trans rfl; have c42 : w4.cell? ⟨w.heap.size, 2, none⟩ = some (.int .i64 a0_2) := (zl BP4.out 2).trans rfl; have HO4 := za.mk ho4; clear ho4 hb4 hnew4 HSYS HB3 BPr hx1; obtain ⟨Az, cz, eo_⟩ := Kd.zsc HO4.out; rw [List.length_replicate] at eo_; subst eo_; have HLR : za ((List.replicate a3.toNat (0 : Int)).length = a3.toNat) := ⟨List.length_replicate⟩)
    have hcr : Kd.C (Kd.int .u8) w4 Az (List.replicate a3.toNat (0 : Int)).length (List.replicate a3.toNat (0 : Int)) := (Kd.zsb HO4.out).2.2
    have HADDC := zkd.calls k1 wl.heap.size (fun k => wl.heap.size ≤ k) g a0_3 a3 kept at_ Aw cw row Az cz (List.replicate a3.toNat (0 : Int)) q0 kept' at' false _ HS4.out (Kd.znd HCW.out HB4.out) hcr (Tab.below HT.out HBw.out) HFIT.out HT5.out HADD.out
    rw [show Value.slice Az (List.replicate a3.toNat (0 : Int)).length cz = .slice Az a3.toNat cz from by rw [List.length_replicate]] at HADDC
    refine HADDC.mono ?_
    rintro e w5 ⟨rfl, hs5, hb5, _⟩
    have HS5 := za.mk (hs5.mono (P' := fun k => wl.heap.size ≤ k) (fun k hk => hk.elim id (fun h => Nat.le_trans HB4.out.size h)))
    have HB5 := za.mk (HB4.out.trans hb5)
    clear hs5 hb5 HS4 HB4 c41 c42 HADDC HO4
    go_wp2
    go_roundg k1
    case measure => omega
    case rel => exact ⟨i + 1, kept', at', by first | rfl | rw [x6_], by omega, by omega, HFN, HS5, HB5⟩
  ·rw [if_neg t1] at H
   have b3 : decide (i < (rows.length : Int)) = false := decide_eq_false t1
   simp only [Option.some.injEq, Prod.mk.injEq] at H
   obtain ⟨rfl, rfl⟩ := H
   have ew : ((kept.length : Int) == a0_3 && !false) = true := by rw [HKF.out]; simp
   go_wp2_with fail
   refine (elim_Whole.calls g a0_3 a3 kept at_ false _ (SysO.reads HSYS.out)).mono ?_
   rintro e w5 ⟨rfl, ⟨m5, rfl⟩⟩
   rw [ew]
   clear ew
   go_wp2_with fail
   refine (zef.calls k g a0_3 a3 kept at_ o _ (SysR.below (SysO.reads HSYS.out) (zb (Below.refl _ _) _)) (Tab.below HT.out (zb (zk HB.out HB3.out) m5)) HALL.out).mono ?_
   rintro e w6 ⟨v6, rfl, ho6, hb6⟩
   have HO6 := za.mk (Kd.S_lower ho6 (zb (zk HB.out HB3.out) m5).size)
   have HB6 := za.mk (zk (zb (zk HB.out HB3.out) m5) hb6)
   clear ho6 hb6
   obtain ⟨Ao, co, eo_⟩ := Kd.S_slice HO6.out
   subst eo_
   go_wp2_with fail
   refine (zfb.calls _ none none _ rfl).mono ?_
   rintro e w7 ⟨rfl, ⟨m7, rfl⟩⟩
   simp only [zn]
   go_wp2
   go_ret2
   exact ⟨_, rfl, Kd.zed HO6.out m7, zb HB6.out m7⟩
def zhc.l0 : Nat → Int → Int → Int → Int → Int → List Int → Int → Option Int
 | 0, _, _, _, _, _, _, _ => none
 | k + 1, p0, p1, p2, p3, p4, fl, s => if s < 65536 then ((zyc.f k p0 p1 p2 p3 p4 s fl).bind fun n => if n.2.isNone = true then (if n.1 < p3 then zhc.l0 k p0 p1 p2 p3 p4 fl (s + 1) else some s) else none) else none
def zhc.f (k : Nat) (a0 : Int) : Option (Int × Option Int) :=
 (zgb.f k a0).bind fun p => if p.2.2.2.2.2.isNone = true then ((zfd.f k a0).bind fun fl => (zhc.l0 k p.1 p.2.1 p.2.2.1 p.2.2.2.1 p.2.2.2.2.1 fl 0).bind fun s => some (s, none)) else none
def zhc.T7 : Bool × List (List Nat × List Nat) := (true, [([], []), ([], []), ([], []), ([2], [2]), ([0, 1, 3, 3], [0, 1, 3]), ([4], [4]), ([5], [5]), ([5], [5]), ([6, 4, 0, 1, 2, 3, 4, 5, 6], [6]), ([7, 8, 0, 1, 2, 3, 4, 5, 6, 7, 8], [7])])
def zhc.B7 : List Nat := [0, 0, 0, 4, 15, 31, 63, 63, 127, 511]
theorem zhc.tab7 : rtab .any (opsOf Tryz.f10 7) = zhc.T7 := by kernel_rfl
theorem zhc.bits7 : waitsOk zhc.T7.2 zhc.B7 = true := by kernel_rfl
theorem zhc.calls (k : Nat) (a0 : Int) (r1 : Int) (r2 : Option Int) (w : World) (h : zhc.f k a0 = some (r1, r2)) (hT : Tab w) :
  Calls Tryz.prog 10 #[.int .i64 a0] w fun e w' => e = .returned (.tuple #[.int .i64 r1, errW r2]) ∧ Below w.heap.size w w' := by
 unfold zhc.f at h
 obtain ⟨⟨p0, p1, p2, p3, p4, er⟩, hp, h⟩ := Option.bind_eq_some_iff.mp h
 cases er with
 | some _ => simp at h
 | none =>
 simp only [Option.isNone_none, if_true] at h
 obtain ⟨fl, hfl, h⟩ := Option.bind_eq_some_iff.mp h
 obtain ⟨s, hs, h⟩ := Option.bind_eq_some_iff.mp h
 simp only [Option.some.injEq, Prod.mk.injEq] at h
 obtain ⟨rfl, rfl⟩ := h
 have HP := za.mk hp
 have HFL := za.mk hfl
 have HF := za.mk hs
 have HT := za.mk hT
 clear hp hfl hs hT
 simp only [zn]
 go_enter Tryz.func10, Tryz.ntmps10
 go_wp2_with fail
 go_step3
 go_wp2_with fail
 refine (zgb.calls k a0 p0 p1 p2 p3 p4 none _ HP.out).mono ?_
 rintro e w1 ⟨rfl, hb⟩
 simp only [zn]
 have B4 := za.mk (zif w1 (.cells #[.int .i64 p0, .int .i64 p1, .int .i64 p2, .int .i64 p3, .int .i64 p4] 23 (0, 0)))
 have HB := za.mk (ze hb (.cells #[.int .i64 p0, .int .i64 p1, .int .i64 p2, .int .i64 p3, .int .i64 p4] 23))
 clear hb
 go_wp2
 go_step3
 go_wp2
 generalize w1.heap.size = g4 at *
 go_loopg [18] k (fun kq v18 w' => ∃ (sd : Int), v18 = .int .i64 sd ∧ 0 ≤ sd ∧ sd ≤ 65536 ∧ za (zhc.l0 kq p0 p1 p2 p3 p4 fl sd = some s) ∧ za (w'.heap[g4]? = some (.cells #[.int .i64 p0, .int .i64 p1, .int .i64 p2, .int .i64 p3, .int .i64 p4] 23 (0, 0))) ∧ za (Below w.heap.size w w'))
 case atStart => exact ⟨0, rfl, by omega, by omega, HF, B4, HB⟩
 case round =>
  clear HF B4 HB
  obtain ⟨sd, rfl, hi0, hi1, HA, B4, HB⟩ := hrel
  cases kq_ : gk with
  | zero => subst kq_; exact absurd HA.out (by simp [zhc.l0])
  | succ k1 =>
  subst kq_
  have H := HA.out
  clear HA
  simp only [zhc.l0] at H
  by_cases t1 : sd < 65536
  case neg => rw [if_neg t1] at H; exact absurd H (by simp)
  rw [if_pos t1] at H
  have b1 : decide (sd < 65536) = true := decide_eq_true t1
  obtain ⟨⟨n, er⟩, hn, H⟩ := Option.bind_eq_some_iff.mp H
  cases er with
  | some _ => simp at H
  | none =>
  simp only [Option.isNone_none, if_true] at H
  have HN := za.mk hn
  have HH := za.mk H
  clear hn H
  go_wp2_with fail
  have n1_ := za.mk (zj B4.out)
  have n2_ := za.mk (zf HB.out)
  clear B4 HB
  have B4 := n1_
  have HB := n2_
  clear n1_ n2_
  refine zsf (n := 10) (S := fun w' => True) (ds := []) #[false, false, false, false, false, false, false, false, false, false] (by kernel_rfl) rfl rfl trivial (fun hHeld => ?_)
  refine zke zhc.tab7 zhc.bits7 (fun HT_ HW_ => ?_)
  generalize wr.drew = w2 at B4 HB hHeld ⊢
  refine pure_ (i := 1) (N := some 23) (v := ?_) (a' := ?_) #[false, true, false, false, false, false, false, false, false, false] rfl rfl (zvb HT_.out (by kernel_rfl)) (fun _ _ _ h => h) (Or.inl ⟨by rfl, ?_⟩) ?_ ?_
  rotate_left
  ·intro w'
   go_simp
   with_reducible rfl
  rotate_left
  ·simp only [Act.put, zw]
   rfl
  refine pure_ (i := 2) (N := some 24) (v := ?_) (a' := ?_) #[false, true, true, false, false, false, false, false, false, false] rfl rfl (zvb HT_.out (by kernel_rfl)) (fun _ _ _ h => h) (Or.inl ⟨by rfl, ?_⟩) ?_ ?_
  rotate_left
  ·intro w'
   go_simp
   with_reducible rfl
  rotate_left
  ·simp only [Act.put, zw]
   rfl
  refine inv_at [0, 3, 4, 5, 6, 7, 8, 9] (fun a0_ b a w' => ∃ (v3 : Value), a = putSel a0_ b [(0, 22, .agg #[.int .i64 p0, .int .i64 p1, .int .i64 p2, .int .i64 p3, .int .i64 p4]), (3, 25, v3), (4, 26, .tuple #[.int .i64 n, .nilIface]), (5, 21, .tuple #[.int .i64 n, .nilIface]), (6, 27, .int .i64 n), (7, 28, .nilIface), (8, 7, .int .i64 n), (9, 8, .nilIface)] ∧ (w'.heap[g4]? = some (.cells #[.int .i64 p0, .int .i64 p1, .int .i64 p2, .int .i64 p3, .int .i64 p4] 23 (0, 0))) ∧ (Below w.heap.size w w') ∧ (b 3 = true → b 4 = false → Kd.R (Kd.int .i64) 3 w' w.heap.size (fun _ => True) v3 fl)) HT_.out HW_.out (by kernel_rfl) (by kernel_rfl) ?_ ?_ ?_
  ·exact ⟨.bool false, by simp only [putSel, Bool.false_eq_true, if_false], B4.out, HB.out, fun h_ => absurd h_ (by decide)⟩
  ·skip
   clear B4 HB
   refine zfa ?_ ?_
   ·rintro b a w' ⟨v3, ha, Q_B4, Q_HB, Q_R3⟩ hb_ hon hoff
    refine ⟨_, rfl, fun K hK => ?_⟩
    have e4 : a.tmps[4]? = some (.pointer (some ⟨g4, 0, none⟩)) := by rw [ha]; exact (zlc rfl).trans rfl
    replace ha := za.mk ha
    have B4 := za.mk Q_B4
    have HB := za.mk Q_HB
    have z0_ := (zl B4.out 0).trans rfl
    have z1_ := (zl B4.out 1).trans rfl
    have z2_ := (zl B4.out 2).trans rfl
    have z3_ := (zl B4.out 3).trans rfl
    have z4_ := (zl B4.out 4).trans rfl
    refine zbd (w1 := w') (v := .agg #[.int .i64 p0, .int .i64 p1, .int .i64 p2, .int .i64 p3, .int .i64 p4]) (by rfl) rfl ?_ ?_
    ·go_simp
     (try simp only [i64_w])
     try rfl
    refine hK.out _ _ ⟨v3, (by rw [ha.out]; exact zla 0 hb_ rfl rfl rfl), Q_B4, Q_HB, Q_R3⟩
   refine zfa ?_ ?_
   ·rintro b a w' ⟨v3, ha, Q_B4, Q_HB, Q_R3⟩ hb_ hon hoff
    refine ⟨_, rfl, fun K hK => ?_⟩
    have e24 : a.tmps[24]? = some (.int .i64 a0) := by rw [ha]; exact (zlc rfl).trans rfl
    replace ha := za.mk ha
    have B4 := za.mk Q_B4
    have HB := za.mk Q_HB
    refine goes_ Tryz.func35 (by kernel_rfl) rfl #[.int .i64 a0] (by rfl) rfl rfl (by first | (simp only [List.map_toArray, List.map_cons, List.map_nil, Act.eval, Array.getD_eq_getD_getElem?, Option.getD_some, e24]; done) | (simp only [List.map_toArray, List.map_cons, List.map_nil, Act.eval, Array.getD_eq_getD_getElem?, Option.getD_some, e24]; rfl)) ?_
    refine (zfd.calls k a0 fl _ HFL.out).mono ?_
    rintro e w1' ⟨n3, rfl, ho, hb⟩
    refine ⟨_, rfl, ?_⟩
    refine hK.out _ _ ⟨n3, (by rw [ha.out]; exact zla 1 hb_ rfl rfl rfl), zy B4.out hb, zk HB.out hb, fun _ _ => Kd.zcd ho HB.out.size⟩
   refine zfa ?_ ?_
   ·rintro b a w' ⟨v3, ha, Q_B4, Q_HB, Q_R3⟩ hb_ hon hoff
    refine ⟨_, rfl, fun K hK => ?_⟩
    have e22 : a.tmps[22]? = some (.agg #[.int .i64 p0, .int .i64 p1, .int .i64 p2, .int .i64 p3, .int .i64 p4]) := by rw [ha]; exact zxa (e := (0, 22, .agg #[.int .i64 p0, .int .i64 p1, .int .i64 p2, .int .i64 p3, .int .i64 p4])) 0 rfl rfl (hon 0 (by kernel_rfl)) rfl
    have e23 : a.tmps[23]? = some (.int .i64 sd) := by rw [ha]; exact (zlc rfl).trans rfl
    have e25 : a.tmps[25]? = some (v3) := by rw [ha]; exact zxa (e := (3, 25, v3)) 1 rfl rfl (hon 3 (by kernel_rfl)) rfl
    replace ha := za.mk ha
    have B4 := za.mk Q_B4
    have HB := za.mk Q_HB
    have R3 := za.mk (Q_R3 (hon 3 (by kernel_rfl)) hb_)
    obtain ⟨A3, c3, eo_⟩ := Kd.zsc R3.out
    subst eo_
    refine goes_ Tryz.func34 (by kernel_rfl) rfl #[.agg #[.int .i64 p0, .int .i64 p1, .int .i64 p2, .int .i64 p3, .int .i64 p4], .int .i64 sd, .slice A3 fl.length c3] (by rfl) rfl rfl (by first | (simp only [List.map_toArray, List.map_cons, List.map_nil, Act.eval, Array.getD_eq_getD_getElem?, Option.getD_some, e22, e23, e25]; done) | (simp only [List.map_toArray, List.map_cons, List.map_nil, Act.eval, Array.getD_eq_getD_getElem?, Option.getD_some, e22, e23, e25]; rfl)) ?_
    refine (zyc.calls k1 p0 p1 p2 p3 p4 sd A3 c3 fl n none _ (Kd.zsb R3.out).2.2 (Kd.zsb R3.out).2.1 HN.out (Tab.below HT.out HB.out)).mono ?_
    rintro e w1' ⟨rfl, hb⟩
    simp only [zn]
    refine ⟨_, rfl, ?_⟩
    refine hK.out _ _ ⟨(.slice A3 fl.length c3), (by rw [ha.out]; exact zla 2 hb_ rfl rfl rfl), zy B4.out hb, zk HB.out hb, fun _ h1_ => absurd ((zie b 4).symm.trans h1_) (by decide)⟩
   refine zfa ?_ ?_
   ·rintro b a w' ⟨v3, ha, Q_B4, Q_HB, Q_R3⟩ hb_ hon hoff
    refine ⟨_, rfl, fun K hK => ?_⟩
    have e26 : a.tmps[26]? = some (.tuple #[.int .i64 n, .nilIface]) := by rw [ha]; exact zxa (e := (4, 26, .tuple #[.int .i64 n, .nilIface])) 2 rfl rfl (hon 4 (by kernel_rfl)) rfl
    replace ha := za.mk ha
    have B4 := za.mk Q_B4
    have HB := za.mk Q_HB
    refine zbd (w1 := w') (v := .tuple #[.int .i64 n, .nilIface]) (by rfl) rfl ?_ ?_
    ·go_simp
     (try simp only [i64_w])
     try rfl
    refine hK.out _ _ ⟨v3, (by rw [ha.out]; exact zla 3 hb_ rfl rfl rfl), Q_B4, Q_HB, fun _ h1_ => absurd ((hon 4 (by kernel_rfl)).symm.trans h1_) (by decide)⟩
   refine zfa ?_ ?_
   ·rintro b a w' ⟨v3, ha, Q_B4, Q_HB, Q_R3⟩ hb_ hon hoff
    refine ⟨_, rfl, fun K hK => ?_⟩
    have e21 : a.tmps[21]? = some (.tuple #[.int .i64 n, .nilIface]) := by rw [ha]; exact zxa (e := (5, 21, .tuple #[.int .i64 n, .nilIface])) 3 rfl rfl (hon 5 (by kernel_rfl)) rfl
    replace ha := za.mk ha
    have B4 := za.mk Q_B4
    have HB := za.mk Q_HB
    refine zbd (w1 := w') (v := .int .i64 n) (by rfl) rfl ?_ ?_
    ·go_simp
     (try simp only [i64_w])
     try rfl
    refine hK.out _ _ ⟨v3, (by rw [ha.out]; exact zla 4 hb_ rfl rfl rfl), Q_B4, Q_HB, fun _ h1_ => absurd ((hon 4 (by kernel_rfl)).symm.trans h1_) (by decide)⟩
   refine zfa ?_ ?_
   ·rintro b a w' ⟨v3, ha, Q_B4, Q_HB, Q_R3⟩ hb_ hon hoff
    refine ⟨_, rfl, fun K hK => ?_⟩
    have e21 : a.tmps[21]? = some (.tuple #[.int .i64 n, .nilIface]) := by rw [ha]; exact zxa (e := (5, 21, .tuple #[.int .i64 n, .nilIface])) 3 rfl rfl (hon 5 (by kernel_rfl)) rfl
    replace ha := za.mk ha
    have B4 := za.mk Q_B4
    have HB := za.mk Q_HB
    refine zbd (w1 := w') (v := .nilIface) (by rfl) rfl ?_ ?_
    ·go_simp
     (try simp only [i64_w])
     try rfl
    refine hK.out _ _ ⟨v3, (by rw [ha.out]; exact zla 5 hb_ rfl rfl rfl), Q_B4, Q_HB, fun _ h1_ => absurd ((hon 4 (by kernel_rfl)).symm.trans h1_) (by decide)⟩
   refine zfa ?_ ?_
   ·rintro b a w' ⟨v3, ha, Q_B4, Q_HB, Q_R3⟩ hb_ hon hoff
    refine ⟨_, rfl, fun K hK => ?_⟩
    have e27 : a.tmps[27]? = some (.int .i64 n) := by rw [ha]; exact zxa (e := (6, 27, .int .i64 n)) 4 rfl rfl (hon 6 (by kernel_rfl)) rfl
    replace ha := za.mk ha
    have B4 := za.mk Q_B4
    have HB := za.mk Q_HB
    refine zbd (w1 := w') (v := .int .i64 n) (by rfl) rfl ?_ ?_
    ·go_simp
     (try simp only [i64_w])
     try rfl
    refine hK.out _ _ ⟨v3, (by rw [ha.out]; exact zla 6 hb_ rfl rfl rfl), Q_B4, Q_HB, fun _ h1_ => absurd ((hon 4 (by kernel_rfl)).symm.trans h1_) (by decide)⟩
   refine zfa ?_ ?_
   ·rintro b a w' ⟨v3, ha, Q_B4, Q_HB, Q_R3⟩ hb_ hon hoff
    refine ⟨_, rfl, fun K hK => ?_⟩
    have e28 : a.tmps[28]? = some (.nilIface) := by rw [ha]; exact zxa (e := (7, 28, .nilIface)) 5 rfl rfl (hon 7 (by kernel_rfl)) rfl
    replace ha := za.mk ha
    have B4 := za.mk Q_B4
    have HB := za.mk Q_HB
    refine zbd (w1 := w') (v := .nilIface) (by rfl) rfl ?_ ?_
    ·go_simp
     (try simp only [i64_w])
     try rfl
    refine hK.out _ _ ⟨v3, (by rw [ha.out]; exact zla 7 hb_ rfl rfl rfl), Q_B4, Q_HB, fun _ h1_ => absurd ((hon 4 (by kernel_rfl)).symm.trans h1_) (by decide)⟩
   exact steps_nil
  rintro b a wl hall ⟨v3, ha, Q_B4, Q_HB, Q_R3⟩
  clear B4 HB
  have hb0_ := hall 0 (by kernel_rfl)
  have hb3_ := hall 3 (by kernel_rfl)
  have hb4_ := hall 4 (by kernel_rfl)
  have hb5_ := hall 5 (by kernel_rfl)
  have hb6_ := hall 6 (by kernel_rfl)
  have hb7_ := hall 7 (by kernel_rfl)
  have hb8_ := hall 8 (by kernel_rfl)
  have hb9_ := hall 9 (by kernel_rfl)
  subst ha
  simp only [putSel, hb0_, hb3_, hb4_, hb5_, hb6_, hb7_, hb8_, hb9_, if_true, Act.put, List.setIfInBounds_toArray, List.set_cons_zero, List.set_cons_succ]
  have B4 := za.mk Q_B4
  clear Q_B4
  have HB := za.mk Q_HB
  clear Q_HB
  clear Q_R3
  clear hall hb0_ hb3_ hb4_ hb5_ hb6_ hb7_ hb8_ hb9_
  have q3 : wl.cell? ⟨g4, 3, none⟩ = some (.int .i64 p3) := (zl B4.out 3).trans rfl
  have x6_ : IntKind.i64.wrap (sd + 1) = sd + 1 := IntWalk.i64_in _ (by omega)
  by_cases t2 : n < p3
  ·have b2 : decide (n < p3) = true := decide_eq_true t2
   have hh := HH.out
   rw [if_pos t2] at hh
   have HF2 := za.mk hh
   clear hh HH t2
   go_wp2
   go_roundg k1
   case measure => omega
   case rel => exact ⟨sd + 1, by first | rfl | rw [x6_], by omega, by omega, HF2, B4, HB⟩
  ·have b2 : decide (n < p3) = false := decide_eq_false t2
   have hh := HH.out
   rw [if_neg t2] at hh
   obtain rfl := Option.some.inj hh
   clear HH t2
   go_wp2
   first | go_ret2 | go_ret | (rw [Exit.noGoto_ret]; go_ret)
   exact ⟨rfl, HB.out⟩
mutual
def zba.j0 : Nat → Int → Int → Bool → Option (Int)
 | 0, _, _, _ => none
 | k + 1, x0, x1, x13 => if x13 = true then (some 0) else (zba.l0 k x0 (mn x1 (wrap64 (x0 - x1))) 1 1)
def zba.l0 : Nat → Int → Int → Int → Int → Option (Int)
 | 0, _, _, _, _ => none
 | k + 1, x0, x1, x5, x6 => if x6 ≤ x1 then (if x6 = 0 then (none) else (zba.l0 k x0 x1 (wrap64 (Int.tdiv (wrap64 (x5 * (wrap64 ((wrap64 (x0 - x1)) + x6)))) x6)) (wrap64 (x6 + 1)))) else (some x5)
end
def zba.f (k : Nat) (a0 : Int) (a1 : Int) : Option (Int) := if a1 < 0 then (zba.j0 k a0 a1 true) else (zba.j0 k a0 a1 (decide (a1 > a0)))
theorem zba.zse : ∀ k, (∀ y0 y1 y2, LeO (zba.j0 k y0 y1 y2) (zba.j0 (k + 1) y0 y1 y2)) ∧ (∀ y0 y1 y2 y3, LeO (zba.l0 k y0 y1 y2 y3) (zba.l0 (k + 1) y0 y1 y2 y3))
 | 0 => ⟨fun _ _ _ r h => by simp [zba.j0] at h, fun _ _ _ _ r h => by simp [zba.l0] at h⟩
 | k + 1 => by
  obtain ⟨ih0, ih1⟩ := zba.zse k
  refine ⟨?_, ?_⟩
  ·intro y0 y1 y2
   unfold zba.j0
   repeat' first
   | (with_reducible exact ih0 _ _ _)
   | (with_reducible exact ih1 _ _ _ _)
   | (with_reducible exact LeO.refl _)
   | (with_reducible exact LeO.none _)
   | (with_reducible refine LeO.ite ?_ ?_)
   | (with_reducible refine LeO.bind ?_ (fun _ => ?_))
   | exact ih0 _ _ _
   | exact ih1 _ _ _ _
   | exact LeO.none _
   | refine LeO.ite ?_ ?_
   | refine LeO.bind ?_ (fun _ => ?_)
  ·intro y0 y1 y2 y3
   unfold zba.l0
   repeat' first
   | (with_reducible exact ih0 _ _ _)
   | (with_reducible exact ih1 _ _ _ _)
   | (with_reducible exact LeO.refl _)
   | (with_reducible exact LeO.none _)
   | (with_reducible refine LeO.ite ?_ ?_)
   | (with_reducible refine LeO.bind ?_ (fun _ => ?_))
   | exact ih0 _ _ _
   | exact ih1 _ _ _ _
   | exact LeO.none _
   | refine LeO.ite ?_ ?_
   | refine LeO.bind ?_ (fun _ => ?_)
theorem zba.mono : ∀ a0 a1 k, LeO (zba.f k a0 a1) (zba.f (k + 1) a0 a1) := by
 intro a0 a1 k
 obtain ⟨ih0, ih1⟩ := zba.zse k
 unfold zba.f
 repeat' first
   | (with_reducible exact ih0 _ _ _)
   | (with_reducible exact ih1 _ _ _ _)
   | (with_reducible exact LeO.refl _)
   | (with_reducible exact LeO.none _)
   | (with_reducible refine LeO.ite ?_ ?_)
   | (with_reducible refine LeO.bind ?_ (fun _ => ?_))
   | exact ih0 _ _ _
   | exact ih1 _ _ _ _
   | exact LeO.none _
   | refine LeO.ite ?_ ?_
   | refine LeO.bind ?_ (fun _ => ?_)
theorem zba.calls (k : Nat) (a0 : Int) (a1 : Int) (r : Int) (w : World) (h : zba.f k a0 a1 = some r) :
  Calls Tryz.prog 59 #[.int .i64 a0, .int .i64 a1] w fun e w' => e = .returned (.int .i64 r) ∧ Below w.heap.size w w' := by
 have HB := za.mk (Below.refl w.heap.size w)
 have H : (if a1 < 0 then (zba.j0 k a0 a1 true) else (zba.j0 k a0 a1 (decide (a1 > a0)))) = some r := h
 clear h
 have HC3 := za.mk H
 clear H
 go_enter Tryz.func59, Tryz.ntmps59
 go_upto_region 1 with (fail)
 go_cut [13] (fun v13 wc => ∃ (kq : Nat) (x13_2 : Bool), v13 = .bool x13_2 ∧ za (zba.j0 kq a0 a1 x13_2 = some r) ∧ za (kq ≤ k) ∧ za (Below w.heap.size w wc))
 case first =>
  have H := HC3.out
  clear HC3
  by_cases c4 : a1 < 0
  ·rw [if_pos c4] at H
   have c4b0 : decide (a1 < 0) = true := decide_eq_true c4
   clear c4
   (first | rw [c4b0] | (simp only [i64_w, i32_w]; rw [c4b0]) | skip)
   have H' := za.mk H
   clear H
   go_wp2
   go_meet
   case rel => exact ⟨_, (true), (by first | rfl | simp [*]), H', ⟨by first | omega | exact Nat.le_refl _⟩, ⟨by apply_rules only [HB.out, ze, zb, zf]⟩⟩
  ·rw [if_neg c4] at H
   have c4b0 : decide (a1 < 0) = false := decide_eq_false c4
   clear c4
   (first | rw [c4b0] | (simp only [i64_w, i32_w]; rw [c4b0]) | skip)
   have H' := za.mk H
   clear H
   go_wp2
   go_meet
   case rel => exact ⟨_, (decide (a1 > a0)), (by first | rfl | simp [*]), H', ⟨by first | omega | exact Nat.le_refl _⟩, ⟨by apply_rules only [HB.out, ze, zb, zf]⟩⟩
 case rest =>
  clear HC3
  obtain ⟨kq, x13_2, rfl, HA, HJ2, HB⟩ := hcut
  cases kq with
  | zero => exact absurd HA.out (by simp [zba.j0])
  | succ kj2 =>
   have H := HA.out
   clear HA
   simp only [zba.j0] at H
   by_cases c5 : x13_2 = true
   ·subst c5
    have H1 : (some 0) = some r := by rw [if_pos rfl] at H; exact H
    clear H
    have H := H1
    clear H1
    obtain rfl := Option.some.inj H
    go_wp2
    go_ret
    exact ⟨by first | rfl | (simp [zn, zo] <;> rfl) | (simp [*, zn, zo] <;> rfl), by apply_rules only [HB.out, ze, zb, zf]⟩
   ·replace c5 := Bool.eq_false_iff.mpr c5
    subst c5
    have H1 : (zba.l0 kj2 a0 (mn a1 (wrap64 (a0 - a1))) 1 1) = some r := by rw [if_neg (show ¬ (false = true) by decide)] at H; exact H
    clear H
    have H := H1
    clear H1
    obtain ⟨ji6, hji6⟩ : ∃ j_ : Int, (mn a1 (wrap64 (a0 - a1))) = j_ := ⟨_, rfl⟩
    replace H : (zba.l0 kj2 a0 ji6 1 1) = some r := by first | (rw [hji6] at H; exact H) | (simp only [hji6] at H ⊢; exact H)
    have hji6_ : (if (wrap64 (a0 - a1)) < a1 then (wrap64 (a0 - a1)) else a1) = ji6 := hji6
    have H' := za.mk H
    clear H
    go_wp2
    go_loopg [5, 6] kj2 (fun kq v5 v6 w' => ∃ (x5_2 : Int) (x6_2 : Int), v5 = .int .i64 x5_2 ∧ v6 = .int .i64 x6_2 ∧ za (zba.l0 kq a0 ji6 x5_2 x6_2 = some r) ∧ za (kq ≤ kj2) ∧ za (Below w.heap.size w w'))
    case atStart => exact ⟨(1), (1), (by first | rfl | simp [*]), (by first | rfl | simp [*]), H', ⟨Nat.le_refl _⟩, ⟨by apply_rules only [HB.out, ze, zb, zf]⟩⟩
    case round =>
     clear H'
     obtain ⟨x5_2, x6_2, rfl, rfl, HA, HK2, HB⟩ := hrel
     cases gk with
     | zero => exact absurd HA.out (by simp [zba.l0])
     | succ k2 =>
      have H := HA.out
      clear HA
      simp only [zba.l0] at H
      by_cases c7 : x6_2 ≤ ji6
      ·rw [if_pos c7] at H
       have c7b0 : decide (x6_2 ≤ ji6) = true := decide_eq_true c7
       clear c7
       by_cases c8 : x6_2 = 0
       ·rw [if_pos c8] at H
        exact absurd H (by simp)
       ·rw [if_neg c8] at H
        have c8b0 : (x6_2 == 0) = false := beq_eq_false_iff_ne.mpr c8
        have c8b1 : (x6_2 != 0) = true := bne_iff_ne.mpr c8
        have H' := za.mk H
        clear H
        go_wp2
        go_roundg k2
        case measure => have := HJ2.out; have := HK2.out; omega
        case rel => exact ⟨(wrap64 (Int.tdiv (wrap64 (x5_2 * (wrap64 ((wrap64 (a0 - ji6)) + x6_2)))) x6_2)), (wrap64 (x6_2 + 1)), (by first | rfl | (simp; done) | (simp only [← hji6] <;> (first | rfl | simp)) | (simp [*]; done)), (by first | rfl | simp [*]), H', ⟨by have := HJ2.out; have := HK2.out; omega⟩, ⟨by apply_rules only [HB.out, ze, zb, zf]⟩⟩
      ·rw [if_neg c7] at H
       have c7b0 : decide (x6_2 ≤ ji6) = false := decide_eq_false c7
       clear c7
       obtain rfl := Option.some.inj H
       go_wp2
       go_ret
       exact ⟨by first | rfl | (simp [zn, zo] <;> rfl) | (simp only [← hji6]; first | rfl | (simp [zn, zo] <;> rfl)) | (simp [*, zn, zo] <;> rfl), by apply_rules only [HB.out, ze, zb, zf]⟩
def zzb.l0 : Nat → Int → Int → Option (Int)
 | 0, _, _ => none
 | k + 1, x0, x3 => if x3 < 60 then ((zba.f k x3 (wrap64 (x3 - (wrap64 (Int.tdiv x3 2))))).bind fun t102 => (if t102 < x0 then (zzb.l0 k x0 (wrap64 (x3 + 1))) else (some x3))) else (some x3)
def zzb.f (k : Nat) (a0 : Int) : Option (Int) := zzb.l0 k a0 0
theorem zzb.zse : ∀ k, (∀ y0 y1, LeO (zzb.l0 k y0 y1) (zzb.l0 (k + 1) y0 y1))
 | 0 => fun _ _ r h => by simp [zzb.l0] at h
 | k + 1 => by
  have ih0 := zzb.zse k
  ·intro y0 y1
   unfold zzb.l0
   repeat' first
   | (with_reducible exact ih0 _ _)
   | (with_reducible exact zba.mono _ _ _)
   | (with_reducible exact LeO.refl _)
   | (with_reducible exact LeO.none _)
   | (with_reducible refine LeO.ite ?_ ?_)
   | (with_reducible refine LeO.bind ?_ (fun _ => ?_))
   | exact ih0 _ _
   | exact zba.mono _ _ _
   | exact LeO.none _
   | refine LeO.ite ?_ ?_
   | refine LeO.bind ?_ (fun _ => ?_)
theorem zzb.mono : ∀ a0 k, LeO (zzb.f k a0) (zzb.f (k + 1) a0) := by
 intro a0 k
 have ih0 := zzb.zse k
 unfold zzb.f
 repeat' first
   | (with_reducible exact ih0 _ _)
   | (with_reducible exact zba.mono _ _ _)
   | (with_reducible exact LeO.refl _)
   | (with_reducible exact LeO.none _)
   | (with_reducible refine LeO.ite ?_ ?_)
   | (with_reducible refine LeO.bind ?_ (fun _ => ?_))
   | exact ih0 _ _
   | exact zba.mono _ _ _
   | exact LeO.none _
   | refine LeO.ite ?_ ?_
   | refine LeO.bind ?_ (fun _ => ?_)
theorem zzb.calls (k : Nat) (a0 : Int) (r : Int) (w : World) (h : zzb.f k a0 = some r) :
  Calls Tryz.prog 31 #[.int .i64 a0] w fun e w' => e = .returned (.int .i64 r) ∧ Below w.heap.size w w' := by
 have HB := za.mk (Below.refl w.heap.size w)
 have H : (zzb.l0 k a0 0) = some r := h
 clear h
 have H' := za.mk H
 clear H
 go_enter Tryz.func31, Tryz.ntmps31
 go_wp2
 go_loopg [3] k (fun kq v3 w' => ∃ (x3_1 : Int), v3 = .int .i64 x3_1 ∧ za (zzb.l0 kq a0 x3_1 = some r) ∧ za (kq ≤ k) ∧ za (Below w.heap.size w w'))
 case atStart => exact ⟨(0), (by first | rfl | simp [*]), H', ⟨Nat.le_refl _⟩, ⟨by apply_rules only [HB.out, ze, zb, zf]⟩⟩
 case round =>
  clear H'
  obtain ⟨x3_1, rfl, HA, HK1, HB⟩ := hrel
  cases gk with
  | zero => exact absurd HA.out (by simp [zzb.l0])
  | succ k1 =>
   have H := HA.out
   clear HA
   simp only [zzb.l0] at H
   by_cases c2 : x3_1 < 60
   ·rw [if_pos c2] at H
    have c2b0 : decide (x3_1 < 60) = true := decide_eq_true c2
    clear c2
    replace H := Option.bind_eq_some_iff.mp H
    obtain ⟨t102, A30, H⟩ := H
    replace H : (if t102 < a0 then (zzb.l0 k1 a0 (wrap64 (x3_1 + 1))) else (some x3_1)) = some r := H
    have A3 := za.mk A30
    clear A30
    by_cases c4 : t102 < a0
    ·rw [if_pos c4] at H
     have c4b0 : decide (t102 < a0) = true := decide_eq_true c4
     clear c4
     have H' := za.mk H
     clear H
     go_wp2_with (first | (go_at_call 59; (with_reducible refine (zba.calls k1 x3_1 (wrap64 (x3_1 - (wrap64 (Int.tdiv x3_1 2)))) t102 _ A3.out).mono ?_); rintro e w5 ⟨rfl, hb⟩; have n0_ := za.mk (zk (by apply_rules only [HB.out, ze, zb, zf]) hb); clear HB; have HB := n0_; clear n0_; (try clear hb); (try clear hb2); (try clear hk); (try clear hi)))
     go_roundg k1
     case measure => have := HK1.out; omega
     case rel => exact ⟨(wrap64 (x3_1 + 1)), (by first | rfl | simp [*]), H', ⟨by have := HK1.out; omega⟩, ⟨by apply_rules only [HB.out, ze, zb, zf]⟩⟩
    ·rw [if_neg c4] at H
     have c4b0 : decide (t102 < a0) = false := decide_eq_false c4
     clear c4
     obtain rfl := Option.some.inj H
     go_wp2_with (first | (go_at_call 59; (with_reducible refine (zba.calls k1 x3_1 (wrap64 (x3_1 - (wrap64 (Int.tdiv x3_1 2)))) t102 _ A3.out).mono ?_); rintro e w6 ⟨rfl, hb⟩; have n0_ := za.mk (zk (by apply_rules only [HB.out, ze, zb, zf]) hb); clear HB; have HB := n0_; clear n0_; (try clear hb); (try clear hb2); (try clear hk); (try clear hi)))
     go_ret
     exact ⟨by first | rfl | (simp [zn, zo] <;> rfl) | (simp [*, zn, zo] <;> rfl), by apply_rules only [HB.out, ze, zb, zf]⟩
   ·rw [if_neg c2] at H
    have c2b0 : decide (x3_1 < 60) = false := decide_eq_false c2
    clear c2
    obtain rfl := Option.some.inj H
    go_wp2
    go_ret
    exact ⟨by first | rfl | (simp [zn, zo] <;> rfl) | (simp [*, zn, zo] <;> rfl), by apply_rules only [HB.out, ze, zb, zf]⟩
mutual
def zu.j0 : Nat → Int → Bool → Option (Bool)
 | 0, _, _ => none
 | k + 1, x0, x9 => if x9 = true then (some false) else (zu.l0 k x0 2)
def zu.l0 : Nat → Int → Int → Option (Bool)
 | 0, _, _ => none
 | k + 1, x0, x3 => if x3 ≤ 256 then (zu.j2 k x0 x3 (decide (x3 < x0))) else (zu.j2 k x0 x3 false)
def zu.j2 : Nat → Int → Int → Bool → Option (Bool)
 | 0, _, _, _ => none
 | k + 1, x0, x3, x16 => if x16 = true then (if x3 = 0 then (none) else (if (Int.tmod x0 x3) = 0 then (some false) else (zu.l0 k x0 (wrap64 (x3 + 1))))) else (some true)
end
def zu.f (k : Nat) (a0 : Int) : Option (Bool) := if a0 < 2 then (zu.j0 k a0 true) else (zu.j0 k a0 (decide (a0 > 65536)))
theorem zu.zse : ∀ k, (∀ y0 y1, LeO (zu.j0 k y0 y1) (zu.j0 (k + 1) y0 y1)) ∧ (∀ y0 y1, LeO (zu.l0 k y0 y1) (zu.l0 (k + 1) y0 y1)) ∧ (∀ y0 y1 y2, LeO (zu.j2 k y0 y1 y2) (zu.j2 (k + 1) y0 y1 y2))
 | 0 => ⟨fun _ _ r h => by simp [zu.j0] at h, fun _ _ r h => by simp [zu.l0] at h, fun _ _ _ r h => by simp [zu.j2] at h⟩
 | k + 1 => by
  obtain ⟨ih0, ih1, ih2⟩ := zu.zse k
  refine ⟨?_, ?_, ?_⟩
  ·intro y0 y1
   unfold zu.j0
   repeat' first
   | (with_reducible exact ih0 _ _)
   | (with_reducible exact ih1 _ _)
   | (with_reducible exact ih2 _ _ _)
   | (with_reducible exact LeO.refl _)
   | (with_reducible exact LeO.none _)
   | (with_reducible refine LeO.ite ?_ ?_)
   | (with_reducible refine LeO.bind ?_ (fun _ => ?_))
   | exact ih0 _ _
   | exact ih1 _ _
   | exact ih2 _ _ _
   | exact LeO.none _
   | refine LeO.ite ?_ ?_
   | refine LeO.bind ?_ (fun _ => ?_)
  ·intro y0 y1
   unfold zu.l0
   repeat' first
   | (with_reducible exact ih0 _ _)
   | (with_reducible exact ih1 _ _)
   | (with_reducible exact ih2 _ _ _)
   | (with_reducible exact LeO.refl _)
   | (with_reducible exact LeO.none _)
   | (with_reducible refine LeO.ite ?_ ?_)
   | (with_reducible refine LeO.bind ?_ (fun _ => ?_))
   | exact ih0 _ _
   | exact ih1 _ _
   | exact ih2 _ _ _
   | exact LeO.none _
   | refine LeO.ite ?_ ?_
   | refine LeO.bind ?_ (fun _ => ?_)
  ·intro y0 y1 y2
   unfold zu.j2
   repeat' first
   | (with_reducible exact ih0 _ _)
   | (with_reducible exact ih1 _ _)
   | (with_reducible exact ih2 _ _ _)
   | (with_reducible exact LeO.refl _)
   | (with_reducible exact LeO.none _)
   | (with_reducible refine LeO.ite ?_ ?_)
   | (with_reducible refine LeO.bind ?_ (fun _ => ?_))
   | exact ih0 _ _
   | exact ih1 _ _
   | exact ih2 _ _ _
   | exact LeO.none _
   | refine LeO.ite ?_ ?_
   | refine LeO.bind ?_ (fun _ => ?_)
theorem zu.mono : ∀ a0 k, LeO (zu.f k a0) (zu.f (k + 1) a0) := by
 intro a0 k
 obtain ⟨ih0, ih1, ih2⟩ := zu.zse k
 unfold zu.f
 repeat' first
   | (with_reducible exact ih0 _ _)
   | (with_reducible exact ih1 _ _)
   | (with_reducible exact ih2 _ _ _)
   | (with_reducible exact LeO.refl _)
   | (with_reducible exact LeO.none _)
   | (with_reducible refine LeO.ite ?_ ?_)
   | (with_reducible refine LeO.bind ?_ (fun _ => ?_))
   | exact ih0 _ _
   | exact ih1 _ _
   | exact ih2 _ _ _
   | exact LeO.none _
   | refine LeO.ite ?_ ?_
   | refine LeO.bind ?_ (fun _ => ?_)
theorem zu.calls (k : Nat) (a0 : Int) (r : Bool) (w : World) (h : zu.f k a0 = some r) :
  Calls Tryz.prog 58 #[.int .i64 a0] w fun e w' => e = .returned (.bool r) ∧ zz w w' := by
 have H : (if a0 < 2 then (zu.j0 k a0 true) else (zu.j0 k a0 (decide (a0 > 65536)))) = some r := h
 clear h
 have HC2 := za.mk H
 clear H
 go_enter Tryz.func58, Tryz.ntmps58
 go_upto_region 1 with (fail)
 go_cut [9] (fun v9 wc => ∃ (kq : Nat) (x9_1 : Bool), v9 = .bool x9_1 ∧ za (zu.j0 kq a0 x9_1 = some r) ∧ za (kq ≤ k) ∧ zz w wc)
 case first =>
  have H := HC2.out
  clear HC2
  by_cases c3 : a0 < 2
  ·rw [if_pos c3] at H
   have c3b0 : decide (a0 < 2) = true := decide_eq_true c3
   clear c3
   (first | rw [c3b0] | (simp only [i64_w, i32_w]; rw [c3b0]) | skip)
   have H' := za.mk H
   clear H
   go_wp2
   go_meet
   case rel => exact ⟨_, (true), (by first | rfl | simp [*]), H', ⟨by first | omega | exact Nat.le_refl _⟩, by repeat (first | exact zz.refl _ | apply zz.step)⟩
  ·rw [if_neg c3] at H
   have c3b0 : decide (a0 < 2) = false := decide_eq_false c3
   clear c3
   (first | rw [c3b0] | (simp only [i64_w, i32_w]; rw [c3b0]) | skip)
   have H' := za.mk H
   clear H
   go_wp2
   go_meet
   case rel => exact ⟨_, (decide (a0 > 65536)), (by first | rfl | simp [*]), H', ⟨by first | omega | exact Nat.le_refl _⟩, by repeat (first | exact zz.refl _ | apply zz.step)⟩
 case rest =>
  clear HC2
  obtain ⟨kq, x9_1, rfl, HA, HJ1, ⟨mc1, rfl⟩⟩ := hcut
  cases kq with
  | zero => exact absurd HA.out (by simp [zu.j0])
  | succ kj1 =>
   have H := HA.out
   clear HA
   simp only [zu.j0] at H
   by_cases c4 : x9_1 = true
   ·subst c4
    have H1 : (some false) = some r := by rw [if_pos rfl] at H; exact H
    clear H
    have H := H1
    clear H1
    obtain rfl := Option.some.inj H
    go_wp2
    go_ret
    exact ⟨by first | rfl | (simp; done) | (simp [*]; done), by repeat (first | exact zz.refl _ | apply zz.step)⟩
   ·replace c4 := Bool.eq_false_iff.mpr c4
    subst c4
    have H1 : (zu.l0 kj1 a0 2) = some r := by rw [if_neg (show ¬ (false = true) by decide)] at H; exact H
    clear H
    have H := H1
    clear H1
    have H' := za.mk H
    clear H
    go_wp2
    go_loopg [3] kj1 (fun kq v3 w' => ∃ (x3_2 : Int), v3 = .int .i64 x3_2 ∧ za (zu.l0 kq a0 x3_2 = some r) ∧ za (kq ≤ kj1) ∧ zz w w')
    case atStart => exact ⟨(2), (by first | rfl | simp [*]), H', ⟨Nat.le_refl _⟩, by repeat (first | exact zz.refl _ | apply zz.step)⟩
    case round =>
     clear H'
     obtain ⟨x3_2, rfl, HA, HK2, ⟨m2, rfl⟩⟩ := hrel
     cases gk with
     | zero => exact absurd HA.out (by simp [zu.l0])
     | succ k2 =>
      have H := HA.out
      clear HA
      simp only [zu.l0] at H
      have HC5 := za.mk H
      clear H
      go_upto_region 4 with (fail)
      go_cut [16] (fun v16 wc => ∃ (kq : Nat) (x16_4 : Bool), v16 = .bool x16_4 ∧ za (zu.j2 kq a0 x3_2 x16_4 = some r) ∧ za (kq ≤ k2) ∧ zz w wc)
      case first =>
       have H := HC5.out
       clear HC5
       by_cases c6 : x3_2 ≤ 256
       ·rw [if_pos c6] at H
        have c6b0 : decide (x3_2 ≤ 256) = true := decide_eq_true c6
        clear c6
        (first | rw [c6b0] | (simp only [i64_w, i32_w]; rw [c6b0]) | skip)
        have H' := za.mk H
        clear H
        go_wp2
        go_meet
        case rel => exact ⟨_, (decide (x3_2 < a0)), (by first | rfl | simp [*]), H', ⟨by have := HJ1.out; have := HK2.out; first | omega | exact Nat.le_refl _⟩, by repeat (first | exact zz.refl _ | apply zz.step)⟩
       ·rw [if_neg c6] at H
        have c6b0 : decide (x3_2 ≤ 256) = false := decide_eq_false c6
        clear c6
        (first | rw [c6b0] | (simp only [i64_w, i32_w]; rw [c6b0]) | skip)
        have H' := za.mk H
        clear H
        go_wp2
        go_meet
        case rel => exact ⟨_, (false), (by first | rfl | simp [*]), H', ⟨by have := HJ1.out; have := HK2.out; first | omega | exact Nat.le_refl _⟩, by repeat (first | exact zz.refl _ | apply zz.step)⟩
      case rest =>
       clear HC5
       obtain ⟨kq, x16_4, rfl, HA, HJ4, ⟨mc4, rfl⟩⟩ := hcut
       cases kq with
       | zero => exact absurd HA.out (by simp [zu.j2])
       | succ kj4 =>
        have H := HA.out
        clear HA
        simp only [zu.j2] at H
        by_cases c7 : x16_4 = true
        ·subst c7
         have H1 : (if x3_2 = 0 then (none) else (if (Int.tmod a0 x3_2) = 0 then (some false) else (zu.l0 kj4 a0 (wrap64 (x3_2 + 1))))) = some r := by rw [if_pos rfl] at H; exact H
         clear H
         have H := H1
         clear H1
         by_cases c8 : x3_2 = 0
         ·rw [if_pos c8] at H
          exact absurd H (by simp)
         ·rw [if_neg c8] at H
          have c8b0 : (x3_2 == 0) = false := beq_eq_false_iff_ne.mpr c8
          have c8b1 : (x3_2 != 0) = true := bne_iff_ne.mpr c8
          by_cases c9 : (Int.tmod a0 x3_2) = 0
          ·rw [if_pos c9] at H
           have c9b0 : ((Int.tmod a0 x3_2) == 0) = true := beq_iff_eq.mpr c9
           have c9b1 : ((Int.tmod a0 x3_2) != 0) = false := bne_eq_false_iff_eq.mpr c9
           clear c9
           obtain rfl := Option.some.inj H
           go_wp2
           go_ret
           exact ⟨by first | rfl | (simp; done) | (simp [*]; done), by repeat (first | exact zz.refl _ | apply zz.step)⟩
          ·rw [if_neg c9] at H
           have c9b0 : ((Int.tmod a0 x3_2) == 0) = false := beq_eq_false_iff_ne.mpr c9
           have c9b1 : ((Int.tmod a0 x3_2) != 0) = true := bne_iff_ne.mpr c9
           have H' := za.mk H
           clear H
           go_wp2
           go_roundg kj4
           case measure => have := HJ1.out; have := HK2.out; have := HJ4.out; omega
           case rel => exact ⟨(wrap64 (x3_2 + 1)), (by first | rfl | simp [*]), H', ⟨by have := HJ1.out; have := HK2.out; have := HJ4.out; omega⟩, by repeat (first | exact zz.refl _ | apply zz.step)⟩
        ·replace c7 := Bool.eq_false_iff.mpr c7
         subst c7
         have H1 : (some true) = some r := by rw [if_neg (show ¬ (false = true) by decide)] at H; exact H
         clear H
         have H := H1
         clear H1
         obtain rfl := Option.some.inj H
         go_wp2
         go_ret
         exact ⟨by first | rfl | (simp; done) | (simp [*]; done), by repeat (first | exact zz.refl _ | apply zz.step)⟩
def zna.l0 : Nat → Int → Option (Int)
 | 0, _ => none
 | k + 1, x3 => if x3 < 65521 then ((zu.f k x3).bind fun t101 => (if t101 = true then (some x3) else (zna.l0 k (wrap64 (x3 + 1))))) else (some x3)
def zna.f (k : Nat) (a0 : Int) : Option (Int) := zna.l0 k (mx a0 2)
theorem zna.zse : ∀ k, (∀ y0, LeO (zna.l0 k y0) (zna.l0 (k + 1) y0))
 | 0 => fun _ r h => by simp [zna.l0] at h
 | k + 1 => by
  have ih0 := zna.zse k
  ·intro y0
   unfold zna.l0
   repeat' first
   | (with_reducible exact ih0 _)
   | (with_reducible exact zu.mono _ _)
   | (with_reducible exact LeO.refl _)
   | (with_reducible exact LeO.none _)
   | (with_reducible refine LeO.ite ?_ ?_)
   | (with_reducible refine LeO.bind ?_ (fun _ => ?_))
   | exact ih0 _
   | exact zu.mono _ _
   | exact LeO.none _
   | refine LeO.ite ?_ ?_
   | refine LeO.bind ?_ (fun _ => ?_)
theorem zna.mono : ∀ a0 k, LeO (zna.f k a0) (zna.f (k + 1) a0) := by
 intro a0 k
 have ih0 := zna.zse k
 unfold zna.f
 repeat' first
   | (with_reducible exact ih0 _)
   | (with_reducible exact zu.mono _ _)
   | (with_reducible exact LeO.refl _)
   | (with_reducible exact LeO.none _)
   | (with_reducible refine LeO.ite ?_ ?_)
   | (with_reducible refine LeO.bind ?_ (fun _ => ?_))
   | exact ih0 _
   | exact zu.mono _ _
   | exact LeO.none _
   | refine LeO.ite ?_ ?_
   | refine LeO.bind ?_ (fun _ => ?_)
theorem zna.calls (k : Nat) (a0 : Int) (r : Int) (w : World) (h : zna.f k a0 = some r) :
  Calls Tryz.prog 29 #[.int .i64 a0] w fun e w' => e = .returned (.int .i64 r) ∧ Below w.heap.size w w' := by
 have HB := za.mk (Below.refl w.heap.size w)
 have H : (zna.l0 k (mx a0 2)) = some r := h
 clear h
 obtain ⟨ji2, hji2⟩ : ∃ j_ : Int, (mx a0 2) = j_ := ⟨_, rfl⟩
 replace H : (zna.l0 k ji2) = some r := by first | (rw [hji2] at H; exact H) | (simp only [hji2] at H ⊢; exact H)
 (try (have hji2l : 2 ≤ ji2 := by (rw [← hji2]; unfold mx; (repeat' split) <;> omega)))
 (try (have hji2m : 0 ≤ ji2 := by omega))
 have hji2_ : (if a0 < 2 then 2 else a0) = ji2 := hji2
 have H' := za.mk H
 clear H
 go_enter Tryz.func29, Tryz.ntmps29
 go_wp2
 go_loopg [3] k (fun kq v3 w' => ∃ (x3_1 : Int), v3 = .int .i64 x3_1 ∧ za (zna.l0 kq x3_1 = some r) ∧ za (kq ≤ k) ∧ za (Below w.heap.size w w'))
 case atStart => exact ⟨(ji2), (by first | rfl | (simp; done) | (simp only [← hji2] <;> (first | rfl | simp)) | (simp [*]; done)), H', ⟨Nat.le_refl _⟩, ⟨by apply_rules only [HB.out, ze, zb, zf]⟩⟩
 case round =>
  clear H'
  obtain ⟨x3_1, rfl, HA, HK1, HB⟩ := hrel
  cases gk with
  | zero => exact absurd HA.out (by simp [zna.l0])
  | succ k1 =>
   have H := HA.out
   clear HA
   simp only [zna.l0] at H
   by_cases c3 : x3_1 < 65521
   ·rw [if_pos c3] at H
    have c3b0 : decide (x3_1 < 65521) = true := decide_eq_true c3
    clear c3
    replace H := Option.bind_eq_some_iff.mp H
    obtain ⟨t101, A40, H⟩ := H
    replace H : (if t101 = true then (some x3_1) else (zna.l0 k1 (wrap64 (x3_1 + 1)))) = some r := H
    have A4 := za.mk A40
    clear A40
    by_cases c5 : t101 = true
    ·subst c5
     have H1 : (some x3_1) = some r := by rw [if_pos rfl] at H; exact H
     clear H
     have H := H1
     clear H1
     obtain rfl := Option.some.inj H
     go_wp2_with (first | (go_at_call 58; (with_reducible refine (zu.calls k1 x3_1 true _ A4.out).mono ?_); rintro e w' ⟨rfl, ⟨nd, rfl⟩⟩))
     go_ret
     exact ⟨by first | rfl | (simp [zn, zo] <;> rfl) | (simp only [← hji2]; first | rfl | (simp [zn, zo] <;> rfl)) | (simp [*, zn, zo] <;> rfl), by apply_rules only [HB.out, ze, zb, zf]⟩
    ·replace c5 := Bool.eq_false_iff.mpr c5
     subst c5
     have H1 : (zna.l0 k1 (wrap64 (x3_1 + 1))) = some r := by rw [if_neg (show ¬ (false = true) by decide)] at H; exact H
     clear H
     have H := H1
     clear H1
     have H' := za.mk H
     clear H
     go_wp2_with (first | (go_at_call 58; (with_reducible refine (zu.calls k1 x3_1 false _ A4.out).mono ?_); rintro e w' ⟨rfl, ⟨nd, rfl⟩⟩))
     go_roundg k1
     case measure => have := HK1.out; omega
     case rel => exact ⟨(wrap64 (x3_1 + 1)), (by first | rfl | simp [*]), H', ⟨by have := HK1.out; omega⟩, ⟨by apply_rules only [HB.out, ze, zb, zf]⟩⟩
   ·rw [if_neg c3] at H
    have c3b0 : decide (x3_1 < 65521) = false := decide_eq_false c3
    clear c3
    obtain rfl := Option.some.inj H
    go_wp2
    go_ret
    exact ⟨by first | rfl | (simp [zn, zo] <;> rfl) | (simp only [← hji2]; first | rfl | (simp [zn, zo] <;> rfl)) | (simp [*, zn, zo] <;> rfl), by apply_rules only [HB.out, ze, zb, zf]⟩
def zfc.l0 : Nat → Int → Int → Option (Int)
 | 0, _, _ => none
 | k + 1, x0, x3 => if x3 < 1000 then (if (wrap64 (x3 * (wrap64 (x3 - 1)))) < (wrap64 (2 * x0)) then (zfc.l0 k x0 (wrap64 (x3 + 1))) else (some x3)) else (some x3)
def zfc.f (k : Nat) (a0 : Int) : Option (Int) := zfc.l0 k a0 1
theorem zfc.zse : ∀ k, (∀ y0 y1, LeO (zfc.l0 k y0 y1) (zfc.l0 (k + 1) y0 y1))
 | 0 => fun _ _ r h => by simp [zfc.l0] at h
 | k + 1 => by
  have ih0 := zfc.zse k
  ·intro y0 y1
   unfold zfc.l0
   repeat' first
   | (with_reducible exact ih0 _ _)
   | (with_reducible exact LeO.refl _)
   | (with_reducible exact LeO.none _)
   | (with_reducible refine LeO.ite ?_ ?_)
   | (with_reducible refine LeO.bind ?_ (fun _ => ?_))
   | exact ih0 _ _
   | exact LeO.none _
   | refine LeO.ite ?_ ?_
   | refine LeO.bind ?_ (fun _ => ?_)
theorem zfc.mono : ∀ a0 k, LeO (zfc.f k a0) (zfc.f (k + 1) a0) := by
 intro a0 k
 have ih0 := zfc.zse k
 unfold zfc.f
 repeat' first
   | (with_reducible exact ih0 _ _)
   | (with_reducible exact LeO.refl _)
   | (with_reducible exact LeO.none _)
   | (with_reducible refine LeO.ite ?_ ?_)
   | (with_reducible refine LeO.bind ?_ (fun _ => ?_))
   | exact ih0 _ _
   | exact LeO.none _
   | refine LeO.ite ?_ ?_
   | refine LeO.bind ?_ (fun _ => ?_)
theorem zfc.calls (k : Nat) (a0 : Int) (r : Int) (w : World) (h : zfc.f k a0 = some r) :
  Calls Tryz.prog 30 #[.int .i64 a0] w fun e w' => e = .returned (.int .i64 r) ∧ zz w w' := by
 have H : (zfc.l0 k a0 1) = some r := h
 clear h
 have H' := za.mk H
 clear H
 go_enter Tryz.func30, Tryz.ntmps30
 go_wp2
 go_loopg [3] k (fun kq v3 w' => ∃ (x3_1 : Int), v3 = .int .i64 x3_1 ∧ za (zfc.l0 kq a0 x3_1 = some r) ∧ za (kq ≤ k) ∧ zz w w')
 case atStart => exact ⟨(1), (by first | rfl | simp [*]), H', ⟨Nat.le_refl _⟩, by repeat (first | exact zz.refl _ | apply zz.step)⟩
 case round =>
  clear H'
  obtain ⟨x3_1, rfl, HA, HK1, ⟨m1, rfl⟩⟩ := hrel
  cases gk with
  | zero => exact absurd HA.out (by simp [zfc.l0])
  | succ k1 =>
   have H := HA.out
   clear HA
   simp only [zfc.l0] at H
   by_cases c2 : x3_1 < 1000
   ·rw [if_pos c2] at H
    have c2b0 : decide (x3_1 < 1000) = true := decide_eq_true c2
    clear c2
    by_cases c3 : (wrap64 (x3_1 * (wrap64 (x3_1 - 1)))) < (wrap64 (2 * a0))
    ·rw [if_pos c3] at H
     have c3b0 : decide ((wrap64 (x3_1 * (wrap64 (x3_1 - 1)))) < (wrap64 (2 * a0))) = true := decide_eq_true c3
     clear c3
     have H' := za.mk H
     clear H
     go_wp2
     go_roundg k1
     case measure => have := HK1.out; omega
     case rel => exact ⟨(wrap64 (x3_1 + 1)), (by first | rfl | simp [*]), H', ⟨by have := HK1.out; omega⟩, by repeat (first | exact zz.refl _ | apply zz.step)⟩
    ·rw [if_neg c3] at H
     have c3b0 : decide ((wrap64 (x3_1 * (wrap64 (x3_1 - 1)))) < (wrap64 (2 * a0))) = false := decide_eq_false c3
     clear c3
     obtain rfl := Option.some.inj H
     go_wp2
     go_ret
     exact ⟨by first | rfl | (simp; done) | (simp [*]; done), by repeat (first | exact zz.refl _ | apply zz.step)⟩
   ·rw [if_neg c2] at H
    have c2b0 : decide (x3_1 < 1000) = false := decide_eq_false c2
    clear c2
    obtain rfl := Option.some.inj H
    go_wp2
    go_ret
    exact ⟨by first | rfl | (simp; done) | (simp [*]; done), by repeat (first | exact zz.refl _ | apply zz.step)⟩
def zkb.j0 : Nat → Int → Int → Option (Int × Int × Int × Int × Int)
 | 0, _, _ => none
 | k + 1, x0, x3 => (zfc.f k x0).bind fun t104 => ((zna.f k (wrap64 (x3 + t104))).bind fun t105 => ((zzb.f k (wrap64 (x0 + t105))).bind fun t106 => ((zna.f k (wrap64 ((wrap64 (x0 + t105)) + t106))).bind fun t107 => (some (x0, t105, t106, wrap64 ((wrap64 (x0 + t105)) + t106), t107)))))
def zkb.f (k : Nat) (a0 : Int) : Option (Int × Int × Int × Int × Int) := if (Int.tmod a0 100) > 0 then (zkb.j0 k a0 (wrap64 ((wrap64 (Int.tdiv a0 100)) + 1))) else (zkb.j0 k a0 (wrap64 (Int.tdiv a0 100)))
theorem zkb.zse : ∀ k, (∀ y0 y1, LeO (zkb.j0 k y0 y1) (zkb.j0 (k + 1) y0 y1))
 | 0 => fun _ _ r h => by simp [zkb.j0] at h
 | k + 1 => by
  have ih0 := zkb.zse k
  ·intro y0 y1
   unfold zkb.j0
   repeat' first
   | (with_reducible exact ih0 _ _)
   | (with_reducible exact zzb.mono _ _)
   | (with_reducible exact zna.mono _ _)
   | (with_reducible exact zfc.mono _ _)
   | (with_reducible exact LeO.refl _)
   | (with_reducible exact LeO.none _)
   | (with_reducible refine LeO.ite ?_ ?_)
   | (with_reducible refine LeO.bind ?_ (fun _ => ?_))
   | exact ih0 _ _
   | exact zzb.mono _ _
   | exact zna.mono _ _
   | exact zfc.mono _ _
   | exact LeO.none _
   | refine LeO.ite ?_ ?_
   | refine LeO.bind ?_ (fun _ => ?_)
theorem zkb.mono : ∀ a0 k, LeO (zkb.f k a0) (zkb.f (k + 1) a0) := by
 intro a0 k
 have ih0 := zkb.zse k
 unfold zkb.f
 repeat' first
   | (with_reducible exact ih0 _ _)
   | (with_reducible exact zzb.mono _ _)
   | (with_reducible exact zna.mono _ _)
   | (with_reducible exact zfc.mono _ _)
   | (with_reducible exact LeO.refl _)
   | (with_reducible exact LeO.none _)
   | (with_reducible refine LeO.ite ?_ ?_)
   | (with_reducible refine LeO.bind ?_ (fun _ => ?_))
   | exact ih0 _ _
   | exact zzb.mono _ _
   | exact zna.mono _ _
   | exact zfc.mono _ _
   | exact LeO.none _
   | refine LeO.ite ?_ ?_
   | refine LeO.bind ?_ (fun _ => ?_)
theorem zkb.calls (k : Nat) (a0 : Int) (r1 : Int) (r2 : Int) (r3 : Int) (r4 : Int) (r5 : Int) (w : World) (h : zkb.f k a0 = some (r1, r2, r3, r4, r5)) :
  Calls Tryz.prog 9 #[.int .i64 a0] w fun e w' => e = .returned (.agg #[.int .i64 r1, .int .i64 r2, .int .i64 r3, .int .i64 r4, .int .i64 r5]) ∧ Below w.heap.size w w' := by
 have hu23 := Tryz.underlying23
 have HB := za.mk (Below.refl w.heap.size w)
 have H : (if (Int.tmod a0 100) > 0 then (zkb.j0 k a0 (wrap64 ((wrap64 (Int.tdiv a0 100)) + 1))) else (zkb.j0 k a0 (wrap64 (Int.tdiv a0 100)))) = some (r1, r2, r3, r4, r5) := h
 clear h
 have HC2 := za.mk H
 clear H
 go_enter Tryz.func9, Tryz.ntmps9
 go_upto_if 10 with (first | ((with_reducible refine zza (N := 2) rfl ?_); refine zgc ?hg (N := 2) ?hd (cs := #[.int .i64 0, .int .i64 0, .int .i64 0, .int .i64 0, .int .i64 0]) (t := 23) ?hr ?_; (case hd => rfl); (case hg => rfl); (case hr => first | (go_simp; done) | (go_simp; rfl)); intro gb103 hg w3 hbox hb; have n0_ := za.mk (zk (by apply_rules only [HB.out, ze, zb, zf]) hb); have n1_ := za.mk (hbox); have n2_ := za.mk ((by rw [hg]; exact (zm (by apply_rules only [HB.out, ze, zb, zf])) : w.heap.size ≤ gb103)); have n3_ := za.mk ((by rw [hg]; exact (zm (by apply_rules only [HB.out, ze, zb, zf])) : w.heap.size ≤ gb103)); clear HB; have HB := n0_; have BK103 := n1_; have GW103 := n2_; have GE103 := n3_; clear n0_ n1_ n2_ n3_; clear hb hbox hg))
 (try simp only [Act.put, List.setIfInBounds_toArray, List.set_cons_zero, List.set_cons_succ])
 go_cut [3] (fun v3 wc => ∃ (kq : Nat) (x3_1 : Int), v3 = .int .i64 x3_1 ∧ za (zkb.j0 kq a0 x3_1 = some (r1, r2, r3, r4, r5)) ∧ za (kq ≤ k) ∧ za (wc.heap[gb103]? = some (.cells #[.int .i64 0, .int .i64 0, .int .i64 0, .int .i64 0, .int .i64 0] 23 (0, 0))) ∧ za (Below w.heap.size w wc))
 case first =>
  have H := HC2.out
  clear HC2
  by_cases c4 : (Int.tmod a0 100) > 0
  ·rw [if_pos c4] at H
   have c4b0 : decide (0 < (Int.tmod a0 100)) = true := decide_eq_true c4
   clear c4
   (first | rw [c4b0] | (simp only [i64_w, i32_w]; rw [c4b0]) | skip)
   have H' := za.mk H
   clear H
   go_wp2
   go_meet
   case rel => exact ⟨_, (wrap64 ((wrap64 (Int.tdiv a0 100)) + 1)), (by first | rfl | simp [*]), H', ⟨by first | omega | exact Nat.le_refl _⟩, ⟨by apply_rules only [BK103.out, zh, zj, zi]⟩, ⟨by apply_rules only [HB.out, ze, zb, zf, fun h => zg h GE103.out]⟩⟩
  ·rw [if_neg c4] at H
   have c4b0 : decide (0 < (Int.tmod a0 100)) = false := decide_eq_false c4
   clear c4
   (first | rw [c4b0] | (simp only [i64_w, i32_w]; rw [c4b0]) | skip)
   have H' := za.mk H
   clear H
   go_wp2
   go_meet
   case rel => exact ⟨_, (wrap64 (Int.tdiv a0 100)), (by first | rfl | simp [*]), H', ⟨by first | omega | exact Nat.le_refl _⟩, ⟨by apply_rules only [BK103.out, zh, zj, zi]⟩, ⟨by apply_rules only [HB.out, ze, zb, zf, fun h => zg h GE103.out]⟩⟩
 case rest =>
  clear HC2
  obtain ⟨kq, x3_1, rfl, HA, HJ1, BK103, HB⟩ := hcut
  cases kq with
  | zero => exact absurd HA.out (by simp [zkb.j0])
  | succ kj1 =>
   have H := HA.out
   clear HA
   simp only [zkb.j0] at H
   replace H := Option.bind_eq_some_iff.mp H
   obtain ⟨t104, A50, H⟩ := H
   replace H : ((zna.f kj1 (wrap64 (x3_1 + t104))).bind fun t105 => ((zzb.f kj1 (wrap64 (a0 + t105))).bind fun t106 => ((zna.f kj1 (wrap64 ((wrap64 (a0 + t105)) + t106))).bind fun t107 => (some (a0, t105, t106, wrap64 ((wrap64 (a0 + t105)) + t106), t107))))) = some (r1, r2, r3, r4, r5) := H
   have A5 := za.mk A50
   clear A50
   replace H := Option.bind_eq_some_iff.mp H
   obtain ⟨t105, A60, H⟩ := H
   replace H : ((zzb.f kj1 (wrap64 (a0 + t105))).bind fun t106 => ((zna.f kj1 (wrap64 ((wrap64 (a0 + t105)) + t106))).bind fun t107 => (some (a0, t105, t106, wrap64 ((wrap64 (a0 + t105)) + t106), t107)))) = some (r1, r2, r3, r4, r5) := H
   have A6 := za.mk A60
   clear A60
   replace H := Option.bind_eq_some_iff.mp H
   obtain ⟨t106, A70, H⟩ := H
   replace H : ((zna.f kj1 (wrap64 ((wrap64 (a0 + t105)) + t106))).bind fun t107 => (some (a0, t105, t106, wrap64 ((wrap64 (a0 + t105)) + t106), t107))) = some (r1, r2, r3, r4, r5) := H
   have A7 := za.mk A70
   clear A70
   replace H := Option.bind_eq_some_iff.mp H
   obtain ⟨t107, A80, H⟩ := H
   replace H : (some (a0, t105, t106, wrap64 ((wrap64 (a0 + t105)) + t106), t107)) = some (r1, r2, r3, r4, r5) := H
   have A8 := za.mk A80
   clear A80
   simp only [Option.some.injEq, Prod.mk.injEq] at H
   obtain ⟨rfl, rfl, rfl, rfl, rfl⟩ := H
   go_wp2_with (first | ((with_reducible refine zaa (f := 30) rfl ?_); refine zmc (some 15) rfl rfl Tryz.func30 (by kernel_rfl) rfl #[.int .i64 a0] rfl (by (try simp only [zpa]); first | done | rfl | simp) ?_; (with_reducible refine (zfc.calls kj1 a0 t104 _ A5.out).mono ?_); rintro e w' ⟨rfl, ⟨nd, rfl⟩⟩; refine ⟨_, rfl, ?_⟩; (try (rw [drewN_self wc]; generalize hq_ : World.drewN wc _ = wc; have n0_ : za (wc.heap[gb103]? = some (.cells #[.int .i64 0, .int .i64 0, .int .i64 0, .int .i64 0, .int .i64 0] 23 (0, 0))) := ⟨by rw [← hq_]; exact (by apply_rules only [BK103.out, zh, zj, zi])⟩; have n1_ : za (Below w.heap.size w wc) := ⟨by rw [← hq_]; exact (by apply_rules only [HB.out, ze, zb, zf, fun h => zg h GE103.out])⟩; clear BK103 HB hq_; have BK103 := n0_; have HB := n1_; clear n0_ n1_))) | ((with_reducible refine zaa (f := 29) rfl ?_); refine zmc (some 17) rfl rfl Tryz.func29 (by kernel_rfl) rfl #[.int .i64 (wrap64 (x3_1 + t104))] rfl (by (try simp only [zpa]); first | done | rfl | simp) ?_; (with_reducible refine (zna.calls kj1 (wrap64 (x3_1 + t104)) t105 _ A6.out).mono ?_); rintro e w9 ⟨rfl, hb⟩; refine ⟨_, rfl, ?_⟩; have n0_ := za.mk (zy (g := gb103) (o := .cells #[.int .i64 0, .int .i64 0, .int .i64 0, .int .i64 0, .int .i64 0] 23 (0, 0)) (by apply_rules only [BK103.out, zh, zj, zi]) hb); have n1_ := za.mk (zk (by apply_rules only [HB.out, ze, zb, zf, fun h => zg h GE103.out]) hb); clear BK103; clear HB; have BK103 := n0_; have HB := n1_; clear n0_ n1_; (try clear hb); (try clear hb2); (try clear hk); (try clear hi)) | ((with_reducible refine zaa (f := 31) rfl ?_); refine zmc (some 21) rfl rfl Tryz.func31 (by kernel_rfl) rfl #[.int .i64 (wrap64 (a0 + t105))] rfl (by (try simp only [zpa]); first | done | rfl | simp) ?_; (with_reducible refine (zzb.calls kj1 (wrap64 (a0 + t105)) t106 _ A7.out).mono ?_); rintro e w10 ⟨rfl, hb⟩; refine ⟨_, rfl, ?_⟩; have n0_ := za.mk (zy (g := gb103) (o := .cells #[.int .i64 0, .int .i64 0, .int .i64 0, .int .i64 0, .int .i64 0] 23 (0, 0)) (by apply_rules only [BK103.out, zh, zj, zi]) hb); have n1_ := za.mk (zk (by apply_rules only [HB.out, ze, zb, zf, fun h => zg h GE103.out]) hb); clear BK103; clear HB; have BK103 := n0_; have HB := n1_; clear n0_ n1_; (try clear hb); (try clear hb2); (try clear hk); (try clear hi)) | ((with_reducible refine zaa (f := 29) rfl ?_); refine zmc (some 35) rfl rfl Tryz.func29 (by kernel_rfl) rfl #[.int .i64 (wrap64 ((wrap64 (a0 + t105)) + t106))] rfl (by (try simp only [zpa]); first | done | rfl | simp) ?_; (with_reducible refine (zna.calls kj1 (wrap64 ((wrap64 (a0 + t105)) + t106)) t107 _ A8.out).mono ?_); rintro e w11 ⟨rfl, hb⟩; refine ⟨_, rfl, ?_⟩; have n0_ := za.mk (zy (g := gb103) (o := .cells #[.int .i64 0, .int .i64 0, .int .i64 0, .int .i64 0, .int .i64 0] 23 (0, 0)) (by apply_rules only [BK103.out, zh, zj, zi]) hb); have n1_ := za.mk (zk (by apply_rules only [HB.out, ze, zb, zf, fun h => zg h GE103.out]) hb); clear BK103; clear HB; have BK103 := n0_; have HB := n1_; clear n0_ n1_; (try clear hb); (try clear hb2); (try clear hk); (try clear hi); obtain ⟨hcz12_0, hcz12_1, hcz12_2, hcz12_3, hcz12_4⟩ := cells5 BK103.out; obtain ⟨hfz12_0, hfz12_1, hfz12_2, hfz12_3, hfz12_4⟩ := zic BK103.out))
   refine bodyPost_ret (results_cell_row rfl _ _ gb103 23 #[.int .i64 a0, .int .i64 t105, .int .i64 t106, .int .i64 (wrap64 ((wrap64 (a0 + t105)) + t106)), .int .i64 t107] (0, 0) _ rfl (by (with_reducible repeat (first | refine zh ?_ _ | refine zj ?_ | refine zi ?_ _)); refine zzc (cs := #[.int .i64 a0, .int .i64 t105, .int .i64 t106, .int .i64 (wrap64 ((wrap64 (a0 + t105)) + t106)), .int .i64 0]) ?_ 4 _ rfl; (with_reducible repeat (first | refine zh ?_ _ | refine zj ?_ | refine zi ?_ _)); refine zzc (cs := #[.int .i64 a0, .int .i64 t105, .int .i64 t106, .int .i64 0, .int .i64 0]) ?_ 3 _ rfl; (with_reducible repeat (first | refine zh ?_ _ | refine zj ?_ | refine zi ?_ _)); refine zzc (cs := #[.int .i64 a0, .int .i64 t105, .int .i64 0, .int .i64 0, .int .i64 0]) ?_ 2 _ rfl; (with_reducible repeat (first | refine zh ?_ _ | refine zj ?_ | refine zi ?_ _)); refine zzc (cs := #[.int .i64 a0, .int .i64 0, .int .i64 0, .int .i64 0, .int .i64 0]) ?_ 1 _ rfl; (with_reducible repeat (first | refine zh ?_ _ | refine zj ?_ | refine zi ?_ _)); refine zzc (cs := #[.int .i64 0, .int .i64 0, .int .i64 0, .int .i64 0, .int .i64 0]) ?_ 0 _ rfl; (with_reducible repeat (first | refine zh ?_ _ | refine zj ?_ | refine zi ?_ _)); exact BK103.out) Tryz.underlying23 rfl (by kernel_rfl)) rfl ?_
   exact ⟨by first | rfl | (simp [zn, zo] <;> rfl) | (simp [*, zn, zo] <;> rfl), by apply_rules only [HB.out, ze, zb, zf, fun h => zg h GE103.out]⟩
mutual
def zhb.j0 : Nat → List (List Int) → Int → Bool → Option (Int)
 | 0, _, _, _ => none
 | k + 1, x0, x1, x11 => if x11 = true then (some 1) else (zhb.l0 k x0 x1 0)
def zhb.l0 : Nat → List (List Int) → Int → Int → Option (Int)
 | 0, _, _, _ => none
 | k + 1, x0, x1, x5 => if x5 < (x0.length : Int) then (if 0 ≤ x5 then (if ((rd_L5 x0 x5).length : Int) = x1 then (zhb.l0 k x0 x1 (wrap64 (x5 + 1))) else (some 2)) else (none)) else (some 0)
end
def zhb.f (k : Nat) (l0 : List (List Int)) (a1 : Int) : Option (Int) := if a1 < 1 then (zhb.j0 k l0 a1 true) else (zhb.j0 k l0 a1 (decide (a1 > 64)))
theorem zhb.calls (k : Nat) (A0 : Option Addr) (c0 : Nat) (l0 : List (List Int)) (a1 : Int) (r : Int) (w : World) (hr0 : Kd.C (Kd.slice 5 (Kd.int .u8)) w A0 l0.length l0) (hc0 : l0.length ≤ c0) (h : zhb.f k l0 a1 = some r) :
  Calls Tryz.prog 47 #[.slice A0 l0.length c0, .int .i64 a1] w fun e w' => e = .returned (.int .i64 r) ∧ zz w w' := by
 have HR0 := za.mk hr0
 have HC0 := za.mk hc0
 clear hr0 hc0
 have H : (if a1 < 1 then (zhb.j0 k l0 a1 true) else (zhb.j0 k l0 a1 (decide (a1 > 64)))) = some r := h
 clear h
 have HC3 := za.mk H
 clear H
 go_enter Tryz.func47, Tryz.ntmps47
 go_upto_region 1 with (fail)
 go_cut [11] (fun v11 wc => ∃ (kq : Nat) (x11_2 : Bool), v11 = .bool x11_2 ∧ za (zhb.j0 kq l0 a1 x11_2 = some r) ∧ za (kq ≤ k) ∧ zz w wc)
 case first =>
  have H := HC3.out
  clear HC3
  by_cases c4 : a1 < 1
  ·rw [if_pos c4] at H
   have c4b0 : decide (a1 < 1) = true := decide_eq_true c4
   clear c4
   (first | rw [c4b0] | (simp only [i64_w, i32_w]; rw [c4b0]) | skip)
   have H' := za.mk H
   clear H
   go_wp2
   go_meet
   case rel => exact ⟨_, (true), (by first | rfl | simp [*]), H', ⟨by first | omega | exact Nat.le_refl _⟩, by repeat (first | exact zz.refl _ | apply zz.step)⟩
  ·rw [if_neg c4] at H
   have c4b0 : decide (a1 < 1) = false := decide_eq_false c4
   clear c4
   (first | rw [c4b0] | (simp only [i64_w, i32_w]; rw [c4b0]) | skip)
   have H' := za.mk H
   clear H
   go_wp2
   go_meet
   case rel => exact ⟨_, (decide (a1 > 64)), (by first | rfl | simp [*]), H', ⟨by first | omega | exact Nat.le_refl _⟩, by repeat (first | exact zz.refl _ | apply zz.step)⟩
 case rest =>
  clear HC3
  obtain ⟨kq, x11_2, rfl, HA, HJ2, ⟨mc2, rfl⟩⟩ := hcut
  cases kq with
  | zero => exact absurd HA.out (by simp [zhb.j0])
  | succ kj2 =>
   have H := HA.out
   clear HA
   simp only [zhb.j0] at H
   by_cases c5 : x11_2 = true
   ·subst c5
    have H1 : (some 1) = some r := by rw [if_pos rfl] at H; exact H
    clear H
    have H := H1
    clear H1
    obtain rfl := Option.some.inj H
    go_wp2
    go_ret
    exact ⟨by first | rfl | (simp; done) | (simp [*]; done), by repeat (first | exact zz.refl _ | apply zz.step)⟩
   ·replace c5 := Bool.eq_false_iff.mpr c5
    subst c5
    have H1 : (zhb.l0 kj2 l0 a1 0) = some r := by rw [if_neg (show ¬ (false = true) by decide)] at H; exact H
    clear H
    have H := H1
    clear H1
    have H' := za.mk H
    clear H
    go_wp2
    go_loopg [5] kj2 (fun kq v5 w' => ∃ (x5_2 : Int), v5 = .int .i64 x5_2 ∧ za (zhb.l0 kq l0 a1 x5_2 = some r) ∧ za (kq ≤ kj2) ∧ zz w w')
    case atStart => exact ⟨(0), (by first | rfl | simp [*]), H', ⟨Nat.le_refl _⟩, by repeat (first | exact zz.refl _ | apply zz.step)⟩
    case round =>
     clear H'
     obtain ⟨x5_2, rfl, HA, HK2, ⟨m2, rfl⟩⟩ := hrel
     cases gk with
     | zero => exact absurd HA.out (by simp [zhb.l0])
     | succ k2 =>
      have H := HA.out
      clear HA
      simp only [zhb.l0] at H
      by_cases c6 : x5_2 < (l0.length : Int)
      ·rw [if_pos c6] at H
       have c6b0 : decide (x5_2 < (l0.length : Int)) = true := decide_eq_true c6
       clear c6
       by_cases c7 : 0 ≤ x5_2
       ·rw [if_pos c7] at H
        have c7b0 : decide (0 ≤ x5_2) = true := decide_eq_true c7
        clear c7
        by_cases c8 : ((rd_L5 l0 x5_2).length : Int) = a1
        ·rw [if_pos c8] at H
         have c8b0 : (((rd_L5 l0 x5_2).length : Int) == a1) = true := beq_iff_eq.mpr c8
         have c8b1 : (((rd_L5 l0 x5_2).length : Int) != a1) = false := bne_eq_false_iff_eq.mpr c8
         clear c8
         have H' := za.mk H
         clear H
         have p525 : 0 ≤ (x5_2 : Int) := of_decide_eq_true (by first | (with_reducible assumption) | assumption)
         have q525 : x5_2 < (l0.length : Int) := of_decide_eq_true (by first | (with_reducible assumption) | assumption)
         obtain ⟨ad525, A525_0, c525_0, e525, hx525_0, hl525_0, hi525_0⟩ := at_L5 HR0.out x5_2 p525 q525
         cases e525
         have HR525_0 := za.mk hi525_0
         have HC525_0 := za.mk hl525_0
         clear hi525_0 hl525_0
         replace p525 := eq_true p525
         replace q525 := eq_true q525
         go_wp2
         go_roundg k2
         case measure => have := HJ2.out; have := HK2.out; omega
         case rel => exact ⟨(wrap64 (x5_2 + 1)), (by first | rfl | simp [*]), H', ⟨by have := HJ2.out; have := HK2.out; omega⟩, by repeat (first | exact zz.refl _ | apply zz.step)⟩
        ·rw [if_neg c8] at H
         have c8b0 : (((rd_L5 l0 x5_2).length : Int) == a1) = false := beq_eq_false_iff_ne.mpr c8
         have c8b1 : (((rd_L5 l0 x5_2).length : Int) != a1) = true := bne_iff_ne.mpr c8
         obtain rfl := Option.some.inj H
         have p525 : 0 ≤ (x5_2 : Int) := of_decide_eq_true (by first | (with_reducible assumption) | assumption)
         have q525 : x5_2 < (l0.length : Int) := of_decide_eq_true (by first | (with_reducible assumption) | assumption)
         obtain ⟨ad525, A525_0, c525_0, e525, hx525_0, hl525_0, hi525_0⟩ := at_L5 HR0.out x5_2 p525 q525
         cases e525
         have HR525_0 := za.mk hi525_0
         have HC525_0 := za.mk hl525_0
         clear hi525_0 hl525_0
         replace p525 := eq_true p525
         replace q525 := eq_true q525
         go_wp2
         go_ret
         exact ⟨by first | rfl | (simp; done) | (simp [*]; done), by repeat (first | exact zz.refl _ | apply zz.step)⟩
       ·rw [if_neg c7] at H
        exact absurd H (by simp)
      ·rw [if_neg c6] at H
       have c6b0 : decide (x5_2 < (l0.length : Int)) = false := decide_eq_false c6
       clear c6
       obtain rfl := Option.some.inj H
       go_wp2
       go_ret
       exact ⟨by first | rfl | (simp; done) | (simp [*]; done), by repeat (first | exact zz.refl _ | apply zz.step)⟩
def zrb.l0 : Nat → Int → List Int → Int → Option (List Int)
 | 0, _, _, _ => none
 | k + 1, x0, x3, x4 => if x4 < x0 then (if x3.length < 17592186044416 then (zrb.l0 k x0 (x3 ++ [x4]) (wrap64 (x4 + 1))) else (none)) else (some x3)
def zrb.f (k : Nat) (a0 : Int) : Option (List Int) := zrb.l0 k a0 (([] : List Int)) 0
theorem zrb.calls (k : Nat) (a0 : Int) (r : List Int) (w : World) (h : zrb.f k a0 = some r) :
  Calls Tryz.prog 12 #[.int .i64 a0] w fun e w' => ∃ v0_ : Value, e = .returned (v0_) ∧ Kd.R (Kd.int .i64) 3 w' w.heap.size (fun _ => True) v0_ r ∧ Below w.heap.size w w' := by
 have HB := za.mk (Below.refl w.heap.size w)
 have H : (zrb.l0 k a0 (([] : List Int)) 0) = some r := h
 clear h
 obtain ⟨y518, hy518⟩ : ∃ y_ : List Int, y_ = (([] : List Int)) := ⟨_, rfl⟩
 replace H : (zrb.l0 k a0 y518 0) = some r := by first | (rw [hy518]; with_reducible exact H) | (have H2_ := (Option.bind_some _ _).symm.trans H; rw [hy518]; with_reducible exact H2_) | (have H2_ := (Option.bind_some _ _).symm.trans H; with_reducible exact H2_) | with_reducible exact H | (rw [hy518]; exact H) | exact H
 have Ny518 := za.mk hy518
 clear hy518
 have H' := za.mk H
 clear H
 go_enter Tryz.func12, Tryz.ntmps12
 go_wp2_with (first | ((with_reducible refine zza (N := 5) rfl ?_); refine Kd.R_lit (Kd.int .i64) _ 3 ?hg (N := 5) ?hd (xs := ([] : List Int)) (inner := []) (ok := fun _ => True) (okp := fun _ => True) ?hr ?hp (fun _ hk => hk) trivial (Below.refl _ _) (Nat.le_refl _) (by simp) ?_; (case hd => rfl); (case hg => rfl); (case hr => first | (go_simp; done) | (go_simp; rfl)); (case hp => exact (Reps.none _ _)); intro v519 w2 ho3 hb hg_ hnew_; clear hg_ hnew_; (first | rw [← Ny518.out] at ho3 | (simp only [Int.reduceToNat] at ho3; rw [← Ny518.out] at ho3)); have n0_ := za.mk (Kd.zcd ho3 (zm (by apply_rules only [HB.out, ze, zb, zf]))); have n1_ := za.mk (zk (by apply_rules only [HB.out, ze, zb, zf]) hb); clear HB; have HO520 := n0_; have HB := n1_; clear n0_ n1_; clear hb ho3))
 go_loopg [3, 4] k (fun kq v3 v4 w' => ∃ (x3_1 : List Int) (x4_1 : Int), v4 = .int .i64 x4_1 ∧ za (zrb.l0 kq a0 x3_1 x4_1 = some r) ∧ za (kq ≤ k) ∧ za (Kd.R (Kd.int .i64) 3 w' w.heap.size (fun _ => True) v3 x3_1) ∧ za (Below w.heap.size w w'))
 case atStart => exact ⟨(y518), (0), (by first | rfl | simp [*]), H', ⟨Nat.le_refl _⟩, ⟨by apply_rules only [HO520.out, Kd.zka, Kd.zja, Kd.zya]⟩, ⟨by apply_rules only [HB.out, ze, zb, zf]⟩⟩
 case round =>
  clear H'
  obtain ⟨x3_1, x4_1, rfl, HA, HK1, HO_3, HB⟩ := hrel
  cases gk with
  | zero => exact absurd HA.out (by simp [zrb.l0])
  | succ k1 =>
   have H := HA.out
   clear HA
   simp only [zrb.l0] at H
   by_cases c4 : x4_1 < a0
   ·rw [if_pos c4] at H
    have c4b0 : decide (x4_1 < a0) = true := decide_eq_true c4
    clear c4
    by_cases c5 : x3_1.length < 17592186044416
    ·rw [if_pos c5] at H
     have LMc5 := za.mk c5
     clear c5
     obtain ⟨y521, hy521⟩ : ∃ y_ : List Int, y_ = (x3_1 ++ [x4_1]) := ⟨_, rfl⟩
     replace H : (zrb.l0 k1 a0 y521 (wrap64 (x4_1 + 1))) = some r := by first | (rw [hy521]; with_reducible exact H) | (have H2_ := (Option.bind_some _ _).symm.trans H; rw [hy521]; with_reducible exact H2_) | (have H2_ := (Option.bind_some _ _).symm.trans H; with_reducible exact H2_) | with_reducible exact H | (rw [hy521]; exact H) | exact H
     have Ny521 := za.mk hy521
     clear hy521
     have H' := za.mk H
     clear H
     go_wp2_with (first | ((with_reducible refine zdd (b := .append) (xs := #[.tmp 11, .tmp 13]) rfl ?_); at_builtin; refine Kd.zof (Kd.int .i64) (w0 := w) w.heap.size rfl (.tmp 11) (.tmp 13) 31 3 (.int .i64 0) 8 rfl Tryz.underlying31 info3 rfl (by decide) (by omega) u3 x3_1 x4_1 [.int .i64 x4_1] (fun _ => True) (fun _ => False) rfl rfl ?aP (fun _ hk => hk.elim) ?aF ?aO ?aB ?aS ?aL ?_; (case aP => exact rfl); (case aB => exact (by apply_rules only [HB.out, ze, zb, zf])); (case aF => exact (fun _ _ => trivial)); (case aO => exact (by apply_rules only [HO_3.out, Kd.zka, Kd.zja, Kd.zya])); (case aS => exact (zm (by apply_rules only [HB.out, ze, zb, zf]))); (case aL => have := LMc5.out; omega); intro v522 w6 ho hb hg hat; rw [← Ny521.out] at ho; have n0_ := za.mk (hb); have n1_ := za.mk (ho); clear HB; clear HO_3; have HB := n0_; have HO523 := n1_; clear n0_ n1_; clear ho hb hg hat))
     go_roundg k1
     case measure => have := HK1.out; omega
     case rel => exact ⟨(y521), (wrap64 (x4_1 + 1)), (by first | rfl | simp [*]), H', ⟨by have := HK1.out; omega⟩, ⟨by apply_rules only [HO523.out, Kd.zka, Kd.zja, Kd.zya]⟩, ⟨by apply_rules only [HB.out, ze, zb, zf]⟩⟩
    ·rw [if_neg c5] at H
     exact absurd H (by simp)
   ·rw [if_neg c4] at H
    have c4b0 : decide (x4_1 < a0) = false := decide_eq_false c4
    clear c4
    obtain rfl := Option.some.inj H
    go_wp2
    go_ret
    exact ⟨_, by first | rfl | (simp [zn, zo] <;> rfl) | (simp [*, zn, zo] <;> rfl), by apply_rules only [HO_3.out, Kd.zka, Kd.zja, Kd.zya], by apply_rules only [HB.out, ze, zb, zf]⟩
def zsd.f (a0 : Int) (a1 : Int) : Option (Bool) := if 0 ≤ (IntKind.u64.wrap (a1)) then (some ((Int.tmod (shr .u64 a0 (IntKind.u64.wrap (a1))) 2) == 1)) else (none)
theorem zsd.calls (a0 : Int) (a1 : Int) (r : Bool) (w : World) (h : zsd.f a0 a1 = some r) :
  Calls Tryz.prog 87 #[.int .u64 a0, .int .i64 a1] w fun e w' => e = .returned (.bool r) ∧ zz w w' := by
 have H : (if 0 ≤ (IntKind.u64.wrap (a1)) then (some ((Int.tmod (shr .u64 a0 (IntKind.u64.wrap (a1))) 2) == 1)) else (none)) = some r := h
 clear h
 obtain ⟨ji3, hji3⟩ : ∃ j_ : Int, (IntKind.u64.wrap (a1)) = j_ := ⟨_, rfl⟩
 replace H : (if 0 ≤ (ji3) then (some ((Int.tmod (shr .u64 a0 (ji3)) 2) == 1)) else (none)) = some r := by first | (rw [hji3] at H; exact H) | (simp only [hji3] at H ⊢; exact H)
 by_cases c4 : 0 ≤ (ji3)
 ·rw [if_pos c4] at H
  have c4b0 := eq_true c4
  have c4b1 : decide (0 ≤ (ji3)) = true := decide_eq_true c4
  clear c4
  obtain ⟨ji5, hji5⟩ : ∃ j_ : Int, (shr .u64 a0 (ji3)) = j_ := ⟨_, rfl⟩
  replace H : (some ((Int.tmod (ji5) 2) == 1)) = some r := by first | (rw [hji5] at H; exact H) | (simp only [hji5] at H ⊢; exact H)
  have hji5_ : (a0 / 2 ^ min (ji3).toNat 64) = ji5 := hji5
  have hji5z : (ji3) ≤ 64 → (a0 / 2 ^ (ji3).toNat) = ji5 := shr_small hji5
  obtain rfl := Option.some.inj H
  go_enter Tryz.func87, Tryz.ntmps87
  go_wp2
  go_ret
  exact ⟨by first | rfl | (simp; done) | (simp only [← hji3, ← hji5] <;> (first | rfl | simp)) | (simp [*]; done), by repeat (first | exact zz.refl _ | apply zz.step)⟩
 ·rw [if_neg c4] at H
  exact absurd H (by simp)
def zoc.l0 : Nat → Int → Int → Option (Int)
 | 0, _, _ => none
 | k + 1, x0, x3 => if x0 > 0 then (zoc.l0 k (wrap64 (Int.tdiv x0 2)) (wrap64 (x3 + (Int.tmod x0 2)))) else (some x3)
def zoc.f (k : Nat) (a0 : Int) : Option (Int) := zoc.l0 k a0 0
theorem zoc.calls (k : Nat) (a0 : Int) (r : Int) (w : World) (h : zoc.f k a0 = some r) :
  Calls Tryz.prog 106 #[.int .i64 a0] w fun e w' => e = .returned (.int .i64 r) ∧ zz w w' := by
 have H : (zoc.l0 k a0 0) = some r := h
 clear h
 have H' := za.mk H
 clear H
 go_enter Tryz.func106, Tryz.ntmps106
 go_wp2
 go_loopg [0, 3] k (fun kq v0 v3 w' => ∃ (x0_1 : Int) (x3_1 : Int), v0 = .int .i64 x0_1 ∧ v3 = .int .i64 x3_1 ∧ za (zoc.l0 kq x0_1 x3_1 = some r) ∧ za (kq ≤ k) ∧ zz w w')
 case atStart => exact ⟨(a0), (0), (by first | rfl | simp [*]), (by first | rfl | simp [*]), H', ⟨Nat.le_refl _⟩, by repeat (first | exact zz.refl _ | apply zz.step)⟩
 case round =>
  clear H'
  obtain ⟨x0_1, x3_1, rfl, rfl, HA, HK1, ⟨m1, rfl⟩⟩ := hrel
  cases gk with
  | zero => exact absurd HA.out (by simp [zoc.l0])
  | succ k1 =>
   have H := HA.out
   clear HA
   simp only [zoc.l0] at H
   by_cases c2 : x0_1 > 0
   ·rw [if_pos c2] at H
    have c2b0 : decide (0 < x0_1) = true := decide_eq_true c2
    clear c2
    have H' := za.mk H
    clear H
    go_wp2
    go_roundg k1
    case measure => have := HK1.out; omega
    case rel => exact ⟨(wrap64 (Int.tdiv x0_1 2)), (wrap64 (x3_1 + (Int.tmod x0_1 2))), (by first | rfl | simp [*]), (by first | rfl | simp [*]), H', ⟨by have := HK1.out; omega⟩, by repeat (first | exact zz.refl _ | apply zz.step)⟩
   ·rw [if_neg c2] at H
    have c2b0 : decide (0 < x0_1) = false := decide_eq_false c2
    clear c2
    obtain rfl := Option.some.inj H
    go_wp2
    go_ret
    exact ⟨by first | rfl | (simp; done) | (simp [*]; done), by repeat (first | exact zz.refl _ | apply zz.step)⟩
mutual
def zwa.l0 : Nat → Int → Int → List Int → Int → Option (List Int)
 | 0, _, _, _, _ => none
 | k + 1, x0, x1, x5, x6 => if x6 < 1048576 then (zwa.j1 k x0 x1 x5 x6 (decide ((x5.length : Int) < x1))) else (zwa.j1 k x0 x1 x5 x6 false)
def zwa.j1 : Nat → Int → Int → List Int → Int → Bool → Option (List Int)
 | 0, _, _, _, _, _ => none
 | k + 1, x0, x1, x5, x6, x16 => if x16 = true then ((zoc.f k (Go.bits .xor .i64 x6 (wrap64 (Int.tdiv x6 2)))).bind fun t413 => (if t413 = x0 then (if x5.length < 17592186044416 then (zwa.l0 k x0 x1 (x5 ++ [Go.bits .xor .i64 x6 (wrap64 (Int.tdiv x6 2))]) (wrap64 (x6 + 1))) else (none)) else (zwa.l0 k x0 x1 x5 (wrap64 (x6 + 1))))) else (some x5)
end
def zwa.f (k : Nat) (a0 : Int) (a1 : Int) : Option (List Int) := zwa.l0 k a0 a1 (([] : List Int)) 0
theorem zwa.calls (k : Nat) (a0 : Int) (a1 : Int) (r : List Int) (w : World) (h : zwa.f k a0 a1 = some r) :
  Calls Tryz.prog 93 #[.int .i64 a0, .int .i64 a1] w fun e w' => ∃ v0_ : Value, e = .returned (v0_) ∧ Kd.R (Kd.int .i64) 3 w' w.heap.size (fun _ => True) v0_ r ∧ Below w.heap.size w w' := by
 have HB := za.mk (Below.refl w.heap.size w)
 have H : (zwa.l0 k a0 a1 (([] : List Int)) 0) = some r := h
 clear h
 obtain ⟨y410, hy410⟩ : ∃ y_ : List Int, y_ = (([] : List Int)) := ⟨_, rfl⟩
 replace H : (zwa.l0 k a0 a1 y410 0) = some r := by first | (rw [hy410]; with_reducible exact H) | (have H2_ := (Option.bind_some _ _).symm.trans H; rw [hy410]; with_reducible exact H2_) | (have H2_ := (Option.bind_some _ _).symm.trans H; with_reducible exact H2_) | with_reducible exact H | (rw [hy410]; exact H) | exact H
 have Ny410 := za.mk hy410
 clear hy410
 have H' := za.mk H
 clear H
 go_enter Tryz.func93, Tryz.ntmps93
 go_wp2_with (first | ((with_reducible refine zza (N := 8) rfl ?_); (try (refine zvf (by rfl) ?_; dsimp only)); refine Kd.R_lit (Kd.int .i64) _ 3 ?hg (N := 8) ?hd (xs := ([] : List Int)) (inner := []) (ok := fun _ => True) (okp := fun _ => True) ?hr ?hp (fun _ hk => hk) trivial (Below.refl _ _) (Nat.le_refl _) (by simp) ?_; (case hd => rfl); (case hg => rfl); (case hr => first | (go_simp; done) | (go_simp; rfl)); (case hp => exact (Reps.none _ _)); intro v411 w3 ho4 hb hg_ hnew_; clear hg_ hnew_; (first | rw [← Ny410.out] at ho4 | (simp only [Int.reduceToNat] at ho4; rw [← Ny410.out] at ho4)); have n0_ := za.mk (Kd.zcd ho4 (zm (by apply_rules only [HB.out, ze, zb, zf]))); have n1_ := za.mk (zk (by apply_rules only [HB.out, ze, zb, zf]) hb); clear HB; have HO412 := n0_; have HB := n1_; clear n0_ n1_; clear hb ho4))
 go_loopg [5, 6] k (fun kq v5 v6 w' => ∃ (x5_1 : List Int) (x6_1 : Int), v6 = .int .i64 x6_1 ∧ za (zwa.l0 kq a0 a1 x5_1 x6_1 = some r) ∧ za (kq ≤ k) ∧ za (Kd.R (Kd.int .i64) 3 w' w.heap.size (fun _ => True) v5 x5_1) ∧ za (Below w.heap.size w w'))
 case atStart => exact ⟨(y410), (0), (by first | rfl | simp [*]), H', ⟨Nat.le_refl _⟩, ⟨by apply_rules only [HO412.out, Kd.zka, Kd.zja, Kd.zya]⟩, ⟨by apply_rules only [HB.out, ze, zb, zf]⟩⟩
 case round =>
  clear H'
  obtain ⟨x5_1, x6_1, rfl, HA, HK1, HO_5, HB⟩ := hrel
  cases gk with
  | zero => exact absurd HA.out (by simp [zwa.l0])
  | succ k1 =>
   have H := HA.out
   clear HA
   simp only [zwa.l0] at H
   have HC5 := za.mk H
   clear H
   go_upto_region 3 with (fail)
   go_cut [16] (fun v16 wc => ∃ (kq : Nat) (x16_4 : Bool), v16 = .bool x16_4 ∧ za (zwa.j1 kq a0 a1 x5_1 x6_1 x16_4 = some r) ∧ za (kq ≤ k1) ∧ za (Kd.R (Kd.int .i64) 3 wc w.heap.size (fun _ => True) u5 x5_1) ∧ za (Below w.heap.size w wc))
   case first =>
    have H := HC5.out
    clear HC5
    by_cases c6 : x6_1 < 1048576
    ·rw [if_pos c6] at H
     have c6b0 : decide (x6_1 < 1048576) = true := decide_eq_true c6
     clear c6
     (first | rw [c6b0] | (simp only [i64_w, i32_w]; rw [c6b0]) | skip)
     have H' := za.mk H
     clear H
     obtain ⟨Ao7, co7, eo7⟩ := Kd.zsc HO_5.out
     subst eo7
     go_wp2
     go_meet
     case rel => exact ⟨_, (decide ((x5_1.length : Int) < a1)), (by first | rfl | simp [*]), H', ⟨by have := HK1.out; first | omega | exact Nat.le_refl _⟩, ⟨by apply_rules only [HO_5.out, Kd.zka, Kd.zja, Kd.zya]⟩, ⟨by apply_rules only [HB.out, ze, zb, zf]⟩⟩
    ·rw [if_neg c6] at H
     have c6b0 : decide (x6_1 < 1048576) = false := decide_eq_false c6
     clear c6
     (first | rw [c6b0] | (simp only [i64_w, i32_w]; rw [c6b0]) | skip)
     have H' := za.mk H
     clear H
     go_wp2
     go_meet
     case rel => exact ⟨_, (false), (by first | rfl | simp [*]), H', ⟨by have := HK1.out; first | omega | exact Nat.le_refl _⟩, ⟨by apply_rules only [HO_5.out, Kd.zka, Kd.zja, Kd.zya]⟩, ⟨by apply_rules only [HB.out, ze, zb, zf]⟩⟩
   case rest =>
    clear HC5
    obtain ⟨kq, x16_4, rfl, HA, HJ4, HO_5, HB⟩ := hcut
    cases kq with
    | zero => exact absurd HA.out (by simp [zwa.j1])
    | succ kj4 =>
     have H := HA.out
     clear HA
     simp only [zwa.j1] at H
     by_cases c8 : x16_4 = true
     ·subst c8
      have H1 : ((zoc.f kj4 (Go.bits .xor .i64 x6_1 (wrap64 (Int.tdiv x6_1 2)))).bind fun t413 => (if t413 = a0 then (if x5_1.length < 17592186044416 then (zwa.l0 kj4 a0 a1 (x5_1 ++ [Go.bits .xor .i64 x6_1 (wrap64 (Int.tdiv x6_1 2))]) (wrap64 (x6_1 + 1))) else (none)) else (zwa.l0 kj4 a0 a1 x5_1 (wrap64 (x6_1 + 1))))) = some r := by rw [if_pos rfl] at H; exact H
      clear H
      have H := H1
      clear H1
      replace H := Option.bind_eq_some_iff.mp H
      obtain ⟨t413, A90, H⟩ := H
      replace H : (if t413 = a0 then (if x5_1.length < 17592186044416 then (zwa.l0 kj4 a0 a1 (x5_1 ++ [Go.bits .xor .i64 x6_1 (wrap64 (Int.tdiv x6_1 2))]) (wrap64 (x6_1 + 1))) else (none)) else (zwa.l0 kj4 a0 a1 x5_1 (wrap64 (x6_1 + 1)))) = some r := H
      have A9 := za.mk A90
      clear A90
      by_cases c10 : t413 = a0
      ·rw [if_pos c10] at H
       have c10b0 : (t413 == a0) = true := beq_iff_eq.mpr c10
       have c10b1 : (t413 != a0) = false := bne_eq_false_iff_eq.mpr c10
       clear c10
       by_cases c11 : x5_1.length < 17592186044416
       ·rw [if_pos c11] at H
        have LMc11 := za.mk c11
        clear c11
        obtain ⟨y414, hy414⟩ : ∃ y_ : List Int, y_ = (x5_1 ++ [Go.bits .xor .i64 x6_1 (wrap64 (Int.tdiv x6_1 2))]) := ⟨_, rfl⟩
        replace H : (zwa.l0 kj4 a0 a1 y414 (wrap64 (x6_1 + 1))) = some r := by first | (rw [hy414]; with_reducible exact H) | (have H2_ := (Option.bind_some _ _).symm.trans H; rw [hy414]; with_reducible exact H2_) | (have H2_ := (Option.bind_some _ _).symm.trans H; with_reducible exact H2_) | with_reducible exact H | (rw [hy414]; exact H) | exact H
        have Ny414 := za.mk hy414
        clear hy414
        have H' := za.mk H
        clear H
        go_wp2_with (first | ((with_reducible refine zaa (f := 106) rfl ?_); refine zmc (some 24) rfl rfl Tryz.func106 (by kernel_rfl) rfl #[.int .i64 (Go.bits .xor .i64 x6_1 (wrap64 (Int.tdiv x6_1 2)))] rfl (by (try simp only [zpa]); first | done | rfl | simp) ?_; (with_reducible refine (zoc.calls kj4 (Go.bits .xor .i64 x6_1 (wrap64 (Int.tdiv x6_1 2))) t413 _ A9.out).mono ?_); rintro e w' ⟨rfl, ⟨nd, rfl⟩⟩; refine ⟨_, rfl, ?_⟩) | ((with_reducible refine zdd (b := .append) (xs := #[.tmp 27, .tmp 29]) rfl ?_); (try (refine zvf (by rfl) ?_; dsimp only)); at_builtin; refine Kd.zof (Kd.int .i64) (w0 := w) w.heap.size rfl (.tmp 27) (.tmp 29) 31 3 (.int .i64 0) 8 rfl Tryz.underlying31 info3 rfl (by decide) (by omega) u5 x5_1 (Go.bits .xor .i64 x6_1 (wrap64 (Int.tdiv x6_1 2))) [.int .i64 (Go.bits .xor .i64 x6_1 (wrap64 (Int.tdiv x6_1 2)))] (fun _ => True) (fun _ => False) rfl rfl ?aP (fun _ hk => hk.elim) ?aF ?aO ?aB ?aS ?aL ?_; (case aP => exact rfl); (case aB => exact (by apply_rules only [HB.out, ze, zb, zf])); (case aF => exact (fun _ _ => trivial)); (case aO => exact (by apply_rules only [HO_5.out, Kd.zka, Kd.zja, Kd.zya])); (case aS => exact (zm (by apply_rules only [HB.out, ze, zb, zf]))); (case aL => have := LMc11.out; omega); intro v415 w12 ho hb hg hat; rw [← Ny414.out] at ho; have n0_ := za.mk (hb); have n1_ := za.mk (ho); clear HB; clear HO_5; have HB := n0_; have HO416 := n1_; clear n0_ n1_; clear ho hb hg hat))
        go_roundg kj4
        case measure => have := HK1.out; have := HJ4.out; omega
        case rel => exact ⟨(y414), (wrap64 (x6_1 + 1)), (by first | rfl | simp [*]), H', ⟨by have := HK1.out; have := HJ4.out; omega⟩, ⟨by apply_rules only [HO416.out, Kd.zka, Kd.zja, Kd.zya]⟩, ⟨by apply_rules only [HB.out, ze, zb, zf]⟩⟩
       ·rw [if_neg c11] at H
        exact absurd H (by simp)
      ·rw [if_neg c10] at H
       have c10b0 : (t413 == a0) = false := beq_eq_false_iff_ne.mpr c10
       have c10b1 : (t413 != a0) = true := bne_iff_ne.mpr c10
       have H' := za.mk H
       clear H
       go_wp2_with (first | ((with_reducible refine zaa (f := 106) rfl ?_); refine zmc (some 24) rfl rfl Tryz.func106 (by kernel_rfl) rfl #[.int .i64 (Go.bits .xor .i64 x6_1 (wrap64 (Int.tdiv x6_1 2)))] rfl (by (try simp only [zpa]); first | done | rfl | simp) ?_; (with_reducible refine (zoc.calls kj4 (Go.bits .xor .i64 x6_1 (wrap64 (Int.tdiv x6_1 2))) t413 _ A9.out).mono ?_); rintro e w' ⟨rfl, ⟨nd, rfl⟩⟩; refine ⟨_, rfl, ?_⟩))
       go_roundg kj4
       case measure => have := HK1.out; have := HJ4.out; omega
       case rel => exact ⟨(x5_1), (wrap64 (x6_1 + 1)), (by first | rfl | simp [*]), H', ⟨by have := HK1.out; have := HJ4.out; omega⟩, ⟨by apply_rules only [HO_5.out, Kd.zka, Kd.zja, Kd.zya]⟩, ⟨by apply_rules only [HB.out, ze, zb, zf]⟩⟩
     ·replace c8 := Bool.eq_false_iff.mpr c8
      subst c8
      have H1 : (some x5_1) = some r := by rw [if_neg (show ¬ (false = true) by decide)] at H; exact H
      clear H
      have H := H1
      clear H1
      obtain rfl := Option.some.inj H
      go_wp2
      go_ret
      exact ⟨_, by first | rfl | (simp [zn, zo] <;> rfl) | (simp [*, zn, zo] <;> rfl), by apply_rules only [HO_5.out, Kd.zka, Kd.zja, Kd.zya], by apply_rules only [HB.out, ze, zb, zf]⟩
def zoe.f (a0_0 : Int) (a0_1 : Int) (a0_2 : Int) (a0_3 : Int) (a0_4 : Int) (a1 : Int) (a2 : Int) : Option (Bool) := if a2 ≥ a0_0 then (some (a2 == (wrap64 (a0_0 + a1)))) else (if a0_1 = 0 then (none) else (if (wrap64 (a0_1 - 1)) = 0 then (none) else (if a1 = (Int.tmod a2 a0_1) then (some true) else (if a1 = (Int.tmod (wrap64 ((Int.tmod a2 a0_1) + (wrap64 (1 + (Int.tmod (wrap64 (Int.tdiv a2 a0_1)) (wrap64 (a0_1 - 1))))))) a0_1) then (some true) else (some (a1 == (Int.tmod (wrap64 ((Int.tmod a2 a0_1) + (wrap64 (2 * (wrap64 (1 + (Int.tmod (wrap64 (Int.tdiv a2 a0_1)) (wrap64 (a0_1 - 1))))))))) a0_1)))))))
theorem zoe.calls (a0_0 : Int) (a0_1 : Int) (a0_2 : Int) (a0_3 : Int) (a0_4 : Int) (a1 : Int) (a2 : Int) (r : Bool) (w : World) (h : zoe.f a0_0 a0_1 a0_2 a0_3 a0_4 a1 a2 = some r) :
  Calls Tryz.prog 94 #[.agg #[.int .i64 a0_0, .int .i64 a0_1, .int .i64 a0_2, .int .i64 a0_3, .int .i64 a0_4], .int .i64 a1, .int .i64 a2] w fun e w' => e = .returned (.bool r) ∧ Below w.heap.size w w' := by
 have hu23 := Tryz.underlying23
 have HB := za.mk (Below.refl w.heap.size w)
 have H : (if a2 ≥ a0_0 then (some (a2 == (wrap64 (a0_0 + a1)))) else (if a0_1 = 0 then (none) else (if (wrap64 (a0_1 - 1)) = 0 then (none) else (if a1 = (Int.tmod a2 a0_1) then (some true) else (if a1 = (Int.tmod (wrap64 ((Int.tmod a2 a0_1) + (wrap64 (1 + (Int.tmod (wrap64 (Int.tdiv a2 a0_1)) (wrap64 (a0_1 - 1))))))) a0_1) then (some true) else (some (a1 == (Int.tmod (wrap64 ((Int.tmod a2 a0_1) + (wrap64 (2 * (wrap64 (1 + (Int.tmod (wrap64 (Int.tdiv a2 a0_1)) (wrap64 (a0_1 - 1))))))))) a0_1)))))))) = some r := h
 clear h
 by_cases c4 : a2 ≥ a0_0
 ·rw [if_pos c4] at H
  have c4b0 : decide (a0_0 ≤ a2) = true := decide_eq_true c4
  clear c4
  obtain rfl := Option.some.inj H
  go_enter Tryz.func94, Tryz.ntmps94
  go_wp2_with (first | ((with_reducible refine zza (N := 3) rfl ?_); refine zgc ?hg (N := 3) ?hd (cs := #[.int .i64 a0_0, .int .i64 a0_1, .int .i64 a0_2, .int .i64 a0_3, .int .i64 a0_4]) (t := 23) ?hr ?_; (case hd => rfl); (case hg => rfl); (case hr => first | (go_simp; done) | (go_simp; rfl)); intro gb417 hg w5 hbox hb; have n0_ := za.mk (zk (by apply_rules only [HB.out, ze, zb, zf]) hb); have n1_ := za.mk (hbox); have n2_ := za.mk ((by rw [hg]; exact (zm (by apply_rules only [HB.out, ze, zb, zf])) : w.heap.size ≤ gb417)); have n3_ := za.mk ((by rw [hg]; exact (zm (by apply_rules only [HB.out, ze, zb, zf])) : w.heap.size ≤ gb417)); clear HB; have HB := n0_; have BK417 := n1_; have GW417 := n2_; have GE417 := n3_; clear n0_ n1_ n2_ n3_; clear hb hbox hg; obtain ⟨hcz6_0, hcz6_1, hcz6_2, hcz6_3, hcz6_4⟩ := cells5 BK417.out; obtain ⟨hfz6_0, hfz6_1, hfz6_2, hfz6_3, hfz6_4⟩ := zic BK417.out))
  repeat (go_quiet (first | ((with_reducible refine zza (N := 3) rfl ?_); refine zgc ?hg (N := 3) ?hd (cs := #[.int .i64 a0_0, .int .i64 a0_1, .int .i64 a0_2, .int .i64 a0_3, .int .i64 a0_4]) (t := 23) ?hr ?_; (case hd => rfl); (case hg => rfl); (case hr => first | (go_simp; done) | (go_simp; rfl)); intro gb417 hg w5 hbox hb; have n0_ := za.mk (zk (by apply_rules only [HB.out, ze, zb, zf]) hb); have n1_ := za.mk (hbox); have n2_ := za.mk ((by rw [hg]; exact (zm (by apply_rules only [HB.out, ze, zb, zf])) : w.heap.size ≤ gb417)); have n3_ := za.mk ((by rw [hg]; exact (zm (by apply_rules only [HB.out, ze, zb, zf])) : w.heap.size ≤ gb417)); clear HB; have HB := n0_; have BK417 := n1_; have GW417 := n2_; have GE417 := n3_; clear n0_ n1_ n2_ n3_; clear hb hbox hg; obtain ⟨hcz6_0, hcz6_1, hcz6_2, hcz6_3, hcz6_4⟩ := cells5 BK417.out; obtain ⟨hfz6_0, hfz6_1, hfz6_2, hfz6_3, hfz6_4⟩ := zic BK417.out)); try go_wp2_with (first | ((with_reducible refine zza (N := 3) rfl ?_); refine zgc ?hg (N := 3) ?hd (cs := #[.int .i64 a0_0, .int .i64 a0_1, .int .i64 a0_2, .int .i64 a0_3, .int .i64 a0_4]) (t := 23) ?hr ?_; (case hd => rfl); (case hg => rfl); (case hr => first | (go_simp; done) | (go_simp; rfl)); intro gb417 hg w5 hbox hb; have n0_ := za.mk (zk (by apply_rules only [HB.out, ze, zb, zf]) hb); have n1_ := za.mk (hbox); have n2_ := za.mk ((by rw [hg]; exact (zm (by apply_rules only [HB.out, ze, zb, zf])) : w.heap.size ≤ gb417)); have n3_ := za.mk ((by rw [hg]; exact (zm (by apply_rules only [HB.out, ze, zb, zf])) : w.heap.size ≤ gb417)); clear HB; have HB := n0_; have BK417 := n1_; have GW417 := n2_; have GE417 := n3_; clear n0_ n1_ n2_ n3_; clear hb hbox hg; obtain ⟨hcz6_0, hcz6_1, hcz6_2, hcz6_3, hcz6_4⟩ := cells5 BK417.out; obtain ⟨hfz6_0, hfz6_1, hfz6_2, hfz6_3, hfz6_4⟩ := zic BK417.out)))
  go_ret
  exact ⟨by first | rfl | (simp [zn, zo] <;> rfl) | (simp [*, zn, zo] <;> rfl), by apply_rules only [HB.out, ze, zb, zf, fun h => zg h GE417.out]⟩
 ·rw [if_neg c4] at H
  have c4b0 : decide (a0_0 ≤ a2) = false := decide_eq_false c4
  clear c4
  by_cases c7 : a0_1 = 0
  ·rw [if_pos c7] at H
   exact absurd H (by simp)
  ·rw [if_neg c7] at H
   have c7b0 : (a0_1 == 0) = false := beq_eq_false_iff_ne.mpr c7
   have c7b1 : (a0_1 != 0) = true := bne_iff_ne.mpr c7
   by_cases c8 : (wrap64 (a0_1 - 1)) = 0
   ·rw [if_pos c8] at H
    exact absurd H (by simp)
   ·rw [if_neg c8] at H
    have c8b0 : ((wrap64 (a0_1 - 1)) == 0) = false := beq_eq_false_iff_ne.mpr c8
    have c8b1 : ((wrap64 (a0_1 - 1)) != 0) = true := bne_iff_ne.mpr c8
    by_cases c9 : a1 = (Int.tmod a2 a0_1)
    ·rw [if_pos c9] at H
     have c9b0 : (a1 == (Int.tmod a2 a0_1)) = true := beq_iff_eq.mpr c9
     have c9b1 : (a1 != (Int.tmod a2 a0_1)) = false := bne_eq_false_iff_eq.mpr c9
     clear c9
     obtain rfl := Option.some.inj H
     go_enter Tryz.func94, Tryz.ntmps94
     go_wp2_with (first | ((with_reducible refine zza (N := 3) rfl ?_); refine zgc ?hg (N := 3) ?hd (cs := #[.int .i64 a0_0, .int .i64 a0_1, .int .i64 a0_2, .int .i64 a0_3, .int .i64 a0_4]) (t := 23) ?hr ?_; (case hd => rfl); (case hg => rfl); (case hr => first | (go_simp; done) | (go_simp; rfl)); intro gb417 hg w10 hbox hb; have n0_ := za.mk (zk (by apply_rules only [HB.out, ze, zb, zf]) hb); have n1_ := za.mk (hbox); have n2_ := za.mk ((by rw [hg]; exact (zm (by apply_rules only [HB.out, ze, zb, zf])) : w.heap.size ≤ gb417)); have n3_ := za.mk ((by rw [hg]; exact (zm (by apply_rules only [HB.out, ze, zb, zf])) : w.heap.size ≤ gb417)); clear HB; have HB := n0_; have BK417 := n1_; have GW417 := n2_; have GE417 := n3_; clear n0_ n1_ n2_ n3_; clear hb hbox hg; obtain ⟨hcz11_0, hcz11_1, hcz11_2, hcz11_3, hcz11_4⟩ := cells5 BK417.out; obtain ⟨hfz11_0, hfz11_1, hfz11_2, hfz11_3, hfz11_4⟩ := zic BK417.out))
     repeat (go_quiet (first | ((with_reducible refine zza (N := 3) rfl ?_); refine zgc ?hg (N := 3) ?hd (cs := #[.int .i64 a0_0, .int .i64 a0_1, .int .i64 a0_2, .int .i64 a0_3, .int .i64 a0_4]) (t := 23) ?hr ?_; (case hd => rfl); (case hg => rfl); (case hr => first | (go_simp; done) | (go_simp; rfl)); intro gb417 hg w10 hbox hb; have n0_ := za.mk (zk (by apply_rules only [HB.out, ze, zb, zf]) hb); have n1_ := za.mk (hbox); have n2_ := za.mk ((by rw [hg]; exact (zm (by apply_rules only [HB.out, ze, zb, zf])) : w.heap.size ≤ gb417)); have n3_ := za.mk ((by rw [hg]; exact (zm (by apply_rules only [HB.out, ze, zb, zf])) : w.heap.size ≤ gb417)); clear HB; have HB := n0_; have BK417 := n1_; have GW417 := n2_; have GE417 := n3_; clear n0_ n1_ n2_ n3_; clear hb hbox hg; obtain ⟨hcz11_0, hcz11_1, hcz11_2, hcz11_3, hcz11_4⟩ := cells5 BK417.out; obtain ⟨hfz11_0, hfz11_1, hfz11_2, hfz11_3, hfz11_4⟩ := zic BK417.out)); try go_wp2_with (first | ((with_reducible refine zza (N := 3) rfl ?_); refine zgc ?hg (N := 3) ?hd (cs := #[.int .i64 a0_0, .int .i64 a0_1, .int .i64 a0_2, .int .i64 a0_3, .int .i64 a0_4]) (t := 23) ?hr ?_; (case hd => rfl); (case hg => rfl); (case hr => first | (go_simp; done) | (go_simp; rfl)); intro gb417 hg w10 hbox hb; have n0_ := za.mk (zk (by apply_rules only [HB.out, ze, zb, zf]) hb); have n1_ := za.mk (hbox); have n2_ := za.mk ((by rw [hg]; exact (zm (by apply_rules only [HB.out, ze, zb, zf])) : w.heap.size ≤ gb417)); have n3_ := za.mk ((by rw [hg]; exact (zm (by apply_rules only [HB.out, ze, zb, zf])) : w.heap.size ≤ gb417)); clear HB; have HB := n0_; have BK417 := n1_; have GW417 := n2_; have GE417 := n3_; clear n0_ n1_ n2_ n3_; clear hb hbox hg; obtain ⟨hcz11_0, hcz11_1, hcz11_2, hcz11_3, hcz11_4⟩ := cells5 BK417.out; obtain ⟨hfz11_0, hfz11_1, hfz11_2, hfz11_3, hfz11_4⟩ := zic BK417.out)))
     go_ret
     exact ⟨by first | rfl | (simp [zn, zo] <;> rfl) | (simp [*, zn, zo] <;> rfl), by apply_rules only [HB.out, ze, zb, zf, fun h => zg h GE417.out]⟩
    ·rw [if_neg c9] at H
     have c9b0 : (a1 == (Int.tmod a2 a0_1)) = false := beq_eq_false_iff_ne.mpr c9
     have c9b1 : (a1 != (Int.tmod a2 a0_1)) = true := bne_iff_ne.mpr c9
     by_cases c12 : a1 = (Int.tmod (wrap64 ((Int.tmod a2 a0_1) + (wrap64 (1 + (Int.tmod (wrap64 (Int.tdiv a2 a0_1)) (wrap64 (a0_1 - 1))))))) a0_1)
     ·rw [if_pos c12] at H
      have c12b0 : (a1 == (Int.tmod (wrap64 ((Int.tmod a2 a0_1) + (wrap64 (1 + (Int.tmod (wrap64 (Int.tdiv a2 a0_1)) (wrap64 (a0_1 - 1))))))) a0_1)) = true := beq_iff_eq.mpr c12
      have c12b1 : (a1 != (Int.tmod (wrap64 ((Int.tmod a2 a0_1) + (wrap64 (1 + (Int.tmod (wrap64 (Int.tdiv a2 a0_1)) (wrap64 (a0_1 - 1))))))) a0_1)) = false := bne_eq_false_iff_eq.mpr c12
      clear c12
      obtain rfl := Option.some.inj H
      go_enter Tryz.func94, Tryz.ntmps94
      go_wp2_with (first | ((with_reducible refine zza (N := 3) rfl ?_); refine zgc ?hg (N := 3) ?hd (cs := #[.int .i64 a0_0, .int .i64 a0_1, .int .i64 a0_2, .int .i64 a0_3, .int .i64 a0_4]) (t := 23) ?hr ?_; (case hd => rfl); (case hg => rfl); (case hr => first | (go_simp; done) | (go_simp; rfl)); intro gb417 hg w13 hbox hb; have n0_ := za.mk (zk (by apply_rules only [HB.out, ze, zb, zf]) hb); have n1_ := za.mk (hbox); have n2_ := za.mk ((by rw [hg]; exact (zm (by apply_rules only [HB.out, ze, zb, zf])) : w.heap.size ≤ gb417)); have n3_ := za.mk ((by rw [hg]; exact (zm (by apply_rules only [HB.out, ze, zb, zf])) : w.heap.size ≤ gb417)); clear HB; have HB := n0_; have BK417 := n1_; have GW417 := n2_; have GE417 := n3_; clear n0_ n1_ n2_ n3_; clear hb hbox hg; obtain ⟨hcz14_0, hcz14_1, hcz14_2, hcz14_3, hcz14_4⟩ := cells5 BK417.out; obtain ⟨hfz14_0, hfz14_1, hfz14_2, hfz14_3, hfz14_4⟩ := zic BK417.out))
      repeat (go_quiet (first | ((with_reducible refine zza (N := 3) rfl ?_); refine zgc ?hg (N := 3) ?hd (cs := #[.int .i64 a0_0, .int .i64 a0_1, .int .i64 a0_2, .int .i64 a0_3, .int .i64 a0_4]) (t := 23) ?hr ?_; (case hd => rfl); (case hg => rfl); (case hr => first | (go_simp; done) | (go_simp; rfl)); intro gb417 hg w13 hbox hb; have n0_ := za.mk (zk (by apply_rules only [HB.out, ze, zb, zf]) hb); have n1_ := za.mk (hbox); have n2_ := za.mk ((by rw [hg]; exact (zm (by apply_rules only [HB.out, ze, zb, zf])) : w.heap.size ≤ gb417)); have n3_ := za.mk ((by rw [hg]; exact (zm (by apply_rules only [HB.out, ze, zb, zf])) : w.heap.size ≤ gb417)); clear HB; have HB := n0_; have BK417 := n1_; have GW417 := n2_; have GE417 := n3_; clear n0_ n1_ n2_ n3_; clear hb hbox hg; obtain ⟨hcz14_0, hcz14_1, hcz14_2, hcz14_3, hcz14_4⟩ := cells5 BK417.out; obtain ⟨hfz14_0, hfz14_1, hfz14_2, hfz14_3, hfz14_4⟩ := zic BK417.out)); try go_wp2_with (first | ((with_reducible refine zza (N := 3) rfl ?_); refine zgc ?hg (N := 3) ?hd (cs := #[.int .i64 a0_0, .int .i64 a0_1, .int .i64 a0_2, .int .i64 a0_3, .int .i64 a0_4]) (t := 23) ?hr ?_; (case hd => rfl); (case hg => rfl); (case hr => first | (go_simp; done) | (go_simp; rfl)); intro gb417 hg w13 hbox hb; have n0_ := za.mk (zk (by apply_rules only [HB.out, ze, zb, zf]) hb); have n1_ := za.mk (hbox); have n2_ := za.mk ((by rw [hg]; exact (zm (by apply_rules only [HB.out, ze, zb, zf])) : w.heap.size ≤ gb417)); have n3_ := za.mk ((by rw [hg]; exact (zm (by apply_rules only [HB.out, ze, zb, zf])) : w.heap.size ≤ gb417)); clear HB; have HB := n0_; have BK417 := n1_; have GW417 := n2_; have GE417 := n3_; clear n0_ n1_ n2_ n3_; clear hb hbox hg; obtain ⟨hcz14_0, hcz14_1, hcz14_2, hcz14_3, hcz14_4⟩ := cells5 BK417.out; obtain ⟨hfz14_0, hfz14_1, hfz14_2, hfz14_3, hfz14_4⟩ := zic BK417.out)))
      go_ret
      exact ⟨by first | rfl | (simp [zn, zo] <;> rfl) | (simp [*, zn, zo] <;> rfl), by apply_rules only [HB.out, ze, zb, zf, fun h => zg h GE417.out]⟩
     ·rw [if_neg c12] at H
      have c12b0 : (a1 == (Int.tmod (wrap64 ((Int.tmod a2 a0_1) + (wrap64 (1 + (Int.tmod (wrap64 (Int.tdiv a2 a0_1)) (wrap64 (a0_1 - 1))))))) a0_1)) = false := beq_eq_false_iff_ne.mpr c12
      have c12b1 : (a1 != (Int.tmod (wrap64 ((Int.tmod a2 a0_1) + (wrap64 (1 + (Int.tmod (wrap64 (Int.tdiv a2 a0_1)) (wrap64 (a0_1 - 1))))))) a0_1)) = true := bne_iff_ne.mpr c12
      obtain rfl := Option.some.inj H
      go_enter Tryz.func94, Tryz.ntmps94
      go_wp2_with (first | ((with_reducible refine zza (N := 3) rfl ?_); refine zgc ?hg (N := 3) ?hd (cs := #[.int .i64 a0_0, .int .i64 a0_1, .int .i64 a0_2, .int .i64 a0_3, .int .i64 a0_4]) (t := 23) ?hr ?_; (case hd => rfl); (case hg => rfl); (case hr => first | (go_simp; done) | (go_simp; rfl)); intro gb417 hg w15 hbox hb; have n0_ := za.mk (zk (by apply_rules only [HB.out, ze, zb, zf]) hb); have n1_ := za.mk (hbox); have n2_ := za.mk ((by rw [hg]; exact (zm (by apply_rules only [HB.out, ze, zb, zf])) : w.heap.size ≤ gb417)); have n3_ := za.mk ((by rw [hg]; exact (zm (by apply_rules only [HB.out, ze, zb, zf])) : w.heap.size ≤ gb417)); clear HB; have HB := n0_; have BK417 := n1_; have GW417 := n2_; have GE417 := n3_; clear n0_ n1_ n2_ n3_; clear hb hbox hg; obtain ⟨hcz16_0, hcz16_1, hcz16_2, hcz16_3, hcz16_4⟩ := cells5 BK417.out; obtain ⟨hfz16_0, hfz16_1, hfz16_2, hfz16_3, hfz16_4⟩ := zic BK417.out))
      repeat (go_quiet (first | ((with_reducible refine zza (N := 3) rfl ?_); refine zgc ?hg (N := 3) ?hd (cs := #[.int .i64 a0_0, .int .i64 a0_1, .int .i64 a0_2, .int .i64 a0_3, .int .i64 a0_4]) (t := 23) ?hr ?_; (case hd => rfl); (case hg => rfl); (case hr => first | (go_simp; done) | (go_simp; rfl)); intro gb417 hg w15 hbox hb; have n0_ := za.mk (zk (by apply_rules only [HB.out, ze, zb, zf]) hb); have n1_ := za.mk (hbox); have n2_ := za.mk ((by rw [hg]; exact (zm (by apply_rules only [HB.out, ze, zb, zf])) : w.heap.size ≤ gb417)); have n3_ := za.mk ((by rw [hg]; exact (zm (by apply_rules only [HB.out, ze, zb, zf])) : w.heap.size ≤ gb417)); clear HB; have HB := n0_; have BK417 := n1_; have GW417 := n2_; have GE417 := n3_; clear n0_ n1_ n2_ n3_; clear hb hbox hg; obtain ⟨hcz16_0, hcz16_1, hcz16_2, hcz16_3, hcz16_4⟩ := cells5 BK417.out; obtain ⟨hfz16_0, hfz16_1, hfz16_2, hfz16_3, hfz16_4⟩ := zic BK417.out)); try go_wp2_with (first | ((with_reducible refine zza (N := 3) rfl ?_); refine zgc ?hg (N := 3) ?hd (cs := #[.int .i64 a0_0, .int .i64 a0_1, .int .i64 a0_2, .int .i64 a0_3, .int .i64 a0_4]) (t := 23) ?hr ?_; (case hd => rfl); (case hg => rfl); (case hr => first | (go_simp; done) | (go_simp; rfl)); intro gb417 hg w15 hbox hb; have n0_ := za.mk (zk (by apply_rules only [HB.out, ze, zb, zf]) hb); have n1_ := za.mk (hbox); have n2_ := za.mk ((by rw [hg]; exact (zm (by apply_rules only [HB.out, ze, zb, zf])) : w.heap.size ≤ gb417)); have n3_ := za.mk ((by rw [hg]; exact (zm (by apply_rules only [HB.out, ze, zb, zf])) : w.heap.size ≤ gb417)); clear HB; have HB := n0_; have BK417 := n1_; have GW417 := n2_; have GE417 := n3_; clear n0_ n1_ n2_ n3_; clear hb hbox hg; obtain ⟨hcz16_0, hcz16_1, hcz16_2, hcz16_3, hcz16_4⟩ := cells5 BK417.out; obtain ⟨hfz16_0, hfz16_1, hfz16_2, hfz16_3, hfz16_4⟩ := zic BK417.out)))
      go_ret
      exact ⟨by first | rfl | (simp [zn, zo] <;> rfl) | (simp [*, zn, zo] <;> rfl), by apply_rules only [HB.out, ze, zb, zf, fun h => zg h GE417.out]⟩
end Go.Proofs.YtnglindlofmknaaGreatDoor.B
end
