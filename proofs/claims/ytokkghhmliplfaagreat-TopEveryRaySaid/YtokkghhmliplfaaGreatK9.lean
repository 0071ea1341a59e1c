/- The row TopEveryRay of the program holds; part 10 of the proof. No condition. -/
import Derived.Test.YtokkghhmliplfaaGreatK8
set_option maxRecDepth 100000
set_option maxHeartbeats 12800000
set_option linter.all false
namespace Go.Proofs.YtokkghhmliplfaaGreat
section
open Go.RowKit Go.Sort
attribute [local go_sem] qAt qUpon okOp okUpon cell_in_grow frozen_in_grow encFixV_eq encBodyV_eq encJointV_eq encPkV_eq encPtV_eq encCtV_eq encMfV_eq encWorldV_eq
attribute [local go_sem ↓] loadAt31 storeAt31 loadAt99 storeAt99 loadAt44 storeAt44 loadAt58 storeAt58 loadAt70 storeAt70 loadAt25 storeAt25 loadAt94 storeAt94 loadAt143 storeAt143
attribute [local go_sem] run_bl31 run_bs31 run_bl99 run_bs99 run_bl44 run_bs44 run_bl58 run_bs58 run_bl70 run_bs70 run_bl25 run_bs25 run_bl94 run_bs94 run_bl143 run_bs143 there_new there_alloc have_in_grow cells_in_grow oc_int oc_bool oc_slice oc_all oc_cons oc_nil List.size_toArray List.length_cons List.length_nil
attribute [local go_sem high] eqR23 eqR94
def cpsI (ax ay bx by_ cx cy dx dy : Int) : Int × Int × Int × Int := let r3 : Int := sat ax; let r4 : Int := sat ay; let r5 : Int := sat bx; let r6 : Int := sat by_; let r7 : Int := sat cx; let r8 : Int := sat cy; let r9 : Int := sat dx; let r10 : Int := sat dy; let r13 : Bool := itI r3 r4 r5 r6 r7 r8 r9 r10; bif r13 then (let r74 : Int := lineD r7 r8 r9 r10 r3 r4; let r75 : Int := lineD r7 r8 r9 r10 r5 r6; let r77 : Int := ratioI r74 (IntKind.i64.wrap (r74 + r75)); let r78 : Int := lerpI r3 r5 r77; let r79 : Int := lerpI r4 r6 r77; (r78, r79, r78, r79)) else (let r16 : Int := cpX r7 r8 r9 r10 r3 r4; let r17 : Int := cpY r7 r8 r9 r10 r3 r4; let r18 : Int := cpT r7 r8 r9 r10 r3 r4; let r21 : Int := cpX r7 r8 r9 r10 r5 r6; let r22 : Int := cpY r7 r8 r9 r10 r5 r6; let r23 : Int := cpT r7 r8 r9 r10 r5 r6; let r26 : Int := cpX r3 r4 r5 r6 r7 r8; let r27 : Int := cpY r3 r4 r5 r6 r7 r8; let r28 : Int := cpT r3 r4 r5 r6 r7 r8; let r31 : Int := cpX r3 r4 r5 r6 r9 r10; let r32 : Int := cpY r3 r4 r5 r6 r9 r10; let r33 : Int := cpT r3 r4 r5 r6 r9 r10; let r39 : Int := dsqI r5 r6 r21 r22; let r40 : Int := dsqI r3 r4 r16 r17; bif decide (r39 < r40) then (let r60 : Int := dsqI r26 r27 r7 r8; bif decide (r60 < r39) then (let r70 : Int := dsqI r31 r32 r9 r10; bif decide (r70 < r60) then ((r31, r32, r9, r10)) else ((r26, r27, r7, r8))) else (let r64 : Int := dsqI r31 r32 r9 r10; bif decide (r64 < r39) then ((r31, r32, r9, r10)) else ((r5, r6, r21, r22)))) else (let r44 : Int := dsqI r26 r27 r7 r8; bif decide (r44 < r40) then (let r54 : Int := dsqI r31 r32 r9 r10; bif decide (r54 < r44) then ((r31, r32, r9, r10)) else ((r26, r27, r7, r8))) else (let r48 : Int := dsqI r31 r32 r9 r10; bif decide (r48 < r40) then ((r31, r32, r9, r10)) else ((r3, r4, r16, r17)))))
theorem closestPoints_any (ax ay bx by_ cx cy dx dy : Int) (w : World) :
   Calls Tryz.prog 84 #[.agg #[.int .i64 (ax), .int .i64 (ay)], .agg #[.int .i64 (bx), .int .i64 (by_)], .agg #[.int .i64 (cx), .int .i64 (cy)], .agg #[.int .i64 (dx), .int .i64 (dy)]] w fun e w' => e = .returned (.tuple #[.agg #[.int .i64 ((cpsI ax ay bx by_ cx cy dx dy).1), .int .i64 ((cpsI ax ay bx by_ cx cy dx dy).2.1)], .agg #[.int .i64 ((cpsI ax ay bx by_ cx cy dx dy).2.2.1), .int .i64 ((cpsI ax ay bx by_ cx cy dx dy).2.2.2)]]) ∧ Grw w w' := by
 go_enter Tryz.func84, Tryz.ntmps84
 go_upto_region 1 with (fail)
 refine wp_gen (fun xw => Grw w xw ∧ Bk xw (w.heap.size) 23 #[.int .i64 (ax), .int .i64 (ay)] ∧ Bk xw (w.heap.size + 1) 23 #[.int .i64 (bx), .int .i64 (by_)] ∧ Bk xw (w.heap.size + 1 + 1) 23 #[.int .i64 (cx), .int .i64 (cy)] ∧ Bk xw (w.heap.size + 1 + 1 + 1) 23 #[.int .i64 (dx), .int .i64 (dy)] ∧ Bk xw (w.heap.size + 1 + 1 + 1 + 1) 23 #[.int .i64 (0), .int .i64 (0)] ∧ Bk xw (w.heap.size + 1 + 1 + 1 + 1 + 1) 23 #[.int .i64 (0), .int .i64 (0)]) ⟨(((((((Grw.refl w)).alloc _).alloc _).alloc _).alloc _).alloc _).alloc _, ((((((Bk.new' (by simp))).alloc _).alloc _).alloc _).alloc _).alloc _, (((((Bk.new' (by simp))).alloc _).alloc _).alloc _).alloc _, ((((Bk.new' (by simp))).alloc _).alloc _).alloc _, (((Bk.new' (by simp))).alloc _).alloc _, ((Bk.new' (by simp))).alloc _, (Bk.new' (by simp))⟩ ?_
 rintro w1 ⟨hw1, hB1_0, hB1_1, hB1_2, hB1_3, hB1_4, hB1_5⟩
 have g1_0_0 : w1.cell? ⟨w.heap.size, 0, none⟩ = some (.int .i64 (ax)) := hB1_0.cell 0
 have g1_0_1 : w1.cell? ⟨w.heap.size, 1, none⟩ = some (.int .i64 (ay)) := hB1_0.cell 1
 have g1_0_l := hB1_0.lt
 have g1_1_0 : w1.cell? ⟨w.heap.size + 1, 0, none⟩ = some (.int .i64 (bx)) := hB1_1.cell 0
 have g1_1_1 : w1.cell? ⟨w.heap.size + 1, 1, none⟩ = some (.int .i64 (by_)) := hB1_1.cell 1
 have g1_1_l := hB1_1.lt
 have g1_2_0 : w1.cell? ⟨w.heap.size + 1 + 1, 0, none⟩ = some (.int .i64 (cx)) := hB1_2.cell 0
 have g1_2_1 : w1.cell? ⟨w.heap.size + 1 + 1, 1, none⟩ = some (.int .i64 (cy)) := hB1_2.cell 1
 have g1_2_l := hB1_2.lt
 have g1_3_0 : w1.cell? ⟨w.heap.size + 1 + 1 + 1, 0, none⟩ = some (.int .i64 (dx)) := hB1_3.cell 0
 have g1_3_1 : w1.cell? ⟨w.heap.size + 1 + 1 + 1, 1, none⟩ = some (.int .i64 (dy)) := hB1_3.cell 1
 have g1_3_l := hB1_3.lt
 have g1_4_l := hB1_4.lt
 have g1_5_l := hB1_5.lt
 have HB1 := Lib.hid (show _ ∧ _ ∧ _ ∧ _ ∧ _ ∧ _ from ⟨hB1_0, hB1_1, hB1_2, hB1_3, hB1_4, hB1_5⟩); clear hB1_0 hB1_1 hB1_2 hB1_3 hB1_4 hB1_5
 refine wp_region_flowA 8 (by kernel_rfl) (by kernel_rfl) ?_
 simp only [tD]
 iterate 1 (refine wpQ_step (fun K hK => ?_); go_simp; refine hK _ ?_; clear hK K)
 refine wpQ_step (fun K hK => ?_); go_simp; apply Exists.intro; refine ⟨fun _ => ?_, hK _ ?_⟩; (go_at_call 152; exact (ssat_any _ _ _)); clear hK K
 iterate 1 (refine wpQ_step (fun K hK => ?_); go_simp; refine hK _ ?_; clear hK K)
 refine wpQ_step (fun K hK => ?_); go_simp; apply Exists.intro; refine ⟨fun _ => ?_, hK _ ?_⟩; (go_at_call 152; exact (ssat_any _ _ _)); clear hK K
 iterate 1 (refine wpQ_step (fun K hK => ?_); go_simp; refine hK _ ?_; clear hK K)
 refine wpQ_step (fun K hK => ?_); go_simp; apply Exists.intro; refine ⟨fun _ => ?_, hK _ ?_⟩; (go_at_call 152; exact (ssat_any _ _ _)); clear hK K
 iterate 1 (refine wpQ_step (fun K hK => ?_); go_simp; refine hK _ ?_; clear hK K)
 refine wpQ_step (fun K hK => ?_); go_simp; apply Exists.intro; refine ⟨fun _ => ?_, hK _ ?_⟩; (go_at_call 152; exact (ssat_any _ _ _)); clear hK K
 refine wpQ_nil ?_
 intro w2 hg2
 obtain ⟨r3, hr3⟩ : ∃ r : Int, r = sat ax := ⟨_, rfl⟩
 obtain ⟨r4, hr4⟩ : ∃ r : Int, r = sat ay := ⟨_, rfl⟩
 (try simp only [← hr3, ← hr4])
 have R3 := Lib.hid hr3; clear hr3
 have R4 := Lib.hid hr4; clear hr4
 obtain ⟨r5, hr5⟩ : ∃ r : Int, r = sat bx := ⟨_, rfl⟩
 obtain ⟨r6, hr6⟩ : ∃ r : Int, r = sat by_ := ⟨_, rfl⟩
 (try simp only [← hr5, ← hr6])
 have R5 := Lib.hid hr5; clear hr5
 have R6 := Lib.hid hr6; clear hr6
 obtain ⟨r7, hr7⟩ : ∃ r : Int, r = sat cx := ⟨_, rfl⟩
 obtain ⟨r8, hr8⟩ : ∃ r : Int, r = sat cy := ⟨_, rfl⟩
 (try simp only [← hr7, ← hr8])
 have R7 := Lib.hid hr7; clear hr7
 have R8 := Lib.hid hr8; clear hr8
 obtain ⟨r9, hr9⟩ : ∃ r : Int, r = sat dx := ⟨_, rfl⟩
 obtain ⟨r10, hr10⟩ : ∃ r : Int, r = sat dy := ⟨_, rfl⟩
 (try simp only [← hr9, ← hr10])
 have R9 := Lib.hid hr9; clear hr9
 have R10 := Lib.hid hr10; clear hr10
 obtain ⟨b0, b1, b2, b3, b4, b5⟩ := HB1.out
 have hB2_0 : Bk w2 (w.heap.size) 23 #[.int .i64 (ax), .int .i64 (ay)] := (b0).grw hg2
 have hB2_1 : Bk w2 (w.heap.size + 1) 23 #[.int .i64 (bx), .int .i64 (by_)] := (b1).grw hg2
 have hB2_2 : Bk w2 (w.heap.size + 1 + 1) 23 #[.int .i64 (cx), .int .i64 (cy)] := (b2).grw hg2
 have hB2_3 : Bk w2 (w.heap.size + 1 + 1 + 1) 23 #[.int .i64 (dx), .int .i64 (dy)] := (b3).grw hg2
 have hB2_4 : Bk w2 (w.heap.size + 1 + 1 + 1 + 1) 23 #[.int .i64 (0), .int .i64 (0)] := (b4).grw hg2
 have hB2_5 : Bk w2 (w.heap.size + 1 + 1 + 1 + 1 + 1) 23 #[.int .i64 (0), .int .i64 (0)] := (b5).grw hg2
 have hw2 : Grw w w2 := (hw1).trans hg2
 have hs2 : w.heap.size + 1 + 1 + 1 + 1 + 1 < w2.heap.size := by have h1 := hg2.size; have h2 := g1_5_l; (try simp at h1); omega
 have g2_0_0 : w2.cell? ⟨w.heap.size, 0, none⟩ = some (.int .i64 (ax)) := hB2_0.cell 0
 have g2_0_1 : w2.cell? ⟨w.heap.size, 1, none⟩ = some (.int .i64 (ay)) := hB2_0.cell 1
 have g2_0_f := hB2_0.frozen
 have g2_0_l := hB2_0.lt
 have g2_1_0 : w2.cell? ⟨w.heap.size + 1, 0, none⟩ = some (.int .i64 (bx)) := hB2_1.cell 0
 have g2_1_1 : w2.cell? ⟨w.heap.size + 1, 1, none⟩ = some (.int .i64 (by_)) := hB2_1.cell 1
 have g2_1_f := hB2_1.frozen
 have g2_1_l := hB2_1.lt
 have g2_2_0 : w2.cell? ⟨w.heap.size + 1 + 1, 0, none⟩ = some (.int .i64 (cx)) := hB2_2.cell 0
 have g2_2_1 : w2.cell? ⟨w.heap.size + 1 + 1, 1, none⟩ = some (.int .i64 (cy)) := hB2_2.cell 1
 have g2_2_f := hB2_2.frozen
 have g2_2_l := hB2_2.lt
 have g2_3_0 : w2.cell? ⟨w.heap.size + 1 + 1 + 1, 0, none⟩ = some (.int .i64 (dx)) := hB2_3.cell 0
 have g2_3_1 : w2.cell? ⟨w.heap.size + 1 + 1 + 1, 1, none⟩ = some (.int .i64 (dy)) := hB2_3.cell 1
 have g2_3_f := hB2_3.frozen
 have g2_3_l := hB2_3.lt
 have g2_4_l := hB2_4.lt
 have g2_5_l := hB2_5.lt
 have HB2 := Lib.hid (show _ ∧ _ ∧ _ ∧ _ ∧ _ ∧ _ from ⟨hB2_0, hB2_1, hB2_2, hB2_3, hB2_4, hB2_5⟩); clear hB2_0 hB2_1 hB2_2 hB2_3 hB2_4 hB2_5
 clear g1_0_0 g1_0_1 g1_0_l g1_1_0 g1_1_1 g1_1_l g1_2_0 g1_2_1 g1_2_l g1_3_0 g1_3_1 g1_3_l g1_4_l g1_5_l b0 b1 b2 b3 b4 b5 HB1 hw1 hg2
 obtain ⟨b0, b1, b2, b3, b4, b5⟩ := HB2.out
 go_upto_region 2 with (fail)
 refine wp_gen (fun xw => Grw w xw ∧ Bk xw (w.heap.size) 23 #[.int .i64 (r3), .int .i64 (r4)] ∧ Bk xw (w.heap.size + 1) 23 #[.int .i64 (r5), .int .i64 (r6)] ∧ Bk xw (w.heap.size + 1 + 1) 23 #[.int .i64 (r7), .int .i64 (r8)] ∧ Bk xw (w.heap.size + 1 + 1 + 1) 23 #[.int .i64 (r9), .int .i64 (r10)] ∧ Bk xw (w.heap.size + 1 + 1 + 1 + 1) 23 #[.int .i64 (0), .int .i64 (0)] ∧ Bk xw (w.heap.size + 1 + 1 + 1 + 1 + 1) 23 #[.int .i64 (0), .int .i64 (0)]) ⟨((((((((hw2).setAt (by omega) _).setAt (by omega) _).setAt (by omega) _).setAt (by omega) _).setAt (by omega) _).setAt (by omega) _).setAt (by omega) _).setAt (by omega) _, ((((((((b0).set' rfl).set' rfl).far (by omega) _).far (by omega) _).far (by omega) _).far (by omega) _).far (by omega) _).far (by omega) _, ((((((((b1).far (by omega) _).far (by omega) _).set' rfl).set' rfl).far (by omega) _).far (by omega) _).far (by omega) _).far (by omega) _, ((((((((b2).far (by omega) _).far (by omega) _).far (by omega) _).far (by omega) _).set' rfl).set' rfl).far (by omega) _).far (by omega) _, ((((((((b3).far (by omega) _).far (by omega) _).far (by omega) _).far (by omega) _).far (by omega) _).far (by omega) _).set' rfl).set' rfl, ((((((((b4).far (by omega) _).far (by omega) _).far (by omega) _).far (by omega) _).far (by omega) _).far (by omega) _).far (by omega) _).far (by omega) _, ((((((((b5).far (by omega) _).far (by omega) _).far (by omega) _).far (by omega) _).far (by omega) _).far (by omega) _).far (by omega) _).far (by omega) _⟩ ?_
 rintro w11 ⟨hw11, hB11_0, hB11_1, hB11_2, hB11_3, hB11_4, hB11_5⟩
 have g11_0_0 : w11.cell? ⟨w.heap.size, 0, none⟩ = some (.int .i64 (r3)) := hB11_0.cell 0
 have g11_0_1 : w11.cell? ⟨w.heap.size, 1, none⟩ = some (.int .i64 (r4)) := hB11_0.cell 1
 have g11_0_l := hB11_0.lt
 have g11_1_0 : w11.cell? ⟨w.heap.size + 1, 0, none⟩ = some (.int .i64 (r5)) := hB11_1.cell 0
 have g11_1_1 : w11.cell? ⟨w.heap.size + 1, 1, none⟩ = some (.int .i64 (r6)) := hB11_1.cell 1
 have g11_1_l := hB11_1.lt
 have g11_2_0 : w11.cell? ⟨w.heap.size + 1 + 1, 0, none⟩ = some (.int .i64 (r7)) := hB11_2.cell 0
 have g11_2_1 : w11.cell? ⟨w.heap.size + 1 + 1, 1, none⟩ = some (.int .i64 (r8)) := hB11_2.cell 1
 have g11_2_l := hB11_2.lt
 have g11_3_0 : w11.cell? ⟨w.heap.size + 1 + 1 + 1, 0, none⟩ = some (.int .i64 (r9)) := hB11_3.cell 0
 have g11_3_1 : w11.cell? ⟨w.heap.size + 1 + 1 + 1, 1, none⟩ = some (.int .i64 (r10)) := hB11_3.cell 1
 have g11_3_l := hB11_3.lt
 have g11_4_l := hB11_4.lt
 have g11_5_l := hB11_5.lt
 have HB11 := Lib.hid (show _ ∧ _ ∧ _ ∧ _ ∧ _ ∧ _ from ⟨hB11_0, hB11_1, hB11_2, hB11_3, hB11_4, hB11_5⟩); clear hB11_0 hB11_1 hB11_2 hB11_3 hB11_4 hB11_5
 clear g2_0_0 g2_0_1 g2_0_f g2_0_l g2_1_0 g2_1_1 g2_1_f g2_1_l g2_2_0 g2_2_1 g2_2_f g2_2_l g2_3_0 g2_3_1 g2_3_f g2_3_l g2_4_l g2_5_l b0 b1 b2 b3 b4 b5 HB2 hw2
 go_wp2_with fail
 (go_at_call 82; refine (intersects_any _ _ _ _ _ _ _ _ _).mono ?_; rintro e w12 ⟨rfl, hg12⟩)
 obtain ⟨r13, hr13⟩ : ∃ r : Bool, r = itI r3 r4 r5 r6 r7 r8 r9 r10 := ⟨_, rfl⟩
 (try simp only [← hr13])
 have R13 := Lib.hid hr13; clear hr13
 obtain ⟨b0, b1, b2, b3, b4, b5⟩ := HB11.out
 have hB12_0 : Bk w12 (w.heap.size) 23 #[.int .i64 (r3), .int .i64 (r4)] := (b0).grw hg12
 have hB12_1 : Bk w12 (w.heap.size + 1) 23 #[.int .i64 (r5), .int .i64 (r6)] := (b1).grw hg12
 have hB12_2 : Bk w12 (w.heap.size + 1 + 1) 23 #[.int .i64 (r7), .int .i64 (r8)] := (b2).grw hg12
 have hB12_3 : Bk w12 (w.heap.size + 1 + 1 + 1) 23 #[.int .i64 (r9), .int .i64 (r10)] := (b3).grw hg12
 have hB12_4 : Bk w12 (w.heap.size + 1 + 1 + 1 + 1) 23 #[.int .i64 (0), .int .i64 (0)] := (b4).grw hg12
 have hB12_5 : Bk w12 (w.heap.size + 1 + 1 + 1 + 1 + 1) 23 #[.int .i64 (0), .int .i64 (0)] := (b5).grw hg12
 have hw12 : Grw w w12 := (hw11).trans hg12
 have hs12 : w.heap.size + 1 + 1 + 1 + 1 + 1 < w12.heap.size := by have h1 := hg12.size; have h2 := g11_5_l; (try simp at h1); omega
 have g12_0_0 : w12.cell? ⟨w.heap.size, 0, none⟩ = some (.int .i64 (r3)) := hB12_0.cell 0
 have g12_0_1 : w12.cell? ⟨w.heap.size, 1, none⟩ = some (.int .i64 (r4)) := hB12_0.cell 1
 have g12_0_l := hB12_0.lt
 have g12_1_0 : w12.cell? ⟨w.heap.size + 1, 0, none⟩ = some (.int .i64 (r5)) := hB12_1.cell 0
 have g12_1_1 : w12.cell? ⟨w.heap.size + 1, 1, none⟩ = some (.int .i64 (r6)) := hB12_1.cell 1
 have g12_1_l := hB12_1.lt
 have g12_2_0 : w12.cell? ⟨w.heap.size + 1 + 1, 0, none⟩ = some (.int .i64 (r7)) := hB12_2.cell 0
 have g12_2_1 : w12.cell? ⟨w.heap.size + 1 + 1, 1, none⟩ = some (.int .i64 (r8)) := hB12_2.cell 1
 have g12_2_l := hB12_2.lt
 have g12_3_0 : w12.cell? ⟨w.heap.size + 1 + 1 + 1, 0, none⟩ = some (.int .i64 (r9)) := hB12_3.cell 0
 have g12_3_1 : w12.cell? ⟨w.heap.size + 1 + 1 + 1, 1, none⟩ = some (.int .i64 (r10)) := hB12_3.cell 1
 have g12_3_l := hB12_3.lt
 have g12_4_l := hB12_4.lt
 have g12_5_l := hB12_5.lt
 have HB12 := Lib.hid (show _ ∧ _ ∧ _ ∧ _ ∧ _ ∧ _ from ⟨hB12_0, hB12_1, hB12_2, hB12_3, hB12_4, hB12_5⟩); clear hB12_0 hB12_1 hB12_2 hB12_3 hB12_4 hB12_5
 clear g11_0_0 g11_0_1 g11_0_l g11_1_0 g11_1_1 g11_1_l g11_2_0 g11_2_1 g11_2_l g11_3_0 g11_3_1 g11_3_l g11_4_l g11_5_l b0 b1 b2 b3 b4 b5 HB11 hw11 hg12
 cases hc14 : (r13)
 · go_wp2_with fail
   (go_at_call 154; refine (closestPoint_any _ _ _ _ _ _ _).mono ?_; rintro e w15 ⟨rfl, hg15⟩)
   obtain ⟨r16, hr16⟩ : ∃ r : Int, r = cpX r7 r8 r9 r10 r3 r4 := ⟨_, rfl⟩
   obtain ⟨r17, hr17⟩ : ∃ r : Int, r = cpY r7 r8 r9 r10 r3 r4 := ⟨_, rfl⟩
   obtain ⟨r18, hr18⟩ : ∃ r : Int, r = cpT r7 r8 r9 r10 r3 r4 := ⟨_, rfl⟩
   (try simp only [← hr16, ← hr17, ← hr18])
   have R16 := Lib.hid hr16; clear hr16
   have R17 := Lib.hid hr17; clear hr17
   have R18 := Lib.hid hr18; clear hr18
   obtain ⟨b0, b1, b2, b3, b4, b5⟩ := HB12.out
   have hB15_0 : Bk w15 (w.heap.size) 23 #[.int .i64 (r3), .int .i64 (r4)] := (b0).grw hg15
   have hB15_1 : Bk w15 (w.heap.size + 1) 23 #[.int .i64 (r5), .int .i64 (r6)] := (b1).grw hg15
   have hB15_2 : Bk w15 (w.heap.size + 1 + 1) 23 #[.int .i64 (r7), .int .i64 (r8)] := (b2).grw hg15
   have hB15_3 : Bk w15 (w.heap.size + 1 + 1 + 1) 23 #[.int .i64 (r9), .int .i64 (r10)] := (b3).grw hg15
   have hB15_4 : Bk w15 (w.heap.size + 1 + 1 + 1 + 1) 23 #[.int .i64 (0), .int .i64 (0)] := (b4).grw hg15
   have hB15_5 : Bk w15 (w.heap.size + 1 + 1 + 1 + 1 + 1) 23 #[.int .i64 (0), .int .i64 (0)] := (b5).grw hg15
   have hw15 : Grw w w15 := (hw12).trans hg15
   have hs15 : w.heap.size + 1 + 1 + 1 + 1 + 1 < w15.heap.size := by have h1 := hg15.size; have h2 := g12_5_l; (try simp at h1); omega
   have g15_0_l := hB15_0.lt
   have g15_1_l := hB15_1.lt
   have g15_2_l := hB15_2.lt
   have g15_3_l := hB15_3.lt
   have g15_4_l := hB15_4.lt
   have g15_5_l := hB15_5.lt
   have HB15 := Lib.hid (show _ ∧ _ ∧ _ ∧ _ ∧ _ ∧ _ from ⟨hB15_0, hB15_1, hB15_2, hB15_3, hB15_4, hB15_5⟩); clear hB15_0 hB15_1 hB15_2 hB15_3 hB15_4 hB15_5
   clear g12_0_0 g12_0_1 g12_0_l g12_1_0 g12_1_1 g12_1_l g12_2_0 g12_2_1 g12_2_l g12_3_0 g12_3_1 g12_3_l g12_4_l g12_5_l b0 b1 b2 b3 b4 b5 HB12 hw12 hg15
   obtain ⟨b0, b1, b2, b3, b4, b5⟩ := HB15.out
   go_upto_region 7 with (fail)
   refine wp_gen (fun xw => Grw w xw ∧ Bk xw (w.heap.size) 23 #[.int .i64 (r3), .int .i64 (r4)] ∧ Bk xw (w.heap.size + 1) 23 #[.int .i64 (r5), .int .i64 (r6)] ∧ Bk xw (w.heap.size + 1 + 1) 23 #[.int .i64 (r7), .int .i64 (r8)] ∧ Bk xw (w.heap.size + 1 + 1 + 1) 23 #[.int .i64 (r9), .int .i64 (r10)] ∧ Bk xw (w.heap.size + 1 + 1 + 1 + 1) 23 #[.int .i64 (0), .int .i64 (0)] ∧ Bk xw (w.heap.size + 1 + 1 + 1 + 1 + 1) 23 #[.int .i64 (0), .int .i64 (0)] ∧ Bk xw (w15.heap.size) 23 #[.int .i64 (r16), .int .i64 (r17)]) ⟨(hw15).alloc _, (b0).alloc _, (b1).alloc _, (b2).alloc _, (b3).alloc _, (b4).alloc _, (b5).alloc _, (Bk.new' (by simp))⟩ ?_
   rintro w19 ⟨hw19, hB19_0, hB19_1, hB19_2, hB19_3, hB19_4, hB19_5, hB19_6⟩
   have ho19 : w.heap.size + 1 + 1 + 1 + 1 + 1 < w15.heap.size := g15_5_l
   have g19_0_l := hB19_0.lt
   have g19_1_0 : w19.cell? ⟨w.heap.size + 1, 0, none⟩ = some (.int .i64 (r5)) := hB19_1.cell 0
   have g19_1_1 : w19.cell? ⟨w.heap.size + 1, 1, none⟩ = some (.int .i64 (r6)) := hB19_1.cell 1
   have g19_1_l := hB19_1.lt
   have g19_2_0 : w19.cell? ⟨w.heap.size + 1 + 1, 0, none⟩ = some (.int .i64 (r7)) := hB19_2.cell 0
   have g19_2_1 : w19.cell? ⟨w.heap.size + 1 + 1, 1, none⟩ = some (.int .i64 (r8)) := hB19_2.cell 1
   have g19_2_l := hB19_2.lt
   have g19_3_0 : w19.cell? ⟨w.heap.size + 1 + 1 + 1, 0, none⟩ = some (.int .i64 (r9)) := hB19_3.cell 0
   have g19_3_1 : w19.cell? ⟨w.heap.size + 1 + 1 + 1, 1, none⟩ = some (.int .i64 (r10)) := hB19_3.cell 1
   have g19_3_l := hB19_3.lt
   have g19_4_l := hB19_4.lt
   have g19_5_l := hB19_5.lt
   have g19_6_l := hB19_6.lt
   have HB19 := Lib.hid (show _ ∧ _ ∧ _ ∧ _ ∧ _ ∧ _ ∧ _ from ⟨hB19_0, hB19_1, hB19_2, hB19_3, hB19_4, hB19_5, hB19_6⟩); clear hB19_0 hB19_1 hB19_2 hB19_3 hB19_4 hB19_5 hB19_6
   clear g15_0_l g15_1_l g15_2_l g15_3_l g15_4_l g15_5_l b0 b1 b2 b3 b4 b5 HB15 hw15
   go_wp2_with fail
   (go_at_call 154; refine (closestPoint_any _ _ _ _ _ _ _).mono ?_; rintro e w20 ⟨rfl, hg20⟩)
   obtain ⟨r21, hr21⟩ : ∃ r : Int, r = cpX r7 r8 r9 r10 r5 r6 := ⟨_, rfl⟩
   obtain ⟨r22, hr22⟩ : ∃ r : Int, r = cpY r7 r8 r9 r10 r5 r6 := ⟨_, rfl⟩
   obtain ⟨r23, hr23⟩ : ∃ r : Int, r = cpT r7 r8 r9 r10 r5 r6 := ⟨_, rfl⟩
   (try simp only [← hr21, ← hr22, ← hr23])
   have R21 := Lib.hid hr21; clear hr21
   have R22 := Lib.hid hr22; clear hr22
   have R23 := Lib.hid hr23; clear hr23
   obtain ⟨b0, b1, b2, b3, b4, b5, b6⟩ := HB19.out
   have hB20_0 : Bk w20 (w.heap.size) 23 #[.int .i64 (r3), .int .i64 (r4)] := (b0).grw hg20
   have hB20_1 : Bk w20 (w.heap.size + 1) 23 #[.int .i64 (r5), .int .i64 (r6)] := (b1).grw hg20
   have hB20_2 : Bk w20 (w.heap.size + 1 + 1) 23 #[.int .i64 (r7), .int .i64 (r8)] := (b2).grw hg20
   have hB20_3 : Bk w20 (w.heap.size + 1 + 1 + 1) 23 #[.int .i64 (r9), .int .i64 (r10)] := (b3).grw hg20
   have hB20_4 : Bk w20 (w.heap.size + 1 + 1 + 1 + 1) 23 #[.int .i64 (0), .int .i64 (0)] := (b4).grw hg20
   have hB20_5 : Bk w20 (w.heap.size + 1 + 1 + 1 + 1 + 1) 23 #[.int .i64 (0), .int .i64 (0)] := (b5).grw hg20
   have hB20_6 : Bk w20 (w15.heap.size) 23 #[.int .i64 (r16), .int .i64 (r17)] := (b6).grw hg20
   have hw20 : Grw w w20 := (hw19).trans hg20
   have hs20 : w15.heap.size < w20.heap.size := by have h1 := hg20.size; have h2 := g19_6_l; (try simp at h1); omega
   have g20_0_l := hB20_0.lt
   have g20_1_l := hB20_1.lt
   have g20_2_l := hB20_2.lt
   have g20_3_l := hB20_3.lt
   have g20_4_l := hB20_4.lt
   have g20_5_l := hB20_5.lt
   have g20_6_l := hB20_6.lt
   have HB20 := Lib.hid (show _ ∧ _ ∧ _ ∧ _ ∧ _ ∧ _ ∧ _ from ⟨hB20_0, hB20_1, hB20_2, hB20_3, hB20_4, hB20_5, hB20_6⟩); clear hB20_0 hB20_1 hB20_2 hB20_3 hB20_4 hB20_5 hB20_6
   clear g19_0_l g19_1_0 g19_1_1 g19_1_l g19_2_0 g19_2_1 g19_2_l g19_3_0 g19_3_1 g19_3_l g19_4_l g19_5_l g19_6_l b0 b1 b2 b3 b4 b5 b6 HB19 hw19 hg20
   obtain ⟨b0, b1, b2, b3, b4, b5, b6⟩ := HB20.out
   go_upto_region 8 with (fail)
   refine wp_gen (fun xw => Grw w xw ∧ Bk xw (w.heap.size) 23 #[.int .i64 (r3), .int .i64 (r4)] ∧ Bk xw (w.heap.size + 1) 23 #[.int .i64 (r5), .int .i64 (r6)] ∧ Bk xw (w.heap.size + 1 + 1) 23 #[.int .i64 (r7), .int .i64 (r8)] ∧ Bk xw (w.heap.size + 1 + 1 + 1) 23 #[.int .i64 (r9), .int .i64 (r10)] ∧ Bk xw (w.heap.size + 1 + 1 + 1 + 1) 23 #[.int .i64 (0), .int .i64 (0)] ∧ Bk xw (w.heap.size + 1 + 1 + 1 + 1 + 1) 23 #[.int .i64 (0), .int .i64 (0)] ∧ Bk xw (w15.heap.size) 23 #[.int .i64 (r16), .int .i64 (r17)] ∧ Bk xw (w20.heap.size) 23 #[.int .i64 (r21), .int .i64 (r22)]) ⟨(hw20).alloc _, (b0).alloc _, (b1).alloc _, (b2).alloc _, (b3).alloc _, (b4).alloc _, (b5).alloc _, (b6).alloc _, (Bk.new' (by simp))⟩ ?_
   rintro w24 ⟨hw24, hB24_0, hB24_1, hB24_2, hB24_3, hB24_4, hB24_5, hB24_6, hB24_7⟩
   have ho24 : w15.heap.size < w20.heap.size := g20_6_l
   have g24_0_0 : w24.cell? ⟨w.heap.size, 0, none⟩ = some (.int .i64 (r3)) := hB24_0.cell 0
   have g24_0_1 : w24.cell? ⟨w.heap.size, 1, none⟩ = some (.int .i64 (r4)) := hB24_0.cell 1
   have g24_0_l := hB24_0.lt
   have g24_1_0 : w24.cell? ⟨w.heap.size + 1, 0, none⟩ = some (.int .i64 (r5)) := hB24_1.cell 0
   have g24_1_1 : w24.cell? ⟨w.heap.size + 1, 1, none⟩ = some (.int .i64 (r6)) := hB24_1.cell 1
   have g24_1_l := hB24_1.lt
   have g24_2_0 : w24.cell? ⟨w.heap.size + 1 + 1, 0, none⟩ = some (.int .i64 (r7)) := hB24_2.cell 0
   have g24_2_1 : w24.cell? ⟨w.heap.size + 1 + 1, 1, none⟩ = some (.int .i64 (r8)) := hB24_2.cell 1
   have g24_2_l := hB24_2.lt
   have g24_3_l := hB24_3.lt
   have g24_4_l := hB24_4.lt
   have g24_5_l := hB24_5.lt
   have g24_6_l := hB24_6.lt
   have g24_7_l := hB24_7.lt
   have HB24 := Lib.hid (show _ ∧ _ ∧ _ ∧ _ ∧ _ ∧ _ ∧ _ ∧ _ from ⟨hB24_0, hB24_1, hB24_2, hB24_3, hB24_4, hB24_5, hB24_6, hB24_7⟩); clear hB24_0 hB24_1 hB24_2 hB24_3 hB24_4 hB24_5 hB24_6 hB24_7
   clear g20_0_l g20_1_l g20_2_l g20_3_l g20_4_l g20_5_l g20_6_l b0 b1 b2 b3 b4 b5 b6 HB20 hw20
   go_wp2_with fail
   (go_at_call 154; refine (closestPoint_any _ _ _ _ _ _ _).mono ?_; rintro e w25 ⟨rfl, hg25⟩)
   obtain ⟨r26, hr26⟩ : ∃ r : Int, r = cpX r3 r4 r5 r6 r7 r8 := ⟨_, rfl⟩
   obtain ⟨r27, hr27⟩ : ∃ r : Int, r = cpY r3 r4 r5 r6 r7 r8 := ⟨_, rfl⟩
   obtain ⟨r28, hr28⟩ : ∃ r : Int, r = cpT r3 r4 r5 r6 r7 r8 := ⟨_, rfl⟩
   (try simp only [← hr26, ← hr27, ← hr28])
   have R26 := Lib.hid hr26; clear hr26
   have R27 := Lib.hid hr27; clear hr27
   have R28 := Lib.hid hr28; clear hr28
   obtain ⟨b0, b1, b2, b3, b4, b5, b6, b7⟩ := HB24.out
   have hB25_0 : Bk w25 (w.heap.size) 23 #[.int .i64 (r3), .int .i64 (r4)] := (b0).grw hg25
   have hB25_1 : Bk w25 (w.heap.size + 1) 23 #[.int .i64 (r5), .int .i64 (r6)] := (b1).grw hg25
   have hB25_2 : Bk w25 (w.heap.size + 1 + 1) 23 #[.int .i64 (r7), .int .i64 (r8)] := (b2).grw hg25
   have hB25_3 : Bk w25 (w.heap.size + 1 + 1 + 1) 23 #[.int .i64 (r9), .int .i64 (r10)] := (b3).grw hg25
   have hB25_4 : Bk w25 (w.heap.size + 1 + 1 + 1 + 1) 23 #[.int .i64 (0), .int .i64 (0)] := (b4).grw hg25
   have hB25_5 : Bk w25 (w.heap.size + 1 + 1 + 1 + 1 + 1) 23 #[.int .i64 (0), .int .i64 (0)] := (b5).grw hg25
   have hB25_6 : Bk w25 (w15.heap.size) 23 #[.int .i64 (r16), .int .i64 (r17)] := (b6).grw hg25
   have hB25_7 : Bk w25 (w20.heap.size) 23 #[.int .i64 (r21), .int .i64 (r22)] := (b7).grw hg25
   have hw25 : Grw w w25 := (hw24).trans hg25
   have hs25 : w20.heap.size < w25.heap.size := by have h1 := hg25.size; have h2 := g24_7_l; (try simp at h1); omega
   have g25_0_l := hB25_0.lt
   have g25_1_l := hB25_1.lt
   have g25_2_l := hB25_2.lt
   have g25_3_l := hB25_3.lt
   have g25_4_l := hB25_4.lt
   have g25_5_l := hB25_5.lt
   have g25_6_l := hB25_6.lt
   have g25_7_l := hB25_7.lt
   have HB25 := Lib.hid (show _ ∧ _ ∧ _ ∧ _ ∧ _ ∧ _ ∧ _ ∧ _ from ⟨hB25_0, hB25_1, hB25_2, hB25_3, hB25_4, hB25_5, hB25_6, hB25_7⟩); clear hB25_0 hB25_1 hB25_2 hB25_3 hB25_4 hB25_5 hB25_6 hB25_7
   clear g24_0_0 g24_0_1 g24_0_l g24_1_0 g24_1_1 g24_1_l g24_2_0 g24_2_1 g24_2_l g24_3_l g24_4_l g24_5_l g24_6_l g24_7_l b0 b1 b2 b3 b4 b5 b6 b7 HB24 hw24 hg25
   obtain ⟨b0, b1, b2, b3, b4, b5, b6, b7⟩ := HB25.out
   go_upto_region 9 with (fail)
   refine wp_gen (fun xw => Grw w xw ∧ Bk xw (w.heap.size) 23 #[.int .i64 (r3), .int .i64 (r4)] ∧ Bk xw (w.heap.size + 1) 23 #[.int .i64 (r5), .int .i64 (r6)] ∧ Bk xw (w.heap.size + 1 + 1) 23 #[.int .i64 (r7), .int .i64 (r8)] ∧ Bk xw (w.heap.size + 1 + 1 + 1) 23 #[.int .i64 (r9), .int .i64 (r10)] ∧ Bk xw (w.heap.size + 1 + 1 + 1 + 1) 23 #[.int .i64 (0), .int .i64 (0)] ∧ Bk xw (w.heap.size + 1 + 1 + 1 + 1 + 1) 23 #[.int .i64 (0), .int .i64 (0)] ∧ Bk xw (w15.heap.size) 23 #[.int .i64 (r16), .int .i64 (r17)] ∧ Bk xw (w20.heap.size) 23 #[.int .i64 (r21), .int .i64 (r22)] ∧ Bk xw (w25.heap.size) 23 #[.int .i64 (r26), .int .i64 (r27)]) ⟨(hw25).alloc _, (b0).alloc _, (b1).alloc _, (b2).alloc _, (b3).alloc _, (b4).alloc _, (b5).alloc _, (b6).alloc _, (b7).alloc _, (Bk.new' (by simp))⟩ ?_
   rintro w29 ⟨hw29, hB29_0, hB29_1, hB29_2, hB29_3, hB29_4, hB29_5, hB29_6, hB29_7, hB29_8⟩
   have ho29 : w20.heap.size < w25.heap.size := g25_7_l
   have g29_0_0 : w29.cell? ⟨w.heap.size, 0, none⟩ = some (.int .i64 (r3)) := hB29_0.cell 0
   have g29_0_1 : w29.cell? ⟨w.heap.size, 1, none⟩ = some (.int .i64 (r4)) := hB29_0.cell 1
   have g29_0_l := hB29_0.lt
   have g29_1_0 : w29.cell? ⟨w.heap.size + 1, 0, none⟩ = some (.int .i64 (r5)) := hB29_1.cell 0
   have g29_1_1 : w29.cell? ⟨w.heap.size + 1, 1, none⟩ = some (.int .i64 (r6)) := hB29_1.cell 1
   have g29_1_l := hB29_1.lt
   have g29_2_l := hB29_2.lt
   have g29_3_0 : w29.cell? ⟨w.heap.size + 1 + 1 + 1, 0, none⟩ = some (.int .i64 (r9)) := hB29_3.cell 0
   have g29_3_1 : w29.cell? ⟨w.heap.size + 1 + 1 + 1, 1, none⟩ = some (.int .i64 (r10)) := hB29_3.cell 1
   have g29_3_l := hB29_3.lt
   have g29_4_l := hB29_4.lt
   have g29_5_l := hB29_5.lt
   have g29_6_l := hB29_6.lt
   have g29_7_l := hB29_7.lt
   have g29_8_l := hB29_8.lt
   have HB29 := Lib.hid (show _ ∧ _ ∧ _ ∧ _ ∧ _ ∧ _ ∧ _ ∧ _ ∧ _ from ⟨hB29_0, hB29_1, hB29_2, hB29_3, hB29_4, hB29_5, hB29_6, hB29_7, hB29_8⟩); clear hB29_0 hB29_1 hB29_2 hB29_3 hB29_4 hB29_5 hB29_6 hB29_7 hB29_8
   clear g25_0_l g25_1_l g25_2_l g25_3_l g25_4_l g25_5_l g25_6_l g25_7_l b0 b1 b2 b3 b4 b5 b6 b7 HB25 hw25
   go_wp2_with fail
   (go_at_call 154; refine (closestPoint_any _ _ _ _ _ _ _).mono ?_; rintro e w30 ⟨rfl, hg30⟩)
   obtain ⟨r31, hr31⟩ : ∃ r : Int, r = cpX r3 r4 r5 r6 r9 r10 := ⟨_, rfl⟩
   obtain ⟨r32, hr32⟩ : ∃ r : Int, r = cpY r3 r4 r5 r6 r9 r10 := ⟨_, rfl⟩
   obtain ⟨r33, hr33⟩ : ∃ r : Int, r = cpT r3 r4 r5 r6 r9 r10 := ⟨_, rfl⟩
   (try simp only [← hr31, ← hr32, ← hr33])
   have R31 := Lib.hid hr31; clear hr31
   have R32 := Lib.hid hr32; clear hr32
   have R33 := Lib.hid hr33; clear hr33
   obtain ⟨b0, b1, b2, b3, b4, b5, b6, b7, b8⟩ := HB29.out
   have hB30_0 : Bk w30 (w.heap.size) 23 #[.int .i64 (r3), .int .i64 (r4)] := (b0).grw hg30
   have hB30_1 : Bk w30 (w.heap.size + 1) 23 #[.int .i64 (r5), .int .i64 (r6)] := (b1).grw hg30
   have hB30_2 : Bk w30 (w.heap.size + 1 + 1) 23 #[.int .i64 (r7), .int .i64 (r8)] := (b2).grw hg30
   have hB30_3 : Bk w30 (w.heap.size + 1 + 1 + 1) 23 #[.int .i64 (r9), .int .i64 (r10)] := (b3).grw hg30
   have hB30_4 : Bk w30 (w.heap.size + 1 + 1 + 1 + 1) 23 #[.int .i64 (0), .int .i64 (0)] := (b4).grw hg30
   have hB30_5 : Bk w30 (w.heap.size + 1 + 1 + 1 + 1 + 1) 23 #[.int .i64 (0), .int .i64 (0)] := (b5).grw hg30
   have hB30_6 : Bk w30 (w15.heap.size) 23 #[.int .i64 (r16), .int .i64 (r17)] := (b6).grw hg30
   have hB30_7 : Bk w30 (w20.heap.size) 23 #[.int .i64 (r21), .int .i64 (r22)] := (b7).grw hg30
   have hB30_8 : Bk w30 (w25.heap.size) 23 #[.int .i64 (r26), .int .i64 (r27)] := (b8).grw hg30
   have hw30 : Grw w w30 := (hw29).trans hg30
   have hs30 : w25.heap.size < w30.heap.size := by have h1 := hg30.size; have h2 := g29_8_l; (try simp at h1); omega
   have g30_0_l := hB30_0.lt
   have g30_1_l := hB30_1.lt
   have g30_2_l := hB30_2.lt
   have g30_3_l := hB30_3.lt
   have g30_4_l := hB30_4.lt
   have g30_5_l := hB30_5.lt
   have g30_6_l := hB30_6.lt
   have g30_7_l := hB30_7.lt
   have g30_8_l := hB30_8.lt
   have HB30 := Lib.hid (show _ ∧ _ ∧ _ ∧ _ ∧ _ ∧ _ ∧ _ ∧ _ ∧ _ from ⟨hB30_0, hB30_1, hB30_2, hB30_3, hB30_4, hB30_5, hB30_6, hB30_7, hB30_8⟩); clear hB30_0 hB30_1 hB30_2 hB30_3 hB30_4 hB30_5 hB30_6 hB30_7 hB30_8
   clear g29_0_0 g29_0_1 g29_0_l g29_1_0 g29_1_1 g29_1_l g29_2_l g29_3_0 g29_3_1 g29_3_l g29_4_l g29_5_l g29_6_l g29_7_l g29_8_l b0 b1 b2 b3 b4 b5 b6 b7 b8 HB29 hw29 hg30
   obtain ⟨b0, b1, b2, b3, b4, b5, b6, b7, b8⟩ := HB30.out
   go_upto_region 10 with (fail)
   refine wp_gen (fun xw => Grw w xw ∧ Bk xw (w.heap.size) 23 #[.int .i64 (r3), .int .i64 (r4)] ∧ Bk xw (w.heap.size + 1) 23 #[.int .i64 (r5), .int .i64 (r6)] ∧ Bk xw (w.heap.size + 1 + 1) 23 #[.int .i64 (r7), .int .i64 (r8)] ∧ Bk xw (w.heap.size + 1 + 1 + 1) 23 #[.int .i64 (r9), .int .i64 (r10)] ∧ Bk xw (w.heap.size + 1 + 1 + 1 + 1) 23 #[.int .i64 (0), .int .i64 (0)] ∧ Bk xw (w.heap.size + 1 + 1 + 1 + 1 + 1) 23 #[.int .i64 (0), .int .i64 (0)] ∧ Bk xw (w15.heap.size) 23 #[.int .i64 (r16), .int .i64 (r17)] ∧ Bk xw (w20.heap.size) 23 #[.int .i64 (r21), .int .i64 (r22)] ∧ Bk xw (w25.heap.size) 23 #[.int .i64 (r26), .int .i64 (r27)] ∧ Bk xw (w30.heap.size) 23 #[.int .i64 (r31), .int .i64 (r32)]) ⟨(hw30).alloc _, (b0).alloc _, (b1).alloc _, (b2).alloc _, (b3).alloc _, (b4).alloc _, (b5).alloc _, (b6).alloc _, (b7).alloc _, (b8).alloc _, (Bk.new' (by simp))⟩ ?_
   rintro w34 ⟨hw34, hB34_0, hB34_1, hB34_2, hB34_3, hB34_4, hB34_5, hB34_6, hB34_7, hB34_8, hB34_9⟩
   have ho34 : w25.heap.size < w30.heap.size := g30_8_l
   have g34_0_0 : w34.cell? ⟨w.heap.size, 0, none⟩ = some (.int .i64 (r3)) := hB34_0.cell 0
   have g34_0_1 : w34.cell? ⟨w.heap.size, 1, none⟩ = some (.int .i64 (r4)) := hB34_0.cell 1
   have g34_0_l := hB34_0.lt
   have g34_1_l := hB34_1.lt
   have g34_2_l := hB34_2.lt
   have g34_3_l := hB34_3.lt
   have g34_4_l := hB34_4.lt
   have g34_5_l := hB34_5.lt
   have g34_6_0 : w34.cell? ⟨w15.heap.size, 0, none⟩ = some (.int .i64 (r16)) := hB34_6.cell 0
   have g34_6_1 : w34.cell? ⟨w15.heap.size, 1, none⟩ = some (.int .i64 (r17)) := hB34_6.cell 1
   have g34_6_l := hB34_6.lt
   have g34_7_l := hB34_7.lt
   have g34_8_l := hB34_8.lt
   have g34_9_l := hB34_9.lt
   have HB34 := Lib.hid (show _ ∧ _ ∧ _ ∧ _ ∧ _ ∧ _ ∧ _ ∧ _ ∧ _ ∧ _ from ⟨hB34_0, hB34_1, hB34_2, hB34_3, hB34_4, hB34_5, hB34_6, hB34_7, hB34_8, hB34_9⟩); clear hB34_0 hB34_1 hB34_2 hB34_3 hB34_4 hB34_5 hB34_6 hB34_7 hB34_8 hB34_9
   clear g30_0_l g30_1_l g30_2_l g30_3_l g30_4_l g30_5_l g30_6_l g30_7_l g30_8_l b0 b1 b2 b3 b4 b5 b6 b7 b8 HB30 hw30
   obtain ⟨b0, b1, b2, b3, b4, b5, b6, b7, b8, b9⟩ := HB34.out
   go_upto_region 11 with (fail)
   refine wp_gen (fun xw => Grw w xw ∧ Bk xw (w.heap.size + 1) 23 #[.int .i64 (r5), .int .i64 (r6)] ∧ Bk xw (w.heap.size + 1 + 1) 23 #[.int .i64 (r7), .int .i64 (r8)] ∧ Bk xw (w.heap.size + 1 + 1 + 1) 23 #[.int .i64 (r9), .int .i64 (r10)] ∧ Bk xw (w.heap.size + 1 + 1 + 1 + 1) 23 #[.int .i64 (0), .int .i64 (0)] ∧ Bk xw (w.heap.size + 1 + 1 + 1 + 1 + 1) 23 #[.int .i64 (0), .int .i64 (0)] ∧ Bk xw (w20.heap.size) 23 #[.int .i64 (r21), .int .i64 (r22)] ∧ Bk xw (w25.heap.size) 23 #[.int .i64 (r26), .int .i64 (r27)] ∧ Bk xw (w30.heap.size) 23 #[.int .i64 (r31), .int .i64 (r32)] ∧ Bk xw (w34.heap.size) 217 #[.int .i64 (r3), .int .i64 (r4), .int .i64 (r16), .int .i64 (r17)]) ⟨(hw34).alloc _, (b1).alloc _, (b2).alloc _, (b3).alloc _, (b4).alloc _, (b5).alloc _, (b7).alloc _, (b8).alloc _, (b9).alloc _, (Bk.new' (by simp))⟩ ?_
   rintro w35 ⟨hw35, hB35_0, hB35_1, hB35_2, hB35_3, hB35_4, hB35_5, hB35_6, hB35_7, hB35_8⟩
   have ho35 : w30.heap.size < w34.heap.size := g34_9_l
   have g35_0_0 : w35.cell? ⟨w.heap.size + 1, 0, none⟩ = some (.int .i64 (r5)) := hB35_0.cell 0
   have g35_0_1 : w35.cell? ⟨w.heap.size + 1, 1, none⟩ = some (.int .i64 (r6)) := hB35_0.cell 1
   have g35_0_l := hB35_0.lt
   have g35_1_0 : w35.cell? ⟨w.heap.size + 1 + 1, 0, none⟩ = some (.int .i64 (r7)) := hB35_1.cell 0
   have g35_1_1 : w35.cell? ⟨w.heap.size + 1 + 1, 1, none⟩ = some (.int .i64 (r8)) := hB35_1.cell 1
   have g35_1_l := hB35_1.lt
   have g35_2_0 : w35.cell? ⟨w.heap.size + 1 + 1 + 1, 0, none⟩ = some (.int .i64 (r9)) := hB35_2.cell 0
   have g35_2_1 : w35.cell? ⟨w.heap.size + 1 + 1 + 1, 1, none⟩ = some (.int .i64 (r10)) := hB35_2.cell 1
   have g35_2_l := hB35_2.lt
   have g35_3_l := hB35_3.lt
   have g35_4_l := hB35_4.lt
   have g35_5_0 : w35.cell? ⟨w20.heap.size, 0, none⟩ = some (.int .i64 (r21)) := hB35_5.cell 0
   have g35_5_1 : w35.cell? ⟨w20.heap.size, 1, none⟩ = some (.int .i64 (r22)) := hB35_5.cell 1
   have g35_5_l := hB35_5.lt
   have g35_6_0 : w35.cell? ⟨w25.heap.size, 0, none⟩ = some (.int .i64 (r26)) := hB35_6.cell 0
   have g35_6_1 : w35.cell? ⟨w25.heap.size, 1, none⟩ = some (.int .i64 (r27)) := hB35_6.cell 1
   have g35_6_l := hB35_6.lt
   have g35_7_0 : w35.cell? ⟨w30.heap.size, 0, none⟩ = some (.int .i64 (r31)) := hB35_7.cell 0
   have g35_7_1 : w35.cell? ⟨w30.heap.size, 1, none⟩ = some (.int .i64 (r32)) := hB35_7.cell 1
   have g35_7_l := hB35_7.lt
   have g35_8_l := hB35_8.lt
   have HB35 := Lib.hid (show _ ∧ _ ∧ _ ∧ _ ∧ _ ∧ _ ∧ _ ∧ _ ∧ _ from ⟨hB35_0, hB35_1, hB35_2, hB35_3, hB35_4, hB35_5, hB35_6, hB35_7, hB35_8⟩); clear hB35_0 hB35_1 hB35_2 hB35_3 hB35_4 hB35_5 hB35_6 hB35_7 hB35_8
   clear g34_0_0 g34_0_1 g34_0_l g34_1_l g34_2_l g34_3_l g34_4_l g34_5_l g34_6_0 g34_6_1 g34_6_l g34_7_l g34_8_l g34_9_l b0 b1 b2 b3 b4 b5 b6 b7 b8 b9 HB34 hw34
   go_wp2_with fail
   refine wp_loop_rounds 6 ?_
   rw [rounds_succ]
   obtain ⟨b0, b1, b2, b3, b4, b5, b6, b7, b8⟩ := HB35.out
   go_upto_region 13 with (fail)
   refine wp_gen (fun xw => Grw w xw ∧ Bk xw (w.heap.size + 1 + 1 + 1 + 1) 23 #[.int .i64 (0), .int .i64 (0)] ∧ Bk xw (w.heap.size + 1 + 1 + 1 + 1 + 1) 23 #[.int .i64 (0), .int .i64 (0)] ∧ Bk xw (w34.heap.size) 217 #[.int .i64 (r3), .int .i64 (r4), .int .i64 (r16), .int .i64 (r17)] ∧ Bk xw (w35.heap.size) 217 #[.int .i64 (r5), .int .i64 (r6), .int .i64 (r21), .int .i64 (r22), .int .i64 (r26), .int .i64 (r27), .int .i64 (r7), .int .i64 (r8), .int .i64 (r31), .int .i64 (r32), .int .i64 (r9), .int .i64 (r10)]) ⟨(hw35).alloc _, (b3).alloc _, (b4).alloc _, (b8).alloc _, (Bk.new' (by simp))⟩ ?_
   rintro w36 ⟨hw36, hB36_0, hB36_1, hB36_2, hB36_3⟩
   have ho36 : w34.heap.size < w35.heap.size := g35_8_l
   have g36_0_l := hB36_0.lt
   have g36_1_l := hB36_1.lt
   have g36_2_l := hB36_2.lt
   have g36_3_0 : w36.cell? ⟨w35.heap.size, 0, none⟩ = some (.int .i64 (r5)) := hB36_3.cell 0
   have g36_3_1 : w36.cell? ⟨w35.heap.size, 1, none⟩ = some (.int .i64 (r6)) := hB36_3.cell 1
   have g36_3_2 : w36.cell? ⟨w35.heap.size, 2, none⟩ = some (.int .i64 (r21)) := hB36_3.cell 2
   have g36_3_3 : w36.cell? ⟨w35.heap.size, 3, none⟩ = some (.int .i64 (r22)) := hB36_3.cell 3
   have g36_3_l := hB36_3.lt
   have HB36 := Lib.hid (show _ ∧ _ ∧ _ ∧ _ from ⟨hB36_0, hB36_1, hB36_2, hB36_3⟩); clear hB36_0 hB36_1 hB36_2 hB36_3
   clear g35_0_0 g35_0_1 g35_0_l g35_1_0 g35_1_1 g35_1_l g35_2_0 g35_2_1 g35_2_l g35_3_l g35_4_l g35_5_0 g35_5_1 g35_5_l g35_6_0 g35_6_1 g35_6_l g35_7_0 g35_7_1 g35_7_l g35_8_l b0 b1 b2 b3 b4 b5 b6 b7 b8 HB35 hw35
   obtain ⟨b0, b1, b2, b3⟩ := HB36.out
   go_upto_region 14 with (fail)
   refine wp_gen (fun xw => Grw w xw ∧ Bk xw (w.heap.size + 1 + 1 + 1 + 1) 23 #[.int .i64 (0), .int .i64 (0)] ∧ Bk xw (w.heap.size + 1 + 1 + 1 + 1 + 1) 23 #[.int .i64 (0), .int .i64 (0)] ∧ Bk xw (w34.heap.size) 217 #[.int .i64 (r3), .int .i64 (r4), .int .i64 (r16), .int .i64 (r17)] ∧ Bk xw (w35.heap.size) 217 #[.int .i64 (r5), .int .i64 (r6), .int .i64 (r21), .int .i64 (r22), .int .i64 (r26), .int .i64 (r27), .int .i64 (r7), .int .i64 (r8), .int .i64 (r31), .int .i64 (r32), .int .i64 (r9), .int .i64 (r10)] ∧ Bk xw (w36.heap.size) 217 #[.int .i64 (r5), .int .i64 (r6), .int .i64 (r21), .int .i64 (r22)]) ⟨(hw36).alloc _, (b0).alloc _, (b1).alloc _, (b2).alloc _, (b3).alloc _, (Bk.new' (by simp))⟩ ?_
   rintro w37 ⟨hw37, hB37_0, hB37_1, hB37_2, hB37_3, hB37_4⟩
   have ho37 : w35.heap.size < w36.heap.size := g36_3_l
   have g37_0_l := hB37_0.lt
   have g37_1_l := hB37_1.lt
   have g37_2_0 : w37.cell? ⟨w34.heap.size, 0, none⟩ = some (.int .i64 (r3)) := hB37_2.cell 0
   have g37_2_1 : w37.cell? ⟨w34.heap.size, 1, none⟩ = some (.int .i64 (r4)) := hB37_2.cell 1
   have g37_2_2 : w37.cell? ⟨w34.heap.size, 2, none⟩ = some (.int .i64 (r16)) := hB37_2.cell 2
   have g37_2_3 : w37.cell? ⟨w34.heap.size, 3, none⟩ = some (.int .i64 (r17)) := hB37_2.cell 3
   have g37_2_l := hB37_2.lt
   have g37_3_l := hB37_3.lt
   have g37_4_0 : w37.cell? ⟨w36.heap.size, 0, none⟩ = some (.int .i64 (r5)) := hB37_4.cell 0
   have g37_4_1 : w37.cell? ⟨w36.heap.size, 1, none⟩ = some (.int .i64 (r6)) := hB37_4.cell 1
   have g37_4_2 : w37.cell? ⟨w36.heap.size, 2, none⟩ = some (.int .i64 (r21)) := hB37_4.cell 2
   have g37_4_3 : w37.cell? ⟨w36.heap.size, 3, none⟩ = some (.int .i64 (r22)) := hB37_4.cell 3
   have g37_4_l := hB37_4.lt
   have HB37 := Lib.hid (show _ ∧ _ ∧ _ ∧ _ ∧ _ from ⟨hB37_0, hB37_1, hB37_2, hB37_3, hB37_4⟩); clear hB37_0 hB37_1 hB37_2 hB37_3 hB37_4
   clear g36_0_l g36_1_l g36_2_l g36_3_0 g36_3_1 g36_3_2 g36_3_3 g36_3_l b0 b1 b2 b3 HB36 hw36
   refine wp_region_flow (by kernel_rfl) (by kernel_rfl) ?_
   iterate 4 (refine wpQ_step (fun K hK => ?_); go_simp; refine hK _ ?_; clear hK K)
   refine wpQ_step (fun K hK => ?_); go_simp; apply Exists.intro; refine ⟨fun _ => ?_, hK _ ?_⟩; (go_at_call 81; exact (dsq_any _ _ _ _ _)); clear hK K
   iterate 4 (refine wpQ_step (fun K hK => ?_); go_simp; refine hK _ ?_; clear hK K)
   refine wpQ_step (fun K hK => ?_); go_simp; apply Exists.intro; refine ⟨fun _ => ?_, hK _ ?_⟩; (go_at_call 81; exact (dsq_any _ _ _ _ _)); clear hK K
   iterate 1 (refine wpQ_step (fun K hK => ?_); go_simp; refine hK _ ?_; clear hK K)
   refine wpQ_nil ?_
   intro w38 hg38
   obtain ⟨r39, hr39⟩ : ∃ r : Int, r = dsqI r5 r6 r21 r22 := ⟨_, rfl⟩
   (try simp only [← hr39])
   have R39 := Lib.hid hr39; clear hr39
   obtain ⟨r40, hr40⟩ : ∃ r : Int, r = dsqI r3 r4 r16 r17 := ⟨_, rfl⟩
   (try simp only [← hr40])
   have R40 := Lib.hid hr40; clear hr40
   obtain ⟨b0, b1, b2, b3, b4⟩ := HB37.out
   have hB38_0 : Bk w38 (w.heap.size + 1 + 1 + 1 + 1) 23 #[.int .i64 (0), .int .i64 (0)] := (b0).grw hg38
   have hB38_1 : Bk w38 (w.heap.size + 1 + 1 + 1 + 1 + 1) 23 #[.int .i64 (0), .int .i64 (0)] := (b1).grw hg38
   have hB38_2 : Bk w38 (w34.heap.size) 217 #[.int .i64 (r3), .int .i64 (r4), .int .i64 (r16), .int .i64 (r17)] := (b2).grw hg38
   have hB38_3 : Bk w38 (w35.heap.size) 217 #[.int .i64 (r5), .int .i64 (r6), .int .i64 (r21), .int .i64 (r22), .int .i64 (r26), .int .i64 (r27), .int .i64 (r7), .int .i64 (r8), .int .i64 (r31), .int .i64 (r32), .int .i64 (r9), .int .i64 (r10)] := (b3).grw hg38
   have hB38_4 : Bk w38 (w36.heap.size) 217 #[.int .i64 (r5), .int .i64 (r6), .int .i64 (r21), .int .i64 (r22)] := (b4).grw hg38
   have hw38 : Grw w w38 := (hw37).trans hg38
   have hs38 : w36.heap.size < w38.heap.size := by have h1 := hg38.size; have h2 := g37_4_l; (try simp at h1); omega
   have g38_0_l := hB38_0.lt
   have g38_1_l := hB38_1.lt
   have g38_2_0 : w38.cell? ⟨w34.heap.size, 0, none⟩ = some (.int .i64 (r3)) := hB38_2.cell 0
   have g38_2_1 : w38.cell? ⟨w34.heap.size, 1, none⟩ = some (.int .i64 (r4)) := hB38_2.cell 1
   have g38_2_2 : w38.cell? ⟨w34.heap.size, 2, none⟩ = some (.int .i64 (r16)) := hB38_2.cell 2
   have g38_2_3 : w38.cell? ⟨w34.heap.size, 3, none⟩ = some (.int .i64 (r17)) := hB38_2.cell 3
   have g38_2_f := hB38_2.frozen
   have g38_2_l := hB38_2.lt
   have g38_3_4 : w38.cell? ⟨w35.heap.size, 4, none⟩ = some (.int .i64 (r26)) := hB38_3.cell 4
   have g38_3_5 : w38.cell? ⟨w35.heap.size, 5, none⟩ = some (.int .i64 (r27)) := hB38_3.cell 5
   have g38_3_6 : w38.cell? ⟨w35.heap.size, 6, none⟩ = some (.int .i64 (r7)) := hB38_3.cell 6
   have g38_3_7 : w38.cell? ⟨w35.heap.size, 7, none⟩ = some (.int .i64 (r8)) := hB38_3.cell 7
   have g38_3_l := hB38_3.lt
   have g38_4_0 : w38.cell? ⟨w36.heap.size, 0, none⟩ = some (.int .i64 (r5)) := hB38_4.cell 0
   have g38_4_1 : w38.cell? ⟨w36.heap.size, 1, none⟩ = some (.int .i64 (r6)) := hB38_4.cell 1
   have g38_4_2 : w38.cell? ⟨w36.heap.size, 2, none⟩ = some (.int .i64 (r21)) := hB38_4.cell 2
   have g38_4_3 : w38.cell? ⟨w36.heap.size, 3, none⟩ = some (.int .i64 (r22)) := hB38_4.cell 3
   have g38_4_l := hB38_4.lt
   have HB38 := Lib.hid (show _ ∧ _ ∧ _ ∧ _ ∧ _ from ⟨hB38_0, hB38_1, hB38_2, hB38_3, hB38_4⟩); clear hB38_0 hB38_1 hB38_2 hB38_3 hB38_4
   clear g37_0_l g37_1_l g37_2_0 g37_2_1 g37_2_2 g37_2_3 g37_2_l g37_3_l g37_4_0 g37_4_1 g37_4_2 g37_4_3 g37_4_l b0 b1 b2 b3 b4 HB37 hw37 hg38
   cases hc41 : (decide (r39 < r40))
   · go_wp2_with fail
     rw [rounds_succ]
     obtain ⟨b0, b1, b2, b3, b4⟩ := HB38.out
     go_upto_region 14 with (fail)
     refine wp_gen (fun xw => Grw w xw ∧ Bk xw (w.heap.size + 1 + 1 + 1 + 1) 23 #[.int .i64 (0), .int .i64 (0)] ∧ Bk xw (w.heap.size + 1 + 1 + 1 + 1 + 1) 23 #[.int .i64 (0), .int .i64 (0)] ∧ Bk xw (w34.heap.size) 217 #[.int .i64 (r3), .int .i64 (r4), .int .i64 (r16), .int .i64 (r17)] ∧ Bk xw (w35.heap.size) 217 #[.int .i64 (r5), .int .i64 (r6), .int .i64 (r21), .int .i64 (r22), .int .i64 (r26), .int .i64 (r27), .int .i64 (r7), .int .i64 (r8), .int .i64 (r31), .int .i64 (r32), .int .i64 (r9), .int .i64 (r10)] ∧ Bk xw (w36.heap.size) 217 #[.int .i64 (r5), .int .i64 (r6), .int .i64 (r21), .int .i64 (r22)] ∧ Bk xw (w38.heap.size) 217 #[.int .i64 (r26), .int .i64 (r27), .int .i64 (r7), .int .i64 (r8)]) ⟨(hw38).alloc _, (b0).alloc _, (b1).alloc _, (b2).alloc _, (b3).alloc _, (b4).alloc _, (Bk.new' (by simp))⟩ ?_
     rintro w42 ⟨hw42, hB42_0, hB42_1, hB42_2, hB42_3, hB42_4, hB42_5⟩
     have ho42 : w36.heap.size < w38.heap.size := g38_4_l
     have g42_0_l := hB42_0.lt
     have g42_1_l := hB42_1.lt
     have g42_2_0 : w42.cell? ⟨w34.heap.size, 0, none⟩ = some (.int .i64 (r3)) := hB42_2.cell 0
     have g42_2_1 : w42.cell? ⟨w34.heap.size, 1, none⟩ = some (.int .i64 (r4)) := hB42_2.cell 1
     have g42_2_2 : w42.cell? ⟨w34.heap.size, 2, none⟩ = some (.int .i64 (r16)) := hB42_2.cell 2
     have g42_2_3 : w42.cell? ⟨w34.heap.size, 3, none⟩ = some (.int .i64 (r17)) := hB42_2.cell 3
     have g42_2_l := hB42_2.lt
     have g42_3_l := hB42_3.lt
     have g42_4_l := hB42_4.lt
     have g42_5_0 : w42.cell? ⟨w38.heap.size, 0, none⟩ = some (.int .i64 (r26)) := hB42_5.cell 0
     have g42_5_1 : w42.cell? ⟨w38.heap.size, 1, none⟩ = some (.int .i64 (r27)) := hB42_5.cell 1
     have g42_5_2 : w42.cell? ⟨w38.heap.size, 2, none⟩ = some (.int .i64 (r7)) := hB42_5.cell 2
     have g42_5_3 : w42.cell? ⟨w38.heap.size, 3, none⟩ = some (.int .i64 (r8)) := hB42_5.cell 3
     have g42_5_l := hB42_5.lt
     have HB42 := Lib.hid (show _ ∧ _ ∧ _ ∧ _ ∧ _ ∧ _ from ⟨hB42_0, hB42_1, hB42_2, hB42_3, hB42_4, hB42_5⟩); clear hB42_0 hB42_1 hB42_2 hB42_3 hB42_4 hB42_5
     clear g38_0_l g38_1_l g38_2_0 g38_2_1 g38_2_2 g38_2_3 g38_2_f g38_2_l g38_3_4 g38_3_5 g38_3_6 g38_3_7 g38_3_l g38_4_0 g38_4_1 g38_4_2 g38_4_3 g38_4_l b0 b1 b2 b3 b4 HB38 hw38
     refine wp_region_flow (by kernel_rfl) (by kernel_rfl) ?_
     iterate 4 (refine wpQ_step (fun K hK => ?_); go_simp; refine hK _ ?_; clear hK K)
     refine wpQ_step (fun K hK => ?_); go_simp; apply Exists.intro; refine ⟨fun _ => ?_, hK _ ?_⟩; (go_at_call 81; exact (dsq_any _ _ _ _ _)); clear hK K
     iterate 4 (refine wpQ_step (fun K hK => ?_); go_simp; refine hK _ ?_; clear hK K)
     refine wpQ_step (fun K hK => ?_); go_simp; apply Exists.intro; refine ⟨fun _ => ?_, hK _ ?_⟩; (go_at_call 81; exact (dsq_any _ _ _ _ _)); clear hK K
     iterate 1 (refine wpQ_step (fun K hK => ?_); go_simp; refine hK _ ?_; clear hK K)
     refine wpQ_nil ?_
     intro w43 hg43
     obtain ⟨r44, hr44⟩ : ∃ r : Int, r = dsqI r26 r27 r7 r8 := ⟨_, rfl⟩
     (try simp only [← hr44])
     have R44 := Lib.hid hr44; clear hr44
     (try simp only [← R40.out])
     obtain ⟨b0, b1, b2, b3, b4, b5⟩ := HB42.out
     have hB43_0 : Bk w43 (w.heap.size + 1 + 1 + 1 + 1) 23 #[.int .i64 (0), .int .i64 (0)] := (b0).grw hg43
     have hB43_1 : Bk w43 (w.heap.size + 1 + 1 + 1 + 1 + 1) 23 #[.int .i64 (0), .int .i64 (0)] := (b1).grw hg43
     have hB43_2 : Bk w43 (w34.heap.size) 217 #[.int .i64 (r3), .int .i64 (r4), .int .i64 (r16), .int .i64 (r17)] := (b2).grw hg43
     have hB43_3 : Bk w43 (w35.heap.size) 217 #[.int .i64 (r5), .int .i64 (r6), .int .i64 (r21), .int .i64 (r22), .int .i64 (r26), .int .i64 (r27), .int .i64 (r7), .int .i64 (r8), .int .i64 (r31), .int .i64 (r32), .int .i64 (r9), .int .i64 (r10)] := (b3).grw hg43
     have hB43_4 : Bk w43 (w38.heap.size) 217 #[.int .i64 (r26), .int .i64 (r27), .int .i64 (r7), .int .i64 (r8)] := (b5).grw hg43
     have hw43 : Grw w w43 := (hw42).trans hg43
     have hs43 : w38.heap.size < w43.heap.size := by have h1 := hg43.size; have h2 := g42_5_l; (try simp at h1); omega
     have g43_0_l := hB43_0.lt
     have g43_1_l := hB43_1.lt
     have g43_2_0 : w43.cell? ⟨w34.heap.size, 0, none⟩ = some (.int .i64 (r3)) := hB43_2.cell 0
     have g43_2_1 : w43.cell? ⟨w34.heap.size, 1, none⟩ = some (.int .i64 (r4)) := hB43_2.cell 1
     have g43_2_2 : w43.cell? ⟨w34.heap.size, 2, none⟩ = some (.int .i64 (r16)) := hB43_2.cell 2
     have g43_2_3 : w43.cell? ⟨w34.heap.size, 3, none⟩ = some (.int .i64 (r17)) := hB43_2.cell 3
     have g43_2_f := hB43_2.frozen
     have g43_2_l := hB43_2.lt
     have g43_3_8 : w43.cell? ⟨w35.heap.size, 8, none⟩ = some (.int .i64 (r31)) := hB43_3.cell 8
     have g43_3_9 : w43.cell? ⟨w35.heap.size, 9, none⟩ = some (.int .i64 (r32)) := hB43_3.cell 9
     have g43_3_10 : w43.cell? ⟨w35.heap.size, 10, none⟩ = some (.int .i64 (r9)) := hB43_3.cell 10
     have g43_3_11 : w43.cell? ⟨w35.heap.size, 11, none⟩ = some (.int .i64 (r10)) := hB43_3.cell 11
     have g43_3_l := hB43_3.lt
     have g43_4_0 : w43.cell? ⟨w38.heap.size, 0, none⟩ = some (.int .i64 (r26)) := hB43_4.cell 0
     have g43_4_1 : w43.cell? ⟨w38.heap.size, 1, none⟩ = some (.int .i64 (r27)) := hB43_4.cell 1
     have g43_4_2 : w43.cell? ⟨w38.heap.size, 2, none⟩ = some (.int .i64 (r7)) := hB43_4.cell 2
     have g43_4_3 : w43.cell? ⟨w38.heap.size, 3, none⟩ = some (.int .i64 (r8)) := hB43_4.cell 3
     have g43_4_l := hB43_4.lt
     have HB43 := Lib.hid (show _ ∧ _ ∧ _ ∧ _ ∧ _ from ⟨hB43_0, hB43_1, hB43_2, hB43_3, hB43_4⟩); clear hB43_0 hB43_1 hB43_2 hB43_3 hB43_4
     clear g42_0_l g42_1_l g42_2_0 g42_2_1 g42_2_2 g42_2_3 g42_2_l g42_3_l g42_4_l g42_5_0 g42_5_1 g42_5_2 g42_5_3 g42_5_l b0 b1 b2 b3 b4 b5 HB42 hw42 hg43
     cases hc45 : (decide (r44 < r40))
     · go_wp2_with fail
       rw [rounds_succ]
       obtain ⟨b0, b1, b2, b3, b4⟩ := HB43.out
       go_upto_region 14 with (fail)
       refine wp_gen (fun xw => Grw w xw ∧ Bk xw (w.heap.size + 1 + 1 + 1 + 1) 23 #[.int .i64 (0), .int .i64 (0)] ∧ Bk xw (w.heap.size + 1 + 1 + 1 + 1 + 1) 23 #[.int .i64 (0), .int .i64 (0)] ∧ Bk xw (w34.heap.size) 217 #[.int .i64 (r3), .int .i64 (r4), .int .i64 (r16), .int .i64 (r17)] ∧ Bk xw (w35.heap.size) 217 #[.int .i64 (r5), .int .i64 (r6), .int .i64 (r21), .int .i64 (r22), .int .i64 (r26), .int .i64 (r27), .int .i64 (r7), .int .i64 (r8), .int .i64 (r31), .int .i64 (r32), .int .i64 (r9), .int .i64 (r10)] ∧ Bk xw (w38.heap.size) 217 #[.int .i64 (r26), .int .i64 (r27), .int .i64 (r7), .int .i64 (r8)] ∧ Bk xw (w43.heap.size) 217 #[.int .i64 (r31), .int .i64 (r32), .int .i64 (r9), .int .i64 (r10)]) ⟨(hw43).alloc _, (b0).alloc _, (b1).alloc _, (b2).alloc _, (b3).alloc _, (b4).alloc _, (Bk.new' (by simp))⟩ ?_
       rintro w46 ⟨hw46, hB46_0, hB46_1, hB46_2, hB46_3, hB46_4, hB46_5⟩
       have ho46 : w38.heap.size < w43.heap.size := g43_4_l
       have g46_0_l := hB46_0.lt
       have g46_1_l := hB46_1.lt
       have g46_2_0 : w46.cell? ⟨w34.heap.size, 0, none⟩ = some (.int .i64 (r3)) := hB46_2.cell 0
       have g46_2_1 : w46.cell? ⟨w34.heap.size, 1, none⟩ = some (.int .i64 (r4)) := hB46_2.cell 1
       have g46_2_2 : w46.cell? ⟨w34.heap.size, 2, none⟩ = some (.int .i64 (r16)) := hB46_2.cell 2
       have g46_2_3 : w46.cell? ⟨w34.heap.size, 3, none⟩ = some (.int .i64 (r17)) := hB46_2.cell 3
       have g46_2_l := hB46_2.lt
       have g46_3_l := hB46_3.lt
       have g46_4_l := hB46_4.lt
       have g46_5_0 : w46.cell? ⟨w43.heap.size, 0, none⟩ = some (.int .i64 (r31)) := hB46_5.cell 0
       have g46_5_1 : w46.cell? ⟨w43.heap.size, 1, none⟩ = some (.int .i64 (r32)) := hB46_5.cell 1
       have g46_5_2 : w46.cell? ⟨w43.heap.size, 2, none⟩ = some (.int .i64 (r9)) := hB46_5.cell 2
       have g46_5_3 : w46.cell? ⟨w43.heap.size, 3, none⟩ = some (.int .i64 (r10)) := hB46_5.cell 3
       have g46_5_l := hB46_5.lt
       have HB46 := Lib.hid (show _ ∧ _ ∧ _ ∧ _ ∧ _ ∧ _ from ⟨hB46_0, hB46_1, hB46_2, hB46_3, hB46_4, hB46_5⟩); clear hB46_0 hB46_1 hB46_2 hB46_3 hB46_4 hB46_5
       clear g43_0_l g43_1_l g43_2_0 g43_2_1 g43_2_2 g43_2_3 g43_2_f g43_2_l g43_3_8 g43_3_9 g43_3_10 g43_3_11 g43_3_l g43_4_0 g43_4_1 g43_4_2 g43_4_3 g43_4_l b0 b1 b2 b3 b4 HB43 hw43
       refine wp_region_flow (by kernel_rfl) (by kernel_rfl) ?_
       iterate 4 (refine wpQ_step (fun K hK => ?_); go_simp; refine hK _ ?_; clear hK K)
       refine wpQ_step (fun K hK => ?_); go_simp; apply Exists.intro; refine ⟨fun _ => ?_, hK _ ?_⟩; (go_at_call 81; exact (dsq_any _ _ _ _ _)); clear hK K
       iterate 4 (refine wpQ_step (fun K hK => ?_); go_simp; refine hK _ ?_; clear hK K)
       refine wpQ_step (fun K hK => ?_); go_simp; apply Exists.intro; refine ⟨fun _ => ?_, hK _ ?_⟩; (go_at_call 81; exact (dsq_any _ _ _ _ _)); clear hK K
       iterate 1 (refine wpQ_step (fun K hK => ?_); go_simp; refine hK _ ?_; clear hK K)
       refine wpQ_nil ?_
       intro w47 hg47
       obtain ⟨r48, hr48⟩ : ∃ r : Int, r = dsqI r31 r32 r9 r10 := ⟨_, rfl⟩
       (try simp only [← hr48])
       have R48 := Lib.hid hr48; clear hr48
       (try simp only [← R40.out])
       obtain ⟨b0, b1, b2, b3, b4, b5⟩ := HB46.out
       have hB47_0 : Bk w47 (w.heap.size + 1 + 1 + 1 + 1) 23 #[.int .i64 (0), .int .i64 (0)] := (b0).grw hg47
       have hB47_1 : Bk w47 (w.heap.size + 1 + 1 + 1 + 1 + 1) 23 #[.int .i64 (0), .int .i64 (0)] := (b1).grw hg47
       have hB47_2 : Bk w47 (w34.heap.size) 217 #[.int .i64 (r3), .int .i64 (r4), .int .i64 (r16), .int .i64 (r17)] := (b2).grw hg47
       have hB47_3 : Bk w47 (w35.heap.size) 217 #[.int .i64 (r5), .int .i64 (r6), .int .i64 (r21), .int .i64 (r22), .int .i64 (r26), .int .i64 (r27), .int .i64 (r7), .int .i64 (r8), .int .i64 (r31), .int .i64 (r32), .int .i64 (r9), .int .i64 (r10)] := (b3).grw hg47
       have hB47_4 : Bk w47 (w43.heap.size) 217 #[.int .i64 (r31), .int .i64 (r32), .int .i64 (r9), .int .i64 (r10)] := (b5).grw hg47
       have hw47 : Grw w w47 := (hw46).trans hg47
       have hs47 : w43.heap.size < w47.heap.size := by have h1 := hg47.size; have h2 := g46_5_l; (try simp at h1); omega
       have g47_0_0 : w47.cell? ⟨w.heap.size + 1 + 1 + 1 + 1, 0, none⟩ = some (.int .i64 (0)) := hB47_0.cell 0
       have g47_0_1 : w47.cell? ⟨w.heap.size + 1 + 1 + 1 + 1, 1, none⟩ = some (.int .i64 (0)) := hB47_0.cell 1
       have g47_0_f := hB47_0.frozen
       have g47_0_l := hB47_0.lt
       have g47_1_0 : w47.cell? ⟨w.heap.size + 1 + 1 + 1 + 1 + 1, 0, none⟩ = some (.int .i64 (0)) := hB47_1.cell 0
       have g47_1_1 : w47.cell? ⟨w.heap.size + 1 + 1 + 1 + 1 + 1, 1, none⟩ = some (.int .i64 (0)) := hB47_1.cell 1
       have g47_1_f := hB47_1.frozen
       have g47_1_l := hB47_1.lt
       have g47_2_0 : w47.cell? ⟨w34.heap.size, 0, none⟩ = some (.int .i64 (r3)) := hB47_2.cell 0
       have g47_2_1 : w47.cell? ⟨w34.heap.size, 1, none⟩ = some (.int .i64 (r4)) := hB47_2.cell 1
       have g47_2_2 : w47.cell? ⟨w34.heap.size, 2, none⟩ = some (.int .i64 (r16)) := hB47_2.cell 2
       have g47_2_3 : w47.cell? ⟨w34.heap.size, 3, none⟩ = some (.int .i64 (r17)) := hB47_2.cell 3
       have g47_2_f := hB47_2.frozen
       have g47_2_l := hB47_2.lt
       have g47_3_l := hB47_3.lt
       have g47_4_0 : w47.cell? ⟨w43.heap.size, 0, none⟩ = some (.int .i64 (r31)) := hB47_4.cell 0
       have g47_4_1 : w47.cell? ⟨w43.heap.size, 1, none⟩ = some (.int .i64 (r32)) := hB47_4.cell 1
       have g47_4_2 : w47.cell? ⟨w43.heap.size, 2, none⟩ = some (.int .i64 (r9)) := hB47_4.cell 2
       have g47_4_3 : w47.cell? ⟨w43.heap.size, 3, none⟩ = some (.int .i64 (r10)) := hB47_4.cell 3
       have g47_4_l := hB47_4.lt
       have HB47 := Lib.hid (show _ ∧ _ ∧ _ ∧ _ ∧ _ from ⟨hB47_0, hB47_1, hB47_2, hB47_3, hB47_4⟩); clear hB47_0 hB47_1 hB47_2 hB47_3 hB47_4
       clear g46_0_l g46_1_l g46_2_0 g46_2_1 g46_2_2 g46_2_3 g46_2_l g46_3_l g46_4_l g46_5_0 g46_5_1 g46_5_2 g46_5_3 g46_5_l b0 b1 b2 b3 b4 b5 HB46 hw46 hg47
       cases hc49 : (decide (r48 < r40))
       · go_wp2_with fail
         rw [rounds_succ]
         go_upto_region 17 with (fail)
         go_region
         go_wp2_with fail
         have hF : cpsI ax ay bx by_ cx cy dx dy = (r3, r4, r16, r17) := by unfold cpsI; first | rfl | (simp only [← R48.out, ← R44.out, ← R40.out, ← R39.out, ← R33.out, ← R32.out, ← R31.out, ← R28.out, ← R27.out, ← R26.out, ← R23.out, ← R22.out, ← R21.out, ← R18.out, ← R17.out, ← R16.out, ← R13.out, ← R10.out, ← R9.out, ← R8.out, ← R7.out, ← R6.out, ← R5.out, ← R4.out, ← R3.out, hc14, hc41, hc45, hc49, cond_true, cond_false]; done) | (simp only [← R48.out, ← R44.out, ← R40.out, ← R39.out, ← R33.out, ← R32.out, ← R31.out, ← R28.out, ← R27.out, ← R26.out, ← R23.out, ← R22.out, ← R21.out, ← R18.out, ← R17.out, ← R16.out, ← R13.out, ← R10.out, ← R9.out, ← R8.out, ← R7.out, ← R6.out, ← R5.out, ← R4.out, ← R3.out, hc14, hc41, hc45, hc49, cond_true, cond_false]; rfl) | simp [← R48.out, ← R44.out, ← R40.out, ← R39.out, ← R33.out, ← R32.out, ← R31.out, ← R28.out, ← R27.out, ← R26.out, ← R23.out, ← R22.out, ← R21.out, ← R18.out, ← R17.out, ← R16.out, ← R13.out, ← R10.out, ← R9.out, ← R8.out, ← R7.out, ← R6.out, ← R5.out, ← R4.out, ← R3.out, hc14, hc41, hc45, hc49]
         refine bodyPost_ret (v := .tuple #[.agg #[.int .i64 (r3), .int .i64 (r4)], .agg #[.int .i64 (r16), .int .i64 (r17)]]) (by simp [results, Tryz.results84, go_sem, g47_0_0, g47_0_1, g47_0_f, g47_0_l, g47_1_0, g47_1_1, g47_1_f, g47_1_l, g47_2_0, g47_2_1, g47_2_2, g47_2_3, g47_2_f, g47_2_l, g47_3_l, g47_4_0, g47_4_1, g47_4_2, g47_4_3, g47_4_l]) rfl ⟨by rw [hF], ?_⟩
         exact by (repeat with_reducible first | exact .refl _ | assumption | refine .setAt ?_ (by first | omega | simp <;> omega) _ | refine .setCells ?_ (by first | omega | simp <;> omega) _ | refine .alloc ?_ _ | refine .drewN ?_ _ | refine .drew ?_ | refine .trans ?_ (by assumption))
       · go_wp2_with fail
         rw [rounds_succ]
         obtain ⟨b0, b1, b2, b3, b4⟩ := HB47.out
         go_upto_region 17 with (fail)
         refine wp_gen (fun xw => Grw w xw ∧ Bk xw (w.heap.size + 1 + 1 + 1 + 1) 23 #[.int .i64 (0), .int .i64 (0)] ∧ Bk xw (w.heap.size + 1 + 1 + 1 + 1 + 1) 23 #[.int .i64 (0), .int .i64 (0)] ∧ Bk xw (w34.heap.size) 217 #[.int .i64 (r31), .int .i64 (r32), .int .i64 (r9), .int .i64 (r10)]) ⟨((((hw47).setAt (by omega) _).setAt (by omega) _).setAt (by omega) _).setAt (by omega) _, ((((b0).far (by omega) _).far (by omega) _).far (by omega) _).far (by omega) _, ((((b1).far (by omega) _).far (by omega) _).far (by omega) _).far (by omega) _, ((((b2).set' rfl).set' rfl).set' rfl).set' rfl⟩ ?_
         rintro w50 ⟨hw50, hB50_0, hB50_1, hB50_2⟩
         have g50_0_0 : w50.cell? ⟨w.heap.size + 1 + 1 + 1 + 1, 0, none⟩ = some (.int .i64 (0)) := hB50_0.cell 0
         have g50_0_1 : w50.cell? ⟨w.heap.size + 1 + 1 + 1 + 1, 1, none⟩ = some (.int .i64 (0)) := hB50_0.cell 1
         have g50_0_f := hB50_0.frozen
         have g50_0_l := hB50_0.lt
         have g50_1_0 : w50.cell? ⟨w.heap.size + 1 + 1 + 1 + 1 + 1, 0, none⟩ = some (.int .i64 (0)) := hB50_1.cell 0
         have g50_1_1 : w50.cell? ⟨w.heap.size + 1 + 1 + 1 + 1 + 1, 1, none⟩ = some (.int .i64 (0)) := hB50_1.cell 1
         have g50_1_f := hB50_1.frozen
         have g50_1_l := hB50_1.lt
         have g50_2_0 : w50.cell? ⟨w34.heap.size, 0, none⟩ = some (.int .i64 (r31)) := hB50_2.cell 0
         have g50_2_1 : w50.cell? ⟨w34.heap.size, 1, none⟩ = some (.int .i64 (r32)) := hB50_2.cell 1
         have g50_2_2 : w50.cell? ⟨w34.heap.size, 2, none⟩ = some (.int .i64 (r9)) := hB50_2.cell 2
         have g50_2_3 : w50.cell? ⟨w34.heap.size, 3, none⟩ = some (.int .i64 (r10)) := hB50_2.cell 3
         have g50_2_l := hB50_2.lt
         have HB50 := Lib.hid (show _ ∧ _ ∧ _ from ⟨hB50_0, hB50_1, hB50_2⟩); clear hB50_0 hB50_1 hB50_2
         clear g47_0_0 g47_0_1 g47_0_f g47_0_l g47_1_0 g47_1_1 g47_1_f g47_1_l g47_2_0 g47_2_1 g47_2_2 g47_2_3 g47_2_f g47_2_l g47_3_l g47_4_0 g47_4_1 g47_4_2 g47_4_3 g47_4_l b0 b1 b2 b3 b4 HB47 hw47
         go_region
         go_wp2_with fail
         have hF : cpsI ax ay bx by_ cx cy dx dy = (r31, r32, r9, r10) := by unfold cpsI; first | rfl | (simp only [← R48.out, ← R44.out, ← R40.out, ← R39.out, ← R33.out, ← R32.out, ← R31.out, ← R28.out, ← R27.out, ← R26.out, ← R23.out, ← R22.out, ← R21.out, ← R18.out, ← R17.out, ← R16.out, ← R13.out, ← R10.out, ← R9.out, ← R8.out, ← R7.out, ← R6.out, ← R5.out, ← R4.out, ← R3.out, hc14, hc41, hc45, hc49, cond_true, cond_false]; done) | (simp only [← R48.out, ← R44.out, ← R40.out, ← R39.out, ← R33.out, ← R32.out, ← R31.out, ← R28.out, ← R27.out, ← R26.out, ← R23.out, ← R22.out, ← R21.out, ← R18.out, ← R17.out, ← R16.out, ← R13.out, ← R10.out, ← R9.out, ← R8.out, ← R7.out, ← R6.out, ← R5.out, ← R4.out, ← R3.out, hc14, hc41, hc45, hc49, cond_true, cond_false]; rfl) | simp [← R48.out, ← R44.out, ← R40.out, ← R39.out, ← R33.out, ← R32.out, ← R31.out, ← R28.out, ← R27.out, ← R26.out, ← R23.out, ← R22.out, ← R21.out, ← R18.out, ← R17.out, ← R16.out, ← R13.out, ← R10.out, ← R9.out, ← R8.out, ← R7.out, ← R6.out, ← R5.out, ← R4.out, ← R3.out, hc14, hc41, hc45, hc49]
         refine bodyPost_ret (v := .tuple #[.agg #[.int .i64 (r31), .int .i64 (r32)], .agg #[.int .i64 (r9), .int .i64 (r10)]]) (by simp [results, Tryz.results84, go_sem, g50_0_0, g50_0_1, g50_0_f, g50_0_l, g50_1_0, g50_1_1, g50_1_f, g50_1_l, g50_2_0, g50_2_1, g50_2_2, g50_2_3, g50_2_l]) rfl ⟨by rw [hF], ?_⟩
         exact by (repeat with_reducible first | exact .refl _ | assumption | refine .setAt ?_ (by first | omega | simp <;> omega) _ | refine .setCells ?_ (by first | omega | simp <;> omega) _ | refine .alloc ?_ _ | refine .drewN ?_ _ | refine .drew ?_ | refine .trans ?_ (by assumption))
     · go_wp2_with fail
       rw [rounds_succ]
       obtain ⟨b0, b1, b2, b3, b4⟩ := HB43.out
       go_upto_region 13 with (fail)
       refine wp_gen (fun xw => Grw w xw ∧ Bk xw (w.heap.size + 1 + 1 + 1 + 1) 23 #[.int .i64 (0), .int .i64 (0)] ∧ Bk xw (w.heap.size + 1 + 1 + 1 + 1 + 1) 23 #[.int .i64 (0), .int .i64 (0)] ∧ Bk xw (w34.heap.size) 217 #[.int .i64 (r26), .int .i64 (r27), .int .i64 (r7), .int .i64 (r8)] ∧ Bk xw (w35.heap.size) 217 #[.int .i64 (r5), .int .i64 (r6), .int .i64 (r21), .int .i64 (r22), .int .i64 (r26), .int .i64 (r27), .int .i64 (r7), .int .i64 (r8), .int .i64 (r31), .int .i64 (r32), .int .i64 (r9), .int .i64 (r10)] ∧ Bk xw (w38.heap.size) 217 #[.int .i64 (r26), .int .i64 (r27), .int .i64 (r7), .int .i64 (r8)]) ⟨((((hw43).setAt (by omega) _).setAt (by omega) _).setAt (by omega) _).setAt (by omega) _, ((((b0).far (by omega) _).far (by omega) _).far (by omega) _).far (by omega) _, ((((b1).far (by omega) _).far (by omega) _).far (by omega) _).far (by omega) _, ((((b2).set' rfl).set' rfl).set' rfl).set' rfl, ((((b3).far (by omega) _).far (by omega) _).far (by omega) _).far (by omega) _, ((((b4).far (by omega) _).far (by omega) _).far (by omega) _).far (by omega) _⟩ ?_
       rintro w51 ⟨hw51, hB51_0, hB51_1, hB51_2, hB51_3, hB51_4⟩
       have g51_0_l := hB51_0.lt
       have g51_1_l := hB51_1.lt
       have g51_2_l := hB51_2.lt
       have g51_3_8 : w51.cell? ⟨w35.heap.size, 8, none⟩ = some (.int .i64 (r31)) := hB51_3.cell 8
       have g51_3_9 : w51.cell? ⟨w35.heap.size, 9, none⟩ = some (.int .i64 (r32)) := hB51_3.cell 9
       have g51_3_10 : w51.cell? ⟨w35.heap.size, 10, none⟩ = some (.int .i64 (r9)) := hB51_3.cell 10
       have g51_3_11 : w51.cell? ⟨w35.heap.size, 11, none⟩ = some (.int .i64 (r10)) := hB51_3.cell 11
       have g51_3_l := hB51_3.lt
       have g51_4_l := hB51_4.lt
       have HB51 := Lib.hid (show _ ∧ _ ∧ _ ∧ _ ∧ _ from ⟨hB51_0, hB51_1, hB51_2, hB51_3, hB51_4⟩); clear hB51_0 hB51_1 hB51_2 hB51_3 hB51_4
       clear g43_0_l g43_1_l g43_2_0 g43_2_1 g43_2_2 g43_2_3 g43_2_f g43_2_l g43_3_8 g43_3_9 g43_3_10 g43_3_11 g43_3_l g43_4_0 g43_4_1 g43_4_2 g43_4_3 g43_4_l b0 b1 b2 b3 b4 HB43 hw43
       obtain ⟨b0, b1, b2, b3, b4⟩ := HB51.out
       go_upto_region 14 with (fail)
       refine wp_gen (fun xw => Grw w xw ∧ Bk xw (w.heap.size + 1 + 1 + 1 + 1) 23 #[.int .i64 (0), .int .i64 (0)] ∧ Bk xw (w.heap.size + 1 + 1 + 1 + 1 + 1) 23 #[.int .i64 (0), .int .i64 (0)] ∧ Bk xw (w34.heap.size) 217 #[.int .i64 (r26), .int .i64 (r27), .int .i64 (r7), .int .i64 (r8)] ∧ Bk xw (w35.heap.size) 217 #[.int .i64 (r5), .int .i64 (r6), .int .i64 (r21), .int .i64 (r22), .int .i64 (r26), .int .i64 (r27), .int .i64 (r7), .int .i64 (r8), .int .i64 (r31), .int .i64 (r32), .int .i64 (r9), .int .i64 (r10)] ∧ Bk xw (w38.heap.size) 217 #[.int .i64 (r26), .int .i64 (r27), .int .i64 (r7), .int .i64 (r8)] ∧ Bk xw (w51.heap.size) 217 #[.int .i64 (r31), .int .i64 (r32), .int .i64 (r9), .int .i64 (r10)]) ⟨(hw51).alloc _, (b0).alloc _, (b1).alloc _, (b2).alloc _, (b3).alloc _, (b4).alloc _, (Bk.new' (by simp))⟩ ?_
       rintro w52 ⟨hw52, hB52_0, hB52_1, hB52_2, hB52_3, hB52_4, hB52_5⟩
       have ho52 : w38.heap.size < w51.heap.size := g51_4_l
       have g52_0_l := hB52_0.lt
       have g52_1_l := hB52_1.lt
       have g52_2_0 : w52.cell? ⟨w34.heap.size, 0, none⟩ = some (.int .i64 (r26)) := hB52_2.cell 0
       have g52_2_1 : w52.cell? ⟨w34.heap.size, 1, none⟩ = some (.int .i64 (r27)) := hB52_2.cell 1
       have g52_2_2 : w52.cell? ⟨w34.heap.size, 2, none⟩ = some (.int .i64 (r7)) := hB52_2.cell 2
       have g52_2_3 : w52.cell? ⟨w34.heap.size, 3, none⟩ = some (.int .i64 (r8)) := hB52_2.cell 3
       have g52_2_l := hB52_2.lt
       have g52_3_l := hB52_3.lt
       have g52_4_l := hB52_4.lt
       have g52_5_0 : w52.cell? ⟨w51.heap.size, 0, none⟩ = some (.int .i64 (r31)) := hB52_5.cell 0
       have g52_5_1 : w52.cell? ⟨w51.heap.size, 1, none⟩ = some (.int .i64 (r32)) := hB52_5.cell 1
       have g52_5_2 : w52.cell? ⟨w51.heap.size, 2, none⟩ = some (.int .i64 (r9)) := hB52_5.cell 2
       have g52_5_3 : w52.cell? ⟨w51.heap.size, 3, none⟩ = some (.int .i64 (r10)) := hB52_5.cell 3
       have g52_5_l := hB52_5.lt
       have HB52 := Lib.hid (show _ ∧ _ ∧ _ ∧ _ ∧ _ ∧ _ from ⟨hB52_0, hB52_1, hB52_2, hB52_3, hB52_4, hB52_5⟩); clear hB52_0 hB52_1 hB52_2 hB52_3 hB52_4 hB52_5
       clear g51_0_l g51_1_l g51_2_l g51_3_8 g51_3_9 g51_3_10 g51_3_11 g51_3_l g51_4_l b0 b1 b2 b3 b4 HB51 hw51
       refine wp_region_flow (by kernel_rfl) (by kernel_rfl) ?_
       iterate 4 (refine wpQ_step (fun K hK => ?_); go_simp; refine hK _ ?_; clear hK K)
       refine wpQ_step (fun K hK => ?_); go_simp; apply Exists.intro; refine ⟨fun _ => ?_, hK _ ?_⟩; (go_at_call 81; exact (dsq_any _ _ _ _ _)); clear hK K
       iterate 4 (refine wpQ_step (fun K hK => ?_); go_simp; refine hK _ ?_; clear hK K)
       refine wpQ_step (fun K hK => ?_); go_simp; apply Exists.intro; refine ⟨fun _ => ?_, hK _ ?_⟩; (go_at_call 81; exact (dsq_any _ _ _ _ _)); clear hK K
       iterate 1 (refine wpQ_step (fun K hK => ?_); go_simp; refine hK _ ?_; clear hK K)
       refine wpQ_nil ?_
       intro w53 hg53
       obtain ⟨r54, hr54⟩ : ∃ r : Int, r = dsqI r31 r32 r9 r10 := ⟨_, rfl⟩
       (try simp only [← hr54])
       have R54 := Lib.hid hr54; clear hr54
       (try simp only [← R44.out])
       obtain ⟨b0, b1, b2, b3, b4, b5⟩ := HB52.out
       have hB53_0 : Bk w53 (w.heap.size + 1 + 1 + 1 + 1) 23 #[.int .i64 (0), .int .i64 (0)] := (b0).grw hg53
       have hB53_1 : Bk w53 (w.heap.size + 1 + 1 + 1 + 1 + 1) 23 #[.int .i64 (0), .int .i64 (0)] := (b1).grw hg53
       have hB53_2 : Bk w53 (w34.heap.size) 217 #[.int .i64 (r26), .int .i64 (r27), .int .i64 (r7), .int .i64 (r8)] := (b2).grw hg53
       have hB53_3 : Bk w53 (w35.heap.size) 217 #[.int .i64 (r5), .int .i64 (r6), .int .i64 (r21), .int .i64 (r22), .int .i64 (r26), .int .i64 (r27), .int .i64 (r7), .int .i64 (r8), .int .i64 (r31), .int .i64 (r32), .int .i64 (r9), .int .i64 (r10)] := (b3).grw hg53
       have hB53_4 : Bk w53 (w51.heap.size) 217 #[.int .i64 (r31), .int .i64 (r32), .int .i64 (r9), .int .i64 (r10)] := (b5).grw hg53
       have hw53 : Grw w w53 := (hw52).trans hg53
       have hs53 : w51.heap.size < w53.heap.size := by have h1 := hg53.size; have h2 := g52_5_l; (try simp at h1); omega
       have g53_0_0 : w53.cell? ⟨w.heap.size + 1 + 1 + 1 + 1, 0, none⟩ = some (.int .i64 (0)) := hB53_0.cell 0
       have g53_0_1 : w53.cell? ⟨w.heap.size + 1 + 1 + 1 + 1, 1, none⟩ = some (.int .i64 (0)) := hB53_0.cell 1
       have g53_0_f := hB53_0.frozen
       have g53_0_l := hB53_0.lt
       have g53_1_0 : w53.cell? ⟨w.heap.size + 1 + 1 + 1 + 1 + 1, 0, none⟩ = some (.int .i64 (0)) := hB53_1.cell 0
       have g53_1_1 : w53.cell? ⟨w.heap.size + 1 + 1 + 1 + 1 + 1, 1, none⟩ = some (.int .i64 (0)) := hB53_1.cell 1
       have g53_1_f := hB53_1.frozen
       have g53_1_l := hB53_1.lt
       have g53_2_0 : w53.cell? ⟨w34.heap.size, 0, none⟩ = some (.int .i64 (r26)) := hB53_2.cell 0
       have g53_2_1 : w53.cell? ⟨w34.heap.size, 1, none⟩ = some (.int .i64 (r27)) := hB53_2.cell 1
       have g53_2_2 : w53.cell? ⟨w34.heap.size, 2, none⟩ = some (.int .i64 (r7)) := hB53_2.cell 2
       have g53_2_3 : w53.cell? ⟨w34.heap.size, 3, none⟩ = some (.int .i64 (r8)) := hB53_2.cell 3
       have g53_2_f := hB53_2.frozen
       have g53_2_l := hB53_2.lt
       have g53_3_l := hB53_3.lt
       have g53_4_0 : w53.cell? ⟨w51.heap.size, 0, none⟩ = some (.int .i64 (r31)) := hB53_4.cell 0
       have g53_4_1 : w53.cell? ⟨w51.heap.size, 1, none⟩ = some (.int .i64 (r32)) := hB53_4.cell 1
       have g53_4_2 : w53.cell? ⟨w51.heap.size, 2, none⟩ = some (.int .i64 (r9)) := hB53_4.cell 2
       have g53_4_3 : w53.cell? ⟨w51.heap.size, 3, none⟩ = some (.int .i64 (r10)) := hB53_4.cell 3
       have g53_4_l := hB53_4.lt
       have HB53 := Lib.hid (show _ ∧ _ ∧ _ ∧ _ ∧ _ from ⟨hB53_0, hB53_1, hB53_2, hB53_3, hB53_4⟩); clear hB53_0 hB53_1 hB53_2 hB53_3 hB53_4
       clear g52_0_l g52_1_l g52_2_0 g52_2_1 g52_2_2 g52_2_3 g52_2_l g52_3_l g52_4_l g52_5_0 g52_5_1 g52_5_2 g52_5_3 g52_5_l b0 b1 b2 b3 b4 b5 HB52 hw52 hg53
       cases hc55 : (decide (r54 < r44))
       · go_wp2_with fail
         rw [rounds_succ]
         go_upto_region 17 with (fail)
         go_region
         go_wp2_with fail
         have hF : cpsI ax ay bx by_ cx cy dx dy = (r26, r27, r7, r8) := by unfold cpsI; first | rfl | (simp only [← R54.out, ← R44.out, ← R40.out, ← R39.out, ← R33.out, ← R32.out, ← R31.out, ← R28.out, ← R27.out, ← R26.out, ← R23.out, ← R22.out, ← R21.out, ← R18.out, ← R17.out, ← R16.out, ← R13.out, ← R10.out, ← R9.out, ← R8.out, ← R7.out, ← R6.out, ← R5.out, ← R4.out, ← R3.out, hc14, hc41, hc45, hc55, cond_true, cond_false]; done) | (simp only [← R54.out, ← R44.out, ← R40.out, ← R39.out, ← R33.out, ← R32.out, ← R31.out, ← R28.out, ← R27.out, ← R26.out, ← R23.out, ← R22.out, ← R21.out, ← R18.out, ← R17.out, ← R16.out, ← R13.out, ← R10.out, ← R9.out, ← R8.out, ← R7.out, ← R6.out, ← R5.out, ← R4.out, ← R3.out, hc14, hc41, hc45, hc55, cond_true, cond_false]; rfl) | simp [← R54.out, ← R44.out, ← R40.out, ← R39.out, ← R33.out, ← R32.out, ← R31.out, ← R28.out, ← R27.out, ← R26.out, ← R23.out, ← R22.out, ← R21.out, ← R18.out, ← R17.out, ← R16.out, ← R13.out, ← R10.out, ← R9.out, ← R8.out, ← R7.out, ← R6.out, ← R5.out, ← R4.out, ← R3.out, hc14, hc41, hc45, hc55]
         refine bodyPost_ret (v := .tuple #[.agg #[.int .i64 (r26), .int .i64 (r27)], .agg #[.int .i64 (r7), .int .i64 (r8)]]) (by simp [results, Tryz.results84, go_sem, g53_0_0, g53_0_1, g53_0_f, g53_0_l, g53_1_0, g53_1_1, g53_1_f, g53_1_l, g53_2_0, g53_2_1, g53_2_2, g53_2_3, g53_2_f, g53_2_l, g53_3_l, g53_4_0, g53_4_1, g53_4_2, g53_4_3, g53_4_l]) rfl ⟨by rw [hF], ?_⟩
         exact by (repeat with_reducible first | exact .refl _ | assumption | refine .setAt ?_ (by first | omega | simp <;> omega) _ | refine .setCells ?_ (by first | omega | simp <;> omega) _ | refine .alloc ?_ _ | refine .drewN ?_ _ | refine .drew ?_ | refine .trans ?_ (by assumption))
       · go_wp2_with fail
         rw [rounds_succ]
         obtain ⟨b0, b1, b2, b3, b4⟩ := HB53.out
         go_upto_region 17 with (fail)
         refine wp_gen (fun xw => Grw w xw ∧ Bk xw (w.heap.size + 1 + 1 + 1 + 1) 23 #[.int .i64 (0), .int .i64 (0)] ∧ Bk xw (w.heap.size + 1 + 1 + 1 + 1 + 1) 23 #[.int .i64 (0), .int .i64 (0)] ∧ Bk xw (w34.heap.size) 217 #[.int .i64 (r31), .int .i64 (r32), .int .i64 (r9), .int .i64 (r10)]) ⟨((((hw53).setAt (by omega) _).setAt (by omega) _).setAt (by omega) _).setAt (by omega) _, ((((b0).far (by omega) _).far (by omega) _).far (by omega) _).far (by omega) _, ((((b1).far (by omega) _).far (by omega) _).far (by omega) _).far (by omega) _, ((((b2).set' rfl).set' rfl).set' rfl).set' rfl⟩ ?_
         rintro w56 ⟨hw56, hB56_0, hB56_1, hB56_2⟩
         have g56_0_0 : w56.cell? ⟨w.heap.size + 1 + 1 + 1 + 1, 0, none⟩ = some (.int .i64 (0)) := hB56_0.cell 0
         have g56_0_1 : w56.cell? ⟨w.heap.size + 1 + 1 + 1 + 1, 1, none⟩ = some (.int .i64 (0)) := hB56_0.cell 1
         have g56_0_f := hB56_0.frozen
         have g56_0_l := hB56_0.lt
         have g56_1_0 : w56.cell? ⟨w.heap.size + 1 + 1 + 1 + 1 + 1, 0, none⟩ = some (.int .i64 (0)) := hB56_1.cell 0
         have g56_1_1 : w56.cell? ⟨w.heap.size + 1 + 1 + 1 + 1 + 1, 1, none⟩ = some (.int .i64 (0)) := hB56_1.cell 1
         have g56_1_f := hB56_1.frozen
         have g56_1_l := hB56_1.lt
         have g56_2_0 : w56.cell? ⟨w34.heap.size, 0, none⟩ = some (.int .i64 (r31)) := hB56_2.cell 0
         have g56_2_1 : w56.cell? ⟨w34.heap.size, 1, none⟩ = some (.int .i64 (r32)) := hB56_2.cell 1
         have g56_2_2 : w56.cell? ⟨w34.heap.size, 2, none⟩ = some (.int .i64 (r9)) := hB56_2.cell 2
         have g56_2_3 : w56.cell? ⟨w34.heap.size, 3, none⟩ = some (.int .i64 (r10)) := hB56_2.cell 3
         have g56_2_l := hB56_2.lt
         have HB56 := Lib.hid (show _ ∧ _ ∧ _ from ⟨hB56_0, hB56_1, hB56_2⟩); clear hB56_0 hB56_1 hB56_2
         clear g53_0_0 g53_0_1 g53_0_f g53_0_l g53_1_0 g53_1_1 g53_1_f g53_1_l g53_2_0 g53_2_1 g53_2_2 g53_2_3 g53_2_f g53_2_l g53_3_l g53_4_0 g53_4_1 g53_4_2 g53_4_3 g53_4_l b0 b1 b2 b3 b4 HB53 hw53
         go_region
         go_wp2_with fail
         have hF : cpsI ax ay bx by_ cx cy dx dy = (r31, r32, r9, r10) := by unfold cpsI; first | rfl | (simp only [← R54.out, ← R44.out, ← R40.out, ← R39.out, ← R33.out, ← R32.out, ← R31.out, ← R28.out, ← R27.out, ← R26.out, ← R23.out, ← R22.out, ← R21.out, ← R18.out, ← R17.out, ← R16.out, ← R13.out, ← R10.out, ← R9.out, ← R8.out, ← R7.out, ← R6.out, ← R5.out, ← R4.out, ← R3.out, hc14, hc41, hc45, hc55, cond_true, cond_false]; done) | (simp only [← R54.out, ← R44.out, ← R40.out, ← R39.out, ← R33.out, ← R32.out, ← R31.out, ← R28.out, ← R27.out, ← R26.out, ← R23.out, ← R22.out, ← R21.out, ← R18.out, ← R17.out, ← R16.out, ← R13.out, ← R10.out, ← R9.out, ← R8.out, ← R7.out, ← R6.out, ← R5.out, ← R4.out, ← R3.out, hc14, hc41, hc45, hc55, cond_true, cond_false]; rfl) | simp [← R54.out, ← R44.out, ← R40.out, ← R39.out, ← R33.out, ← R32.out, ← R31.out, ← R28.out, ← R27.out, ← R26.out, ← R23.out, ← R22.out, ← R21.out, ← R18.out, ← R17.out, ← R16.out, ← R13.out, ← R10.out, ← R9.out, ← R8.out, ← R7.out, ← R6.out, ← R5.out, ← R4.out, ← R3.out, hc14, hc41, hc45, hc55]
         refine bodyPost_ret (v := .tuple #[.agg #[.int .i64 (r31), .int .i64 (r32)], .agg #[.int .i64 (r9), .int .i64 (r10)]]) (by simp [results, Tryz.results84, go_sem, g56_0_0, g56_0_1, g56_0_f, g56_0_l, g56_1_0, g56_1_1, g56_1_f, g56_1_l, g56_2_0, g56_2_1, g56_2_2, g56_2_3, g56_2_l]) rfl ⟨by rw [hF], ?_⟩
         exact by (repeat with_reducible first | exact .refl _ | assumption | refine .setAt ?_ (by first | omega | simp <;> omega) _ | refine .setCells ?_ (by first | omega | simp <;> omega) _ | refine .alloc ?_ _ | refine .drewN ?_ _ | refine .drew ?_ | refine .trans ?_ (by assumption))
   · go_wp2_with fail
     rw [rounds_succ]
     obtain ⟨b0, b1, b2, b3, b4⟩ := HB38.out
     go_upto_region 13 with (fail)
     refine wp_gen (fun xw => Grw w xw ∧ Bk xw (w.heap.size + 1 + 1 + 1 + 1) 23 #[.int .i64 (0), .int .i64 (0)] ∧ Bk xw (w.heap.size + 1 + 1 + 1 + 1 + 1) 23 #[.int .i64 (0), .int .i64 (0)] ∧ Bk xw (w34.heap.size) 217 #[.int .i64 (r5), .int .i64 (r6), .int .i64 (r21), .int .i64 (r22)] ∧ Bk xw (w35.heap.size) 217 #[.int .i64 (r5), .int .i64 (r6), .int .i64 (r21), .int .i64 (r22), .int .i64 (r26), .int .i64 (r27), .int .i64 (r7), .int .i64 (r8), .int .i64 (r31), .int .i64 (r32), .int .i64 (r9), .int .i64 (r10)] ∧ Bk xw (w36.heap.size) 217 #[.int .i64 (r5), .int .i64 (r6), .int .i64 (r21), .int .i64 (r22)]) ⟨((((hw38).setAt (by omega) _).setAt (by omega) _).setAt (by omega) _).setAt (by omega) _, ((((b0).far (by omega) _).far (by omega) _).far (by omega) _).far (by omega) _, ((((b1).far (by omega) _).far (by omega) _).far (by omega) _).far (by omega) _, ((((b2).set' rfl).set' rfl).set' rfl).set' rfl, ((((b3).far (by omega) _).far (by omega) _).far (by omega) _).far (by omega) _, ((((b4).far (by omega) _).far (by omega) _).far (by omega) _).far (by omega) _⟩ ?_
     rintro w57 ⟨hw57, hB57_0, hB57_1, hB57_2, hB57_3, hB57_4⟩
     have g57_0_l := hB57_0.lt
     have g57_1_l := hB57_1.lt
     have g57_2_l := hB57_2.lt
     have g57_3_4 : w57.cell? ⟨w35.heap.size, 4, none⟩ = some (.int .i64 (r26)) := hB57_3.cell 4
     have g57_3_5 : w57.cell? ⟨w35.heap.size, 5, none⟩ = some (.int .i64 (r27)) := hB57_3.cell 5
     have g57_3_6 : w57.cell? ⟨w35.heap.size, 6, none⟩ = some (.int .i64 (r7)) := hB57_3.cell 6
     have g57_3_7 : w57.cell? ⟨w35.heap.size, 7, none⟩ = some (.int .i64 (r8)) := hB57_3.cell 7
     have g57_3_l := hB57_3.lt
     have g57_4_l := hB57_4.lt
     have HB57 := Lib.hid (show _ ∧ _ ∧ _ ∧ _ ∧ _ from ⟨hB57_0, hB57_1, hB57_2, hB57_3, hB57_4⟩); clear hB57_0 hB57_1 hB57_2 hB57_3 hB57_4
     clear g38_0_l g38_1_l g38_2_0 g38_2_1 g38_2_2 g38_2_3 g38_2_f g38_2_l g38_3_4 g38_3_5 g38_3_6 g38_3_7 g38_3_l g38_4_0 g38_4_1 g38_4_2 g38_4_3 g38_4_l b0 b1 b2 b3 b4 HB38 hw38
     obtain ⟨b0, b1, b2, b3, b4⟩ := HB57.out
     go_upto_region 14 with (fail)
     refine wp_gen (fun xw => Grw w xw ∧ Bk xw (w.heap.size + 1 + 1 + 1 + 1) 23 #[.int .i64 (0), .int .i64 (0)] ∧ Bk xw (w.heap.size + 1 + 1 + 1 + 1 + 1) 23 #[.int .i64 (0), .int .i64 (0)] ∧ Bk xw (w34.heap.size) 217 #[.int .i64 (r5), .int .i64 (r6), .int .i64 (r21), .int .i64 (r22)] ∧ Bk xw (w35.heap.size) 217 #[.int .i64 (r5), .int .i64 (r6), .int .i64 (r21), .int .i64 (r22), .int .i64 (r26), .int .i64 (r27), .int .i64 (r7), .int .i64 (r8), .int .i64 (r31), .int .i64 (r32), .int .i64 (r9), .int .i64 (r10)] ∧ Bk xw (w36.heap.size) 217 #[.int .i64 (r5), .int .i64 (r6), .int .i64 (r21), .int .i64 (r22)] ∧ Bk xw (w57.heap.size) 217 #[.int .i64 (r26), .int .i64 (r27), .int .i64 (r7), .int .i64 (r8)]) ⟨(hw57).alloc _, (b0).alloc _, (b1).alloc _, (b2).alloc _, (b3).alloc _, (b4).alloc _, (Bk.new' (by simp))⟩ ?_
     rintro w58 ⟨hw58, hB58_0, hB58_1, hB58_2, hB58_3, hB58_4, hB58_5⟩
     have ho58 : w36.heap.size < w57.heap.size := g57_4_l
     have g58_0_l := hB58_0.lt
     have g58_1_l := hB58_1.lt
     have g58_2_0 : w58.cell? ⟨w34.heap.size, 0, none⟩ = some (.int .i64 (r5)) := hB58_2.cell 0
     have g58_2_1 : w58.cell? ⟨w34.heap.size, 1, none⟩ = some (.int .i64 (r6)) := hB58_2.cell 1
     have g58_2_2 : w58.cell? ⟨w34.heap.size, 2, none⟩ = some (.int .i64 (r21)) := hB58_2.cell 2
     have g58_2_3 : w58.cell? ⟨w34.heap.size, 3, none⟩ = some (.int .i64 (r22)) := hB58_2.cell 3
     have g58_2_l := hB58_2.lt
     have g58_3_l := hB58_3.lt
     have g58_4_l := hB58_4.lt
     have g58_5_0 : w58.cell? ⟨w57.heap.size, 0, none⟩ = some (.int .i64 (r26)) := hB58_5.cell 0
     have g58_5_1 : w58.cell? ⟨w57.heap.size, 1, none⟩ = some (.int .i64 (r27)) := hB58_5.cell 1
     have g58_5_2 : w58.cell? ⟨w57.heap.size, 2, none⟩ = some (.int .i64 (r7)) := hB58_5.cell 2
     have g58_5_3 : w58.cell? ⟨w57.heap.size, 3, none⟩ = some (.int .i64 (r8)) := hB58_5.cell 3
     have g58_5_l := hB58_5.lt
     have HB58 := Lib.hid (show _ ∧ _ ∧ _ ∧ _ ∧ _ ∧ _ from ⟨hB58_0, hB58_1, hB58_2, hB58_3, hB58_4, hB58_5⟩); clear hB58_0 hB58_1 hB58_2 hB58_3 hB58_4 hB58_5
     clear g57_0_l g57_1_l g57_2_l g57_3_4 g57_3_5 g57_3_6 g57_3_7 g57_3_l g57_4_l b0 b1 b2 b3 b4 HB57 hw57
     refine wp_region_flow (by kernel_rfl) (by kernel_rfl) ?_
     iterate 4 (refine wpQ_step (fun K hK => ?_); go_simp; refine hK _ ?_; clear hK K)
     refine wpQ_step (fun K hK => ?_); go_simp; apply Exists.intro; refine ⟨fun _ => ?_, hK _ ?_⟩; (go_at_call 81; exact (dsq_any _ _ _ _ _)); clear hK K
     iterate 4 (refine wpQ_step (fun K hK => ?_); go_simp; refine hK _ ?_; clear hK K)
     refine wpQ_step (fun K hK => ?_); go_simp; apply Exists.intro; refine ⟨fun _ => ?_, hK _ ?_⟩; (go_at_call 81; exact (dsq_any _ _ _ _ _)); clear hK K
     iterate 1 (refine wpQ_step (fun K hK => ?_); go_simp; refine hK _ ?_; clear hK K)
     refine wpQ_nil ?_
     intro w59 hg59
     obtain ⟨r60, hr60⟩ : ∃ r : Int, r = dsqI r26 r27 r7 r8 := ⟨_, rfl⟩
     (try simp only [← hr60])
     have R60 := Lib.hid hr60; clear hr60
     (try simp only [← R39.out])
     obtain ⟨b0, b1, b2, b3, b4, b5⟩ := HB58.out
     have hB59_0 : Bk w59 (w.heap.size + 1 + 1 + 1 + 1) 23 #[.int .i64 (0), .int .i64 (0)] := (b0).grw hg59
     have hB59_1 : Bk w59 (w.heap.size + 1 + 1 + 1 + 1 + 1) 23 #[.int .i64 (0), .int .i64 (0)] := (b1).grw hg59
     have hB59_2 : Bk w59 (w34.heap.size) 217 #[.int .i64 (r5), .int .i64 (r6), .int .i64 (r21), .int .i64 (r22)] := (b2).grw hg59
     have hB59_3 : Bk w59 (w35.heap.size) 217 #[.int .i64 (r5), .int .i64 (r6), .int .i64 (r21), .int .i64 (r22), .int .i64 (r26), .int .i64 (r27), .int .i64 (r7), .int .i64 (r8), .int .i64 (r31), .int .i64 (r32), .int .i64 (r9), .int .i64 (r10)] := (b3).grw hg59
     have hB59_4 : Bk w59 (w57.heap.size) 217 #[.int .i64 (r26), .int .i64 (r27), .int .i64 (r7), .int .i64 (r8)] := (b5).grw hg59
     have hw59 : Grw w w59 := (hw58).trans hg59
     have hs59 : w57.heap.size < w59.heap.size := by have h1 := hg59.size; have h2 := g58_5_l; (try simp at h1); omega
     have g59_0_l := hB59_0.lt
     have g59_1_l := hB59_1.lt
     have g59_2_0 : w59.cell? ⟨w34.heap.size, 0, none⟩ = some (.int .i64 (r5)) := hB59_2.cell 0
     have g59_2_1 : w59.cell? ⟨w34.heap.size, 1, none⟩ = some (.int .i64 (r6)) := hB59_2.cell 1
     have g59_2_2 : w59.cell? ⟨w34.heap.size, 2, none⟩ = some (.int .i64 (r21)) := hB59_2.cell 2
     have g59_2_3 : w59.cell? ⟨w34.heap.size, 3, none⟩ = some (.int .i64 (r22)) := hB59_2.cell 3
     have g59_2_f := hB59_2.frozen
     have g59_2_l := hB59_2.lt
     have g59_3_8 : w59.cell? ⟨w35.heap.size, 8, none⟩ = some (.int .i64 (r31)) := hB59_3.cell 8
     have g59_3_9 : w59.cell? ⟨w35.heap.size, 9, none⟩ = some (.int .i64 (r32)) := hB59_3.cell 9
     have g59_3_10 : w59.cell? ⟨w35.heap.size, 10, none⟩ = some (.int .i64 (r9)) := hB59_3.cell 10
     have g59_3_11 : w59.cell? ⟨w35.heap.size, 11, none⟩ = some (.int .i64 (r10)) := hB59_3.cell 11
     have g59_3_l := hB59_3.lt
     have g59_4_0 : w59.cell? ⟨w57.heap.size, 0, none⟩ = some (.int .i64 (r26)) := hB59_4.cell 0
     have g59_4_1 : w59.cell? ⟨w57.heap.size, 1, none⟩ = some (.int .i64 (r27)) := hB59_4.cell 1
     have g59_4_2 : w59.cell? ⟨w57.heap.size, 2, none⟩ = some (.int .i64 (r7)) := hB59_4.cell 2
     have g59_4_3 : w59.cell? ⟨w57.heap.size, 3, none⟩ = some (.int .i64 (r8)) := hB59_4.cell 3
     have g59_4_l := hB59_4.lt
     have HB59 := Lib.hid (show _ ∧ _ ∧ _ ∧ _ ∧ _ from ⟨hB59_0, hB59_1, hB59_2, hB59_3, hB59_4⟩); clear hB59_0 hB59_1 hB59_2 hB59_3 hB59_4
     clear g58_0_l g58_1_l g58_2_0 g58_2_1 g58_2_2 g58_2_3 g58_2_l g58_3_l g58_4_l g58_5_0 g58_5_1 g58_5_2 g58_5_3 g58_5_l b0 b1 b2 b3 b4 b5 HB58 hw58 hg59
     cases hc61 : (decide (r60 < r39))
     · go_wp2_with fail
       rw [rounds_succ]
       obtain ⟨b0, b1, b2, b3, b4⟩ := HB59.out
       go_upto_region 14 with (fail)
       refine wp_gen (fun xw => Grw w xw ∧ Bk xw (w.heap.size + 1 + 1 + 1 + 1) 23 #[.int .i64 (0), .int .i64 (0)] ∧ Bk xw (w.heap.size + 1 + 1 + 1 + 1 + 1) 23 #[.int .i64 (0), .int .i64 (0)] ∧ Bk xw (w34.heap.size) 217 #[.int .i64 (r5), .int .i64 (r6), .int .i64 (r21), .int .i64 (r22)] ∧ Bk xw (w35.heap.size) 217 #[.int .i64 (r5), .int .i64 (r6), .int .i64 (r21), .int .i64 (r22), .int .i64 (r26), .int .i64 (r27), .int .i64 (r7), .int .i64 (r8), .int .i64 (r31), .int .i64 (r32), .int .i64 (r9), .int .i64 (r10)] ∧ Bk xw (w57.heap.size) 217 #[.int .i64 (r26), .int .i64 (r27), .int .i64 (r7), .int .i64 (r8)] ∧ Bk xw (w59.heap.size) 217 #[.int .i64 (r31), .int .i64 (r32), .int .i64 (r9), .int .i64 (r10)]) ⟨(hw59).alloc _, (b0).alloc _, (b1).alloc _, (b2).alloc _, (b3).alloc _, (b4).alloc _, (Bk.new' (by simp))⟩ ?_
       rintro w62 ⟨hw62, hB62_0, hB62_1, hB62_2, hB62_3, hB62_4, hB62_5⟩
       have ho62 : w57.heap.size < w59.heap.size := g59_4_l
       have g62_0_l := hB62_0.lt
       have g62_1_l := hB62_1.lt
       have g62_2_0 : w62.cell? ⟨w34.heap.size, 0, none⟩ = some (.int .i64 (r5)) := hB62_2.cell 0
       have g62_2_1 : w62.cell? ⟨w34.heap.size, 1, none⟩ = some (.int .i64 (r6)) := hB62_2.cell 1
       have g62_2_2 : w62.cell? ⟨w34.heap.size, 2, none⟩ = some (.int .i64 (r21)) := hB62_2.cell 2
       have g62_2_3 : w62.cell? ⟨w34.heap.size, 3, none⟩ = some (.int .i64 (r22)) := hB62_2.cell 3
       have g62_2_l := hB62_2.lt
       have g62_3_l := hB62_3.lt
       have g62_4_l := hB62_4.lt
       have g62_5_0 : w62.cell? ⟨w59.heap.size, 0, none⟩ = some (.int .i64 (r31)) := hB62_5.cell 0
       have g62_5_1 : w62.cell? ⟨w59.heap.size, 1, none⟩ = some (.int .i64 (r32)) := hB62_5.cell 1
       have g62_5_2 : w62.cell? ⟨w59.heap.size, 2, none⟩ = some (.int .i64 (r9)) := hB62_5.cell 2
       have g62_5_3 : w62.cell? ⟨w59.heap.size, 3, none⟩ = some (.int .i64 (r10)) := hB62_5.cell 3
       have g62_5_l := hB62_5.lt
       have HB62 := Lib.hid (show _ ∧ _ ∧ _ ∧ _ ∧ _ ∧ _ from ⟨hB62_0, hB62_1, hB62_2, hB62_3, hB62_4, hB62_5⟩); clear hB62_0 hB62_1 hB62_2 hB62_3 hB62_4 hB62_5
       clear g59_0_l g59_1_l g59_2_0 g59_2_1 g59_2_2 g59_2_3 g59_2_f g59_2_l g59_3_8 g59_3_9 g59_3_10 g59_3_11 g59_3_l g59_4_0 g59_4_1 g59_4_2 g59_4_3 g59_4_l b0 b1 b2 b3 b4 HB59 hw59
       refine wp_region_flow (by kernel_rfl) (by kernel_rfl) ?_
       iterate 4 (refine wpQ_step (fun K hK => ?_); go_simp; refine hK _ ?_; clear hK K)
       refine wpQ_step (fun K hK => ?_); go_simp; apply Exists.intro; refine ⟨fun _ => ?_, hK _ ?_⟩; (go_at_call 81; exact (dsq_any _ _ _ _ _)); clear hK K
       iterate 4 (refine wpQ_step (fun K hK => ?_); go_simp; refine hK _ ?_; clear hK K)
       refine wpQ_step (fun K hK => ?_); go_simp; apply Exists.intro; refine ⟨fun _ => ?_, hK _ ?_⟩; (go_at_call 81; exact (dsq_any _ _ _ _ _)); clear hK K
       iterate 1 (refine wpQ_step (fun K hK => ?_); go_simp; refine hK _ ?_; clear hK K)
       refine wpQ_nil ?_
       intro w63 hg63
       obtain ⟨r64, hr64⟩ : ∃ r : Int, r = dsqI r31 r32 r9 r10 := ⟨_, rfl⟩
       (try simp only [← hr64])
       have R64 := Lib.hid hr64; clear hr64
       (try simp only [← R39.out])
       obtain ⟨b0, b1, b2, b3, b4, b5⟩ := HB62.out
       have hB63_0 : Bk w63 (w.heap.size + 1 + 1 + 1 + 1) 23 #[.int .i64 (0), .int .i64 (0)] := (b0).grw hg63
       have hB63_1 : Bk w63 (w.heap.size + 1 + 1 + 1 + 1 + 1) 23 #[.int .i64 (0), .int .i64 (0)] := (b1).grw hg63
       have hB63_2 : Bk w63 (w34.heap.size) 217 #[.int .i64 (r5), .int .i64 (r6), .int .i64 (r21), .int .i64 (r22)] := (b2).grw hg63
       have hB63_3 : Bk w63 (w35.heap.size) 217 #[.int .i64 (r5), .int .i64 (r6), .int .i64 (r21), .int .i64 (r22), .int .i64 (r26), .int .i64 (r27), .int .i64 (r7), .int .i64 (r8), .int .i64 (r31), .int .i64 (r32), .int .i64 (r9), .int .i64 (r10)] := (b3).grw hg63
       have hB63_4 : Bk w63 (w59.heap.size) 217 #[.int .i64 (r31), .int .i64 (r32), .int .i64 (r9), .int .i64 (r10)] := (b5).grw hg63
       have hw63 : Grw w w63 := (hw62).trans hg63
       have hs63 : w59.heap.size < w63.heap.size := by have h1 := hg63.size; have h2 := g62_5_l; (try simp at h1); omega
       have g63_0_0 : w63.cell? ⟨w.heap.size + 1 + 1 + 1 + 1, 0, none⟩ = some (.int .i64 (0)) := hB63_0.cell 0
       have g63_0_1 : w63.cell? ⟨w.heap.size + 1 + 1 + 1 + 1, 1, none⟩ = some (.int .i64 (0)) := hB63_0.cell 1
       have g63_0_f := hB63_0.frozen
       have g63_0_l := hB63_0.lt
       have g63_1_0 : w63.cell? ⟨w.heap.size + 1 + 1 + 1 + 1 + 1, 0, none⟩ = some (.int .i64 (0)) := hB63_1.cell 0
       have g63_1_1 : w63.cell? ⟨w.heap.size + 1 + 1 + 1 + 1 + 1, 1, none⟩ = some (.int .i64 (0)) := hB63_1.cell 1
       have g63_1_f := hB63_1.frozen
       have g63_1_l := hB63_1.lt
       have g63_2_0 : w63.cell? ⟨w34.heap.size, 0, none⟩ = some (.int .i64 (r5)) := hB63_2.cell 0
       have g63_2_1 : w63.cell? ⟨w34.heap.size, 1, none⟩ = some (.int .i64 (r6)) := hB63_2.cell 1
       have g63_2_2 : w63.cell? ⟨w34.heap.size, 2, none⟩ = some (.int .i64 (r21)) := hB63_2.cell 2
       have g63_2_3 : w63.cell? ⟨w34.heap.size, 3, none⟩ = some (.int .i64 (r22)) := hB63_2.cell 3
       have g63_2_f := hB63_2.frozen
       have g63_2_l := hB63_2.lt
       have g63_3_l := hB63_3.lt
       have g63_4_0 : w63.cell? ⟨w59.heap.size, 0, none⟩ = some (.int .i64 (r31)) := hB63_4.cell 0
       have g63_4_1 : w63.cell? ⟨w59.heap.size, 1, none⟩ = some (.int .i64 (r32)) := hB63_4.cell 1
       have g63_4_2 : w63.cell? ⟨w59.heap.size, 2, none⟩ = some (.int .i64 (r9)) := hB63_4.cell 2
       have g63_4_3 : w63.cell? ⟨w59.heap.size, 3, none⟩ = some (.int .i64 (r10)) := hB63_4.cell 3
       have g63_4_l := hB63_4.lt
       have HB63 := Lib.hid (show _ ∧ _ ∧ _ ∧ _ ∧ _ from ⟨hB63_0, hB63_1, hB63_2, hB63_3, hB63_4⟩); clear hB63_0 hB63_1 hB63_2 hB63_3 hB63_4
       clear g62_0_l g62_1_l g62_2_0 g62_2_1 g62_2_2 g62_2_3 g62_2_l g62_3_l g62_4_l g62_5_0 g62_5_1 g62_5_2 g62_5_3 g62_5_l b0 b1 b2 b3 b4 b5 HB62 hw62 hg63
       cases hc65 : (decide (r64 < r39))
       · go_wp2_with fail
         rw [rounds_succ]
         go_upto_region 17 with (fail)
         go_region
         go_wp2_with fail
         have hF : cpsI ax ay bx by_ cx cy dx dy = (r5, r6, r21, r22) := by unfold cpsI; first | rfl | (simp only [← R64.out, ← R60.out, ← R40.out, ← R39.out, ← R33.out, ← R32.out, ← R31.out, ← R28.out, ← R27.out, ← R26.out, ← R23.out, ← R22.out, ← R21.out, ← R18.out, ← R17.out, ← R16.out, ← R13.out, ← R10.out, ← R9.out, ← R8.out, ← R7.out, ← R6.out, ← R5.out, ← R4.out, ← R3.out, hc14, hc41, hc61, hc65, cond_true, cond_false]; done) | (simp only [← R64.out, ← R60.out, ← R40.out, ← R39.out, ← R33.out, ← R32.out, ← R31.out, ← R28.out, ← R27.out, ← R26.out, ← R23.out, ← R22.out, ← R21.out, ← R18.out, ← R17.out, ← R16.out, ← R13.out, ← R10.out, ← R9.out, ← R8.out, ← R7.out, ← R6.out, ← R5.out, ← R4.out, ← R3.out, hc14, hc41, hc61, hc65, cond_true, cond_false]; rfl) | simp [← R64.out, ← R60.out, ← R40.out, ← R39.out, ← R33.out, ← R32.out, ← R31.out, ← R28.out, ← R27.out, ← R26.out, ← R23.out, ← R22.out, ← R21.out, ← R18.out, ← R17.out, ← R16.out, ← R13.out, ← R10.out, ← R9.out, ← R8.out, ← R7.out, ← R6.out, ← R5.out, ← R4.out, ← R3.out, hc14, hc41, hc61, hc65]
         refine bodyPost_ret (v := .tuple #[.agg #[.int .i64 (r5), .int .i64 (r6)], .agg #[.int .i64 (r21), .int .i64 (r22)]]) (by simp [results, Tryz.results84, go_sem, g63_0_0, g63_0_1, g63_0_f, g63_0_l, g63_1_0, g63_1_1, g63_1_f, g63_1_l, g63_2_0, g63_2_1, g63_2_2, g63_2_3, g63_2_f, g63_2_l, g63_3_l, g63_4_0, g63_4_1, g63_4_2, g63_4_3, g63_4_l]) rfl ⟨by rw [hF], ?_⟩
         exact by (repeat with_reducible first | exact .refl _ | assumption | refine .setAt ?_ (by first | omega | simp <;> omega) _ | refine .setCells ?_ (by first | omega | simp <;> omega) _ | refine .alloc ?_ _ | refine .drewN ?_ _ | refine .drew ?_ | refine .trans ?_ (by assumption))
       · go_wp2_with fail
         rw [rounds_succ]
         obtain ⟨b0, b1, b2, b3, b4⟩ := HB63.out
         go_upto_region 17 with (fail)
         refine wp_gen (fun xw => Grw w xw ∧ Bk xw (w.heap.size + 1 + 1 + 1 + 1) 23 #[.int .i64 (0), .int .i64 (0)] ∧ Bk xw (w.heap.size + 1 + 1 + 1 + 1 + 1) 23 #[.int .i64 (0), .int .i64 (0)] ∧ Bk xw (w34.heap.size) 217 #[.int .i64 (r31), .int .i64 (r32), .int .i64 (r9), .int .i64 (r10)]) ⟨((((hw63).setAt (by omega) _).setAt (by omega) _).setAt (by omega) _).setAt (by omega) _, ((((b0).far (by omega) _).far (by omega) _).far (by omega) _).far (by omega) _, ((((b1).far (by omega) _).far (by omega) _).far (by omega) _).far (by omega) _, ((((b2).set' rfl).set' rfl).set' rfl).set' rfl⟩ ?_
         rintro w66 ⟨hw66, hB66_0, hB66_1, hB66_2⟩
         have g66_0_0 : w66.cell? ⟨w.heap.size + 1 + 1 + 1 + 1, 0, none⟩ = some (.int .i64 (0)) := hB66_0.cell 0
         have g66_0_1 : w66.cell? ⟨w.heap.size + 1 + 1 + 1 + 1, 1, none⟩ = some (.int .i64 (0)) := hB66_0.cell 1
         have g66_0_f := hB66_0.frozen
         have g66_0_l := hB66_0.lt
         have g66_1_0 : w66.cell? ⟨w.heap.size + 1 + 1 + 1 + 1 + 1, 0, none⟩ = some (.int .i64 (0)) := hB66_1.cell 0
         have g66_1_1 : w66.cell? ⟨w.heap.size + 1 + 1 + 1 + 1 + 1, 1, none⟩ = some (.int .i64 (0)) := hB66_1.cell 1
         have g66_1_f := hB66_1.frozen
         have g66_1_l := hB66_1.lt
         have g66_2_0 : w66.cell? ⟨w34.heap.size, 0, none⟩ = some (.int .i64 (r31)) := hB66_2.cell 0
         have g66_2_1 : w66.cell? ⟨w34.heap.size, 1, none⟩ = some (.int .i64 (r32)) := hB66_2.cell 1
         have g66_2_2 : w66.cell? ⟨w34.heap.size, 2, none⟩ = some (.int .i64 (r9)) := hB66_2.cell 2
         have g66_2_3 : w66.cell? ⟨w34.heap.size, 3, none⟩ = some (.int .i64 (r10)) := hB66_2.cell 3
         have g66_2_l := hB66_2.lt
         have HB66 := Lib.hid (show _ ∧ _ ∧ _ from ⟨hB66_0, hB66_1, hB66_2⟩); clear hB66_0 hB66_1 hB66_2
         clear g63_0_0 g63_0_1 g63_0_f g63_0_l g63_1_0 g63_1_1 g63_1_f g63_1_l g63_2_0 g63_2_1 g63_2_2 g63_2_3 g63_2_f g63_2_l g63_3_l g63_4_0 g63_4_1 g63_4_2 g63_4_3 g63_4_l b0 b1 b2 b3 b4 HB63 hw63
         go_region
         go_wp2_with fail
         have hF : cpsI ax ay bx by_ cx cy dx dy = (r31, r32, r9, r10) := by unfold cpsI; first | rfl | (simp only [← R64.out, ← R60.out, ← R40.out, ← R39.out, ← R33.out, ← R32.out, ← R31.out, ← R28.out, ← R27.out, ← R26.out, ← R23.out, ← R22.out, ← R21.out, ← R18.out, ← R17.out, ← R16.out, ← R13.out, ← R10.out, ← R9.out, ← R8.out, ← R7.out, ← R6.out, ← R5.out, ← R4.out, ← R3.out, hc14, hc41, hc61, hc65, cond_true, cond_false]; done) | (simp only [← R64.out, ← R60.out, ← R40.out, ← R39.out, ← R33.out, ← R32.out, ← R31.out, ← R28.out, ← R27.out, ← R26.out, ← R23.out, ← R22.out, ← R21.out, ← R18.out, ← R17.out, ← R16.out, ← R13.out, ← R10.out, ← R9.out, ← R8.out, ← R7.out, ← R6.out, ← R5.out, ← R4.out, ← R3.out, hc14, hc41, hc61, hc65, cond_true, cond_false]; rfl) | simp [← R64.out, ← R60.out, ← R40.out, ← R39.out, ← R33.out, ← R32.out, ← R31.out, ← R28.out, ← R27.out, ← R26.out, ← R23.out, ← R22.out, ← R21.out, ← R18.out, ← R17.out, ← R16.out, ← R13.out, ← R10.out, ← R9.out, ← R8.out, ← R7.out, ← R6.out, ← R5.out, ← R4.out, ← R3.out, hc14, hc41, hc61, hc65]
         refine bodyPost_ret (v := .tuple #[.agg #[.int .i64 (r31), .int .i64 (r32)], .agg #[.int .i64 (r9), .int .i64 (r10)]]) (by simp [results, Tryz.results84, go_sem, g66_0_0, g66_0_1, g66_0_f, g66_0_l, g66_1_0, g66_1_1, g66_1_f, g66_1_l, g66_2_0, g66_2_1, g66_2_2, g66_2_3, g66_2_l]) rfl ⟨by rw [hF], ?_⟩
         exact by (repeat with_reducible first | exact .refl _ | assumption | refine .setAt ?_ (by first | omega | simp <;> omega) _ | refine .setCells ?_ (by first | omega | simp <;> omega) _ | refine .alloc ?_ _ | refine .drewN ?_ _ | refine .drew ?_ | refine .trans ?_ (by assumption))
     · go_wp2_with fail
       rw [rounds_succ]
       obtain ⟨b0, b1, b2, b3, b4⟩ := HB59.out
       go_upto_region 13 with (fail)
       refine wp_gen (fun xw => Grw w xw ∧ Bk xw (w.heap.size + 1 + 1 + 1 + 1) 23 #[.int .i64 (0), .int .i64 (0)] ∧ Bk xw (w.heap.size + 1 + 1 + 1 + 1 + 1) 23 #[.int .i64 (0), .int .i64 (0)] ∧ Bk xw (w34.heap.size) 217 #[.int .i64 (r26), .int .i64 (r27), .int .i64 (r7), .int .i64 (r8)] ∧ Bk xw (w35.heap.size) 217 #[.int .i64 (r5), .int .i64 (r6), .int .i64 (r21), .int .i64 (r22), .int .i64 (r26), .int .i64 (r27), .int .i64 (r7), .int .i64 (r8), .int .i64 (r31), .int .i64 (r32), .int .i64 (r9), .int .i64 (r10)] ∧ Bk xw (w57.heap.size) 217 #[.int .i64 (r26), .int .i64 (r27), .int .i64 (r7), .int .i64 (r8)]) ⟨((((hw59).setAt (by omega) _).setAt (by omega) _).setAt (by omega) _).setAt (by omega) _, ((((b0).far (by omega) _).far (by omega) _).far (by omega) _).far (by omega) _, ((((b1).far (by omega) _).far (by omega) _).far (by omega) _).far (by omega) _, ((((b2).set' rfl).set' rfl).set' rfl).set' rfl, ((((b3).far (by omega) _).far (by omega) _).far (by omega) _).far (by omega) _, ((((b4).far (by omega) _).far (by omega) _).far (by omega) _).far (by omega) _⟩ ?_
       rintro w67 ⟨hw67, hB67_0, hB67_1, hB67_2, hB67_3, hB67_4⟩
       have g67_0_l := hB67_0.lt
       have g67_1_l := hB67_1.lt
       have g67_2_l := hB67_2.lt
       have g67_3_8 : w67.cell? ⟨w35.heap.size, 8, none⟩ = some (.int .i64 (r31)) := hB67_3.cell 8
       have g67_3_9 : w67.cell? ⟨w35.heap.size, 9, none⟩ = some (.int .i64 (r32)) := hB67_3.cell 9
       have g67_3_10 : w67.cell? ⟨w35.heap.size, 10, none⟩ = some (.int .i64 (r9)) := hB67_3.cell 10
       have g67_3_11 : w67.cell? ⟨w35.heap.size, 11, none⟩ = some (.int .i64 (r10)) := hB67_3.cell 11
       have g67_3_l := hB67_3.lt
       have g67_4_l := hB67_4.lt
       have HB67 := Lib.hid (show _ ∧ _ ∧ _ ∧ _ ∧ _ from ⟨hB67_0, hB67_1, hB67_2, hB67_3, hB67_4⟩); clear hB67_0 hB67_1 hB67_2 hB67_3 hB67_4
       clear g59_0_l g59_1_l g59_2_0 g59_2_1 g59_2_2 g59_2_3 g59_2_f g59_2_l g59_3_8 g59_3_9 g59_3_10 g59_3_11 g59_3_l g59_4_0 g59_4_1 g59_4_2 g59_4_3 g59_4_l b0 b1 b2 b3 b4 HB59 hw59
       obtain ⟨b0, b1, b2, b3, b4⟩ := HB67.out
       go_upto_region 14 with (fail)
       refine wp_gen (fun xw => Grw w xw ∧ Bk xw (w.heap.size + 1 + 1 + 1 + 1) 23 #[.int .i64 (0), .int .i64 (0)] ∧ Bk xw (w.heap.size + 1 + 1 + 1 + 1 + 1) 23 #[.int .i64 (0), .int .i64 (0)] ∧ Bk xw (w34.heap.size) 217 #[.int .i64 (r26), .int .i64 (r27), .int .i64 (r7), .int .i64 (r8)] ∧ Bk xw (w35.heap.size) 217 #[.int .i64 (r5), .int .i64 (r6), .int .i64 (r21), .int .i64 (r22), .int .i64 (r26), .int .i64 (r27), .int .i64 (r7), .int .i64 (r8), .int .i64 (r31), .int .i64 (r32), .int .i64 (r9), .int .i64 (r10)] ∧ Bk xw (w57.heap.size) 217 #[.int .i64 (r26), .int .i64 (r27), .int .i64 (r7), .int .i64 (r8)] ∧ Bk xw (w67.heap.size) 217 #[.int .i64 (r31), .int .i64 (r32), .int .i64 (r9), .int .i64 (r10)]) ⟨(hw67).alloc _, (b0).alloc _, (b1).alloc _, (b2).alloc _, (b3).alloc _, (b4).alloc _, (Bk.new' (by simp))⟩ ?_
       rintro w68 ⟨hw68, hB68_0, hB68_1, hB68_2, hB68_3, hB68_4, hB68_5⟩
       have ho68 : w57.heap.size < w67.heap.size := g67_4_l
       have g68_0_l := hB68_0.lt
       have g68_1_l := hB68_1.lt
       have g68_2_0 : w68.cell? ⟨w34.heap.size, 0, none⟩ = some (.int .i64 (r26)) := hB68_2.cell 0
       have g68_2_1 : w68.cell? ⟨w34.heap.size, 1, none⟩ = some (.int .i64 (r27)) := hB68_2.cell 1
       have g68_2_2 : w68.cell? ⟨w34.heap.size, 2, none⟩ = some (.int .i64 (r7)) := hB68_2.cell 2
       have g68_2_3 : w68.cell? ⟨w34.heap.size, 3, none⟩ = some (.int .i64 (r8)) := hB68_2.cell 3
       have g68_2_l := hB68_2.lt
       have g68_3_l := hB68_3.lt
       have g68_4_l := hB68_4.lt
       have g68_5_0 : w68.cell? ⟨w67.heap.size, 0, none⟩ = some (.int .i64 (r31)) := hB68_5.cell 0
       have g68_5_1 : w68.cell? ⟨w67.heap.size, 1, none⟩ = some (.int .i64 (r32)) := hB68_5.cell 1
       have g68_5_2 : w68.cell? ⟨w67.heap.size, 2, none⟩ = some (.int .i64 (r9)) := hB68_5.cell 2
       have g68_5_3 : w68.cell? ⟨w67.heap.size, 3, none⟩ = some (.int .i64 (r10)) := hB68_5.cell 3
       have g68_5_l := hB68_5.lt
       have HB68 := Lib.hid (show _ ∧ _ ∧ _ ∧ _ ∧ _ ∧ _ from ⟨hB68_0, hB68_1, hB68_2, hB68_3, hB68_4, hB68_5⟩); clear hB68_0 hB68_1 hB68_2 hB68_3 hB68_4 hB68_5
       clear g67_0_l g67_1_l g67_2_l g67_3_8 g67_3_9 g67_3_10 g67_3_11 g67_3_l g67_4_l b0 b1 b2 b3 b4 HB67 hw67
       refine wp_region_flow (by kernel_rfl) (by kernel_rfl) ?_
       iterate 4 (refine wpQ_step (fun K hK => ?_); go_simp; refine hK _ ?_; clear hK K)
       refine wpQ_step (fun K hK => ?_); go_simp; apply Exists.intro; refine ⟨fun _ => ?_, hK _ ?_⟩; (go_at_call 81; exact (dsq_any _ _ _ _ _)); clear hK K
       iterate 4 (refine wpQ_step (fun K hK => ?_); go_simp; refine hK _ ?_; clear hK K)
       refine wpQ_step (fun K hK => ?_); go_simp; apply Exists.intro; refine ⟨fun _ => ?_, hK _ ?_⟩; (go_at_call 81; exact (dsq_any _ _ _ _ _)); clear hK K
       iterate 1 (refine wpQ_step (fun K hK => ?_); go_simp; refine hK _ ?_; clear hK K)
       refine wpQ_nil ?_
       intro w69 hg69
       obtain ⟨r70, hr70⟩ : ∃ r : Int, r = dsqI r31 r32 r9 r10 := ⟨_, rfl⟩
       (try simp only [← hr70])
       have R70 := Lib.hid hr70; clear hr70
       (try simp only [← R60.out])
       obtain ⟨b0, b1, b2, b3, b4, b5⟩ := HB68.out
       have hB69_0 : Bk w69 (w.heap.size + 1 + 1 + 1 + 1) 23 #[.int .i64 (0), .int .i64 (0)] := (b0).grw hg69
       have hB69_1 : Bk w69 (w.heap.size + 1 + 1 + 1 + 1 + 1) 23 #[.int .i64 (0), .int .i64 (0)] := (b1).grw hg69
       have hB69_2 : Bk w69 (w34.heap.size) 217 #[.int .i64 (r26), .int .i64 (r27), .int .i64 (r7), .int .i64 (r8)] := (b2).grw hg69
       have hB69_3 : Bk w69 (w35.heap.size) 217 #[.int .i64 (r5), .int .i64 (r6), .int .i64 (r21), .int .i64 (r22), .int .i64 (r26), .int .i64 (r27), .int .i64 (r7), .int .i64 (r8), .int .i64 (r31), .int .i64 (r32), .int .i64 (r9), .int .i64 (r10)] := (b3).grw hg69
       have hB69_4 : Bk w69 (w67.heap.size) 217 #[.int .i64 (r31), .int .i64 (r32), .int .i64 (r9), .int .i64 (r10)] := (b5).grw hg69
       have hw69 : Grw w w69 := (hw68).trans hg69
       have hs69 : w67.heap.size < w69.heap.size := by have h1 := hg69.size; have h2 := g68_5_l; (try simp at h1); omega
       have g69_0_0 : w69.cell? ⟨w.heap.size + 1 + 1 + 1 + 1, 0, none⟩ = some (.int .i64 (0)) := hB69_0.cell 0
       have g69_0_1 : w69.cell? ⟨w.heap.size + 1 + 1 + 1 + 1, 1, none⟩ = some (.int .i64 (0)) := hB69_0.cell 1
       have g69_0_f := hB69_0.frozen
       have g69_0_l := hB69_0.lt
       have g69_1_0 : w69.cell? ⟨w.heap.size + 1 + 1 + 1 + 1 + 1, 0, none⟩ = some (.int .i64 (0)) := hB69_1.cell 0
       have g69_1_1 : w69.cell? ⟨w.heap.size + 1 + 1 + 1 + 1 + 1, 1, none⟩ = some (.int .i64 (0)) := hB69_1.cell 1
       have g69_1_f := hB69_1.frozen
       have g69_1_l := hB69_1.lt
       have g69_2_0 : w69.cell? ⟨w34.heap.size, 0, none⟩ = some (.int .i64 (r26)) := hB69_2.cell 0
       have g69_2_1 : w69.cell? ⟨w34.heap.size, 1, none⟩ = some (.int .i64 (r27)) := hB69_2.cell 1
       have g69_2_2 : w69.cell? ⟨w34.heap.size, 2, none⟩ = some (.int .i64 (r7)) := hB69_2.cell 2
       have g69_2_3 : w69.cell? ⟨w34.heap.size, 3, none⟩ = some (.int .i64 (r8)) := hB69_2.cell 3
       have g69_2_f := hB69_2.frozen
       have g69_2_l := hB69_2.lt
       have g69_3_l := hB69_3.lt
       have g69_4_0 : w69.cell? ⟨w67.heap.size, 0, none⟩ = some (.int .i64 (r31)) := hB69_4.cell 0
       have g69_4_1 : w69.cell? ⟨w67.heap.size, 1, none⟩ = some (.int .i64 (r32)) := hB69_4.cell 1
       have g69_4_2 : w69.cell? ⟨w67.heap.size, 2, none⟩ = some (.int .i64 (r9)) := hB69_4.cell 2
       have g69_4_3 : w69.cell? ⟨w67.heap.size, 3, none⟩ = some (.int .i64 (r10)) := hB69_4.cell 3
       have g69_4_l := hB69_4.lt
       have HB69 := Lib.hid (show _ ∧ _ ∧ _ ∧ _ ∧ _ from ⟨hB69_0, hB69_1, hB69_2, hB69_3, hB69_4⟩); clear hB69_0 hB69_1 hB69_2 hB69_3 hB69_4
       clear g68_0_l g68_1_l g68_2_0 g68_2_1 g68_2_2 g68_2_3 g68_2_l g68_3_l g68_4_l g68_5_0 g68_5_1 g68_5_2 g68_5_3 g68_5_l b0 b1 b2 b3 b4 b5 HB68 hw68 hg69
       cases hc71 : (decide (r70 < r60))
       · go_wp2_with fail
         rw [rounds_succ]
         go_upto_region 17 with (fail)
         go_region
         go_wp2_with fail
         have hF : cpsI ax ay bx by_ cx cy dx dy = (r26, r27, r7, r8) := by unfold cpsI; first | rfl | (simp only [← R70.out, ← R60.out, ← R40.out, ← R39.out, ← R33.out, ← R32.out, ← R31.out, ← R28.out, ← R27.out, ← R26.out, ← R23.out, ← R22.out, ← R21.out, ← R18.out, ← R17.out, ← R16.out, ← R13.out, ← R10.out, ← R9.out, ← R8.out, ← R7.out, ← R6.out, ← R5.out, ← R4.out, ← R3.out, hc14, hc41, hc61, hc71, cond_true, cond_false]; done) | (simp only [← R70.out, ← R60.out, ← R40.out, ← R39.out, ← R33.out, ← R32.out, ← R31.out, ← R28.out, ← R27.out, ← R26.out, ← R23.out, ← R22.out, ← R21.out, ← R18.out, ← R17.out, ← R16.out, ← R13.out, ← R10.out, ← R9.out, ← R8.out, ← R7.out, ← R6.out, ← R5.out, ← R4.out, ← R3.out, hc14, hc41, hc61, hc71, cond_true, cond_false]; rfl) | simp [← R70.out, ← R60.out, ← R40.out, ← R39.out, ← R33.out, ← R32.out, ← R31.out, ← R28.out, ← R27.out, ← R26.out, ← R23.out, ← R22.out, ← R21.out, ← R18.out, ← R17.out, ← R16.out, ← R13.out, ← R10.out, ← R9.out, ← R8.out, ← R7.out, ← R6.out, ← R5.out, ← R4.out, ← R3.out, hc14, hc41, hc61, hc71]
         refine bodyPost_ret (v := .tuple #[.agg #[.int .i64 (r26), .int .i64 (r27)], .agg #[.int .i64 (r7), .int .i64 (r8)]]) (by simp [results, Tryz.results84, go_sem, g69_0_0, g69_0_1, g69_0_f, g69_0_l, g69_1_0, g69_1_1, g69_1_f, g69_1_l, g69_2_0, g69_2_1, g69_2_2, g69_2_3, g69_2_f, g69_2_l, g69_3_l, g69_4_0, g69_4_1, g69_4_2, g69_4_3, g69_4_l]) rfl ⟨by rw [hF], ?_⟩
         exact by (repeat with_reducible first | exact .refl _ | assumption | refine .setAt ?_ (by first | omega | simp <;> omega) _ | refine .setCells ?_ (by first | omega | simp <;> omega) _ | refine .alloc ?_ _ | refine .drewN ?_ _ | refine .drew ?_ | refine .trans ?_ (by assumption))
       · go_wp2_with fail
         rw [rounds_succ]
         obtain ⟨b0, b1, b2, b3, b4⟩ := HB69.out
         go_upto_region 17 with (fail)
         refine wp_gen (fun xw => Grw w xw ∧ Bk xw (w.heap.size + 1 + 1 + 1 + 1) 23 #[.int .i64 (0), .int .i64 (0)] ∧ Bk xw (w.heap.size + 1 + 1 + 1 + 1 + 1) 23 #[.int .i64 (0), .int .i64 (0)] ∧ Bk xw (w34.heap.size) 217 #[.int .i64 (r31), .int .i64 (r32), .int .i64 (r9), .int .i64 (r10)]) ⟨((((hw69).setAt (by omega) _).setAt (by omega) _).setAt (by omega) _).setAt (by omega) _, ((((b0).far (by omega) _).far (by omega) _).far (by omega) _).far (by omega) _, ((((b1).far (by omega) _).far (by omega) _).far (by omega) _).far (by omega) _, ((((b2).set' rfl).set' rfl).set' rfl).set' rfl⟩ ?_
         rintro w72 ⟨hw72, hB72_0, hB72_1, hB72_2⟩
         have g72_0_0 : w72.cell? ⟨w.heap.size + 1 + 1 + 1 + 1, 0, none⟩ = some (.int .i64 (0)) := hB72_0.cell 0
         have g72_0_1 : w72.cell? ⟨w.heap.size + 1 + 1 + 1 + 1, 1, none⟩ = some (.int .i64 (0)) := hB72_0.cell 1
         have g72_0_f := hB72_0.frozen
         have g72_0_l := hB72_0.lt
         have g72_1_0 : w72.cell? ⟨w.heap.size + 1 + 1 + 1 + 1 + 1, 0, none⟩ = some (.int .i64 (0)) := hB72_1.cell 0
         have g72_1_1 : w72.cell? ⟨w.heap.size + 1 + 1 + 1 + 1 + 1, 1, none⟩ = some (.int .i64 (0)) := hB72_1.cell 1
         have g72_1_f := hB72_1.frozen
         have g72_1_l := hB72_1.lt
         have g72_2_0 : w72.cell? ⟨w34.heap.size, 0, none⟩ = some (.int .i64 (r31)) := hB72_2.cell 0
         have g72_2_1 : w72.cell? ⟨w34.heap.size, 1, none⟩ = some (.int .i64 (r32)) := hB72_2.cell 1
         have g72_2_2 : w72.cell? ⟨w34.heap.size, 2, none⟩ = some (.int .i64 (r9)) := hB72_2.cell 2
         have g72_2_3 : w72.cell? ⟨w34.heap.size, 3, none⟩ = some (.int .i64 (r10)) := hB72_2.cell 3
         have g72_2_l := hB72_2.lt
         have HB72 := Lib.hid (show _ ∧ _ ∧ _ from ⟨hB72_0, hB72_1, hB72_2⟩); clear hB72_0 hB72_1 hB72_2
         clear g69_0_0 g69_0_1 g69_0_f g69_0_l g69_1_0 g69_1_1 g69_1_f g69_1_l g69_2_0 g69_2_1 g69_2_2 g69_2_3 g69_2_f g69_2_l g69_3_l g69_4_0 g69_4_1 g69_4_2 g69_4_3 g69_4_l b0 b1 b2 b3 b4 HB69 hw69
         go_region
         go_wp2_with fail
         have hF : cpsI ax ay bx by_ cx cy dx dy = (r31, r32, r9, r10) := by unfold cpsI; first | rfl | (simp only [← R70.out, ← R60.out, ← R40.out, ← R39.out, ← R33.out, ← R32.out, ← R31.out, ← R28.out, ← R27.out, ← R26.out, ← R23.out, ← R22.out, ← R21.out, ← R18.out, ← R17.out, ← R16.out, ← R13.out, ← R10.out, ← R9.out, ← R8.out, ← R7.out, ← R6.out, ← R5.out, ← R4.out, ← R3.out, hc14, hc41, hc61, hc71, cond_true, cond_false]; done) | (simp only [← R70.out, ← R60.out, ← R40.out, ← R39.out, ← R33.out, ← R32.out, ← R31.out, ← R28.out, ← R27.out, ← R26.out, ← R23.out, ← R22.out, ← R21.out, ← R18.out, ← R17.out, ← R16.out, ← R13.out, ← R10.out, ← R9.out, ← R8.out, ← R7.out, ← R6.out, ← R5.out, ← R4.out, ← R3.out, hc14, hc41, hc61, hc71, cond_true, cond_false]; rfl) | simp [← R70.out, ← R60.out, ← R40.out, ← R39.out, ← R33.out, ← R32.out, ← R31.out, ← R28.out, ← R27.out, ← R26.out, ← R23.out, ← R22.out, ← R21.out, ← R18.out, ← R17.out, ← R16.out, ← R13.out, ← R10.out, ← R9.out, ← R8.out, ← R7.out, ← R6.out, ← R5.out, ← R4.out, ← R3.out, hc14, hc41, hc61, hc71]
         refine bodyPost_ret (v := .tuple #[.agg #[.int .i64 (r31), .int .i64 (r32)], .agg #[.int .i64 (r9), .int .i64 (r10)]]) (by simp [results, Tryz.results84, go_sem, g72_0_0, g72_0_1, g72_0_f, g72_0_l, g72_1_0, g72_1_1, g72_1_f, g72_1_l, g72_2_0, g72_2_1, g72_2_2, g72_2_3, g72_2_l]) rfl ⟨by rw [hF], ?_⟩
         exact by (repeat with_reducible first | exact .refl _ | assumption | refine .setAt ?_ (by first | omega | simp <;> omega) _ | refine .setCells ?_ (by first | omega | simp <;> omega) _ | refine .alloc ?_ _ | refine .drewN ?_ _ | refine .drew ?_ | refine .trans ?_ (by assumption))
 · go_upto_region 3 with (fail)
   refine wp_region_flowA 8 (by kernel_rfl) (by kernel_rfl) ?_
   simp only [tD]
   iterate 3 (refine wpQ_step (fun K hK => ?_); go_simp; refine hK _ ?_; clear hK K)
   refine wpQ_step (fun K hK => ?_); go_simp; apply Exists.intro; refine ⟨fun _ => ?_, hK _ ?_⟩; (go_at_call 153; exact (lineD_any _ _ _ _ _ _ _ (by rw [R7.out]; exact sat_bd _) (by rw [R8.out]; exact sat_bd _) (by rw [R9.out]; exact sat_bd _) (by rw [R10.out]; exact sat_bd _) (by rw [R3.out]; exact sat_bd _) (by rw [R4.out]; exact sat_bd _))); clear hK K
   iterate 3 (refine wpQ_step (fun K hK => ?_); go_simp; refine hK _ ?_; clear hK K)
   refine wpQ_step (fun K hK => ?_); go_simp; apply Exists.intro; refine ⟨fun _ => ?_, hK _ ?_⟩; (go_at_call 153; exact (lineD_any _ _ _ _ _ _ _ (by rw [R7.out]; exact sat_bd _) (by rw [R8.out]; exact sat_bd _) (by rw [R9.out]; exact sat_bd _) (by rw [R10.out]; exact sat_bd _) (by rw [R5.out]; exact sat_bd _) (by rw [R6.out]; exact sat_bd _))); clear hK K
   refine wpQ_nil ?_
   intro w73 hg73
   obtain ⟨r74, hr74⟩ : ∃ r : Int, r = lineD r7 r8 r9 r10 r3 r4 := ⟨_, rfl⟩
   (try simp only [← hr74])
   have R74 := Lib.hid hr74; clear hr74
   obtain ⟨r75, hr75⟩ : ∃ r : Int, r = lineD r7 r8 r9 r10 r5 r6 := ⟨_, rfl⟩
   (try simp only [← hr75])
   have R75 := Lib.hid hr75; clear hr75
   obtain ⟨b0, b1, b2, b3, b4, b5⟩ := HB12.out
   have hB73_0 : Bk w73 (w.heap.size) 23 #[.int .i64 (r3), .int .i64 (r4)] := (b0).grw hg73
   have hB73_1 : Bk w73 (w.heap.size + 1) 23 #[.int .i64 (r5), .int .i64 (r6)] := (b1).grw hg73
   have hB73_2 : Bk w73 (w.heap.size + 1 + 1) 23 #[.int .i64 (r7), .int .i64 (r8)] := (b2).grw hg73
   have hB73_3 : Bk w73 (w.heap.size + 1 + 1 + 1) 23 #[.int .i64 (r9), .int .i64 (r10)] := (b3).grw hg73
   have hB73_4 : Bk w73 (w.heap.size + 1 + 1 + 1 + 1) 23 #[.int .i64 (0), .int .i64 (0)] := (b4).grw hg73
   have hB73_5 : Bk w73 (w.heap.size + 1 + 1 + 1 + 1 + 1) 23 #[.int .i64 (0), .int .i64 (0)] := (b5).grw hg73
   have hw73 : Grw w w73 := (hw12).trans hg73
   have hs73 : w.heap.size + 1 + 1 + 1 + 1 + 1 < w73.heap.size := by have h1 := hg73.size; have h2 := g12_5_l; (try simp at h1); omega
   have g73_0_0 : w73.cell? ⟨w.heap.size, 0, none⟩ = some (.int .i64 (r3)) := hB73_0.cell 0
   have g73_0_1 : w73.cell? ⟨w.heap.size, 1, none⟩ = some (.int .i64 (r4)) := hB73_0.cell 1
   have g73_0_l := hB73_0.lt
   have g73_1_0 : w73.cell? ⟨w.heap.size + 1, 0, none⟩ = some (.int .i64 (r5)) := hB73_1.cell 0
   have g73_1_1 : w73.cell? ⟨w.heap.size + 1, 1, none⟩ = some (.int .i64 (r6)) := hB73_1.cell 1
   have g73_1_l := hB73_1.lt
   have g73_2_l := hB73_2.lt
   have g73_3_l := hB73_3.lt
   have g73_4_l := hB73_4.lt
   have g73_5_l := hB73_5.lt
   have HB73 := Lib.hid (show _ ∧ _ ∧ _ ∧ _ ∧ _ ∧ _ from ⟨hB73_0, hB73_1, hB73_2, hB73_3, hB73_4, hB73_5⟩); clear hB73_0 hB73_1 hB73_2 hB73_3 hB73_4 hB73_5
   clear g12_0_0 g12_0_1 g12_0_l g12_1_0 g12_1_1 g12_1_l g12_2_0 g12_2_1 g12_2_l g12_3_0 g12_3_1 g12_3_l g12_4_l g12_5_l b0 b1 b2 b3 b4 b5 HB12 hw12 hg73
   go_upto_region 4 with (fail)
   refine wp_region_flowB 8 (by kernel_rfl) (by kernel_rfl) ?_
   simp only [tD]
   iterate 6 (refine wpQ_step (fun K hK => ?_); go_simp; refine hK _ ?_; clear hK K)
   refine wpQ_step (fun K hK => ?_); go_simp; apply Exists.intro; refine ⟨fun _ => ?_, hK _ ?_⟩; (go_at_call 73; exact (ratio_any _ _ _)); clear hK K
   refine wpQ_step (fun K hK => ?_); go_simp; apply Exists.intro; refine ⟨fun _ => ?_, hK _ ?_⟩; (go_at_call 14; exact (vlerp_any _ _ _ _ _ _)); clear hK K
   refine wpQ_nil ?_
   intro w76 hg76
   obtain ⟨r77, hr77⟩ : ∃ r : Int, r = ratioI r74 (IntKind.i64.wrap (r74 + r75)) := ⟨_, rfl⟩
   (try simp only [← hr77])
   have R77 := Lib.hid hr77; clear hr77
   obtain ⟨r78, hr78⟩ : ∃ r : Int, r = lerpI r3 r5 r77 := ⟨_, rfl⟩
   obtain ⟨r79, hr79⟩ : ∃ r : Int, r = lerpI r4 r6 r77 := ⟨_, rfl⟩
   (try simp only [← hr78, ← hr79])
   have R78 := Lib.hid hr78; clear hr78
   have R79 := Lib.hid hr79; clear hr79
   refine okList_step (fun w76_0 hw76_0 K hK => ?_)
   have hAw76_0 : w73.heap.size ≤ w76_0.heap.size := (show Grw w73 w76_0 by (repeat with_reducible first | exact .refl _ | assumption | refine .setAt ?_ (by first | omega | simp <;> omega) _ | refine .setCells ?_ (by first | omega | simp <;> omega) _ | refine .alloc ?_ _ | refine .drewN ?_ _ | refine .drew ?_ | refine .trans ?_ (by assumption))).size
   go_simp; refine hK _ _ (by (repeat with_reducible first | exact .refl _ | assumption | refine .setAt ?_ (by first | omega | simp <;> omega) _ | refine .setCells ?_ (by first | omega | simp <;> omega) _ | refine .alloc ?_ _ | refine .drewN ?_ _ | refine .drew ?_ | refine .trans ?_ (by assumption))) ?_; clear hK K
   have hN76_0 := Bk.new w76_0 23 #[.int .i64 (0), .int .i64 (0)]
   refine okList_step (fun w76_1 hw76_1 K hK => ?_)
   replace hN76_0 := hN76_0.grw hw76_1
   have gn_0 : w76_1.cell? ⟨w76_0.heap.size, 0, none⟩ = some (.int .i64 (0)) := hN76_0.cell 0
   have gn_1 : w76_1.cell? ⟨w76_0.heap.size, 1, none⟩ = some (.int .i64 (0)) := hN76_0.cell 1
   have gn_f := hN76_0.frozen
   go_simp; refine hK _ _ (by (repeat with_reducible first | exact .refl _ | assumption | refine .setAt ?_ (by first | omega | simp <;> omega) _ | refine .setCells ?_ (by first | omega | simp <;> omega) _ | refine .alloc ?_ _ | refine .drewN ?_ _ | refine .drew ?_ | refine .trans ?_ (by assumption))) ?_; clear hK K gn_f gn_0 gn_1
   replace hN76_0 := hN76_0.set 0 (.int .i64 (r78))
   replace hN76_0 := hN76_0.set 1 (.int .i64 (r79))
   refine okList_nil (fun w80 h80 => ?_); go_simp
   have hN76_0 : Bk w80 (w76_0.heap.size) 23 #[.int .i64 (r78), .int .i64 (r79)] := hN76_0.grw h80
   have hg80 : Grw w73 w80 := by (repeat with_reducible first | exact .refl _ | assumption | refine .setAt ?_ (by first | omega | simp <;> omega) _ | refine .setCells ?_ (by first | omega | simp <;> omega) _ | refine .alloc ?_ _ | refine .drewN ?_ _ | refine .drew ?_ | refine .trans ?_ (by assumption))
   have hsz76_0 : w.heap.size + 1 + 1 + 1 + 1 + 1 < w76_0.heap.size := by (have h1 : Grw w73 w76_0 := by (repeat with_reducible first | exact .refl _ | assumption | refine .setAt ?_ (by first | omega | simp <;> omega) _ | refine .setCells ?_ (by first | omega | simp <;> omega) _ | refine .alloc ?_ _ | refine .drewN ?_ _ | refine .drew ?_ | refine .trans ?_ (by assumption))); (have h2 := h1.size); (have h3 := g73_5_l); omega
   obtain ⟨b0, b1, b2, b3, b4, b5⟩ := HB73.out
   have hB80_0 : Bk w80 (w.heap.size) 23 #[.int .i64 (r3), .int .i64 (r4)] := (b0).grw hg80
   have hB80_1 : Bk w80 (w.heap.size + 1) 23 #[.int .i64 (r5), .int .i64 (r6)] := (b1).grw hg80
   have hB80_2 : Bk w80 (w.heap.size + 1 + 1) 23 #[.int .i64 (r7), .int .i64 (r8)] := (b2).grw hg80
   have hB80_3 : Bk w80 (w.heap.size + 1 + 1 + 1) 23 #[.int .i64 (r9), .int .i64 (r10)] := (b3).grw hg80
   have hB80_4 : Bk w80 (w.heap.size + 1 + 1 + 1 + 1) 23 #[.int .i64 (0), .int .i64 (0)] := (b4).grw hg80
   have hB80_5 : Bk w80 (w.heap.size + 1 + 1 + 1 + 1 + 1) 23 #[.int .i64 (0), .int .i64 (0)] := (b5).grw hg80
   have hB80_6 : Bk w80 (w76_0.heap.size) 23 #[.int .i64 (r78), .int .i64 (r79)] := hN76_0
   have hw80 : Grw w w80 := (hw73).trans hg80
   have hs80 : w.heap.size + 1 + 1 + 1 + 1 + 1 < w80.heap.size := by have h1 := hg80.size; have h2 := g73_5_l; (try simp at h1); omega
   have g80_0_l := hB80_0.lt
   have g80_1_l := hB80_1.lt
   have g80_2_l := hB80_2.lt
   have g80_3_l := hB80_3.lt
   have g80_4_0 : w80.cell? ⟨w.heap.size + 1 + 1 + 1 + 1, 0, none⟩ = some (.int .i64 (0)) := hB80_4.cell 0
   have g80_4_1 : w80.cell? ⟨w.heap.size + 1 + 1 + 1 + 1, 1, none⟩ = some (.int .i64 (0)) := hB80_4.cell 1
   have g80_4_f := hB80_4.frozen
   have g80_4_l := hB80_4.lt
   have g80_5_0 : w80.cell? ⟨w.heap.size + 1 + 1 + 1 + 1 + 1, 0, none⟩ = some (.int .i64 (0)) := hB80_5.cell 0
   have g80_5_1 : w80.cell? ⟨w.heap.size + 1 + 1 + 1 + 1 + 1, 1, none⟩ = some (.int .i64 (0)) := hB80_5.cell 1
   have g80_5_f := hB80_5.frozen
   have g80_5_l := hB80_5.lt
   have g80_6_0 : w80.cell? ⟨w76_0.heap.size, 0, none⟩ = some (.int .i64 (r78)) := hB80_6.cell 0
   have g80_6_1 : w80.cell? ⟨w76_0.heap.size, 1, none⟩ = some (.int .i64 (r79)) := hB80_6.cell 1
   have g80_6_l := hB80_6.lt
   have HB80 := Lib.hid (show _ ∧ _ ∧ _ ∧ _ ∧ _ ∧ _ ∧ _ from ⟨hB80_0, hB80_1, hB80_2, hB80_3, hB80_4, hB80_5, hB80_6⟩); clear hB80_0 hB80_1 hB80_2 hB80_3 hB80_4 hB80_5 hB80_6
   clear g73_0_0 g73_0_1 g73_0_l g73_1_0 g73_1_1 g73_1_l g73_2_l g73_3_l g73_4_l g73_5_l b0 b1 b2 b3 b4 b5 HB73 hw73 hg80
   clear hN76_0 hw76_1 hw76_0 h80 hg76
   go_upto_region 5 with (fail)
   go_region
   go_wp2_with fail
   have hF : cpsI ax ay bx by_ cx cy dx dy = (r78, r79, r78, r79) := by unfold cpsI; first | rfl | (simp only [← R79.out, ← R78.out, ← R77.out, ← R75.out, ← R74.out, ← R13.out, ← R10.out, ← R9.out, ← R8.out, ← R7.out, ← R6.out, ← R5.out, ← R4.out, ← R3.out, hc14, cond_true, cond_false]; done) | (simp only [← R79.out, ← R78.out, ← R77.out, ← R75.out, ← R74.out, ← R13.out, ← R10.out, ← R9.out, ← R8.out, ← R7.out, ← R6.out, ← R5.out, ← R4.out, ← R3.out, hc14, cond_true, cond_false]; rfl) | simp [← R79.out, ← R78.out, ← R77.out, ← R75.out, ← R74.out, ← R13.out, ← R10.out, ← R9.out, ← R8.out, ← R7.out, ← R6.out, ← R5.out, ← R4.out, ← R3.out, hc14]
   refine bodyPost_ret (v := .tuple #[.agg #[.int .i64 (r78), .int .i64 (r79)], .agg #[.int .i64 (r78), .int .i64 (r79)]]) (by simp [results, Tryz.results84, go_sem, g80_0_l, g80_1_l, g80_2_l, g80_3_l, g80_4_0, g80_4_1, g80_4_f, g80_4_l, g80_5_0, g80_5_1, g80_5_f, g80_5_l, g80_6_0, g80_6_1, g80_6_l]) rfl ⟨by rw [hF], ?_⟩
   exact by (repeat with_reducible first | exact .refl _ | assumption | refine .setAt ?_ (by first | omega | simp <;> omega) _ | refine .setCells ?_ (by first | omega | simp <;> omega) _ | refine .alloc ?_ _ | refine .drewN ?_ _ | refine .drew ?_ | refine .trans ?_ (by assumption))
def distI (ax ay bx by_ cx cy dx dy : Int) : Int := let r3 : Bool := itI ax ay bx by_ cx cy dx dy; bif r3 then (0) else (let r6 : Int := (cpsI ax ay bx by_ cx cy dx dy).1; let r7 : Int := (cpsI ax ay bx by_ cx cy dx dy).2.1; let r8 : Int := (cpsI ax ay bx by_ cx cy dx dy).2.2.1; let r9 : Int := (cpsI ax ay bx by_ cx cy dx dy).2.2.2; let r11 : Int := dsqI r6 r7 r8 r9; let r12 : Int := isqI r11; let r13 : Int := sat r12; r13)
theorem distance_any (ax ay bx by_ cx cy dx dy : Int) (w : World) :
   Calls Tryz.prog 37 #[.agg #[.int .i64 (ax), .int .i64 (ay)], .agg #[.int .i64 (bx), .int .i64 (by_)], .agg #[.int .i64 (cx), .int .i64 (cy)], .agg #[.int .i64 (dx), .int .i64 (dy)]] w fun e w' => e = .returned (.int .i64 (distI ax ay bx by_ cx cy dx dy)) ∧ Grw w w' := by
 go_enter Tryz.func37, Tryz.ntmps37
 go_upto_region 1 with (fail)
 refine wp_gen (fun xw => Grw w xw ∧ Bk xw (w.heap.size) 23 #[.int .i64 (ax), .int .i64 (ay)] ∧ Bk xw (w.heap.size + 1) 23 #[.int .i64 (bx), .int .i64 (by_)] ∧ Bk xw (w.heap.size + 1 + 1) 23 #[.int .i64 (cx), .int .i64 (cy)] ∧ Bk xw (w.heap.size + 1 + 1 + 1) 23 #[.int .i64 (dx), .int .i64 (dy)]) ⟨(((((Grw.refl w)).alloc _).alloc _).alloc _).alloc _, ((((Bk.new' (by simp))).alloc _).alloc _).alloc _, (((Bk.new' (by simp))).alloc _).alloc _, ((Bk.new' (by simp))).alloc _, (Bk.new' (by simp))⟩ ?_
 rintro w1 ⟨hw1, hB1_0, hB1_1, hB1_2, hB1_3⟩
 have g1_0_0 : w1.cell? ⟨w.heap.size, 0, none⟩ = some (.int .i64 (ax)) := hB1_0.cell 0
 have g1_0_1 : w1.cell? ⟨w.heap.size, 1, none⟩ = some (.int .i64 (ay)) := hB1_0.cell 1
 have g1_0_l := hB1_0.lt
 have g1_1_0 : w1.cell? ⟨w.heap.size + 1, 0, none⟩ = some (.int .i64 (bx)) := hB1_1.cell 0
 have g1_1_1 : w1.cell? ⟨w.heap.size + 1, 1, none⟩ = some (.int .i64 (by_)) := hB1_1.cell 1
 have g1_1_l := hB1_1.lt
 have g1_2_0 : w1.cell? ⟨w.heap.size + 1 + 1, 0, none⟩ = some (.int .i64 (cx)) := hB1_2.cell 0
 have g1_2_1 : w1.cell? ⟨w.heap.size + 1 + 1, 1, none⟩ = some (.int .i64 (cy)) := hB1_2.cell 1
 have g1_2_l := hB1_2.lt
 have g1_3_0 : w1.cell? ⟨w.heap.size + 1 + 1 + 1, 0, none⟩ = some (.int .i64 (dx)) := hB1_3.cell 0
 have g1_3_1 : w1.cell? ⟨w.heap.size + 1 + 1 + 1, 1, none⟩ = some (.int .i64 (dy)) := hB1_3.cell 1
 have g1_3_l := hB1_3.lt
 have HB1 := Lib.hid (show _ ∧ _ ∧ _ ∧ _ from ⟨hB1_0, hB1_1, hB1_2, hB1_3⟩); clear hB1_0 hB1_1 hB1_2 hB1_3
 go_wp2_with fail
 (go_at_call 82; refine (intersects_any _ _ _ _ _ _ _ _ _).mono ?_; rintro e w2 ⟨rfl, hg2⟩)
 obtain ⟨r3, hr3⟩ : ∃ r : Bool, r = itI ax ay bx by_ cx cy dx dy := ⟨_, rfl⟩
 (try simp only [← hr3])
 have R3 := Lib.hid hr3; clear hr3
 obtain ⟨b0, b1, b2, b3⟩ := HB1.out
 have hB2_0 : Bk w2 (w.heap.size) 23 #[.int .i64 (ax), .int .i64 (ay)] := (b0).grw hg2
 have hB2_1 : Bk w2 (w.heap.size + 1) 23 #[.int .i64 (bx), .int .i64 (by_)] := (b1).grw hg2
 have hB2_2 : Bk w2 (w.heap.size + 1 + 1) 23 #[.int .i64 (cx), .int .i64 (cy)] := (b2).grw hg2
 have hB2_3 : Bk w2 (w.heap.size + 1 + 1 + 1) 23 #[.int .i64 (dx), .int .i64 (dy)] := (b3).grw hg2
 have hw2 : Grw w w2 := (hw1).trans hg2
 have hs2 : w.heap.size + 1 + 1 + 1 < w2.heap.size := by have h1 := hg2.size; have h2 := g1_3_l; (try simp at h1); omega
 have g2_0_0 : w2.cell? ⟨w.heap.size, 0, none⟩ = some (.int .i64 (ax)) := hB2_0.cell 0
 have g2_0_1 : w2.cell? ⟨w.heap.size, 1, none⟩ = some (.int .i64 (ay)) := hB2_0.cell 1
 have g2_0_l := hB2_0.lt
 have g2_1_0 : w2.cell? ⟨w.heap.size + 1, 0, none⟩ = some (.int .i64 (bx)) := hB2_1.cell 0
 have g2_1_1 : w2.cell? ⟨w.heap.size + 1, 1, none⟩ = some (.int .i64 (by_)) := hB2_1.cell 1
 have g2_1_l := hB2_1.lt
 have g2_2_0 : w2.cell? ⟨w.heap.size + 1 + 1, 0, none⟩ = some (.int .i64 (cx)) := hB2_2.cell 0
 have g2_2_1 : w2.cell? ⟨w.heap.size + 1 + 1, 1, none⟩ = some (.int .i64 (cy)) := hB2_2.cell 1
 have g2_2_l := hB2_2.lt
 have g2_3_0 : w2.cell? ⟨w.heap.size + 1 + 1 + 1, 0, none⟩ = some (.int .i64 (dx)) := hB2_3.cell 0
 have g2_3_1 : w2.cell? ⟨w.heap.size + 1 + 1 + 1, 1, none⟩ = some (.int .i64 (dy)) := hB2_3.cell 1
 have g2_3_l := hB2_3.lt
 have HB2 := Lib.hid (show _ ∧ _ ∧ _ ∧ _ from ⟨hB2_0, hB2_1, hB2_2, hB2_3⟩); clear hB2_0 hB2_1 hB2_2 hB2_3
 clear g1_0_0 g1_0_1 g1_0_l g1_1_0 g1_1_1 g1_1_l g1_2_0 g1_2_1 g1_2_l g1_3_0 g1_3_1 g1_3_l b0 b1 b2 b3 HB1 hw1 hg2
 cases hc4 : (r3)
 · go_wp2_with fail
   (go_at_call 84; refine (closestPoints_any ax ay bx by_ cx cy dx dy _).mono ?_; rintro e w5 ⟨rfl, hg5⟩)
   obtain ⟨r6, hr6⟩ : ∃ r : Int, r = (cpsI ax ay bx by_ cx cy dx dy).1 := ⟨_, rfl⟩
   obtain ⟨r7, hr7⟩ : ∃ r : Int, r = (cpsI ax ay bx by_ cx cy dx dy).2.1 := ⟨_, rfl⟩
   obtain ⟨r8, hr8⟩ : ∃ r : Int, r = (cpsI ax ay bx by_ cx cy dx dy).2.2.1 := ⟨_, rfl⟩
   obtain ⟨r9, hr9⟩ : ∃ r : Int, r = (cpsI ax ay bx by_ cx cy dx dy).2.2.2 := ⟨_, rfl⟩
   (try simp only [← hr6, ← hr7, ← hr8, ← hr9])
   have R6 := Lib.hid hr6; clear hr6
   have R7 := Lib.hid hr7; clear hr7
   have R8 := Lib.hid hr8; clear hr8
   have R9 := Lib.hid hr9; clear hr9
   obtain ⟨b0, b1, b2, b3⟩ := HB2.out
   have hB5_0 : Bk w5 (w.heap.size) 23 #[.int .i64 (ax), .int .i64 (ay)] := (b0).grw hg5
   have hB5_1 : Bk w5 (w.heap.size + 1) 23 #[.int .i64 (bx), .int .i64 (by_)] := (b1).grw hg5
   have hB5_2 : Bk w5 (w.heap.size + 1 + 1) 23 #[.int .i64 (cx), .int .i64 (cy)] := (b2).grw hg5
   have hB5_3 : Bk w5 (w.heap.size + 1 + 1 + 1) 23 #[.int .i64 (dx), .int .i64 (dy)] := (b3).grw hg5
   have hw5 : Grw w w5 := (hw2).trans hg5
   have hs5 : w.heap.size + 1 + 1 + 1 < w5.heap.size := by have h1 := hg5.size; have h2 := g2_3_l; (try simp at h1); omega
   have g5_0_l := hB5_0.lt
   have g5_1_l := hB5_1.lt
   have g5_2_l := hB5_2.lt
   have g5_3_l := hB5_3.lt
   have HB5 := Lib.hid (show _ ∧ _ ∧ _ ∧ _ from ⟨hB5_0, hB5_1, hB5_2, hB5_3⟩); clear hB5_0 hB5_1 hB5_2 hB5_3
   clear g2_0_0 g2_0_1 g2_0_l g2_1_0 g2_1_1 g2_1_l g2_2_0 g2_2_1 g2_2_l g2_3_0 g2_3_1 g2_3_l b0 b1 b2 b3 HB2 hw2 hg5
   go_wp2_with fail
   (go_at_call 81; refine (dsq_any _ _ _ _ _).mono ?_; rintro e w10 ⟨rfl, hg10⟩)
   obtain ⟨r11, hr11⟩ : ∃ r : Int, r = dsqI r6 r7 r8 r9 := ⟨_, rfl⟩
   (try simp only [← hr11])
   have R11 := Lib.hid hr11; clear hr11
   obtain ⟨b0, b1, b2, b3⟩ := HB5.out
   have hB10_0 : Bk w10 (w.heap.size) 23 #[.int .i64 (ax), .int .i64 (ay)] := (b0).grw hg10
   have hB10_1 : Bk w10 (w.heap.size + 1) 23 #[.int .i64 (bx), .int .i64 (by_)] := (b1).grw hg10
   have hB10_2 : Bk w10 (w.heap.size + 1 + 1) 23 #[.int .i64 (cx), .int .i64 (cy)] := (b2).grw hg10
   have hB10_3 : Bk w10 (w.heap.size + 1 + 1 + 1) 23 #[.int .i64 (dx), .int .i64 (dy)] := (b3).grw hg10
   have hw10 : Grw w w10 := (hw5).trans hg10
   have hs10 : w.heap.size + 1 + 1 + 1 < w10.heap.size := by have h1 := hg10.size; have h2 := g5_3_l; (try simp at h1); omega
   have g10_0_l := hB10_0.lt
   have g10_1_l := hB10_1.lt
   have g10_2_l := hB10_2.lt
   have g10_3_l := hB10_3.lt
   have HB10 := Lib.hid (show _ ∧ _ ∧ _ ∧ _ from ⟨hB10_0, hB10_1, hB10_2, hB10_3⟩); clear hB10_0 hB10_1 hB10_2 hB10_3
   clear g5_0_l g5_1_l g5_2_l g5_3_l b0 b1 b2 b3 HB5 hw5 hg10
   go_wp2_with fail
   (go_at_call 72; refine (isqrt_any _ _).mono ?_; rintro e w1 ⟨rfl, rfl⟩)
   obtain ⟨r12, hr12⟩ : ∃ r : Int, r = isqI r11 := ⟨_, rfl⟩
   (try simp only [← hr12])
   have R12 := Lib.hid hr12; clear hr12
   go_wp2_with fail
   (go_at_call 83; refine (saturate_any _ _).mono ?_; rintro e w1 ⟨rfl, rfl⟩)
   obtain ⟨r13, hr13⟩ : ∃ r : Int, r = sat r12 := ⟨_, rfl⟩
   (try simp only [← hr13])
   have R13 := Lib.hid hr13; clear hr13
   go_wp2_with fail
   have hF : distI ax ay bx by_ cx cy dx dy = r13 := by unfold distI; first | rfl | (simp only [← R13.out, ← R12.out, ← R11.out, ← R9.out, ← R8.out, ← R7.out, ← R6.out, ← R3.out, hc4, cond_true, cond_false]; done) | (simp only [← R13.out, ← R12.out, ← R11.out, ← R9.out, ← R8.out, ← R7.out, ← R6.out, ← R3.out, hc4, cond_true, cond_false]; rfl) | simp [← R13.out, ← R12.out, ← R11.out, ← R9.out, ← R8.out, ← R7.out, ← R6.out, ← R3.out, hc4]
   refine bodyPost_ret (v := .int .i64 (r13)) (by simp [results, Tryz.results37, go_sem, g10_0_l, g10_1_l, g10_2_l, g10_3_l]) rfl ⟨by rw [hF], ?_⟩
   exact hw10
 · go_wp2_with fail
   have hF : distI ax ay bx by_ cx cy dx dy = 0 := by unfold distI; first | rfl | (simp only [← R3.out, hc4, cond_true, cond_false]; done) | (simp only [← R3.out, hc4, cond_true, cond_false]; rfl) | simp [← R3.out, hc4]
   refine bodyPost_ret (v := .int .i64 (0)) (by simp [results, Tryz.results37, go_sem, g2_0_0, g2_0_1, g2_0_l, g2_1_0, g2_1_1, g2_1_l, g2_2_0, g2_2_1, g2_2_l, g2_3_0, g2_3_1, g2_3_l]) rfl ⟨by rw [hF], ?_⟩
   exact hw2
end
end Go.Proofs.YtokkghhmliplfaaGreat
