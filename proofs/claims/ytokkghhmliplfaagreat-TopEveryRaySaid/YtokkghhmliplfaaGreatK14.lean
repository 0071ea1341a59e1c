/- The row TopEveryRay of the program holds; part 15 of the proof. No condition. -/
import Derived.Test.YtokkghhmliplfaaGreatK7
set_option maxRecDepth 100000
set_option maxHeartbeats 12800000
set_option linter.all false
namespace Go.Proofs.YtokkghhmliplfaaGreat
section
open Go.RowKit Go.Sort
attribute [local go_sem] qAt qUpon okOp okUpon cell_in_grow frozen_in_grow
structure ObV where
 id : Int
 kd : Int
 px : Int
 py : Int
 an : Int
 vx : Int
 vy : Int
 av : Int
 fx : Int
 fy : Int
 tq : Int
 ld : Int
 ad : Int
 gs : Int
 bu : Bool
 fr : Bool
 ns : Bool
 sl : Bool
 idl : Int
def encObV (x : ObV) : List Value := [.int .i64 (x.id), .int .i64 (x.kd), .int .i64 (x.px), .int .i64 (x.py), .int .i64 (x.an), .int .i64 (x.vx), .int .i64 (x.vy), .int .i64 (x.av), .int .i64 (x.fx), .int .i64 (x.fy), .int .i64 (x.tq), .int .i64 (x.ld), .int .i64 (x.ad), .int .i64 (x.gs), .bool (x.bu), .bool (x.fr), .bool (x.ns), .bool (x.sl), .int .i64 (x.idl), .slice (none) (0) (0)]
theorem encObV_eq (x : ObV) : (encObV x).toArray = #[.int .i64 (x.id), .int .i64 (x.kd), .int .i64 (x.px), .int .i64 (x.py), .int .i64 (x.an), .int .i64 (x.vx), .int .i64 (x.vy), .int .i64 (x.av), .int .i64 (x.fx), .int .i64 (x.fy), .int .i64 (x.tq), .int .i64 (x.ld), .int .i64 (x.ad), .int .i64 (x.gs), .bool (x.bu), .bool (x.fr), .bool (x.ns), .bool (x.sl), .int .i64 (x.idl), .slice (none) (0) (0)] := rfl
attribute [local go_sem] encObV_eq
def ObV.body (x : ObV) : BodyV := ⟨x.id, x.kd, x.px, x.py, x.an, x.vx, x.vy, x.av, x.fx, x.fy, x.tq, x.ld, x.ad, x.gs, x.bu, x.fr, x.ns, x.sl, x.idl, none, 0, []⟩
attribute [local go_sem] encFixV_eq encBodyV_eq encJointV_eq encPkV_eq encPtV_eq encCtV_eq encMfV_eq encWorldV_eq encObV_eq
attribute [local go_sem ↓] loadAt31 storeAt31 loadAt99 storeAt99 loadAt44 storeAt44 loadAt58 storeAt58 loadAt70 storeAt70 loadAt25 storeAt25 loadAt94 storeAt94 loadAt143 storeAt143
attribute [local go_sem] run_bl31 run_bs31 run_bl99 run_bs99 run_bl44 run_bs44 run_bl58 run_bs58 run_bl70 run_bs70 run_bl25 run_bs25 run_bl94 run_bs94 run_bl143 run_bs143 there_new there_alloc have_in_grow cells_in_grow oc_int oc_bool oc_slice oc_all oc_cons oc_nil List.size_toArray List.length_cons List.length_nil
attribute [local go_sem high] eqR23 eqR94
theorem idxNil_383 (fv : Value) (w : World) : Calls Tryz.prog 383 #[.slice none 0 0, fv] w fun e w' => e = .returned (.int .i64 (-1)) ∧ w = w' := by
 go_enter Tryz.func383, Tryz.ntmps383
 go_wp2_with fail
 refine wp_loop_rounds 1 ?_
 rw [rounds_succ]
 go_wp2_with fail
 go_ret
 exact ⟨rfl, rfl⟩
theorem conNil_361 (fv : Value) (w : World) : Calls Tryz.prog 361 #[.slice none 0 0, fv] w fun e w' => e = .returned (.bool false) ∧ w = w' := by
 go_enter Tryz.func361, Tryz.ntmps361
 go_wp2_with (go_at_call 383; refine (idxNil_383 _ _).mono ?_; rintro e w1 ⟨rfl, rfl⟩)
 go_ret
 exact ⟨rfl, rfl⟩
def combine0F : Int × Int × Int × Int := (0, 0, 0, 0)
theorem combine0 (w : World) :
   Calls Tryz.prog 323 #[.slice (none) (0) (0)] w fun e w' => e = .returned (.agg #[.int .i64 ((combine0F ).1), .int .i64 ((combine0F ).2.1), .int .i64 ((combine0F ).2.2.1), .int .i64 ((combine0F ).2.2.2)]) ∧ Grw w w' := by
 go_enter Tryz.func323, Tryz.ntmps323
 go_upto_region 1 with (fail)
 refine wp_gen (fun xw => Grw w xw ∧ Bk xw (w.heap.size) 261 #[.int .i64 (0), .int .i64 (0), .int .i64 (0), .int .i64 (0)]) ⟨((Grw.refl w)).alloc _, (Bk.new' (by simp))⟩ ?_
 rintro w1 ⟨hw1, hB1_0⟩
 have g1_0_l := hB1_0.lt
 have HB1 := Lib.hid (show _ from hB1_0); clear hB1_0
 go_wp2_with fail
 (go_at_call 361; refine (conNil_361 _ _).mono ?_; rintro e w1 ⟨rfl, rfl⟩)
 go_wp2_with fail
 refine wp_loop_rounds 1 ?_
 rw [rounds_succ]
 go_wp2_with fail
 refine wp_loop_rounds 1 ?_
 rw [rounds_succ]
 have b0 := HB1.out
 go_upto_region 20 with (fail)
 refine wp_gen (fun xw => Grw w xw ∧ Bk xw (w.heap.size) 261 #[.int .i64 (0), .int .i64 (0), .int .i64 (0), .int .i64 (0)] ∧ Bk xw (w1.heap.size) 261 #[.int .i64 (0), .int .i64 (0), .int .i64 (0), .int .i64 (0)]) ⟨(hw1).alloc _, (b0).alloc _, (Bk.new' (by simp))⟩ ?_
 rintro w2 ⟨hw2, hB2_0, hB2_1⟩
 have ho2 : w.heap.size < w1.heap.size := g1_0_l
 have g2_0_0 : w2.cell? ⟨w.heap.size, 0, none⟩ = some (.int .i64 (0)) := hB2_0.cell 0
 have g2_0_1 : w2.cell? ⟨w.heap.size, 1, none⟩ = some (.int .i64 (0)) := hB2_0.cell 1
 have g2_0_2 : w2.cell? ⟨w.heap.size, 2, none⟩ = some (.int .i64 (0)) := hB2_0.cell 2
 have g2_0_3 : w2.cell? ⟨w.heap.size, 3, none⟩ = some (.int .i64 (0)) := hB2_0.cell 3
 have g2_0_f := hB2_0.frozen
 have g2_0_l := hB2_0.lt
 have g2_1_0 : w2.cell? ⟨w1.heap.size, 0, none⟩ = some (.int .i64 (0)) := hB2_1.cell 0
 have g2_1_1 : w2.cell? ⟨w1.heap.size, 1, none⟩ = some (.int .i64 (0)) := hB2_1.cell 1
 have g2_1_2 : w2.cell? ⟨w1.heap.size, 2, none⟩ = some (.int .i64 (0)) := hB2_1.cell 2
 have g2_1_3 : w2.cell? ⟨w1.heap.size, 3, none⟩ = some (.int .i64 (0)) := hB2_1.cell 3
 have g2_1_l := hB2_1.lt
 have HB2 := Lib.hid (show _ ∧ _ from ⟨hB2_0, hB2_1⟩); clear hB2_0 hB2_1
 clear g1_0_l b0 HB1 hw1
 go_wp2_with fail
 have hF : combine0F  = (0, 0, 0, 0) := by unfold combine0F; first | rfl | (simp only [cond_true, cond_false]; done) | (simp only [cond_true, cond_false]; rfl) | simp []
 refine bodyPost_ret (v := .agg #[.int .i64 (0), .int .i64 (0), .int .i64 (0), .int .i64 (0)]) (by simp [results, Tryz.results323, go_sem, g2_0_0, g2_0_1, g2_0_2, g2_0_3, g2_0_f, g2_0_l, g2_1_0, g2_1_1, g2_1_2, g2_1_3, g2_1_l]) rfl ⟨by rw [hF], ?_⟩
 exact ((((hw2).setAt (by omega) _).setAt (by omega) _).setAt (by omega) _).setAt (by omega) _
def ofFixtures0F : Int × Int × Int × Int := let r3 : Int := (combine0F ).1; let r4 : Int := (combine0F ).2.1; let r5 : Int := (combine0F ).2.2.1; let r6 : Int := (combine0F ).2.2.2; (r3, r4, r5, r6)
theorem ofFixtures0 (w : World) :
   Calls Tryz.prog 263 #[.slice (none) (0) (0)] w fun e w' => e = .returned (.agg #[.int .i64 ((ofFixtures0F ).1), .int .i64 ((ofFixtures0F ).2.1), .int .i64 ((ofFixtures0F ).2.2.1), .int .i64 ((ofFixtures0F ).2.2.2)]) ∧ Grw w w' := by
 go_enter Tryz.func263, Tryz.ntmps263
 go_wp2_with fail
 refine wp_loop_rounds 1 ?_
 rw [rounds_succ]
 go_upto_region 10 with (fail)
 refine wp_gen (fun xw => Grw w xw ∧ Bk xw (w.heap.size) 261 #[.int .i64 (0), .int .i64 (0), .int .i64 (0), .int .i64 (0)]) ⟨((Grw.refl w)).alloc _, (Bk.new' (by simp))⟩ ?_
 rintro w1 ⟨hw1, hB1_0⟩
 have g1_0_l := hB1_0.lt
 have HB1 := Lib.hid (show _ from hB1_0); clear hB1_0
 go_wp2_with fail
 (go_at_call 323; refine (combine0 _).mono ?_; rintro e w2 ⟨rfl, hg2⟩)
 obtain ⟨r3, hr3⟩ : ∃ r : Int, r = (combine0F ).1 := ⟨_, rfl⟩
 obtain ⟨r4, hr4⟩ : ∃ r : Int, r = (combine0F ).2.1 := ⟨_, rfl⟩
 obtain ⟨r5, hr5⟩ : ∃ r : Int, r = (combine0F ).2.2.1 := ⟨_, rfl⟩
 obtain ⟨r6, hr6⟩ : ∃ r : Int, r = (combine0F ).2.2.2 := ⟨_, rfl⟩
 (try simp only [← hr3, ← hr4, ← hr5, ← hr6])
 have R3 := Lib.hid hr3; clear hr3
 have R4 := Lib.hid hr4; clear hr4
 have R5 := Lib.hid hr5; clear hr5
 have R6 := Lib.hid hr6; clear hr6
 have b0 := HB1.out
 have hB2_0 : Bk w2 (w.heap.size) 261 #[.int .i64 (0), .int .i64 (0), .int .i64 (0), .int .i64 (0)] := (b0).grw hg2
 have hw2 : Grw w w2 := (hw1).trans hg2
 have hs2 : w.heap.size < w2.heap.size := by have h1 := hg2.size; have h2 := g1_0_l; (try simp at h1); omega
 have g2_0_0 : w2.cell? ⟨w.heap.size, 0, none⟩ = some (.int .i64 (0)) := hB2_0.cell 0
 have g2_0_1 : w2.cell? ⟨w.heap.size, 1, none⟩ = some (.int .i64 (0)) := hB2_0.cell 1
 have g2_0_2 : w2.cell? ⟨w.heap.size, 2, none⟩ = some (.int .i64 (0)) := hB2_0.cell 2
 have g2_0_3 : w2.cell? ⟨w.heap.size, 3, none⟩ = some (.int .i64 (0)) := hB2_0.cell 3
 have g2_0_f := hB2_0.frozen
 have g2_0_l := hB2_0.lt
 have HB2 := Lib.hid (show _ from hB2_0); clear hB2_0
 clear g1_0_l b0 HB1 hw1 hg2
 go_wp2_with fail
 have hF : ofFixtures0F  = (r3, r4, r5, r6) := by unfold ofFixtures0F; first | rfl | (simp only [← R6.out, ← R5.out, ← R4.out, ← R3.out, cond_true, cond_false]; done) | (simp only [← R6.out, ← R5.out, ← R4.out, ← R3.out, cond_true, cond_false]; rfl) | simp [← R6.out, ← R5.out, ← R4.out, ← R3.out]
 refine bodyPost_ret (v := .agg #[.int .i64 (r3), .int .i64 (r4), .int .i64 (r5), .int .i64 (r6)]) (by simp [results, Tryz.results263, go_sem, g2_0_0, g2_0_1, g2_0_2, g2_0_3, g2_0_f, g2_0_l]) rfl ⟨by rw [hF], ?_⟩
 exact ((((hw2).setAt (by omega) _).setAt (by omega) _).setAt (by omega) _).setAt (by omega) _
def massData0F (b : ObV) : Int × Int × Int × Int := let r3 : Int := (ofFixtures0F ).1; let r4 : Int := (ofFixtures0F ).2.1; let r5 : Int := (ofFixtures0F ).2.2.1; let r6 : Int := (ofFixtures0F ).2.2.2; (r3, r4, r5, r6)
theorem massData0 (b : ObV) (w : World) :
   Calls Tryz.prog 193 #[.agg (encObV b).toArray] w fun e w' => e = .returned (.agg #[.int .i64 ((massData0F b).1), .int .i64 ((massData0F b).2.1), .int .i64 ((massData0F b).2.2.1), .int .i64 ((massData0F b).2.2.2)]) ∧ Grw w w' := by
 go_enter Tryz.func193, Tryz.ntmps193
 go_upto_region 1 with (fail)
 refine wp_gen (fun xw => Grw w xw ∧ Bk xw (w.heap.size) 44 (encObV b).toArray ∧ Bk xw (w.heap.size + 1) 261 #[.int .i64 (0), .int .i64 (0), .int .i64 (0), .int .i64 (0)]) ⟨(((Grw.refl w)).alloc _).alloc _, ((Bk.new' (by simp))).alloc _, (Bk.new' (by simp))⟩ ?_
 rintro w1 ⟨hw1, hB1_0, hB1_1⟩
 have g1_0_19 : w1.cell? ⟨w.heap.size, 19, none⟩ = some (.slice (none) (0) (0)) := hB1_0.cell 19
 have g1_0_l := hB1_0.lt
 have g1_1_l := hB1_1.lt
 have HB1 := Lib.hid (show _ ∧ _ from ⟨hB1_0, hB1_1⟩); clear hB1_0 hB1_1
 go_wp2_with fail
 (go_at_call 263; refine (ofFixtures0 _).mono ?_; rintro e w2 ⟨rfl, hg2⟩)
 obtain ⟨r3, hr3⟩ : ∃ r : Int, r = (ofFixtures0F ).1 := ⟨_, rfl⟩
 obtain ⟨r4, hr4⟩ : ∃ r : Int, r = (ofFixtures0F ).2.1 := ⟨_, rfl⟩
 obtain ⟨r5, hr5⟩ : ∃ r : Int, r = (ofFixtures0F ).2.2.1 := ⟨_, rfl⟩
 obtain ⟨r6, hr6⟩ : ∃ r : Int, r = (ofFixtures0F ).2.2.2 := ⟨_, rfl⟩
 (try simp only [← hr3, ← hr4, ← hr5, ← hr6])
 have R3 := Lib.hid hr3; clear hr3
 have R4 := Lib.hid hr4; clear hr4
 have R5 := Lib.hid hr5; clear hr5
 have R6 := Lib.hid hr6; clear hr6
 obtain ⟨b0, b1⟩ := HB1.out
 have hB2_0 : Bk w2 (w.heap.size) 44 (encObV b).toArray := (b0).grw hg2
 have hB2_1 : Bk w2 (w.heap.size + 1) 261 #[.int .i64 (0), .int .i64 (0), .int .i64 (0), .int .i64 (0)] := (b1).grw hg2
 have hw2 : Grw w w2 := (hw1).trans hg2
 have hs2 : w.heap.size + 1 < w2.heap.size := by have h1 := hg2.size; have h2 := g1_1_l; (try simp at h1); omega
 have g2_0_l := hB2_0.lt
 have g2_1_0 : w2.cell? ⟨w.heap.size + 1, 0, none⟩ = some (.int .i64 (0)) := hB2_1.cell 0
 have g2_1_1 : w2.cell? ⟨w.heap.size + 1, 1, none⟩ = some (.int .i64 (0)) := hB2_1.cell 1
 have g2_1_2 : w2.cell? ⟨w.heap.size + 1, 2, none⟩ = some (.int .i64 (0)) := hB2_1.cell 2
 have g2_1_3 : w2.cell? ⟨w.heap.size + 1, 3, none⟩ = some (.int .i64 (0)) := hB2_1.cell 3
 have g2_1_f := hB2_1.frozen
 have g2_1_l := hB2_1.lt
 have HB2 := Lib.hid (show _ ∧ _ from ⟨hB2_0, hB2_1⟩); clear hB2_0 hB2_1
 clear g1_0_19 g1_0_l g1_1_l b0 b1 HB1 hw1 hg2
 go_wp2_with fail
 have hF : massData0F b = (r3, r4, r5, r6) := by unfold massData0F; first | rfl | (simp only [← R6.out, ← R5.out, ← R4.out, ← R3.out, cond_true, cond_false]; done) | (simp only [← R6.out, ← R5.out, ← R4.out, ← R3.out, cond_true, cond_false]; rfl) | simp [← R6.out, ← R5.out, ← R4.out, ← R3.out]
 refine bodyPost_ret (v := .agg #[.int .i64 (r3), .int .i64 (r4), .int .i64 (r5), .int .i64 (r6)]) (by simp [results, Tryz.results193, go_sem, g2_0_l, g2_1_0, g2_1_1, g2_1_2, g2_1_3, g2_1_f, g2_1_l]) rfl ⟨by rw [hF], ?_⟩
 exact ((((hw2).setAt (by omega) _).setAt (by omega) _).setAt (by omega) _).setAt (by omega) _
def inverseF (m cx cy ii kd : Int) (fr : Bool) : Int × Int := bif kd != 3 then ((0, 0)) else (let r5 : Int := bif decide (0 < m) then divI 65536 m else 65536; let r8 : Bool := (decide (0 < ii)) && (!fr); let r12 : Int := bif r8 then divI 65536 ii else 0; (r5, r12))
theorem inverse_any (m cx cy ii kd : Int) (fr : Bool) (w : World) :
   Calls Tryz.prog 246 #[.agg #[.int .i64 (m), .int .i64 (cx), .int .i64 (cy), .int .i64 (ii)], .int .i64 (kd), .bool (fr)] w fun e w' => e = .returned (.tuple #[.int .i64 ((inverseF m cx cy ii kd fr).1), .int .i64 ((inverseF m cx cy ii kd fr).2)]) ∧ Grw w w' := by
 go_enter Tryz.func246, Tryz.ntmps246
 cases hc1 : (kd != 3)
 · go_upto_region 4 with (fail)
   refine wp_gen (fun xw => Grw w xw ∧ Bk xw (w.heap.size) 261 #[.int .i64 (m), .int .i64 (cx), .int .i64 (cy), .int .i64 (ii)]) ⟨((Grw.refl w)).alloc _, (Bk.new' (by simp))⟩ ?_
   rintro w2 ⟨hw2, hB2_0⟩
   have g2_0_0 : w2.cell? ⟨w.heap.size, 0, none⟩ = some (.int .i64 (m)) := hB2_0.cell 0
   have g2_0_l := hB2_0.lt
   have HB2 := Lib.hid (show _ from hB2_0); clear hB2_0
   go_upto_if 14 with (fail)
   obtain ⟨r5, hr5⟩ : ∃ r : Int, r = (bif decide (0 < m) then divI 65536 m else 65536) := ⟨_, rfl⟩
   have R5 := Lib.hid hr5; clear hr5
   go_cut [8, 14] (fun s8 _s14 xw => s8 = .int .i64 (r5) ∧ Grw w xw ∧ Bk xw (w.heap.size) 261 #[.int .i64 (m), .int .i64 (cx), .int .i64 (cy), .int .i64 (ii)])
   case first =>
     cases hc3 : (decide (0 < m))
     · go_wp2_with fail
       go_meet
       case rel =>
         have er5 : r5 = (65536) := R5.out.trans (by simp [hc3])
         subst er5
         have b0 := HB2.out
         exact ⟨rfl, hw2, b0⟩
     · go_wp2_with fail
       (go_at_call 78; refine (div_any _ _ _).mono ?_; rintro e w4 ⟨rfl, hg4⟩)
       have b0 := HB2.out
       have hB4_0 : Bk w4 (w.heap.size) 261 #[.int .i64 (m), .int .i64 (cx), .int .i64 (cy), .int .i64 (ii)] := (b0).grw hg4
       have hw4 : Grw w w4 := (hw2).trans hg4
       have hs4 : w.heap.size < w4.heap.size := by have h1 := hg4.size; have h2 := g2_0_l; (try simp at h1); omega
       have g4_0_l := hB4_0.lt
       have HB4 := Lib.hid (show _ from hB4_0); clear hB4_0
       clear g2_0_0 g2_0_l b0 HB2 hw2 hg4
       go_wp2_with fail
       go_meet
       case rel =>
         have er5 : r5 = (divI 65536 m) := R5.out.trans (by simp [hc3])
         subst er5
         have b0 := HB4.out
         exact ⟨rfl, hw4, b0⟩
   case rest =>
   obtain ⟨rfl, hw6, hB6_0⟩ := hcut
   obtain ⟨w6, rfl⟩ : ∃ x, x = wc := ⟨_, rfl⟩
   have g6_0_3 : w6.cell? ⟨w.heap.size, 3, none⟩ = some (.int .i64 (ii)) := hB6_0.cell 3
   have g6_0_l := hB6_0.lt
   have HB6 := Lib.hid (show _ from hB6_0); clear hB6_0
   clear g2_0_0 g2_0_l HB2 hw2
   go_upto_region 6 with (fail)
   obtain ⟨r8, hr8⟩ : ∃ r : Bool, r = ((decide (0 < ii)) && (!fr)) := ⟨_, rfl⟩
   have R8 := Lib.hid hr8; clear hr8
   go_cut [24] (fun s24 xw => s24 = .bool (r8) ∧ w6 = xw)
   case first =>
     cases hc7 : (decide (0 < ii))
     · go_wp2_with fail
       go_meet
       case rel =>
         have er8 : r8 = (false) := R8.out.trans (by simp [hc7])
         subst er8
         exact ⟨rfl, rfl⟩
     · go_wp2_with fail
       go_meet
       case rel =>
         have er8 : r8 = (!fr) := R8.out.trans (by simp [hc7])
         subst er8
         exact ⟨rfl, rfl⟩
   case rest =>
   obtain ⟨rfl, rfl⟩ := hcut
   go_upto_if 24 with (fail)
   obtain ⟨r12, hr12⟩ : ∃ r : Int, r = (bif r8 then divI 65536 ii else 0) := ⟨_, rfl⟩
   have R12 := Lib.hid hr12; clear hr12
   go_cut [9, 24] (fun s9 _s24 xw => s9 = .int .i64 (r12) ∧ Grw w xw)
   case first =>
     cases hc10 : (r8)
     · go_wp2_with fail
       go_meet
       case rel =>
         have er12 : r12 = (0) := R12.out.trans (by simp [hc10])
         subst er12
         have b0 := HB6.out
         exact ⟨rfl, hw6⟩
     · go_wp2_with fail
       (go_at_call 78; refine (div_any _ _ _).mono ?_; rintro e w11 ⟨rfl, hg11⟩)
       have b0 := HB6.out
       have hB11_0 : Bk w11 (w.heap.size) 261 #[.int .i64 (m), .int .i64 (cx), .int .i64 (cy), .int .i64 (ii)] := (b0).grw hg11
       have hw11 : Grw w w11 := (hw6).trans hg11
       have hs11 : w.heap.size < w11.heap.size := by have h1 := hg11.size; have h2 := g6_0_l; (try simp at h1); omega
       have g11_0_l := hB11_0.lt
       have HB11 := Lib.hid (show _ from hB11_0); clear hB11_0
       clear g6_0_3 g6_0_l b0 HB6 hw6 hg11
       go_wp2_with fail
       go_meet
       case rel =>
         have er12 : r12 = (divI 65536 ii) := R12.out.trans (by simp [hc10])
         subst er12
         have b0 := HB11.out
         exact ⟨rfl, hw11⟩
   case rest =>
   obtain ⟨rfl, hw13⟩ := hcut
   obtain ⟨w13, rfl⟩ : ∃ x, x = wc := ⟨_, rfl⟩
   clear g6_0_3 g6_0_l HB6 hw6
   go_wp2_with fail
   have hF : inverseF m cx cy ii kd fr = (r5, r12) := by unfold inverseF; first | rfl | (simp only [← R12.out, ← R8.out, ← R5.out, hc1, cond_true, cond_false]; done) | (simp only [← R12.out, ← R8.out, ← R5.out, hc1, cond_true, cond_false]; rfl) | simp [← R12.out, ← R8.out, ← R5.out, hc1]
   refine bodyPost_ret (v := .tuple #[.int .i64 (r5), .int .i64 (r12)]) (by simp [results, Tryz.results246, go_sem]) rfl ⟨by rw [hF], ?_⟩
   exact hw13
 · go_wp2_with fail
   have hF : inverseF m cx cy ii kd fr = (0, 0) := by unfold inverseF; first | rfl | (simp only [hc1, cond_true, cond_false]; done) | (simp only [hc1, cond_true, cond_false]; rfl) | simp [hc1]
   refine bodyPost_ret (v := .tuple #[.int .i64 (0), .int .i64 (0)]) (by simp [results, Tryz.results246, go_sem]) rfl ⟨by rw [hF], ?_⟩
   exact ((Grw.refl w)).alloc _
def solverBody0F (b : ObV) : Int × Int × Int × Int × Int := let r3 : Int := (massData0F b).1; let r4 : Int := (massData0F b).2.1; let r5 : Int := (massData0F b).2.2.1; let r6 : Int := (massData0F b).2.2.2; let r7 : Int := (inverseF r3 r4 r5 r6 b.kd b.fr).1; let r8 : Int := (inverseF r3 r4 r5 r6 b.kd b.fr).2; (b.vx, b.vy, b.av, r7, r8)
theorem solverBody0 (b : ObV) (w : World) :
   Calls Tryz.prog 180 #[.agg (encObV b).toArray] w fun e w' => e = .returned (.agg #[.int .i64 ((solverBody0F b).1), .int .i64 ((solverBody0F b).2.1), .int .i64 ((solverBody0F b).2.2.1), .int .i64 ((solverBody0F b).2.2.2.1), .int .i64 ((solverBody0F b).2.2.2.2)]) ∧ Grw w w' := by
 go_enter Tryz.func180, Tryz.ntmps180
 go_upto_region 1 with (fail)
 refine wp_gen (fun xw => Grw w xw ∧ Bk xw (w.heap.size) 44 (encObV b).toArray ∧ Bk xw (w.heap.size + 1) 168 #[.int .i64 (0), .int .i64 (0), .int .i64 (0), .int .i64 (0), .int .i64 (0)]) ⟨(((Grw.refl w)).alloc _).alloc _, ((Bk.new' (by simp))).alloc _, (Bk.new' (by simp))⟩ ?_
 rintro w1 ⟨hw1, hB1_0, hB1_1⟩
 have g1_0_1 : w1.cell? ⟨w.heap.size, 1, none⟩ = some (.int .i64 (b.kd)) := hB1_0.cell 1
 have g1_0_15 : w1.cell? ⟨w.heap.size, 15, none⟩ = some (.bool (b.fr)) := hB1_0.cell 15
 have gA1_0_0_20 : HaveAll w1 (w.heap.size) 0 20 := hB1_0.have 0 20 (Nat.le_of_ble_eq_true rfl)
 have gC1_0_0_20 : cellsAt w1 (w.heap.size) 0 20 = (encObV b).toArray := hB1_0.cells' 0 20 _ rfl rfl
 have g1_0_l := hB1_0.lt
 have g1_1_l := hB1_1.lt
 have HB1 := Lib.hid (show _ ∧ _ from ⟨hB1_0, hB1_1⟩); clear hB1_0 hB1_1
 refine wp_region_flow (by kernel_rfl) (by kernel_rfl) ?_
 iterate 1 (refine wpQ_step (fun K hK => ?_); go_simp; refine hK _ ?_; clear hK K)
 refine wpQ_step (fun K hK => ?_); go_simp; apply Exists.intro; refine ⟨fun _ => ?_, hK _ ?_⟩; (go_at_call 193; exact (massData0 b _)); clear hK K
 iterate 4 (refine wpQ_step (fun K hK => ?_); go_simp; refine hK _ ?_; clear hK K)
 refine wpQ_step (fun K hK => ?_); go_simp; apply Exists.intro; refine ⟨fun _ => ?_, hK _ ?_⟩; (go_at_call 246; exact (inverse_any ((massData0F b).1) ((massData0F b).2.1) ((massData0F b).2.2.1) ((massData0F b).2.2.2) b.kd b.fr _)); clear hK K
 iterate 5 (refine wpQ_step (fun K hK => ?_); go_simp; refine hK _ ?_; clear hK K)
 refine wpQ_nil ?_
 intro w2 hg2
 obtain ⟨r3, hr3⟩ : ∃ r : Int, r = (massData0F b).1 := ⟨_, rfl⟩
 obtain ⟨r4, hr4⟩ : ∃ r : Int, r = (massData0F b).2.1 := ⟨_, rfl⟩
 obtain ⟨r5, hr5⟩ : ∃ r : Int, r = (massData0F b).2.2.1 := ⟨_, rfl⟩
 obtain ⟨r6, hr6⟩ : ∃ r : Int, r = (massData0F b).2.2.2 := ⟨_, rfl⟩
 (try simp only [← hr3, ← hr4, ← hr5, ← hr6])
 have R3 := Lib.hid hr3; clear hr3
 have R4 := Lib.hid hr4; clear hr4
 have R5 := Lib.hid hr5; clear hr5
 have R6 := Lib.hid hr6; clear hr6
 obtain ⟨r7, hr7⟩ : ∃ r : Int, r = (inverseF r3 r4 r5 r6 b.kd b.fr).1 := ⟨_, rfl⟩
 obtain ⟨r8, hr8⟩ : ∃ r : Int, r = (inverseF r3 r4 r5 r6 b.kd b.fr).2 := ⟨_, rfl⟩
 (try simp only [← hr7, ← hr8])
 have R7 := Lib.hid hr7; clear hr7
 have R8 := Lib.hid hr8; clear hr8
 obtain ⟨b0, b1⟩ := HB1.out
 have hB2_0 : Bk w2 (w.heap.size) 44 (encObV b).toArray := (b0).grw hg2
 have hB2_1 : Bk w2 (w.heap.size + 1) 168 #[.int .i64 (0), .int .i64 (0), .int .i64 (0), .int .i64 (0), .int .i64 (0)] := (b1).grw hg2
 have hw2 : Grw w w2 := (hw1).trans hg2
 have hs2 : w.heap.size + 1 < w2.heap.size := by have h1 := hg2.size; have h2 := g1_1_l; (try simp at h1); omega
 have g2_0_5 : w2.cell? ⟨w.heap.size, 5, none⟩ = some (.int .i64 (b.vx)) := hB2_0.cell 5
 have g2_0_6 : w2.cell? ⟨w.heap.size, 6, none⟩ = some (.int .i64 (b.vy)) := hB2_0.cell 6
 have g2_0_7 : w2.cell? ⟨w.heap.size, 7, none⟩ = some (.int .i64 (b.av)) := hB2_0.cell 7
 have g2_0_l := hB2_0.lt
 have g2_1_0 : w2.cell? ⟨w.heap.size + 1, 0, none⟩ = some (.int .i64 (0)) := hB2_1.cell 0
 have g2_1_1 : w2.cell? ⟨w.heap.size + 1, 1, none⟩ = some (.int .i64 (0)) := hB2_1.cell 1
 have g2_1_2 : w2.cell? ⟨w.heap.size + 1, 2, none⟩ = some (.int .i64 (0)) := hB2_1.cell 2
 have g2_1_3 : w2.cell? ⟨w.heap.size + 1, 3, none⟩ = some (.int .i64 (0)) := hB2_1.cell 3
 have g2_1_4 : w2.cell? ⟨w.heap.size + 1, 4, none⟩ = some (.int .i64 (0)) := hB2_1.cell 4
 have g2_1_f := hB2_1.frozen
 have g2_1_l := hB2_1.lt
 have HB2 := Lib.hid (show _ ∧ _ from ⟨hB2_0, hB2_1⟩); clear hB2_0 hB2_1
 clear g1_0_1 g1_0_15 gA1_0_0_20 gC1_0_0_20 g1_0_l g1_1_l b0 b1 HB1 hw1 hg2
 go_wp2_with fail
 have hF : solverBody0F b = (b.vx, b.vy, b.av, r7, r8) := by unfold solverBody0F; first | rfl | (simp only [← R8.out, ← R7.out, ← R6.out, ← R5.out, ← R4.out, ← R3.out, cond_true, cond_false]; done) | (simp only [← R8.out, ← R7.out, ← R6.out, ← R5.out, ← R4.out, ← R3.out, cond_true, cond_false]; rfl) | simp [← R8.out, ← R7.out, ← R6.out, ← R5.out, ← R4.out, ← R3.out]
 refine bodyPost_ret (v := .agg #[.int .i64 (b.vx), .int .i64 (b.vy), .int .i64 (b.av), .int .i64 (r7), .int .i64 (r8)]) (by simp [results, Tryz.results180, go_sem, g2_0_5, g2_0_6, g2_0_7, g2_0_l, g2_1_0, g2_1_1, g2_1_2, g2_1_3, g2_1_4, g2_1_f, g2_1_l]) rfl ⟨by rw [hF], ?_⟩
 exact (((((hw2).setAt (by omega) _).setAt (by omega) _).setAt (by omega) _).setAt (by omega) _).setAt (by omega) _
def clampVel0F (b : ObV) : Int × Int × Int × Int × Int × Int × Int × Int × Int × Int × Int × Int × Int × Int × Bool × Bool × Bool × Bool × Int := let r2 : Int := clampI b.vx (-16777216) 16777216; let r4 : Int := clampI b.vy (-16777216) 16777216; let r6 : Int := clampI b.av (-4194304) 4194304; (b.id, b.kd, b.px, b.py, b.an, r2, r4, r6, b.fx, b.fy, b.tq, b.ld, b.ad, b.gs, b.bu, b.fr, b.ns, b.sl, b.idl)
theorem clampVel0 (b : ObV) (w : World) :
   Calls Tryz.prog 109 #[.agg (encObV b).toArray] w fun e w' => e = .returned (.agg #[.int .i64 ((clampVel0F b).1), .int .i64 ((clampVel0F b).2.1), .int .i64 ((clampVel0F b).2.2.1), .int .i64 ((clampVel0F b).2.2.2.1), .int .i64 ((clampVel0F b).2.2.2.2.1), .int .i64 ((clampVel0F b).2.2.2.2.2.1), .int .i64 ((clampVel0F b).2.2.2.2.2.2.1), .int .i64 ((clampVel0F b).2.2.2.2.2.2.2.1), .int .i64 ((clampVel0F b).2.2.2.2.2.2.2.2.1), .int .i64 ((clampVel0F b).2.2.2.2.2.2.2.2.2.1), .int .i64 ((clampVel0F b).2.2.2.2.2.2.2.2.2.2.1), .int .i64 ((clampVel0F b).2.2.2.2.2.2.2.2.2.2.2.1), .int .i64 ((clampVel0F b).2.2.2.2.2.2.2.2.2.2.2.2.1), .int .i64 ((clampVel0F b).2.2.2.2.2.2.2.2.2.2.2.2.2.1), .bool ((clampVel0F b).2.2.2.2.2.2.2.2.2.2.2.2.2.2.1), .bool ((clampVel0F b).2.2.2.2.2.2.2.2.2.2.2.2.2.2.2.1), .bool ((clampVel0F b).2.2.2.2.2.2.2.2.2.2.2.2.2.2.2.2.1), .bool ((clampVel0F b).2.2.2.2.2.2.2.2.2.2.2.2.2.2.2.2.2.1), .int .i64 ((clampVel0F b).2.2.2.2.2.2.2.2.2.2.2.2.2.2.2.2.2.2), .slice (none) (0) (0)]) ∧ Grw w w' := by
 go_enter Tryz.func109, Tryz.ntmps109
 go_upto_region 1 with (fail)
 refine wp_gen (fun xw => Grw w xw ∧ Bk xw (w.heap.size) 44 (encObV b).toArray ∧ Bk xw (w.heap.size + 1) 44 #[.int .i64 (0), .int .i64 (0), .int .i64 (0), .int .i64 (0), .int .i64 (0), .int .i64 (0), .int .i64 (0), .int .i64 (0), .int .i64 (0), .int .i64 (0), .int .i64 (0), .int .i64 (0), .int .i64 (0), .int .i64 (0), .bool (false), .bool (false), .bool (false), .bool (false), .int .i64 (0), .slice (none) (0) (0)]) ⟨(((Grw.refl w)).alloc _).alloc _, ((Bk.new' (by simp))).alloc _, (Bk.new' (by simp))⟩ ?_
 rintro w1 ⟨hw1, hB1_0, hB1_1⟩
 have g1_0_5 : w1.cell? ⟨w.heap.size, 5, none⟩ = some (.int .i64 (b.vx)) := hB1_0.cell 5
 have g1_0_f := hB1_0.frozen
 have g1_0_l := hB1_0.lt
 have g1_1_l := hB1_1.lt
 have HB1 := Lib.hid (show _ ∧ _ from ⟨hB1_0, hB1_1⟩); clear hB1_0 hB1_1
 go_wp2_with fail
 (go_at_call 149; refine (clamp_any _ _ _ _).mono ?_; rintro e w1 ⟨rfl, rfl⟩)
 obtain ⟨r2, hr2⟩ : ∃ r : Int, r = clampI b.vx (-16777216) 16777216 := ⟨_, rfl⟩
 (try simp only [← hr2])
 have R2 := Lib.hid hr2; clear hr2
 obtain ⟨b0, b1⟩ := HB1.out
 go_upto_region 2 with (fail)
 refine wp_gen (fun xw => Grw w xw ∧ Bk xw (w.heap.size) 44 #[.int .i64 (b.id), .int .i64 (b.kd), .int .i64 (b.px), .int .i64 (b.py), .int .i64 (b.an), .int .i64 (r2), .int .i64 (b.vy), .int .i64 (b.av), .int .i64 (b.fx), .int .i64 (b.fy), .int .i64 (b.tq), .int .i64 (b.ld), .int .i64 (b.ad), .int .i64 (b.gs), .bool (b.bu), .bool (b.fr), .bool (b.ns), .bool (b.sl), .int .i64 (b.idl), .slice (none) (0) (0)] ∧ Bk xw (w.heap.size + 1) 44 #[.int .i64 (0), .int .i64 (0), .int .i64 (0), .int .i64 (0), .int .i64 (0), .int .i64 (0), .int .i64 (0), .int .i64 (0), .int .i64 (0), .int .i64 (0), .int .i64 (0), .int .i64 (0), .int .i64 (0), .int .i64 (0), .bool (false), .bool (false), .bool (false), .bool (false), .int .i64 (0), .slice (none) (0) (0)]) ⟨(hw1).setAt (by omega) _, (b0).set' rfl, (b1).far (by omega) _⟩ ?_
 rintro w3 ⟨hw3, hB3_0, hB3_1⟩
 have g3_0_6 : w3.cell? ⟨w.heap.size, 6, none⟩ = some (.int .i64 (b.vy)) := hB3_0.cell 6
 have g3_0_f := hB3_0.frozen
 have g3_0_l := hB3_0.lt
 have g3_1_l := hB3_1.lt
 have HB3 := Lib.hid (show _ ∧ _ from ⟨hB3_0, hB3_1⟩); clear hB3_0 hB3_1
 clear g1_0_5 g1_0_f g1_0_l g1_1_l b0 b1 HB1 hw1
 go_wp2_with fail
 (go_at_call 149; refine (clamp_any _ _ _ _).mono ?_; rintro e w1 ⟨rfl, rfl⟩)
 obtain ⟨r4, hr4⟩ : ∃ r : Int, r = clampI b.vy (-16777216) 16777216 := ⟨_, rfl⟩
 (try simp only [← hr4])
 have R4 := Lib.hid hr4; clear hr4
 obtain ⟨b0, b1⟩ := HB3.out
 go_upto_region 3 with (fail)
 refine wp_gen (fun xw => Grw w xw ∧ Bk xw (w.heap.size) 44 #[.int .i64 (b.id), .int .i64 (b.kd), .int .i64 (b.px), .int .i64 (b.py), .int .i64 (b.an), .int .i64 (r2), .int .i64 (r4), .int .i64 (b.av), .int .i64 (b.fx), .int .i64 (b.fy), .int .i64 (b.tq), .int .i64 (b.ld), .int .i64 (b.ad), .int .i64 (b.gs), .bool (b.bu), .bool (b.fr), .bool (b.ns), .bool (b.sl), .int .i64 (b.idl), .slice (none) (0) (0)] ∧ Bk xw (w.heap.size + 1) 44 #[.int .i64 (0), .int .i64 (0), .int .i64 (0), .int .i64 (0), .int .i64 (0), .int .i64 (0), .int .i64 (0), .int .i64 (0), .int .i64 (0), .int .i64 (0), .int .i64 (0), .int .i64 (0), .int .i64 (0), .int .i64 (0), .bool (false), .bool (false), .bool (false), .bool (false), .int .i64 (0), .slice (none) (0) (0)]) ⟨(hw3).setAt (by omega) _, (b0).set' rfl, (b1).far (by omega) _⟩ ?_
 rintro w5 ⟨hw5, hB5_0, hB5_1⟩
 have g5_0_7 : w5.cell? ⟨w.heap.size, 7, none⟩ = some (.int .i64 (b.av)) := hB5_0.cell 7
 have g5_0_f := hB5_0.frozen
 have g5_0_l := hB5_0.lt
 have g5_1_l := hB5_1.lt
 have HB5 := Lib.hid (show _ ∧ _ from ⟨hB5_0, hB5_1⟩); clear hB5_0 hB5_1
 clear g3_0_6 g3_0_f g3_0_l g3_1_l b0 b1 HB3 hw3
 go_wp2_with fail
 (go_at_call 149; refine (clamp_any _ _ _ _).mono ?_; rintro e w1 ⟨rfl, rfl⟩)
 obtain ⟨r6, hr6⟩ : ∃ r : Int, r = clampI b.av (-4194304) 4194304 := ⟨_, rfl⟩
 (try simp only [← hr6])
 have R6 := Lib.hid hr6; clear hr6
 obtain ⟨b0, b1⟩ := HB5.out
 go_upto_region 4 with (fail)
 refine wp_gen (fun xw => Grw w xw ∧ Bk xw (w.heap.size) 44 #[.int .i64 (b.id), .int .i64 (b.kd), .int .i64 (b.px), .int .i64 (b.py), .int .i64 (b.an), .int .i64 (r2), .int .i64 (r4), .int .i64 (r6), .int .i64 (b.fx), .int .i64 (b.fy), .int .i64 (b.tq), .int .i64 (b.ld), .int .i64 (b.ad), .int .i64 (b.gs), .bool (b.bu), .bool (b.fr), .bool (b.ns), .bool (b.sl), .int .i64 (b.idl), .slice (none) (0) (0)] ∧ Bk xw (w.heap.size + 1) 44 #[.int .i64 (0), .int .i64 (0), .int .i64 (0), .int .i64 (0), .int .i64 (0), .int .i64 (0), .int .i64 (0), .int .i64 (0), .int .i64 (0), .int .i64 (0), .int .i64 (0), .int .i64 (0), .int .i64 (0), .int .i64 (0), .bool (false), .bool (false), .bool (false), .bool (false), .int .i64 (0), .slice (none) (0) (0)]) ⟨(hw5).setAt (by omega) _, (b0).set' rfl, (b1).far (by omega) _⟩ ?_
 rintro w7 ⟨hw7, hB7_0, hB7_1⟩
 have gA7_0_0_20 : HaveAll w7 (w.heap.size) 0 20 := hB7_0.have 0 20 (Nat.le_of_ble_eq_true rfl)
 have gC7_0_0_20 : cellsAt w7 (w.heap.size) 0 20 = #[.int .i64 (b.id), .int .i64 (b.kd), .int .i64 (b.px), .int .i64 (b.py), .int .i64 (b.an), .int .i64 (r2), .int .i64 (r4), .int .i64 (r6), .int .i64 (b.fx), .int .i64 (b.fy), .int .i64 (b.tq), .int .i64 (b.ld), .int .i64 (b.ad), .int .i64 (b.gs), .bool (b.bu), .bool (b.fr), .bool (b.ns), .bool (b.sl), .int .i64 (b.idl), .slice (none) (0) (0)] := hB7_0.cells' 0 20 _ rfl rfl
 have g7_0_l := hB7_0.lt
 have gT7_1 : There w7 (w.heap.size + 1) 0 20 := hB7_1.there 0 20 (Nat.le_of_ble_eq_true rfl)
 have g7_1_l := hB7_1.lt
 have HB7 := Lib.hid (show _ ∧ _ from ⟨hB7_0, hB7_1⟩); clear hB7_0 hB7_1
 clear g5_0_7 g5_0_f g5_0_l g5_1_l b0 b1 HB5 hw5
 go_wp2_with fail
 have hF : clampVel0F b = (b.id, b.kd, b.px, b.py, b.an, r2, r4, r6, b.fx, b.fy, b.tq, b.ld, b.ad, b.gs, b.bu, b.fr, b.ns, b.sl, b.idl) := by unfold clampVel0F; first | rfl | (simp only [← R6.out, ← R4.out, ← R2.out, cond_true, cond_false]; done) | (simp only [← R6.out, ← R4.out, ← R2.out, cond_true, cond_false]; rfl) | simp [← R6.out, ← R4.out, ← R2.out]
 obtain ⟨b0, b1⟩ := HB7.out
 have hK44 : Bk _ (w.heap.size + 1) 44 #[.int .i64 (b.id), .int .i64 (b.kd), .int .i64 (b.px), .int .i64 (b.py), .int .i64 (b.an), .int .i64 (r2), .int .i64 (r4), .int .i64 (r6), .int .i64 (b.fx), .int .i64 (b.fy), .int .i64 (b.tq), .int .i64 (b.ld), .int .i64 (b.ad), .int .i64 (b.gs), .bool (b.bu), .bool (b.fr), .bool (b.ns), .bool (b.sl), .int .i64 (b.idl), .slice (none) (0) (0)] := (b1).setAll' (l := [.int .i64 (b.id), .int .i64 (b.kd), .int .i64 (b.px), .int .i64 (b.py), .int .i64 (b.an), .int .i64 (r2), .int .i64 (r4), .int .i64 (r6), .int .i64 (b.fx), .int .i64 (b.fy), .int .i64 (b.tq), .int .i64 (b.ld), .int .i64 (b.ad), .int .i64 (b.gs), .bool (b.bu), .bool (b.fr), .bool (b.ns), .bool (b.sl), .int .i64 (b.idl), .slice (none) (0) (0)]) rfl rfl
 refine bodyPost_ret (v := .agg #[.int .i64 (b.id), .int .i64 (b.kd), .int .i64 (b.px), .int .i64 (b.py), .int .i64 (b.an), .int .i64 (r2), .int .i64 (r4), .int .i64 (r6), .int .i64 (b.fx), .int .i64 (b.fy), .int .i64 (b.tq), .int .i64 (b.ld), .int .i64 (b.ad), .int .i64 (b.gs), .bool (b.bu), .bool (b.fr), .bool (b.ns), .bool (b.sl), .int .i64 (b.idl), .slice (none) (0) (0)]) (results_cell_row Tryz.results109 _ _ _ _ _ _ _ rfl hK44 Tryz.underlying44 rfl (by kernel_rfl)) rfl ⟨by rw [hF], ?_⟩
 exact (hw7).setCells (by omega) _
def velocity0F (b : ObV) (ts gx gy it ss : Int) : Int × Int × Int × Int × Int × Int × Int × Int × Int × Int × Int × Int × Int × Int × Bool × Bool × Bool × Bool × Int := let r3 : Bool := (b.kd != 3) || b.sl; bif r3 then ((b.id, b.kd, b.px, b.py, b.an, b.vx, b.vy, b.av, b.fx, b.fy, b.tq, b.ld, b.ad, b.gs, b.bu, b.fr, b.ns, b.sl, b.idl)) else (let r7 : Int := (solverBody0F b).1; let r8 : Int := (solverBody0F b).2.1; let r9 : Int := (solverBody0F b).2.2.1; let r10 : Int := (solverBody0F b).2.2.2.1; let r11 : Int := (solverBody0F b).2.2.2.2; let r14 : Int := mulI gx b.gs; let r15 : Int := mulI gy b.gs; let r16 : Int := mulI r14 ts; let r17 : Int := mulI r15 ts; let r18 : Int := addI b.vx r16; let r19 : Int := addI b.vy r17; let r22 : Int := mulI b.fx r10; let r23 : Int := mulI b.fy r10; let r24 : Int := mulI r22 ts; let r25 : Int := mulI r23 ts; let r26 : Int := addI r18 r24; let r27 : Int := addI r19 r25; let r30 : Int := mulI b.ld ts; let r31 : Int := mulI r26 r30; let r32 : Int := mulI r27 r30; let r33 : Int := subI r26 r31; let r34 : Int := subI r27 r32; let r37 : Int := mulI b.tq r11; let r38 : Int := mulI r37 ts; let r39 : Int := addI b.av r38; let r41 : Int := mulI b.ad ts; let r43 : Int := mulI r39 r41; let r44 : Int := subI r39 r43; let r47 : Int := bif b.fr then 0 else r44; let r50 : Int := (clampVel0F (ObV.mk b.id b.kd b.px b.py b.an r33 r34 r47 b.fx b.fy b.tq b.ld b.ad b.gs b.bu b.fr b.ns b.sl b.idl)).1; let r51 : Int := (clampVel0F (ObV.mk b.id b.kd b.px b.py b.an r33 r34 r47 b.fx b.fy b.tq b.ld b.ad b.gs b.bu b.fr b.ns b.sl b.idl)).2.1; let r52 : Int := (clampVel0F (ObV.mk b.id b.kd b.px b.py b.an r33 r34 r47 b.fx b.fy b.tq b.ld b.ad b.gs b.bu b.fr b.ns b.sl b.idl)).2.2.1; let r53 : Int := (clampVel0F (ObV.mk b.id b.kd b.px b.py b.an r33 r34 r47 b.fx b.fy b.tq b.ld b.ad b.gs b.bu b.fr b.ns b.sl b.idl)).2.2.2.1; let r54 : Int := (clampVel0F (ObV.mk b.id b.kd b.px b.py b.an r33 r34 r47 b.fx b.fy b.tq b.ld b.ad b.gs b.bu b.fr b.ns b.sl b.idl)).2.2.2.2.1; let r55 : Int := (clampVel0F (ObV.mk b.id b.kd b.px b.py b.an r33 r34 r47 b.fx b.fy b.tq b.ld b.ad b.gs b.bu b.fr b.ns b.sl b.idl)).2.2.2.2.2.1; let r56 : Int := (clampVel0F (ObV.mk b.id b.kd b.px b.py b.an r33 r34 r47 b.fx b.fy b.tq b.ld b.ad b.gs b.bu b.fr b.ns b.sl b.idl)).2.2.2.2.2.2.1; let r57 : Int := (clampVel0F (ObV.mk b.id b.kd b.px b.py b.an r33 r34 r47 b.fx b.fy b.tq b.ld b.ad b.gs b.bu b.fr b.ns b.sl b.idl)).2.2.2.2.2.2.2.1; let r58 : Int := (clampVel0F (ObV.mk b.id b.kd b.px b.py b.an r33 r34 r47 b.fx b.fy b.tq b.ld b.ad b.gs b.bu b.fr b.ns b.sl b.idl)).2.2.2.2.2.2.2.2.1; let r59 : Int := (clampVel0F (ObV.mk b.id b.kd b.px b.py b.an r33 r34 r47 b.fx b.fy b.tq b.ld b.ad b.gs b.bu b.fr b.ns b.sl b.idl)).2.2.2.2.2.2.2.2.2.1; let r60 : Int := (clampVel0F (ObV.mk b.id b.kd b.px b.py b.an r33 r34 r47 b.fx b.fy b.tq b.ld b.ad b.gs b.bu b.fr b.ns b.sl b.idl)).2.2.2.2.2.2.2.2.2.2.1; let r61 : Int := (clampVel0F (ObV.mk b.id b.kd b.px b.py b.an r33 r34 r47 b.fx b.fy b.tq b.ld b.ad b.gs b.bu b.fr b.ns b.sl b.idl)).2.2.2.2.2.2.2.2.2.2.2.1; let r62 : Int := (clampVel0F (ObV.mk b.id b.kd b.px b.py b.an r33 r34 r47 b.fx b.fy b.tq b.ld b.ad b.gs b.bu b.fr b.ns b.sl b.idl)).2.2.2.2.2.2.2.2.2.2.2.2.1; let r63 : Int := (clampVel0F (ObV.mk b.id b.kd b.px b.py b.an r33 r34 r47 b.fx b.fy b.tq b.ld b.ad b.gs b.bu b.fr b.ns b.sl b.idl)).2.2.2.2.2.2.2.2.2.2.2.2.2.1; let r64 : Bool := (clampVel0F (ObV.mk b.id b.kd b.px b.py b.an r33 r34 r47 b.fx b.fy b.tq b.ld b.ad b.gs b.bu b.fr b.ns b.sl b.idl)).2.2.2.2.2.2.2.2.2.2.2.2.2.2.1; let r65 : Bool := (clampVel0F (ObV.mk b.id b.kd b.px b.py b.an r33 r34 r47 b.fx b.fy b.tq b.ld b.ad b.gs b.bu b.fr b.ns b.sl b.idl)).2.2.2.2.2.2.2.2.2.2.2.2.2.2.2.1; let r66 : Bool := (clampVel0F (ObV.mk b.id b.kd b.px b.py b.an r33 r34 r47 b.fx b.fy b.tq b.ld b.ad b.gs b.bu b.fr b.ns b.sl b.idl)).2.2.2.2.2.2.2.2.2.2.2.2.2.2.2.2.1; let r67 : Bool := (clampVel0F (ObV.mk b.id b.kd b.px b.py b.an r33 r34 r47 b.fx b.fy b.tq b.ld b.ad b.gs b.bu b.fr b.ns b.sl b.idl)).2.2.2.2.2.2.2.2.2.2.2.2.2.2.2.2.2.1; let r68 : Int := (clampVel0F (ObV.mk b.id b.kd b.px b.py b.an r33 r34 r47 b.fx b.fy b.tq b.ld b.ad b.gs b.bu b.fr b.ns b.sl b.idl)).2.2.2.2.2.2.2.2.2.2.2.2.2.2.2.2.2.2; (r50, r51, r52, r53, r54, r55, r56, r57, r58, r59, r60, r61, r62, r63, r64, r65, r66, r67, r68))
theorem velocity0 (b : ObV) (ts gx gy it ss : Int) (w : World) :
   Calls Tryz.prog 179 #[.agg (encObV b).toArray, .agg #[.int .i64 (ts), .int .i64 (gx), .int .i64 (gy), .int .i64 (it), .int .i64 (ss)]] w fun e w' => e = .returned (.agg #[.int .i64 ((velocity0F b ts gx gy it ss).1), .int .i64 ((velocity0F b ts gx gy it ss).2.1), .int .i64 ((velocity0F b ts gx gy it ss).2.2.1), .int .i64 ((velocity0F b ts gx gy it ss).2.2.2.1), .int .i64 ((velocity0F b ts gx gy it ss).2.2.2.2.1), .int .i64 ((velocity0F b ts gx gy it ss).2.2.2.2.2.1), .int .i64 ((velocity0F b ts gx gy it ss).2.2.2.2.2.2.1), .int .i64 ((velocity0F b ts gx gy it ss).2.2.2.2.2.2.2.1), .int .i64 ((velocity0F b ts gx gy it ss).2.2.2.2.2.2.2.2.1), .int .i64 ((velocity0F b ts gx gy it ss).2.2.2.2.2.2.2.2.2.1), .int .i64 ((velocity0F b ts gx gy it ss).2.2.2.2.2.2.2.2.2.2.1), .int .i64 ((velocity0F b ts gx gy it ss).2.2.2.2.2.2.2.2.2.2.2.1), .int .i64 ((velocity0F b ts gx gy it ss).2.2.2.2.2.2.2.2.2.2.2.2.1), .int .i64 ((velocity0F b ts gx gy it ss).2.2.2.2.2.2.2.2.2.2.2.2.2.1), .bool ((velocity0F b ts gx gy it ss).2.2.2.2.2.2.2.2.2.2.2.2.2.2.1), .bool ((velocity0F b ts gx gy it ss).2.2.2.2.2.2.2.2.2.2.2.2.2.2.2.1), .bool ((velocity0F b ts gx gy it ss).2.2.2.2.2.2.2.2.2.2.2.2.2.2.2.2.1), .bool ((velocity0F b ts gx gy it ss).2.2.2.2.2.2.2.2.2.2.2.2.2.2.2.2.2.1), .int .i64 ((velocity0F b ts gx gy it ss).2.2.2.2.2.2.2.2.2.2.2.2.2.2.2.2.2.2), .slice (none) (0) (0)]) ∧ Grw w w' := by
 go_enter Tryz.func179, Tryz.ntmps179
 go_upto_region 1 with (fail)
 refine wp_gen (fun xw => Grw w xw ∧ Bk xw (w.heap.size) 44 (encObV b).toArray ∧ Bk xw (w.heap.size + 1) 25 #[.int .i64 (ts), .int .i64 (gx), .int .i64 (gy), .int .i64 (it), .int .i64 (ss)] ∧ Bk xw (w.heap.size + 1 + 1) 44 #[.int .i64 (0), .int .i64 (0), .int .i64 (0), .int .i64 (0), .int .i64 (0), .int .i64 (0), .int .i64 (0), .int .i64 (0), .int .i64 (0), .int .i64 (0), .int .i64 (0), .int .i64 (0), .int .i64 (0), .int .i64 (0), .bool (false), .bool (false), .bool (false), .bool (false), .int .i64 (0), .slice (none) (0) (0)]) ⟨((((Grw.refl w)).alloc _).alloc _).alloc _, (((Bk.new' (by simp))).alloc _).alloc _, ((Bk.new' (by simp))).alloc _, (Bk.new' (by simp))⟩ ?_
 rintro w1 ⟨hw1, hB1_0, hB1_1, hB1_2⟩
 have g1_0_1 : w1.cell? ⟨w.heap.size, 1, none⟩ = some (.int .i64 (b.kd)) := hB1_0.cell 1
 have g1_0_17 : w1.cell? ⟨w.heap.size, 17, none⟩ = some (.bool (b.sl)) := hB1_0.cell 17
 have gA1_0_0_20 : HaveAll w1 (w.heap.size) 0 20 := hB1_0.have 0 20 (Nat.le_of_ble_eq_true rfl)
 have gC1_0_0_20 : cellsAt w1 (w.heap.size) 0 20 = (encObV b).toArray := hB1_0.cells' 0 20 _ rfl rfl
 have g1_0_l := hB1_0.lt
 have g1_1_0 : w1.cell? ⟨w.heap.size + 1, 0, none⟩ = some (.int .i64 (ts)) := hB1_1.cell 0
 have g1_1_l := hB1_1.lt
 have gT1_2 : There w1 (w.heap.size + 1 + 1) 0 20 := hB1_2.there 0 20 (Nat.le_of_ble_eq_true rfl)
 have g1_2_l := hB1_2.lt
 have HB1 := Lib.hid (show _ ∧ _ ∧ _ from ⟨hB1_0, hB1_1, hB1_2⟩); clear hB1_0 hB1_1 hB1_2
 obtain ⟨r3, hr3⟩ : ∃ r : Bool, r = ((b.kd != 3) || b.sl) := ⟨_, rfl⟩
 have R3 := Lib.hid hr3; clear hr3
 go_cut [15] (fun s15 xw => s15 = .bool (r3) ∧ w1 = xw)
 case first =>
   cases hc2 : (b.kd != 3)
   · go_wp2_with fail
     go_meet
     case rel =>
       have er3 : r3 = (b.sl) := R3.out.trans (by simp [hc2])
       subst er3
       exact ⟨rfl, rfl⟩
   · go_wp2_with fail
     go_meet
     case rel =>
       have er3 : r3 = (true) := R3.out.trans (by simp [hc2])
       subst er3
       exact ⟨rfl, rfl⟩
 case rest =>
 obtain ⟨rfl, rfl⟩ := hcut
 cases hc5 : (r3)
 · go_wp2_with fail
   (go_at_call 180; refine (solverBody0 b _).mono ?_; rintro e w6 ⟨rfl, hg6⟩)
   obtain ⟨r7, hr7⟩ : ∃ r : Int, r = (solverBody0F b).1 := ⟨_, rfl⟩
   obtain ⟨r8, hr8⟩ : ∃ r : Int, r = (solverBody0F b).2.1 := ⟨_, rfl⟩
   obtain ⟨r9, hr9⟩ : ∃ r : Int, r = (solverBody0F b).2.2.1 := ⟨_, rfl⟩
   obtain ⟨r10, hr10⟩ : ∃ r : Int, r = (solverBody0F b).2.2.2.1 := ⟨_, rfl⟩
   obtain ⟨r11, hr11⟩ : ∃ r : Int, r = (solverBody0F b).2.2.2.2 := ⟨_, rfl⟩
   (try simp only [← hr7, ← hr8, ← hr9, ← hr10, ← hr11])
   have R7 := Lib.hid hr7; clear hr7
   have R8 := Lib.hid hr8; clear hr8
   have R9 := Lib.hid hr9; clear hr9
   have R10 := Lib.hid hr10; clear hr10
   have R11 := Lib.hid hr11; clear hr11
   obtain ⟨b0, b1, b2⟩ := HB1.out
   have hB6_0 : Bk w6 (w.heap.size) 44 (encObV b).toArray := (b0).grw hg6
   have hB6_1 : Bk w6 (w.heap.size + 1) 25 #[.int .i64 (ts), .int .i64 (gx), .int .i64 (gy), .int .i64 (it), .int .i64 (ss)] := (b1).grw hg6
   have hB6_2 : Bk w6 (w.heap.size + 1 + 1) 44 #[.int .i64 (0), .int .i64 (0), .int .i64 (0), .int .i64 (0), .int .i64 (0), .int .i64 (0), .int .i64 (0), .int .i64 (0), .int .i64 (0), .int .i64 (0), .int .i64 (0), .int .i64 (0), .int .i64 (0), .int .i64 (0), .bool (false), .bool (false), .bool (false), .bool (false), .int .i64 (0), .slice (none) (0) (0)] := (b2).grw hg6
   have hw6 : Grw w w6 := (hw1).trans hg6
   have hs6 : w.heap.size + 1 + 1 < w6.heap.size := by have h1 := hg6.size; have h2 := g1_2_l; (try simp at h1); omega
   have g6_0_l := hB6_0.lt
   have g6_1_l := hB6_1.lt
   have g6_2_l := hB6_2.lt
   have HB6 := Lib.hid (show _ ∧ _ ∧ _ from ⟨hB6_0, hB6_1, hB6_2⟩); clear hB6_0 hB6_1 hB6_2
   clear g1_0_1 g1_0_17 gA1_0_0_20 gC1_0_0_20 g1_0_l g1_1_0 g1_1_l gT1_2 g1_2_l b0 b1 b2 HB1 hw1 hg6
   obtain ⟨b0, b1, b2⟩ := HB6.out
   go_upto_region 5 with (fail)
   refine wp_gen (fun xw => Grw w xw ∧ Bk xw (w.heap.size) 44 (encObV b).toArray ∧ Bk xw (w.heap.size + 1) 25 #[.int .i64 (ts), .int .i64 (gx), .int .i64 (gy), .int .i64 (it), .int .i64 (ss)] ∧ Bk xw (w.heap.size + 1 + 1) 44 #[.int .i64 (0), .int .i64 (0), .int .i64 (0), .int .i64 (0), .int .i64 (0), .int .i64 (0), .int .i64 (0), .int .i64 (0), .int .i64 (0), .int .i64 (0), .int .i64 (0), .int .i64 (0), .int .i64 (0), .int .i64 (0), .bool (false), .bool (false), .bool (false), .bool (false), .int .i64 (0), .slice (none) (0) (0)] ∧ Bk xw (w6.heap.size) 168 #[.int .i64 (r7), .int .i64 (r8), .int .i64 (r9), .int .i64 (r10), .int .i64 (r11)]) ⟨(hw6).alloc _, (b0).alloc _, (b1).alloc _, (b2).alloc _, (Bk.new' (by simp))⟩ ?_
   rintro w12 ⟨hw12, hB12_0, hB12_1, hB12_2, hB12_3⟩
   have ho12 : w.heap.size + 1 + 1 < w6.heap.size := g6_2_l
   have g12_0_5 : w12.cell? ⟨w.heap.size, 5, none⟩ = some (.int .i64 (b.vx)) := hB12_0.cell 5
   have g12_0_6 : w12.cell? ⟨w.heap.size, 6, none⟩ = some (.int .i64 (b.vy)) := hB12_0.cell 6
   have g12_0_13 : w12.cell? ⟨w.heap.size, 13, none⟩ = some (.int .i64 (b.gs)) := hB12_0.cell 13
   have g12_0_l := hB12_0.lt
   have g12_1_1 : w12.cell? ⟨w.heap.size + 1, 1, none⟩ = some (.int .i64 (gx)) := hB12_1.cell 1
   have g12_1_2 : w12.cell? ⟨w.heap.size + 1, 2, none⟩ = some (.int .i64 (gy)) := hB12_1.cell 2
   have g12_1_l := hB12_1.lt
   have g12_2_l := hB12_2.lt
   have g12_3_l := hB12_3.lt
   have HB12 := Lib.hid (show _ ∧ _ ∧ _ ∧ _ from ⟨hB12_0, hB12_1, hB12_2, hB12_3⟩); clear hB12_0 hB12_1 hB12_2 hB12_3
   clear g6_0_l g6_1_l g6_2_l b0 b1 b2 HB6 hw6
   refine wp_region_flowB 10 (by kernel_rfl) (by kernel_rfl) ?_
   simp only [tD]
   iterate 6 (refine wpQ_step (fun K hK => ?_); go_simp; refine hK _ ?_; clear hK K)
   refine wpQ_step (fun K hK => ?_); go_simp; apply Exists.intro; refine ⟨fun _ => ?_, hK _ ?_⟩; (go_at_call 74; exact (vscale_any _ _ _ _)); clear hK K
   iterate 1 (refine wpQ_step (fun K hK => ?_); go_simp; refine hK _ ?_; clear hK K)
   refine wpQ_step (fun K hK => ?_); go_simp; apply Exists.intro; refine ⟨fun _ => ?_, hK _ ?_⟩; (go_at_call 74; exact (vscale_any _ _ _ _)); clear hK K
   refine wpQ_step (fun K hK => ?_); go_simp; apply Exists.intro; refine ⟨fun _ => ?_, hK _ ?_⟩; (go_at_call 76; exact (vadd_any _ _ _ _ _)); clear hK K
   refine wpQ_nil ?_
   intro w13 hg13
   obtain ⟨r14, hr14⟩ : ∃ r : Int, r = mulI gx b.gs := ⟨_, rfl⟩
   obtain ⟨r15, hr15⟩ : ∃ r : Int, r = mulI gy b.gs := ⟨_, rfl⟩
   (try simp only [← hr14, ← hr15])
   have R14 := Lib.hid hr14; clear hr14
   have R15 := Lib.hid hr15; clear hr15
   obtain ⟨r16, hr16⟩ : ∃ r : Int, r = mulI r14 ts := ⟨_, rfl⟩
   obtain ⟨r17, hr17⟩ : ∃ r : Int, r = mulI r15 ts := ⟨_, rfl⟩
   (try simp only [← hr16, ← hr17])
   have R16 := Lib.hid hr16; clear hr16
   have R17 := Lib.hid hr17; clear hr17
   obtain ⟨r18, hr18⟩ : ∃ r : Int, r = addI b.vx r16 := ⟨_, rfl⟩
   obtain ⟨r19, hr19⟩ : ∃ r : Int, r = addI b.vy r17 := ⟨_, rfl⟩
   (try simp only [← hr18, ← hr19])
   have R18 := Lib.hid hr18; clear hr18
   have R19 := Lib.hid hr19; clear hr19
   refine okList_step (fun w13_0 hw13_0 K hK => ?_)
   have hAw13_0 : w12.heap.size ≤ w13_0.heap.size := (show Grw w12 w13_0 by (repeat with_reducible first | exact .refl _ | assumption | refine .setAt ?_ (by first | omega | simp <;> omega) _ | refine .setCells ?_ (by first | omega | simp <;> omega) _ | refine .alloc ?_ _ | refine .drewN ?_ _ | refine .drew ?_ | refine .trans ?_ (by assumption))).size
   go_simp; refine hK _ _ (by (repeat with_reducible first | exact .refl _ | assumption | refine .setAt ?_ (by first | omega | simp <;> omega) _ | refine .setCells ?_ (by first | omega | simp <;> omega) _ | refine .alloc ?_ _ | refine .drewN ?_ _ | refine .drew ?_ | refine .trans ?_ (by assumption))) ?_; clear hK K
   have hN13_0 := Bk.new w13_0 23 #[.int .i64 (0), .int .i64 (0)]
   refine okList_step (fun w13_1 hw13_1 K hK => ?_)
   replace hN13_0 := hN13_0.grw hw13_1
   have gn_0 : w13_1.cell? ⟨w13_0.heap.size, 0, none⟩ = some (.int .i64 (0)) := hN13_0.cell 0
   have gn_1 : w13_1.cell? ⟨w13_0.heap.size, 1, none⟩ = some (.int .i64 (0)) := hN13_0.cell 1
   have gn_f := hN13_0.frozen
   go_simp; refine hK _ _ (by (repeat with_reducible first | exact .refl _ | assumption | refine .setAt ?_ (by first | omega | simp <;> omega) _ | refine .setCells ?_ (by first | omega | simp <;> omega) _ | refine .alloc ?_ _ | refine .drewN ?_ _ | refine .drew ?_ | refine .trans ?_ (by assumption))) ?_; clear hK K gn_f gn_0 gn_1
   replace hN13_0 := hN13_0.set 0 (.int .i64 (r18))
   replace hN13_0 := hN13_0.set 1 (.int .i64 (r19))
   refine okList_nil (fun w20 h20 => ?_); go_simp
   have hN13_0 : Bk w20 (w13_0.heap.size) 23 #[.int .i64 (r18), .int .i64 (r19)] := hN13_0.grw h20
   have hg20 : Grw w12 w20 := by (repeat with_reducible first | exact .refl _ | assumption | refine .setAt ?_ (by first | omega | simp <;> omega) _ | refine .setCells ?_ (by first | omega | simp <;> omega) _ | refine .alloc ?_ _ | refine .drewN ?_ _ | refine .drew ?_ | refine .trans ?_ (by assumption))
   have hsz13_0 : w6.heap.size < w13_0.heap.size := by (have h1 : Grw w12 w13_0 := by (repeat with_reducible first | exact .refl _ | assumption | refine .setAt ?_ (by first | omega | simp <;> omega) _ | refine .setCells ?_ (by first | omega | simp <;> omega) _ | refine .alloc ?_ _ | refine .drewN ?_ _ | refine .drew ?_ | refine .trans ?_ (by assumption))); (have h2 := h1.size); (have h3 := g12_3_l); omega
   obtain ⟨b0, b1, b2, b3⟩ := HB12.out
   have hB20_0 : Bk w20 (w.heap.size) 44 (encObV b).toArray := (b0).grw hg20
   have hB20_1 : Bk w20 (w.heap.size + 1) 25 #[.int .i64 (ts), .int .i64 (gx), .int .i64 (gy), .int .i64 (it), .int .i64 (ss)] := (b1).grw hg20
   have hB20_2 : Bk w20 (w.heap.size + 1 + 1) 44 #[.int .i64 (0), .int .i64 (0), .int .i64 (0), .int .i64 (0), .int .i64 (0), .int .i64 (0), .int .i64 (0), .int .i64 (0), .int .i64 (0), .int .i64 (0), .int .i64 (0), .int .i64 (0), .int .i64 (0), .int .i64 (0), .bool (false), .bool (false), .bool (false), .bool (false), .int .i64 (0), .slice (none) (0) (0)] := (b2).grw hg20
   have hB20_3 : Bk w20 (w6.heap.size) 168 #[.int .i64 (r7), .int .i64 (r8), .int .i64 (r9), .int .i64 (r10), .int .i64 (r11)] := (b3).grw hg20
   have hB20_4 : Bk w20 (w13_0.heap.size) 23 #[.int .i64 (r18), .int .i64 (r19)] := hN13_0
   have hw20 : Grw w w20 := (hw12).trans hg20
   have hs20 : w6.heap.size < w20.heap.size := by have h1 := hg20.size; have h2 := g12_3_l; (try simp at h1); omega
   have g20_0_8 : w20.cell? ⟨w.heap.size, 8, none⟩ = some (.int .i64 (b.fx)) := hB20_0.cell 8
   have g20_0_9 : w20.cell? ⟨w.heap.size, 9, none⟩ = some (.int .i64 (b.fy)) := hB20_0.cell 9
   have g20_0_l := hB20_0.lt
   have g20_1_l := hB20_1.lt
   have g20_2_l := hB20_2.lt
   have g20_3_3 : w20.cell? ⟨w6.heap.size, 3, none⟩ = some (.int .i64 (r10)) := hB20_3.cell 3
   have g20_3_l := hB20_3.lt
   have g20_4_0 : w20.cell? ⟨w13_0.heap.size, 0, none⟩ = some (.int .i64 (r18)) := hB20_4.cell 0
   have g20_4_1 : w20.cell? ⟨w13_0.heap.size, 1, none⟩ = some (.int .i64 (r19)) := hB20_4.cell 1
   have g20_4_l := hB20_4.lt
   have HB20 := Lib.hid (show _ ∧ _ ∧ _ ∧ _ ∧ _ from ⟨hB20_0, hB20_1, hB20_2, hB20_3, hB20_4⟩); clear hB20_0 hB20_1 hB20_2 hB20_3 hB20_4
   clear g12_0_5 g12_0_6 g12_0_13 g12_0_l g12_1_1 g12_1_2 g12_1_l g12_2_l g12_3_l b0 b1 b2 b3 HB12 hw12 hg20
   clear hN13_0 hw13_1 hw13_0 h20 hg13
   go_upto_region 6 with (fail)
   refine wp_region_flowA 9 (by kernel_rfl) (by kernel_rfl) ?_
   simp only [tD]
   iterate 5 (refine wpQ_step (fun K hK => ?_); go_simp; refine hK _ ?_; clear hK K)
   refine wpQ_step (fun K hK => ?_); go_simp; apply Exists.intro; refine ⟨fun _ => ?_, hK _ ?_⟩; (go_at_call 74; exact (vscale_any _ _ _ _)); clear hK K
   iterate 1 (refine wpQ_step (fun K hK => ?_); go_simp; refine hK _ ?_; clear hK K)
   refine wpQ_step (fun K hK => ?_); go_simp; apply Exists.intro; refine ⟨fun _ => ?_, hK _ ?_⟩; (go_at_call 74; exact (vscale_any _ _ _ _)); clear hK K
   refine wpQ_step (fun K hK => ?_); go_simp; apply Exists.intro; refine ⟨fun _ => ?_, hK _ ?_⟩; (go_at_call 76; exact (vadd_any _ _ _ _ _)); clear hK K
   refine wpQ_nil ?_
   intro w21 hg21
   obtain ⟨r22, hr22⟩ : ∃ r : Int, r = mulI b.fx r10 := ⟨_, rfl⟩
   obtain ⟨r23, hr23⟩ : ∃ r : Int, r = mulI b.fy r10 := ⟨_, rfl⟩
   (try simp only [← hr22, ← hr23])
   have R22 := Lib.hid hr22; clear hr22
   have R23 := Lib.hid hr23; clear hr23
   obtain ⟨r24, hr24⟩ : ∃ r : Int, r = mulI r22 ts := ⟨_, rfl⟩
   obtain ⟨r25, hr25⟩ : ∃ r : Int, r = mulI r23 ts := ⟨_, rfl⟩
   (try simp only [← hr24, ← hr25])
   have R24 := Lib.hid hr24; clear hr24
   have R25 := Lib.hid hr25; clear hr25
   obtain ⟨r26, hr26⟩ : ∃ r : Int, r = addI r18 r24 := ⟨_, rfl⟩
   obtain ⟨r27, hr27⟩ : ∃ r : Int, r = addI r19 r25 := ⟨_, rfl⟩
   (try simp only [← hr26, ← hr27])
   have R26 := Lib.hid hr26; clear hr26
   have R27 := Lib.hid hr27; clear hr27
   obtain ⟨b0, b1, b2, b3, b4⟩ := HB20.out
   have hB21_0 : Bk w21 (w.heap.size) 44 (encObV b).toArray := (b0).grw hg21
   have hB21_1 : Bk w21 (w.heap.size + 1 + 1) 44 #[.int .i64 (0), .int .i64 (0), .int .i64 (0), .int .i64 (0), .int .i64 (0), .int .i64 (0), .int .i64 (0), .int .i64 (0), .int .i64 (0), .int .i64 (0), .int .i64 (0), .int .i64 (0), .int .i64 (0), .int .i64 (0), .bool (false), .bool (false), .bool (false), .bool (false), .int .i64 (0), .slice (none) (0) (0)] := (b2).grw hg21
   have hB21_2 : Bk w21 (w6.heap.size) 168 #[.int .i64 (r7), .int .i64 (r8), .int .i64 (r9), .int .i64 (r10), .int .i64 (r11)] := (b3).grw hg21
   have hB21_3 : Bk w21 (w13_0.heap.size) 23 #[.int .i64 (r18), .int .i64 (r19)] := (b4).grw hg21
   have hw21 : Grw w w21 := (hw20).trans hg21
   have hs21 : w13_0.heap.size < w21.heap.size := by have h1 := hg21.size; have h2 := g20_4_l; (try simp at h1); omega
   have g21_0_l := hB21_0.lt
   have g21_1_l := hB21_1.lt
   have g21_2_l := hB21_2.lt
   have g21_3_0 : w21.cell? ⟨w13_0.heap.size, 0, none⟩ = some (.int .i64 (r18)) := hB21_3.cell 0
   have g21_3_1 : w21.cell? ⟨w13_0.heap.size, 1, none⟩ = some (.int .i64 (r19)) := hB21_3.cell 1
   have g21_3_f := hB21_3.frozen
   have g21_3_l := hB21_3.lt
   have HB21 := Lib.hid (show _ ∧ _ ∧ _ ∧ _ from ⟨hB21_0, hB21_1, hB21_2, hB21_3⟩); clear hB21_0 hB21_1 hB21_2 hB21_3
   clear g20_0_8 g20_0_9 g20_0_l g20_1_l g20_2_l g20_3_3 g20_3_l g20_4_0 g20_4_1 g20_4_l b0 b1 b2 b3 b4 HB20 hw20 hg21
   obtain ⟨b0, b1, b2, b3⟩ := HB21.out
   go_upto_region 7 with (fail)
   refine wp_gen (fun xw => Grw w xw ∧ Bk xw (w.heap.size) 44 (encObV b).toArray ∧ Bk xw (w.heap.size + 1 + 1) 44 #[.int .i64 (0), .int .i64 (0), .int .i64 (0), .int .i64 (0), .int .i64 (0), .int .i64 (0), .int .i64 (0), .int .i64 (0), .int .i64 (0), .int .i64 (0), .int .i64 (0), .int .i64 (0), .int .i64 (0), .int .i64 (0), .bool (false), .bool (false), .bool (false), .bool (false), .int .i64 (0), .slice (none) (0) (0)] ∧ Bk xw (w6.heap.size) 168 #[.int .i64 (r7), .int .i64 (r8), .int .i64 (r9), .int .i64 (r10), .int .i64 (r11)] ∧ Bk xw (w13_0.heap.size) 23 #[.int .i64 (r26), .int .i64 (r27)]) ⟨((hw21).setAt (by omega) _).setAt (by omega) _, ((b0).far (by omega) _).far (by omega) _, ((b1).far (by omega) _).far (by omega) _, ((b2).far (by omega) _).far (by omega) _, ((b3).set' rfl).set' rfl⟩ ?_
   rintro w28 ⟨hw28, hB28_0, hB28_1, hB28_2, hB28_3⟩
   have g28_0_11 : w28.cell? ⟨w.heap.size, 11, none⟩ = some (.int .i64 (b.ld)) := hB28_0.cell 11
   have g28_0_l := hB28_0.lt
   have g28_1_l := hB28_1.lt
   have g28_2_l := hB28_2.lt
   have g28_3_0 : w28.cell? ⟨w13_0.heap.size, 0, none⟩ = some (.int .i64 (r26)) := hB28_3.cell 0
   have g28_3_1 : w28.cell? ⟨w13_0.heap.size, 1, none⟩ = some (.int .i64 (r27)) := hB28_3.cell 1
   have g28_3_l := hB28_3.lt
   have HB28 := Lib.hid (show _ ∧ _ ∧ _ ∧ _ from ⟨hB28_0, hB28_1, hB28_2, hB28_3⟩); clear hB28_0 hB28_1 hB28_2 hB28_3
   clear g21_0_l g21_1_l g21_2_l g21_3_0 g21_3_1 g21_3_f g21_3_l b0 b1 b2 b3 HB21 hw21
   refine wp_region_flowA 9 (by kernel_rfl) (by kernel_rfl) ?_
   simp only [tD]
   iterate 5 (refine wpQ_step (fun K hK => ?_); go_simp; refine hK _ ?_; clear hK K)
   refine wpQ_step (fun K hK => ?_); go_simp; apply Exists.intro; refine ⟨fun _ => ?_, hK _ ?_⟩; (go_at_call 80; exact (mul_any _ _ _)); clear hK K
   refine wpQ_step (fun K hK => ?_); go_simp; apply Exists.intro; refine ⟨fun _ => ?_, hK _ ?_⟩; (go_at_call 74; exact (vscale_any _ _ _ _)); clear hK K
   refine wpQ_step (fun K hK => ?_); go_simp; apply Exists.intro; refine ⟨fun _ => ?_, hK _ ?_⟩; (go_at_call 36; exact (vsub_any _ _ _ _ _)); clear hK K
   iterate 1 (refine wpQ_step (fun K hK => ?_); go_simp; refine hK _ ?_; clear hK K)
   refine wpQ_nil ?_
   intro w29 hg29
   obtain ⟨r30, hr30⟩ : ∃ r : Int, r = mulI b.ld ts := ⟨_, rfl⟩
   (try simp only [← hr30])
   have R30 := Lib.hid hr30; clear hr30
   obtain ⟨r31, hr31⟩ : ∃ r : Int, r = mulI r26 r30 := ⟨_, rfl⟩
   obtain ⟨r32, hr32⟩ : ∃ r : Int, r = mulI r27 r30 := ⟨_, rfl⟩
   (try simp only [← hr31, ← hr32])
   have R31 := Lib.hid hr31; clear hr31
   have R32 := Lib.hid hr32; clear hr32
   obtain ⟨r33, hr33⟩ : ∃ r : Int, r = subI r26 r31 := ⟨_, rfl⟩
   obtain ⟨r34, hr34⟩ : ∃ r : Int, r = subI r27 r32 := ⟨_, rfl⟩
   (try simp only [← hr33, ← hr34])
   have R33 := Lib.hid hr33; clear hr33
   have R34 := Lib.hid hr34; clear hr34
   obtain ⟨b0, b1, b2, b3⟩ := HB28.out
   have hB29_0 : Bk w29 (w.heap.size) 44 (encObV b).toArray := (b0).grw hg29
   have hB29_1 : Bk w29 (w.heap.size + 1 + 1) 44 #[.int .i64 (0), .int .i64 (0), .int .i64 (0), .int .i64 (0), .int .i64 (0), .int .i64 (0), .int .i64 (0), .int .i64 (0), .int .i64 (0), .int .i64 (0), .int .i64 (0), .int .i64 (0), .int .i64 (0), .int .i64 (0), .bool (false), .bool (false), .bool (false), .bool (false), .int .i64 (0), .slice (none) (0) (0)] := (b1).grw hg29
   have hB29_2 : Bk w29 (w6.heap.size) 168 #[.int .i64 (r7), .int .i64 (r8), .int .i64 (r9), .int .i64 (r10), .int .i64 (r11)] := (b2).grw hg29
   have hB29_3 : Bk w29 (w13_0.heap.size) 23 #[.int .i64 (r26), .int .i64 (r27)] := (b3).grw hg29
   have hw29 : Grw w w29 := (hw28).trans hg29
   have hs29 : w13_0.heap.size < w29.heap.size := by have h1 := hg29.size; have h2 := g28_3_l; (try simp at h1); omega
   have g29_0_5 : w29.cell? ⟨w.heap.size, 5, none⟩ = some (.int .i64 (b.vx)) := hB29_0.cell 5
   have g29_0_6 : w29.cell? ⟨w.heap.size, 6, none⟩ = some (.int .i64 (b.vy)) := hB29_0.cell 6
   have g29_0_f := hB29_0.frozen
   have g29_0_l := hB29_0.lt
   have g29_1_l := hB29_1.lt
   have g29_2_l := hB29_2.lt
   have g29_3_l := hB29_3.lt
   have HB29 := Lib.hid (show _ ∧ _ ∧ _ ∧ _ from ⟨hB29_0, hB29_1, hB29_2, hB29_3⟩); clear hB29_0 hB29_1 hB29_2 hB29_3
   clear g28_0_11 g28_0_l g28_1_l g28_2_l g28_3_0 g28_3_1 g28_3_l b0 b1 b2 b3 HB28 hw28 hg29
   obtain ⟨b0, b1, b2, b3⟩ := HB29.out
   go_upto_region 8 with (fail)
   refine wp_gen (fun xw => Grw w xw ∧ Bk xw (w.heap.size) 44 #[.int .i64 (b.id), .int .i64 (b.kd), .int .i64 (b.px), .int .i64 (b.py), .int .i64 (b.an), .int .i64 (r33), .int .i64 (r34), .int .i64 (b.av), .int .i64 (b.fx), .int .i64 (b.fy), .int .i64 (b.tq), .int .i64 (b.ld), .int .i64 (b.ad), .int .i64 (b.gs), .bool (b.bu), .bool (b.fr), .bool (b.ns), .bool (b.sl), .int .i64 (b.idl), .slice (none) (0) (0)] ∧ Bk xw (w.heap.size + 1 + 1) 44 #[.int .i64 (0), .int .i64 (0), .int .i64 (0), .int .i64 (0), .int .i64 (0), .int .i64 (0), .int .i64 (0), .int .i64 (0), .int .i64 (0), .int .i64 (0), .int .i64 (0), .int .i64 (0), .int .i64 (0), .int .i64 (0), .bool (false), .bool (false), .bool (false), .bool (false), .int .i64 (0), .slice (none) (0) (0)] ∧ Bk xw (w6.heap.size) 168 #[.int .i64 (r7), .int .i64 (r8), .int .i64 (r9), .int .i64 (r10), .int .i64 (r11)]) ⟨((hw29).setAt (by omega) _).setAt (by omega) _, ((b0).set' rfl).set' rfl, ((b1).far (by omega) _).far (by omega) _, ((b2).far (by omega) _).far (by omega) _⟩ ?_
   rintro w35 ⟨hw35, hB35_0, hB35_1, hB35_2⟩
   have g35_0_7 : w35.cell? ⟨w.heap.size, 7, none⟩ = some (.int .i64 (b.av)) := hB35_0.cell 7
   have g35_0_10 : w35.cell? ⟨w.heap.size, 10, none⟩ = some (.int .i64 (b.tq)) := hB35_0.cell 10
   have g35_0_l := hB35_0.lt
   have g35_1_l := hB35_1.lt
   have g35_2_4 : w35.cell? ⟨w6.heap.size, 4, none⟩ = some (.int .i64 (r11)) := hB35_2.cell 4
   have g35_2_l := hB35_2.lt
   have HB35 := Lib.hid (show _ ∧ _ ∧ _ from ⟨hB35_0, hB35_1, hB35_2⟩); clear hB35_0 hB35_1 hB35_2
   clear g29_0_5 g29_0_6 g29_0_f g29_0_l g29_1_l g29_2_l g29_3_l b0 b1 b2 b3 HB29 hw29
   refine wp_region_flow (by kernel_rfl) (by kernel_rfl) ?_
   iterate 6 (refine wpQ_step (fun K hK => ?_); go_simp; refine hK _ ?_; clear hK K)
   refine wpQ_step (fun K hK => ?_); go_simp; apply Exists.intro; refine ⟨fun _ => ?_, hK _ ?_⟩; (go_at_call 80; exact (mul_any _ _ _)); clear hK K
   iterate 1 (refine wpQ_step (fun K hK => ?_); go_simp; refine hK _ ?_; clear hK K)
   refine wpQ_step (fun K hK => ?_); go_simp; apply Exists.intro; refine ⟨fun _ => ?_, hK _ ?_⟩; (go_at_call 80; exact (mul_any _ _ _)); clear hK K
   refine wpQ_step (fun K hK => ?_); go_simp; apply Exists.intro; refine ⟨fun _ => ?_, hK _ ?_⟩; (go_at_call 79; exact (add_any _ _ _).mono fun _ _ h => ⟨h.1, h.2 ▸ Grw.refl _⟩); clear hK K
   iterate 1 (refine wpQ_step (fun K hK => ?_); go_simp; refine hK _ ?_; clear hK K)
   refine wpQ_nil ?_
   intro w36 hg36
   obtain ⟨r37, hr37⟩ : ∃ r : Int, r = mulI b.tq r11 := ⟨_, rfl⟩
   (try simp only [← hr37])
   have R37 := Lib.hid hr37; clear hr37
   obtain ⟨r38, hr38⟩ : ∃ r : Int, r = mulI r37 ts := ⟨_, rfl⟩
   (try simp only [← hr38])
   have R38 := Lib.hid hr38; clear hr38
   obtain ⟨r39, hr39⟩ : ∃ r : Int, r = addI b.av r38 := ⟨_, rfl⟩
   (try simp only [← hr39])
   have R39 := Lib.hid hr39; clear hr39
   obtain ⟨b0, b1, b2⟩ := HB35.out
   have hB36_0 : Bk w36 (w.heap.size) 44 #[.int .i64 (b.id), .int .i64 (b.kd), .int .i64 (b.px), .int .i64 (b.py), .int .i64 (b.an), .int .i64 (r33), .int .i64 (r34), .int .i64 (b.av), .int .i64 (b.fx), .int .i64 (b.fy), .int .i64 (b.tq), .int .i64 (b.ld), .int .i64 (b.ad), .int .i64 (b.gs), .bool (b.bu), .bool (b.fr), .bool (b.ns), .bool (b.sl), .int .i64 (b.idl), .slice (none) (0) (0)] := (b0).grw hg36
   have hB36_1 : Bk w36 (w.heap.size + 1 + 1) 44 #[.int .i64 (0), .int .i64 (0), .int .i64 (0), .int .i64 (0), .int .i64 (0), .int .i64 (0), .int .i64 (0), .int .i64 (0), .int .i64 (0), .int .i64 (0), .int .i64 (0), .int .i64 (0), .int .i64 (0), .int .i64 (0), .bool (false), .bool (false), .bool (false), .bool (false), .int .i64 (0), .slice (none) (0) (0)] := (b1).grw hg36
   have hB36_2 : Bk w36 (w6.heap.size) 168 #[.int .i64 (r7), .int .i64 (r8), .int .i64 (r9), .int .i64 (r10), .int .i64 (r11)] := (b2).grw hg36
   have hw36 : Grw w w36 := (hw35).trans hg36
   have hs36 : w6.heap.size < w36.heap.size := by have h1 := hg36.size; have h2 := g35_2_l; (try simp at h1); omega
   have g36_0_12 : w36.cell? ⟨w.heap.size, 12, none⟩ = some (.int .i64 (b.ad)) := hB36_0.cell 12
   have g36_0_l := hB36_0.lt
   have g36_1_l := hB36_1.lt
   have g36_2_l := hB36_2.lt
   have HB36 := Lib.hid (show _ ∧ _ ∧ _ from ⟨hB36_0, hB36_1, hB36_2⟩); clear hB36_0 hB36_1 hB36_2
   clear g35_0_7 g35_0_10 g35_0_l g35_1_l g35_2_4 g35_2_l b0 b1 b2 HB35 hw35 hg36
   go_wp2_with fail
   (go_at_call 80; refine (mul_any _ _ _).mono ?_; rintro e w40 ⟨rfl, hg40⟩)
   obtain ⟨r41, hr41⟩ : ∃ r : Int, r = mulI b.ad ts := ⟨_, rfl⟩
   (try simp only [← hr41])
   have R41 := Lib.hid hr41; clear hr41
   obtain ⟨b0, b1, b2⟩ := HB36.out
   have hB40_0 : Bk w40 (w.heap.size) 44 #[.int .i64 (b.id), .int .i64 (b.kd), .int .i64 (b.px), .int .i64 (b.py), .int .i64 (b.an), .int .i64 (r33), .int .i64 (r34), .int .i64 (b.av), .int .i64 (b.fx), .int .i64 (b.fy), .int .i64 (b.tq), .int .i64 (b.ld), .int .i64 (b.ad), .int .i64 (b.gs), .bool (b.bu), .bool (b.fr), .bool (b.ns), .bool (b.sl), .int .i64 (b.idl), .slice (none) (0) (0)] := (b0).grw hg40
   have hB40_1 : Bk w40 (w.heap.size + 1 + 1) 44 #[.int .i64 (0), .int .i64 (0), .int .i64 (0), .int .i64 (0), .int .i64 (0), .int .i64 (0), .int .i64 (0), .int .i64 (0), .int .i64 (0), .int .i64 (0), .int .i64 (0), .int .i64 (0), .int .i64 (0), .int .i64 (0), .bool (false), .bool (false), .bool (false), .bool (false), .int .i64 (0), .slice (none) (0) (0)] := (b1).grw hg40
   have hw40 : Grw w w40 := (hw36).trans hg40
   have hs40 : w6.heap.size < w40.heap.size := by have h1 := hg40.size; have h2 := g36_2_l; (try simp at h1); omega
   have g40_0_l := hB40_0.lt
   have g40_1_l := hB40_1.lt
   have HB40 := Lib.hid (show _ ∧ _ from ⟨hB40_0, hB40_1⟩); clear hB40_0 hB40_1
   clear g36_0_12 g36_0_l g36_1_l g36_2_l b0 b1 b2 HB36 hw36 hg40
   go_wp2_with fail
   (go_at_call 80; refine (mul_any _ _ _).mono ?_; rintro e w42 ⟨rfl, hg42⟩)
   obtain ⟨r43, hr43⟩ : ∃ r : Int, r = mulI r39 r41 := ⟨_, rfl⟩
   (try simp only [← hr43])
   have R43 := Lib.hid hr43; clear hr43
   obtain ⟨b0, b1⟩ := HB40.out
   have hB42_0 : Bk w42 (w.heap.size) 44 #[.int .i64 (b.id), .int .i64 (b.kd), .int .i64 (b.px), .int .i64 (b.py), .int .i64 (b.an), .int .i64 (r33), .int .i64 (r34), .int .i64 (b.av), .int .i64 (b.fx), .int .i64 (b.fy), .int .i64 (b.tq), .int .i64 (b.ld), .int .i64 (b.ad), .int .i64 (b.gs), .bool (b.bu), .bool (b.fr), .bool (b.ns), .bool (b.sl), .int .i64 (b.idl), .slice (none) (0) (0)] := (b0).grw hg42
   have hB42_1 : Bk w42 (w.heap.size + 1 + 1) 44 #[.int .i64 (0), .int .i64 (0), .int .i64 (0), .int .i64 (0), .int .i64 (0), .int .i64 (0), .int .i64 (0), .int .i64 (0), .int .i64 (0), .int .i64 (0), .int .i64 (0), .int .i64 (0), .int .i64 (0), .int .i64 (0), .bool (false), .bool (false), .bool (false), .bool (false), .int .i64 (0), .slice (none) (0) (0)] := (b1).grw hg42
   have hw42 : Grw w w42 := (hw40).trans hg42
   have hs42 : w.heap.size + 1 + 1 < w42.heap.size := by have h1 := hg42.size; have h2 := g40_1_l; (try simp at h1); omega
   have g42_0_7 : w42.cell? ⟨w.heap.size, 7, none⟩ = some (.int .i64 (b.av)) := hB42_0.cell 7
   have g42_0_f := hB42_0.frozen
   have g42_0_l := hB42_0.lt
   have g42_1_l := hB42_1.lt
   have HB42 := Lib.hid (show _ ∧ _ from ⟨hB42_0, hB42_1⟩); clear hB42_0 hB42_1
   clear g40_0_l g40_1_l b0 b1 HB40 hw40 hg42
   go_wp2_with fail
   (go_at_call 70; refine (sub_any _ _ _).mono ?_; rintro e w1 ⟨rfl, rfl⟩)
   obtain ⟨r44, hr44⟩ : ∃ r : Int, r = subI r39 r43 := ⟨_, rfl⟩
   (try simp only [← hr44])
   have R44 := Lib.hid hr44; clear hr44
   obtain ⟨b0, b1⟩ := HB42.out
   go_upto_region 10 with (fail)
   refine wp_gen (fun xw => Grw w xw ∧ Bk xw (w.heap.size) 44 #[.int .i64 (b.id), .int .i64 (b.kd), .int .i64 (b.px), .int .i64 (b.py), .int .i64 (b.an), .int .i64 (r33), .int .i64 (r34), .int .i64 (r44), .int .i64 (b.fx), .int .i64 (b.fy), .int .i64 (b.tq), .int .i64 (b.ld), .int .i64 (b.ad), .int .i64 (b.gs), .bool (b.bu), .bool (b.fr), .bool (b.ns), .bool (b.sl), .int .i64 (b.idl), .slice (none) (0) (0)] ∧ Bk xw (w.heap.size + 1 + 1) 44 #[.int .i64 (0), .int .i64 (0), .int .i64 (0), .int .i64 (0), .int .i64 (0), .int .i64 (0), .int .i64 (0), .int .i64 (0), .int .i64 (0), .int .i64 (0), .int .i64 (0), .int .i64 (0), .int .i64 (0), .int .i64 (0), .bool (false), .bool (false), .bool (false), .bool (false), .int .i64 (0), .slice (none) (0) (0)]) ⟨(hw42).setAt (by omega) _, (b0).set' rfl, (b1).far (by omega) _⟩ ?_
   rintro w45 ⟨hw45, hB45_0, hB45_1⟩
   have g45_0_7 : w45.cell? ⟨w.heap.size, 7, none⟩ = some (.int .i64 (r44)) := hB45_0.cell 7
   have g45_0_15 : w45.cell? ⟨w.heap.size, 15, none⟩ = some (.bool (b.fr)) := hB45_0.cell 15
   have g45_0_f := hB45_0.frozen
   have g45_0_l := hB45_0.lt
   have g45_1_l := hB45_1.lt
   have HB45 := Lib.hid (show _ ∧ _ from ⟨hB45_0, hB45_1⟩); clear hB45_0 hB45_1
   clear g42_0_7 g42_0_f g42_0_l g42_1_l b0 b1 HB42 hw42
   go_upto_if 69 with (fail)
   obtain ⟨r47, hr47⟩ : ∃ r : Int, r = (bif b.fr then 0 else r44) := ⟨_, rfl⟩
   have R47 := Lib.hid hr47; clear hr47
   go_cut [0, 19, 69] (fun _s0 _s19 _s69 xw => Grw w xw ∧ Bk xw (w.heap.size) 44 #[.int .i64 (b.id), .int .i64 (b.kd), .int .i64 (b.px), .int .i64 (b.py), .int .i64 (b.an), .int .i64 (r33), .int .i64 (r34), .int .i64 (r47), .int .i64 (b.fx), .int .i64 (b.fy), .int .i64 (b.tq), .int .i64 (b.ld), .int .i64 (b.ad), .int .i64 (b.gs), .bool (b.bu), .bool (b.fr), .bool (b.ns), .bool (b.sl), .int .i64 (b.idl), .slice (none) (0) (0)] ∧ Bk xw (w.heap.size + 1 + 1) 44 #[.int .i64 (0), .int .i64 (0), .int .i64 (0), .int .i64 (0), .int .i64 (0), .int .i64 (0), .int .i64 (0), .int .i64 (0), .int .i64 (0), .int .i64 (0), .int .i64 (0), .int .i64 (0), .int .i64 (0), .int .i64 (0), .bool (false), .bool (false), .bool (false), .bool (false), .int .i64 (0), .slice (none) (0) (0)])
   case first =>
     cases hc46 : (b.fr)
     · go_wp2_with fail
       go_meet
       case rel =>
         have er47 : r47 = (r44) := R47.out.trans (by simp [hc46])
         subst er47
         obtain ⟨b0, b1⟩ := HB45.out
         exact ⟨hw45, b0, b1⟩
     · go_wp2_with fail
       go_meet
       case rel =>
         have er47 : r47 = (0) := R47.out.trans (by simp [hc46])
         subst er47
         obtain ⟨b0, b1⟩ := HB45.out
         exact ⟨(hw45).setAt (by omega) _, (b0).set' rfl, (b1).far (by omega) _⟩
   case rest =>
   obtain ⟨hw48, hB48_0, hB48_1⟩ := hcut
   obtain ⟨w48, rfl⟩ : ∃ x, x = wc := ⟨_, rfl⟩
   have gA48_0_0_20 : HaveAll w48 (w.heap.size) 0 20 := hB48_0.have 0 20 (Nat.le_of_ble_eq_true rfl)
   have gC48_0_0_20 : cellsAt w48 (w.heap.size) 0 20 = #[.int .i64 (b.id), .int .i64 (b.kd), .int .i64 (b.px), .int .i64 (b.py), .int .i64 (b.an), .int .i64 (r33), .int .i64 (r34), .int .i64 (r47), .int .i64 (b.fx), .int .i64 (b.fy), .int .i64 (b.tq), .int .i64 (b.ld), .int .i64 (b.ad), .int .i64 (b.gs), .bool (b.bu), .bool (b.fr), .bool (b.ns), .bool (b.sl), .int .i64 (b.idl), .slice (none) (0) (0)] := hB48_0.cells' 0 20 _ rfl rfl
   have g48_0_l := hB48_0.lt
   have g48_1_l := hB48_1.lt
   have HB48 := Lib.hid (show _ ∧ _ from ⟨hB48_0, hB48_1⟩); clear hB48_0 hB48_1
   clear g45_0_7 g45_0_15 g45_0_f g45_0_l g45_1_l HB45 hw45
   go_wp2_with fail
   (go_at_call 109; refine (clampVel0 (ObV.mk b.id b.kd b.px b.py b.an r33 r34 r47 b.fx b.fy b.tq b.ld b.ad b.gs b.bu b.fr b.ns b.sl b.idl) _).mono ?_; rintro e w49 ⟨rfl, hg49⟩)
   obtain ⟨r50, hr50⟩ : ∃ r : Int, r = (clampVel0F (ObV.mk b.id b.kd b.px b.py b.an r33 r34 r47 b.fx b.fy b.tq b.ld b.ad b.gs b.bu b.fr b.ns b.sl b.idl)).1 := ⟨_, rfl⟩
   obtain ⟨r51, hr51⟩ : ∃ r : Int, r = (clampVel0F (ObV.mk b.id b.kd b.px b.py b.an r33 r34 r47 b.fx b.fy b.tq b.ld b.ad b.gs b.bu b.fr b.ns b.sl b.idl)).2.1 := ⟨_, rfl⟩
   obtain ⟨r52, hr52⟩ : ∃ r : Int, r = (clampVel0F (ObV.mk b.id b.kd b.px b.py b.an r33 r34 r47 b.fx b.fy b.tq b.ld b.ad b.gs b.bu b.fr b.ns b.sl b.idl)).2.2.1 := ⟨_, rfl⟩
   obtain ⟨r53, hr53⟩ : ∃ r : Int, r = (clampVel0F (ObV.mk b.id b.kd b.px b.py b.an r33 r34 r47 b.fx b.fy b.tq b.ld b.ad b.gs b.bu b.fr b.ns b.sl b.idl)).2.2.2.1 := ⟨_, rfl⟩
   obtain ⟨r54, hr54⟩ : ∃ r : Int, r = (clampVel0F (ObV.mk b.id b.kd b.px b.py b.an r33 r34 r47 b.fx b.fy b.tq b.ld b.ad b.gs b.bu b.fr b.ns b.sl b.idl)).2.2.2.2.1 := ⟨_, rfl⟩
   obtain ⟨r55, hr55⟩ : ∃ r : Int, r = (clampVel0F (ObV.mk b.id b.kd b.px b.py b.an r33 r34 r47 b.fx b.fy b.tq b.ld b.ad b.gs b.bu b.fr b.ns b.sl b.idl)).2.2.2.2.2.1 := ⟨_, rfl⟩
   obtain ⟨r56, hr56⟩ : ∃ r : Int, r = (clampVel0F (ObV.mk b.id b.kd b.px b.py b.an r33 r34 r47 b.fx b.fy b.tq b.ld b.ad b.gs b.bu b.fr b.ns b.sl b.idl)).2.2.2.2.2.2.1 := ⟨_, rfl⟩
   obtain ⟨r57, hr57⟩ : ∃ r : Int, r = (clampVel0F (ObV.mk b.id b.kd b.px b.py b.an r33 r34 r47 b.fx b.fy b.tq b.ld b.ad b.gs b.bu b.fr b.ns b.sl b.idl)).2.2.2.2.2.2.2.1 := ⟨_, rfl⟩
   obtain ⟨r58, hr58⟩ : ∃ r : Int, r = (clampVel0F (ObV.mk b.id b.kd b.px b.py b.an r33 r34 r47 b.fx b.fy b.tq b.ld b.ad b.gs b.bu b.fr b.ns b.sl b.idl)).2.2.2.2.2.2.2.2.1 := ⟨_, rfl⟩
   obtain ⟨r59, hr59⟩ : ∃ r : Int, r = (clampVel0F (ObV.mk b.id b.kd b.px b.py b.an r33 r34 r47 b.fx b.fy b.tq b.ld b.ad b.gs b.bu b.fr b.ns b.sl b.idl)).2.2.2.2.2.2.2.2.2.1 := ⟨_, rfl⟩
   obtain ⟨r60, hr60⟩ : ∃ r : Int, r = (clampVel0F (ObV.mk b.id b.kd b.px b.py b.an r33 r34 r47 b.fx b.fy b.tq b.ld b.ad b.gs b.bu b.fr b.ns b.sl b.idl)).2.2.2.2.2.2.2.2.2.2.1 := ⟨_, rfl⟩
   obtain ⟨r61, hr61⟩ : ∃ r : Int, r = (clampVel0F (ObV.mk b.id b.kd b.px b.py b.an r33 r34 r47 b.fx b.fy b.tq b.ld b.ad b.gs b.bu b.fr b.ns b.sl b.idl)).2.2.2.2.2.2.2.2.2.2.2.1 := ⟨_, rfl⟩
   obtain ⟨r62, hr62⟩ : ∃ r : Int, r = (clampVel0F (ObV.mk b.id b.kd b.px b.py b.an r33 r34 r47 b.fx b.fy b.tq b.ld b.ad b.gs b.bu b.fr b.ns b.sl b.idl)).2.2.2.2.2.2.2.2.2.2.2.2.1 := ⟨_, rfl⟩
   obtain ⟨r63, hr63⟩ : ∃ r : Int, r = (clampVel0F (ObV.mk b.id b.kd b.px b.py b.an r33 r34 r47 b.fx b.fy b.tq b.ld b.ad b.gs b.bu b.fr b.ns b.sl b.idl)).2.2.2.2.2.2.2.2.2.2.2.2.2.1 := ⟨_, rfl⟩
   obtain ⟨r64, hr64⟩ : ∃ r : Bool, r = (clampVel0F (ObV.mk b.id b.kd b.px b.py b.an r33 r34 r47 b.fx b.fy b.tq b.ld b.ad b.gs b.bu b.fr b.ns b.sl b.idl)).2.2.2.2.2.2.2.2.2.2.2.2.2.2.1 := ⟨_, rfl⟩
   obtain ⟨r65, hr65⟩ : ∃ r : Bool, r = (clampVel0F (ObV.mk b.id b.kd b.px b.py b.an r33 r34 r47 b.fx b.fy b.tq b.ld b.ad b.gs b.bu b.fr b.ns b.sl b.idl)).2.2.2.2.2.2.2.2.2.2.2.2.2.2.2.1 := ⟨_, rfl⟩
   obtain ⟨r66, hr66⟩ : ∃ r : Bool, r = (clampVel0F (ObV.mk b.id b.kd b.px b.py b.an r33 r34 r47 b.fx b.fy b.tq b.ld b.ad b.gs b.bu b.fr b.ns b.sl b.idl)).2.2.2.2.2.2.2.2.2.2.2.2.2.2.2.2.1 := ⟨_, rfl⟩
   obtain ⟨r67, hr67⟩ : ∃ r : Bool, r = (clampVel0F (ObV.mk b.id b.kd b.px b.py b.an r33 r34 r47 b.fx b.fy b.tq b.ld b.ad b.gs b.bu b.fr b.ns b.sl b.idl)).2.2.2.2.2.2.2.2.2.2.2.2.2.2.2.2.2.1 := ⟨_, rfl⟩
   obtain ⟨r68, hr68⟩ : ∃ r : Int, r = (clampVel0F (ObV.mk b.id b.kd b.px b.py b.an r33 r34 r47 b.fx b.fy b.tq b.ld b.ad b.gs b.bu b.fr b.ns b.sl b.idl)).2.2.2.2.2.2.2.2.2.2.2.2.2.2.2.2.2.2 := ⟨_, rfl⟩
   (try simp only [← hr50, ← hr51, ← hr52, ← hr53, ← hr54, ← hr55, ← hr56, ← hr57, ← hr58, ← hr59, ← hr60, ← hr61, ← hr62, ← hr63, ← hr64, ← hr65, ← hr66, ← hr67, ← hr68])
   have R50 := Lib.hid hr50; clear hr50
   have R51 := Lib.hid hr51; clear hr51
   have R52 := Lib.hid hr52; clear hr52
   have R53 := Lib.hid hr53; clear hr53
   have R54 := Lib.hid hr54; clear hr54
   have R55 := Lib.hid hr55; clear hr55
   have R56 := Lib.hid hr56; clear hr56
   have R57 := Lib.hid hr57; clear hr57
   have R58 := Lib.hid hr58; clear hr58
   have R59 := Lib.hid hr59; clear hr59
   have R60 := Lib.hid hr60; clear hr60
   have R61 := Lib.hid hr61; clear hr61
   have R62 := Lib.hid hr62; clear hr62
   have R63 := Lib.hid hr63; clear hr63
   have R64 := Lib.hid hr64; clear hr64
   have R65 := Lib.hid hr65; clear hr65
   have R66 := Lib.hid hr66; clear hr66
   have R67 := Lib.hid hr67; clear hr67
   have R68 := Lib.hid hr68; clear hr68
   obtain ⟨b0, b1⟩ := HB48.out
   have hB49_0 : Bk w49 (w.heap.size) 44 #[.int .i64 (b.id), .int .i64 (b.kd), .int .i64 (b.px), .int .i64 (b.py), .int .i64 (b.an), .int .i64 (r33), .int .i64 (r34), .int .i64 (r47), .int .i64 (b.fx), .int .i64 (b.fy), .int .i64 (b.tq), .int .i64 (b.ld), .int .i64 (b.ad), .int .i64 (b.gs), .bool (b.bu), .bool (b.fr), .bool (b.ns), .bool (b.sl), .int .i64 (b.idl), .slice (none) (0) (0)] := (b0).grw hg49
   have hB49_1 : Bk w49 (w.heap.size + 1 + 1) 44 #[.int .i64 (0), .int .i64 (0), .int .i64 (0), .int .i64 (0), .int .i64 (0), .int .i64 (0), .int .i64 (0), .int .i64 (0), .int .i64 (0), .int .i64 (0), .int .i64 (0), .int .i64 (0), .int .i64 (0), .int .i64 (0), .bool (false), .bool (false), .bool (false), .bool (false), .int .i64 (0), .slice (none) (0) (0)] := (b1).grw hg49
   have hw49 : Grw w w49 := (hw48).trans hg49
   have hs49 : w.heap.size + 1 + 1 < w49.heap.size := by have h1 := hg49.size; have h2 := g48_1_l; (try simp at h1); omega
   have g49_0_l := hB49_0.lt
   have gT49_1 : There w49 (w.heap.size + 1 + 1) 0 20 := hB49_1.there 0 20 (Nat.le_of_ble_eq_true rfl)
   have g49_1_l := hB49_1.lt
   have HB49 := Lib.hid (show _ ∧ _ from ⟨hB49_0, hB49_1⟩); clear hB49_0 hB49_1
   clear gA48_0_0_20 gC48_0_0_20 g48_0_l g48_1_l b0 b1 HB48 hw48 hg49
   go_wp2_with fail
   have hF : velocity0F b ts gx gy it ss = (r50, r51, r52, r53, r54, r55, r56, r57, r58, r59, r60, r61, r62, r63, r64, r65, r66, r67, r68) := by unfold velocity0F; first | rfl | (simp only [← R68.out, ← R67.out, ← R66.out, ← R65.out, ← R64.out, ← R63.out, ← R62.out, ← R61.out, ← R60.out, ← R59.out, ← R58.out, ← R57.out, ← R56.out, ← R55.out, ← R54.out, ← R53.out, ← R52.out, ← R51.out, ← R50.out, ← R47.out, ← R44.out, ← R43.out, ← R41.out, ← R39.out, ← R38.out, ← R37.out, ← R34.out, ← R33.out, ← R32.out, ← R31.out, ← R30.out, ← R27.out, ← R26.out, ← R25.out, ← R24.out, ← R23.out, ← R22.out, ← R19.out, ← R18.out, ← R17.out, ← R16.out, ← R15.out, ← R14.out, ← R11.out, ← R10.out, ← R9.out, ← R8.out, ← R7.out, ← R3.out, hc5, cond_true, cond_false]; done) | (simp only [← R68.out, ← R67.out, ← R66.out, ← R65.out, ← R64.out, ← R63.out, ← R62.out, ← R61.out, ← R60.out, ← R59.out, ← R58.out, ← R57.out, ← R56.out, ← R55.out, ← R54.out, ← R53.out, ← R52.out, ← R51.out, ← R50.out, ← R47.out, ← R44.out, ← R43.out, ← R41.out, ← R39.out, ← R38.out, ← R37.out, ← R34.out, ← R33.out, ← R32.out, ← R31.out, ← R30.out, ← R27.out, ← R26.out, ← R25.out, ← R24.out, ← R23.out, ← R22.out, ← R19.out, ← R18.out, ← R17.out, ← R16.out, ← R15.out, ← R14.out, ← R11.out, ← R10.out, ← R9.out, ← R8.out, ← R7.out, ← R3.out, hc5, cond_true, cond_false]; rfl) | simp [← R68.out, ← R67.out, ← R66.out, ← R65.out, ← R64.out, ← R63.out, ← R62.out, ← R61.out, ← R60.out, ← R59.out, ← R58.out, ← R57.out, ← R56.out, ← R55.out, ← R54.out, ← R53.out, ← R52.out, ← R51.out, ← R50.out, ← R47.out, ← R44.out, ← R43.out, ← R41.out, ← R39.out, ← R38.out, ← R37.out, ← R34.out, ← R33.out, ← R32.out, ← R31.out, ← R30.out, ← R27.out, ← R26.out, ← R25.out, ← R24.out, ← R23.out, ← R22.out, ← R19.out, ← R18.out, ← R17.out, ← R16.out, ← R15.out, ← R14.out, ← R11.out, ← R10.out, ← R9.out, ← R8.out, ← R7.out, ← R3.out, hc5]
   obtain ⟨b0, b1⟩ := HB49.out
   have hK44 : Bk _ (w.heap.size + 1 + 1) 44 #[.int .i64 (r50), .int .i64 (r51), .int .i64 (r52), .int .i64 (r53), .int .i64 (r54), .int .i64 (r55), .int .i64 (r56), .int .i64 (r57), .int .i64 (r58), .int .i64 (r59), .int .i64 (r60), .int .i64 (r61), .int .i64 (r62), .int .i64 (r63), .bool (r64), .bool (r65), .bool (r66), .bool (r67), .int .i64 (r68), .slice (none) (0) (0)] := (b1).setAll' (l := [.int .i64 (r50), .int .i64 (r51), .int .i64 (r52), .int .i64 (r53), .int .i64 (r54), .int .i64 (r55), .int .i64 (r56), .int .i64 (r57), .int .i64 (r58), .int .i64 (r59), .int .i64 (r60), .int .i64 (r61), .int .i64 (r62), .int .i64 (r63), .bool (r64), .bool (r65), .bool (r66), .bool (r67), .int .i64 (r68), .slice (none) (0) (0)]) rfl rfl
   refine bodyPost_ret (v := .agg #[.int .i64 (r50), .int .i64 (r51), .int .i64 (r52), .int .i64 (r53), .int .i64 (r54), .int .i64 (r55), .int .i64 (r56), .int .i64 (r57), .int .i64 (r58), .int .i64 (r59), .int .i64 (r60), .int .i64 (r61), .int .i64 (r62), .int .i64 (r63), .bool (r64), .bool (r65), .bool (r66), .bool (r67), .int .i64 (r68), .slice (none) (0) (0)]) (results_cell_row Tryz.results179 _ _ _ _ _ _ _ rfl hK44 Tryz.underlying44 rfl (by kernel_rfl)) rfl ⟨by rw [hF], ?_⟩
   exact (hw49).setCells (by omega) _
 · go_wp2_with fail
   have hF : velocity0F b ts gx gy it ss = (b.id, b.kd, b.px, b.py, b.an, b.vx, b.vy, b.av, b.fx, b.fy, b.tq, b.ld, b.ad, b.gs, b.bu, b.fr, b.ns, b.sl, b.idl) := by unfold velocity0F; first | rfl | (simp only [← R3.out, hc5, cond_true, cond_false]; done) | (simp only [← R3.out, hc5, cond_true, cond_false]; rfl) | simp [← R3.out, hc5]
   obtain ⟨b0, b1, b2⟩ := HB1.out
   have hK44 : Bk _ (w.heap.size + 1 + 1) 44 #[.int .i64 (b.id), .int .i64 (b.kd), .int .i64 (b.px), .int .i64 (b.py), .int .i64 (b.an), .int .i64 (b.vx), .int .i64 (b.vy), .int .i64 (b.av), .int .i64 (b.fx), .int .i64 (b.fy), .int .i64 (b.tq), .int .i64 (b.ld), .int .i64 (b.ad), .int .i64 (b.gs), .bool (b.bu), .bool (b.fr), .bool (b.ns), .bool (b.sl), .int .i64 (b.idl), .slice (none) (0) (0)] := (b2).setAll' (l := [.int .i64 (b.id), .int .i64 (b.kd), .int .i64 (b.px), .int .i64 (b.py), .int .i64 (b.an), .int .i64 (b.vx), .int .i64 (b.vy), .int .i64 (b.av), .int .i64 (b.fx), .int .i64 (b.fy), .int .i64 (b.tq), .int .i64 (b.ld), .int .i64 (b.ad), .int .i64 (b.gs), .bool (b.bu), .bool (b.fr), .bool (b.ns), .bool (b.sl), .int .i64 (b.idl), .slice (none) (0) (0)]) rfl rfl
   refine bodyPost_ret (v := .agg #[.int .i64 (b.id), .int .i64 (b.kd), .int .i64 (b.px), .int .i64 (b.py), .int .i64 (b.an), .int .i64 (b.vx), .int .i64 (b.vy), .int .i64 (b.av), .int .i64 (b.fx), .int .i64 (b.fy), .int .i64 (b.tq), .int .i64 (b.ld), .int .i64 (b.ad), .int .i64 (b.gs), .bool (b.bu), .bool (b.fr), .bool (b.ns), .bool (b.sl), .int .i64 (b.idl), .slice (none) (0) (0)]) (results_cell_row Tryz.results179 _ _ _ _ _ _ _ rfl hK44 Tryz.underlying44 rfl (by kernel_rfl)) rfl ⟨by rw [hF], ?_⟩
   exact (hw1).setCells (by omega) _
def clearForces0F (b : ObV) : Int × Int × Int × Int × Int × Int × Int × Int × Int × Int × Int × Int × Int × Int × Bool × Bool × Bool × Bool × Int := (b.id, b.kd, b.px, b.py, b.an, b.vx, b.vy, b.av, 0, 0, 0, b.ld, b.ad, b.gs, b.bu, b.fr, b.ns, b.sl, b.idl)
theorem clearForces0 (b : ObV) (w : World) :
   Calls Tryz.prog 10 #[.agg (encObV b).toArray] w fun e w' => e = .returned (.agg #[.int .i64 ((clearForces0F b).1), .int .i64 ((clearForces0F b).2.1), .int .i64 ((clearForces0F b).2.2.1), .int .i64 ((clearForces0F b).2.2.2.1), .int .i64 ((clearForces0F b).2.2.2.2.1), .int .i64 ((clearForces0F b).2.2.2.2.2.1), .int .i64 ((clearForces0F b).2.2.2.2.2.2.1), .int .i64 ((clearForces0F b).2.2.2.2.2.2.2.1), .int .i64 ((clearForces0F b).2.2.2.2.2.2.2.2.1), .int .i64 ((clearForces0F b).2.2.2.2.2.2.2.2.2.1), .int .i64 ((clearForces0F b).2.2.2.2.2.2.2.2.2.2.1), .int .i64 ((clearForces0F b).2.2.2.2.2.2.2.2.2.2.2.1), .int .i64 ((clearForces0F b).2.2.2.2.2.2.2.2.2.2.2.2.1), .int .i64 ((clearForces0F b).2.2.2.2.2.2.2.2.2.2.2.2.2.1), .bool ((clearForces0F b).2.2.2.2.2.2.2.2.2.2.2.2.2.2.1), .bool ((clearForces0F b).2.2.2.2.2.2.2.2.2.2.2.2.2.2.2.1), .bool ((clearForces0F b).2.2.2.2.2.2.2.2.2.2.2.2.2.2.2.2.1), .bool ((clearForces0F b).2.2.2.2.2.2.2.2.2.2.2.2.2.2.2.2.2.1), .int .i64 ((clearForces0F b).2.2.2.2.2.2.2.2.2.2.2.2.2.2.2.2.2.2), .slice (none) (0) (0)]) ∧ Grw w w' := by
 go_enter Tryz.func10, Tryz.ntmps10
 go_upto_region 1 with (fail)
 refine wp_gen (fun xw => Grw w xw ∧ Bk xw (w.heap.size) 44 (encObV b).toArray ∧ Bk xw (w.heap.size + 1) 44 #[.int .i64 (0), .int .i64 (0), .int .i64 (0), .int .i64 (0), .int .i64 (0), .int .i64 (0), .int .i64 (0), .int .i64 (0), .int .i64 (0), .int .i64 (0), .int .i64 (0), .int .i64 (0), .int .i64 (0), .int .i64 (0), .bool (false), .bool (false), .bool (false), .bool (false), .int .i64 (0), .slice (none) (0) (0)]) ⟨(((Grw.refl w)).alloc _).alloc _, ((Bk.new' (by simp))).alloc _, (Bk.new' (by simp))⟩ ?_
 rintro w1 ⟨hw1, hB1_0, hB1_1⟩
 have g1_0_8 : w1.cell? ⟨w.heap.size, 8, none⟩ = some (.int .i64 (b.fx)) := hB1_0.cell 8
 have g1_0_9 : w1.cell? ⟨w.heap.size, 9, none⟩ = some (.int .i64 (b.fy)) := hB1_0.cell 9
 have g1_0_f := hB1_0.frozen
 have g1_0_l := hB1_0.lt
 have g1_1_l := hB1_1.lt
 have HB1 := Lib.hid (show _ ∧ _ from ⟨hB1_0, hB1_1⟩); clear hB1_0 hB1_1
 obtain ⟨b0, b1⟩ := HB1.out
 go_upto_region 2 with (fail)
 refine wp_gen (fun xw => Grw w xw ∧ Bk xw (w.heap.size) 44 #[.int .i64 (b.id), .int .i64 (b.kd), .int .i64 (b.px), .int .i64 (b.py), .int .i64 (b.an), .int .i64 (b.vx), .int .i64 (b.vy), .int .i64 (b.av), .int .i64 (0), .int .i64 (0), .int .i64 (b.tq), .int .i64 (b.ld), .int .i64 (b.ad), .int .i64 (b.gs), .bool (b.bu), .bool (b.fr), .bool (b.ns), .bool (b.sl), .int .i64 (b.idl), .slice (none) (0) (0)] ∧ Bk xw (w.heap.size + 1) 44 #[.int .i64 (0), .int .i64 (0), .int .i64 (0), .int .i64 (0), .int .i64 (0), .int .i64 (0), .int .i64 (0), .int .i64 (0), .int .i64 (0), .int .i64 (0), .int .i64 (0), .int .i64 (0), .int .i64 (0), .int .i64 (0), .bool (false), .bool (false), .bool (false), .bool (false), .int .i64 (0), .slice (none) (0) (0)]) ⟨((hw1).setAt (by omega) _).setAt (by omega) _, ((b0).set' rfl).set' rfl, ((b1).far (by omega) _).far (by omega) _⟩ ?_
 rintro w2 ⟨hw2, hB2_0, hB2_1⟩
 have g2_0_10 : w2.cell? ⟨w.heap.size, 10, none⟩ = some (.int .i64 (b.tq)) := hB2_0.cell 10
 have g2_0_f := hB2_0.frozen
 have g2_0_l := hB2_0.lt
 have g2_1_l := hB2_1.lt
 have HB2 := Lib.hid (show _ ∧ _ from ⟨hB2_0, hB2_1⟩); clear hB2_0 hB2_1
 clear g1_0_8 g1_0_9 g1_0_f g1_0_l g1_1_l b0 b1 HB1 hw1
 obtain ⟨b0, b1⟩ := HB2.out
 go_upto_region 3 with (fail)
 refine wp_gen (fun xw => Grw w xw ∧ Bk xw (w.heap.size) 44 #[.int .i64 (b.id), .int .i64 (b.kd), .int .i64 (b.px), .int .i64 (b.py), .int .i64 (b.an), .int .i64 (b.vx), .int .i64 (b.vy), .int .i64 (b.av), .int .i64 (0), .int .i64 (0), .int .i64 (0), .int .i64 (b.ld), .int .i64 (b.ad), .int .i64 (b.gs), .bool (b.bu), .bool (b.fr), .bool (b.ns), .bool (b.sl), .int .i64 (b.idl), .slice (none) (0) (0)] ∧ Bk xw (w.heap.size + 1) 44 #[.int .i64 (0), .int .i64 (0), .int .i64 (0), .int .i64 (0), .int .i64 (0), .int .i64 (0), .int .i64 (0), .int .i64 (0), .int .i64 (0), .int .i64 (0), .int .i64 (0), .int .i64 (0), .int .i64 (0), .int .i64 (0), .bool (false), .bool (false), .bool (false), .bool (false), .int .i64 (0), .slice (none) (0) (0)]) ⟨(hw2).setAt (by omega) _, (b0).set' rfl, (b1).far (by omega) _⟩ ?_
 rintro w3 ⟨hw3, hB3_0, hB3_1⟩
 have gA3_0_0_20 : HaveAll w3 (w.heap.size) 0 20 := hB3_0.have 0 20 (Nat.le_of_ble_eq_true rfl)
 have gC3_0_0_20 : cellsAt w3 (w.heap.size) 0 20 = #[.int .i64 (b.id), .int .i64 (b.kd), .int .i64 (b.px), .int .i64 (b.py), .int .i64 (b.an), .int .i64 (b.vx), .int .i64 (b.vy), .int .i64 (b.av), .int .i64 (0), .int .i64 (0), .int .i64 (0), .int .i64 (b.ld), .int .i64 (b.ad), .int .i64 (b.gs), .bool (b.bu), .bool (b.fr), .bool (b.ns), .bool (b.sl), .int .i64 (b.idl), .slice (none) (0) (0)] := hB3_0.cells' 0 20 _ rfl rfl
 have g3_0_l := hB3_0.lt
 have gT3_1 : There w3 (w.heap.size + 1) 0 20 := hB3_1.there 0 20 (Nat.le_of_ble_eq_true rfl)
 have g3_1_l := hB3_1.lt
 have HB3 := Lib.hid (show _ ∧ _ from ⟨hB3_0, hB3_1⟩); clear hB3_0 hB3_1
 clear g2_0_10 g2_0_f g2_0_l g2_1_l b0 b1 HB2 hw2
 go_wp2_with fail
 have hF : clearForces0F b = (b.id, b.kd, b.px, b.py, b.an, b.vx, b.vy, b.av, 0, 0, 0, b.ld, b.ad, b.gs, b.bu, b.fr, b.ns, b.sl, b.idl) := by unfold clearForces0F; first | rfl | (simp only [cond_true, cond_false]; done) | (simp only [cond_true, cond_false]; rfl) | simp []
 obtain ⟨b0, b1⟩ := HB3.out
 have hK44 : Bk _ (w.heap.size + 1) 44 #[.int .i64 (b.id), .int .i64 (b.kd), .int .i64 (b.px), .int .i64 (b.py), .int .i64 (b.an), .int .i64 (b.vx), .int .i64 (b.vy), .int .i64 (b.av), .int .i64 (0), .int .i64 (0), .int .i64 (0), .int .i64 (b.ld), .int .i64 (b.ad), .int .i64 (b.gs), .bool (b.bu), .bool (b.fr), .bool (b.ns), .bool (b.sl), .int .i64 (b.idl), .slice (none) (0) (0)] := (b1).setAll' (l := [.int .i64 (b.id), .int .i64 (b.kd), .int .i64 (b.px), .int .i64 (b.py), .int .i64 (b.an), .int .i64 (b.vx), .int .i64 (b.vy), .int .i64 (b.av), .int .i64 (0), .int .i64 (0), .int .i64 (0), .int .i64 (b.ld), .int .i64 (b.ad), .int .i64 (b.gs), .bool (b.bu), .bool (b.fr), .bool (b.ns), .bool (b.sl), .int .i64 (b.idl), .slice (none) (0) (0)]) rfl rfl
 refine bodyPost_ret (v := .agg #[.int .i64 (b.id), .int .i64 (b.kd), .int .i64 (b.px), .int .i64 (b.py), .int .i64 (b.an), .int .i64 (b.vx), .int .i64 (b.vy), .int .i64 (b.av), .int .i64 (0), .int .i64 (0), .int .i64 (0), .int .i64 (b.ld), .int .i64 (b.ad), .int .i64 (b.gs), .bool (b.bu), .bool (b.fr), .bool (b.ns), .bool (b.sl), .int .i64 (b.idl), .slice (none) (0) (0)]) (results_cell_row Tryz.results10 _ _ _ _ _ _ _ rfl hK44 Tryz.underlying44 rfl (by kernel_rfl)) rfl ⟨by rw [hF], ?_⟩
 exact (hw3).setCells (by omega) _
def isSlow0B (b : ObV) : Bool := let r8 : Bool := (!b.ns) && ((decide ((lenI b.vx b.vy) ≤ 4096)) && ((decide ((-4096) ≤ b.av)) && (decide (b.av ≤ 4096)))); r8
theorem isSlow0 (b : ObV) (w : World) :
   Calls Tryz.prog 267 #[.agg (encObV b).toArray] w fun e w' => e = .returned (.bool (isSlow0B b)) ∧ Grw w w' := by
 go_enter Tryz.func267, Tryz.ntmps267
 go_upto_region 1 with (fail)
 refine wp_gen (fun xw => Grw w xw ∧ Bk xw (w.heap.size) 44 (encObV b).toArray) ⟨((Grw.refl w)).alloc _, (Bk.new' (by simp))⟩ ?_
 rintro w1 ⟨hw1, hB1_0⟩
 have g1_0_5 : w1.cell? ⟨w.heap.size, 5, none⟩ = some (.int .i64 (b.vx)) := hB1_0.cell 5
 have g1_0_6 : w1.cell? ⟨w.heap.size, 6, none⟩ = some (.int .i64 (b.vy)) := hB1_0.cell 6
 have g1_0_16 : w1.cell? ⟨w.heap.size, 16, none⟩ = some (.bool (b.ns)) := hB1_0.cell 16
 have g1_0_l := hB1_0.lt
 have HB1 := Lib.hid (show _ from hB1_0); clear hB1_0
 obtain ⟨r8, hr8⟩ : ∃ r : Bool, r = ((!b.ns) && ((decide ((lenI b.vx b.vy) ≤ 4096)) && ((decide ((-4096) ≤ b.av)) && (decide (b.av ≤ 4096))))) := ⟨_, rfl⟩
 have R8 := Lib.hid hr8; clear hr8
 go_cut [2] (fun s2 xw => s2 = .bool (r8) ∧ Grw w xw)
 case first =>
   cases hc2 : (!b.ns)
   · go_wp2_with fail
     go_meet
     case rel =>
       have er8 : r8 = (false) := R8.out.trans (by simp [hc2])
       subst er8
       have b0 := HB1.out
       exact ⟨rfl, hw1⟩
   · cases hc3 : (decide ((lenI b.vx b.vy) ≤ 4096))
     · go_wp2_with fail
       (go_at_call 35; refine (length_any _ _ _).mono ?_; rintro e w4 ⟨rfl, hg4⟩)
       have b0 := HB1.out
       have hB4_0 : Bk w4 (w.heap.size) 44 (encObV b).toArray := (b0).grw hg4
       have hw4 : Grw w w4 := (hw1).trans hg4
       have hs4 : w.heap.size < w4.heap.size := by have h1 := hg4.size; have h2 := g1_0_l; (try simp at h1); omega
       have g4_0_l := hB4_0.lt
       have HB4 := Lib.hid (show _ from hB4_0); clear hB4_0
       clear g1_0_5 g1_0_6 g1_0_16 g1_0_l b0 HB1 hw1 hg4
       go_wp2_with fail
       go_meet
       case rel =>
         have er8 : r8 = (false) := R8.out.trans (by simp [hc2, hc3])
         subst er8
         have b0 := HB4.out
         exact ⟨rfl, hw4⟩
     · cases hc5 : (decide ((-4096) ≤ b.av))
       · go_wp2_with fail
         (go_at_call 35; refine (length_any _ _ _).mono ?_; rintro e w6 ⟨rfl, hg6⟩)
         have b0 := HB1.out
         have hB6_0 : Bk w6 (w.heap.size) 44 (encObV b).toArray := (b0).grw hg6
         have hw6 : Grw w w6 := (hw1).trans hg6
         have hs6 : w.heap.size < w6.heap.size := by have h1 := hg6.size; have h2 := g1_0_l; (try simp at h1); omega
         have g6_0_7 : w6.cell? ⟨w.heap.size, 7, none⟩ = some (.int .i64 (b.av)) := hB6_0.cell 7
         have g6_0_l := hB6_0.lt
         have HB6 := Lib.hid (show _ from hB6_0); clear hB6_0
         clear g1_0_5 g1_0_6 g1_0_16 g1_0_l b0 HB1 hw1 hg6
         go_wp2_with fail
         go_meet
         case rel =>
           have er8 : r8 = (false) := R8.out.trans (by simp [hc2, hc3, hc5])
           subst er8
           have b0 := HB6.out
           exact ⟨rfl, hw6⟩
       · go_wp2_with fail
         (go_at_call 35; refine (length_any _ _ _).mono ?_; rintro e w7 ⟨rfl, hg7⟩)
         have b0 := HB1.out
         have hB7_0 : Bk w7 (w.heap.size) 44 (encObV b).toArray := (b0).grw hg7
         have hw7 : Grw w w7 := (hw1).trans hg7
         have hs7 : w.heap.size < w7.heap.size := by have h1 := hg7.size; have h2 := g1_0_l; (try simp at h1); omega
         have g7_0_7 : w7.cell? ⟨w.heap.size, 7, none⟩ = some (.int .i64 (b.av)) := hB7_0.cell 7
         have g7_0_l := hB7_0.lt
         have HB7 := Lib.hid (show _ from hB7_0); clear hB7_0
         clear g1_0_5 g1_0_6 g1_0_16 g1_0_l b0 HB1 hw1 hg7
         go_wp2_with fail
         go_meet
         case rel =>
           have er8 : r8 = (decide (b.av ≤ 4096)) := R8.out.trans (by simp [hc2, hc3, hc5])
           subst er8
           have b0 := HB7.out
           exact ⟨rfl, hw7⟩
 case rest =>
 obtain ⟨rfl, hw9⟩ := hcut
 obtain ⟨w9, rfl⟩ : ∃ x, x = wc := ⟨_, rfl⟩
 clear g1_0_5 g1_0_6 g1_0_16 g1_0_l HB1 hw1
 go_wp2_with fail
 have hF : isSlow0B b = r8 := by unfold isSlow0B; first | rfl | (simp only [← R8.out, cond_true, cond_false]; done) | (simp only [← R8.out, cond_true, cond_false]; rfl) | simp [← R8.out]
 refine bodyPost_ret (v := .bool (r8)) (by simp [results, Tryz.results267, go_sem]) rfl ⟨by rw [hF], ?_⟩
 exact hw9
def confineF (x v : Int) : Int × Int := let r2 : Int := clampI x (-268435456) 268435456; bif r2 != x then ((r2, 0)) else ((x, v))
theorem confine_any (x v : Int) (w : World) :
   Calls Tryz.prog 195 #[.int .i64 (x), .int .i64 (v)] w fun e w' => e = .returned (.tuple #[.int .i64 ((confineF x v).1), .int .i64 ((confineF x v).2)]) ∧ Grw w w' := by
 go_enter Tryz.func195, Tryz.ntmps195
 go_upto_region 1 with (fail)
 refine wp_gen (fun xw => Grw w xw) ((Grw.refl w)) ?_
 rintro w1 hw1
 go_wp2_with fail
 (go_at_call 149; refine (clamp_any _ _ _ _).mono ?_; rintro e w1 ⟨rfl, rfl⟩)
 obtain ⟨r2, hr2⟩ : ∃ r : Int, r = clampI x (-268435456) 268435456 := ⟨_, rfl⟩
 (try simp only [← hr2])
 have R2 := Lib.hid hr2; clear hr2
 cases hc3 : (r2 != x)
 · go_wp2_with fail
   have hF : confineF x v = (x, v) := by unfold confineF; first | rfl | (simp only [← R2.out, hc3, cond_true, cond_false]; done) | (simp only [← R2.out, hc3, cond_true, cond_false]; rfl) | simp [← R2.out, hc3]
   refine bodyPost_ret (v := .tuple #[.int .i64 (x), .int .i64 (v)]) (by simp [results, Tryz.results195, go_sem]) rfl ⟨by rw [hF], ?_⟩
   exact hw1
 · go_wp2_with fail
   have hF : confineF x v = (r2, 0) := by unfold confineF; first | rfl | (simp only [← R2.out, hc3, cond_true, cond_false]; done) | (simp only [← R2.out, hc3, cond_true, cond_false]; rfl) | simp [← R2.out, hc3]
   refine bodyPost_ret (v := .tuple #[.int .i64 (r2), .int .i64 (0)]) (by simp [results, Tryz.results195, go_sem]) rfl ⟨by rw [hF], ?_⟩
   exact hw1
def trotateF (x an : Int) : Int := let r2 : Int := normA x; let r3 : Int := normA (wrap64 (r2 + an)); r3
theorem trotate_any (x an : Int) (w : World) :
   Calls Tryz.prog 264 #[.int .i64 (x), .int .i64 (an)] w fun e w' => e = .returned (.int .i64 (trotateF x an)) ∧ Grw w w' := by
 go_enter Tryz.func264, Tryz.ntmps264
 go_upto_region 1 with (fail)
 refine wp_gen (fun xw => Grw w xw) ((Grw.refl w)) ?_
 rintro w1 hw1
 go_wp2_with fail
 (go_at_call 280; refine (normA_any _ _).mono ?_; rintro e w1 ⟨rfl, rfl⟩)
 obtain ⟨r2, hr2⟩ : ∃ r : Int, r = normA x := ⟨_, rfl⟩
 (try simp only [← hr2])
 have R2 := Lib.hid hr2; clear hr2
 go_wp2_with fail
 (go_at_call 280; refine (normA_any _ _).mono ?_; rintro e w1 ⟨rfl, rfl⟩)
 obtain ⟨r3, hr3⟩ : ∃ r : Int, r = normA (wrap64 (r2 + an)) := ⟨_, rfl⟩
 (try simp only [← hr3])
 have R3 := Lib.hid hr3; clear hr3
 go_wp2_with fail
 have hF : trotateF x an = r3 := by unfold trotateF; first | rfl | (simp only [← R3.out, ← R2.out, cond_true, cond_false]; done) | (simp only [← R3.out, ← R2.out, cond_true, cond_false]; rfl) | simp [← R3.out, ← R2.out]
 refine bodyPost_ret (v := .int .i64 (r3)) (by simp [results, Tryz.results264, go_sem]) rfl ⟨by rw [hF], ?_⟩
 exact hw1
end
end Go.Proofs.YtokkghhmliplfaaGreat
