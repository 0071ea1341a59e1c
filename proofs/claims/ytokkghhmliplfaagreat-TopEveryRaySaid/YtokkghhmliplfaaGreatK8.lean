/- The row TopEveryRay of the program holds; part 9 of the proof. No condition. -/
import Derived.Test.YtokkghhmliplfaaGreatK7
set_option maxRecDepth 100000
set_option maxHeartbeats 12800000
set_option linter.all false
namespace Go.Proofs.YtokkghhmliplfaaGreat
section
open Go.RowKit Go.Sort
attribute [local go_sem] qAt qUpon okOp okUpon cell_in_grow frozen_in_grow encFixV_eq encBodyV_eq encJointV_eq encPkV_eq encPtV_eq encCtV_eq encMfV_eq encWorldV_eq
attribute [local go_sem ↓] loadAt31 storeAt31 loadAt99 storeAt99 loadAt44 storeAt44 loadAt58 storeAt58 loadAt70 storeAt70 loadAt25 storeAt25 loadAt94 storeAt94 loadAt143 storeAt143
attribute [local go_sem] run_bl31 run_bs31 run_bl99 run_bs99 run_bl44 run_bs44 run_bl58 run_bs58 run_bl70 run_bs70 run_bl25 run_bs25 run_bl94 run_bs94 run_bl143 run_bs143 there_new there_alloc have_in_grow cells_in_grow oc_int oc_bool oc_slice oc_all oc_cons oc_nil List.size_toArray List.length_cons List.length_nil
attribute [local go_sem high] eqR23 eqR94
def validBodiesB_step2 (W : WorldV) (x2 : BodyV) (s : Int) : Sum (Bool) (Int) := let c2_0 := s; let r9 : Bool := ((bodyE x2) != 0) || ((decide (W.nid ≤ x2.id)) || (decide (x2.id ≤ c2_0))); bif r9 then (.inl false) else (.inr (x2.id))
def validBodiesB (W : WorldV) : Bool := (match loopM (validBodiesB_step2 W) W.bl (0) with | .inl r => r | .inr s => let c2_0 := s; true)
theorem validBodies_any (W : WorldV) (w : World) (h_W : WorldOk w W) :
   Calls Tryz.prog 20 #[.agg (encWorldV W).toArray] w fun e w' => e = .returned (.bool (validBodiesB W)) ∧ Grw w w' := by
 have H_W := Lib.hid h_W; clear h_W
 go_enter Tryz.func20, Tryz.ntmps20
 go_upto_region 2 with (fail)
 refine wp_gen (fun xw => Grw w xw ∧ Bk xw (w.heap.size) 31 (encWorldV W).toArray) ⟨((Grw.refl w)).alloc _, (Bk.new' (by simp))⟩ ?_
 rintro w1 ⟨hw1, hB1_0⟩
 have g1_0_5 : w1.cell? ⟨w.heap.size, 5, none⟩ = some (.slice (W.ba) (W.bl.length) (W.bc)) := hB1_0.cell 5
 have g1_0_l := hB1_0.lt
 have HB1 := Lib.hid (show _ from hB1_0); clear hB1_0
 go_wp2_with fail
 have b0 := HB1.out
 go_loopg [9, 3] W.bl.length (fun gm v s3 xw => ∃ (k2 : Nat) (c2_0 : Int), v = .int .i64 k2 ∧ s3 = .int .i64 (c2_0) ∧ k2 ≤ W.bl.length ∧ W.bl.length - k2 ≤ gm ∧ Grw w xw ∧ Bk xw (w.heap.size) 31 (encWorldV W).toArray ∧ loopM (validBodiesB_step2 W) W.bl (0) = loopM (validBodiesB_step2 W) (W.bl.drop k2) (c2_0))
 case atStart => exact ⟨0, 0, rfl, rfl, Nat.zero_le _, Nat.le_refl _, hw1, b0, rfl⟩
 case round =>
 obtain ⟨k2, c2_0, rfl, rfl, hk2, hgm2, hw2, hB2_0, hA2⟩ := hrel
 obtain ⟨w2, rfl⟩ : ∃ x, x = wr := ⟨_, rfl⟩
 obtain ⟨gm2, rfl⟩ : ∃ x, x = gk := ⟨_, rfl⟩
 have HA2 := Lib.hid hA2; have HG2 := Lib.hid hgm2; clear hA2 hgm2
 have g2_0_l := hB2_0.lt
 have HB2 := Lib.hid (show _ from hB2_0); clear hB2_0
 clear g1_0_5 g1_0_l b0 HB1 hw1
 rcases Nat.lt_or_ge k2 W.bl.length with hlt2 | hge2
 · obtain ⟨x2, hx2⟩ : ∃ x, W.bl[k2]? = some x := ⟨W.bl[k2], List.getElem?_eq_getElem hlt2⟩
   obtain ⟨bx2, ox2, he2, hbx2, gEA2, gEC2⟩ := (H_W.out.b.grw hw2).big (fun _ => rfl) hx2
   replace gEC2 : cellsAt w2 bx2 (ox2 + k2 * 20) 20 = (encBodyV x2).toArray := gEC2
   have HRx2 := Lib.hid (H_W.out.bx _ (List.mem_of_getElem? hx2))
   have HX2 := Lib.hid hx2; clear hx2
   have b0 := HB2.out
   go_upto_region 5 with (fail)
   refine wp_gen (fun xw => Grw w xw ∧ Bk xw (w.heap.size) 31 (encWorldV W).toArray ∧ Bk xw (w2.heap.size) 44 (encBodyV x2).toArray) ⟨((hw2).alloc _).setCells (by omega) _, (b0.alloc _).farCells (by omega) _, ((Bk.new' (by simp))).setAll' rfl rfl⟩ ?_
   rintro w3 ⟨hw3, hB3_0, hB3_1⟩
   have g3_0_l := hB3_0.lt
   have gA3_1_0_20 : HaveAll w3 (w2.heap.size) 0 20 := hB3_1.have 0 20 (Nat.le_of_ble_eq_true rfl)
   have gC3_1_0_20 : cellsAt w3 (w2.heap.size) 0 20 = (encBodyV x2).toArray := hB3_1.cells' 0 20 _ rfl rfl
   have g3_1_l := hB3_1.lt
   have HB3 := Lib.hid (show _ ∧ _ from ⟨hB3_0, hB3_1⟩); clear hB3_0 hB3_1
   clear g2_0_l b0 HB2 hw2
   obtain ⟨r9, hr9⟩ : ∃ r : Bool, r = (((bodyE x2) != 0) || ((decide (W.nid ≤ x2.id)) || (decide (x2.id ≤ c2_0)))) := ⟨_, rfl⟩
   have R9 := Lib.hid hr9; clear hr9
   (try simp only [encBodyV_eq, encWorldV_eq, he2])
   go_cut [28] (fun s28 xw => s28 = .bool (r9) ∧ Grw w xw ∧ Bk xw (w.heap.size) 31 (encWorldV W).toArray ∧ Bk xw (w2.heap.size) 44 (encBodyV x2).toArray)
   case first =>
     cases hc4 : ((bodyE x2) != 0)
     · cases hc5 : (decide (W.nid ≤ x2.id))
       · go_wp2_with fail
         (try simp only [← he2])
         (go_at_call 39; refine (body_any x2 _ (HRx2.out.grw (hw3))).mono ?_; rintro e w6 ⟨rfl, hg6⟩)
         obtain ⟨b0, b1⟩ := HB3.out
         have hB6_0 : Bk w6 (w.heap.size) 31 (encWorldV W).toArray := (b0).grw hg6
         have hB6_1 : Bk w6 (w2.heap.size) 44 (encBodyV x2).toArray := (b1).grw hg6
         have hw6 : Grw w w6 := (hw3).trans hg6
         have hs6 : w2.heap.size < w6.heap.size := by have h1 := hg6.size; have h2 := g3_1_l; (try simp at h1); omega
         have g6_0_9 : w6.cell? ⟨w.heap.size, 9, none⟩ = some (.int .i64 (W.nid)) := hB6_0.cell 9
         have g6_0_l := hB6_0.lt
         have g6_1_0 : w6.cell? ⟨w2.heap.size, 0, none⟩ = some (.int .i64 (x2.id)) := hB6_1.cell 0
         have g6_1_l := hB6_1.lt
         have HB6 := Lib.hid (show _ ∧ _ from ⟨hB6_0, hB6_1⟩); clear hB6_0 hB6_1
         clear g3_0_l gA3_1_0_20 gC3_1_0_20 g3_1_l b0 b1 HB3 hw3 hg6
         go_wp2_with fail
         go_meet
         case rel =>
           have er9 : r9 = (decide (x2.id ≤ c2_0)) := R9.out.trans (by simp [hc4, hc5])
           subst er9
           obtain ⟨b0, b1⟩ := HB6.out
           exact ⟨rfl, hw6, b0, b1⟩
       · go_wp2_with fail
         (try simp only [← he2])
         (go_at_call 39; refine (body_any x2 _ (HRx2.out.grw (hw3))).mono ?_; rintro e w7 ⟨rfl, hg7⟩)
         obtain ⟨b0, b1⟩ := HB3.out
         have hB7_0 : Bk w7 (w.heap.size) 31 (encWorldV W).toArray := (b0).grw hg7
         have hB7_1 : Bk w7 (w2.heap.size) 44 (encBodyV x2).toArray := (b1).grw hg7
         have hw7 : Grw w w7 := (hw3).trans hg7
         have hs7 : w2.heap.size < w7.heap.size := by have h1 := hg7.size; have h2 := g3_1_l; (try simp at h1); omega
         have g7_0_9 : w7.cell? ⟨w.heap.size, 9, none⟩ = some (.int .i64 (W.nid)) := hB7_0.cell 9
         have g7_0_l := hB7_0.lt
         have g7_1_0 : w7.cell? ⟨w2.heap.size, 0, none⟩ = some (.int .i64 (x2.id)) := hB7_1.cell 0
         have g7_1_l := hB7_1.lt
         have HB7 := Lib.hid (show _ ∧ _ from ⟨hB7_0, hB7_1⟩); clear hB7_0 hB7_1
         clear g3_0_l gA3_1_0_20 gC3_1_0_20 g3_1_l b0 b1 HB3 hw3 hg7
         go_wp2_with fail
         go_meet
         case rel =>
           have er9 : r9 = (true) := R9.out.trans (by simp [hc4, hc5])
           subst er9
           obtain ⟨b0, b1⟩ := HB7.out
           exact ⟨rfl, hw7, b0, b1⟩
     · go_wp2_with fail
       (try simp only [← he2])
       (go_at_call 39; refine (body_any x2 _ (HRx2.out.grw (hw3))).mono ?_; rintro e w8 ⟨rfl, hg8⟩)
       obtain ⟨b0, b1⟩ := HB3.out
       have hB8_0 : Bk w8 (w.heap.size) 31 (encWorldV W).toArray := (b0).grw hg8
       have hB8_1 : Bk w8 (w2.heap.size) 44 (encBodyV x2).toArray := (b1).grw hg8
       have hw8 : Grw w w8 := (hw3).trans hg8
       have hs8 : w2.heap.size < w8.heap.size := by have h1 := hg8.size; have h2 := g3_1_l; (try simp at h1); omega
       have g8_0_l := hB8_0.lt
       have g8_1_l := hB8_1.lt
       have HB8 := Lib.hid (show _ ∧ _ from ⟨hB8_0, hB8_1⟩); clear hB8_0 hB8_1
       clear g3_0_l gA3_1_0_20 gC3_1_0_20 g3_1_l b0 b1 HB3 hw3 hg8
       go_wp2_with fail
       go_meet
       case rel =>
         have er9 : r9 = (true) := R9.out.trans (by simp [hc4])
         subst er9
         obtain ⟨b0, b1⟩ := HB8.out
         exact ⟨rfl, hw8, b0, b1⟩
   case rest =>
   obtain ⟨rfl, hw10, hB10_0, hB10_1⟩ := hcut
   obtain ⟨w10, rfl⟩ : ∃ x, x = wc := ⟨_, rfl⟩
   have g10_0_l := hB10_0.lt
   have g10_1_0 : w10.cell? ⟨w2.heap.size, 0, none⟩ = some (.int .i64 (x2.id)) := hB10_1.cell 0
   have g10_1_l := hB10_1.lt
   have HB10 := Lib.hid (show _ ∧ _ from ⟨hB10_0, hB10_1⟩); clear hB10_0 hB10_1
   clear g3_0_l gA3_1_0_20 gC3_1_0_20 g3_1_l HB3 hw3
   cases hc11 : (r9)
   · have hln2 := H_W.out.bn
     go_wp2_with fail
     obtain ⟨b0, b1⟩ := HB10.out
     have hS2 : validBodiesB_step2 W x2 (c2_0) = .inr (x2.id) := by unfold validBodiesB_step2; first | rfl | (simp only [← R9.out, hc11, cond_true, cond_false]; done) | (simp only [← R9.out, hc11, cond_true, cond_false]; rfl) | simp [← R9.out, hc11]
     have HS2 := Lib.hid (HA2.out.trans ((loopM_at (f := validBodiesB_step2 W) HX2.out).trans (by rw [hS2])))
     (try simp only [← he2])
     have hgm2 := HG2.out
     go_roundg (W.bl.length - (k2 + 1))
     case measure => omega
     case rel => exact ⟨k2 + 1, x2.id, by go_num, rfl, by omega, Nat.le_refl _, hw10, b0, HS2.out⟩
   · have hS2 : validBodiesB_step2 W x2 (c2_0) = .inl false := by unfold validBodiesB_step2; first | rfl | (simp only [← R9.out, hc11, cond_true, cond_false]; done) | (simp only [← R9.out, hc11, cond_true, cond_false]; rfl) | simp [← R9.out, hc11]
     have hL2 := HA2.out.trans ((loopM_at (f := validBodiesB_step2 W) HX2.out).trans (by rw [hS2]))
     have HL2 := Lib.hid hL2; clear hL2 hS2
     go_wp2_with fail
     have ql0 := HL2.out; (try simp only [hc11] at ql0); have HQ0 := Lib.hid ql0; clear ql0
     have hF : validBodiesB W = false := by unfold validBodiesB; first | rfl | (simp only [HQ0.out, HL2.out, ← R9.out, hc11, cond_true, cond_false]; done) | (simp only [HQ0.out, HL2.out, ← R9.out, hc11, cond_true, cond_false]; rfl) | simp [HQ0.out, HL2.out, ← R9.out, hc11]
     refine bodyPost_ret (v := .bool (false)) (by simp [results, Tryz.results20, go_sem, g10_0_l, g10_1_0, g10_1_l]) rfl ⟨by rw [hF], ?_⟩
     exact hw10
 · obtain rfl : k2 = W.bl.length := by omega
   have HRl2 := Lib.hid (HA2.out.trans (loopM_end (validBodiesB_step2 W) W.bl (c2_0))); clear HA2
   go_wp2_with fail
   have ql0 := HRl2.out; (try simp only [] at ql0); have HQ0 := Lib.hid ql0; clear ql0
   have hF : validBodiesB W = true := by unfold validBodiesB; first | rfl | (simp only [HQ0.out, HRl2.out, cond_true, cond_false]; done) | (simp only [HQ0.out, HRl2.out, cond_true, cond_false]; rfl) | simp [HQ0.out, HRl2.out]
   refine bodyPost_ret (v := .bool (true)) (by simp [results, Tryz.results20, go_sem, g2_0_l]) rfl ⟨by rw [hF], ?_⟩
   exact hw2
def validJointsB_step2 (W : WorldV) (x2 : JointV) (s : Int) : Sum (Bool) (Int) := let c2_0 := s; let r16 : Bool := ((jointE x2) != 0) || ((decide (W.nid ≤ x2.id)) || ((decide (x2.id ≤ c2_0)) || ((!(bodiesExistB W x2)) || (decide (0 ≤ (findBodyI W x2.id)))))); bif r16 then (.inl false) else (.inr (x2.id))
def validJointsB (W : WorldV) : Bool := (match loopM (validJointsB_step2 W) W.jl (0) with | .inl r => r | .inr s => let c2_0 := s; true)
theorem validJoints_any (W : WorldV) (w : World) (h_W : WorldOk w W) :
   Calls Tryz.prog 21 #[.agg (encWorldV W).toArray] w fun e w' => e = .returned (.bool (validJointsB W)) ∧ Grw w w' := by
 have H_W := Lib.hid h_W; clear h_W
 go_enter Tryz.func21, Tryz.ntmps21
 go_upto_region 2 with (fail)
 refine wp_gen (fun xw => Grw w xw ∧ Bk xw (w.heap.size) 31 (encWorldV W).toArray) ⟨((Grw.refl w)).alloc _, (Bk.new' (by simp))⟩ ?_
 rintro w1 ⟨hw1, hB1_0⟩
 have g1_0_6 : w1.cell? ⟨w.heap.size, 6, none⟩ = some (.slice (W.ja) (W.jl.length) (W.jc)) := hB1_0.cell 6
 have g1_0_l := hB1_0.lt
 have HB1 := Lib.hid (show _ from hB1_0); clear hB1_0
 go_wp2_with fail
 have b0 := HB1.out
 go_loopg [9, 3] W.jl.length (fun gm v s3 xw => ∃ (k2 : Nat) (c2_0 : Int), v = .int .i64 k2 ∧ s3 = .int .i64 (c2_0) ∧ k2 ≤ W.jl.length ∧ W.jl.length - k2 ≤ gm ∧ Grw w xw ∧ Bk xw (w.heap.size) 31 (encWorldV W).toArray ∧ loopM (validJointsB_step2 W) W.jl (0) = loopM (validJointsB_step2 W) (W.jl.drop k2) (c2_0))
 case atStart => exact ⟨0, 0, rfl, rfl, Nat.zero_le _, Nat.le_refl _, hw1, b0, rfl⟩
 case round =>
 obtain ⟨k2, c2_0, rfl, rfl, hk2, hgm2, hw2, hB2_0, hA2⟩ := hrel
 obtain ⟨w2, rfl⟩ : ∃ x, x = wr := ⟨_, rfl⟩
 obtain ⟨gm2, rfl⟩ : ∃ x, x = gk := ⟨_, rfl⟩
 have HA2 := Lib.hid hA2; have HG2 := Lib.hid hgm2; clear hA2 hgm2
 have g2_0_l := hB2_0.lt
 have HB2 := Lib.hid (show _ from hB2_0); clear hB2_0
 clear g1_0_6 g1_0_l b0 HB1 hw1
 rcases Nat.lt_or_ge k2 W.jl.length with hlt2 | hge2
 · obtain ⟨x2, hx2⟩ : ∃ x, W.jl[k2]? = some x := ⟨W.jl[k2], List.getElem?_eq_getElem hlt2⟩
   obtain ⟨bx2, ox2, he2, hbx2, gEA2, gEC2⟩ := (H_W.out.j.grw hw2).big (fun _ => rfl) hx2
   replace gEC2 : cellsAt w2 bx2 (ox2 + k2 * 24) 24 = (encJointV x2).toArray := gEC2
   have HX2 := Lib.hid hx2; clear hx2
   have b0 := HB2.out
   go_upto_region 5 with (fail)
   refine wp_gen (fun xw => Grw w xw ∧ Bk xw (w.heap.size) 31 (encWorldV W).toArray ∧ Bk xw (w2.heap.size) 70 (encJointV x2).toArray) ⟨((hw2).alloc _).setCells (by omega) _, (b0.alloc _).farCells (by omega) _, ((Bk.new' (by simp))).setAll' rfl rfl⟩ ?_
   rintro w3 ⟨hw3, hB3_0, hB3_1⟩
   have g3_0_l := hB3_0.lt
   have gA3_1_0_24 : HaveAll w3 (w2.heap.size) 0 24 := hB3_1.have 0 24 (Nat.le_of_ble_eq_true rfl)
   have gC3_1_0_24 : cellsAt w3 (w2.heap.size) 0 24 = (encJointV x2).toArray := hB3_1.cells' 0 24 _ rfl rfl
   have g3_1_l := hB3_1.lt
   have HB3 := Lib.hid (show _ ∧ _ from ⟨hB3_0, hB3_1⟩); clear hB3_0 hB3_1
   clear g2_0_l b0 HB2 hw2
   obtain ⟨r16, hr16⟩ : ∃ r : Bool, r = (((jointE x2) != 0) || ((decide (W.nid ≤ x2.id)) || ((decide (x2.id ≤ c2_0)) || ((!(bodiesExistB W x2)) || (decide (0 ≤ (findBodyI W x2.id))))))) := ⟨_, rfl⟩
   have R16 := Lib.hid hr16; clear hr16
   (try simp only [encJointV_eq, encWorldV_eq, he2])
   go_cut [41] (fun s41 xw => s41 = .bool (r16) ∧ Grw w xw ∧ Bk xw (w.heap.size) 31 (encWorldV W).toArray ∧ Bk xw (w2.heap.size) 70 (encJointV x2).toArray)
   case first =>
     cases hc4 : ((jointE x2) != 0)
     · cases hc5 : (decide (W.nid ≤ x2.id))
       · cases hc6 : (decide (x2.id ≤ c2_0))
         · cases hc7 : (!(bodiesExistB W x2))
           · go_wp2_with fail
             (go_at_call 40; refine (joint_any x2 _).mono ?_; rintro e w8 ⟨rfl, hg8⟩)
             obtain ⟨b0, b1⟩ := HB3.out
             have hB8_0 : Bk w8 (w.heap.size) 31 (encWorldV W).toArray := (b0).grw hg8
             have hB8_1 : Bk w8 (w2.heap.size) 70 (encJointV x2).toArray := (b1).grw hg8
             have hw8 : Grw w w8 := (hw3).trans hg8
             have hs8 : w2.heap.size < w8.heap.size := by have h1 := hg8.size; have h2 := g3_1_l; (try simp at h1); omega
             have g8_0_9 : w8.cell? ⟨w.heap.size, 9, none⟩ = some (.int .i64 (W.nid)) := hB8_0.cell 9
             have gA8_0_0_11 : HaveAll w8 (w.heap.size) 0 11 := hB8_0.have 0 11 (Nat.le_of_ble_eq_true rfl)
             have gC8_0_0_11 : cellsAt w8 (w.heap.size) 0 11 = (encWorldV W).toArray := hB8_0.cells' 0 11 _ rfl rfl
             have g8_0_l := hB8_0.lt
             have g8_1_0 : w8.cell? ⟨w2.heap.size, 0, none⟩ = some (.int .i64 (x2.id)) := hB8_1.cell 0
             have gA8_1_0_24 : HaveAll w8 (w2.heap.size) 0 24 := hB8_1.have 0 24 (Nat.le_of_ble_eq_true rfl)
             have gC8_1_0_24 : cellsAt w8 (w2.heap.size) 0 24 = (encJointV x2).toArray := hB8_1.cells' 0 24 _ rfl rfl
             have g8_1_l := hB8_1.lt
             have HB8 := Lib.hid (show _ ∧ _ from ⟨hB8_0, hB8_1⟩); clear hB8_0 hB8_1
             clear g3_0_l gA3_1_0_24 gC3_1_0_24 g3_1_l b0 b1 HB3 hw3 hg8
             go_wp2_with fail
             (try simp only [← he2])
             (go_at_call 41; refine (bodiesExist_any W x2 _ (H_W.out.grw (hw8))).mono ?_; rintro e w9 ⟨rfl, hg9⟩)
             obtain ⟨b0, b1⟩ := HB8.out
             have hB9_0 : Bk w9 (w.heap.size) 31 (encWorldV W).toArray := (b0).grw hg9
             have hB9_1 : Bk w9 (w2.heap.size) 70 (encJointV x2).toArray := (b1).grw hg9
             have hw9 : Grw w w9 := (hw8).trans hg9
             have hs9 : w2.heap.size < w9.heap.size := by have h1 := hg9.size; have h2 := g8_1_l; (try simp at h1); omega
             have gA9_0_0_11 : HaveAll w9 (w.heap.size) 0 11 := hB9_0.have 0 11 (Nat.le_of_ble_eq_true rfl)
             have gC9_0_0_11 : cellsAt w9 (w.heap.size) 0 11 = (encWorldV W).toArray := hB9_0.cells' 0 11 _ rfl rfl
             have g9_0_l := hB9_0.lt
             have g9_1_0 : w9.cell? ⟨w2.heap.size, 0, none⟩ = some (.int .i64 (x2.id)) := hB9_1.cell 0
             have g9_1_l := hB9_1.lt
             have HB9 := Lib.hid (show _ ∧ _ from ⟨hB9_0, hB9_1⟩); clear hB9_0 hB9_1
             clear g8_0_9 gA8_0_0_11 gC8_0_0_11 g8_0_l g8_1_0 gA8_1_0_24 gC8_1_0_24 g8_1_l b0 b1 HB8 hw8 hg9
             go_wp2_with fail
             (try simp only [← he2])
             (go_at_call 42; refine (findBody_any W x2.id _ (H_W.out.grw (hw9))).mono ?_; rintro e w10 ⟨rfl, hg10⟩)
             obtain ⟨b0, b1⟩ := HB9.out
             have hB10_0 : Bk w10 (w.heap.size) 31 (encWorldV W).toArray := (b0).grw hg10
             have hB10_1 : Bk w10 (w2.heap.size) 70 (encJointV x2).toArray := (b1).grw hg10
             have hw10 : Grw w w10 := (hw9).trans hg10
             have hs10 : w2.heap.size < w10.heap.size := by have h1 := hg10.size; have h2 := g9_1_l; (try simp at h1); omega
             have g10_0_l := hB10_0.lt
             have g10_1_l := hB10_1.lt
             have HB10 := Lib.hid (show _ ∧ _ from ⟨hB10_0, hB10_1⟩); clear hB10_0 hB10_1
             clear gA9_0_0_11 gC9_0_0_11 g9_0_l g9_1_0 g9_1_l b0 b1 HB9 hw9 hg10
             go_wp2_with fail
             go_meet
             case rel =>
               have er16 : r16 = (decide (0 ≤ (findBodyI W x2.id))) := R16.out.trans (by simp [hc4, hc5, hc6, hc7])
               subst er16
               obtain ⟨b0, b1⟩ := HB10.out
               exact ⟨rfl, hw10, b0, b1⟩
           · go_wp2_with fail
             (go_at_call 40; refine (joint_any x2 _).mono ?_; rintro e w11 ⟨rfl, hg11⟩)
             obtain ⟨b0, b1⟩ := HB3.out
             have hB11_0 : Bk w11 (w.heap.size) 31 (encWorldV W).toArray := (b0).grw hg11
             have hB11_1 : Bk w11 (w2.heap.size) 70 (encJointV x2).toArray := (b1).grw hg11
             have hw11 : Grw w w11 := (hw3).trans hg11
             have hs11 : w2.heap.size < w11.heap.size := by have h1 := hg11.size; have h2 := g3_1_l; (try simp at h1); omega
             have g11_0_9 : w11.cell? ⟨w.heap.size, 9, none⟩ = some (.int .i64 (W.nid)) := hB11_0.cell 9
             have gA11_0_0_11 : HaveAll w11 (w.heap.size) 0 11 := hB11_0.have 0 11 (Nat.le_of_ble_eq_true rfl)
             have gC11_0_0_11 : cellsAt w11 (w.heap.size) 0 11 = (encWorldV W).toArray := hB11_0.cells' 0 11 _ rfl rfl
             have g11_0_l := hB11_0.lt
             have g11_1_0 : w11.cell? ⟨w2.heap.size, 0, none⟩ = some (.int .i64 (x2.id)) := hB11_1.cell 0
             have gA11_1_0_24 : HaveAll w11 (w2.heap.size) 0 24 := hB11_1.have 0 24 (Nat.le_of_ble_eq_true rfl)
             have gC11_1_0_24 : cellsAt w11 (w2.heap.size) 0 24 = (encJointV x2).toArray := hB11_1.cells' 0 24 _ rfl rfl
             have g11_1_l := hB11_1.lt
             have HB11 := Lib.hid (show _ ∧ _ from ⟨hB11_0, hB11_1⟩); clear hB11_0 hB11_1
             clear g3_0_l gA3_1_0_24 gC3_1_0_24 g3_1_l b0 b1 HB3 hw3 hg11
             go_wp2_with fail
             (try simp only [← he2])
             (go_at_call 41; refine (bodiesExist_any W x2 _ (H_W.out.grw (hw11))).mono ?_; rintro e w12 ⟨rfl, hg12⟩)
             obtain ⟨b0, b1⟩ := HB11.out
             have hB12_0 : Bk w12 (w.heap.size) 31 (encWorldV W).toArray := (b0).grw hg12
             have hB12_1 : Bk w12 (w2.heap.size) 70 (encJointV x2).toArray := (b1).grw hg12
             have hw12 : Grw w w12 := (hw11).trans hg12
             have hs12 : w2.heap.size < w12.heap.size := by have h1 := hg12.size; have h2 := g11_1_l; (try simp at h1); omega
             have g12_0_l := hB12_0.lt
             have g12_1_l := hB12_1.lt
             have HB12 := Lib.hid (show _ ∧ _ from ⟨hB12_0, hB12_1⟩); clear hB12_0 hB12_1
             clear g11_0_9 gA11_0_0_11 gC11_0_0_11 g11_0_l g11_1_0 gA11_1_0_24 gC11_1_0_24 g11_1_l b0 b1 HB11 hw11 hg12
             go_wp2_with fail
             go_meet
             case rel =>
               have er16 : r16 = (true) := R16.out.trans (by simp [hc4, hc5, hc6, hc7])
               subst er16
               obtain ⟨b0, b1⟩ := HB12.out
               exact ⟨rfl, hw12, b0, b1⟩
         · go_wp2_with fail
           (go_at_call 40; refine (joint_any x2 _).mono ?_; rintro e w13 ⟨rfl, hg13⟩)
           obtain ⟨b0, b1⟩ := HB3.out
           have hB13_0 : Bk w13 (w.heap.size) 31 (encWorldV W).toArray := (b0).grw hg13
           have hB13_1 : Bk w13 (w2.heap.size) 70 (encJointV x2).toArray := (b1).grw hg13
           have hw13 : Grw w w13 := (hw3).trans hg13
           have hs13 : w2.heap.size < w13.heap.size := by have h1 := hg13.size; have h2 := g3_1_l; (try simp at h1); omega
           have g13_0_9 : w13.cell? ⟨w.heap.size, 9, none⟩ = some (.int .i64 (W.nid)) := hB13_0.cell 9
           have g13_0_l := hB13_0.lt
           have g13_1_0 : w13.cell? ⟨w2.heap.size, 0, none⟩ = some (.int .i64 (x2.id)) := hB13_1.cell 0
           have g13_1_l := hB13_1.lt
           have HB13 := Lib.hid (show _ ∧ _ from ⟨hB13_0, hB13_1⟩); clear hB13_0 hB13_1
           clear g3_0_l gA3_1_0_24 gC3_1_0_24 g3_1_l b0 b1 HB3 hw3 hg13
           go_wp2_with fail
           go_meet
           case rel =>
             have er16 : r16 = (true) := R16.out.trans (by simp [hc4, hc5, hc6])
             subst er16
             obtain ⟨b0, b1⟩ := HB13.out
             exact ⟨rfl, hw13, b0, b1⟩
       · go_wp2_with fail
         (go_at_call 40; refine (joint_any x2 _).mono ?_; rintro e w14 ⟨rfl, hg14⟩)
         obtain ⟨b0, b1⟩ := HB3.out
         have hB14_0 : Bk w14 (w.heap.size) 31 (encWorldV W).toArray := (b0).grw hg14
         have hB14_1 : Bk w14 (w2.heap.size) 70 (encJointV x2).toArray := (b1).grw hg14
         have hw14 : Grw w w14 := (hw3).trans hg14
         have hs14 : w2.heap.size < w14.heap.size := by have h1 := hg14.size; have h2 := g3_1_l; (try simp at h1); omega
         have g14_0_9 : w14.cell? ⟨w.heap.size, 9, none⟩ = some (.int .i64 (W.nid)) := hB14_0.cell 9
         have g14_0_l := hB14_0.lt
         have g14_1_0 : w14.cell? ⟨w2.heap.size, 0, none⟩ = some (.int .i64 (x2.id)) := hB14_1.cell 0
         have g14_1_l := hB14_1.lt
         have HB14 := Lib.hid (show _ ∧ _ from ⟨hB14_0, hB14_1⟩); clear hB14_0 hB14_1
         clear g3_0_l gA3_1_0_24 gC3_1_0_24 g3_1_l b0 b1 HB3 hw3 hg14
         go_wp2_with fail
         go_meet
         case rel =>
           have er16 : r16 = (true) := R16.out.trans (by simp [hc4, hc5])
           subst er16
           obtain ⟨b0, b1⟩ := HB14.out
           exact ⟨rfl, hw14, b0, b1⟩
     · go_wp2_with fail
       (go_at_call 40; refine (joint_any x2 _).mono ?_; rintro e w15 ⟨rfl, hg15⟩)
       obtain ⟨b0, b1⟩ := HB3.out
       have hB15_0 : Bk w15 (w.heap.size) 31 (encWorldV W).toArray := (b0).grw hg15
       have hB15_1 : Bk w15 (w2.heap.size) 70 (encJointV x2).toArray := (b1).grw hg15
       have hw15 : Grw w w15 := (hw3).trans hg15
       have hs15 : w2.heap.size < w15.heap.size := by have h1 := hg15.size; have h2 := g3_1_l; (try simp at h1); omega
       have g15_0_l := hB15_0.lt
       have g15_1_l := hB15_1.lt
       have HB15 := Lib.hid (show _ ∧ _ from ⟨hB15_0, hB15_1⟩); clear hB15_0 hB15_1
       clear g3_0_l gA3_1_0_24 gC3_1_0_24 g3_1_l b0 b1 HB3 hw3 hg15
       go_wp2_with fail
       go_meet
       case rel =>
         have er16 : r16 = (true) := R16.out.trans (by simp [hc4])
         subst er16
         obtain ⟨b0, b1⟩ := HB15.out
         exact ⟨rfl, hw15, b0, b1⟩
   case rest =>
   obtain ⟨rfl, hw17, hB17_0, hB17_1⟩ := hcut
   obtain ⟨w17, rfl⟩ : ∃ x, x = wc := ⟨_, rfl⟩
   have g17_0_l := hB17_0.lt
   have g17_1_0 : w17.cell? ⟨w2.heap.size, 0, none⟩ = some (.int .i64 (x2.id)) := hB17_1.cell 0
   have g17_1_l := hB17_1.lt
   have HB17 := Lib.hid (show _ ∧ _ from ⟨hB17_0, hB17_1⟩); clear hB17_0 hB17_1
   clear g3_0_l gA3_1_0_24 gC3_1_0_24 g3_1_l HB3 hw3
   cases hc18 : (r16)
   · have hln2 := H_W.out.jn
     go_wp2_with fail
     obtain ⟨b0, b1⟩ := HB17.out
     have hS2 : validJointsB_step2 W x2 (c2_0) = .inr (x2.id) := by unfold validJointsB_step2; first | rfl | (simp only [← R16.out, hc18, cond_true, cond_false]; done) | (simp only [← R16.out, hc18, cond_true, cond_false]; rfl) | simp [← R16.out, hc18]
     have HS2 := Lib.hid (HA2.out.trans ((loopM_at (f := validJointsB_step2 W) HX2.out).trans (by rw [hS2])))
     (try simp only [← he2])
     have hgm2 := HG2.out
     go_roundg (W.jl.length - (k2 + 1))
     case measure => omega
     case rel => exact ⟨k2 + 1, x2.id, by go_num, rfl, by omega, Nat.le_refl _, hw17, b0, HS2.out⟩
   · have hS2 : validJointsB_step2 W x2 (c2_0) = .inl false := by unfold validJointsB_step2; first | rfl | (simp only [← R16.out, hc18, cond_true, cond_false]; done) | (simp only [← R16.out, hc18, cond_true, cond_false]; rfl) | simp [← R16.out, hc18]
     have hL2 := HA2.out.trans ((loopM_at (f := validJointsB_step2 W) HX2.out).trans (by rw [hS2]))
     have HL2 := Lib.hid hL2; clear hL2 hS2
     go_wp2_with fail
     have ql0 := HL2.out; (try simp only [hc18] at ql0); have HQ0 := Lib.hid ql0; clear ql0
     have hF : validJointsB W = false := by unfold validJointsB; first | rfl | (simp only [HQ0.out, HL2.out, ← R16.out, hc18, cond_true, cond_false]; done) | (simp only [HQ0.out, HL2.out, ← R16.out, hc18, cond_true, cond_false]; rfl) | simp [HQ0.out, HL2.out, ← R16.out, hc18]
     refine bodyPost_ret (v := .bool (false)) (by simp [results, Tryz.results21, go_sem, g17_0_l, g17_1_0, g17_1_l]) rfl ⟨by rw [hF], ?_⟩
     exact hw17
 · obtain rfl : k2 = W.jl.length := by omega
   have HRl2 := Lib.hid (HA2.out.trans (loopM_end (validJointsB_step2 W) W.jl (c2_0))); clear HA2
   go_wp2_with fail
   have ql0 := HRl2.out; (try simp only [] at ql0); have HQ0 := Lib.hid ql0; clear ql0
   have hF : validJointsB W = true := by unfold validJointsB; first | rfl | (simp only [HQ0.out, HRl2.out, cond_true, cond_false]; done) | (simp only [HQ0.out, HRl2.out, cond_true, cond_false]; rfl) | simp [HQ0.out, HRl2.out]
   refine bodyPost_ret (v := .bool (true)) (by simp [results, Tryz.results21, go_sem, g2_0_l]) rfl ⟨by rw [hF], ?_⟩
   exact hw2
theorem firstIx_lt {α : Type} {p : α → Bool} {l : List α} (h : 0 ≤ firstIx p l) : firstIx p l < l.length := by
 unfold firstIx at *
 split
 · rename_i i hi
   have := (List.findIdx?_eq_some_iff_getElem.1 hi).1
   omega
 · rename_i hi; rw [hi] at h; simp at h
theorem findBody_lt {W : WorldV} {id : Int} (h : 0 ≤ findBodyI W id) : findBodyI W id < W.bl.length := firstIx_lt h
def fixturesExistB (W : WorldV) (k : PkV) : Bool := let r3 : Int := findBodyI W k.a; let r4 : Int := findBodyI W k.b; let r11 : Bool := (decide (0 ≤ r3)) && ((decide (0 ≤ r4)) && ((decide (k.fa < ((nth W.bl r3.toNat BodyV.d).fl.length : Int))) && (decide (k.fb < ((nth W.bl r4.toNat BodyV.d).fl.length : Int))))); r11
theorem fixturesExist_any (W : WorldV) (k : PkV) (w : World) (h_W : WorldOk w W) :
   Calls Tryz.prog 48 #[.agg (encWorldV W).toArray, .agg (encPkV k).toArray] w fun e w' => e = .returned (.bool (fixturesExistB W k)) ∧ Grw w w' := by
 have H_W := Lib.hid h_W; clear h_W
 go_enter Tryz.func48, Tryz.ntmps48
 go_upto_region 1 with (fail)
 refine wp_gen (fun xw => Grw w xw ∧ Bk xw (w.heap.size) 31 (encWorldV W).toArray ∧ Bk xw (w.heap.size + 1) 94 (encPkV k).toArray) ⟨(((Grw.refl w)).alloc _).alloc _, (Bk.new' (by simp)).alloc _, (Bk.new' (by simp))⟩ ?_
 rintro w1 ⟨hw1, hB1_0, hB1_1⟩
 have gA1_0_0_11 : HaveAll w1 (w.heap.size) 0 11 := hB1_0.have 0 11 (Nat.le_of_ble_eq_true rfl)
 have gC1_0_0_11 : cellsAt w1 (w.heap.size) 0 11 = (encWorldV W).toArray := hB1_0.cells' 0 11 _ rfl rfl
 have g1_0_l := hB1_0.lt
 have g1_1_0 : w1.cell? ⟨w.heap.size + 1, 0, none⟩ = some (.int .i64 (k.a)) := hB1_1.cell 0
 have g1_1_2 : w1.cell? ⟨w.heap.size + 1, 2, none⟩ = some (.int .i64 (k.b)) := hB1_1.cell 2
 have g1_1_l := hB1_1.lt
 have HB1 := Lib.hid (show _ ∧ _ from ⟨hB1_0, hB1_1⟩); clear hB1_0 hB1_1
 refine wp_region_flowA 8 (by kernel_rfl) (by kernel_rfl) ?_
 simp only [tD]
 iterate 3 (refine wpQ_step (fun K hK => ?_); go_simp; refine hK _ ?_; clear hK K)
 refine wpQ_step (fun K hK => ?_); go_simp; apply Exists.intro; refine ⟨fun _ => ?_, hK _ ?_⟩; (go_at_call 42; exact (findBody_any W k.a _ (H_W.out.grw ((hw1).trans (Grw.mk _ _))))); clear hK K
 iterate 3 (refine wpQ_step (fun K hK => ?_); go_simp; refine hK _ ?_; clear hK K)
 refine wpQ_step (fun K hK => ?_); go_simp; apply Exists.intro; refine ⟨fun _ => ?_, hK _ ?_⟩; (go_at_call 42; exact (findBody_any W k.b _ (H_W.out.grw ((hw1).trans (Grw.mk _ _))))); clear hK K
 refine wpQ_nil ?_
 intro w2 hg2
 obtain ⟨r3, hr3⟩ : ∃ r : Int, r = findBodyI W k.a := ⟨_, rfl⟩
 (try simp only [← hr3])
 have R3 := Lib.hid hr3; clear hr3
 obtain ⟨r4, hr4⟩ : ∃ r : Int, r = findBodyI W k.b := ⟨_, rfl⟩
 (try simp only [← hr4])
 have R4 := Lib.hid hr4; clear hr4
 obtain ⟨b0, b1⟩ := HB1.out
 have hB2_0 : Bk w2 (w.heap.size) 31 (encWorldV W).toArray := (b0).grw hg2
 have hB2_1 : Bk w2 (w.heap.size + 1) 94 (encPkV k).toArray := (b1).grw hg2
 have hw2 : Grw w w2 := (hw1).trans hg2
 have hs2 : w.heap.size + 1 < w2.heap.size := by have h1 := hg2.size; have h2 := g1_1_l; (try simp at h1); omega
 have g2_0_5 : w2.cell? ⟨w.heap.size, 5, none⟩ = some (.slice (W.ba) (W.bl.length) (W.bc)) := hB2_0.cell 5
 have g2_0_l := hB2_0.lt
 have g2_1_1 : w2.cell? ⟨w.heap.size + 1, 1, none⟩ = some (.int .i64 (k.fa)) := hB2_1.cell 1
 have g2_1_3 : w2.cell? ⟨w.heap.size + 1, 3, none⟩ = some (.int .i64 (k.fb)) := hB2_1.cell 3
 have g2_1_l := hB2_1.lt
 have HB2 := Lib.hid (show _ ∧ _ from ⟨hB2_0, hB2_1⟩); clear hB2_0 hB2_1
 clear gA1_0_0_11 gC1_0_0_11 g1_0_l g1_1_0 g1_1_2 g1_1_l b0 b1 HB1 hw1 hg2
 go_upto_region 2 with (fail)
 obtain ⟨r11, hr11⟩ : ∃ r : Bool, r = ((decide (0 ≤ r3)) && ((decide (0 ≤ r4)) && ((decide (k.fa < ((nth W.bl r3.toNat BodyV.d).fl.length : Int))) && (decide (k.fb < ((nth W.bl r4.toNat BodyV.d).fl.length : Int)))))) := ⟨_, rfl⟩
 have R11 := Lib.hid hr11; clear hr11
 go_cut [4] (fun s4 xw => s4 = .bool (r11) ∧ Grw w xw)
 case first =>
   cases hc5 : (decide (0 ≤ r3))
   · go_upto_region 2 with (fail)
     go_region
     go_wp2_with fail
     go_meet
     case rel =>
       have er11 : r11 = (false) := R11.out.trans (by simp [hc5])
       subst er11
       obtain ⟨b0, b1⟩ := HB2.out
       exact ⟨rfl, by (repeat with_reducible first | exact .refl _ | assumption | refine .setAt ?_ (by first | omega | simp <;> omega) _ | refine .setCells ?_ (by first | omega | simp <;> omega) _ | refine .alloc ?_ _ | refine .drewN ?_ _ | refine .drew ?_ | refine .trans ?_ (by assumption))⟩
   · cases hc6 : (decide (0 ≤ r4))
     · go_upto_region 2 with (fail)
       go_region
       go_wp2_with fail
       go_meet
       case rel =>
         have er11 : r11 = (false) := R11.out.trans (by simp [hc5, hc6])
         subst er11
         obtain ⟨b0, b1⟩ := HB2.out
         exact ⟨rfl, by (repeat with_reducible first | exact .refl _ | assumption | refine .setAt ?_ (by first | omega | simp <;> omega) _ | refine .setCells ?_ (by first | omega | simp <;> omega) _ | refine .alloc ?_ _ | refine .drewN ?_ _ | refine .drew ?_ | refine .trans ?_ (by assumption))⟩
     · cases hc7 : (decide (k.fa < ((nth W.bl r3.toNat BodyV.d).fl.length : Int)))
       · go_upto_region 2 with (fail)
         have ha8 : 0 ≤ r3 := of_decide_eq_true hc5
         have hb8 : r3 < (W.bl.length : Int) := by rw [R3.out] at *; exact findBody_lt ha8
         have hx8 : W.bl[r3.toNat]? = some (nth W.bl r3.toNat BodyV.d) := getD_of _ (by omega)
         obtain ⟨bx8, ox8, he8, hbx8, hcx8⟩ := (H_W.out.b.grw (hw2)) _ _ hx8; clear hx8
         have gx8_19 : w2.cell? ⟨bx8, ox8 + r3.toNat * 20 + 19, none⟩ = some (.slice ((nth W.bl r3.toNat BodyV.d).fa) ((nth W.bl r3.toNat BodyV.d).fl.length) ((nth W.bl r3.toNat BodyV.d).fc)) := by simpa [Nat.add_assoc] using hcx8 19 _ rfl
         go_region
         go_wp2_with fail
         (try simp only [← he8])
         go_meet
         case rel =>
           have er11 : r11 = (false) := R11.out.trans (by simp [hc5, hc6, hc7])
           subst er11
           obtain ⟨b0, b1⟩ := HB2.out
           exact ⟨rfl, by (repeat with_reducible first | exact .refl _ | assumption | refine .setAt ?_ (by first | omega | simp <;> omega) _ | refine .setCells ?_ (by first | omega | simp <;> omega) _ | refine .alloc ?_ _ | refine .drewN ?_ _ | refine .drew ?_ | refine .trans ?_ (by assumption))⟩
       · go_upto_region 2 with (fail)
         have ha9 : 0 ≤ r3 := of_decide_eq_true hc5
         have hb9 : r3 < (W.bl.length : Int) := by rw [R3.out] at *; exact findBody_lt ha9
         have hx9 : W.bl[r3.toNat]? = some (nth W.bl r3.toNat BodyV.d) := getD_of _ (by omega)
         obtain ⟨bx9, ox9, he9, hbx9, hcx9⟩ := (H_W.out.b.grw (hw2)) _ _ hx9; clear hx9
         have gx9_19 : w2.cell? ⟨bx9, ox9 + r3.toNat * 20 + 19, none⟩ = some (.slice ((nth W.bl r3.toNat BodyV.d).fa) ((nth W.bl r3.toNat BodyV.d).fl.length) ((nth W.bl r3.toNat BodyV.d).fc)) := by simpa [Nat.add_assoc] using hcx9 19 _ rfl
         have ha10 : 0 ≤ r4 := of_decide_eq_true hc6
         have hb10 : r4 < (W.bl.length : Int) := by rw [R4.out] at *; exact findBody_lt ha10
         have hx10 : W.bl[r4.toNat]? = some (nth W.bl r4.toNat BodyV.d) := getD_of _ (by omega)
         obtain ⟨bx10, ox10, he10, hbx10, hcx10⟩ := (H_W.out.b.grw (hw2)) _ _ hx10; clear hx10
         obtain ⟨rfl, rfl⟩ : bx9 = bx10 ∧ ox9 = ox10 := by have h1 := he9.symm.trans he10; simpa using h1
         clear he10
         have gx10_19 : w2.cell? ⟨bx9, ox9 + r4.toNat * 20 + 19, none⟩ = some (.slice ((nth W.bl r4.toNat BodyV.d).fa) ((nth W.bl r4.toNat BodyV.d).fl.length) ((nth W.bl r4.toNat BodyV.d).fc)) := by simpa [Nat.add_assoc] using hcx10 19 _ rfl
         go_region
         go_wp2_with fail
         (try simp only [← he9])
         go_meet
         case rel =>
           have er11 : r11 = (decide (k.fb < ((nth W.bl r4.toNat BodyV.d).fl.length : Int))) := R11.out.trans (by simp [hc5, hc6, hc7])
           subst er11
           obtain ⟨b0, b1⟩ := HB2.out
           exact ⟨rfl, by (repeat with_reducible first | exact .refl _ | assumption | refine .setAt ?_ (by first | omega | simp <;> omega) _ | refine .setCells ?_ (by first | omega | simp <;> omega) _ | refine .alloc ?_ _ | refine .drewN ?_ _ | refine .drew ?_ | refine .trans ?_ (by assumption))⟩
 case rest =>
 obtain ⟨rfl, hw12⟩ := hcut
 obtain ⟨w12, rfl⟩ : ∃ x, x = wc := ⟨_, rfl⟩
 clear g2_0_5 g2_0_l g2_1_1 g2_1_3 g2_1_l HB2 hw2
 go_wp2_with fail
 have hF : fixturesExistB W k = r11 := by unfold fixturesExistB; first | rfl | (simp only [← R11.out, ← R4.out, ← R3.out, cond_true, cond_false]; done) | (simp only [← R11.out, ← R4.out, ← R3.out, cond_true, cond_false]; rfl) | simp [← R11.out, ← R4.out, ← R3.out]
 refine bodyPost_ret (v := .bool (r11)) (by simp [results, Tryz.results48, go_sem]) rfl ⟨by rw [hF], ?_⟩
 exact hw12
def vc1B (k : PkV) (W : WorldV) : Bool := let r3 : Bool := fixturesExistB W k; (!r3)
theorem vc1_any (k : PkV) (W : WorldV) (n : Nat) (w : World) (h_W : WorldOk w W) (hb_n : Bk w n 31 (encWorldV W).toArray) :
   Calls Tryz.prog 47 #[.agg (encPkV k).toArray, .pointer (some ⟨n, 0, none⟩)] w fun e w' => e = .returned (.bool (vc1B k W)) ∧ Grw w w' := by
 have H_W := Lib.hid h_W; clear h_W
 go_enter Tryz.func47, Tryz.ntmps47
 have hB_0 := hb_n; clear hb_n
 have g_0_l := hB_0.lt
 have HB := Lib.hid (show _ from hB_0); clear hB_0
 have b0 := HB.out
 go_upto_region 1 with (fail)
 refine wp_gen (fun xw => Grw w xw ∧ Bk xw (n) 31 (encWorldV W).toArray ∧ Bk xw (w.heap.size) 94 (encPkV k).toArray) ⟨((Grw.refl w)).alloc _, b0.alloc _, (Bk.new' (by simp))⟩ ?_
 rintro w1 ⟨hw1, hB1_0, hB1_1⟩
 have gA1_0_0_11 : HaveAll w1 (n) 0 11 := hB1_0.have 0 11 (Nat.le_of_ble_eq_true rfl)
 have gC1_0_0_11 : cellsAt w1 (n) 0 11 = (encWorldV W).toArray := hB1_0.cells' 0 11 _ rfl rfl
 have g1_0_l := hB1_0.lt
 have gA1_1_0_4 : HaveAll w1 (w.heap.size) 0 4 := hB1_1.have 0 4 (Nat.le_of_ble_eq_true rfl)
 have gC1_1_0_4 : cellsAt w1 (w.heap.size) 0 4 = (encPkV k).toArray := hB1_1.cells' 0 4 _ rfl rfl
 have g1_1_l := hB1_1.lt
 have HB1 := Lib.hid (show _ ∧ _ from ⟨hB1_0, hB1_1⟩); clear hB1_0 hB1_1
 clear g_0_l b0 HB
 go_wp2_with fail
 (go_at_call 48; refine (fixturesExist_any W k _ (H_W.out.grw (hw1))).mono ?_; rintro e w2 ⟨rfl, hg2⟩)
 obtain ⟨r3, hr3⟩ : ∃ r : Bool, r = fixturesExistB W k := ⟨_, rfl⟩
 (try simp only [← hr3])
 have R3 := Lib.hid hr3; clear hr3
 obtain ⟨b0, b1⟩ := HB1.out
 have hB2_0 : Bk w2 (n) 31 (encWorldV W).toArray := (b0).grw hg2
 have hB2_1 : Bk w2 (w.heap.size) 94 (encPkV k).toArray := (b1).grw hg2
 have hw2 : Grw w w2 := (hw1).trans hg2
 have hs2 : w.heap.size < w2.heap.size := by have h1 := hg2.size; have h2 := g1_1_l; (try simp at h1); omega
 have g2_0_l := hB2_0.lt
 have g2_1_l := hB2_1.lt
 have HB2 := Lib.hid (show _ ∧ _ from ⟨hB2_0, hB2_1⟩); clear hB2_0 hB2_1
 clear gA1_0_0_11 gC1_0_0_11 g1_0_l gA1_1_0_4 gC1_1_0_4 g1_1_l b0 b1 HB1 hw1 hg2
 go_wp2_with fail
 have hF : vc1B k W = (!r3) := by unfold vc1B; first | rfl | (simp only [← R3.out, cond_true, cond_false]; done) | (simp only [← R3.out, cond_true, cond_false]; rfl) | simp [← R3.out]
 refine bodyPost_ret (v := .bool (!r3)) (by simp [results, Tryz.results47, go_sem, g2_0_l, g2_1_l]) rfl ⟨by rw [hF], ?_⟩
 exact hw2
end
end Go.Proofs.YtokkghhmliplfaaGreat
