/- The row TopEveryRay of the program holds; part 12 of the proof. No condition. -/
import Derived.Test.YtokkghhmliplfaaGreatK10
import Derived.Shelf.SlSortCmp.WholeK
import Derived.Shelf.SlSortCmp.NoneTotal
import Derived.Ground.SlsfProg
set_option maxRecDepth 100000
set_option maxHeartbeats 12800000
set_option linter.all false
namespace Go.Proofs.YtokkghhmliplfaaGreat
section
open Go.RowKit Go.Sort
attribute [local go_sem] qAt qUpon okOp okUpon cell_in_grow frozen_in_grow encFixV_eq encBodyV_eq encJointV_eq encPkV_eq encPtV_eq encCtV_eq encMfV_eq encWorldV_eq
attribute [local go_sem ↓] loadAt31 storeAt31 loadAt99 storeAt99 loadAt44 storeAt44 loadAt58 storeAt58 loadAt70 storeAt70 loadAt25 storeAt25 loadAt94 storeAt94 loadAt143 storeAt143
attribute [local go_sem] run_bl31 run_bs31 run_bl99 run_bs99 run_bl44 run_bs44 run_bl58 run_bs58 run_bl70 run_bs70 run_bl25 run_bs25 run_bl94 run_bs94 run_bl143 run_bs143 there_new there_alloc have_in_grow cells_in_grow oc_int oc_bool oc_slice oc_all oc_cons oc_nil List.size_toArray List.length_cons List.length_nil
attribute [local go_sem high] eqR23 eqR94
def validateE (W : WorldV) : Int := let r3 : Int := settingsE W.ts W.gx W.gy W.it W.ss; bif r3 != 0 then (17) else (let r8 : Bool := (decide (32 < (W.bl.length : Int))) || ((decide (32 < (W.jl.length : Int))) || ((decide (8192 < (W.cl.length : Int))) || (decide (8192 < (W.ol.length : Int))))); bif r8 then (11) else (let r12 : Bool := (!(winB W.nid 1 1099511627776)) || (!(winB W.frame 0 1099511627776)); bif r12 then (6) else (let r16 : Bool := validBodiesB W; bif !r16 then (14) else (let r19 : Bool := validJointsB W; bif !r19 then (15) else (let r22 : Bool := validContactsB W; bif !r22 then (16) else (0))))))
theorem validate_any (W : WorldV) (w : World) (h_W : WorldOk w W) :
   Calls Tryz.prog 5 #[.agg (encWorldV W).toArray] w fun e w' => e = .returned (.int .i64 (validateE W)) ∧ Grw w w' := by
 have H_W := Lib.hid h_W; clear h_W
 go_enter Tryz.func5, Tryz.ntmps5
 go_upto_region 1 with (fail)
 refine wp_gen (fun xw => Grw w xw ∧ Bk xw (w.heap.size) 31 (encWorldV W).toArray) ⟨((Grw.refl w)).alloc _, (Bk.new' (by simp))⟩ ?_
 rintro w1 ⟨hw1, hB1_0⟩
 have gA1_0_0_5 : HaveAll w1 (w.heap.size) 0 5 := hB1_0.have 0 5 (Nat.le_of_ble_eq_true rfl)
 have gC1_0_0_5 : cellsAt w1 (w.heap.size) 0 5 = #[.int .i64 (W.ts), .int .i64 (W.gx), .int .i64 (W.gy), .int .i64 (W.it), .int .i64 (W.ss)] := hB1_0.cells' 0 5 _ rfl rfl
 have g1_0_l := hB1_0.lt
 have HB1 := Lib.hid (show _ from hB1_0); clear hB1_0
 go_wp2_with fail
 (go_at_call 18; refine (settings_any W.ts W.gx W.gy W.it W.ss _).mono ?_; rintro e w2 ⟨rfl, hg2⟩)
 obtain ⟨r3, hr3⟩ : ∃ r : Int, r = settingsE W.ts W.gx W.gy W.it W.ss := ⟨_, rfl⟩
 (try simp only [← hr3])
 have R3 := Lib.hid hr3; clear hr3
 have b0 := HB1.out
 have hB2_0 : Bk w2 (w.heap.size) 31 (encWorldV W).toArray := (b0).grw hg2
 have hw2 : Grw w w2 := (hw1).trans hg2
 have hs2 : w.heap.size < w2.heap.size := by have h1 := hg2.size; have h2 := g1_0_l; (try simp at h1); omega
 have g2_0_5 : w2.cell? ⟨w.heap.size, 5, none⟩ = some (.slice (W.ba) (W.bl.length) (W.bc)) := hB2_0.cell 5
 have g2_0_6 : w2.cell? ⟨w.heap.size, 6, none⟩ = some (.slice (W.ja) (W.jl.length) (W.jc)) := hB2_0.cell 6
 have g2_0_7 : w2.cell? ⟨w.heap.size, 7, none⟩ = some (.slice (W.ca) (W.cl.length) (W.cc)) := hB2_0.cell 7
 have g2_0_8 : w2.cell? ⟨w.heap.size, 8, none⟩ = some (.slice (W.oa) (W.ol.length) (W.oc)) := hB2_0.cell 8
 have g2_0_9 : w2.cell? ⟨w.heap.size, 9, none⟩ = some (.int .i64 (W.nid)) := hB2_0.cell 9
 have g2_0_10 : w2.cell? ⟨w.heap.size, 10, none⟩ = some (.int .i64 (W.frame)) := hB2_0.cell 10
 have gA2_0_0_11 : HaveAll w2 (w.heap.size) 0 11 := hB2_0.have 0 11 (Nat.le_of_ble_eq_true rfl)
 have gC2_0_0_11 : cellsAt w2 (w.heap.size) 0 11 = (encWorldV W).toArray := hB2_0.cells' 0 11 _ rfl rfl
 have g2_0_l := hB2_0.lt
 have HB2 := Lib.hid (show _ from hB2_0); clear hB2_0
 clear gA1_0_0_5 gC1_0_0_5 g1_0_l b0 HB1 hw1 hg2
 cases hc4 : (r3 != 0)
 · go_upto_region 3 with (fail)
   obtain ⟨r8, hr8⟩ : ∃ r : Bool, r = ((decide (32 < (W.bl.length : Int))) || ((decide (32 < (W.jl.length : Int))) || ((decide (8192 < (W.cl.length : Int))) || (decide (8192 < (W.ol.length : Int)))))) := ⟨_, rfl⟩
   have R8 := Lib.hid hr8; clear hr8
   go_cut [8] (fun s8 xw => s8 = .bool (r8) ∧ w2 = xw)
   case first =>
     cases hc5 : (decide (32 < (W.bl.length : Int)))
     · cases hc6 : (decide (32 < (W.jl.length : Int)))
       · cases hc7 : (decide (8192 < (W.cl.length : Int)))
         · go_wp2_with fail
           go_meet
           case rel =>
             have er8 : r8 = (decide (8192 < (W.ol.length : Int))) := R8.out.trans (by simp [hc5, hc6, hc7])
             subst er8
             exact ⟨rfl, rfl⟩
         · go_wp2_with fail
           go_meet
           case rel =>
             have er8 : r8 = (true) := R8.out.trans (by simp [hc5, hc6, hc7])
             subst er8
             exact ⟨rfl, rfl⟩
       · go_wp2_with fail
         go_meet
         case rel =>
           have er8 : r8 = (true) := R8.out.trans (by simp [hc5, hc6])
           subst er8
           exact ⟨rfl, rfl⟩
     · go_wp2_with fail
       go_meet
       case rel =>
         have er8 : r8 = (true) := R8.out.trans (by simp [hc5])
         subst er8
         exact ⟨rfl, rfl⟩
   case rest =>
   obtain ⟨rfl, rfl⟩ := hcut
   cases hc10 : (r8)
   · go_upto_region 5 with (fail)
     obtain ⟨r12, hr12⟩ : ∃ r : Bool, r = ((!(winB W.nid 1 1099511627776)) || (!(winB W.frame 0 1099511627776))) := ⟨_, rfl⟩
     have R12 := Lib.hid hr12; clear hr12
     go_cut [31] (fun s31 xw => s31 = .bool (r12) ∧ w2 = xw)
     case first =>
       cases hc11 : (!(winB W.nid 1 1099511627776))
       · go_wp2_with fail
         (go_at_call 19; refine (win_any W.nid 1 1099511627776 _).mono ?_; rintro e w1 ⟨rfl, rfl⟩)
         go_wp2_with fail
         (go_at_call 19; refine (win_any W.frame 0 1099511627776 _).mono ?_; rintro e w1 ⟨rfl, rfl⟩)
         go_wp2_with fail
         go_meet
         case rel =>
           have er12 : r12 = (!(winB W.frame 0 1099511627776)) := R12.out.trans (by simp [hc11])
           subst er12
           exact ⟨rfl, rfl⟩
       · go_wp2_with fail
         (go_at_call 19; refine (win_any W.nid 1 1099511627776 _).mono ?_; rintro e w1 ⟨rfl, rfl⟩)
         go_wp2_with fail
         go_meet
         case rel =>
           have er12 : r12 = (true) := R12.out.trans (by simp [hc11])
           subst er12
           exact ⟨rfl, rfl⟩
     case rest =>
     obtain ⟨rfl, rfl⟩ := hcut
     cases hc14 : (r12)
     · go_wp2_with fail
       (go_at_call 20; refine (validBodies_any W _ (H_W.out.grw (hw2))).mono ?_; rintro e w15 ⟨rfl, hg15⟩)
       obtain ⟨r16, hr16⟩ : ∃ r : Bool, r = validBodiesB W := ⟨_, rfl⟩
       (try simp only [← hr16])
       have R16 := Lib.hid hr16; clear hr16
       have b0 := HB2.out
       have hB15_0 : Bk w15 (w.heap.size) 31 (encWorldV W).toArray := (b0).grw hg15
       have hw15 : Grw w w15 := (hw2).trans hg15
       have hs15 : w.heap.size < w15.heap.size := by have h1 := hg15.size; have h2 := g2_0_l; (try simp at h1); omega
       have gA15_0_0_11 : HaveAll w15 (w.heap.size) 0 11 := hB15_0.have 0 11 (Nat.le_of_ble_eq_true rfl)
       have gC15_0_0_11 : cellsAt w15 (w.heap.size) 0 11 = (encWorldV W).toArray := hB15_0.cells' 0 11 _ rfl rfl
       have g15_0_l := hB15_0.lt
       have HB15 := Lib.hid (show _ from hB15_0); clear hB15_0
       clear g2_0_5 g2_0_6 g2_0_7 g2_0_8 g2_0_9 g2_0_10 gA2_0_0_11 gC2_0_0_11 g2_0_l b0 HB2 hw2 hg15
       cases hc17 : (!r16)
       · go_wp2_with fail
         (go_at_call 21; refine (validJoints_any W _ (H_W.out.grw (hw15))).mono ?_; rintro e w18 ⟨rfl, hg18⟩)
         obtain ⟨r19, hr19⟩ : ∃ r : Bool, r = validJointsB W := ⟨_, rfl⟩
         (try simp only [← hr19])
         have R19 := Lib.hid hr19; clear hr19
         have b0 := HB15.out
         have hB18_0 : Bk w18 (w.heap.size) 31 (encWorldV W).toArray := (b0).grw hg18
         have hw18 : Grw w w18 := (hw15).trans hg18
         have hs18 : w.heap.size < w18.heap.size := by have h1 := hg18.size; have h2 := g15_0_l; (try simp at h1); omega
         have gA18_0_0_11 : HaveAll w18 (w.heap.size) 0 11 := hB18_0.have 0 11 (Nat.le_of_ble_eq_true rfl)
         have gC18_0_0_11 : cellsAt w18 (w.heap.size) 0 11 = (encWorldV W).toArray := hB18_0.cells' 0 11 _ rfl rfl
         have g18_0_l := hB18_0.lt
         have HB18 := Lib.hid (show _ from hB18_0); clear hB18_0
         clear gA15_0_0_11 gC15_0_0_11 g15_0_l b0 HB15 hw15 hg18
         cases hc20 : (!r19)
         · go_wp2_with fail
           (go_at_call 22; refine (validContacts_any W _ (H_W.out.grw (hw18)) (by first | (have q := R8.out; rw [hc10] at q; simp at q; omega) | (have q := R12.out; rw [hc14] at q; simp at q; omega)) (by first | (have q := R8.out; rw [hc10] at q; simp at q; omega) | (have q := R12.out; rw [hc14] at q; simp at q; omega))).mono ?_; rintro e w21 ⟨rfl, hg21⟩)
           obtain ⟨r22, hr22⟩ : ∃ r : Bool, r = validContactsB W := ⟨_, rfl⟩
           (try simp only [← hr22])
           have R22 := Lib.hid hr22; clear hr22
           have b0 := HB18.out
           have hB21_0 : Bk w21 (w.heap.size) 31 (encWorldV W).toArray := (b0).grw hg21
           have hw21 : Grw w w21 := (hw18).trans hg21
           have hs21 : w.heap.size < w21.heap.size := by have h1 := hg21.size; have h2 := g18_0_l; (try simp at h1); omega
           have g21_0_l := hB21_0.lt
           have HB21 := Lib.hid (show _ from hB21_0); clear hB21_0
           clear gA18_0_0_11 gC18_0_0_11 g18_0_l b0 HB18 hw18 hg21
           cases hc23 : (!r22)
           · go_wp2_with fail
             have hF : validateE W = 0 := by unfold validateE; first | rfl | (simp only [← R22.out, ← R19.out, ← R16.out, ← R12.out, ← R8.out, ← R3.out, hc4, hc10, hc14, hc17, hc20, hc23, cond_true, cond_false]; done) | (simp only [← R22.out, ← R19.out, ← R16.out, ← R12.out, ← R8.out, ← R3.out, hc4, hc10, hc14, hc17, hc20, hc23, cond_true, cond_false]; rfl) | simp [← R22.out, ← R19.out, ← R16.out, ← R12.out, ← R8.out, ← R3.out, hc4, hc10, hc14, hc17, hc20, hc23]
             refine bodyPost_ret (v := .int .i64 (0)) (by simp [results, Tryz.results5, go_sem, g21_0_l]) rfl ⟨by rw [hF], ?_⟩
             exact hw21
           · go_wp2_with fail
             have hF : validateE W = 16 := by unfold validateE; first | rfl | (simp only [← R22.out, ← R19.out, ← R16.out, ← R12.out, ← R8.out, ← R3.out, hc4, hc10, hc14, hc17, hc20, hc23, cond_true, cond_false]; done) | (simp only [← R22.out, ← R19.out, ← R16.out, ← R12.out, ← R8.out, ← R3.out, hc4, hc10, hc14, hc17, hc20, hc23, cond_true, cond_false]; rfl) | simp [← R22.out, ← R19.out, ← R16.out, ← R12.out, ← R8.out, ← R3.out, hc4, hc10, hc14, hc17, hc20, hc23]
             refine bodyPost_ret (v := .int .i64 (16)) (by simp [results, Tryz.results5, go_sem, g21_0_l]) rfl ⟨by rw [hF], ?_⟩
             exact hw21
         · go_wp2_with fail
           have hF : validateE W = 15 := by unfold validateE; first | rfl | (simp only [← R19.out, ← R16.out, ← R12.out, ← R8.out, ← R3.out, hc4, hc10, hc14, hc17, hc20, cond_true, cond_false]; done) | (simp only [← R19.out, ← R16.out, ← R12.out, ← R8.out, ← R3.out, hc4, hc10, hc14, hc17, hc20, cond_true, cond_false]; rfl) | simp [← R19.out, ← R16.out, ← R12.out, ← R8.out, ← R3.out, hc4, hc10, hc14, hc17, hc20]
           refine bodyPost_ret (v := .int .i64 (15)) (by simp [results, Tryz.results5, go_sem, gA18_0_0_11, gC18_0_0_11, g18_0_l]) rfl ⟨by rw [hF], ?_⟩
           exact hw18
       · go_wp2_with fail
         have hF : validateE W = 14 := by unfold validateE; first | rfl | (simp only [← R16.out, ← R12.out, ← R8.out, ← R3.out, hc4, hc10, hc14, hc17, cond_true, cond_false]; done) | (simp only [← R16.out, ← R12.out, ← R8.out, ← R3.out, hc4, hc10, hc14, hc17, cond_true, cond_false]; rfl) | simp [← R16.out, ← R12.out, ← R8.out, ← R3.out, hc4, hc10, hc14, hc17]
         refine bodyPost_ret (v := .int .i64 (14)) (by simp [results, Tryz.results5, go_sem, gA15_0_0_11, gC15_0_0_11, g15_0_l]) rfl ⟨by rw [hF], ?_⟩
         exact hw15
     · go_wp2_with fail
       have hF : validateE W = 6 := by unfold validateE; first | rfl | (simp only [← R12.out, ← R8.out, ← R3.out, hc4, hc10, hc14, cond_true, cond_false]; done) | (simp only [← R12.out, ← R8.out, ← R3.out, hc4, hc10, hc14, cond_true, cond_false]; rfl) | simp [← R12.out, ← R8.out, ← R3.out, hc4, hc10, hc14]
       refine bodyPost_ret (v := .int .i64 (6)) (by simp [results, Tryz.results5, go_sem, g2_0_5, g2_0_6, g2_0_7, g2_0_8, g2_0_9, g2_0_10, gA2_0_0_11, gC2_0_0_11, g2_0_l]) rfl ⟨by rw [hF], ?_⟩
       exact hw2
   · go_wp2_with fail
     have hF : validateE W = 11 := by unfold validateE; first | rfl | (simp only [← R8.out, ← R3.out, hc4, hc10, cond_true, cond_false]; done) | (simp only [← R8.out, ← R3.out, hc4, hc10, cond_true, cond_false]; rfl) | simp [← R8.out, ← R3.out, hc4, hc10]
     refine bodyPost_ret (v := .int .i64 (11)) (by simp [results, Tryz.results5, go_sem, g2_0_5, g2_0_6, g2_0_7, g2_0_8, g2_0_9, g2_0_10, gA2_0_0_11, gC2_0_0_11, g2_0_l]) rfl ⟨by rw [hF], ?_⟩
     exact hw2
 · go_wp2_with fail
   have hF : validateE W = 17 := by unfold validateE; first | rfl | (simp only [← R3.out, hc4, cond_true, cond_false]; done) | (simp only [← R3.out, hc4, cond_true, cond_false]; rfl) | simp [← R3.out, hc4]
   refine bodyPost_ret (v := .int .i64 (17)) (by simp [results, Tryz.results5, go_sem, g2_0_5, g2_0_6, g2_0_7, g2_0_8, g2_0_9, g2_0_10, gA2_0_0_11, gC2_0_0_11, g2_0_l]) rfl ⟨by rw [hF], ?_⟩
   exact hw2
end
section
open Go.RowKit Go.Sort
theorem compareI_eq (x y : Int) : compareI x y = if x < y then -1 else if y < x then 1 else 0 := by
 unfold compareI
 simp only [nanB, cond_false]
 by_cases h1 : x < y
 · simp [h1]
 · by_cases h2 : y < x <;> simp [h1, h2]
theorem orI3 (a b c : Int) : orI [a, b, c] = if a = 0 then (if b = 0 then c else b) else a := by
 have e : ∀ x : Int, x ≠ 0 → (x != 0) = true := fun x h => by simp [h]
 unfold orI
 by_cases h1 : a = 0
 · by_cases h2 : b = 0
   · by_cases h3 : c = 0
     · simp [loopM, orI_step1, h1, h2, h3]
     · simp [loopM, orI_step1, h1, h2, e c h3]
   · simp [loopM, orI_step1, h1, h2, e b h2]
 · simp [loopM, orI_step1, h1, e a h1]
theorem compareI_sign (x y : Int) : (compareI x y = 0 ↔ x = y) ∧ (compareI x y < 0 ↔ x < y) := by
 rw [compareI_eq]
 split
 · omega
 · split <;> omega
theorem qcompare_lt (x y : HitV) : qcompareI x y < 0 ↔ (x.t < y.t ∨ (x.t = y.t ∧ (x.body < y.body ∨ (x.body = y.body ∧ x.fix < y.fix)))) := by
 unfold qcompareI
 simp only [orI3]
 obtain ⟨a1, a2⟩ := compareI_sign x.t y.t
 obtain ⟨b1, b2⟩ := compareI_sign x.body y.body
 obtain ⟨c1, c2⟩ := compareI_sign x.fix y.fix
 by_cases h1 : compareI x.t y.t = 0
 · by_cases h2 : compareI x.body y.body = 0
   · rw [if_pos h1, if_pos h2]; omega
   · rw [if_pos h1, if_neg h2]; omega
 · rw [if_neg h1]; omega
theorem qless_iff (x y : HitV) : qlessB x y = true ↔ (x.t < y.t ∨ (x.t = y.t ∧ (x.body < y.body ∨ (x.body = y.body ∧ x.fix < y.fix)))) := by
 unfold qlessB
 simp only [decide_eq_true_eq, qcompare_lt]
theorem swoH : SWO (ltOf qcompareI) where
 irrefl x := by simp only [ltOf, decide_eq_false_iff_not, qcompare_lt]; omega
 trans x y z h1 h2 := by simp only [ltOf, decide_eq_true_eq, qcompare_lt] at *; omega
 ntrans x y z h1 h2 := by simp only [ltOf, decide_eq_false_iff_not, qcompare_lt] at *; omega
def hitOf (fx fy tx ty m : Int) (b : BodyV) (k : Nat) (f : FixV) : Option HitV :=
 if consideredB f m = true ∧ (castF ⟨f.k, f.r, f.va, f.vc, f.vl⟩ b.px b.py b.an fx fy tx ty).2.2.2 = true then
   some ⟨b.id, k, (castF ⟨f.k, f.r, f.va, f.vc, f.vl⟩ b.px b.py b.an fx fy tx ty).1, lerpI fx tx (castF ⟨f.k, f.r, f.va, f.vc, f.vl⟩ b.px b.py b.an fx fy tx ty).1, lerpI fy ty (castF ⟨f.k, f.r, f.va, f.vc, f.vl⟩ b.px b.py b.an fx fy tx ty).1,
     (castF ⟨f.k, f.r, f.va, f.vc, f.vl⟩ b.px b.py b.an fx fy tx ty).2.1, (castF ⟨f.k, f.r, f.va, f.vc, f.vl⟩ b.px b.py b.an fx fy tx ty).2.2.1⟩ else none
def fixHits (fx fy tx ty m : Int) (b : BodyV) : List FixV → Nat → List HitV
 | [], _ => []
 | f :: l, k => (hitOf fx fy tx ty m b k f).toList ++ fixHits fx fy tx ty m b l (k + 1)
def bodyHits (fx fy tx ty m : Int) (b : BodyV) : List HitV := fixHits fx fy tx ty m b b.fl 0
def bodiesHits (fx fy tx ty m : Int) (l : List BodyV) : List HitV := l.flatMap (bodyHits fx fy tx ty m)
section
variable {fx fy tx ty m : Int}
theorem fixHits_append (b : BodyV) (l1 l2 : List FixV) (k : Nat) : fixHits fx fy tx ty m b (l1 ++ l2) k = fixHits fx fy tx ty m b l1 k ++ fixHits fx fy tx ty m b l2 (k + l1.length) := by
 induction l1 generalizing k with
 | nil => simp [fixHits]
 | cons f l ih => simp only [List.cons_append, fixHits, ih, List.length_cons, List.append_assoc, Nat.add_assoc, Nat.add_comm 1]
theorem fixHits_take (b : BodyV) (l : List FixV) (k : Nat) (f : FixV) (h : l[k]? = some f) : fixHits fx fy tx ty m b (l.take (k + 1)) 0 = fixHits fx fy tx ty m b (l.take k) 0 ++ (hitOf fx fy tx ty m b k f).toList := by
 have hk : k < l.length := (List.getElem?_eq_some_iff.1 h).1
 rw [List.take_add_one, h, fixHits_append]
 simp [fixHits, Nat.min_eq_left (Nat.le_of_lt hk)]
theorem bodiesHits_take (l : List BodyV) (k : Nat) (b : BodyV) (h : l[k]? = some b) : bodiesHits fx fy tx ty m (l.take (k + 1)) = bodiesHits fx fy tx ty m (l.take k) ++ bodyHits fx fy tx ty m b := by
 rw [List.take_add_one, h]
 simp [bodiesHits]
theorem fixHits_length (b : BodyV) (l : List FixV) (k : Nat) : (fixHits fx fy tx ty m b l k).length ≤ l.length := by
 induction l generalizing k with
 | nil => simp [fixHits]
 | cons f l ih =>
   have h1 : (hitOf fx fy tx ty m b k f).toList.length ≤ 1 := by cases hitOf fx fy tx ty m b k f <;> simp
   have h2 := ih (k + 1)
   simp only [fixHits, List.length_append, List.length_cons]; omega
theorem fixHits_mem {b : BodyV} {l : List FixV} {k : Nat} {x : HitV} : x ∈ fixHits fx fy tx ty m b l k ↔ ∃ i f, l[i]? = some f ∧ hitOf fx fy tx ty m b (k + i) f = some x := by
 induction l generalizing k with
 | nil => simp [fixHits]
 | cons f l ih =>
   simp only [fixHits, List.mem_append, ih, Option.mem_toList]
   constructor
   · rintro (h | ⟨i, g, h1, h2⟩)
     · exact ⟨0, f, rfl, h⟩
     · exact ⟨i + 1, g, by simpa using h1, by rw [show k + (i + 1) = k + 1 + i by omega]; exact h2⟩
   · rintro ⟨i, g, h1, h2⟩
     match i, h1 with
     | 0, h1 => cases h1; exact .inl h2
     | i + 1, h1 => exact .inr ⟨i, g, by simpa using h1, by rw [show k + 1 + i = k + (i + 1) by omega]; exact h2⟩
theorem hitOf_body {b : BodyV} {k : Nat} {f : FixV} {x : HitV} (h : hitOf fx fy tx ty m b k f = some x) : x.body = b.id ∧ x.fix = k := by
 unfold hitOf at h
 split at h
 · cases h; exact ⟨rfl, rfl⟩
 · cases h
def keyLt (x y : HitV) : Prop := x.body < y.body ∨ (x.body = y.body ∧ x.fix < y.fix)
theorem fixHits_sorted (b : BodyV) (l : List FixV) (k : Nat) : (fixHits fx fy tx ty m b l k).Pairwise keyLt := by
 induction l generalizing k with
 | nil => simp [fixHits]
 | cons f l ih =>
   simp only [fixHits]
   rw [List.pairwise_append]
   refine ⟨?_, ih _, fun x hx y hy => ?_⟩
   · cases hitOf fx fy tx ty m b k f <;> simp
   · rw [Option.mem_toList] at hx
     obtain ⟨i, g, _, h2⟩ := fixHits_mem.1 hy
     have h3 := hitOf_body hx
     have h4 := hitOf_body h2
     exact .inr ⟨h3.1.trans h4.1.symm, by rw [h3.2, h4.2]; omega⟩
theorem bodyHits_body {b : BodyV} {x : HitV} (h : x ∈ bodyHits fx fy tx ty m b) : x.body = b.id := by
 obtain ⟨i, g, _, h2⟩ := fixHits_mem.1 h
 exact (hitOf_body h2).1
theorem bodiesHits_sorted (l : List BodyV) (h : l.Pairwise fun a b => a.id < b.id) : (bodiesHits fx fy tx ty m l).Pairwise keyLt := by
 induction l with
 | nil => simp [bodiesHits]
 | cons b l ih =>
   rw [List.pairwise_cons] at h
   show (bodyHits fx fy tx ty m b ++ bodiesHits fx fy tx ty m l).Pairwise keyLt
   rw [List.pairwise_append]
   refine ⟨fixHits_sorted _ _ _, ih h.2, fun x hx y hy => .inl ?_⟩
   obtain ⟨c, hc, hyc⟩ := List.mem_flatMap.1 hy
   rw [bodyHits_body hx, bodyHits_body hyc]
   exact h.1 c hc
end
theorem perm_sorted_eq {α : Type} {R : α → α → Prop} (ha : ∀ x y, R x y → R y x → False) : ∀ {xs ys : List α}, xs.Perm ys → xs.Pairwise R → ys.Pairwise R → xs = ys
 | [], ys, h, _, _ => (List.nil_perm.1 h).symm
 | x :: xs, [], h, _, _ => by have := h.length_eq; simp at this
 | x :: xs, y :: ys, h, h1, h2 => by
   rw [List.pairwise_cons] at h1 h2
   have hx : x ∈ y :: ys := h.mem_iff.1 (List.mem_cons_self ..)
   have hy : y ∈ x :: xs := h.mem_iff.2 (List.mem_cons_self ..)
   have e : x = y := by
     rcases List.mem_cons.1 hx with e | hx
     · exact e
     · rcases List.mem_cons.1 hy with e | hy
       · exact e.symm
       · exact (ha x y (h1.1 y hy) (h2.1 x hx)).elim
   subst e
   rw [perm_sorted_eq ha ((List.perm_cons x).1 h) h1.2 h2.2]
theorem qless_asymm (x y : HitV) : qlessB x y = true → qlessB y x = true → False := by
 simp only [qless_iff]; omega
theorem strict_of_sorted {xs ys : List HitV} (h : ys.Perm xs) (hk : xs.Pairwise keyLt) (hs : ys.Pairwise fun x y => ltOf qcompareI y x = false) : ys.Pairwise fun x y => qlessB x y = true := by
 have hne : ys.Pairwise fun x y => ¬ (x.body = y.body ∧ x.fix = y.fix) := by
   refine (h.pairwise_iff fun {x y} hxy => fun e => hxy ⟨e.1.symm, e.2.symm⟩).2 (hk.imp fun {x y} hxy e => ?_)
   rcases hxy with h | ⟨_, h⟩
   · omega
   · omega
 refine (hs.and hne).imp fun {x y} ⟨h1, h2⟩ => ?_
 simp only [ltOf, decide_eq_false_iff_not, qcompare_lt] at h1
 rw [qless_iff]; omega
noncomputable def sortHits (xs : List HitV) : List HitV := open Classical in if h : ∃ ys : List HitV, ys.Perm xs ∧ ys.Pairwise fun x y => qlessB x y = true then h.choose else xs
theorem sortHits_eq {xs ys : List HitV} (h : ys.Perm xs) (hs : ys.Pairwise fun x y => qlessB x y = true) : sortHits xs = ys := by
 have he : ∃ ys : List HitV, ys.Perm xs ∧ ys.Pairwise fun x y => qlessB x y = true := ⟨ys, h, hs⟩
 unfold sortHits
 rw [dif_pos he]
 exact perm_sorted_eq qless_asymm (he.choose_spec.1.trans h.symm) he.choose_spec.2 hs
end
section
open Go.RowKit Go.Sort
theorem rdiv_nonneg {n d : Int} (hn : 0 ≤ n) (hd : 0 < d) : 0 ≤ rdiv n d := by
 have h1 := Int.tdiv_nonneg hn (Int.le_of_lt hd)
 have h2 := Int.tmod_nonneg d hn
 unfold rdiv
 (repeat' split) <;> omega
theorem ratioI_nonneg (n d : Int) : 0 ≤ ratioI n d := by
 unfold ratioI
 split
 · omega
 · split
   · omega
   · split
     · exact rdiv_nonneg (by omega) (by omega)
     · have h1 := rdiv_nonneg (n := d) (d := 65536) (by omega) (by omega)
       rcases Int.lt_or_eq_of_le h1 with h | h
       · have := rdiv_nonneg (n := n) (d := rdiv d 65536) (by omega) h
         omega
       · rw [← h]
         have : 0 ≤ rdiv n 0 := by unfold rdiv; simp
         omega
theorem ccF_nonneg (c : P2) (r : Int) (f t : P2) : 0 ≤ (ccF c r f t).t := by
 unfold ccF
 split
 · exact Int.le_refl _
 · split
   · exact Int.le_refl _
   · exact ratioI_nonneg _ _
theorem cpF_nonneg (l : List P2) (f t : P2) : 0 ≤ (cpF l f t).t := by
 unfold cpF
 split
 · exact Int.le_refl _
 · unfold cpFin
   split
   · exact Int.le_refl _
   · show 0 ≤ CpS.entry _
     omega
theorem better_nonneg {x y : Hit} (hx : 0 ≤ x.t) (hy : 0 ≤ y.t) : 0 ≤ (x.better y).t := by
 unfold Hit.better; split
 · exact hy
 · exact hx
theorem capF_nonneg (a b : P2) (r : Int) (f t : P2) : 0 ≤ (capF a b r f t).t := better_nonneg (better_nonneg (ccF_nonneg _ _ _ _) (ccF_nonneg _ _ _ _)) (cpF_nonneg _ _ _)
theorem castF_nonneg (s : ShapeV) (px py an fx fy tx ty : Int) : 0 ≤ (castF s px py an fx fy tx ty).1 := by
 unfold castF
 simp only [cond_eq_ite]
 split
 · exact Int.le_refl _
 · split
   · exact Int.le_refl _
   · split
     · exact ccF_nonneg _ _ _ _
     · split
       · exact capF_nonneg _ _ _ _ _
       · exact cpF_nonneg _ _ _
theorem castF_contains {s : ShapeV} {px py an fx fy tx ty : Int} (h : containsB s px py an fx fy = true) : castF s px py an fx fy tx ty = (0, 0, 0, true) := by
 unfold castF
 simp only [cond_eq_ite, h, if_true]
 split
 · rename_i h0
   unfold containsB at h
   simp only [cond_eq_ite, h0, if_true] at h
   cases h
 · rfl
theorem hitOf_nonneg {fx fy tx ty m : Int} {b : BodyV} {k : Nat} {f : FixV} {x : HitV} (h : hitOf fx fy tx ty m b k f = some x) : 0 ≤ x.t := by
 unfold hitOf at h
 split at h
 · cases h; exact castF_nonneg _ _ _ _ _ _ _ _
 · cases h
theorem hitOf_contains {fx fy tx ty m : Int} {b : BodyV} {k : Nat} {f : FixV} {x : HitV} (h : hitOf fx fy tx ty m b k f = some x) (hc : containsB ⟨f.k, f.r, f.va, f.vc, f.vl⟩ b.px b.py b.an fx fy = true) : x.t = 0 := by
 unfold hitOf at h
 split at h
 · cases h
   show (castF _ _ _ _ _ _ _ _).1 = 0
   rw [castF_contains hc]
 · cases h
theorem bodiesHits_nonneg {fx fy tx ty m : Int} {l : List BodyV} {x : HitV} (h : x ∈ bodiesHits fx fy tx ty m l) : 0 ≤ x.t := by
 obtain ⟨b, _, hx⟩ := List.mem_flatMap.1 h
 obtain ⟨i, g, _, h2⟩ := fixHits_mem.1 hx
 exact hitOf_nonneg h2
end
end Go.Proofs.YtokkghhmliplfaaGreat
namespace Go.Proofs
open Go.Shelf
def Tryz.sortH_ren : Go.Shelf.Ren := ⟨fun | 6 => 28 | 15 => 62 | 14 => 61 | 28 => 133 | 29 => 134 | 20 => 125 | 21 => 126 | 22 => 127 | 23 => 128 | 24 => 129 | 25 => 130 | 26 => 131 | 27 => 132 | 46 => 211 | 47 => 212 | 48 => 213 | 49 => 214 | 50 => 215 | 57 => 277 | n => n, fun | 22 => 51 | 24 => 48 | 25 => 79 | 3 => 3 | 39 => 125 | 0 => 0 | 53 => 194 | 55 => 196 | 4 => 4 | 46 => 188 | 45 => 187 | 50 => 165 | 5 => 5 | 9 => 9 | 66 => 281 | 70 => 285 | 76 => 337 | 77 => 221 | n => n, fun | n => n⟩
theorem Tryz.sortH : Go.Proofs.SlLaysF0.n6 Tryz.prog Tryz.sortH_ren := {
 mixed := by kernel_rfl
 f6 := ⟨Tryz.f28.name, by decide, Tryz.func28.trans (congrArg some (by kernel_rfl))⟩
 f14 := ⟨Tryz.f61.name, by decide, Tryz.func61.trans (congrArg some (by kernel_rfl))⟩
 f15 := Tryz.func62.trans (congrArg some (by kernel_rfl))
 f20 := ⟨Tryz.f125.name, by decide, Tryz.func125.trans (congrArg some (by kernel_rfl))⟩
 f21 := ⟨Tryz.f126.name, by decide, Tryz.func126.trans (congrArg some (by kernel_rfl))⟩
 f22 := ⟨Tryz.f127.name, by decide, Tryz.func127.trans (congrArg some (by kernel_rfl))⟩
 f23 := ⟨Tryz.f128.name, by decide, Tryz.func128.trans (congrArg some (by kernel_rfl))⟩
 f24 := ⟨Tryz.f129.name, by decide, Tryz.func129.trans (congrArg some (by kernel_rfl))⟩
 f25 := ⟨Tryz.f130.name, by decide, Tryz.func130.trans (congrArg some (by kernel_rfl))⟩
 f26 := ⟨Tryz.f131.name, by decide, Tryz.func131.trans (congrArg some (by kernel_rfl))⟩
 f27 := ⟨Tryz.f132.name, by decide, Tryz.func132.trans (congrArg some (by kernel_rfl))⟩
 f28 := Tryz.func133.trans (congrArg some (by kernel_rfl))
 f29 := Tryz.func134.trans (congrArg some (by kernel_rfl))
 f46 := ⟨Tryz.f211.name, by decide, Tryz.func211.trans (congrArg some (by kernel_rfl))⟩
 f47 := Tryz.func212.trans (congrArg some (by kernel_rfl))
 f48 := Tryz.func213.trans (congrArg some (by kernel_rfl))
 f49 := ⟨Tryz.f214.name, by decide, Tryz.func214.trans (congrArg some (by kernel_rfl))⟩
 f50 := ⟨Tryz.f215.name, by decide, Tryz.func215.trans (congrArg some (by kernel_rfl))⟩
 f57 := ⟨Tryz.f277.name, by decide, Tryz.func277.trans (congrArg some (by kernel_rfl))⟩
 t0 := Tryz.underlying0
 a0 := Tryz.isAgg0
 z0 := Tryz.sizeOf0
 v0 := Tryz.zeroValue0
 t3 := Tryz.underlying3
 a3 := Tryz.isAgg3
 z3 := Tryz.sizeOf3
 v3 := Tryz.zeroValue3
 t4 := Tryz.underlying4
 a4 := Tryz.isAgg4
 z4 := Tryz.sizeOf4
 v4 := Tryz.zeroValue4
 t5 := Tryz.underlying5
 a5 := Tryz.isAgg5
 z5 := Tryz.sizeOf5
 v5 := Tryz.zeroValue5
 t9 := Tryz.underlying9
 a9 := Tryz.isAgg9
 z9 := Tryz.sizeOf9
 v9 := Tryz.zeroValue9
 t22 := Tryz.underlying51
 a22 := Tryz.isAgg51
 z22 := Tryz.sizeOf51
 v22 := Tryz.zeroValue51
 t25 := Tryz.underlying79
 a25 := Tryz.isAgg79
 z25 := Tryz.sizeOf79
 v25 := Tryz.zeroValue79
 t39 := Tryz.underlying125
 a39 := Tryz.isAgg125
 z39 := Tryz.sizeOf125
 v39 := Tryz.zeroValue125
 t45 := Tryz.underlying187
 a45 := Tryz.isAgg187
 z45 := Tryz.sizeOf187
 v45 := Tryz.zeroValue187
 t46 := Tryz.underlying188
 a46 := Tryz.isAgg188
 z46 := Tryz.sizeOf188
 v46 := Tryz.zeroValue188
 t50 := Tryz.underlying165
 a50 := Tryz.isAgg165
 z50 := Tryz.sizeOf165
 v50 := Tryz.zeroValue165
 t53 := Tryz.underlying194
 a53 := Tryz.isAgg194
 z53 := Tryz.sizeOf194
 v53 := Tryz.zeroValue194
 t55 := Tryz.underlying196
 a55 := Tryz.isAgg196
 z55 := Tryz.sizeOf196
 v55 := Tryz.zeroValue196
 t66 := Tryz.underlying281
 a66 := Tryz.isAgg281
 z66 := Tryz.sizeOf281
 v66 := Tryz.zeroValue281
 t70 := Tryz.underlying285
 a70 := Tryz.isAgg285
 z70 := Tryz.sizeOf285
 v70 := Tryz.zeroValue285
 t76 := Tryz.underlying337
 a76 := Tryz.isAgg337
 z76 := Tryz.sizeOf337
 v76 := Tryz.zeroValue337
 t77 := Tryz.underlying221
 a77 := Tryz.isAgg221
 z77 := Tryz.sizeOf221
 v77 := Tryz.zeroValue221 }
end Go.Proofs
namespace Go.Proofs.YtokkghhmliplfaaGreat.Trk
open Go.RowKit Go.Sort
def Grw (w w' : World) : Prop := ∃ p : GrownBy, w' = grow (w.drewN p.n) p.os
theorem Grw.mk (w : World) (p : GrownBy) : Grw w (grow (w.drewN p.n) p.os) := ⟨p, rfl⟩
theorem Grw.refl (w : World) : Grw w w := ⟨⟨0, #[]⟩, by rw [grow_empty]; rfl⟩
theorem Grw.trans {a b c : World} (h : Grw a b) (k : Grw b c) : Grw a c := by
 obtain ⟨p, rfl⟩ := h; obtain ⟨q, rfl⟩ := k
 exact ⟨⟨p.n + q.n, p.os ++ q.os⟩, by show grow (grow ((a.drewN p.n).drewN q.n) p.os) q.os = _; rw [grow_grow, World.drewN_drewN]⟩
theorem Grw.alloc {a b : World} (h : Grw a b) (o : Obj) : Grw a (b.alloc o) := h.trans ⟨⟨0, #[o]⟩, by rw [alloc_eq_grow]; rfl⟩
theorem Grw.drewN {a b : World} (h : Grw a b) (n : Nat) : Grw a (b.drewN n) := h.trans ⟨⟨n, #[]⟩, by rw [grow_empty]⟩
theorem Grw.drew {a b : World} (h : Grw a b) : Grw a b.drew := h.drewN 1
theorem Grw.size {a b : World} (h : Grw a b) : a.heap.size ≤ b.heap.size := by obtain ⟨p, rfl⟩ := h; simp
theorem Grw.heap {a b : World} (h : Grw a b) {k : Nat} (hk : k < a.heap.size) : b.heap[k]? = a.heap[k]? := by
 obtain ⟨p, rfl⟩ := h; exact heap_grow_old _ _ hk
theorem Grw.below {a b : World} (h : Grw a b) : Below a.heap.size a b := by
 have hs := h.size; have hh := fun k => h.heap (k := k); obtain ⟨p, rfl⟩ := h
 exact ⟨rfl, rfl, rfl, hs, fun k hk => hh k hk⟩
theorem Grw.setNew {a b : World} (h : Grw a b) {p : Addr} (hp : a.heap.size ≤ p.block) (v : Value) : Grw a (b.setCell p v) := by
 obtain ⟨q, rfl⟩ := h
 refine ⟨⟨q.n, q.os.modify (p.block - a.heap.size) fun | .cells c elem frozen => .cells (if p.spot.isSome then c else c.setIfInBounds p.off v) elem frozen | o => o⟩, ?_⟩
 simp only [World.setCell, grow]
 congr 1
 exact modify_append_right _ _ _ _ hp
theorem Grw.setAt {a b : World} (h : Grw a b) {k o : Nat} (hp : a.heap.size ≤ k) (v : Value) : Grw a (b.setCell ⟨k, o, none⟩ v) := h.setNew hp v
theorem Grw.cells {W w1 : World} (h : Grw W w1) : (∀ b o, b < W.heap.size → w1.cell? ⟨b, o, none⟩ = W.cell? ⟨b, o, none⟩) ∧ (∀ b o, b < W.heap.size → w1.frozen? ⟨b, o, none⟩ = W.frozen? ⟨b, o, none⟩) :=
 ⟨fun b o hb => h.below.cell (p := ⟨b, o, none⟩) hb, fun b o hb => h.below.frozen (p := ⟨b, o, none⟩) hb⟩
theorem Grw.cell {a b : World} (h : Grw a b) {p : Addr} {v : Value} (hc : a.cell? p = some v) : b.cell? p = some v :=
 (h.below.cell (World.block_lt_of_cell? a p hc)).trans hc
theorem cell_in_grow (w : World) (n : Nat) (os : Array Obj) (b o : Nat) (h : b < w.heap.size) : (grow (w.drewN n) os).cell? ⟨b, o, none⟩ = w.cell? ⟨b, o, none⟩ := cell?_grow (w.drewN n) os _ h
theorem frozen_in_grow (w : World) (n : Nat) (os : Array Obj) (b o : Nat) (h : b < w.heap.size) : (grow (w.drewN n) os).frozen? ⟨b, o, none⟩ = w.frozen? ⟨b, o, none⟩ := frozen?_grow (w.drewN n) os _ h
section flow
variable {P : Program} {ops : Array Oper} {w0 : World}
def qUpon (P : Program) (w : World) (v : Value) : Result Next → Prop
 | .ok (.value u) w' => w' = w ∧ u = v
 | .ok .skip w' => w' = w ∧ v = undef
 | .ok (.enter f args) w' => w' = w ∧ Calls P f args w (fun e w'' => e = .returned v ∧ Grw w w'')
 | _ => False
def qAt (P : Program) (o : Oper) (a : Act) (w : World) (v : Value) : Prop := qUpon P w v ((execOp a.eval o).run P w)
def YieldsG (P : Program) (ops : Array Oper) (w0 : World) (o : Oper) (v : Value) (a : Act) : Prop :=
 (Region.wanted o (yielded ops a.tmps) = true ∧ ∀ w, Grw w0 w → qAt P o a w v) ∨ (Region.wanted o (yielded ops a.tmps) = false ∧ v = undef)
def okUpon (P : Program) (K : Value → World → Prop) : Result Next → Prop
 | .ok (.value u) w' => K u w'
 | .ok .skip w' => K undef w'
 | .ok (.enter f args) w' => Calls P f args w' (fun e w'' => ∃ v, e = .returned v ∧ K v w'')
 | _ => False
theorem okUpon_mono {K K' : Value → World → Prop} (h : ∀ v w, K v w → K' v w) {r : Result Next} (hr : okUpon P K r) : okUpon P K' r := by
 cases r with
 | ok n w' =>
   cases n <;> simp only [okUpon] at hr ⊢
   case value u => exact h _ _ hr
   case skip => exact h _ _ hr
   case enter f args => exact hr.mono fun e w'' ⟨v, he, hk⟩ => ⟨v, he, h _ _ hk⟩
 | halt x w' => exact hr
def okOp (P : Program) (ops : Array Oper) (o : Oper) (K : Value → World → Prop) (a : Act) (w : World) : Prop :=
 if Region.wanted o (yielded ops a.tmps) then okUpon P K ((execOp a.eval o).run P w) else K undef w
theorem okOp_mono {o : Oper} {K K' : Value → World → Prop} (h : ∀ v w, K v w → K' v w) {a : Act} {w : World} (hr : okOp P ops o K a w) : okOp P ops o K' a w := by
 unfold okOp at *
 split
 · rename_i hw; rw [if_pos hw] at hr; exact okUpon_mono h hr
 · rename_i hw; rw [if_neg hw] at hr; exact h _ _ hr
def anyA (P : Program) (ops : Array Oper) (n : Nat) (L : Array Bool → Act → World → Prop) : Nat → Array Bool → Act → World → Prop
 | 0, listed, a, w => (∀ j ∈ Region.ready .any ops listed, n ≤ j) ∧ ∀ w1, Grw w w1 → L listed a w1
 | f + 1, listed, a, w => ∀ w1, Grw w w1 → Region.ready .any ops listed ≠ [] ∧ ∀ j ∈ Region.ready .any ops listed, j < n ∧ ∀ o, ops[j]? = some o →
     okOp P ops o (fun v w2 => Grw w1 w2 ∧ anyA P ops n L f (listed.setIfInBounds j true) (a.put o.dst v) w2) a w1
theorem anyA_stab {n : Nat} {L : Array Bool → Act → World → Prop} {f : Nat} {listed : Array Bool} {a : Act} {w w1 : World} (h : anyA P ops n L f listed a w) (hw : Grw w w1) : anyA P ops n L f listed a w1 := by
 cases f with
 | zero => exact ⟨h.1, fun w2 h2 => h.2 w2 (hw.trans h2)⟩
 | succ f => exact fun w2 h2 => h w2 (hw.trans h2)
theorem YieldsG.put {o o' : Oper} {v : Value} {a : Act} (hs : ∀ cs b, o.op ≠ .select cs b) (hap : ∀ d, o'.dst = some d → d ∉ o.looksAt ops) (u : Value)
   (hy : YieldsG P ops w0 o v a) : YieldsG P ops w0 o v (a.put o'.dst u) := by
 unfold YieldsG qAt at *
 rw [execOp_put o hs a o'.dst u hap, wanted_put o a o'.dst u hap]
 exact hy
theorem YieldsG.okOp {o : Oper} {v : Value} {a : Act} {w : World} (hy : YieldsG P ops w0 o v a) (hw : Grw w0 w) {K : Value → World → Prop} (h : ∀ w1, Grw w w1 → K v w1) : okOp P ops o K a w := by
 unfold YtokkghhmliplfaaGreat.Trk.okOp
 rcases hy with ⟨h1, h2⟩ | ⟨h1, rfl⟩
 · rw [if_pos h1]
   have h3 := h2 w hw
   unfold qAt at h3
   generalize (execOp a.eval o).run P w = r at h3 ⊢
   cases r with
   | ok x w' =>
     cases x <;> simp only [qUpon, okUpon] at h3 ⊢
     case value u => obtain ⟨rfl, rfl⟩ := h3; exact h _ (Grw.refl _)
     case skip => obtain ⟨rfl, rfl⟩ := h3; exact h _ (Grw.refl _)
     case enter f args => obtain ⟨rfl, h4⟩ := h3; exact h4.mono fun e w'' ⟨he, hg⟩ => ⟨v, he, h _ hg⟩
   | halt x w' => simp only [qUpon] at h3
 · rw [if_neg (by rw [h1]; exact Bool.false_ne_true)]
   exact h _ (Grw.refl _)
theorem anyA_first {n i : Nat} {oi : Oper} {v : Value} {L : Array Bool → Act → World → Prop} (hi : ops[i]? = some oi) (hsel : ∀ (j : Nat) (o : Oper) cs b, ops[j]? = some o → o.op ≠ .select cs b)
   (hT : ∀ t ot, n ≤ t → ops[t]? = some ot → ∃ e ∈ ot.after, Region.binds .any e = true ∧ e.on = i) (hin : i < n) :
   ∀ (f : Nat) (listed : Array Bool) (a : Act) (w : World), Grw w0 w →
     (∀ j oj, ops[j]? = some oj → j ≠ i → listed.getD j true = false → (∀ e ∈ oj.after, Region.binds .any e = true → e.on ≠ i) → oi.apart ops oj = true) →
     i ∈ Region.ready .any ops listed → YieldsG P ops w0 oi v a →
     anyA P ops n L f (listed.setIfInBounds i true) (a.put oi.dst v) w → anyA P ops n L (f + 1) listed a w := by
 intro f
 induction f with
 | zero =>
   intro listed a w hw hfree hr hy H w1 hw1
   have hun := (mem_ready.1 hr).1
   refine ⟨fun h => (by rw [h] at hr; cases hr), fun j hj => ?_⟩
   have hjn : j < n := by
     rcases Nat.lt_or_ge j n with h | h
     · exact h
     · obtain ⟨_, oj, hoj, hall⟩ := mem_ready.1 hj
       obtain ⟨e, he, hb, hon⟩ := hT j oj h hoj
       have := hall e he hb
       rw [hon, getD_both hun] at this; cases this
   refine ⟨hjn, fun o ho => ?_⟩
   by_cases hji : j = i
   · subst hji
     obtain rfl : oi = o := Option.some.inj (hi.symm.trans ho)
     exact hy.okOp (hw.trans hw1) fun w2 h2 => ⟨h2, anyA_stab H (hw1.trans h2)⟩
   · have := H.1 j (ready_mono hj hji)
     omega
 | succ f ih =>
   intro listed a w hw hfree hr hy H w1 hw1
   have hun := (mem_ready.1 hr).1
   refine ⟨fun h => (by rw [h] at hr; cases hr), fun j hj => ?_⟩
   have hjn : j < n := by
     rcases Nat.lt_or_ge j n with h | h
     · exact h
     · obtain ⟨_, oj, hoj, hall⟩ := mem_ready.1 hj
       obtain ⟨e, he, hb, hon⟩ := hT j oj h hoj
       have := hall e he hb
       rw [hon, getD_both hun] at this; cases this
   refine ⟨hjn, fun oj hoj => ?_⟩
   by_cases hji : j = i
   · subst hji
     obtain rfl : oi = oj := Option.some.inj (hi.symm.trans hoj)
     exact hy.okOp (hw.trans hw1) fun w2 h2 => ⟨h2, anyA_stab H (hw1.trans h2)⟩
   · obtain ⟨hjun, oj', hoj', hall⟩ := mem_ready.1 hj
     obtain rfl : oj' = oj := Option.some.inj (hoj'.symm.trans hoj)
     have hnot : ∀ e ∈ oj'.after, Region.binds .any e = true → e.on ≠ i := fun e he hb heq => by
       have h1 := hall e he hb
       rw [heq, getD_both hun] at h1; cases h1
     obtain ⟨a1, a2, a3⟩ := Oper.apart_spec (hfree j oj' hoj hji hjun hnot)
     have h1 := ((H w1 hw1).2 j (ready_mono hj hji)).2 oj' hoj
     have h2 : okOp P ops oj' (fun u w2 => Grw w1 w2 ∧ anyA P ops n L f ((listed.setIfInBounds i true).setIfInBounds j true) ((a.put oi.dst v).put oj'.dst u) w2) a w1 := by
       unfold okOp at h1 ⊢
       rw [wanted_put oj' a oi.dst v a1, execOp_put oj' (fun cs b => hsel j oj' cs b hoj) a oi.dst v a1] at h1
       exact h1
     refine okOp_mono (fun u w2 ⟨hg, hA⟩ => ⟨hg, ?_⟩) h2
     refine ih (listed.setIfInBounds j true) (a.put oj'.dst u) w2 ((hw.trans hw1).trans hg) (fun k ok hk hki hunk hno => ?_) (ready_mono hr (Ne.symm hji)) (hy.put (fun cs b => hsel i oi cs b hi) a3 u) ?_
     · refine hfree k ok hk hki ?_ hno
       by_cases hjk : j = k
       · subst hjk; exact hjun
       · rw [getD_set_ne true hjk] at hunk; exact hunk
     · rw [Array.setIfInBounds_comm _ _ hji, ← Act.put_comm a v u a2]
       exact hA
def wpQ (P : Program) (ops : Array Oper) (w0 : World) (Q : Act → Prop) : List Oper → Act → Prop
 | [], a => Q a
 | o :: rest, a => if Region.wanted o (yielded ops a.tmps) then ∃ v, (∀ p : GrownBy, qAt P o a (grow (w0.drewN p.n) p.os) v) ∧ wpQ P ops w0 Q rest (a.put o.dst v) else wpQ P ops w0 Q rest (a.put o.dst undef)
theorem wpQ_nil {Q : Act → Prop} {a : Act} (h : Q a) : wpQ P ops w0 Q [] a := h
theorem wpQ_step {Q : Act → Prop} {a : Act} {o : Oper} {rest : List Oper}
   (h : ∀ K : Act → Prop, (∀ a, wpQ P ops w0 Q rest a → K a) → if Region.wanted o (yielded ops a.tmps) then ∃ v, (∀ p : GrownBy, qAt P o a (grow (w0.drewN p.n) p.os) v) ∧ K (a.put o.dst v) else K (a.put o.dst undef)) : wpQ P ops w0 Q (o :: rest) a :=
 h _ (fun _ h => h)
def flowFrom (ops : Array Oper) (n : Nat) : Nat → Nat → Array Bool → Bool
 | 0, _, _ => true
 | f + 1, k, listed => decide (k < n) && (Region.ready .any ops listed).contains k && Region.free .any ops listed k &&
     ((List.range ops.size).all fun t => decide (t < n) || Region.waitsFor .any ops t k) && flowFrom ops n f (k + 1) (listed.setIfInBounds k true)
def listedTo (m k : Nat) : Array Bool := (List.range k).foldl (fun l i => l.setIfInBounds i true) (Array.replicate m false)
def flowB (ops : Array Oper) (np n : Nat) : Bool := Region.noSelect ops && decide (np ≤ ops.size) && flowFrom ops n np 0 (Array.replicate ops.size false)
theorem listedTo_succ (m k : Nat) : listedTo m (k + 1) = (listedTo m k).setIfInBounds k true := by
 simp [listedTo, List.range_succ]
theorem anyA_lex {n g : Nat} {L : Array Bool → Act → World → Prop} (hsel : Region.noSelect ops = true) : ∀ (l : List Oper) (k : Nat) (a : Act) (w : World), Grw w0 w → (∀ j, j < l.length → l[j]? = ops[k + j]?) →
   flowFrom ops n l.length k (listedTo ops.size k) = true →
   wpQ P ops w0 (fun a' => ∀ w1, Grw w0 w1 → anyA P ops n L g (listedTo ops.size (k + l.length)) a' w1) l a →
   anyA P ops n L (l.length + g) (listedTo ops.size k) a w
 | [], k, a, w, hw, _, _, h => by simpa using h w hw
 | o :: l, k, a, w, hw, hl, hB, h => by
   have h0 : ops[k]? = some o := by simpa using (hl 0 (by simp)).symm
   simp only [List.length_cons, flowFrom, Bool.and_eq_true, decide_eq_true_eq] at hB
   obtain ⟨⟨⟨⟨hkn, hr⟩, hf⟩, ht⟩, hB'⟩ := hB
   have hT : ∀ t ot, n ≤ t → ops[t]? = some ot → ∃ e ∈ ot.after, Region.binds .any e = true ∧ e.on = k := fun t ot hnt hot => by
     have h1 := List.all_eq_true.1 ht t (List.mem_range.2 (Array.getElem?_eq_some_iff.1 hot).1)
     simp only [Bool.or_eq_true, decide_eq_true_eq] at h1
     rcases h1 with h1 | h1
     · omega
     · obtain ⟨o', ho', hh⟩ := Region.waitsFor_spec h1
       obtain rfl : o' = ot := Option.some.inj (ho'.symm.trans hot)
       exact hh
   have step : ∃ v, YieldsG P ops w0 o v a ∧ wpQ P ops w0 (fun a' => ∀ w1, Grw w0 w1 → anyA P ops n L g (listedTo ops.size (k + (l.length + 1))) a' w1) l (a.put o.dst v) := by
     unfold wpQ at h
     split at h
     · rename_i hw'
       obtain ⟨v, h1, h2⟩ := h
       exact ⟨v, .inl ⟨hw', fun w2 ⟨p, hp⟩ => hp ▸ h1 p⟩, h2⟩
     · rename_i hw'
       exact ⟨undef, .inr ⟨by simpa using hw', rfl⟩, h⟩
   obtain ⟨v, hy, hK⟩ := step
   have e : (o :: l).length + g = (l.length + g) + 1 := by simp; omega
   rw [e]
   refine anyA_first h0 (Region.noSelect_spec hsel) hT hkn (l.length + g) _ a w hw (Region.free_spec h0 hf) (by simpa using hr) hy ?_
   rw [← listedTo_succ]
   refine anyA_lex hsel l (k + 1) _ w hw (fun j hj => ?_) (by rw [listedTo_succ]; exact hB') ?_
   · have := hl (j + 1) (by simp; omega)
     simpa [Nat.add_assoc, Nat.add_comm 1 j] using this
   · rw [show k + 1 + l.length = k + (l.length + 1) by omega]; exact hK
theorem wpOp_of_okOp {i : Nat} {o : Oper} (ho : ops[i]? = some o) {K : Value → World → Prop} {K' : Act → World → Prop} {Q : Exit → Act → World → Prop} {a : Act} {w : World} (h : ∀ v w', K v w' → K' (a.put o.dst v) w')
   (hk : okOp P ops o K a w) : wpOp P ops Q i K' a w := by
 unfold okOp at hk
 unfold wpOp
 simp only [ho]
 split
 · rename_i hw
   rw [if_pos hw] at hk
   refine .inl ?_
   unfold Oper.wp
   generalize (execOp a.eval o).run P w = r at hk ⊢
   cases r with
   | ok x w' =>
     cases x <;> simp only [okUpon] at hk <;> simp only [Oper.upon]
     case value u => exact h _ _ hk
     case skip => exact h _ _ hk
     case enter f args => exact hk.mono fun e w'' ⟨v, he, hv⟩ => by subst he; exact h _ _ hv
   | halt x w' => simp only [okUpon] at hk
 · rename_i hw
   rw [if_neg hw] at hk
   exact h _ _ hk
theorem wpAny_of_anyA {n g : Nat} {L : Array Bool → Act → World → Prop} {Q : Exit → Act → World → Prop} (hL : ∀ listed a w, L listed a w → wpAny P .any ops Q g listed a w) :
   ∀ (f : Nat) (listed : Array Bool) (a : Act) (w : World), anyA P ops n L f listed a w → wpAny P .any ops Q (f + g) listed a w
 | 0, listed, a, w, h => by rw [Nat.zero_add]; exact hL _ _ _ (h.2 w (Grw.refl w))
 | f + 1, listed, a, w, h => by
   rw [show f + 1 + g = (f + g) + 1 by omega]
   obtain ⟨h1, h2⟩ := h w (Grw.refl w)
   refine ⟨fun h0 => absurd h0 h1, fun i hi => ?_⟩
   obtain ⟨_, o, ho, _⟩ := mem_ready.1 hi
   exact wpOp_of_okOp ho (fun v w' hv => wpAny_of_anyA hL f _ _ _ hv.2) ((h2 i hi).2 o ho)
theorem wpQ_mono {Q Q' : Act → Prop} (h : ∀ a, Q a → Q' a) : ∀ (l : List Oper) (a : Act), wpQ P ops w0 Q l a → wpQ P ops w0 Q' l a
 | [], a, hh => h a hh
 | o :: l, a, hh => by
   unfold wpQ at hh ⊢
   split
   · rename_i hw
     rw [if_pos hw] at hh
     obtain ⟨v, h1, h2⟩ := hh
     exact ⟨v, h1, wpQ_mono h l _ h2⟩
   · rename_i hw
     rw [if_neg hw] at hh
     exact wpQ_mono h l _ hh
theorem wp_region_flowA {id : Nat} {Q : Exit → Act → World → Prop} {a : Act} {w : World} {l : List Oper} (n : Nat) (hm : P.follows .mixedOrders = true)
   (hB : (flowB l.toArray n n && (Region.ready .any l.toArray (listedTo l.length n)).all (fun j => decide (n ≤ j)) && Region.seqB .any l.toArray (l.length - n) n (listedTo l.length n)) = true)
   (h : wpQ P l.toArray w (fun a' => ∀ w1, Grw w w1 → wpList P l.toArray Q (l.drop n) a' w1) (l.take n) a) : (Code.region id l.toArray true).wp P Q a w := by
 simp only [Bool.and_eq_true, flowB, decide_eq_true_eq] at hB
 obtain ⟨⟨⟨⟨hsel, hn⟩, hfl⟩, hrd⟩, hseq⟩ := hB
 have hn' : n ≤ l.length := by simpa using hn
 have htl : (l.take n).length = n := by simp; omega
 have hsz : l.toArray.size = l.length := by simp
 refine wp_region_any hm ?_
 have H := anyA_lex (P := P) (w0 := w) (n := n) (g := 0) (L := fun listed a' w' => listed = listedTo l.length n ∧ wpList P l.toArray Q (l.drop n) a' w') hsel (l.take n) 0 a ({ w with drawn := w.drawn + 1 }) ((Grw.refl w).drewN 1)
   (fun j hj => by simp only [Nat.zero_add]; rw [htl] at hj; simp [hj]) (by rw [htl]; exact hfl) (by
     have e : 0 + (l.take n).length = n := by omega
     rw [e, hsz]
     exact wpQ_mono (fun a' ha' w1 hw1 => ⟨fun j hj => by simpa using List.all_eq_true.1 hrd j hj, fun w2 hw2 => ⟨rfl, ha' w2 (hw1.trans hw2)⟩⟩) _ _ h)
 have H2 := wpAny_of_anyA (Q := Q) (g := l.length - n) (fun listed a' w' ⟨e, hL⟩ => by
   subst e
   have := wpAny_of_seq (md := .any) (Q' := Q) (l.drop n) n (listedTo l.length n) a' w' (fun j => by simp [List.getElem?_drop]) (by simpa using hseq) hL
   simpa using this) _ _ _ _ H
 rw [htl] at H2
 have e1 : n + 0 + (l.length - n) = l.toArray.size := by omega
 rw [e1] at H2
 exact H2
def okList (P : Program) (ops : Array Oper) (Q : Act → World → Prop) : List Oper → Act → World → Prop
 | [], a, w => ∀ w1, Grw w w1 → Q a w1
 | o :: rest, a, w => ∀ w1, Grw w w1 → okOp P ops o (fun v w2 => Grw w1 w2 ∧ okList P ops Q rest (a.put o.dst v) w2) a w1
theorem okList_nil {Q : Act → World → Prop} {a : Act} {w : World} (h : ∀ w1, Grw w w1 → Q a w1) : okList P ops Q [] a w := h
theorem okList_step {Q : Act → World → Prop} {a : Act} {w : World} {o : Oper} {rest : List Oper}
   (h : ∀ w1, Grw w w1 → ∀ K : Value → World → Prop, (∀ v w2, Grw w1 w2 → okList P ops Q rest (a.put o.dst v) w2 → K v w2) → okOp P ops o K a w1) : okList P ops Q (o :: rest) a w :=
 fun w1 hw => h w1 hw _ fun _ _ hg hk => ⟨hg, hk⟩
theorem anyA_seq {Q : Act → World → Prop} : ∀ (l : List Oper) (k : Nat) (listed : Array Bool) (a : Act) (w : World), (∀ j, l[j]? = ops[k + j]?) → Region.seqB .any ops l.length k listed = true → okList P ops Q l a w →
   anyA P ops ops.size (fun listed' a' w' => Region.ready .any ops listed' = [] ∧ Q a' w') l.length listed a w
 | [], k, listed, a, w, _, hB, h => by
   have e : Region.ready .any ops listed = [] := by simpa [Region.seqB] using hB
   exact ⟨by simp [e], fun w1 hw => ⟨e, h w1 hw⟩⟩
 | o :: l, k, listed, a, w, hl, hB, h => by
   have h0 : ops[k]? = some o := by simpa using (hl 0).symm
   simp only [List.length_cons, Region.seqB, Bool.and_eq_true, decide_eq_true_eq] at hB
   intro w1 hw
   refine ⟨by rw [hB.1]; simp, fun j hj => ?_⟩
   rw [hB.1] at hj
   obtain rfl : j = k := by simpa using hj
   refine ⟨(Array.getElem?_eq_some_iff.1 h0).1, fun o' ho' => ?_⟩
   obtain rfl : o' = o := Option.some.inj (ho'.symm.trans h0)
   exact okOp_mono (fun v w2 ⟨hg, hk⟩ => ⟨hg, anyA_seq l (j + 1) _ _ _ (fun i => by have := hl (i + 1); simpa [Nat.add_assoc, Nat.add_comm 1 i] using this) hB.2 hk⟩) (h w1 hw)
theorem wp_region_flowB {id : Nat} {Q : Exit → Act → World → Prop} {a : Act} {w : World} {l : List Oper} (n : Nat) (hm : P.follows .mixedOrders = true)
   (hB : (flowB l.toArray n l.length && Region.seqB .any l.toArray (l.length - n) n (listedTo l.length n)) = true)
   (h : wpQ P l.toArray w (fun a' => ∀ w1, Grw w w1 → okList P l.toArray (Q .normal) (l.drop n) a' w1) (l.take n) a) : (Code.region id l.toArray true).wp P Q a w := by
 simp only [Bool.and_eq_true, flowB, decide_eq_true_eq] at hB
 obtain ⟨⟨⟨hsel, hn⟩, hfl⟩, hseq⟩ := hB
 have hn' : n ≤ l.length := by simpa using hn
 have htl : (l.take n).length = n := by simp; omega
 have hsz : l.toArray.size = l.length := by simp
 refine wp_region_any hm ?_
 have H := anyA_lex (P := P) (w0 := w) (n := l.toArray.size) (g := l.length - n) (L := fun listed a' w' => Region.ready .any l.toArray listed = [] ∧ Q .normal a' w') hsel (l.take n) 0 a ({ w with drawn := w.drawn + 1 }) ((Grw.refl w).drewN 1)
   (fun j hj => by simp only [Nat.zero_add]; rw [htl] at hj; simp [hj]) (by rw [htl, hsz]; exact hfl) (by
     have e : 0 + (l.take n).length = n := by omega
     rw [e, hsz]
     refine wpQ_mono (fun a' ha' w1 hw1 => ?_) _ _ h
     have := anyA_seq (P := P) (Q := Q .normal) (l.drop n) n (listedTo l.length n) a' w1 (fun j => by simp [List.getElem?_drop]) (by simpa using hseq) (ha' w1 hw1)
     simpa using this)
 have H2 := wpAny_of_anyA (Q := Q) (g := 0) (fun listed a' w' hL => hL) _ _ _ _ H
 rw [htl] at H2
 have e1 : n + (l.length - n) + 0 = l.toArray.size := by omega
 rw [e1] at H2
 exact H2
theorem wp_region_flow {id : Nat} {Q : Exit → Act → World → Prop} {a : Act} {w : World} {l : List Oper} (hm : P.follows .mixedOrders = true)
   (hB : (flowB l.toArray l.length l.length && (Region.ready .any l.toArray (listedTo l.length l.length)).isEmpty) = true)
   (h : wpQ P l.toArray w (fun a' => ∀ w1, Grw w w1 → Q .normal a' w1) l a) : (Code.region id l.toArray true).wp P Q a w := by
 refine wp_region_flowB l.length hm (by simpa [Region.seqB] using hB) ?_
 simp only [List.take_length, List.drop_length]
 exact wpQ_mono (fun a' ha' w1 hw1 => okList_nil fun w2 hw2 => ha' w2 (hw1.trans hw2)) _ _ h
end flow
attribute [local go_sem] qAt qUpon okOp okUpon cell_in_grow frozen_in_grow
theorem compare_t (x y : Int) (w : World) : Calls Tryz.prog 64 #[.int .i64 x, .int .i64 y] w fun e w' => e = .returned (.int .i64 (compareI x y)) ∧ Grw w w' :=
 (compare_any x y w).mono fun _ _ h => ⟨h.1, h.2 ▸ Grw.refl _⟩
theorem okG_want {P : Program} {ops : Array Oper} {Q : Act → World → Prop} {a : Act} {w : World} {o : Oper} {rest : List Oper} (hw : Region.wanted o (yielded ops a.tmps) = true)
   (h : ∀ w1, Grw w w1 → ∀ K : Act → World → Prop, (∀ a' w2, Grw w1 w2 → okList P ops Q rest a' w2 → K a' w2) → okUpon P (fun v w2 => K (a.put o.dst v) w2) ((execOp a.eval o).run P w1)) : okList P ops Q (o :: rest) a w := by
 intro w1 hw1
 unfold okOp
 rw [if_pos hw]
 exact okUpon_mono (fun v w2 hk => hk) (h w1 hw1 (fun a' w2 => Grw w1 w2 ∧ okList P ops Q rest a' w2) fun a' w2 h1 h2 => ⟨h1, h2⟩)
theorem tri_cells (w : World) (x y z : Int) : (w.alloc (.cells #[.int .i64 x, .int .i64 y, .int .i64 z] 3)).cell? ⟨w.heap.size, 0, none⟩ = some (.int .i64 x) ∧ (w.alloc (.cells #[.int .i64 x, .int .i64 y, .int .i64 z] 3)).cell? ⟨w.heap.size, 1, none⟩ = some (.int .i64 y) ∧ (w.alloc (.cells #[.int .i64 x, .int .i64 y, .int .i64 z] 3)).cell? ⟨w.heap.size, 2, none⟩ = some (.int .i64 z) :=
 ⟨(Bk.new w 3 _).cell 0, (Bk.new w 3 _).cell 1, (Bk.new w 3 _).cell 2⟩
theorem ne0 {x : Int} (h : ¬ x = 0) : (x != 0) = true := by simp [h]
theorem or3_t (x y z : Int) (g : Nat) (w : World) (c0 : w.cell? ⟨g, 0, none⟩ = some (.int .i64 x)) (c1 : w.cell? ⟨g, 1, none⟩ = some (.int .i64 y)) (c2 : w.cell? ⟨g, 2, none⟩ = some (.int .i64 z)) :
   Calls Tryz.prog 63 #[.slice (some ⟨g, 0, none⟩) 3 3] w fun e w' => e = .returned (.int .i64 (orI [x, y, z])) ∧ w = w' := by
 have hz : ∀ u : Int, (u != 0) = false → u = 0 := fun u h => by simpa using h
 have e1 : x = 0 → y = 0 → z = 0 → orI [x, y, z] = 0 := fun h1 h2 h3 => by subst h1; subst h2; subst h3; rfl
 have e2 : x = 0 → y = 0 → ¬ z = 0 → orI [x, y, z] = z := fun h1 h2 h3 => by subst h1; subst h2; simp [orI, loopM, orI_step1, ne0 h3]
 have e3 : x = 0 → ¬ y = 0 → orI [x, y, z] = y := fun h1 h3 => by subst h1; simp [orI, loopM, orI_step1, ne0 h3]
 have e4 : ¬ x = 0 → orI [x, y, z] = x := fun h3 => by simp [orI, loopM, orI_step1, ne0 h3]
 have E1 := Lib.hid e1; have E2 := Lib.hid e2; have E3 := Lib.hid e3; have E4 := Lib.hid e4
 clear e1 e2 e3 e4
 go_enter Tryz.func63, Tryz.ntmps63
 go_wp2_with fail
 refine wp_loop_rounds 4 ?_
 rw [rounds_succ]
 by_cases h1 : x = 0
 · subst h1
   go_wp2_with fail
   rw [rounds_succ]
   by_cases h2 : y = 0
   · subst h2
     go_wp2_with fail
     rw [rounds_succ]
     by_cases h3 : z = 0
     · subst h3
       go_wp2_with fail
       rw [rounds_succ]
       go_wp2_with fail
       go_ret
       exact ⟨ret_int (E1.out (by trivial) (by trivial) (by trivial)).symm, rfl⟩
     · go_wp2_with fail
       go_ret
       exact ⟨ret_int (E2.out (by trivial) (by trivial) h3).symm, rfl⟩
   · go_wp2_with fail
     go_ret
     exact ⟨ret_int (E3.out (by trivial) h2).symm, rfl⟩
 · go_wp2_with fail
   go_ret
   exact ⟨ret_int (E4.out h1).symm, rfl⟩
theorem qcompare_t (x y : HitV) (w : World) : Calls Tryz.prog 29 #[.agg (encHitV x).toArray, .agg (encHitV y).toArray] w fun e w' => e = .returned (.int .i64 (qcompareI x y)) ∧ Grw w w' := by
 obtain ⟨b1, f1, t1, px1, py1, nx1, ny1⟩ := x
 obtain ⟨b2, f2, t2, px2, py2, nx2, ny2⟩ := y
 show Calls Tryz.prog 29 #[.agg #[.int .i64 b1, .int .i64 f1, .int .i64 t1, .int .i64 px1, .int .i64 py1, .int .i64 nx1, .int .i64 ny1], .agg #[.int .i64 b2, .int .i64 f2, .int .i64 t2, .int .i64 px2, .int .i64 py2, .int .i64 nx2, .int .i64 ny2]] w fun e w' => e = .returned (.int .i64 (orI [compareI t1 t2, compareI b1 b2, compareI f1 f2])) ∧ Grw w w'
 have hor := or3_t (compareI t1 t2) (compareI b1 b2) (compareI f1 f2)
 generalize orI [compareI t1 t2, compareI b1 b2, compareI f1 f2] = r at hor ⊢
 go_enter Tryz.func29, Tryz.ntmps29
 go_wp2_with fail
 refine wp_region_flowB 15 (by kernel_rfl) (by kernel_rfl) ?_
 simp only [tD]
 (repeat (refine wpQ_step (fun K hK => ?_); go_simp; first | (refine hK _ ?_; clear hK K) | (apply Exists.intro; refine ⟨fun _ => ?_, hK _ ?_⟩; (go_at_call 64; exact compare_t _ _ _); clear hK K)))
 refine wpQ_nil ?_
 intro w1 hg1
 have hg := (((Grw.refl w).alloc _).alloc _).trans hg1
 clear hg1
 refine okG_want rfl (fun w2 hg2 K hK => ?_)
 replace hg := hg.trans hg2
 clear hg2
 go_simp
 refine hK _ _ ((Grw.refl _).alloc _) ?_
 clear hK K
 refine okG_want rfl (fun w3 hg3 K hK => ?_)
 have k0 := hg3.cell (tri_cells w2 _ _ _).1
 have k1 := hg3.cell (tri_cells w2 _ _ _).2.1
 have k2 := hg3.cell (tri_cells w2 _ _ _).2.2
 have hor3 := hor _ w3 k0 k1 k2
 replace hg := (hg.alloc _).trans hg3
 clear hg3
 go_simp
 refine hor3.mono ?_
 rintro e w4 ⟨rfl, rfl⟩
 refine ⟨_, rfl, hK _ _ (Grw.refl _) ?_⟩
 clear hK K hor3 k0 k1 k2
 refine okG_want rfl (fun w5 hg5 K hK => ?_)
 replace hg := hg.trans hg5
 clear hg5
 go_simp
 refine hK _ _ (Grw.refl _) ?_
 clear hK K
 refine okList_nil (fun w6 hg6 => ?_)
 replace hg := hg.trans hg6
 clear hg6
 go_wp2_with fail
 go_ret
 exact ⟨rfl, hg⟩
end Go.Proofs.YtokkghhmliplfaaGreat.Trk
namespace Go.Proofs.YtokkghhmliplfaaGreat
section
open Go.Shelf Go.RowKit Go.Sort
theorem cell_of_block {w : World} {p : Nat} {cs : Array Value} {t : TypeId} (h : w.heap[p]? = some (.cells cs t (0, 0))) (o : Nat) : w.cell? ⟨p, o, none⟩ = cs[o]? := by
 unfold World.cell?; rw [h]; rfl
theorem flat_get {α : Type} (enc : α → List Value) (size : Nat) (hk : ∀ x, (enc x).length = size) : ∀ (xs : List α) (j i : Nat) (x : α), xs[j]? = some x → i < size → (xs.flatMap enc)[j * size + i]? = (enc x)[i]?
 | [], j, i, x, h, _ => by simp at h
 | y :: ys, 0, i, x, h, hi => by
   simp only [List.getElem?_cons_zero, Option.some.injEq] at h
   subst h
   rw [List.flatMap_cons, List.getElem?_append_left (by rw [hk]; omega)]
   simp
 | y :: ys, j + 1, i, x, h, hi => by
   simp only [List.getElem?_cons_succ] at h
   rw [List.flatMap_cons, List.getElem?_append_right (by rw [hk, Nat.add_mul]; omega), hk]
   have e : (j + 1) * size + i - size = j * size + i := by rw [Nat.add_mul]; omega
   rw [e]
   exact flat_get enc size hk ys j i x h hi
section
variable {α : Type} [Inhabited α]
theorem flatK_eq (enc : α → List Value) (k : Nat) (hk : ∀ x, (enc x).length = k) (d : Array α) : flatK enc k d = (d.toList.flatMap enc).toArray := by
 have hl : (d.toList.flatMap enc).length = d.size * k := by
   have : ∀ l : List α, (l.flatMap enc).length = l.length * k := fun l => by induction l with
     | nil => simp
     | cons x l ih => rw [List.flatMap_cons, List.length_append, ih, hk, List.length_cons, Nat.add_mul]; omega
   rw [this]; simp
 refine ext_get! (by simp [hl]) fun t ht => ?_
 have ht' : t < d.size * k := by simpa using ht
 have k0 : 0 < k := by rcases Nat.eq_zero_or_pos k with h | h; · subst h; simp at ht'
                       · exact h
 rw [get_flatK enc k d t ht']
 have hj : t / k < d.size := Nat.div_lt_of_lt_mul (by rwa [Nat.mul_comm] at ht')
 have hi : t % k < k := Nat.mod_lt _ k0
 have h := flat_get enc k hk d.toList (t / k) (t % k) d[t / k]! (by rw [getElem!_pos d _ hj]; simp [hj]) hi
 rw [Nat.div_add_mod' t k] at h
 have h2 : (d.toList.flatMap enc).toArray[t]! = ((d.toList.flatMap enc)[t]?).getD default := by simp [List.getElem!_eq_getElem?_getD, Array.getElem!_eq_getD, Array.getD_eq_getD_getElem?]
 rw [h2, h, List.getElem!_eq_getElem?_getD]
theorem OwnL.holdsK {e k : Nat} {enc : α → List Value} (hk : ∀ x, (enc x).length = k) {w : World} {base g n cap : Nat} {xs : List α} (h : OwnL e k enc w base (.slice (some ⟨g, 0, none⟩) n cap) xs) : HoldsK enc k w g 0 xs.toArray := by
 obtain ⟨h1, ⟨h2, _⟩ | ⟨g', cap', cur, h2, h3, h4, h5, h6, h7, h8⟩⟩ := h
 · cases h2
 · cases h2
   unfold HoldsK
   rw [flatK_eq enc k hk]
   intro j hj
   have hj' : j < (xs.flatMap enc).length := by simpa using hj
   refine ⟨?_, by simp [World.frozen?, h4]⟩
   rw [cell_of_block h4, Nat.zero_add]
   have h9 : (cur.toList.take (xs.length * k))[j]? = (xs.flatMap enc)[j]? := by rw [h8]
   rw [List.getElem?_take, if_pos (by omega)] at h9
   rw [← Array.getElem?_toList, h9, List.getElem?_eq_getElem hj', getElem!_pos _ j hj]
   simp
theorem OwnL.putK {e k : Nat} {enc : α → List Value} (hk : ∀ x, (enc x).length = k) {w : World} {base g n cap : Nat} {xs : List α} (h : OwnL e k enc w base (.slice (some ⟨g, 0, none⟩) n cap) xs) (d : Array α) (hs : d.size = xs.length) (q : Nat) (os : Array Obj) :
   OwnL e k enc (sortWorldK enc k w g 0 q d os) base (.slice (some ⟨g, 0, none⟩) n cap) d.toList := by
 obtain ⟨h1, ⟨h2, _⟩ | ⟨g', cap', cur, h2, h3, h4, h5, h6, h7, h8⟩⟩ := h
 · cases h2
 · cases h2
   have hl : d.toList.length = xs.length := by simpa using hs
   have hfl : (d.toList.flatMap enc).length = xs.length * k := by
     have := size_flatK enc k d
     rw [flatK_eq enc k hk] at this
     simpa [hs] using this
   have hb : (sortWorldK enc k w g 0 q d os).heap[g]? = some (.cells (putCells id 0 (flatK enc k d) cur) e (0, 0)) := by
     have hg : g < (w.heap.modify g (onCells (putCells id 0 (flatK enc k d)))).size := by simpa using (Array.getElem?_eq_some_iff.1 h4).1
     show ((w.heap.modify g (onCells (putCells id 0 (flatK enc k d)))) ++ os)[g]? = _
     rw [Array.getElem?_append_left hg, Array.getElem?_modify, if_pos rfl, h4]
     rfl
   refine ⟨by rw [hl]; exact hfl, .inr ⟨g, cap, _, by rw [hl], h3, hb, by omega, h6, by simpa [putCells] using h7, ?_⟩⟩
   rw [flatK_eq enc k hk]
   have hle : xs.length * k ≤ cap * k := Nat.mul_le_mul_right _ h5
   apply List.ext_getElem?
   intro j
   rw [List.getElem?_take, hl]
   by_cases hj : j < xs.length * k
   · have hk2 : j < cur.size := by omega
     rw [if_pos hj, Array.getElem?_toList]
     simp only [putCells, Array.getElem?_mapIdx]
     rw [Array.getElem?_eq_getElem hk2, Option.map_some, if_pos ⟨by omega, by rw [List.size_toArray, hfl]; omega⟩, Nat.sub_zero, getElem!_pos _ j (by rw [List.size_toArray, hfl]; omega)]
     simp [List.getElem?_eq_getElem, hfl, hj]
   · rw [if_neg hj, List.getElem?_eq_none (by omega)]
theorem onlyChg_sort (enc : α → List Value) (k : Nat) (w : World) (g : Nat) (d : Array α) (q : Nat) (os : Array Obj) : OnlyChg (fun j => j = g) w (sortWorldK enc k w g 0 q d os) := by
 refine ⟨rfl, rfl, rfl, ?_, fun j hj hs => ?_⟩
 · show w.heap.size ≤ ((w.heap.modify _ _) ++ os).size
   simp
 · show ((w.heap.modify _ _) ++ os)[j]? = _
   rw [Array.getElem?_append_left (by simpa using hj), Array.getElem?_modify, if_neg (fun e => hs e.symm)]
theorem sort_own {f : Nat} {fv : Value} {e k : Nat} {enc : α → List Value} (hk : ∀ x, (enc x).length = k) {cf : α → α → Int}
   (hs : ∀ (blk cap : Nat) (d : Array α) (w : World), HoldsK enc k w blk 0 d → blk < w.heap.size → d.size < 4611686018427387904 → Calls Tryz.prog f #[.slice (some ⟨blk, 0, none⟩) d.size cap, fv] w fun e w' =>
     e = .returned (.tuple #[]) ∧ ∃ d' n os, PermIn 0 d.size d d' ∧ SortedIn (ltOf cf) 0 d.size d' ∧ w' = sortWorldK enc k w blk 0 n d' os)
   (hn : ∀ (p : Option Addr) (cap : Nat) (w : World), Calls Tryz.prog f #[.slice p 0 cap, fv] w fun e w' => e = .returned (.tuple #[]) ∧ w' = w)
   {w : World} {base : Nat} {v : Value} {xs : List α} (h : OwnL e k enc w base v xs) (hl : xs.length ≤ 1000000000) :
   Calls Tryz.prog f #[v, fv] w fun r w' => r = .returned (.tuple #[]) ∧ ∃ ys : List α, ys.Perm xs ∧ ys.Pairwise (fun x y => ltOf cf y x = false) ∧ OwnL e k enc w' base v ys ∧ OnlyChg (fun q => v.ownBlock = some q) w w' := by
 rcases h.form with ⟨rfl, rfl⟩ | ⟨g, cap, rfl, h1, h2, h3, h4⟩
 · refine (hn none 0 w).mono ?_
   rintro r w' ⟨rfl, rfl⟩
   exact ⟨rfl, [], List.Perm.refl _, .nil, h, OnlyChg.refl _ _⟩
 · have hc := hs g cap xs.toArray w (h.holdsK hk) h2 (by simp; omega)
   rw [show xs.toArray.size = xs.length by simp] at hc
   refine hc.mono ?_
   rintro r w' ⟨rfl, d', n, os, hp, hso, rfl⟩
   have hsz : d'.size = xs.length := by have := hp.1; simpa using this
   refine ⟨rfl, d'.toList, ?_, ?_, h.putK hk d' hsz n os, (onlyChg_sort enc k w g d' n os).mono fun q _ hq => by simp [Value.ownBlock, hq]⟩
   · have h5 := hp.2.2
     rw [show d'.extract 0 xs.length = d' by rw [← hsz]; simp, show xs.toArray.extract 0 xs.length = xs.toArray by simp] at h5
     simpa using h5
   · rw [List.pairwise_iff_getElem]
     intro i j hi hj hij
     have := hso i j (Nat.zero_le _) hij (by simpa [hsz] using hj)
     rw [getElem!_pos d' i (by simpa using hi), getElem!_pos d' j (by simpa using hj)] at this
     simpa using this
end
abbrev OwnH (w : World) (base : Nat) (v : Value) (xs : List HitV) : Prop := OwnL 48 7 encHitV w base v xs
instance : Inhabited HitV := ⟨HitV.d⟩
theorem cmpLaysH (blk size : Nat) (w : World) : CmpLays Tryz.prog 29 #[] encHitV 7 qcompareI blk 0 size w := by
 intro m os dk _ x y
 rw [Array.append_empty]
 refine (Trk.qcompare_t x y _).mono ?_
 rintro e w' ⟨he, p, hp⟩
 exact ⟨he, p.n, p.os, hp⟩
theorem entersH : ∀ args w, (callFunc 29 args).run Tryz.prog w = .ok (.enter 29 args) w := enters_of Tryz.func29 (by kernel_rfl) rfl
theorem oneH : ∀ (x : HitV), ∀ v ∈ encHitV x, v.oneCell' = true := fun x v hv => by simp [encHitV] at hv; rcases hv with rfl | rfl | rfl | rfl | rfl | rfl | rfl <;> rfl
theorem sortsH (blk cap : Nat) (d : Array (HitV)) (w : World) (hH : HoldsK encHitV 7 w blk 0 d) (hb : blk < w.heap.size) (hsz : d.size < 4611686018427387904) :
   Calls Tryz.prog 28 #[.slice (some ⟨blk, 0, none⟩) d.size cap, .func (.func 29) #[] #[]] w fun e w' =>
     e = .returned (.tuple #[]) ∧ ∃ d' n os, PermIn 0 d.size d d' ∧ SortedIn (ltOf qcompareI) 0 d.size d' ∧ w' = sortWorldK encHitV 7 w blk 0 n d' os := by
 have hcon := AnyQ.slices_SortFunc Tryz.sortH 7 Tryz.isAgg48 Tryz.sizeOf48 encHitV (fun _ => rfl) oneH qcompareI swoH 29 #[] blk 0 cap d w entersH (cmpLaysH blk d.size w) hH hb hsz
 change Calls Tryz.prog 28 _ _ _ at hcon
 exact hcon
theorem noneH (p : Option Addr) (cap : Nat) (w : World) : Calls Tryz.prog 28 #[.slice p 0 cap, .func (.func 29) #[] #[]] w fun e w' => e = .returned (.tuple #[]) ∧ w' = w := by
 have hcon := AnyF.slices_SortFunc_none Tryz.sortH p cap (.func (.func 29) #[] #[]) w
 change Calls Tryz.prog 28 _ _ _ at hcon
 exact hcon
theorem sortH_any {w : World} {base : Nat} {v : Value} {xs : List (HitV)} (h : OwnH w base v xs) (hl : xs.length ≤ 1000000000) :
   Calls Tryz.prog 28 #[v, .func (.func 29) #[] #[]] w fun r w' => r = .returned (.tuple #[]) ∧ ∃ ys : List (HitV), ys.Perm xs ∧ ys.Pairwise (fun x y => ltOf qcompareI y x = false) ∧ OwnH w' base v ys ∧ OnlyChg (fun q => v.ownBlock = some q) w w' :=
 sort_own (e := 48) (k := 7) (enc := encHitV) (cf := qcompareI) (fun _ => rfl) sortsH noneH h hl
end
section
open Go.RowKit Go.Sort
attribute [local go_sem] qAt qUpon okOp okUpon cell_in_grow frozen_in_grow
theorem infoH : (Tryz.prog.info? 48).map (fun i => (i.zero, i.size, i.bytes)) = some (some (.agg #[.int .i64 0, .int .i64 0, .int .i64 0, .int .i64 0, .int .i64 0, .int .i64 0, .int .i64 0]), 7, 56) := by kernel_rfl
attribute [local go_sem] encFixV_eq encBodyV_eq encJointV_eq encPkV_eq encPtV_eq encCtV_eq encMfV_eq encWorldV_eq encHitV_eq encShapeV_eq
attribute [local go_sem ↓] loadAt31 storeAt31 loadAt99 storeAt99 loadAt44 storeAt44 loadAt58 storeAt58 loadAt70 storeAt70 loadAt25 storeAt25 loadAt94 storeAt94 loadAt143 storeAt143 loadAt48 storeAt48
attribute [local go_sem] run_bl31 run_bs31 run_bl99 run_bs99 run_bl44 run_bs44 run_bl58 run_bs58 run_bl70 run_bs70 run_bl25 run_bs25 run_bl94 run_bs94 run_bl143 run_bs143 run_bl48 run_bs48 there_new there_alloc have_in_grow cells_in_grow oc_int oc_bool oc_slice oc_all oc_cons oc_nil List.size_toArray List.length_cons List.length_nil
attribute [local go_sem high] eqR23 eqR94 eqR48
theorem visit_any (b : BodyV) (fx fy tx ty : Int) (j0 pf pt hb base : Nat) (m : Int) (v : Value) (xs : List HitV) (w : World) (h_b : BodyOk w b) (hb_pf : Bk w pf 23 #[.int .i64 (fx), .int .i64 (fy)]) (hb_pt : Bk w pt 23 #[.int .i64 (tx), .int .i64 (ty)]) (hb_hb : Bk w hb 51 #[v]) (hjl0 : j0 < b.fl.length) (hO : OwnL 48 7 encHitV w base v xs) (hbase : base ≤ w.heap.size) (hl : (xs.length + 1) * 56 ≤ 140737488355328) (hcon : consideredB (nth b.fl j0 FixV.d) m = true) :
   Calls Tryz.prog 27 #[.agg (encBodyV b).toArray, .int .i64 ((j0 : Int)), .pointer (some ⟨pf, 0, none⟩), .pointer (some ⟨pt, 0, none⟩), .pointer (some ⟨hb, 0, none⟩)] w fun e w' => e = .returned (.tuple #[]) ∧ ∃ v', Bk w' hb 51 #[v'] ∧ OwnL 48 7 encHitV w' base v' (xs ++ (hitOf fx fy tx ty m b j0 (nth b.fl j0 FixV.d)).toList) ∧ OnlyChg (fun k => k = hb ∨ v.ownBlock = some k) w w' := by
 have HO := Lib.hid hO; clear hO
 have HC := Lib.hid hcon; clear hcon
 have H_b := Lib.hid h_b; clear h_b
 have HX0 := Lib.hid (H_b.out.2.2 (nth b.fl j0 FixV.d) (List.mem_of_getElem? (getD_of _ hjl0)))
 go_enter Tryz.func27, Tryz.ntmps27
 have hB_0 := hb_pf; clear hb_pf
 have hB_1 := hb_pt; clear hb_pt
 have hB_2 := hb_hb; clear hb_hb
 have g_0_l := hB_0.lt
 have g_1_l := hB_1.lt
 have g_2_l := hB_2.lt
 have HB := Lib.hid (show _ ∧ _ ∧ _ from ⟨hB_0, hB_1, hB_2⟩); clear hB_0 hB_1 hB_2
 obtain ⟨b0, b1, b2⟩ := HB.out
 go_upto_region 1 with (fail)
 refine wp_gen (fun xw => Grw w xw ∧ Bk xw (pf) 23 #[.int .i64 (fx), .int .i64 (fy)] ∧ Bk xw (pt) 23 #[.int .i64 (tx), .int .i64 (ty)] ∧ Bk xw (hb) 51 #[v] ∧ Bk xw (w.heap.size) 44 (encBodyV b).toArray) ⟨((Grw.refl w)).alloc _, (b0).alloc _, (b1).alloc _, (b2).alloc _, (Bk.new' (by simp))⟩ ?_
 rintro w1 ⟨hw1, hB1_0, hB1_1, hB1_2, hB1_3⟩
 have ho1 : hb < w.heap.size := g_2_l
 have g1_0_0 : w1.cell? ⟨pf, 0, none⟩ = some (.int .i64 (fx)) := hB1_0.cell 0
 have g1_0_1 : w1.cell? ⟨pf, 1, none⟩ = some (.int .i64 (fy)) := hB1_0.cell 1
 have g1_0_l := hB1_0.lt
 have g1_1_0 : w1.cell? ⟨pt, 0, none⟩ = some (.int .i64 (tx)) := hB1_1.cell 0
 have g1_1_1 : w1.cell? ⟨pt, 1, none⟩ = some (.int .i64 (ty)) := hB1_1.cell 1
 have g1_1_l := hB1_1.lt
 have g1_2_l := hB1_2.lt
 have g1_3_2 : w1.cell? ⟨w.heap.size, 2, none⟩ = some (.int .i64 (b.px)) := hB1_3.cell 2
 have g1_3_3 : w1.cell? ⟨w.heap.size, 3, none⟩ = some (.int .i64 (b.py)) := hB1_3.cell 3
 have g1_3_4 : w1.cell? ⟨w.heap.size, 4, none⟩ = some (.int .i64 (b.an)) := hB1_3.cell 4
 have g1_3_19 : w1.cell? ⟨w.heap.size, 19, none⟩ = some (.slice (b.fa) (b.fl.length) (b.fc)) := hB1_3.cell 19
 have g1_3_l := hB1_3.lt
 have HB1 := Lib.hid (show _ ∧ _ ∧ _ ∧ _ from ⟨hB1_0, hB1_1, hB1_2, hB1_3⟩); clear hB1_0 hB1_1 hB1_2 hB1_3
 clear g_0_l g_1_l g_2_l b0 b1 b2 HB
 have hx2 : b.fl[j0]? = some (nth b.fl j0 FixV.d) := getD_of _ hjl0
 obtain ⟨bx2, ox2, he2, hbx2, hcx2⟩ := (H_b.out.1.grw (hw1)) _ _ hx2; clear hx2
 have gx2_0 : w1.cell? ⟨bx2, ox2 + j0 * 10, none⟩ = some (.int .i64 ((nth b.fl j0 FixV.d).k)) := by simpa [Nat.add_assoc] using hcx2 0 _ rfl
 have gx2_1 : w1.cell? ⟨bx2, ox2 + j0 * 10 + 1, none⟩ = some (.int .i64 ((nth b.fl j0 FixV.d).r)) := by simpa [Nat.add_assoc] using hcx2 1 _ rfl
 have gx2_2 : w1.cell? ⟨bx2, ox2 + j0 * 10 + 2, none⟩ = some (.slice ((nth b.fl j0 FixV.d).va) ((nth b.fl j0 FixV.d).vl.length) ((nth b.fl j0 FixV.d).vc)) := by simpa [Nat.add_assoc] using hcx2 2 _ rfl
 refine wp_region_flowB 15 (by kernel_rfl) (by kernel_rfl) ?_
 simp only [tD]
 iterate 10 (refine wpQ_step (fun K hK => ?_); go_simp; refine hK _ ?_; clear hK K)
 refine wpQ_step (fun K hK => ?_); go_simp; apply Exists.intro; refine ⟨fun _ => ?_, hK _ ?_⟩; (go_at_call 13; exact (cast_any (ShapeV.mk ((nth b.fl j0 FixV.d).k) ((nth b.fl j0 FixV.d).r) ((nth b.fl j0 FixV.d).va) ((nth b.fl j0 FixV.d).vc) ((nth b.fl j0 FixV.d).vl)) b.px b.py b.an fx fy tx ty _ ⟨HX0.out.1.grw ((hw1).trans (Grw.mk _ _)), HX0.out.2⟩)); clear hK K
 iterate 4 (refine wpQ_step (fun K hK => ?_); go_simp; refine hK _ ?_; clear hK K)
 refine wpQ_nil ?_
 intro w3 hg3
 obtain ⟨r4, hr4⟩ : ∃ r : Int, r = (castF (ShapeV.mk ((nth b.fl j0 FixV.d).k) ((nth b.fl j0 FixV.d).r) ((nth b.fl j0 FixV.d).va) ((nth b.fl j0 FixV.d).vc) ((nth b.fl j0 FixV.d).vl)) b.px b.py b.an fx fy tx ty).1 := ⟨_, rfl⟩
 obtain ⟨r5, hr5⟩ : ∃ r : Int, r = (castF (ShapeV.mk ((nth b.fl j0 FixV.d).k) ((nth b.fl j0 FixV.d).r) ((nth b.fl j0 FixV.d).va) ((nth b.fl j0 FixV.d).vc) ((nth b.fl j0 FixV.d).vl)) b.px b.py b.an fx fy tx ty).2.1 := ⟨_, rfl⟩
 obtain ⟨r6, hr6⟩ : ∃ r : Int, r = (castF (ShapeV.mk ((nth b.fl j0 FixV.d).k) ((nth b.fl j0 FixV.d).r) ((nth b.fl j0 FixV.d).va) ((nth b.fl j0 FixV.d).vc) ((nth b.fl j0 FixV.d).vl)) b.px b.py b.an fx fy tx ty).2.2.1 := ⟨_, rfl⟩
 obtain ⟨r7, hr7⟩ : ∃ r : Bool, r = (castF (ShapeV.mk ((nth b.fl j0 FixV.d).k) ((nth b.fl j0 FixV.d).r) ((nth b.fl j0 FixV.d).va) ((nth b.fl j0 FixV.d).vc) ((nth b.fl j0 FixV.d).vl)) b.px b.py b.an fx fy tx ty).2.2.2 := ⟨_, rfl⟩
 (try simp only [← hr4, ← hr5, ← hr6, ← hr7])
 have R4 := Lib.hid hr4; clear hr4
 have R5 := Lib.hid hr5; clear hr5
 have R6 := Lib.hid hr6; clear hr6
 have R7 := Lib.hid hr7; clear hr7
 refine okList_step (fun w3_0 hw3_0 K hK => ?_)
 have hAw3_0 : w1.heap.size ≤ w3_0.heap.size := (show Grw w1 w3_0 by (repeat with_reducible first | exact .refl _ | assumption | refine .setAt ?_ (by first | omega | simp <;> omega) _ | refine .setCells ?_ (by first | omega | simp <;> omega) _ | refine .alloc ?_ _ | refine .drewN ?_ _ | refine .drew ?_ | refine .trans ?_ (by assumption))).size
 go_simp; refine hK _ _ (by (repeat with_reducible first | exact .refl _ | assumption | refine .setAt ?_ (by first | omega | simp <;> omega) _ | refine .setCells ?_ (by first | omega | simp <;> omega) _ | refine .alloc ?_ _ | refine .drewN ?_ _ | refine .drew ?_ | refine .trans ?_ (by assumption))) ?_; clear hK K
 have hN3_0 := Bk.new w3_0 23 #[.int .i64 (0), .int .i64 (0)]
 refine okList_step (fun w3_1 hw3_1 K hK => ?_)
 replace hN3_0 := hN3_0.grw hw3_1
 go_simp; refine hK _ _ (by (repeat with_reducible first | exact .refl _ | assumption | refine .setAt ?_ (by first | omega | simp <;> omega) _ | refine .setCells ?_ (by first | omega | simp <;> omega) _ | refine .alloc ?_ _ | refine .drewN ?_ _ | refine .drew ?_ | refine .trans ?_ (by assumption))) ?_; clear hK K
 refine okList_step (fun w3_2 hw3_2 K hK => ?_)
 replace hN3_0 := hN3_0.grw hw3_2
 have gn_0 : w3_2.cell? ⟨w3_0.heap.size, 0, none⟩ = some (.int .i64 (0)) := hN3_0.cell 0
 have gn_1 : w3_2.cell? ⟨w3_0.heap.size, 1, none⟩ = some (.int .i64 (0)) := hN3_0.cell 1
 have gn_f := hN3_0.frozen
 go_simp; refine hK _ _ (by (repeat with_reducible first | exact .refl _ | assumption | refine .setAt ?_ (by first | omega | simp <;> omega) _ | refine .setCells ?_ (by first | omega | simp <;> omega) _ | refine .alloc ?_ _ | refine .drewN ?_ _ | refine .drew ?_ | refine .trans ?_ (by assumption))) ?_; clear hK K gn_f gn_0 gn_1
 replace hN3_0 := hN3_0.set 0 (.int .i64 (r5))
 replace hN3_0 := hN3_0.set 1 (.int .i64 (r6))
 refine okList_step (fun w3_3 hw3_3 K hK => ?_)
 replace hN3_0 := hN3_0.grw hw3_3
 go_simp; refine hK _ _ (by (repeat with_reducible first | exact .refl _ | assumption | refine .setAt ?_ (by first | omega | simp <;> omega) _ | refine .setCells ?_ (by first | omega | simp <;> omega) _ | refine .alloc ?_ _ | refine .drewN ?_ _ | refine .drew ?_ | refine .trans ?_ (by assumption))) ?_; clear hK K
 refine okList_nil (fun w8 h8 => ?_); go_simp
 have hN3_0 : Bk w8 (w3_0.heap.size) 23 #[.int .i64 (r5), .int .i64 (r6)] := hN3_0.grw h8
 have hg8 : Grw w1 w8 := by (repeat with_reducible first | exact .refl _ | assumption | refine .setAt ?_ (by first | omega | simp <;> omega) _ | refine .setCells ?_ (by first | omega | simp <;> omega) _ | refine .alloc ?_ _ | refine .drewN ?_ _ | refine .drew ?_ | refine .trans ?_ (by assumption))
 have hsz3_0 : w.heap.size < w3_0.heap.size := by (have h1 : Grw w1 w3_0 := by (repeat with_reducible first | exact .refl _ | assumption | refine .setAt ?_ (by first | omega | simp <;> omega) _ | refine .setCells ?_ (by first | omega | simp <;> omega) _ | refine .alloc ?_ _ | refine .drewN ?_ _ | refine .drew ?_ | refine .trans ?_ (by assumption))); (have h2 := h1.size); (have h3 := g1_3_l); omega
 obtain ⟨b0, b1, b2, b3⟩ := HB1.out
 have hB8_0 : Bk w8 (pf) 23 #[.int .i64 (fx), .int .i64 (fy)] := (b0).grw hg8
 have hB8_1 : Bk w8 (pt) 23 #[.int .i64 (tx), .int .i64 (ty)] := (b1).grw hg8
 have hB8_2 : Bk w8 (hb) 51 #[v] := (b2).grw hg8
 have hB8_3 : Bk w8 (w.heap.size) 44 (encBodyV b).toArray := (b3).grw hg8
 have hB8_4 : Bk w8 (w3_0.heap.size) 23 #[.int .i64 (r5), .int .i64 (r6)] := hN3_0
 have hw8 : Grw w w8 := (hw1).trans hg8
 have hs8 : w.heap.size < w8.heap.size := by have h1 := hg8.size; have h2 := g1_3_l; (try simp at h1); omega
 have g8_0_0 : w8.cell? ⟨pf, 0, none⟩ = some (.int .i64 (fx)) := hB8_0.cell 0
 have g8_0_1 : w8.cell? ⟨pf, 1, none⟩ = some (.int .i64 (fy)) := hB8_0.cell 1
 have g8_0_l := hB8_0.lt
 have g8_1_0 : w8.cell? ⟨pt, 0, none⟩ = some (.int .i64 (tx)) := hB8_1.cell 0
 have g8_1_1 : w8.cell? ⟨pt, 1, none⟩ = some (.int .i64 (ty)) := hB8_1.cell 1
 have g8_1_l := hB8_1.lt
 have g8_2_0 : w8.cell? ⟨hb, 0, none⟩ = some (v) := hB8_2.cell 0
 have g8_2_l := hB8_2.lt
 have g8_3_0 : w8.cell? ⟨w.heap.size, 0, none⟩ = some (.int .i64 (b.id)) := hB8_3.cell 0
 have g8_3_l := hB8_3.lt
 have g8_4_0 : w8.cell? ⟨w3_0.heap.size, 0, none⟩ = some (.int .i64 (r5)) := hB8_4.cell 0
 have g8_4_1 : w8.cell? ⟨w3_0.heap.size, 1, none⟩ = some (.int .i64 (r6)) := hB8_4.cell 1
 have g8_4_l := hB8_4.lt
 have HB8 := Lib.hid (show _ ∧ _ ∧ _ ∧ _ ∧ _ from ⟨hB8_0, hB8_1, hB8_2, hB8_3, hB8_4⟩); clear hB8_0 hB8_1 hB8_2 hB8_3 hB8_4
 clear g1_0_0 g1_0_1 g1_0_l g1_1_0 g1_1_1 g1_1_l g1_2_l g1_3_2 g1_3_3 g1_3_4 g1_3_19 g1_3_l b0 b1 b2 b3 HB1 hw1 hg8
 clear hN3_0 hw3_3 hw3_2 hw3_1 hw3_0 h8 hg3
 cases hc9 : (r7)
 · have hH : hitOf fx fy tx ty m b j0 (nth b.fl j0 FixV.d) = none := if_neg (fun h => by rw [← R7.out, hc9] at h; cases h.2)
   have HH := Lib.hid hH; clear hH
   go_wp2_with fail
   refine bodyPost_end (results_none rfl _ _ _) rfl ?_
   obtain ⟨b0, b1, b2, b3, b4⟩ := HB8.out
   refine ⟨rfl, v, b2, ?_, OnlyChg.of_grw hw8⟩
   rw [HH.out, Option.toList_none, List.append_nil]
   exact HO.out.grw hw8
 · have hH : hitOf fx fy tx ty m b j0 (nth b.fl j0 FixV.d) = some ⟨b.id, (j0 : Int), r4, lerpI fx tx r4, lerpI fy ty r4, r5, r6⟩ := by
     unfold hitOf
     rw [← R7.out, ← R4.out, ← R5.out, ← R6.out, hc9, HC.out, if_pos ⟨rfl, rfl⟩]
   have HH := Lib.hid hH; clear hH
   go_upto_region 3 with (fail)
   refine wp_region_flowC 11 (by kernel_rfl) (by kernel_rfl) ?_
   simp only [tD]
   iterate 8 (refine wpQ_step (fun K hK => ?_); go_simp; refine hK _ ?_; clear hK K)
   refine wpQ_step (fun K hK => ?_); go_simp; apply Exists.intro; refine ⟨fun _ => ?_, hK _ ?_⟩; (go_at_call 14; exact (vlerp_any _ _ _ _ _ _)); clear hK K
   iterate 2 (refine wpQ_step (fun K hK => ?_); go_simp; refine hK _ ?_; clear hK K)
   refine wpQ_nil ?_
   intro wa hwa K hK
   go_simp
   refine hK _ _ (by (repeat with_reducible first | exact .refl _ | assumption | refine .setAt ?_ (by first | omega | simp <;> omega) _ | refine .setCells ?_ (by first | omega | simp <;> omega) _ | refine .alloc ?_ _ | refine .drewN ?_ _ | refine .drew ?_ | refine .trans ?_ (by assumption))) ?_; clear hK K
   intro wb hwb
   have hN : Bk wb wa.heap.size 48 #[.int .i64 b.id, .int .i64 (j0 : Int), .int .i64 r4, .int .i64 (lerpI fx tx r4), .int .i64 (lerpI fy ty r4), .int .i64 r5, .int .i64 r6] := (Bk.new wa 48 _).grw hwb
   have hwz : Grw w8 wb := by (repeat with_reducible first | exact .refl _ | assumption | refine .setAt ?_ (by first | omega | simp <;> omega) _ | refine .setCells ?_ (by first | omega | simp <;> omega) _ | refine .alloc ?_ _ | refine .drewN ?_ _ | refine .drew ?_ | refine .trans ?_ (by assumption))
   have hww : Grw w wb := hw8.trans hwz
   obtain ⟨b0, b1, b2, b3, b4⟩ := HB8.out
   have hob := (HO.out.grw hww).apart (b2.grw hwz) (by decide)
   have hbz : hb < wb.heap.size := (b2.grw hwz).lt
   have HOB := Lib.hid hob; clear hob
   have HB2 := Lib.hid (b2.grw hwz); clear b0 b1 b2 b3 b4
   refine wpList_appendAll (enc := encHitV) (z := .agg #[.int .i64 0, .int .i64 0, .int .i64 0, .int .i64 0, .int .i64 0, .int .i64 0, .int .i64 0]) (bytes := 56) (fun _ => rfl) (by simp [encHitV, Value.oneCell']) base rfl _ _ rfl Tryz.underlying51 infoH rfl (by decide) (by decide) v xs [⟨b.id, (j0 : Int), r4, lerpI fx tx r4, lerpI fy ty r4, r5, r6⟩] (some ⟨wa.heap.size, 0, none⟩) 1 rfl rfl (HO.out.grw hww) (Sl.ofBk hN) (Nat.le_trans hbase hww.size) hl ?_
   intro v1 w9 hO9 hC9 _
   obtain ⟨g9, c9, rfl⟩ : ∃ g c, v1 = .slice (some ⟨g, 0, none⟩) (xs.length + 1) c := by
     rcases hO9.form with ⟨_, h⟩ | ⟨g, c, h, _⟩
     · simp at h
     · exact ⟨g, c, by simpa using h⟩
   have hb9 : Bk w9 hb 51 #[v] := (hC9.block hb hbz HOB.out).trans HB2.out
   have g9_0 : w9.cell? ⟨hb, 0, none⟩ = some v := hb9.cell 0
   have g9_f := hb9.frozen
   have HB9 := Lib.hid hb9; clear hb9
   have HO9 := Lib.hid hO9; have HC9 := Lib.hid hC9; clear hO9 hC9
   go_wp2_with fail
   refine bodyPost_end (results_none rfl _ _ _) rfl ?_
   refine ⟨rfl, _, (HB9.out.set' rfl), ?_, ?_⟩
   · rw [HH.out]
     exact HO9.out.keep (OnlyChg.set (OnlyChg.refl (fun k => k = hb) w9) rfl _) (fun q hq e => by subst e; exact (HO9.out.apart HB9.out (by decide)) hq)
   · exact (((OnlyChg.of_grw hww).trans (HC9.out.mono fun _ _ h => .inr h)).set (.inl rfl) _)
end
section
open Go.RowKit Go.Sort
theorem bodyE_fl {b : BodyV} (h : bodyE b = 0) : b.fl.length ≤ 4 := by
 unfold bodyE at h
 simp only [cond_eq_ite] at h
 split at h
 · cases h
 · split at h
   · cases h
   · split at h
     · cases h
     · rename_i h4; simp at h4; omega
theorem loopM_inr {T S R : Type} {f : T → S → Sum R S} {x : T} {l : List T} {s s' : S} (h : f x s = .inr s') : loopM f (x :: l) s = loopM f l s' := by
 simp only [loopM, h]
theorem loopM_inl {T S R : Type} {f : T → S → Sum R S} {x : T} {l : List T} {s : S} {r : R} (h : f x s = .inl r) : loopM f (x :: l) s = .inl r := by
 simp only [loopM, h]
theorem validBodies_loop (W : WorldV) : ∀ (l : List BodyV) (s : Int), (∃ s', loopM (validBodiesB_step2 W) l s = .inr s') → (∀ b ∈ l, bodyE b = 0 ∧ s < b.id) ∧ l.Pairwise fun a b => a.id < b.id
 | [], s, _ => ⟨fun b hb => (by cases hb), .nil⟩
 | x :: l, s, ⟨s', h⟩ => by
   have hs : validBodiesB_step2 W x s = (bif (bodyE x != 0) || ((decide (W.nid ≤ x.id)) || (decide (x.id ≤ s))) then .inl false else .inr x.id) := rfl
   cases hc : (bodyE x != 0) || ((decide (W.nid ≤ x.id)) || (decide (x.id ≤ s)))
   · rw [hc] at hs
     have h' : loopM (validBodiesB_step2 W) l x.id = .inr s' := by rw [← h, loopM_inr hs]
     obtain ⟨h1, h2⟩ := validBodies_loop W l x.id ⟨s', h'⟩
     simp only [Bool.or_eq_false_iff, decide_eq_false_iff_not, bne_eq_false_iff_eq] at hc
     refine ⟨fun b hb => ?_, List.pairwise_cons.2 ⟨fun b hb => (h1 b hb).2, h2⟩⟩
     rcases List.mem_cons.1 hb with rfl | hb
     · exact ⟨hc.1, by omega⟩
     · exact ⟨(h1 b hb).1, by have := (h1 b hb).2; omega⟩
   · rw [hc] at hs
     have h' : loopM (validBodiesB_step2 W) (x :: l) s = .inl false := loopM_inl hs
     rw [h'] at h; cases h
theorem validate_bodies {W : WorldV} (h : validateE W = 0) : W.bl.length ≤ 32 ∧ (∀ b ∈ W.bl, bodyE b = 0) ∧ W.bl.Pairwise fun a b => a.id < b.id := by
 unfold validateE at h
 simp only [cond_eq_ite] at h
 split at h
 · cases h
 · split at h
   · cases h
   · rename_i h8
     split at h
     · cases h
     · split at h
       · cases h
       · rename_i h16
         simp only [Bool.not_eq_true, Bool.not_eq_false', Bool.or_eq_false_iff, decide_eq_false_iff_not] at h8 h16
         have hb : ∃ s', loopM (validBodiesB_step2 W) W.bl 0 = .inr s' := by
           unfold validBodiesB at h16
           have hl : ∀ (l : List BodyV) (s : Int) r, loopM (validBodiesB_step2 W) l s = .inl r → r = false := by
             intro l
             induction l with
             | nil => intro s r hr; cases hr
             | cons x l ih =>
               intro s r hr
               have hs : validBodiesB_step2 W x s = (bif (bodyE x != 0) || ((decide (W.nid ≤ x.id)) || (decide (x.id ≤ s))) then .inl false else .inr x.id) := rfl
               cases hc : (bodyE x != 0) || ((decide (W.nid ≤ x.id)) || (decide (x.id ≤ s))) <;> rw [hc] at hs
               · rw [loopM_inr hs] at hr; exact ih _ _ hr
               · rw [loopM_inl hs] at hr; cases hr; rfl
           cases hq : loopM (validBodiesB_step2 W) W.bl 0 with
           | inl r => have := hl _ _ _ hq; subst this; rw [hq] at h16; cases h16
           | inr s => exact ⟨s, rfl⟩
         obtain ⟨h1, h2⟩ := validBodies_loop W W.bl 0 hb
         exact ⟨by omega, fun b hb => (h1 b hb).1, h2⟩
end
section
open Go.RowKit Go.Sort
attribute [local go_sem] qAt qUpon okOp okUpon cell_in_grow frozen_in_grow encFixV_eq encBodyV_eq encJointV_eq encPkV_eq encPtV_eq encCtV_eq encMfV_eq encWorldV_eq
attribute [local go_sem ↓] loadAt31 storeAt31 loadAt99 storeAt99 loadAt44 storeAt44 loadAt58 storeAt58 loadAt70 storeAt70 loadAt25 storeAt25 loadAt94 storeAt94 loadAt143 storeAt143
attribute [local go_sem] run_bl31 run_bs31 run_bl99 run_bs99 run_bl44 run_bs44 run_bl58 run_bs58 run_bl70 run_bs70 run_bl25 run_bs25 run_bl94 run_bs94 run_bl143 run_bs143 there_new there_alloc have_in_grow cells_in_grow oc_int oc_bool oc_slice oc_all oc_cons oc_nil List.size_toArray List.length_cons List.length_nil
attribute [local go_sem high] eqR23 eqR94
theorem call_27 (args : Array Value) (W : World) : (callFunc 27 args).run Tryz.prog W = .ok (.enter 27 args) W := by simp [go_sem, callFunc, Tryz.func27]; rfl
def raysOf (W : WorldV) (fx fy tx ty m : Int) : List HitV := if validateE W = 0 then bodiesHits fx fy tx ty m W.bl else []
theorem bodiesHits_length {fx fy tx ty m : Int} : ∀ (l : List BodyV), (∀ b ∈ l, b.fl.length ≤ 4) → (bodiesHits fx fy tx ty m l).length ≤ 4 * l.length
 | [], _ => by simp [bodiesHits]
 | b :: l, h => by
   have h1 := bodiesHits_length (fx := fx) (fy := fy) (tx := tx) (ty := ty) (m := m) l fun b hb => h b (List.mem_cons_of_mem _ hb)
   have h2 := fixHits_length (fx := fx) (fy := fy) (tx := tx) (ty := ty) (m := m) b b.fl 0
   have h3 := h b (List.mem_cons_self ..)
   show (bodyHits fx fy tx ty m b ++ bodiesHits fx fy tx ty m l).length ≤ _
   rw [List.length_append, List.length_cons]
   unfold bodyHits
   omega
theorem hitOf_off {fx fy tx ty m : Int} {b : BodyV} {k : Nat} {f : FixV} (h : consideredB f m = false) : hitOf fx fy tx ty m b k f = none := if_neg (fun h' => by rw [h] at h'; cases h'.1)
theorem forEach_any (W : WorldV) (m fx fy tx ty : Int) (pf pt hb : Nat) (w0 w : World) (hg0 : Grw w0 w) (h_W : WorldOk w0 W) (hpf : Bk w pf 23 #[.int .i64 fx, .int .i64 fy]) (hpt : Bk w pt 23 #[.int .i64 tx, .int .i64 ty]) (hhb : Bk w hb 51 #[.slice none 0 0]) (hh0 : w0.heap.size ≤ hb) :
   Calls Tryz.prog 26 #[.agg (encWorldV W).toArray, .int .i64 m, .func (.func 27) #[] #[.pointer (some ⟨pf, 0, none⟩), .pointer (some ⟨pt, 0, none⟩), .pointer (some ⟨hb, 0, none⟩)]] w fun e w' =>
     e = .returned (.tuple #[]) ∧ ∃ v', Grw w0 w' ∧ Bk w' hb 51 #[v'] ∧ OwnL 48 7 encHitV w' w0.heap.size v' (raysOf W fx fy tx ty m) := by
 have H_W := Lib.hid h_W; clear h_W
 go_enter Tryz.func26, Tryz.ntmps26
 go_upto_region 1 with (fail)
 refine wp_gen (fun xw => Grw w0 xw ∧ Bk xw pf 23 #[.int .i64 fx, .int .i64 fy] ∧ Bk xw pt 23 #[.int .i64 tx, .int .i64 ty] ∧ Bk xw hb 51 #[.slice none 0 0] ∧ Bk xw (w.heap.size) 31 (encWorldV W).toArray) ⟨hg0.alloc _, hpf.alloc _, hpt.alloc _, hhb.alloc _, (Bk.new' (by simp))⟩ ?_
 clear hpf hpt hhb
 rintro w1 ⟨hw1, hF1, hT1, hH1, hB1⟩
 have gA1 : HaveAll w1 (w.heap.size) 0 11 := hB1.have 0 11 (Nat.le_of_ble_eq_true rfl)
 have gC1 : cellsAt w1 (w.heap.size) 0 11 = (encWorldV W).toArray := hB1.cells' 0 11 _ rfl rfl
 have HB1 := Lib.hid hB1; have HF1 := Lib.hid hF1; have HT1 := Lib.hid hT1; have HH1 := Lib.hid hH1
 clear hB1 hF1 hT1 hH1 hg0
 go_wp2_with fail
 (go_at_call 5; refine (validate_any W _ (H_W.out.grw hw1)).mono ?_; rintro e w2 ⟨rfl, hg2⟩)
 have HB2 := Lib.hid (HB1.out.grw hg2); have HF2 := Lib.hid (HF1.out.grw hg2); have HT2 := Lib.hid (HT1.out.grw hg2); have HH2 := Lib.hid (HH1.out.grw hg2)
 have hw2 := hw1.trans hg2
 have g2_5 : w2.cell? ⟨w.heap.size, 5, none⟩ = some (.slice (W.ba) (W.bl.length) (W.bc)) := HB2.out.cell 5
 clear HB1 HF1 HT1 HH1 hg2 gA1 gC1 hw1
 obtain ⟨ve, hve⟩ : ∃ ve, ve = validateE W := ⟨_, rfl⟩
 rw [← hve]
 have HVE := Lib.hid hve; clear hve
 cases hv : (ve != 0)
 case true =>
   have hR : raysOf W fx fy tx ty m = [] := if_neg (by rw [← HVE.out]; simpa using hv)
   have HR := Lib.hid hR; clear hR
   go_wp2_with fail
   refine bodyPost_ret (results_none rfl _ _ _) rfl ?_
   exact ⟨rfl, _, hw2, HH2.out, by rw [HR.out]; exact OwnL.nil _ _ _ _ _⟩
 case false =>
 have hv0 : validateE W = 0 := by rw [← HVE.out]; simpa using hv
 have HR := Lib.hid (show raysOf W fx fy tx ty m = bodiesHits fx fy tx ty m W.bl from if_pos hv0)
 have HLF := Lib.hid (show ∀ b ∈ W.bl, b.fl.length ≤ 4 from fun b hb => bodyE_fl ((validate_bodies hv0).2.1 b hb))
 have hbl := (validate_bodies hv0).1
 clear hv0
 go_wp2_with fail
 go_loopg [16] W.bl.length (fun gm v xw => ∃ (k : Nat) (v5 : Value), v = .int .i64 k ∧ k ≤ W.bl.length ∧ W.bl.length - k ≤ gm ∧ Grw w0 xw ∧ Bk xw pf 23 #[.int .i64 fx, .int .i64 fy] ∧ Bk xw pt 23 #[.int .i64 tx, .int .i64 ty] ∧ Bk xw hb 51 #[v5] ∧ OwnL 48 7 encHitV xw w0.heap.size v5 (bodiesHits fx fy tx ty m (W.bl.take k)))
 case atStart => exact ⟨0, _, rfl, Nat.zero_le _, Nat.le_refl _, hw2, HF2.out, HT2.out, HH2.out, OwnL.nil _ _ _ _ _⟩
 case round =>
 obtain ⟨k, v5, rfl, hk, hgm, hw3, hF3, hT3, hH3, hO3⟩ := hrel
 obtain ⟨w3, rfl⟩ : ∃ x, x = wr := ⟨_, rfl⟩
 have HG3 := Lib.hid hgm; have HF3 := Lib.hid hF3; have HT3 := Lib.hid hT3; have HH3 := Lib.hid hH3; have HO3 := Lib.hid hO3
 clear hgm hF3 hT3 hH3 hO3 HB2 HF2 HT2 HH2 hw2 g2_5
 rcases Nat.lt_or_ge k W.bl.length with hlt | hge
 · obtain ⟨x, hx⟩ : ∃ x, W.bl[k]? = some x := ⟨W.bl[k], List.getElem?_eq_getElem hlt⟩
   obtain ⟨bx, ox, he, hbx, gEA, gEC⟩ := (H_W.out.b.grw hw3).big (fun _ => rfl) hx
   replace gEC : cellsAt w3 bx (ox + k * 20) 20 = (encBodyV x).toArray := gEC
   have HRx := Lib.hid (H_W.out.bx _ (List.mem_of_getElem? hx))
   have HBT := Lib.hid (bodiesHits_take (fx := fx) (fy := fy) (tx := tx) (ty := ty) (m := m) W.bl k x hx)
   have hfl := HLF.out x (List.mem_of_getElem? hx)
   have hpre : (bodiesHits fx fy tx ty m (W.bl.take k)).length ≤ 4 * 32 := by
     have h1 := bodiesHits_length (fx := fx) (fy := fy) (tx := tx) (ty := ty) (m := m) (W.bl.take k) fun b hb => HLF.out b (List.mem_of_mem_take hb)
     have h2 : (W.bl.take k).length ≤ 32 := by simp; omega
     omega
   obtain ⟨pre, hpr⟩ : ∃ pre, pre = bodiesHits fx fy tx ty m (W.bl.take k) := ⟨_, rfl⟩
   rw [← hpr] at hpre HO3 HBT
   have HX := Lib.hid hx; have HP := Lib.hid hpr; clear hx hpr
   have b1 := HF3.out; have b2 := HT3.out; have b3 := HH3.out; have o0 := HO3.out
   have hq1 := b1.lt; have hq2 := b2.lt; have hq3 := b3.lt
   go_upto_region 5 with (fail)
   refine wp_gen (fun xw => Grw w0 xw ∧ Bk xw pf 23 #[.int .i64 fx, .int .i64 fy] ∧ Bk xw pt 23 #[.int .i64 tx, .int .i64 ty] ∧ Bk xw hb 51 #[v5] ∧ OwnL 48 7 encHitV xw w0.heap.size v5 pre ∧ Bk xw (w3.heap.size) 44 (encBodyV x).toArray) ⟨((hw3).alloc _).setCells hw3.size _, (b1.alloc _).farCells (by omega) _, (b2.alloc _).farCells (by omega) _, (b3.alloc _).farCells (by omega) _, o0.grw (((Grw.refl w3).alloc _).setCells (Nat.le_refl _) _), ((Bk.new' (by simp))).setAll' rfl rfl⟩ ?_
   rintro w4 ⟨hw4, hF4, hT4, hH4, hO4, hB4⟩
   have g4_19 : w4.cell? ⟨w3.heap.size, 19, none⟩ = some (.slice x.fa x.fl.length x.fc) := hB4.cell 19
   have HF4 := Lib.hid hF4; have HT4 := Lib.hid hT4; have HH4 := Lib.hid hH4; have HO4 := Lib.hid hO4; have HB4 := Lib.hid hB4
   clear hF4 hT4 hH4 hO4 hB4 b1 b2 b3 o0 HF3 HT3 HH3 HO3 hq1 hq2 hq3 hw3 gEA gEC
   go_wp2_with fail
   go_loopg [23] x.fl.length (fun gm v xw => ∃ (j : Nat) (v5 : Value), v = .int .i64 j ∧ j ≤ x.fl.length ∧ x.fl.length - j ≤ gm ∧ Grw w0 xw ∧ Bk xw pf 23 #[.int .i64 fx, .int .i64 fy] ∧ Bk xw pt 23 #[.int .i64 tx, .int .i64 ty] ∧ Bk xw hb 51 #[v5] ∧ OwnL 48 7 encHitV xw w0.heap.size v5 (pre ++ fixHits fx fy tx ty m x (x.fl.take j) 0) ∧ Bk xw (w3.heap.size) 44 (encBodyV x).toArray)
   case atStart => exact ⟨0, _, rfl, Nat.zero_le _, Nat.le_refl _, hw4, HF4.out, HT4.out, HH4.out, by rw [List.take_zero, fixHits, List.append_nil]; exact HO4.out, HB4.out⟩
   case round =>
   obtain ⟨j, v6, rfl, hj, hgm, hw5, hF5, hT5, hH5, hO5, hB5⟩ := hrel
   obtain ⟨w5, rfl⟩ : ∃ x, x = wr := ⟨_, rfl⟩
   have HG5 := Lib.hid hgm; have HF5 := Lib.hid hF5; have HT5 := Lib.hid hT5; have HH5 := Lib.hid hH5; have HO5 := Lib.hid hO5; have HB5 := Lib.hid hB5
   clear hgm hF5 hT5 hH5 hO5 hB5 HF4 HT4 HH4 HO4 HB4 hw4 g4_19
   rcases Nat.lt_or_ge j x.fl.length with hlj | hgj
   · have hf := getD_of FixV.d hlj
     obtain ⟨f, hff⟩ : ∃ f, f = nth x.fl j FixV.d := ⟨_, rfl⟩
     rw [← hff] at hf
     obtain ⟨bf, of, hef, hbf, gFA, gFC⟩ := (HRx.out.1.grw hw5).big (fun _ => rfl) hf
     replace gFC : cellsAt w5 bf (of + j * 10) 10 = (encFixV f).toArray := gFC
     have HFT := Lib.hid (fixHits_take (fx := fx) (fy := fy) (tx := tx) (ty := ty) (m := m) x x.fl j f hf)
     have hlen : (pre ++ fixHits fx fy tx ty m x (x.fl.take j) 0).length ≤ 200 := by
       have h1 := fixHits_length (fx := fx) (fy := fy) (tx := tx) (ty := ty) (m := m) x (x.fl.take j) 0
       have h2 : (x.fl.take j).length ≤ 4 := by simp; omega
       rw [List.length_append]; omega
     obtain ⟨xs, hxs⟩ : ∃ xs, xs = pre ++ fixHits fx fy tx ty m x (x.fl.take j) 0 := ⟨_, rfl⟩
     rw [← hxs] at hlen HO5
     have HF := Lib.hid hf; have HXS := Lib.hid hxs; have HFF := Lib.hid hff; clear hf hxs hff
     have b1 := HF5.out; have b2 := HT5.out; have b3 := HH5.out; have b4 := HB5.out; have o0 := HO5.out
     have hq1 := b1.lt; have hq2 := b2.lt; have hq3 := b3.lt; have hq4 := b4.lt
     go_upto_region 8 with (fail)
     refine wp_gen (fun xw => Grw w0 xw ∧ Bk xw pf 23 #[.int .i64 fx, .int .i64 fy] ∧ Bk xw pt 23 #[.int .i64 tx, .int .i64 ty] ∧ Bk xw hb 51 #[v6] ∧ OwnL 48 7 encHitV xw w0.heap.size v6 xs ∧ Bk xw (w3.heap.size) 44 (encBodyV x).toArray ∧ Bk xw (w5.heap.size) 58 (encFixV f).toArray) ⟨((hw5).alloc _).setCells hw5.size _, (b1.alloc _).farCells (by omega) _, (b2.alloc _).farCells (by omega) _, (b3.alloc _).farCells (by omega) _, o0.grw (((Grw.refl w5).alloc _).setCells (Nat.le_refl _) _), (b4.alloc _).farCells (by omega) _, ((Bk.new' (by simp))).setAll' rfl rfl⟩ ?_
     rintro w6 ⟨hw6, hF6, hT6, hH6, hO6, hB6, hX6⟩
     have gA6 : HaveAll w6 (w5.heap.size) 0 10 := hX6.have 0 10 (Nat.le_of_ble_eq_true rfl)
     have gC6 : cellsAt w6 (w5.heap.size) 0 10 = (encFixV f).toArray := hX6.cells' 0 10 _ rfl rfl
     have HF6 := Lib.hid hF6; have HT6 := Lib.hid hT6; have HH6 := Lib.hid hH6; have HO6 := Lib.hid hO6; have HB6 := Lib.hid hB6
     clear hF6 hT6 hH6 hO6 hB6 hX6 b1 b2 b3 b4 o0 HF5 HT5 HH5 HO5 HB5 hq1 hq2 hq3 hq4 hw5 gFA gFC
     go_wp2_with fail
     (go_at_call 60; refine (considered_any f m _).mono ?_; rintro e w7 ⟨rfl, hg7⟩)
     have hw7 := hw6.trans hg7
     have hF7 := HF6.out.grw hg7; have hT7 := HT6.out.grw hg7; have hH7 := HH6.out.grw hg7; have hO7 := HO6.out.grw hg7; have hB7 := HB6.out.grw hg7
     have gA7 : HaveAll w7 (w3.heap.size) 0 20 := hB7.have 0 20 (Nat.le_of_ble_eq_true rfl)
     have gC7 : cellsAt w7 (w3.heap.size) 0 20 = (encBodyV x).toArray := hB7.cells' 0 20 _ rfl rfl
     have HF7 := Lib.hid hF7; have HT7 := Lib.hid hT7; have HH7 := Lib.hid hH7; have HO7 := Lib.hid hO7; have HB7 := Lib.hid hB7
     clear hF7 hT7 hH7 hO7 hB7 HF6 HT6 HH6 HO6 HB6 hg7 hw6 gA6 gC6
     cases hc : consideredB f m
     · have HH := Lib.hid (show xs = pre ++ fixHits fx fy tx ty m x (x.fl.take (j + 1)) 0 by rw [HFT.out, hitOf_off hc, Option.toList_none, List.append_nil, HXS.out])
       go_wp2_with fail
       have hgm := HG5.out
       (try simp only [← hef, ← he])
       go_roundg (x.fl.length - (j + 1))
       case measure => omega
       case rel => exact ⟨j + 1, v6, by go_num, by omega, Nat.le_refl _, hw7, HF7.out, HT7.out, HH7.out, by rw [← HH.out]; exact HO7.out, HB7.out⟩
     · have HH := Lib.hid (show xs ++ (hitOf fx fy tx ty m x j f).toList = pre ++ fixHits fx fy tx ty m x (x.fl.take (j + 1)) 0 by rw [HFT.out, ← List.append_assoc, ← HXS.out])
       have HC := Lib.hid hc
       have hc1 := call_27 #[.agg (encBodyV x).toArray, .int .i64 j, .pointer (some ⟨pf, 0, none⟩), .pointer (some ⟨pt, 0, none⟩), .pointer (some ⟨hb, 0, none⟩)] w7
       simp only [encBodyV_eq] at hc1
       (try simp only [hef] at hc1)
       go_wp2_with fail
       (try simp only [← hef, ← he])
       refine (visit_any x fx fy tx ty j pf pt hb w0.heap.size m v6 xs w7 (HRx.out.grw hw7) HF7.out HT7.out HH7.out hlj HO7.out hw7.size (by omega) (by rw [← HFF.out]; exact HC.out)).mono ?_
       rintro e w8 ⟨rfl, v8, hH8, hO8, hC8⟩
       rw [← HFF.out] at hO8
       have hw8 : Grw w0 w8 := OnlyChg.near (S := fun k => w0.heap.size ≤ k) ((OnlyChg.of_grw hw7).trans (hC8.mono fun k _ hk => by
         rcases hk with rfl | hk
         · exact hh0
         · exact (HO7.out.base_le k hk).1)) fun k h => h
       have keep : ∀ {b t : Nat} {cs : Array Value}, Bk w7 b t cs → t ≠ 51 → t ≠ 48 → Bk w8 b t cs := fun {b t cs} hb h1 h2 => (hC8.block _ hb.lt (fun hk => by
         rcases hk with rfl | hk
         · exact hb.apart HH7.out h1 rfl
         · exact HO7.out.apart hb h2 hk)).trans hb
       have HF8 := Lib.hid (keep HF7.out (by decide) (by decide)); have HT8 := Lib.hid (keep HT7.out (by decide) (by decide)); have HB8 := Lib.hid (keep HB7.out (by decide) (by decide))
       have HH8 := Lib.hid hH8; have HO8 := Lib.hid hO8
       clear keep hH8 hO8 hC8 hw7 gA7 gC7 HF7 HT7 HH7 HO7 HB7
       go_wp2_with fail
       have hgm := HG5.out
       (try simp only [← hef, ← he])
       go_roundg (x.fl.length - (j + 1))
       case measure => omega
       case rel => exact ⟨j + 1, v8, by go_num, by omega, Nat.le_refl _, hw8, HF8.out, HT8.out, HH8.out, by rw [← HH.out]; exact HO8.out, HB8.out⟩
   · obtain rfl : j = x.fl.length := by omega
     rw [List.take_length] at HO5
     have HH := Lib.hid (show pre ++ fixHits fx fy tx ty m x x.fl 0 = bodiesHits fx fy tx ty m (W.bl.take (k + 1)) from HBT.out.symm)
     go_wp2_with fail
     have hgm := HG3.out
     (try simp only [← he])
     go_roundg (W.bl.length - (k + 1))
     case measure => omega
     case rel => exact ⟨k + 1, v6, by go_num, by omega, Nat.le_refl _, hw5, HF5.out, HT5.out, HH5.out, by rw [← HH.out]; exact HO5.out⟩
 · obtain rfl : k = W.bl.length := by omega
   rw [List.take_length] at HO3
   go_wp2_with fail
   refine bodyPost_end (results_none rfl _ _ _) rfl ?_
   exact ⟨rfl, _, hw3, HH3.out, by rw [HR.out]; exact HO3.out⟩
end
end Go.Proofs.YtokkghhmliplfaaGreat
