/- The row TopEveryRay of the program holds; part 19 of the proof. No condition. -/
import Derived.Test.YtokkghhmliplfaaGreatK17
import Derived.Test.YtokkghhmliplfaaGreatK13
set_option maxRecDepth 100000
set_option maxHeartbeats 12800000
set_option linter.all false
namespace Go.Proofs.YtokkghhmliplfaaGreat
section
open Go.RowKit Go.Sort
attribute [local go_sem] qAt qUpon okOp okUpon cell_in_grow frozen_in_grow encFixV_eq encBodyV_eq encJointV_eq encPkV_eq encPtV_eq encCtV_eq encMfV_eq encWorldV_eq
attribute [local go_sem ↓] loadAt31 storeAt31 loadAt99 storeAt99 loadAt44 storeAt44 loadAt58 storeAt58 loadAt70 storeAt70 loadAt25 storeAt25 loadAt94 storeAt94 loadAt143 storeAt143
attribute [local go_sem] run_bl31 run_bs31 run_bl99 run_bs99 run_bl44 run_bs44 run_bl58 run_bs58 run_bl70 run_bs70 run_bl25 run_bs25 run_bl94 run_bs94 run_bl143 run_bs143 there_new there_alloc have_in_grow cells_in_grow oc_int oc_bool oc_slice oc_all oc_cons oc_nil List.size_toArray List.length_cons List.length_nil
attribute [local go_sem high] eqR23 eqR94
attribute [local go_sem] encObV_eq encW1_eq encI_eq
theorem step1 {g c : Nat} {b bA b1 : ObV} {im ii : Int} {w : World} (h : B1 w g b) (hv : ∀ g c, validateE (W1 g c b 0) = 0) (hid0 : (Lit.int .i64 b.id).wf = true) (hk0 : b.kd = 3) (hs0 : b.sl = false)
   (hvel : ∀ W, Calls Tryz.prog 179 #[.agg (encObV b).toArray, .agg #[.int .i64 8192, .int .i64 0, .int .i64 (-65536), .int .i64 1, .int .i64 0]] W fun e w' => e = .returned (.agg (encObV bA).toArray) ∧ Grw W w')
   (hsb : ∀ W, Calls Tryz.prog 180 #[.agg (encObV bA).toArray] W fun e w' => e = .returned (.agg (encSb ⟨bA.vx, bA.vy, bA.av, im, ii⟩).toArray) ∧ Grw W w')
   (hcl : ∀ W, Calls Tryz.prog 109 #[.agg (encObV bA).toArray] W fun e w' => e = .returned (.agg (encObV bA).toArray) ∧ Grw W w')
   (hEnd : ∀ (g c : Nat) (W : World), B1 W g bA → Calls Tryz.prog 52 #[.agg (encW1 g c 0).toArray] W fun e w' => ∃ g' c', e = .returned (.tuple #[.agg (encW1 g' c' 1).toArray, .slice none 0 0]) ∧ Grw W w' ∧ O1 w' g' b1) :
   Calls Tryz.prog 23 #[.agg (encW1 g c 0).toArray, .slice none 0 0] w fun e w' => ∃ g' c', e = .returned (.tuple #[.agg (encW1 g' c' 1).toArray, .slice none 0 0, .int .i64 0]) ∧ Grw w w' ∧ O1 w' g' b1 := by
 have H := Lib.hid h; have HV := Lib.hid hv; have HID := Lib.hid hid0; have HK := Lib.hid hk0; have HSL := Lib.hid hs0; have HVEL := Lib.hid hvel; have HSB := Lib.hid hsb; have HCL := Lib.hid hcl; have HEND := Lib.hid hEnd
 clear h hv hid0 hk0 hs0 hvel hsb hcl hEnd
 go_enter Tryz.func23, Tryz.ntmps23
 go_upto_region 1 with (fail)
 refine wp_gen (fun xw => Grw w xw ∧ Bk xw w.heap.size 31 (encW1 g c 0).toArray ∧ Bk xw (w.heap.size + 1) 31 (encWorldV WorldV.d).toArray) ⟨((Grw.refl w).alloc _).alloc _, (Bk.new' (by simp)).alloc _, Bk.new' (by simp)⟩ ?_
 rintro w1 ⟨hw1, hB1, hR1⟩
 have gA : HaveAll w1 (w.heap.size) 0 11 := hB1.have 0 11 (Nat.le_of_ble_eq_true rfl)
 have gC : cellsAt w1 (w.heap.size) 0 11 = (encW1 g c 0).toArray := hB1.cells' 0 11 _ rfl rfl
 have HB1 := Lib.hid hB1; have HR1 := Lib.hid hR1; clear hB1 hR1
 go_upto_region 3 with (go_at_call 5; refine (validate1 (b := b) (Sl.grw H.out hw1) (HV.out _ _)).mono ?_; rintro e w2 ⟨rfl, hg2⟩)
 have hw2 := hw1.trans hg2
 have hB2 := HB1.out.grw hg2; have hR2 := HR1.out.grw hg2
 clear gA gC HB1 HR1 hg2 hw1
 have c10 : w2.cell? ⟨w.heap.size, 10, none⟩ = some (.int .i64 0) := hB2.cell 10
 have gA : HaveAll w2 (w.heap.size) 0 11 := hB2.have 0 11 (Nat.le_of_ble_eq_true rfl)
 have gC : cellsAt w2 (w.heap.size) 0 11 = (encW1 g c 0).toArray := hB2.cells' 0 11 _ rfl rfl
 have HB2 := Lib.hid hB2; have HR2 := Lib.hid hR2; clear hB2 hR2
 --A
 go_upto_region 6 with (go_at_call 49; refine (begin1 (Sl.grw H.out hw2) HV.out HID.out HK.out HSL.out).mono ?_; rintro e w3 ⟨g1, c1, gi, ci, gb, cb, rfl, hg3, hO3, hI3⟩; have hB3 := HB2.out.grw hg3; have hT : There w3 w.heap.size 0 11 := hB3.there 0 11 (Nat.le_of_ble_eq_true rfl); have HB3 := Lib.hid hB3; clear hB3)
 have hw3 := hw2.trans hg3
 have hR3 := HR2.out.grw hg3
 have hlb := HB3.out.lt
 have hn1 := Pk.apart hO3 HB3.out.pk (by decide); have hn2 := Pk.apart hI3.1 HB3.out.pk (by decide); have hn3 := Pk.apart hI3.2 HB3.out.pk (by decide)
 refine wp_gen (fun xw => Grw w xw ∧ Bk xw w.heap.size 31 (encW1 g1 c1 0).toArray ∧ Bk xw (w.heap.size + 1) 31 (encWorldV WorldV.d).toArray ∧ I1 xw gi gb cb ∧ O1 xw g1 b) ⟨hw3.setCells (by omega) _, HB3.out.setAll' rfl rfl, hR3.farCells (by omega) _, ⟨Pk.farCells hI3.1 (by omega) _, Pk.farCells hI3.2 (by omega) _⟩, Pk.farCells hO3 (by omega) _⟩ ?_
 clear c10 gA gC hT HB2 HR2 HB3 hR3 hI3 hO3 hw2 hg3 hw3 hlb hn1 hn2 hn3
 rintro w4 ⟨hw4, hB4, hR4, hI4, hO4⟩
 have HB4 := Lib.hid hB4; have HR4 := Lib.hid hR4; have HI4 := Lib.hid hI4; have HO4 := Lib.hid hO4; clear hB4 hR4 hI4 hO4
 go_wp2_with fail
 refine wp_loop_rounds 2 ?_
 rw [rounds_succ]
 go_upto_region 13 with (fail)
 --B
 have hB4 := HB4.out; have hI4 := HI4.out
 have gA : HaveAll w4 (w.heap.size) 0 11 := hB4.have 0 11 (Nat.le_of_ble_eq_true rfl)
 have gC : cellsAt w4 (w.heap.size) 0 11 = (encW1 g1 c1 0).toArray := hB4.cells' 0 11 _ rfl rfl
 have j0 : w4.cell? ⟨gi, 0, none⟩ = some (.slice (some ⟨gb, 0, none⟩) 1 cb) := Pk.cell hI4.1 rfl
 have j1 : w4.cell? ⟨gi, 1, none⟩ = some (.slice none 0 0) := Pk.cell hI4.1 rfl
 have j2 : w4.cell? ⟨gi, 2, none⟩ = some (.slice none 0 0) := Pk.cell hI4.1 rfl
 have hli := Pk.lt hI4.1; have hlb := hB4.lt
 clear hB4 hI4
 refine wp_region_steps [(true, 0), (true, 1), (true, 2), (true, 3), (true, 4), (false, 5)] [6] (by kernel_rfl) (by kernel_rfl) ?_
 intro w5 hw5
 iterate 5 (refine st_det rfl (fun K hK => ?_); go_simp; refine hK _ ?_; clear hK K)
 refine st_mid rfl (fun w6 hw6 K hK => ?_)
 go_simp
 refine (solveIsland1 (O1.b1 (O1.grw HO4.out (hw5.trans hw6))) (HI4.out.2.grw (hw5.trans hw6)) (HV.out _ _) HSL.out HK.out HVEL.out HSB.out HCL.out).mono ?_
 rintro e w7 ⟨g2, c2, rfl, hg7, hgg7, hO7⟩
 refine ⟨_, rfl, hK _ _ (by (repeat with_reducible first | exact .refl _ | assumption | refine .setAt ?_ (by first | omega | simp <;> omega) _ | refine .setCells ?_ (by first | omega | simp <;> omega) _ | refine .alloc ?_ _ | refine .drewN ?_ _ | refine .drew ?_ | refine .trans ?_ (by assumption))) ?_⟩; clear hK K
 refine st_nil (fun w8 hw8 => ?_)
 simp only [pickO, List.getElem?_cons_succ, List.getElem?_cons_zero]
 --C
 have hg := ((hw5.trans hw6).trans hg7).trans hw8
 have hw8' := hw4.trans hg
 have hB8 := HB4.out.grw hg; have hR8 := HR4.out.grw hg; have hO8 := O1.grw hO7 hw8
 have hT : There w8 w.heap.size 0 11 := hB8.there 0 11 (Nat.le_of_ble_eq_true rfl)
 have hn1 := Pk.apart hO8 hB8.pk (by decide)
 clear gA gC j0 j1 j2 hli hlb HB4 HR4 HI4 HO4 hg hw5 hw6 hg7 hw8 hO7 hgg7 hw4
 go_upto_region 14 with (fail)
 refine wp_gen (fun xw => Grw w xw ∧ Bk xw w.heap.size 31 (encW1 g2 c2 0).toArray ∧ Bk xw (w.heap.size + 1) 31 (encWorldV WorldV.d).toArray ∧ O1 xw g2 bA) ⟨hw8'.setCells (by omega) _, hB8.setAll' rfl rfl, hR8.farCells (by omega) _, Pk.farCells hO8 (by omega) _⟩ ?_
 clear hT hB8 hR8 hO8 hn1 hw8'
 rintro w9 ⟨hw9, hB9, hR9, hO9⟩
 have gA : HaveAll w9 (w.heap.size) 0 11 := hB9.have 0 11 (Nat.le_of_ble_eq_true rfl)
 have gC : cellsAt w9 (w.heap.size) 0 11 = (encW1 g2 c2 0).toArray := hB9.cells' 0 11 _ rfl rfl
 have HB9 := Lib.hid hB9; have HR9 := Lib.hid hR9; have HO9 := Lib.hid hO9; clear hB9 hR9 hO9
 go_wp2_with fail
 rw [rounds_succ]
 go_upto_region 16 with (go_at_call 52; refine (HEND.out _ _ _ (O1.b1 HO9.out)).mono ?_; rintro e w10 ⟨g3, c3, rfl, hg10, hO10⟩; have hB10 := HB9.out.grw hg10; have hT : There w10 w.heap.size 0 11 := hB10.there 0 11 (Nat.le_of_ble_eq_true rfl); have HB10 := Lib.hid hB10; clear hB10)
 --D
 have hw10 := hw9.trans hg10
 have hR10 := HR9.out.grw hg10
 have hlb := HB10.out.lt
 have hn1 := Pk.apart hO10 HB10.out.pk (by decide)
 refine wp_gen (fun xw => Grw w xw ∧ Bk xw w.heap.size 31 (encW1 g3 c3 1).toArray ∧ Bk xw (w.heap.size + 1) 31 (encWorldV WorldV.d).toArray ∧ O1 xw g3 b1) ⟨hw10.setCells (by omega) _, HB10.out.setAll' rfl rfl, hR10.farCells (by omega) _, Pk.farCells hO10 (by omega) _⟩ ?_
 clear gA gC hT HB9 HR9 HO9 HB10 hR10 hO10 hw9 hg10 hw10 hlb hn1
 rintro w11 ⟨hw11, hB11, hR11, hO11⟩
 have gA : HaveAll w11 (w.heap.size) 0 11 := hB11.have 0 11 (Nat.le_of_ble_eq_true rfl)
 have gC : cellsAt w11 (w.heap.size) 0 11 = (encW1 g3 c3 1).toArray := hB11.cells' 0 11 _ rfl rfl
 have hlb := hB11.lt; have hlr := hR11.lt
 have hn1 := Pk.apart hO11 hR11.pk (by decide)
 have HR11 := Lib.hid hR11; have HO11 := Lib.hid hO11; clear hB11 hR11 hO11
 refine wp_region_steps [(true, 0), (true, 1), (true, 2), (false, 3)] [4, 5, 6] (by kernel_rfl) (by kernel_rfl) ?_
 intro w12 hw12
 iterate 3 (refine st_det rfl (fun K hK => ?_); go_simp; refine hK _ ?_; clear hK K)
 refine st_mid rfl (fun w13 hw13 K hK => ?_)
 refine okOp_nilnil rfl _ _ rfl Tryz.underlying71 (by kernel_rfl) rfl rfl (hK _ _ (by (repeat with_reducible first | exact .refl _ | assumption | refine .setAt ?_ (by first | omega | simp <;> omega) _ | refine .setCells ?_ (by first | omega | simp <;> omega) _ | refine .alloc ?_ _ | refine .drewN ?_ _ | refine .drew ?_ | refine .trans ?_ (by assumption))) ?_); clear hK K
 refine st_nil (fun w14 hw14 => ?_)
 simp only [pickO, List.getElem?_cons_succ, List.getElem?_cons_zero]
 --E
 have hg := (hw12.trans hw13).trans hw14
 have hw14' := hw11.trans hg
 have hR14 := HR11.out.grw hg; have hO14 := O1.grw HO11.out hg
 have hT : There w14 (w.heap.size + 1) 0 11 := hR14.there 0 11 (Nat.le_of_ble_eq_true rfl)
 have HR14 := Lib.hid hR14; have HO14 := Lib.hid hO14
 clear gA gC HR11 HO11 hR14 hO14 hg hw12 hw13 hw14 hw11
 go_wp2_with fail
 have hK : Bk (w14.setCells (w.heap.size + 1) 0 (wl g3 c3 1)) (w.heap.size + 1) 31 (wl g3 c3 1).toArray := HR14.out.setAll' rfl rfl
 refine bodyPost_ret (v := .tuple #[.agg (wl g3 c3 1).toArray, .slice none 0 0, .int .i64 0]) (results_cell3 Tryz.results23 _ _ _ _ _ _ _ rfl hK Tryz.underlying31 rfl (by kernel_rfl)) rfl ?_
 exact ⟨g3, c3, rfl, hw14'.setCells (by omega) _, Pk.farCells HO14.out (by omega) _⟩
def b0 : ObV := ⟨1, 3, 0, 0, 0, 0, 0, 0, 0, 0, 0, 0, 0, 65536, false, false, false, false, 0⟩
def bA : ObV := ⟨1, 3, 0, 0, 0, 0, -8192, 0, 0, 0, 0, 0, 0, 65536, false, false, false, false, 0⟩
def bE : ObV := ⟨1, 3, 0, -1024, 0, 0, -8192, 0, 0, 0, 0, 0, 0, 65536, false, false, false, false, 0⟩
theorem b0_vel (W : World) : Calls Tryz.prog 179 #[.agg (encObV b0).toArray, .agg #[.int .i64 8192, .int .i64 0, .int .i64 (-65536), .int .i64 1, .int .i64 0]] W fun e w' => e = .returned (.agg (encObV bA).toArray) ∧ Grw W w' := by
 have h : velocity0F b0 8192 0 (-65536) 1 0 = (1, 3, 0, 0, 0, 0, -8192, 0, 0, 0, 0, 0, 0, 65536, false, false, false, false, 0) := by kernel_rfl
 refine (velocity0 b0 8192 0 (-65536) 1 0 W).mono fun e w' he => ⟨?_, he.2⟩
 rw [he.1, h]; rfl
theorem bA_sb (W : World) : Calls Tryz.prog 180 #[.agg (encObV bA).toArray] W fun e w' => e = .returned (.agg (encSb ⟨bA.vx, bA.vy, bA.av, 65536, 0⟩).toArray) ∧ Grw W w' := by
 have h : solverBody0F bA = (0, -8192, 0, 65536, 0) := by decide +kernel
 refine (solverBody0 bA W).mono fun e w' he => ⟨?_, he.2⟩
 rw [he.1, h]; rfl
theorem bA_cl (W : World) : Calls Tryz.prog 109 #[.agg (encObV bA).toArray] W fun e w' => e = .returned (.agg (encObV bA).toArray) ∧ Grw W w' := by
 have h : clampVel0F bA = (1, 3, 0, 0, 0, 0, -8192, 0, 0, 0, 0, 0, 0, 65536, false, false, false, false, 0) := by kernel_rfl
 refine (clampVel0 bA W).mono fun e w' he => ⟨?_, he.2⟩
 rw [he.1, h]; rfl
theorem bE_cf (W : World) : Calls Tryz.prog 10 #[.agg (encObV bE).toArray] W fun e w' => e = .returned (.agg (encObV bE).toArray) ∧ Grw W w' := by
 have h : clearForces0F bE = (1, 3, 0, -1024, 0, 0, -8192, 0, 0, 0, 0, 0, 0, 65536, false, false, false, false, 0) := by kernel_rfl
 refine (clearForces0 bE W).mono fun e w' he => ⟨?_, he.2⟩
 rw [he.1, h]; rfl
theorem bA_pos (W : World) : Calls Tryz.prog 115 #[.agg (encObV bA).toArray, .int .i64 8192] W fun e w' => e = .returned (.agg (encObV bE).toArray) ∧ Grw W w' := by
 have h : integrateF 0 0 0 0 0 0 (-8192) 0 8192 = (0, -1024, 0) := by decide +kernel
 have h1 : confineF 0 0 = (0, 0) := by decide +kernel
 have h2 : confineF (-1024) (-8192) = (-1024, -8192) := by decide +kernel
 exact position1 (b := bA) (dt := 8192) (px := 0) (py := -1024) (an := 0) rfl rfl
   (fun V => (integrate_any 0 0 0 0 0 0 (-8192) 0 8192 V).mono fun e w' he => ⟨by rw [he.1, h], he.2⟩)
   (fun V => (confine_any 0 0 V).mono fun e w' he => ⟨by rw [he.1, h1]; rfl, he.2⟩)
   (fun V => (confine_any (-1024) (-8192) V).mono fun e w' he => ⟨by rw [he.1, h2]; rfl, he.2⟩)
theorem bE_slow : isSlow0B bE = false := by decide +kernel
theorem b0_ok (g c : Nat) : validateE (W1 g c b0 0) = 0 := by kernel_rfl
theorem bA_ok (g c : Nat) : validateE (W1 g c bA 0) = 0 := by kernel_rfl
theorem bE_ok (g c : Nat) : validateE (W1 g c bE 0) = 0 := by kernel_rfl
theorem bE_end (g c : Nat) (W : World) (h : B1 W g bA) : Calls Tryz.prog 52 #[.agg (encW1 g c 0).toArray] W fun e w' => ∃ g' c', e = .returned (.tuple #[.agg (encW1 g' c' 1).toArray, .slice none 0 0]) ∧ Grw W w' ∧ O1 w' g' bE :=
 end1 (b := bA) (b1 := bE) h bA_ok bE_ok rfl (by kernel_rfl) bA_pos rfl rfl bE_slow rfl bE_cf
theorem step0 {g c : Nat} {w : World} (h : B1 w g b0) :
   Calls Tryz.prog 23 #[.agg (encW1 g c 0).toArray, .slice none 0 0] w fun e w' => ∃ g' c', e = .returned (.tuple #[.agg (encW1 g' c' 1).toArray, .slice none 0 0, .int .i64 0]) ∧ Grw w w' ∧ O1 w' g' bE :=
 step1 (b := b0) (bA := bA) (b1 := bE) (im := 65536) (ii := 0) h b0_ok (by kernel_rfl) rfl rfl b0_vel bA_sb bA_cl bE_end
theorem stepExample_raw (w : World) : Calls Tryz.prog 7 #[] w fun e w' => e = .returned (.bool true) ∧ Grw w w' := by
 have gN : ∀ (o : Obj) (cs : Array Value), cs.size = 11 → There ((w.alloc o).alloc (.cells cs 31)) (w.heap.size + 1) 0 11 := fun o cs h => by
   have := there_new (w.alloc o) cs 31 11 (by omega)
   simpa using this
 go_enter Tryz.func7, Tryz.ntmps7
 go_upto_region 2 with (fail)
 clear gN
 refine wp_gen (fun xw => Grw w xw ∧ Bk xw w.heap.size 44 (encObV b0).toArray ∧ Bk xw (w.heap.size + 1) 31 (encW1 w.heap.size 1 0).toArray) ⟨(((Grw.refl w).alloc _).alloc _).setCells (by omega) _, ((Bk.new' (by simp)).alloc _).farCells (by omega) _, (Bk.new' (by simp)).setAll' rfl rfl⟩ ?_
 rintro w1 ⟨hw1, hB1, hX1⟩
 have gA : HaveAll w1 (w.heap.size + 1) 0 11 := hX1.have 0 11 (Nat.le_of_ble_eq_true rfl)
 have gC : cellsAt w1 (w.heap.size + 1) 0 11 = (encW1 w.heap.size 1 0).toArray := hX1.cells' 0 11 _ rfl rfl
 have HB : B1 w1 w.heap.size b0 := O1.b1 ⟨#[], by simpa using hB1⟩
 have HB1 := Lib.hid HB; clear HB hB1 hX1
 --A
 go_upto_region 3 with (go_at_call 23; refine (step0 HB1.out).mono ?_; rintro e w2 ⟨g, c, rfl, hg2, hO2⟩)
 --B
 refine wp_gen (fun xw => Grw w xw ∧ O1 xw g bE ∧ Bk xw w2.heap.size 31 (encW1 g c 1).toArray) ⟨((hw1.trans hg2).alloc _).setCells (by have := (hw1.trans hg2).size; omega) _, Pk.farCells (O1.grw hO2 ((Grw.refl w2).alloc _)) (by have := Pk.lt hO2; omega) _, (Bk.new' (by simp)).setAll' rfl rfl⟩ ?_
 clear gA gC HB1 hg2 hO2 hw1
 rintro w3 ⟨hw3, hO3, hX3⟩
 have x5 : w3.cell? ⟨w2.heap.size, 5, none⟩ = some (.slice (some ⟨g, 0, none⟩) 1 c) := hX3.cell 5
 have x10 : w3.cell? ⟨w2.heap.size, 10, none⟩ = some (.int .i64 1) := hX3.cell 10
 have o2 : w3.cell? ⟨g, 2, none⟩ = some (.int .i64 0) := Pk.cell hO3 rfl
 have o3 : w3.cell? ⟨g, 3, none⟩ = some (.int .i64 (-1024)) := Pk.cell hO3 rfl
 have o5 : w3.cell? ⟨g, 5, none⟩ = some (.int .i64 0) := Pk.cell hO3 rfl
 have o6 : w3.cell? ⟨g, 6, none⟩ = some (.int .i64 (-8192)) := Pk.cell hO3 rfl
 clear hO3 hX3
 go_wp2_with fail
 go_ret
 exact ⟨rfl, hw3⟩
end
section
open Go.ChangeShapes Go.WideShapes Go.ChangeAt Go.RowKit Go.Deep
theorem ray_holds : Rows.TopEveryRaySaid := ray_holds_of stepExample_raw
end
end Go.Proofs.YtokkghhmliplfaaGreat
