/- The row TopEveryRay of the program holds; part 11 of the proof. No condition. -/
import Derived.Test.YtokkghhmliplfaaGreatK9
import Derived.ProofKit
import Derived.Deep.Slices
import Derived.SizedLaws
import Derived.Deep.Strs
import Derived.OpenShut
import Derived.Deep.Upon
import Derived.Lib.AppendZeros
import Derived.Shelf.Spec.SlicesGrow
set_option maxRecDepth 100000
set_option maxHeartbeats 12800000
set_option linter.all false
namespace Go.Proofs.YtokkghhmliplfaaGreat
section
open Go.RowKit Go.Sort
attribute [local go_sem] qAt qUpon okOp okUpon cell_in_grow frozen_in_grow
structure HitV where
 body : Int
 fix : Int
 t : Int
 px : Int
 py : Int
 nx : Int
 ny : Int
def HitV.d : HitV := ⟨0, 0, 0, 0, 0, 0, 0⟩
def encHitV (x : HitV) : List Value := [.int .i64 (x.body), .int .i64 (x.fix), .int .i64 (x.t), .int .i64 (x.px), .int .i64 (x.py), .int .i64 (x.nx), .int .i64 (x.ny)]
theorem encHitV_eq (x : HitV) : (encHitV x).toArray = #[.int .i64 (x.body), .int .i64 (x.fix), .int .i64 (x.t), .int .i64 (x.px), .int .i64 (x.py), .int .i64 (x.nx), .int .i64 (x.ny)] := rfl
attribute [local go_sem] encHitV_eq
theorem loadAt48 (x : Value) : Instr.loadAt 48 x = bigLoad 48 x := rfl
theorem storeAt48 (x v : Value) : Instr.storeAt 48 x v = bigStore 48 x v := rfl
theorem run_bl48 (w : World) (b o : Nat) (h : HaveAll w b o 7) : (bigLoad 48 (.pointer (some ⟨b, o, none⟩))).run Tryz.prog w = .ok (.agg (cellsAt w b o 7)) w := run_bigLoad (d := .struct (Tryz.prog.fieldsOf 48)) (by kernel_rfl) rfl (by kernel_rfl) h
theorem run_bs48 (w : World) (b o : Nat) (cs : Array Value) (hs : cs.size = 7) (h1 : cs.all (·.oneCell') = true) (h : There w b o 7) : (bigStore 48 (.pointer (some ⟨b, o, none⟩)) (.agg cs)).run Tryz.prog w = .ok () (w.setCells b o cs.toList) := run_bigStore (by kernel_rfl) hs h1 h
def eqB48 (a0 : Int) (a1 : Int) (a2 : Int) (a3 : Int) (a4 : Int) (a5 : Int) (a6 : Int) (b0 : Int) (b1 : Int) (b2 : Int) (b3 : Int) (b4 : Int) (b5 : Int) (b6 : Int) : Bool := (a0 == b0) && (a1 == b1) && (a2 == b2) && (a3 == b3) && (a4 == b4) && (a5 == b5) && (a6 == b6)
theorem eqR48 (a0 : Int) (a1 : Int) (a2 : Int) (a3 : Int) (a4 : Int) (a5 : Int) (a6 : Int) (b0 : Int) (b1 : Int) (b2 : Int) (b3 : Int) (b4 : Int) (b5 : Int) (b6 : Int) (w : World) : (Op.equalIn 10000 48 (.agg #[.int .i64 (a0), .int .i64 (a1), .int .i64 (a2), .int .i64 (a3), .int .i64 (a4), .int .i64 (a5), .int .i64 (a6)]) (.agg #[.int .i64 (b0), .int .i64 (b1), .int .i64 (b2), .int .i64 (b3), .int .i64 (b4), .int .i64 (b5), .int .i64 (b6)])).run Tryz.prog w = .ok (eqB48 a0 a1 a2 a3 a4 a5 a6 b0 b1 b2 b3 b4 b5 b6) w := by
 unfold eqB48
 go_simp
 by_cases h0 : a0 = b0
 case neg => simp [h0]
 by_cases h1 : a1 = b1
 case neg => simp [h0, h1]
 by_cases h2 : a2 = b2
 case neg => simp [h0, h1, h2]
 by_cases h3 : a3 = b3
 case neg => simp [h0, h1, h2, h3]
 by_cases h4 : a4 = b4
 case neg => simp [h0, h1, h2, h3, h4]
 by_cases h5 : a5 = b5
 case neg => simp [h0, h1, h2, h3, h4, h5]
 by_cases h6 : a6 = b6
 case neg => simp [h0, h1, h2, h3, h4, h5, h6]
 simp [h0, h1, h2, h3, h4, h5, h6]
attribute [local go_sem high] eqR48
attribute [local go_sem] encFixV_eq encBodyV_eq encJointV_eq encPkV_eq encPtV_eq encCtV_eq encMfV_eq encWorldV_eq
attribute [local go_sem ↓] loadAt31 storeAt31 loadAt99 storeAt99 loadAt44 storeAt44 loadAt58 storeAt58 loadAt70 storeAt70 loadAt25 storeAt25 loadAt94 storeAt94 loadAt143 storeAt143 loadAt48 storeAt48
attribute [local go_sem] run_bl31 run_bs31 run_bl99 run_bs99 run_bl44 run_bs44 run_bl58 run_bs58 run_bl70 run_bs70 run_bl25 run_bs25 run_bl94 run_bs94 run_bl143 run_bs143 run_bl48 run_bs48 there_new there_alloc have_in_grow cells_in_grow oc_int oc_bool oc_slice oc_all oc_cons oc_nil List.size_toArray List.length_cons List.length_nil
attribute [local go_sem high] eqR23 eqR94
def consideredB (f : FixV) (mask : Int) : Bool := let r3 : Bool := (!f.sen) && ((bits .and .i64 f.cat mask) != 0); r3
theorem considered_any (f : FixV) (mask : Int) (w : World) :
   Calls Tryz.prog 60 #[.agg (encFixV f).toArray, .int .i64 (mask)] w fun e w' => e = .returned (.bool (consideredB f mask)) ∧ Grw w w' := by
 go_enter Tryz.func60, Tryz.ntmps60
 go_upto_region 1 with (fail)
 refine wp_gen (fun xw => Grw w xw ∧ Bk xw (w.heap.size) 58 (encFixV f).toArray) ⟨((Grw.refl w)).alloc _, (Bk.new' (by simp))⟩ ?_
 rintro w1 ⟨hw1, hB1_0⟩
 have g1_0_6 : w1.cell? ⟨w.heap.size, 6, none⟩ = some (.bool (f.sen)) := hB1_0.cell 6
 have g1_0_7 : w1.cell? ⟨w.heap.size, 7, none⟩ = some (.int .i64 (f.cat)) := hB1_0.cell 7
 have g1_0_l := hB1_0.lt
 have HB1 := Lib.hid (show _ from hB1_0); clear hB1_0
 obtain ⟨r3, hr3⟩ : ∃ r : Bool, r = ((!f.sen) && ((bits .and .i64 f.cat mask) != 0)) := ⟨_, rfl⟩
 have R3 := Lib.hid hr3; clear hr3
 go_cut [4] (fun s4 xw => s4 = .bool (r3) ∧ w1 = xw)
 case first =>
   cases hc2 : (!f.sen)
   · go_wp2_with fail
     go_meet
     case rel =>
       have er3 : r3 = (false) := R3.out.trans (by simp [hc2])
       subst er3
       exact ⟨rfl, rfl⟩
   · go_wp2_with fail
     go_meet
     case rel =>
       have er3 : r3 = ((bits .and .i64 f.cat mask) != 0) := R3.out.trans (by simp [hc2])
       subst er3
       exact ⟨rfl, rfl⟩
 case rest =>
 obtain ⟨rfl, rfl⟩ := hcut
 go_wp2_with fail
 have hF : consideredB f mask = r3 := by unfold consideredB; first | rfl | (simp only [← R3.out, cond_true, cond_false]; done) | (simp only [← R3.out, cond_true, cond_false]; rfl) | simp [← R3.out]
 refine bodyPost_ret (v := .bool (r3)) (by simp [results, Tryz.results60, go_sem, g1_0_6, g1_0_7, g1_0_l]) rfl ⟨by rw [hF], ?_⟩
 exact hw1
def qcompareI (x y : HitV) : Int := let r3 : Int := compareI x.t y.t; let r4 : Int := compareI x.body y.body; let r5 : Int := compareI x.fix y.fix; (orI [r3, r4, r5])
theorem qcompare_any (x y : HitV) (w : World) :
   Calls Tryz.prog 29 #[.agg (encHitV x).toArray, .agg (encHitV y).toArray] w fun e w' => e = .returned (.int .i64 (qcompareI x y)) ∧ Grw w w' := by
 go_enter Tryz.func29, Tryz.ntmps29
 go_upto_region 1 with (fail)
 refine wp_gen (fun xw => Grw w xw ∧ Bk xw (w.heap.size) 48 (encHitV x).toArray ∧ Bk xw (w.heap.size + 1) 48 (encHitV y).toArray) ⟨(((Grw.refl w)).alloc _).alloc _, ((Bk.new' (by simp))).alloc _, (Bk.new' (by simp))⟩ ?_
 rintro w1 ⟨hw1, hB1_0, hB1_1⟩
 have g1_0_0 : w1.cell? ⟨w.heap.size, 0, none⟩ = some (.int .i64 (x.body)) := hB1_0.cell 0
 have g1_0_1 : w1.cell? ⟨w.heap.size, 1, none⟩ = some (.int .i64 (x.fix)) := hB1_0.cell 1
 have g1_0_2 : w1.cell? ⟨w.heap.size, 2, none⟩ = some (.int .i64 (x.t)) := hB1_0.cell 2
 have g1_0_l := hB1_0.lt
 have g1_1_0 : w1.cell? ⟨w.heap.size + 1, 0, none⟩ = some (.int .i64 (y.body)) := hB1_1.cell 0
 have g1_1_1 : w1.cell? ⟨w.heap.size + 1, 1, none⟩ = some (.int .i64 (y.fix)) := hB1_1.cell 1
 have g1_1_2 : w1.cell? ⟨w.heap.size + 1, 2, none⟩ = some (.int .i64 (y.t)) := hB1_1.cell 2
 have g1_1_l := hB1_1.lt
 have HB1 := Lib.hid (show _ ∧ _ from ⟨hB1_0, hB1_1⟩); clear hB1_0 hB1_1
 refine wp_region_flowB 15 (by kernel_rfl) (by kernel_rfl) ?_
 simp only [tD]
 iterate 4 (refine wpQ_step (fun K hK => ?_); go_simp; refine hK _ ?_; clear hK K)
 refine wpQ_step (fun K hK => ?_); go_simp; apply Exists.intro; refine ⟨fun _ => ?_, hK _ ?_⟩; (go_at_call 64; exact (compare_any x.t y.t _).mono fun _ _ h => ⟨h.1, h.2 ▸ Grw.refl _⟩); clear hK K
 iterate 4 (refine wpQ_step (fun K hK => ?_); go_simp; refine hK _ ?_; clear hK K)
 refine wpQ_step (fun K hK => ?_); go_simp; apply Exists.intro; refine ⟨fun _ => ?_, hK _ ?_⟩; (go_at_call 64; exact (compare_any x.body y.body _).mono fun _ _ h => ⟨h.1, h.2 ▸ Grw.refl _⟩); clear hK K
 iterate 4 (refine wpQ_step (fun K hK => ?_); go_simp; refine hK _ ?_; clear hK K)
 refine wpQ_step (fun K hK => ?_); go_simp; apply Exists.intro; refine ⟨fun _ => ?_, hK _ ?_⟩; (go_at_call 64; exact (compare_any x.fix y.fix _).mono fun _ _ h => ⟨h.1, h.2 ▸ Grw.refl _⟩); clear hK K
 refine wpQ_nil ?_
 intro w2 hg2
 obtain ⟨r3, hr3⟩ : ∃ r : Int, r = compareI x.t y.t := ⟨_, rfl⟩
 (try simp only [← hr3])
 have R3 := Lib.hid hr3; clear hr3
 obtain ⟨r4, hr4⟩ : ∃ r : Int, r = compareI x.body y.body := ⟨_, rfl⟩
 (try simp only [← hr4])
 have R4 := Lib.hid hr4; clear hr4
 obtain ⟨r5, hr5⟩ : ∃ r : Int, r = compareI x.fix y.fix := ⟨_, rfl⟩
 (try simp only [← hr5])
 have R5 := Lib.hid hr5; clear hr5
 refine okList_step (fun w2_0 hw2_0 K hK => ?_)
 go_simp; refine hK _ _ (by (repeat with_reducible first | exact .refl _ | assumption | refine .setAt ?_ (by first | omega | simp <;> omega) _ | refine .setCells ?_ (by first | omega | simp <;> omega) _ | refine .alloc ?_ _ | refine .drewN ?_ _ | refine .drew ?_ | refine .trans ?_ (by assumption))) ?_; clear hK K
 have hN2_0 := Bk.new w2_0 3 #[.int .i64 (r3), .int .i64 (r4), .int .i64 (r5)]
 refine okList_step (fun w2_1 hw2_1 K hK => ?_)
 replace hN2_0 := hN2_0.grw hw2_1
 go_simp; refine (or_any [r3, r4, r5] _ _ _ (Sl.ofInt (l := [r3, r4, r5]) hN2_0) (by simp)).mono ?_; rintro e w2_1_c ⟨rfl, hg2_1_c⟩; refine ⟨_, rfl, hK _ _ (by (repeat with_reducible first | exact .refl _ | assumption | refine .setAt ?_ (by first | omega | simp <;> omega) _ | refine .setCells ?_ (by first | omega | simp <;> omega) _ | refine .alloc ?_ _ | refine .drewN ?_ _ | refine .drew ?_ | refine .trans ?_ (by assumption))) ?_⟩; clear hK K
 replace hN2_0 := hN2_0.grw hg2_1_c
 refine okList_step (fun w2_2 hw2_2 K hK => ?_)
 replace hN2_0 := hN2_0.grw hw2_2
 go_simp; refine hK _ _ (by (repeat with_reducible first | exact .refl _ | assumption | refine .setAt ?_ (by first | omega | simp <;> omega) _ | refine .setCells ?_ (by first | omega | simp <;> omega) _ | refine .alloc ?_ _ | refine .drewN ?_ _ | refine .drew ?_ | refine .trans ?_ (by assumption))) ?_; clear hK K
 refine okList_nil (fun w6 h6 => ?_); go_simp
 have hN2_0 : Bk w6 (w2_0.heap.size) 3 #[.int .i64 (r3), .int .i64 (r4), .int .i64 (r5)] := hN2_0.grw h6
 have hg6 : Grw w1 w6 := by (repeat with_reducible first | exact .refl _ | assumption | refine .setAt ?_ (by first | omega | simp <;> omega) _ | refine .setCells ?_ (by first | omega | simp <;> omega) _ | refine .alloc ?_ _ | refine .drewN ?_ _ | refine .drew ?_ | refine .trans ?_ (by assumption))
 have hsz2_0 : w.heap.size + 1 < w2_0.heap.size := by (have h1 : Grw w1 w2_0 := by (repeat with_reducible first | exact .refl _ | assumption | refine .setAt ?_ (by first | omega | simp <;> omega) _ | refine .setCells ?_ (by first | omega | simp <;> omega) _ | refine .alloc ?_ _ | refine .drewN ?_ _ | refine .drew ?_ | refine .trans ?_ (by assumption))); (have h2 := h1.size); (have h3 := g1_1_l); omega
 obtain ⟨b0, b1⟩ := HB1.out
 have hB6_0 : Bk w6 (w.heap.size) 48 (encHitV x).toArray := (b0).grw hg6
 have hB6_1 : Bk w6 (w.heap.size + 1) 48 (encHitV y).toArray := (b1).grw hg6
 have hB6_2 : Bk w6 (w2_0.heap.size) 3 #[.int .i64 (r3), .int .i64 (r4), .int .i64 (r5)] := hN2_0
 have hw6 : Grw w w6 := (hw1).trans hg6
 have hs6 : w.heap.size + 1 < w6.heap.size := by have h1 := hg6.size; have h2 := g1_1_l; (try simp at h1); omega
 have g6_0_l := hB6_0.lt
 have g6_1_l := hB6_1.lt
 have g6_2_l := hB6_2.lt
 have HB6 := Lib.hid (show _ ∧ _ ∧ _ from ⟨hB6_0, hB6_1, hB6_2⟩); clear hB6_0 hB6_1 hB6_2
 clear g1_0_0 g1_0_1 g1_0_2 g1_0_l g1_1_0 g1_1_1 g1_1_2 g1_1_l b0 b1 HB1 hw1 hg6
 clear hN2_0 hw2_2 hw2_1 hw2_0 h6 hg2 hg2_1_c
 go_wp2_with fail
 have hF : qcompareI x y = (orI [r3, r4, r5]) := by unfold qcompareI; first | rfl | (simp only [← R5.out, ← R4.out, ← R3.out, cond_true, cond_false]; done) | (simp only [← R5.out, ← R4.out, ← R3.out, cond_true, cond_false]; rfl) | simp [← R5.out, ← R4.out, ← R3.out]
 refine bodyPost_ret (v := .int .i64 (orI [r3, r4, r5])) (by simp [results, Tryz.results29, go_sem, g6_0_l, g6_1_l, g6_2_l]) rfl ⟨by rw [hF], ?_⟩
 exact hw6
def qlessB (x y : HitV) : Bool := let r3 : Int := qcompareI x y; (decide (r3 < 0))
theorem qless_any (x y : HitV) (w : World) :
   Calls Tryz.prog 15 #[.agg (encHitV x).toArray, .agg (encHitV y).toArray] w fun e w' => e = .returned (.bool (qlessB x y)) ∧ Grw w w' := by
 go_enter Tryz.func15, Tryz.ntmps15
 go_upto_region 1 with (fail)
 refine wp_gen (fun xw => Grw w xw ∧ Bk xw (w.heap.size) 48 (encHitV x).toArray ∧ Bk xw (w.heap.size + 1) 48 (encHitV y).toArray) ⟨(((Grw.refl w)).alloc _).alloc _, ((Bk.new' (by simp))).alloc _, (Bk.new' (by simp))⟩ ?_
 rintro w1 ⟨hw1, hB1_0, hB1_1⟩
 have gA1_0_0_7 : HaveAll w1 (w.heap.size) 0 7 := hB1_0.have 0 7 (Nat.le_of_ble_eq_true rfl)
 have gC1_0_0_7 : cellsAt w1 (w.heap.size) 0 7 = (encHitV x).toArray := hB1_0.cells' 0 7 _ rfl rfl
 have g1_0_l := hB1_0.lt
 have gA1_1_0_7 : HaveAll w1 (w.heap.size + 1) 0 7 := hB1_1.have 0 7 (Nat.le_of_ble_eq_true rfl)
 have gC1_1_0_7 : cellsAt w1 (w.heap.size + 1) 0 7 = (encHitV y).toArray := hB1_1.cells' 0 7 _ rfl rfl
 have g1_1_l := hB1_1.lt
 have HB1 := Lib.hid (show _ ∧ _ from ⟨hB1_0, hB1_1⟩); clear hB1_0 hB1_1
 go_wp2_with fail
 (go_at_call 29; refine (qcompare_any x y _).mono ?_; rintro e w2 ⟨rfl, hg2⟩)
 obtain ⟨r3, hr3⟩ : ∃ r : Int, r = qcompareI x y := ⟨_, rfl⟩
 (try simp only [← hr3])
 have R3 := Lib.hid hr3; clear hr3
 obtain ⟨b0, b1⟩ := HB1.out
 have hB2_0 : Bk w2 (w.heap.size) 48 (encHitV x).toArray := (b0).grw hg2
 have hB2_1 : Bk w2 (w.heap.size + 1) 48 (encHitV y).toArray := (b1).grw hg2
 have hw2 : Grw w w2 := (hw1).trans hg2
 have hs2 : w.heap.size + 1 < w2.heap.size := by have h1 := hg2.size; have h2 := g1_1_l; (try simp at h1); omega
 have g2_0_l := hB2_0.lt
 have g2_1_l := hB2_1.lt
 have HB2 := Lib.hid (show _ ∧ _ from ⟨hB2_0, hB2_1⟩); clear hB2_0 hB2_1
 clear gA1_0_0_7 gC1_0_0_7 g1_0_l gA1_1_0_7 gC1_1_0_7 g1_1_l b0 b1 HB1 hw1 hg2
 go_wp2_with fail
 have hF : qlessB x y = (decide (r3 < 0)) := by unfold qlessB; first | rfl | (simp only [← R3.out, cond_true, cond_false]; done) | (simp only [← R3.out, cond_true, cond_false]; rfl) | simp [← R3.out]
 refine bodyPost_ret (v := .bool (decide (r3 < 0))) (by simp [results, Tryz.results15, go_sem, g2_0_l, g2_1_l]) rfl ⟨by rw [hF], ?_⟩
 exact hw2
end
section
open Go.RowKit Go.Sort
attribute [local go_sem] qAt qUpon okOp okUpon cell_in_grow frozen_in_grow
structure ShapeV where
 k : Int
 r : Int
 va : Option Addr
 vc : Nat
 vl : List P2
def encShapeV (x : ShapeV) : List Value := [.int .i64 (x.k), .int .i64 (x.r), .slice (x.va) (x.vl.length) (x.vc)]
theorem encShapeV_eq (x : ShapeV) : (encShapeV x).toArray = #[.int .i64 (x.k), .int .i64 (x.r), .slice (x.va) (x.vl.length) (x.vc)] := rfl
attribute [local go_sem] encShapeV_eq
def ShapeOk (w : World) (s : ShapeV) : Prop := Sl 2 encV w s.va s.vl ∧ s.vl.length < 4611686018427387904
theorem ShapeOk.grw {w w' : World} {f : ShapeV} (h : ShapeOk w f) (hg : Grw w w') : ShapeOk w' f := ⟨h.1.grw hg, h.2⟩
theorem vtF_lt (k r : Int) (l : List (Int × Int)) (px py an : Int) (h : l.length < 4611686018427387904) : (vtF k r l px py an).length < 4611686018427387904 := by
 unfold vtF; split
 · simpa using h
 · simp
theorem vertices_x (k r px py an : Int) (a : Option Addr) (cap : Nat) (l : List (Int × Int)) (w : World) (hs : Sl 2 encV w a l) (hl : l.length < 4611686018427387904) :
   Calls Tryz.prog 30 #[.agg #[.int .i64 k, .int .i64 r, .slice a l.length cap], .agg #[.int .i64 px, .int .i64 py, .int .i64 an]] w fun e w' =>
     ∃ a' c', e = .returned (.slice a' (vtF k r l px py an).length c') ∧ Grw w w' ∧ Sl 2 encV w' a' (vtF k r l px py an) :=
 (vertices_any k r px py an a cap l w hs hl).mono fun e w' ⟨v, he, hg, ho⟩ => by
   obtain ⟨a', c', hv, h2, _⟩ := OwnL.sl (enc := encV) (size := 2) (fun _ => rfl) ho
   exact ⟨a', c', by rw [he, hv], hg, h2⟩
attribute [local go_sem] encFixV_eq encBodyV_eq encJointV_eq encPkV_eq encPtV_eq encCtV_eq encMfV_eq encWorldV_eq encHitV_eq
attribute [local go_sem ↓] loadAt31 storeAt31 loadAt99 storeAt99 loadAt44 storeAt44 loadAt58 storeAt58 loadAt70 storeAt70 loadAt25 storeAt25 loadAt94 storeAt94 loadAt143 storeAt143 loadAt48 storeAt48
attribute [local go_sem] run_bl31 run_bs31 run_bl99 run_bs99 run_bl44 run_bs44 run_bl58 run_bs58 run_bl70 run_bs70 run_bl25 run_bs25 run_bl94 run_bs94 run_bl143 run_bs143 run_bl48 run_bs48 there_new there_alloc have_in_grow cells_in_grow oc_int oc_bool oc_slice oc_all oc_cons oc_nil List.size_toArray List.length_cons List.length_nil
attribute [local go_sem high] eqR23 eqR94 eqR48
def containsB_step6 (x : Int) (y : Int) (r2 : List P2) (x6 : P2) (k6 : Nat) (s : Unit) : Sum (Bool) (Unit) := let j8 : Nat := (k6 + 1) % r2.length; let r11 : Int := orientI x6.1 x6.2 ((nth r2 j8 (0, 0)).1) ((nth r2 j8 (0, 0)).2) x y; bif decide (r11 < 0) then (.inl false) else (.inr ())
def containsB (s : ShapeV) (px py an x y : Int) : Bool := let r2 : List P2 := vtF s.k s.r s.vl px py an; bif (r2.length : Int) == 0 then (false) else (bif (r2.length : Int) == 1 then (let r19 : Int := subI x ((nth r2 0 (0, 0)).1); let r20 : Int := subI y ((nth r2 0 (0, 0)).2); let r21 : Int := lenI r19 r20; (decide (r21 ≤ s.r))) else (bif (r2.length : Int) == 2 then (let r16 : Int := distI x y x y ((nth r2 0 (0, 0)).1) ((nth r2 0 (0, 0)).2) ((nth r2 1 (0, 0)).1) ((nth r2 1 (0, 0)).2); (decide (r16 ≤ s.r))) else ((match loopI (containsB_step6 x y r2) r2 0 () with | .inl r => r | .inr s => true))))
theorem containsPoint_any (s : ShapeV) (px py an x y : Int) (w : World) (h_s : ShapeOk w s) :
   Calls Tryz.prog 16 #[.agg (encShapeV s).toArray, .agg #[.int .i64 (px), .int .i64 (py), .int .i64 (an)], .agg #[.int .i64 (x), .int .i64 (y)]] w fun e w' => e = .returned (.bool (containsB s px py an x y)) ∧ Grw w w' := by
 have H_s := Lib.hid h_s; clear h_s
 go_enter Tryz.func16, Tryz.ntmps16
 go_upto_region 1 with (fail)
 refine wp_gen (fun xw => Grw w xw ∧ Bk xw (w.heap.size) 56 (encShapeV s).toArray ∧ Bk xw (w.heap.size + 1) 41 #[.int .i64 (px), .int .i64 (py), .int .i64 (an)] ∧ Bk xw (w.heap.size + 1 + 1) 23 #[.int .i64 (x), .int .i64 (y)]) ⟨((((Grw.refl w)).alloc _).alloc _).alloc _, (((Bk.new' (by simp))).alloc _).alloc _, ((Bk.new' (by simp))).alloc _, (Bk.new' (by simp))⟩ ?_
 rintro w1 ⟨hw1, hB1_0, hB1_1, hB1_2⟩
 have g1_0_0 : w1.cell? ⟨w.heap.size, 0, none⟩ = some (.int .i64 (s.k)) := hB1_0.cell 0
 have g1_0_1 : w1.cell? ⟨w.heap.size, 1, none⟩ = some (.int .i64 (s.r)) := hB1_0.cell 1
 have g1_0_2 : w1.cell? ⟨w.heap.size, 2, none⟩ = some (.slice (s.va) (s.vl.length) (s.vc)) := hB1_0.cell 2
 have g1_0_l := hB1_0.lt
 have g1_1_0 : w1.cell? ⟨w.heap.size + 1, 0, none⟩ = some (.int .i64 (px)) := hB1_1.cell 0
 have g1_1_1 : w1.cell? ⟨w.heap.size + 1, 1, none⟩ = some (.int .i64 (py)) := hB1_1.cell 1
 have g1_1_2 : w1.cell? ⟨w.heap.size + 1, 2, none⟩ = some (.int .i64 (an)) := hB1_1.cell 2
 have g1_1_l := hB1_1.lt
 have g1_2_l := hB1_2.lt
 have HB1 := Lib.hid (show _ ∧ _ ∧ _ from ⟨hB1_0, hB1_1, hB1_2⟩); clear hB1_0 hB1_1 hB1_2
 go_wp2_with fail
 (go_at_call 30; refine (vertices_x _ _ _ _ _ _ _ _ _ (H_s.out.1.grw (hw1)) H_s.out.2).mono ?_; rintro e w2 ⟨a2, c2, rfl, hg2, hs2⟩)
 obtain ⟨r2, hr2⟩ : ∃ r : List P2, r = vtF s.k s.r s.vl px py an := ⟨_, rfl⟩
 rw [← hr2] at hs2
 (try simp only [← hr2])
 have R2 := Lib.hid hr2; clear hr2
 obtain ⟨b0, b1, b2⟩ := HB1.out
 have hB2_0 : Bk w2 (w.heap.size) 56 (encShapeV s).toArray := (b0).grw hg2
 have hB2_1 : Bk w2 (w.heap.size + 1) 41 #[.int .i64 (px), .int .i64 (py), .int .i64 (an)] := (b1).grw hg2
 have hB2_2 : Bk w2 (w.heap.size + 1 + 1) 23 #[.int .i64 (x), .int .i64 (y)] := (b2).grw hg2
 have hB2_3 : Sl 2 encV w2 a2 r2 := hs2
 have hw2 : Grw w w2 := (hw1).trans hg2
 have hs2 : w.heap.size + 1 + 1 < w2.heap.size := by have h1 := hg2.size; have h2 := g1_2_l; (try simp at h1); omega
 have g2_0_1 : w2.cell? ⟨w.heap.size, 1, none⟩ = some (.int .i64 (s.r)) := hB2_0.cell 1
 have g2_0_l := hB2_0.lt
 have g2_1_l := hB2_1.lt
 have g2_2_0 : w2.cell? ⟨w.heap.size + 1 + 1, 0, none⟩ = some (.int .i64 (x)) := hB2_2.cell 0
 have g2_2_1 : w2.cell? ⟨w.heap.size + 1 + 1, 1, none⟩ = some (.int .i64 (y)) := hB2_2.cell 1
 have g2_2_l := hB2_2.lt
 have HB2 := Lib.hid (show _ ∧ _ ∧ _ ∧ _ from ⟨hB2_0, hB2_1, hB2_2, hB2_3⟩); clear hB2_0 hB2_1 hB2_2 hB2_3
 clear g1_0_0 g1_0_1 g1_0_2 g1_0_l g1_1_0 g1_1_1 g1_1_2 g1_1_l g1_2_l b0 b1 b2 HB1 hw1 hg2
 cases hc3 : ((r2.length : Int) == 0)
 · cases hc4 : ((r2.length : Int) == 1)
   · cases hc5 : ((r2.length : Int) == 2)
     · go_wp2_with fail
       obtain ⟨b0, b1, b2, b3⟩ := HB2.out
       go_loopg [44] r2.length (fun gm v  xw => ∃ (k6 : Nat), v = .int .i64 k6 ∧ k6 ≤ r2.length ∧ r2.length - k6 ≤ gm ∧ Grw w xw ∧ Bk xw (w.heap.size + 1 + 1) 23 #[.int .i64 (x), .int .i64 (y)] ∧ Sl 2 encV xw a2 r2 ∧ loopI (containsB_step6 x y r2) r2 0 () = loopI (containsB_step6 x y r2) (r2.drop k6) k6 ())
       case atStart => exact ⟨0, rfl, Nat.zero_le _, Nat.le_refl _, hw2, b2, b3, rfl⟩
       case round =>
       obtain ⟨k6, rfl, hk6, hgm6, hw6, hB6_0, hB6_1, hA6⟩ := hrel
       obtain ⟨w6, rfl⟩ : ∃ x, x = wr := ⟨_, rfl⟩
       obtain ⟨gm6, rfl⟩ : ∃ x, x = gk := ⟨_, rfl⟩
       have HA6 := Lib.hid hA6; have HG6 := Lib.hid hgm6; clear hA6 hgm6
       have g6_0_l := hB6_0.lt
       have HB6 := Lib.hid (show _ ∧ _ from ⟨hB6_0, hB6_1⟩); clear hB6_0 hB6_1
       clear g2_0_1 g2_0_l g2_1_l g2_2_0 g2_2_1 g2_2_l b0 b1 b2 b3 HB2 hw2
       rcases Nat.lt_or_ge k6 r2.length with hlt6 | hge6
       · obtain ⟨x6, hx6⟩ : ∃ x, r2[k6]? = some x := ⟨r2[k6], List.getElem?_eq_getElem hlt6⟩
         obtain ⟨bx6, ox6, he6, hbx6, gx6_0, gx6_1⟩ := (HB6.out.2).vec hx6
         have HX6 := Lib.hid hx6; clear hx6
         obtain ⟨b0, b1⟩ := HB6.out
         go_upto_region 12 with (fail)
         refine wp_gen (fun xw => Grw w xw ∧ Bk xw (w.heap.size + 1 + 1) 23 #[.int .i64 (x), .int .i64 (y)] ∧ Sl 2 encV xw a2 r2 ∧ Bk xw (w6.heap.size) 23 #[.int .i64 (x6.1), .int .i64 (x6.2)]) ⟨(hw6).alloc _, (b0).alloc _, (b1).grw (((Grw.refl _)).alloc _), (Bk.new' (by simp))⟩ ?_
         rintro w7 ⟨hw7, hB7_0, hB7_1, hB7_2⟩
         have ho7 : w.heap.size + 1 + 1 < w6.heap.size := g6_0_l
         have g7_0_0 : w7.cell? ⟨w.heap.size + 1 + 1, 0, none⟩ = some (.int .i64 (x)) := hB7_0.cell 0
         have g7_0_1 : w7.cell? ⟨w.heap.size + 1 + 1, 1, none⟩ = some (.int .i64 (y)) := hB7_0.cell 1
         have g7_0_l := hB7_0.lt
         have g7_2_0 : w7.cell? ⟨w6.heap.size, 0, none⟩ = some (.int .i64 (x6.1)) := hB7_2.cell 0
         have g7_2_1 : w7.cell? ⟨w6.heap.size, 1, none⟩ = some (.int .i64 (x6.2)) := hB7_2.cell 1
         have g7_2_l := hB7_2.lt
         have HB7 := Lib.hid (show _ ∧ _ ∧ _ from ⟨hB7_0, hB7_1, hB7_2⟩); clear hB7_0 hB7_1 hB7_2
         clear g6_0_l b0 b1 HB6 hw6
         have hln8 := (show r2.length < 4611686018427387904 by rw [R2.out]; exact vtF_lt _ _ _ _ _ _ (H_s.out.2))
         obtain ⟨j8, hj8⟩ : ∃ j : Nat, j = (k6 + 1) % r2.length := ⟨_, rfl⟩
         have hjl8 : j8 < r2.length := by rw [hj8]; exact Nat.mod_lt _ (by omega)
         have hjm8 : ((k6 : Int) + 1).tmod (r2.length : Int) = (j8 : Int) := by rw [hj8]; rfl
         have hna8 : (r2.length : Int) ≠ 0 := by omega
         have hne8 : r2 ≠ [] := by intro h; rw [h] at hjl8; simp at hjl8
         have hja8 : (0 : Int) ≤ j8 := by omega
         have hjb8 : (j8 : Int) < r2.length := by omega
         have hwr8 : IntKind.i64.wrap ((k6 : Int) + 1) = (k6 : Int) + 1 := IntWalk.i64_in _ (by omega)
         have hws8 : IntKind.i64.wrap (j8 : Int) = (j8 : Int) := IntWalk.i64_in _ (by omega)
         have HRj8 := Lib.hid hj8; clear hj8
         have hx9 : r2[j8]? = some (nth r2 j8 (0, 0)) := getD_of _ hjl8
         obtain ⟨bx9, ox9, he9, hbx9, hcx9⟩ := (HB7.out.2.1) _ _ hx9; clear hx9
         obtain ⟨rfl, rfl⟩ : bx6 = bx9 ∧ ox6 = ox9 := by have h1 := he6.symm.trans he9; simpa using h1
         clear he9
         have gx9_0 : w7.cell? ⟨bx6, ox6 + j8 * 2, none⟩ = some (.int .i64 ((nth r2 j8 (0, 0)).1)) := by simpa [Nat.add_assoc] using hcx9 0 _ rfl
         have gx9_1 : w7.cell? ⟨bx6, ox6 + j8 * 2 + 1, none⟩ = some (.int .i64 ((nth r2 j8 (0, 0)).2)) := by simpa [Nat.add_assoc] using hcx9 1 _ rfl
         refine wp_region_flow (by kernel_rfl) (by kernel_rfl) ?_
         iterate 10 (refine wpQ_step (fun K hK => ?_); go_simp; refine hK _ ?_; clear hK K)
         refine wpQ_step (fun K hK => ?_); go_simp; apply Exists.intro; refine ⟨fun _ => ?_, hK _ ?_⟩; (go_at_call 38; exact (orient_any _ _ _ _ _ _ _)); clear hK K
         iterate 1 (refine wpQ_step (fun K hK => ?_); go_simp; refine hK _ ?_; clear hK K)
         refine wpQ_nil ?_
         intro w10 hg10
         clear hjm8 hwr8 hws8
         obtain ⟨r11, hr11⟩ : ∃ r : Int, r = orientI x6.1 x6.2 ((nth r2 j8 (0, 0)).1) ((nth r2 j8 (0, 0)).2) x y := ⟨_, rfl⟩
         (try simp only [← hr11])
         have R11 := Lib.hid hr11; clear hr11
         obtain ⟨b0, b1, b2⟩ := HB7.out
         have hB10_0 : Bk w10 (w.heap.size + 1 + 1) 23 #[.int .i64 (x), .int .i64 (y)] := (b0).grw hg10
         have hB10_1 : Sl 2 encV w10 a2 r2 := (b1).grw (hg10)
         have hB10_2 : Bk w10 (w6.heap.size) 23 #[.int .i64 (x6.1), .int .i64 (x6.2)] := (b2).grw hg10
         have hw10 : Grw w w10 := (hw7).trans hg10
         have hs10 : w6.heap.size < w10.heap.size := by have h1 := hg10.size; have h2 := g7_2_l; (try simp at h1); omega
         have g10_0_l := hB10_0.lt
         have g10_2_l := hB10_2.lt
         have HB10 := Lib.hid (show _ ∧ _ ∧ _ from ⟨hB10_0, hB10_1, hB10_2⟩); clear hB10_0 hB10_1 hB10_2
         clear g7_0_0 g7_0_1 g7_0_l g7_2_0 g7_2_1 g7_2_l b0 b1 b2 HB7 hw7 hg10
         cases hc12 : (decide (r11 < 0))
         · have hln6 := (show r2.length < 4611686018427387904 by rw [R2.out]; exact vtF_lt _ _ _ _ _ _ (H_s.out.2))
           go_wp2_with fail
           obtain ⟨b0, b1, b2⟩ := HB10.out
           have hS6 : containsB_step6 x y r2 x6 k6 () = .inr () := by unfold containsB_step6; first | rfl | (simp only [← R11.out, ← HRj8.out, hc12, cond_true, cond_false]; done) | (simp only [← R11.out, ← HRj8.out, hc12, cond_true, cond_false]; rfl) | simp [← R11.out, ← HRj8.out, hc12]
           have HS6 := Lib.hid (HA6.out.trans ((loopI_at (f := containsB_step6 x y r2) HX6.out).trans (by rw [hS6])))
           (try simp only [← he6])
           have hgm6 := HG6.out
           go_roundg (r2.length - (k6 + 1))
           case measure => omega
           case rel => exact ⟨k6 + 1, by go_num, by omega, Nat.le_refl _, hw10, b0, b1, HS6.out⟩
         · have hS6 : containsB_step6 x y r2 x6 k6 () = .inl false := by unfold containsB_step6; first | rfl | (simp only [← R11.out, ← HRj8.out, hc12, cond_true, cond_false]; done) | (simp only [← R11.out, ← HRj8.out, hc12, cond_true, cond_false]; rfl) | simp [← R11.out, ← HRj8.out, hc12]
           have hL6 := HA6.out.trans ((loopI_at (f := containsB_step6 x y r2) HX6.out).trans (by rw [hS6]))
           have HL6 := Lib.hid hL6; clear hL6 hS6
           go_wp2_with fail
           have ql0 := HL6.out; (try simp only [hc3, hc4, hc5, hc12] at ql0); have HQ0 := Lib.hid ql0; clear ql0
           have hF : containsB s px py an x y = false := by unfold containsB; first | rfl | (simp only [HQ0.out, HL6.out, ← R11.out, ← HRj8.out, ← R2.out, hc3, hc4, hc5, hc12, cond_true, cond_false]; done) | (simp only [HQ0.out, HL6.out, ← R11.out, ← HRj8.out, ← R2.out, hc3, hc4, hc5, hc12, cond_true, cond_false]; rfl) | simp [HQ0.out, HL6.out, ← R11.out, ← HRj8.out, ← R2.out, hc3, hc4, hc5, hc12]
           refine bodyPost_ret (v := .bool (false)) (by simp [results, Tryz.results16, go_sem, g10_0_l, g10_2_l]) rfl ⟨by rw [hF], ?_⟩
           exact hw10
       · obtain rfl : k6 = r2.length := by omega
         have HRl6 := Lib.hid (HA6.out.trans (loopI_end (containsB_step6 x y r2) r2 ())); clear HA6
         go_wp2_with fail
         have ql0 := HRl6.out; (try simp only [hc3, hc4, hc5] at ql0); have HQ0 := Lib.hid ql0; clear ql0
         have hF : containsB s px py an x y = true := by unfold containsB; first | rfl | (simp only [HQ0.out, HRl6.out, ← R2.out, hc3, hc4, hc5, cond_true, cond_false]; done) | (simp only [HQ0.out, HRl6.out, ← R2.out, hc3, hc4, hc5, cond_true, cond_false]; rfl) | simp [HQ0.out, HRl6.out, ← R2.out, hc3, hc4, hc5]
         refine bodyPost_ret (v := .bool (true)) (by simp [results, Tryz.results16, go_sem, g6_0_l]) rfl ⟨by rw [hF], ?_⟩
         exact hw6
     · go_upto_region 8 with (fail)
       have hi13 : 0 < r2.length := by have qhc3 := ne_of_beq_false' hc3; have qhc4 := ne_of_beq_false' hc4; have qhc5 := eq_of_beq hc5; omega
       have hx13 : r2[0]? = some (nth r2 0 (0, 0)) := getD_of _ hi13
       obtain ⟨bx13, ox13, he13, hbx13, hcx13⟩ := (HB2.out.2.2.2) 0 _ hx13; clear hx13
       have gx13_0 : w2.cell? ⟨bx13, ox13, none⟩ = some (.int .i64 ((nth r2 0 (0, 0)).1)) := by simpa [Nat.add_assoc] using hcx13 0 _ rfl
       have gx13_1 : w2.cell? ⟨bx13, ox13 + 1, none⟩ = some (.int .i64 ((nth r2 0 (0, 0)).2)) := by simpa [Nat.add_assoc] using hcx13 1 _ rfl
       have hi14 : 1 < r2.length := by have qhc3 := ne_of_beq_false' hc3; have qhc4 := ne_of_beq_false' hc4; have qhc5 := eq_of_beq hc5; omega
       have hj14 : (1 : Int) < (r2.length : Int) := by omega
       have hx14 : r2[1]? = some (nth r2 1 (0, 0)) := getD_of _ hi14
       obtain ⟨bx14, ox14, he14, hbx14, hcx14⟩ := (HB2.out.2.2.2) 1 _ hx14; clear hx14
       obtain ⟨rfl, rfl⟩ : bx13 = bx14 ∧ ox13 = ox14 := by have h1 := he13.symm.trans he14; simpa using h1
       clear he14
       have gx14_0 : w2.cell? ⟨bx13, ox13 + 2, none⟩ = some (.int .i64 ((nth r2 1 (0, 0)).1)) := by simpa [Nat.add_assoc] using hcx14 0 _ rfl
       have gx14_1 : w2.cell? ⟨bx13, ox13 + 2 + 1, none⟩ = some (.int .i64 ((nth r2 1 (0, 0)).2)) := by simpa [Nat.add_assoc] using hcx14 1 _ rfl
       refine wp_region_flowA 12 (by kernel_rfl) (by kernel_rfl) ?_
       simp only [tD]
       iterate 8 (refine wpQ_step (fun K hK => ?_); go_simp; refine hK _ ?_; clear hK K)
       refine wpQ_step (fun K hK => ?_); go_simp; apply Exists.intro; refine ⟨fun _ => ?_, hK _ ?_⟩; (go_at_call 37; exact (distance_any _ _ _ _ _ _ _ _ _)); clear hK K
       iterate 3 (refine wpQ_step (fun K hK => ?_); go_simp; refine hK _ ?_; clear hK K)
       refine wpQ_nil ?_
       intro w15 hg15
       obtain ⟨r16, hr16⟩ : ∃ r : Int, r = distI x y x y ((nth r2 0 (0, 0)).1) ((nth r2 0 (0, 0)).2) ((nth r2 1 (0, 0)).1) ((nth r2 1 (0, 0)).2) := ⟨_, rfl⟩
       (try simp only [← hr16])
       have R16 := Lib.hid hr16; clear hr16
       obtain ⟨b0, b1, b2, b3⟩ := HB2.out
       have hB15_0 : Bk w15 (w.heap.size) 56 (encShapeV s).toArray := (b0).grw hg15
       have hB15_1 : Bk w15 (w.heap.size + 1 + 1) 23 #[.int .i64 (x), .int .i64 (y)] := (b2).grw hg15
       have hB15_2 : Sl 2 encV w15 a2 r2 := (b3).grw (hg15)
       have hw15 : Grw w w15 := (hw2).trans hg15
       have hs15 : w.heap.size + 1 + 1 < w15.heap.size := by have h1 := hg15.size; have h2 := g2_2_l; (try simp at h1); omega
       have g15_0_l := hB15_0.lt
       have g15_1_l := hB15_1.lt
       have HB15 := Lib.hid (show _ ∧ _ ∧ _ from ⟨hB15_0, hB15_1, hB15_2⟩); clear hB15_0 hB15_1 hB15_2
       clear g2_0_1 g2_0_l g2_1_l g2_2_0 g2_2_1 g2_2_l b0 b1 b2 b3 HB2 hw2 hg15
       go_wp2_with fail
       have hF : containsB s px py an x y = (decide (r16 ≤ s.r)) := by unfold containsB; first | rfl | (simp only [← R16.out, ← R2.out, hc3, hc4, hc5, cond_true, cond_false]; done) | (simp only [← R16.out, ← R2.out, hc3, hc4, hc5, cond_true, cond_false]; rfl) | simp [← R16.out, ← R2.out, hc3, hc4, hc5]
       refine bodyPost_ret (v := .bool (decide (r16 ≤ s.r))) (by simp [results, Tryz.results16, go_sem, g15_0_l, g15_1_l]) rfl ⟨by rw [hF], ?_⟩
       exact hw15
   · go_upto_region 6 with (fail)
     have hi17 : 0 < r2.length := by have qhc3 := ne_of_beq_false' hc3; have qhc4 := eq_of_beq hc4; omega
     have hx17 : r2[0]? = some (nth r2 0 (0, 0)) := getD_of _ hi17
     obtain ⟨bx17, ox17, he17, hbx17, hcx17⟩ := (HB2.out.2.2.2) 0 _ hx17; clear hx17
     have gx17_0 : w2.cell? ⟨bx17, ox17, none⟩ = some (.int .i64 ((nth r2 0 (0, 0)).1)) := by simpa [Nat.add_assoc] using hcx17 0 _ rfl
     have gx17_1 : w2.cell? ⟨bx17, ox17 + 1, none⟩ = some (.int .i64 ((nth r2 0 (0, 0)).2)) := by simpa [Nat.add_assoc] using hcx17 1 _ rfl
     refine wp_region_flowA 9 (by kernel_rfl) (by kernel_rfl) ?_
     simp only [tD]
     iterate 4 (refine wpQ_step (fun K hK => ?_); go_simp; refine hK _ ?_; clear hK K)
     refine wpQ_step (fun K hK => ?_); go_simp; apply Exists.intro; refine ⟨fun _ => ?_, hK _ ?_⟩; (go_at_call 36; exact (vsub_any _ _ _ _ _)); clear hK K
     refine wpQ_step (fun K hK => ?_); go_simp; apply Exists.intro; refine ⟨fun _ => ?_, hK _ ?_⟩; (go_at_call 35; exact (length_any _ _ _)); clear hK K
     iterate 3 (refine wpQ_step (fun K hK => ?_); go_simp; refine hK _ ?_; clear hK K)
     refine wpQ_nil ?_
     intro w18 hg18
     obtain ⟨r19, hr19⟩ : ∃ r : Int, r = subI x ((nth r2 0 (0, 0)).1) := ⟨_, rfl⟩
     obtain ⟨r20, hr20⟩ : ∃ r : Int, r = subI y ((nth r2 0 (0, 0)).2) := ⟨_, rfl⟩
     (try simp only [← hr19, ← hr20])
     have R19 := Lib.hid hr19; clear hr19
     have R20 := Lib.hid hr20; clear hr20
     obtain ⟨r21, hr21⟩ : ∃ r : Int, r = lenI r19 r20 := ⟨_, rfl⟩
     (try simp only [← hr21])
     have R21 := Lib.hid hr21; clear hr21
     obtain ⟨b0, b1, b2, b3⟩ := HB2.out
     have hB18_0 : Bk w18 (w.heap.size) 56 (encShapeV s).toArray := (b0).grw hg18
     have hB18_1 : Bk w18 (w.heap.size + 1 + 1) 23 #[.int .i64 (x), .int .i64 (y)] := (b2).grw hg18
     have hB18_2 : Sl 2 encV w18 a2 r2 := (b3).grw (hg18)
     have hw18 : Grw w w18 := (hw2).trans hg18
     have hs18 : w.heap.size + 1 + 1 < w18.heap.size := by have h1 := hg18.size; have h2 := g2_2_l; (try simp at h1); omega
     have g18_0_l := hB18_0.lt
     have g18_1_l := hB18_1.lt
     have HB18 := Lib.hid (show _ ∧ _ ∧ _ from ⟨hB18_0, hB18_1, hB18_2⟩); clear hB18_0 hB18_1 hB18_2
     clear g2_0_1 g2_0_l g2_1_l g2_2_0 g2_2_1 g2_2_l b0 b1 b2 b3 HB2 hw2 hg18
     go_wp2_with fail
     have hF : containsB s px py an x y = (decide (r21 ≤ s.r)) := by unfold containsB; first | rfl | (simp only [← R21.out, ← R20.out, ← R19.out, ← R2.out, hc3, hc4, cond_true, cond_false]; done) | (simp only [← R21.out, ← R20.out, ← R19.out, ← R2.out, hc3, hc4, cond_true, cond_false]; rfl) | simp [← R21.out, ← R20.out, ← R19.out, ← R2.out, hc3, hc4]
     refine bodyPost_ret (v := .bool (decide (r21 ≤ s.r))) (by simp [results, Tryz.results16, go_sem, g18_0_l, g18_1_l]) rfl ⟨by rw [hF], ?_⟩
     exact hw18
 · go_wp2_with fail
   have hF : containsB s px py an x y = false := by unfold containsB; first | rfl | (simp only [← R2.out, hc3, cond_true, cond_false]; done) | (simp only [← R2.out, hc3, cond_true, cond_false]; rfl) | simp [← R2.out, hc3]
   refine bodyPost_ret (v := .bool (false)) (by simp [results, Tryz.results16, go_sem, g2_0_1, g2_0_l, g2_1_l, g2_2_0, g2_2_1, g2_2_l]) rfl ⟨by rw [hF], ?_⟩
   exact hw2
end
section
open Go.RowKit Go.Sort
attribute [local go_sem] qAt qUpon okOp okUpon cell_in_grow frozen_in_grow
theorem castCircle_x (cx cy r fx fy tx ty : Int) (w : World) :
   Calls Tryz.prog 31 #[.agg #[.int .i64 (cx), .int .i64 (cy)], .int .i64 r, .agg #[.int .i64 (fx), .int .i64 (fy)], .agg #[.int .i64 (tx), .int .i64 (ty)]] w fun e w' => e = .returned (.tuple #[.int .i64 (ccF (cx, cy) r (fx, fy) (tx, ty)).t, .agg #[.int .i64 (ccF (cx, cy) r (fx, fy) (tx, ty)).n.1, .int .i64 (ccF (cx, cy) r (fx, fy) (tx, ty)).n.2], .bool (ccF (cx, cy) r (fx, fy) (tx, ty)).ok]) ∧ Grw w w' := castCircle_any cx cy r fx fy tx ty w
theorem castCapsule_x (ax ay bx by' r fx fy tx ty : Int) (w : World) :
   Calls Tryz.prog 32 #[.agg #[.int .i64 (ax), .int .i64 (ay)], .agg #[.int .i64 (bx), .int .i64 (by')], .int .i64 r, .agg #[.int .i64 (fx), .int .i64 (fy)], .agg #[.int .i64 (tx), .int .i64 (ty)]] w fun e w' => e = .returned (.tuple #[.int .i64 (capF (ax, ay) (bx, by') r (fx, fy) (tx, ty)).t, .agg #[.int .i64 (capF (ax, ay) (bx, by') r (fx, fy) (tx, ty)).n.1, .int .i64 (capF (ax, ay) (bx, by') r (fx, fy) (tx, ty)).n.2], .bool (capF (ax, ay) (bx, by') r (fx, fy) (tx, ty)).ok]) ∧ Grw w w' := castCapsule_any ax ay bx by' r fx fy tx ty w
theorem castPolygon_x (l : List P2) (fx fy tx ty : Int) (a : Option Addr) (cap : Nat) (w : World) (h2 : 2 ≤ l.length) (hs : Sl 2 encV w a l) (hl : l.length < 4611686018427387904) :
   Calls Tryz.prog 33 #[.slice a l.length cap, .agg #[.int .i64 (fx), .int .i64 (fy)], .agg #[.int .i64 (tx), .int .i64 (ty)]] w fun e w' => e = .returned (.tuple #[.int .i64 (cpF l (fx, fy) (tx, ty)).t, .agg #[.int .i64 (cpF l (fx, fy) (tx, ty)).n.1, .int .i64 (cpF l (fx, fy) (tx, ty)).n.2], .bool (cpF l (fx, fy) (tx, ty)).ok]) ∧ Grw w w' := castPolygon_any a cap l fx fy tx ty w hs h2 hl
theorem vtF_kinds {k r : Int} {l : List (Int × Int)} {px py an : Int} {c : List P2} (hc : c = vtF k r l px py an) (h0 : c.length ≠ 0) : (k = 1 → c.length = 1) ∧ (k = 2 → c.length = 2) ∧ (k ≠ 1 → k ≠ 2 → 3 ≤ c.length) := by
 subst hc
 unfold vtF at *
 by_cases h : shE k r l = 0
 · rw [if_pos h] at *
   simp only [List.length_map]
   obtain ⟨h1, h2, h3, h4, _, _⟩ := shE_len h
   exact ⟨h2, h3, fun a b => h4 (by omega)⟩
 · rw [if_neg h] at h0; simp at h0
attribute [local go_sem] encFixV_eq encBodyV_eq encJointV_eq encPkV_eq encPtV_eq encCtV_eq encMfV_eq encWorldV_eq encHitV_eq encShapeV_eq
attribute [local go_sem ↓] loadAt31 storeAt31 loadAt99 storeAt99 loadAt44 storeAt44 loadAt58 storeAt58 loadAt70 storeAt70 loadAt25 storeAt25 loadAt94 storeAt94 loadAt143 storeAt143 loadAt48 storeAt48
attribute [local go_sem] run_bl31 run_bs31 run_bl99 run_bs99 run_bl44 run_bs44 run_bl58 run_bs58 run_bl70 run_bs70 run_bl25 run_bs25 run_bl94 run_bs94 run_bl143 run_bs143 run_bl48 run_bs48 there_new there_alloc have_in_grow cells_in_grow oc_int oc_bool oc_slice oc_all oc_cons oc_nil List.size_toArray List.length_cons List.length_nil
attribute [local go_sem high] eqR23 eqR94 eqR48
def castF (s : ShapeV) (px py an fx fy tx ty : Int) : Int × Int × Int × Bool := let r2 : List P2 := vtF s.k s.r s.vl px py an; bif (r2.length : Int) == 0 then ((0, 0, 0, false)) else (let r5 : Bool := containsB s px py an fx fy; bif r5 then ((0, 0, 0, true)) else (bif s.k == 1 then (let r23 : Int := (ccF (((nth r2 0 (0, 0)).1), ((nth r2 0 (0, 0)).2)) s.r (fx, fy) (tx, ty)).t; let r24 : Int := (ccF (((nth r2 0 (0, 0)).1), ((nth r2 0 (0, 0)).2)) s.r (fx, fy) (tx, ty)).n.1; let r25 : Int := (ccF (((nth r2 0 (0, 0)).1), ((nth r2 0 (0, 0)).2)) s.r (fx, fy) (tx, ty)).n.2; let r26 : Bool := (ccF (((nth r2 0 (0, 0)).1), ((nth r2 0 (0, 0)).2)) s.r (fx, fy) (tx, ty)).ok; (r23, r24, r25, r26)) else (bif s.k == 2 then (let r17 : Int := (capF (((nth r2 0 (0, 0)).1), ((nth r2 0 (0, 0)).2)) (((nth r2 1 (0, 0)).1), ((nth r2 1 (0, 0)).2)) s.r (fx, fy) (tx, ty)).t; let r18 : Int := (capF (((nth r2 0 (0, 0)).1), ((nth r2 0 (0, 0)).2)) (((nth r2 1 (0, 0)).1), ((nth r2 1 (0, 0)).2)) s.r (fx, fy) (tx, ty)).n.1; let r19 : Int := (capF (((nth r2 0 (0, 0)).1), ((nth r2 0 (0, 0)).2)) (((nth r2 1 (0, 0)).1), ((nth r2 1 (0, 0)).2)) s.r (fx, fy) (tx, ty)).n.2; let r20 : Bool := (capF (((nth r2 0 (0, 0)).1), ((nth r2 0 (0, 0)).2)) (((nth r2 1 (0, 0)).1), ((nth r2 1 (0, 0)).2)) s.r (fx, fy) (tx, ty)).ok; (r17, r18, r19, r20)) else (let r10 : Int := (cpF r2 (fx, fy) (tx, ty)).t; let r11 : Int := (cpF r2 (fx, fy) (tx, ty)).n.1; let r12 : Int := (cpF r2 (fx, fy) (tx, ty)).n.2; let r13 : Bool := (cpF r2 (fx, fy) (tx, ty)).ok; (r10, r11, r12, r13)))))
theorem cast_any (s : ShapeV) (px py an fx fy tx ty : Int) (w : World) (h_s : ShapeOk w s) :
   Calls Tryz.prog 13 #[.agg (encShapeV s).toArray, .agg #[.int .i64 (px), .int .i64 (py), .int .i64 (an)], .agg #[.int .i64 (fx), .int .i64 (fy)], .agg #[.int .i64 (tx), .int .i64 (ty)]] w fun e w' => e = .returned (.tuple #[.int .i64 ((castF s px py an fx fy tx ty).1), .agg #[.int .i64 ((castF s px py an fx fy tx ty).2.1), .int .i64 ((castF s px py an fx fy tx ty).2.2.1)], .bool ((castF s px py an fx fy tx ty).2.2.2)]) ∧ Grw w w' := by
 have H_s := Lib.hid h_s; clear h_s
 go_enter Tryz.func13, Tryz.ntmps13
 go_upto_region 1 with (fail)
 refine wp_gen (fun xw => Grw w xw ∧ Bk xw (w.heap.size) 56 (encShapeV s).toArray ∧ Bk xw (w.heap.size + 1) 41 #[.int .i64 (px), .int .i64 (py), .int .i64 (an)] ∧ Bk xw (w.heap.size + 1 + 1) 23 #[.int .i64 (fx), .int .i64 (fy)] ∧ Bk xw (w.heap.size + 1 + 1 + 1) 23 #[.int .i64 (tx), .int .i64 (ty)] ∧ Bk xw (w.heap.size + 1 + 1 + 1 + 1) 23 #[.int .i64 (0), .int .i64 (0)]) ⟨((((((Grw.refl w)).alloc _).alloc _).alloc _).alloc _).alloc _, (((((Bk.new' (by simp))).alloc _).alloc _).alloc _).alloc _, ((((Bk.new' (by simp))).alloc _).alloc _).alloc _, (((Bk.new' (by simp))).alloc _).alloc _, ((Bk.new' (by simp))).alloc _, (Bk.new' (by simp))⟩ ?_
 rintro w1 ⟨hw1, hB1_0, hB1_1, hB1_2, hB1_3, hB1_4⟩
 have g1_0_0 : w1.cell? ⟨w.heap.size, 0, none⟩ = some (.int .i64 (s.k)) := hB1_0.cell 0
 have g1_0_1 : w1.cell? ⟨w.heap.size, 1, none⟩ = some (.int .i64 (s.r)) := hB1_0.cell 1
 have g1_0_2 : w1.cell? ⟨w.heap.size, 2, none⟩ = some (.slice (s.va) (s.vl.length) (s.vc)) := hB1_0.cell 2
 have g1_0_l := hB1_0.lt
 have g1_1_0 : w1.cell? ⟨w.heap.size + 1, 0, none⟩ = some (.int .i64 (px)) := hB1_1.cell 0
 have g1_1_1 : w1.cell? ⟨w.heap.size + 1, 1, none⟩ = some (.int .i64 (py)) := hB1_1.cell 1
 have g1_1_2 : w1.cell? ⟨w.heap.size + 1, 2, none⟩ = some (.int .i64 (an)) := hB1_1.cell 2
 have g1_1_l := hB1_1.lt
 have g1_2_l := hB1_2.lt
 have g1_3_l := hB1_3.lt
 have g1_4_l := hB1_4.lt
 have HB1 := Lib.hid (show _ ∧ _ ∧ _ ∧ _ ∧ _ from ⟨hB1_0, hB1_1, hB1_2, hB1_3, hB1_4⟩); clear hB1_0 hB1_1 hB1_2 hB1_3 hB1_4
 go_wp2_with fail
 (go_at_call 30; refine (vertices_x _ _ _ _ _ _ _ _ _ (H_s.out.1.grw (hw1)) H_s.out.2).mono ?_; rintro e w2 ⟨a2, c2, rfl, hg2, hs2⟩)
 obtain ⟨r2, hr2⟩ : ∃ r : List P2, r = vtF s.k s.r s.vl px py an := ⟨_, rfl⟩
 rw [← hr2] at hs2
 (try simp only [← hr2])
 have R2 := Lib.hid hr2; clear hr2
 obtain ⟨b0, b1, b2, b3, b4⟩ := HB1.out
 have hB2_0 : Bk w2 (w.heap.size) 56 (encShapeV s).toArray := (b0).grw hg2
 have hB2_1 : Bk w2 (w.heap.size + 1) 41 #[.int .i64 (px), .int .i64 (py), .int .i64 (an)] := (b1).grw hg2
 have hB2_2 : Bk w2 (w.heap.size + 1 + 1) 23 #[.int .i64 (fx), .int .i64 (fy)] := (b2).grw hg2
 have hB2_3 : Bk w2 (w.heap.size + 1 + 1 + 1) 23 #[.int .i64 (tx), .int .i64 (ty)] := (b3).grw hg2
 have hB2_4 : Bk w2 (w.heap.size + 1 + 1 + 1 + 1) 23 #[.int .i64 (0), .int .i64 (0)] := (b4).grw hg2
 have hB2_5 : Sl 2 encV w2 a2 r2 := hs2
 have hw2 : Grw w w2 := (hw1).trans hg2
 have hs2 : w.heap.size + 1 + 1 + 1 + 1 < w2.heap.size := by have h1 := hg2.size; have h2 := g1_4_l; (try simp at h1); omega
 have g2_0_0 : w2.cell? ⟨w.heap.size, 0, none⟩ = some (.int .i64 (s.k)) := hB2_0.cell 0
 have g2_0_1 : w2.cell? ⟨w.heap.size, 1, none⟩ = some (.int .i64 (s.r)) := hB2_0.cell 1
 have g2_0_2 : w2.cell? ⟨w.heap.size, 2, none⟩ = some (.slice (s.va) (s.vl.length) (s.vc)) := hB2_0.cell 2
 have g2_0_l := hB2_0.lt
 have g2_1_0 : w2.cell? ⟨w.heap.size + 1, 0, none⟩ = some (.int .i64 (px)) := hB2_1.cell 0
 have g2_1_1 : w2.cell? ⟨w.heap.size + 1, 1, none⟩ = some (.int .i64 (py)) := hB2_1.cell 1
 have g2_1_2 : w2.cell? ⟨w.heap.size + 1, 2, none⟩ = some (.int .i64 (an)) := hB2_1.cell 2
 have g2_1_l := hB2_1.lt
 have g2_2_0 : w2.cell? ⟨w.heap.size + 1 + 1, 0, none⟩ = some (.int .i64 (fx)) := hB2_2.cell 0
 have g2_2_1 : w2.cell? ⟨w.heap.size + 1 + 1, 1, none⟩ = some (.int .i64 (fy)) := hB2_2.cell 1
 have g2_2_l := hB2_2.lt
 have g2_3_l := hB2_3.lt
 have g2_4_0 : w2.cell? ⟨w.heap.size + 1 + 1 + 1 + 1, 0, none⟩ = some (.int .i64 (0)) := hB2_4.cell 0
 have g2_4_1 : w2.cell? ⟨w.heap.size + 1 + 1 + 1 + 1, 1, none⟩ = some (.int .i64 (0)) := hB2_4.cell 1
 have g2_4_f := hB2_4.frozen
 have g2_4_l := hB2_4.lt
 have HB2 := Lib.hid (show _ ∧ _ ∧ _ ∧ _ ∧ _ ∧ _ from ⟨hB2_0, hB2_1, hB2_2, hB2_3, hB2_4, hB2_5⟩); clear hB2_0 hB2_1 hB2_2 hB2_3 hB2_4 hB2_5
 clear g1_0_0 g1_0_1 g1_0_2 g1_0_l g1_1_0 g1_1_1 g1_1_2 g1_1_l g1_2_l g1_3_l g1_4_l b0 b1 b2 b3 b4 HB1 hw1 hg2
 cases hc3 : ((r2.length : Int) == 0)
 · go_wp2_with fail
   (go_at_call 16; refine (containsPoint_any s px py an fx fy _ (H_s.out.grw (hw2))).mono ?_; rintro e w4 ⟨rfl, hg4⟩)
   obtain ⟨r5, hr5⟩ : ∃ r : Bool, r = containsB s px py an fx fy := ⟨_, rfl⟩
   (try simp only [← hr5])
   have R5 := Lib.hid hr5; clear hr5
   obtain ⟨b0, b1, b2, b3, b4, b5⟩ := HB2.out
   have hB4_0 : Bk w4 (w.heap.size) 56 (encShapeV s).toArray := (b0).grw hg4
   have hB4_1 : Bk w4 (w.heap.size + 1) 41 #[.int .i64 (px), .int .i64 (py), .int .i64 (an)] := (b1).grw hg4
   have hB4_2 : Bk w4 (w.heap.size + 1 + 1) 23 #[.int .i64 (fx), .int .i64 (fy)] := (b2).grw hg4
   have hB4_3 : Bk w4 (w.heap.size + 1 + 1 + 1) 23 #[.int .i64 (tx), .int .i64 (ty)] := (b3).grw hg4
   have hB4_4 : Bk w4 (w.heap.size + 1 + 1 + 1 + 1) 23 #[.int .i64 (0), .int .i64 (0)] := (b4).grw hg4
   have hB4_5 : Sl 2 encV w4 a2 r2 := (b5).grw (hg4)
   have hw4 : Grw w w4 := (hw2).trans hg4
   have hs4 : w.heap.size + 1 + 1 + 1 + 1 < w4.heap.size := by have h1 := hg4.size; have h2 := g2_4_l; (try simp at h1); omega
   have g4_0_0 : w4.cell? ⟨w.heap.size, 0, none⟩ = some (.int .i64 (s.k)) := hB4_0.cell 0
   have g4_0_1 : w4.cell? ⟨w.heap.size, 1, none⟩ = some (.int .i64 (s.r)) := hB4_0.cell 1
   have g4_0_l := hB4_0.lt
   have g4_1_l := hB4_1.lt
   have g4_2_0 : w4.cell? ⟨w.heap.size + 1 + 1, 0, none⟩ = some (.int .i64 (fx)) := hB4_2.cell 0
   have g4_2_1 : w4.cell? ⟨w.heap.size + 1 + 1, 1, none⟩ = some (.int .i64 (fy)) := hB4_2.cell 1
   have g4_2_l := hB4_2.lt
   have g4_3_0 : w4.cell? ⟨w.heap.size + 1 + 1 + 1, 0, none⟩ = some (.int .i64 (tx)) := hB4_3.cell 0
   have g4_3_1 : w4.cell? ⟨w.heap.size + 1 + 1 + 1, 1, none⟩ = some (.int .i64 (ty)) := hB4_3.cell 1
   have g4_3_l := hB4_3.lt
   have g4_4_0 : w4.cell? ⟨w.heap.size + 1 + 1 + 1 + 1, 0, none⟩ = some (.int .i64 (0)) := hB4_4.cell 0
   have g4_4_1 : w4.cell? ⟨w.heap.size + 1 + 1 + 1 + 1, 1, none⟩ = some (.int .i64 (0)) := hB4_4.cell 1
   have g4_4_f := hB4_4.frozen
   have g4_4_l := hB4_4.lt
   have HB4 := Lib.hid (show _ ∧ _ ∧ _ ∧ _ ∧ _ ∧ _ from ⟨hB4_0, hB4_1, hB4_2, hB4_3, hB4_4, hB4_5⟩); clear hB4_0 hB4_1 hB4_2 hB4_3 hB4_4 hB4_5
   clear g2_0_0 g2_0_1 g2_0_2 g2_0_l g2_1_0 g2_1_1 g2_1_2 g2_1_l g2_2_0 g2_2_1 g2_2_l g2_3_l g2_4_0 g2_4_1 g2_4_f g2_4_l b0 b1 b2 b3 b4 b5 HB2 hw2 hg4
   cases hc6 : (r5)
   · cases hc7 : (s.k == 1)
     · cases hc8 : (s.k == 2)
       · go_wp2_with fail
         (go_at_call 33; refine (castPolygon_x r2 fx fy tx ty _ _ _ (by (have h0 := vtF_kinds R2.out (by have h1 := ne_of_beq_false' hc3; omega)); (have h1 := ne_of_beq_false' hc7); (have h2 := ne_of_beq_false' hc8); omega) (HB4.out.2.2.2.2.2) (show r2.length < 4611686018427387904 by rw [R2.out]; exact vtF_lt _ _ _ _ _ _ (H_s.out.2))).mono ?_; rintro e w9 ⟨rfl, hg9⟩)
         obtain ⟨r10, hr10⟩ : ∃ r : Int, r = (cpF r2 (fx, fy) (tx, ty)).t := ⟨_, rfl⟩
         obtain ⟨r11, hr11⟩ : ∃ r : Int, r = (cpF r2 (fx, fy) (tx, ty)).n.1 := ⟨_, rfl⟩
         obtain ⟨r12, hr12⟩ : ∃ r : Int, r = (cpF r2 (fx, fy) (tx, ty)).n.2 := ⟨_, rfl⟩
         obtain ⟨r13, hr13⟩ : ∃ r : Bool, r = (cpF r2 (fx, fy) (tx, ty)).ok := ⟨_, rfl⟩
         (try simp only [← hr10, ← hr11, ← hr12, ← hr13])
         have R10 := Lib.hid hr10; clear hr10
         have R11 := Lib.hid hr11; clear hr11
         have R12 := Lib.hid hr12; clear hr12
         have R13 := Lib.hid hr13; clear hr13
         obtain ⟨b0, b1, b2, b3, b4, b5⟩ := HB4.out
         have hB9_0 : Bk w9 (w.heap.size + 1 + 1) 23 #[.int .i64 (fx), .int .i64 (fy)] := (b2).grw hg9
         have hB9_1 : Bk w9 (w.heap.size + 1 + 1 + 1) 23 #[.int .i64 (tx), .int .i64 (ty)] := (b3).grw hg9
         have hB9_2 : Bk w9 (w.heap.size + 1 + 1 + 1 + 1) 23 #[.int .i64 (0), .int .i64 (0)] := (b4).grw hg9
         have hB9_3 : Sl 2 encV w9 a2 r2 := (b5).grw (hg9)
         have hw9 : Grw w w9 := (hw4).trans hg9
         have hs9 : w.heap.size + 1 + 1 + 1 + 1 < w9.heap.size := by have h1 := hg9.size; have h2 := g4_4_l; (try simp at h1); omega
         have g9_0_l := hB9_0.lt
         have g9_1_l := hB9_1.lt
         have g9_2_0 : w9.cell? ⟨w.heap.size + 1 + 1 + 1 + 1, 0, none⟩ = some (.int .i64 (0)) := hB9_2.cell 0
         have g9_2_1 : w9.cell? ⟨w.heap.size + 1 + 1 + 1 + 1, 1, none⟩ = some (.int .i64 (0)) := hB9_2.cell 1
         have g9_2_f := hB9_2.frozen
         have g9_2_l := hB9_2.lt
         have HB9 := Lib.hid (show _ ∧ _ ∧ _ ∧ _ from ⟨hB9_0, hB9_1, hB9_2, hB9_3⟩); clear hB9_0 hB9_1 hB9_2 hB9_3
         clear g4_0_0 g4_0_1 g4_0_l g4_1_l g4_2_0 g4_2_1 g4_2_l g4_3_0 g4_3_1 g4_3_l g4_4_0 g4_4_1 g4_4_f g4_4_l b0 b1 b2 b3 b4 b5 HB4 hw4 hg9
         go_wp2_with fail
         have hF : castF s px py an fx fy tx ty = (r10, r11, r12, r13) := by unfold castF; first | rfl | (simp only [← R13.out, ← R12.out, ← R11.out, ← R10.out, ← R5.out, ← R2.out, hc3, hc6, hc7, hc8, cond_true, cond_false]; done) | (simp only [← R13.out, ← R12.out, ← R11.out, ← R10.out, ← R5.out, ← R2.out, hc3, hc6, hc7, hc8, cond_true, cond_false]; rfl) | simp [← R13.out, ← R12.out, ← R11.out, ← R10.out, ← R5.out, ← R2.out, hc3, hc6, hc7, hc8]
         refine bodyPost_ret (v := .tuple #[.int .i64 (r10), .agg #[.int .i64 (r11), .int .i64 (r12)], .bool (r13)]) (by simp [results, Tryz.results13, go_sem, g9_0_l, g9_1_l, g9_2_0, g9_2_1, g9_2_f, g9_2_l]) rfl ⟨by rw [hF], ?_⟩
         exact ((hw9).setAt (by omega) _).setAt (by omega) _
       · go_upto_region 10 with (fail)
         have hi14 : 0 < r2.length := by (have h0 := vtF_kinds R2.out (by have h1 := ne_of_beq_false' hc3; omega)); (have h1 := eq_of_beq hc8); omega
         have hx14 : r2[0]? = some (nth r2 0 (0, 0)) := getD_of _ hi14
         obtain ⟨bx14, ox14, he14, hbx14, hcx14⟩ := (HB4.out.2.2.2.2.2) 0 _ hx14; clear hx14
         have gx14_0 : w4.cell? ⟨bx14, ox14, none⟩ = some (.int .i64 ((nth r2 0 (0, 0)).1)) := by simpa [Nat.add_assoc] using hcx14 0 _ rfl
         have gx14_1 : w4.cell? ⟨bx14, ox14 + 1, none⟩ = some (.int .i64 ((nth r2 0 (0, 0)).2)) := by simpa [Nat.add_assoc] using hcx14 1 _ rfl
         have hi15 : 1 < r2.length := by (have h0 := vtF_kinds R2.out (by have h1 := ne_of_beq_false' hc3; omega)); (have h1 := eq_of_beq hc8); omega
         have hj15 : (1 : Int) < (r2.length : Int) := by omega
         have hx15 : r2[1]? = some (nth r2 1 (0, 0)) := getD_of _ hi15
         obtain ⟨bx15, ox15, he15, hbx15, hcx15⟩ := (HB4.out.2.2.2.2.2) 1 _ hx15; clear hx15
         obtain ⟨rfl, rfl⟩ : bx14 = bx15 ∧ ox14 = ox15 := by have h1 := he14.symm.trans he15; simpa using h1
         clear he15
         have gx15_0 : w4.cell? ⟨bx14, ox14 + 2, none⟩ = some (.int .i64 ((nth r2 1 (0, 0)).1)) := by simpa [Nat.add_assoc] using hcx15 0 _ rfl
         have gx15_1 : w4.cell? ⟨bx14, ox14 + 2 + 1, none⟩ = some (.int .i64 ((nth r2 1 (0, 0)).2)) := by simpa [Nat.add_assoc] using hcx15 1 _ rfl
         refine wp_region_flowA 14 (by kernel_rfl) (by kernel_rfl) ?_
         simp only [tD]
         iterate 10 (refine wpQ_step (fun K hK => ?_); go_simp; refine hK _ ?_; clear hK K)
         refine wpQ_step (fun K hK => ?_); go_simp; apply Exists.intro; refine ⟨fun _ => ?_, hK _ ?_⟩; (go_at_call 32; exact (castCapsule_x _ _ _ _ _ _ _ _ _ _)); clear hK K
         iterate 3 (refine wpQ_step (fun K hK => ?_); go_simp; refine hK _ ?_; clear hK K)
         refine wpQ_nil ?_
         intro w16 hg16
         obtain ⟨r17, hr17⟩ : ∃ r : Int, r = (capF (((nth r2 0 (0, 0)).1), ((nth r2 0 (0, 0)).2)) (((nth r2 1 (0, 0)).1), ((nth r2 1 (0, 0)).2)) s.r (fx, fy) (tx, ty)).t := ⟨_, rfl⟩
         obtain ⟨r18, hr18⟩ : ∃ r : Int, r = (capF (((nth r2 0 (0, 0)).1), ((nth r2 0 (0, 0)).2)) (((nth r2 1 (0, 0)).1), ((nth r2 1 (0, 0)).2)) s.r (fx, fy) (tx, ty)).n.1 := ⟨_, rfl⟩
         obtain ⟨r19, hr19⟩ : ∃ r : Int, r = (capF (((nth r2 0 (0, 0)).1), ((nth r2 0 (0, 0)).2)) (((nth r2 1 (0, 0)).1), ((nth r2 1 (0, 0)).2)) s.r (fx, fy) (tx, ty)).n.2 := ⟨_, rfl⟩
         obtain ⟨r20, hr20⟩ : ∃ r : Bool, r = (capF (((nth r2 0 (0, 0)).1), ((nth r2 0 (0, 0)).2)) (((nth r2 1 (0, 0)).1), ((nth r2 1 (0, 0)).2)) s.r (fx, fy) (tx, ty)).ok := ⟨_, rfl⟩
         (try simp only [← hr17, ← hr18, ← hr19, ← hr20])
         have R17 := Lib.hid hr17; clear hr17
         have R18 := Lib.hid hr18; clear hr18
         have R19 := Lib.hid hr19; clear hr19
         have R20 := Lib.hid hr20; clear hr20
         obtain ⟨b0, b1, b2, b3, b4, b5⟩ := HB4.out
         have hB16_0 : Bk w16 (w.heap.size) 56 (encShapeV s).toArray := (b0).grw hg16
         have hB16_1 : Bk w16 (w.heap.size + 1 + 1) 23 #[.int .i64 (fx), .int .i64 (fy)] := (b2).grw hg16
         have hB16_2 : Bk w16 (w.heap.size + 1 + 1 + 1) 23 #[.int .i64 (tx), .int .i64 (ty)] := (b3).grw hg16
         have hB16_3 : Bk w16 (w.heap.size + 1 + 1 + 1 + 1) 23 #[.int .i64 (0), .int .i64 (0)] := (b4).grw hg16
         have hB16_4 : Sl 2 encV w16 a2 r2 := (b5).grw (hg16)
         have hw16 : Grw w w16 := (hw4).trans hg16
         have hs16 : w.heap.size + 1 + 1 + 1 + 1 < w16.heap.size := by have h1 := hg16.size; have h2 := g4_4_l; (try simp at h1); omega
         have g16_0_l := hB16_0.lt
         have g16_1_l := hB16_1.lt
         have g16_2_l := hB16_2.lt
         have g16_3_0 : w16.cell? ⟨w.heap.size + 1 + 1 + 1 + 1, 0, none⟩ = some (.int .i64 (0)) := hB16_3.cell 0
         have g16_3_1 : w16.cell? ⟨w.heap.size + 1 + 1 + 1 + 1, 1, none⟩ = some (.int .i64 (0)) := hB16_3.cell 1
         have g16_3_f := hB16_3.frozen
         have g16_3_l := hB16_3.lt
         have HB16 := Lib.hid (show _ ∧ _ ∧ _ ∧ _ ∧ _ from ⟨hB16_0, hB16_1, hB16_2, hB16_3, hB16_4⟩); clear hB16_0 hB16_1 hB16_2 hB16_3 hB16_4
         clear g4_0_0 g4_0_1 g4_0_l g4_1_l g4_2_0 g4_2_1 g4_2_l g4_3_0 g4_3_1 g4_3_l g4_4_0 g4_4_1 g4_4_f g4_4_l b0 b1 b2 b3 b4 b5 HB4 hw4 hg16
         go_wp2_with fail
         have hF : castF s px py an fx fy tx ty = (r17, r18, r19, r20) := by unfold castF; first | rfl | (simp only [← R20.out, ← R19.out, ← R18.out, ← R17.out, ← R5.out, ← R2.out, hc3, hc6, hc7, hc8, cond_true, cond_false]; done) | (simp only [← R20.out, ← R19.out, ← R18.out, ← R17.out, ← R5.out, ← R2.out, hc3, hc6, hc7, hc8, cond_true, cond_false]; rfl) | simp [← R20.out, ← R19.out, ← R18.out, ← R17.out, ← R5.out, ← R2.out, hc3, hc6, hc7, hc8]
         refine bodyPost_ret (v := .tuple #[.int .i64 (r17), .agg #[.int .i64 (r18), .int .i64 (r19)], .bool (r20)]) (by simp [results, Tryz.results13, go_sem, g16_0_l, g16_1_l, g16_2_l, g16_3_0, g16_3_1, g16_3_f, g16_3_l]) rfl ⟨by rw [hF], ?_⟩
         exact ((hw16).setAt (by omega) _).setAt (by omega) _
     · go_upto_region 8 with (fail)
       have hi21 : 0 < r2.length := by (have h0 := vtF_kinds R2.out (by have h1 := ne_of_beq_false' hc3; omega)); (have h1 := eq_of_beq hc7); omega
       have hx21 : r2[0]? = some (nth r2 0 (0, 0)) := getD_of _ hi21
       obtain ⟨bx21, ox21, he21, hbx21, hcx21⟩ := (HB4.out.2.2.2.2.2) 0 _ hx21; clear hx21
       have gx21_0 : w4.cell? ⟨bx21, ox21, none⟩ = some (.int .i64 ((nth r2 0 (0, 0)).1)) := by simpa [Nat.add_assoc] using hcx21 0 _ rfl
       have gx21_1 : w4.cell? ⟨bx21, ox21 + 1, none⟩ = some (.int .i64 ((nth r2 0 (0, 0)).2)) := by simpa [Nat.add_assoc] using hcx21 1 _ rfl
       refine wp_region_flowA 11 (by kernel_rfl) (by kernel_rfl) ?_
       simp only [tD]
       iterate 7 (refine wpQ_step (fun K hK => ?_); go_simp; refine hK _ ?_; clear hK K)
       refine wpQ_step (fun K hK => ?_); go_simp; apply Exists.intro; refine ⟨fun _ => ?_, hK _ ?_⟩; (go_at_call 31; exact (castCircle_x _ _ _ _ _ _ _ _)); clear hK K
       iterate 3 (refine wpQ_step (fun K hK => ?_); go_simp; refine hK _ ?_; clear hK K)
       refine wpQ_nil ?_
       intro w22 hg22
       obtain ⟨r23, hr23⟩ : ∃ r : Int, r = (ccF (((nth r2 0 (0, 0)).1), ((nth r2 0 (0, 0)).2)) s.r (fx, fy) (tx, ty)).t := ⟨_, rfl⟩
       obtain ⟨r24, hr24⟩ : ∃ r : Int, r = (ccF (((nth r2 0 (0, 0)).1), ((nth r2 0 (0, 0)).2)) s.r (fx, fy) (tx, ty)).n.1 := ⟨_, rfl⟩
       obtain ⟨r25, hr25⟩ : ∃ r : Int, r = (ccF (((nth r2 0 (0, 0)).1), ((nth r2 0 (0, 0)).2)) s.r (fx, fy) (tx, ty)).n.2 := ⟨_, rfl⟩
       obtain ⟨r26, hr26⟩ : ∃ r : Bool, r = (ccF (((nth r2 0 (0, 0)).1), ((nth r2 0 (0, 0)).2)) s.r (fx, fy) (tx, ty)).ok := ⟨_, rfl⟩
       (try simp only [← hr23, ← hr24, ← hr25, ← hr26])
       have R23 := Lib.hid hr23; clear hr23
       have R24 := Lib.hid hr24; clear hr24
       have R25 := Lib.hid hr25; clear hr25
       have R26 := Lib.hid hr26; clear hr26
       obtain ⟨b0, b1, b2, b3, b4, b5⟩ := HB4.out
       have hB22_0 : Bk w22 (w.heap.size) 56 (encShapeV s).toArray := (b0).grw hg22
       have hB22_1 : Bk w22 (w.heap.size + 1 + 1) 23 #[.int .i64 (fx), .int .i64 (fy)] := (b2).grw hg22
       have hB22_2 : Bk w22 (w.heap.size + 1 + 1 + 1) 23 #[.int .i64 (tx), .int .i64 (ty)] := (b3).grw hg22
       have hB22_3 : Bk w22 (w.heap.size + 1 + 1 + 1 + 1) 23 #[.int .i64 (0), .int .i64 (0)] := (b4).grw hg22
       have hB22_4 : Sl 2 encV w22 a2 r2 := (b5).grw (hg22)
       have hw22 : Grw w w22 := (hw4).trans hg22
       have hs22 : w.heap.size + 1 + 1 + 1 + 1 < w22.heap.size := by have h1 := hg22.size; have h2 := g4_4_l; (try simp at h1); omega
       have g22_0_l := hB22_0.lt
       have g22_1_l := hB22_1.lt
       have g22_2_l := hB22_2.lt
       have g22_3_0 : w22.cell? ⟨w.heap.size + 1 + 1 + 1 + 1, 0, none⟩ = some (.int .i64 (0)) := hB22_3.cell 0
       have g22_3_1 : w22.cell? ⟨w.heap.size + 1 + 1 + 1 + 1, 1, none⟩ = some (.int .i64 (0)) := hB22_3.cell 1
       have g22_3_f := hB22_3.frozen
       have g22_3_l := hB22_3.lt
       have HB22 := Lib.hid (show _ ∧ _ ∧ _ ∧ _ ∧ _ from ⟨hB22_0, hB22_1, hB22_2, hB22_3, hB22_4⟩); clear hB22_0 hB22_1 hB22_2 hB22_3 hB22_4
       clear g4_0_0 g4_0_1 g4_0_l g4_1_l g4_2_0 g4_2_1 g4_2_l g4_3_0 g4_3_1 g4_3_l g4_4_0 g4_4_1 g4_4_f g4_4_l b0 b1 b2 b3 b4 b5 HB4 hw4 hg22
       go_wp2_with fail
       have hF : castF s px py an fx fy tx ty = (r23, r24, r25, r26) := by unfold castF; first | rfl | (simp only [← R26.out, ← R25.out, ← R24.out, ← R23.out, ← R5.out, ← R2.out, hc3, hc6, hc7, cond_true, cond_false]; done) | (simp only [← R26.out, ← R25.out, ← R24.out, ← R23.out, ← R5.out, ← R2.out, hc3, hc6, hc7, cond_true, cond_false]; rfl) | simp [← R26.out, ← R25.out, ← R24.out, ← R23.out, ← R5.out, ← R2.out, hc3, hc6, hc7]
       refine bodyPost_ret (v := .tuple #[.int .i64 (r23), .agg #[.int .i64 (r24), .int .i64 (r25)], .bool (r26)]) (by simp [results, Tryz.results13, go_sem, g22_0_l, g22_1_l, g22_2_l, g22_3_0, g22_3_1, g22_3_f, g22_3_l]) rfl ⟨by rw [hF], ?_⟩
       exact ((hw22).setAt (by omega) _).setAt (by omega) _
   · go_wp2_with fail
     have hF : castF s px py an fx fy tx ty = (0, 0, 0, true) := by unfold castF; first | rfl | (simp only [← R5.out, ← R2.out, hc3, hc6, cond_true, cond_false]; done) | (simp only [← R5.out, ← R2.out, hc3, hc6, cond_true, cond_false]; rfl) | simp [← R5.out, ← R2.out, hc3, hc6]
     refine bodyPost_ret (v := .tuple #[.int .i64 (0), .agg #[.int .i64 (0), .int .i64 (0)], .bool (true)]) (by simp [results, Tryz.results13, go_sem, g4_0_0, g4_0_1, g4_0_l, g4_1_l, g4_2_0, g4_2_1, g4_2_l, g4_3_0, g4_3_1, g4_3_l, g4_4_0, g4_4_1, g4_4_f, g4_4_l]) rfl ⟨by rw [hF], ?_⟩
     exact ((hw4).setAt (by omega) _).setAt (by omega) _
 · go_wp2_with fail
   have hF : castF s px py an fx fy tx ty = (0, 0, 0, false) := by unfold castF; first | rfl | (simp only [← R2.out, hc3, cond_true, cond_false]; done) | (simp only [← R2.out, hc3, cond_true, cond_false]; rfl) | simp [← R2.out, hc3]
   refine bodyPost_ret (v := .tuple #[.int .i64 (0), .agg #[.int .i64 (0), .int .i64 (0)], .bool (false)]) (by simp [results, Tryz.results13, go_sem, g2_0_0, g2_0_1, g2_0_2, g2_0_l, g2_1_0, g2_1_1, g2_1_2, g2_1_l, g2_2_0, g2_2_1, g2_2_l, g2_3_l, g2_4_0, g2_4_1, g2_4_f, g2_4_l]) rfl ⟨by rw [hF], ?_⟩
   exact ((hw2).setAt (by omega) _).setAt (by omega) _
end
section
open Go.ChangeShapes Go.WideShapes Go.ChangeAt Go.RowKit Go.Deep
section
variable {H : Type} {enc : TypeId × Value → H} {P : Program} {w : World} {base : Nat} {spare : Nat → Bool} {held : Bool}
def Opn (enc : TypeId × Value → H) (P : Program) (w : World) (base : Nat) (spare : Nat → Bool) (held : Bool) (t : TypeId) (cs : List Value) : Prop :=
 ∃ n x, DataW.trod enc P w base spare held n t cs = some x ∧ ∀ k ∈ x.1.weights P t, k ≤ reachBytes
theorem Opn.struct {t : TypeId} {fs : Array Field} {cs : List Value} (ht : P.underlying t = some (.struct fs)) (h : Opn enc P w base spare held t cs) {q : Nat} (hq : P.cellsOf t = q) :
   cs.length = q ∧ ∀ (i : Nat) (f : Field), fs[i]? = some f → Opn enc P w base spare held f.type ((cs.drop f.offset).take (P.cellsOf f.type)) := by
 obtain ⟨n, x, h, hw⟩ := h
 obtain ⟨xs, m, _, rfl, hl, hlen, hf⟩ := DataW.trod_struct ht h
 refine ⟨hl.trans hq, fun i f hi => ?_⟩
 have h1 := hf i f hi
 have hi' : i < xs.length := by rw [hlen]; exact (Array.getElem?_eq_some_iff.1 hi).1
 rw [List.getElem?_eq_getElem hi'] at h1
 refine ⟨m, xs[i], h1, fun k hk => hw k ?_⟩
 simp only [DataW.weights, ht]
 refine DataW.weights_mem_each (j := i) (t := f.type) (d := xs[i].1) ?_ ?_ k hk
 · rw [List.getElem?_map, Array.getElem?_toList, hi]; rfl
 · rw [List.getElem?_map, List.getElem?_eq_getElem hi']; rfl
theorem Opn.array {t e : TypeId} {c : Nat} {cs : List Value} (ht : P.underlying t = some (.array c e)) (h : Opn enc P w base spare held t cs) {q : Nat} (hq : P.cellsOf t = q) :
   cs.length = q ∧ ∀ (i : Nat), i < c → ∃ n x, DataW.trod enc P w base spare held n e ((cs.drop (i * P.cellsOf e)).take (P.cellsOf e)) = some x := by
 obtain ⟨n, x, h, hw⟩ := h
 obtain ⟨xs, m, _, rfl, hl, hlen, hf⟩ := DataW.trod_array ht h
 refine ⟨hl.trans hq, fun i hi => ⟨m, xs[i]'(by omega), ?_⟩⟩
 rw [hf i hi, List.getElem?_eq_getElem]
theorem Opn.int {t : TypeId} {k : IntKind} {cs : List Value} (ht : P.underlying t = some (.int k)) (h : Opn enc P w base spare held t cs) : ∃ n, cs = [.int k n] ∧ (Lit.int k n).wf = true := by
 obtain ⟨n, x, h, _⟩ := h
 obtain ⟨a, ha, _, hw⟩ := DataW.trod_int ht h
 exact ⟨a, ha, hw⟩
theorem Opn.bool {t : TypeId} {cs : List Value} (ht : P.underlying t = some .bool) (h : Opn enc P w base spare held t cs) : ∃ b, cs = [.bool b] := by
 obtain ⟨n, x, h, _⟩ := h
 obtain ⟨b, hb, _⟩ := DataW.trod_bool ht h
 exact ⟨b, hb⟩
theorem list_of {α : Type} (P : Nat → α → Prop) : ∀ n, (∀ i, i < n → ∃ d, P i d) → ∃ l : List α, l.length = n ∧ ∀ i d, l[i]? = some d → P i d
 | 0, _ => ⟨[], rfl, fun i d h => by simp at h⟩
 | n + 1, h => by
   obtain ⟨l, hl, hp⟩ := list_of P n fun i hi => h i (by omega)
   obtain ⟨d, hd⟩ := h n (by omega)
   refine ⟨l ++ [d], by simp [hl], fun i x hx => ?_⟩
   by_cases hi : i < n
   · rw [List.getElem?_append_left (by omega)] at hx
     exact hp i x hx
   · have hlt := (List.getElem?_eq_some_iff.1 hx).1
     simp [hl] at hlt
     obtain rfl : i = n := by omega
     rw [List.getElem?_append_right (by omega)] at hx
     simp [hl] at hx
     subst hx
     exact hd
theorem cell_lt {w : World} {a : Addr} {v : Value} (h : w.cell? a = some v) : a.block < w.heap.size := by
 rcases Nat.lt_or_ge a.block w.heap.size with h1 | h1
 · exact h1
 · unfold World.cell? at h; rw [Array.getElem?_eq_none h1] at h; simp at h
theorem weightsAll_mem {e : TypeId} : ∀ {ds : List (DataW H)} {d : DataW H}, d ∈ ds → ∀ k ∈ d.weights P e, k ∈ DataW.weightsAll P e ds
 | d0 :: ds, d, hd, k, hk => by
   simp only [DataW.weightsAll, List.mem_append]
   rcases List.mem_cons.1 hd with rfl | hd
   · exact .inl hk
   · exact .inr (weightsAll_mem hd k hk)
theorem Opn.slice {α : Type} {e' : α → List Value} {ok : α → Prop} {size bytes : Nat} {t e : TypeId} {cs : List Value} (ht : P.underlying t = some (.slice e)) (hc : P.cellsOf e = size) (hb : P.bytesOf e = bytes) (hb0 : 0 < bytes) (hs0 : 0 < size)
   (hlen : ∀ d, (e' d).length = size) (h : Opn enc P w base spare held t cs) (hel : ∀ cs', Opn enc P w base spare held e cs' → ∃ d, cs' = e' d ∧ ok d) :
   ∃ (a : Option Addr) (l : List α) (cap : Nat), cs = [.slice a l.length cap] ∧ Sl size e' w a l ∧ l.length ≤ reachBytes ∧ ∀ d ∈ l, ok d := by
 subst hc
 obtain ⟨n, x, h, hw⟩ := h
 rcases open_slice ht h with ⟨rfl, rfl⟩ | ⟨a, len, cap, m, n', D, Pl, rfl, _, hl, hm, hmm, rfl, hx⟩
 · exact ⟨none, [], 0, rfl, fun i x hx => by simp at hx, Nat.zero_le _, fun d hd => by simp at hd⟩
 · have hlm : len ≤ m := by rw [hmm]; split <;> omega
   obtain ⟨l, hll, hlc⟩ := list_of (fun i (d : α) => (∀ j u, (e' d)[j]? = some u → w.cell? (a.add (i * P.cellsOf e + j)) = some u) ∧ ok d) len fun i hi => by
     obtain ⟨cs', h1, h2⟩ := hx i (by omega)
     obtain ⟨_, hcl, hat⟩ := World.cells?_some h1
     obtain ⟨d, rfl, hd⟩ := hel cs' ⟨n', _, h2, fun k hk => hw k (by
       simp only [DataW.weights, ht]
       refine List.mem_cons_of_mem _ (List.mem_append.2 (.inl (weightsAll_mem (List.mem_map.2 ⟨i, by simpa using hi, rfl⟩) k hk))))⟩
     refine ⟨d, fun j u hj => ?_, hd⟩
     have hj6 : j < P.cellsOf e := by rw [← hlen d]; exact (List.getElem?_eq_some_iff.1 hj).1
     rw [← Go.Deep.add_add, hat j hj6, hj]
   have hreach : len ≤ reachBytes := by
     have h3 := hw ((len + (m - len)) * P.bytesOf e) (by simp [DataW.weights, ht])
     have h4 : len * 1 ≤ (len + (m - len)) * P.bytesOf e := Nat.mul_le_mul (by omega) (by omega)
     omega
   refine ⟨some a, l, cap, by rw [hll], fun i d hd => ?_, by omega, fun d hd => ?_⟩
   · have hi := (hlc i d hd).1
     obtain ⟨b, off, spot⟩ := a
     have hk0 : 0 < l.length := Nat.lt_of_le_of_lt (Nat.zero_le i) (List.getElem?_eq_some_iff.1 hd).1
     have hl0 := hlen l[0]
     have c0 := (hlc 0 _ (List.getElem?_eq_getElem hk0)).1 0 _ (List.getElem?_eq_getElem (by omega))
     have hspot : spot = Option.none := by simpa [Addr.add] using World.cell?_spot c0
     subst hspot
     have hadd : ∀ n, (⟨b, off, Option.none⟩ : Addr).add n = ⟨b, off + n, Option.none⟩ := fun n => by
       unfold Addr.add
       split
       · simp [*]
       · rfl
     simp only [hadd] at hi c0
     exact ⟨b, off, rfl, cell_lt c0, fun j u hj => by rw [Nat.add_assoc]; exact hi j u hj⟩
   · obtain ⟨i, hi, rfl⟩ := List.mem_iff_getElem.1 hd
     exact (hlc i _ (List.getElem?_eq_getElem hi)).2
end
end
section
open Go.RowKit Go.Sort
section flow
variable {P : Program}
def midOp (P : Program) (ops : Array Oper) (w : World) (Q : Exit → Act → World → Prop) : List Oper → Act → World → Prop
 | [], _, _ => False
 | o :: rest, a, w1 => ∀ K : Value → World → Prop, (∀ v w2, Grw w w2 → (∀ w3, Grw w2 w3 → wpList P ops Q rest (a.put o.dst v) w3) → K v w2) → okOp P ops o K a w1
theorem wp_region_flowC {id : Nat} {Q : Exit → Act → World → Prop} {a : Act} {w : World} {l : List Oper} (p : Nat) (hm : P.follows .mixedOrders = true)
   (hB : ((Region.noSelect l.toArray && decide (p ≤ l.length)) && (decide (p + 1 ≤ l.length) && flowFrom l.toArray (p + 1) p 0 (Array.replicate l.toArray.size false)) && (Region.ready .any l.toArray (listedTo l.length p) == [p]) && (Region.ready .any l.toArray (listedTo l.length (p + 1))).all (fun j => decide (p + 1 ≤ j)) &&
     Region.seqB .any l.toArray (l.length - (p + 1)) (p + 1) (listedTo l.length (p + 1))) = true)
   (h : wpQ P l.toArray w (fun a' => ∀ w1, Grw w w1 → midOp P l.toArray w Q (l.drop p) a' w1) (l.take p) a) :
   (Code.region id l.toArray true).wp P Q a w := by
 simp only [Bool.and_eq_true, flowB, decide_eq_true_eq] at hB
 obtain ⟨⟨⟨⟨⟨hsel, _⟩, hn, hfl⟩, hr1⟩, hrd⟩, hseq⟩ := hB
 have hr1 : Region.ready .any l.toArray (listedTo l.length p) = [p] := by simpa using hr1
 have htl : (l.take p).length = p := by simp; omega
 obtain ⟨o, ho⟩ : ∃ o, l[p]? = some o := ⟨l[p], List.getElem?_eq_getElem (by omega)⟩
 have hdr : l.drop p = o :: l.drop (p + 1) := by
   have hp : p < l.length := by omega
   rw [List.drop_eq_getElem_cons hp]
   rw [List.getElem?_eq_getElem hp] at ho
   cases ho; rfl
 rw [hdr] at h
 have hsz : l.toArray.size = l.length := by simp
 refine wp_region_any hm ?_
 have H := anyA_lex (P := P) (w0 := w) (n := p + 1) (g := 1) (L := fun listed a' w' => listed = listedTo l.length (p + 1) ∧ wpList P l.toArray Q (l.drop (p + 1)) a' w') hsel (l.take p) 0 a ({ w with drawn := w.drawn + 1 }) ((Grw.refl w).drewN 1) (clo_none _ rfl)
   (fun j hj => by simp only [Nat.zero_add]; rw [htl] at hj; simp [hj]) (by rw [htl]; exact hfl) (by
     have e : 0 + (l.take p).length = p := by omega
     rw [e, hsz]
     refine wpQ_mono (fun a' ha' w1 hw1 => ?_) _ _ h
     intro w2 hw2
     refine ⟨by rw [hr1]; simp, fun j hj => ?_⟩
     rw [hr1] at hj
     obtain rfl : j = p := by simpa using hj
     refine ⟨Nat.lt_succ_self _, fun o' ho' => ?_⟩
     obtain rfl : o' = o := by
       have : l[j]? = some o' := by simpa using ho'
       exact Option.some.inj (this.symm.trans ho)
     refine ha' w2 (hw1.trans hw2) _ fun v w3 h1 h2 => ⟨h1, ?_, ?_⟩
     · rw [← listedTo_succ]
       exact fun k hk => by simpa using List.all_eq_true.1 hrd k hk
     · exact fun w4 hw4 => ⟨by rw [← listedTo_succ], h2 w4 hw4⟩)
 have H2 := wpAny_of_anyA (w0 := w) (Q := Q) (g := l.length - (p + 1)) (fun listed a' w' ⟨e, hL⟩ => by
   subst e
   have := wpAny_of_seq (md := .any) (Q' := Q) (l.drop (p + 1)) (p + 1) (listedTo l.length (p + 1)) a' w' (fun j => by simp [List.getElem?_drop]) (by simpa using hseq) hL
   simpa using this) _ _ _ _ H
 rw [htl] at H2
 have e1 : p + 1 + (l.length - (p + 1)) = l.toArray.size := by omega
 rw [e1] at H2
 exact H2
end flow
end
section
open Go.RowKit Go.Sort
attribute [local go_sem] qAt qUpon okOp okUpon cell_in_grow frozen_in_grow
section
variable {α : Type} {ops : Array Oper} {rest : List Oper} {o : Oper} {a : Act} {Q : Exit → Act → World → Prop}
theorem Sl.flat {size : Nat} {enc : α → List Value} (hk : ∀ x, (enc x).length = size) {w : World} {ad : Addr} {l : List α} (h : Sl size enc w (some ad) l) (hl : l ≠ []) :
   ∀ j u, (l.flatMap enc)[j]? = some u → w.cell? (ad.add j) = some u := by
 obtain ⟨x0, l0, rfl⟩ : ∃ x l', l = x :: l' := by cases l with | nil => exact absurd rfl hl | cons x l => exact ⟨x, l, rfl⟩
 obtain ⟨b, off, hb, hlt, _⟩ := h 0 x0 rfl
 cases hb
 intro j u hu
 have h0 : 0 < size := by
   rcases Nat.eq_zero_or_pos size with h0 | h0
   · have : ∀ x, enc x = [] := fun x => List.length_eq_zero_iff.1 ((hk x).trans h0)
     have : (x0 :: l0).flatMap enc = [] := by rw [List.flatMap_eq_nil_iff]; exact fun x _ => this x
     rw [this] at hu; cases hu
   · exact h0
 have key : ∀ (l : List α) (j : Nat), (l.flatMap enc)[j]? = some u → ∃ x, l[j / size]? = some x ∧ (enc x)[j % size]? = some u := by
   intro l
   induction l with
   | nil => intro j hj; cases hj
   | cons y l ih =>
     intro j hj
     rw [List.flatMap_cons] at hj
     rcases Nat.lt_or_ge j size with h1 | h1
     · rw [List.getElem?_append_left (by rw [hk]; exact h1)] at hj
       exact ⟨y, by rw [Nat.div_eq_of_lt h1]; rfl, by rw [Nat.mod_eq_of_lt h1]; exact hj⟩
     · rw [List.getElem?_append_right (by rw [hk]; exact h1), hk] at hj
       obtain ⟨x, hx, hu⟩ := ih (j - size) hj
       refine ⟨x, ?_, ?_⟩
       · rw [show j / size = (j - size) / size + 1 by rw [Nat.div_eq j size, if_pos ⟨h0, h1⟩]]; exact hx
       · rw [Nat.mod_eq_sub_mod h1]; exact hu
 obtain ⟨x, hx, hxu⟩ := key _ j hu
 obtain ⟨b', off', hb', _, hc⟩ := h _ x hx
 cases hb'
 have := hc _ u hxu
 have e : (⟨b, off, none⟩ : Addr).add j = ⟨b, off + j / size * size + j % size, none⟩ := by
   rw [Nat.add_assoc, Nat.div_add_mod']
   unfold Addr.add; split <;> simp_all
 rw [e]; exact this
theorem wpList_appendAll {enc : α → List Value} {e size bytes t : Nat} {z : Value} (hk : ∀ x, (enc x).length = size) (h1 : ∀ x, ∀ u ∈ enc x, u.oneCell' = true) {W : World} (base : Nat) (hgd : o.guard = none) (s x : Operand)
   (ho : o.op = .call { callee := .builtin .append, args := #[s, x], argTypes := #[t, t] })
   (ht : Tryz.prog.underlying t = some (.slice e)) (hinfo : (Tryz.prog.info? e).map (fun i => (i.zero, i.size, i.bytes)) = some (some z, size, bytes)) (hz : z.cells.size = size) (hsz : 0 < size) (hb0 : 0 < bytes)
   (v : Value) (xs ys : List α) (ad : Option Addr) (c : Nat) (hs : a.eval s = v) (hx : a.eval x = .slice ad ys.length c)
   (HO : OwnL e size enc W base v xs) (HS : Sl size enc W ad ys) (hbase : base ≤ W.heap.size) (hl : (xs.length + ys.length) * bytes ≤ 140737488355328)
   (h : ∀ v1 w1, OwnL e size enc w1 base v1 (xs ++ ys) → OnlyChg (fun k => v.ownBlock = some k) W w1 → (v1.ownBlock = v.ownBlock ∨ ∃ b, v1.ownBlock = some b ∧ W.heap.size ≤ b) → wpList Tryz.prog ops Q rest (a.put o.dst v1) w1) :
   wpList Tryz.prog ops Q (o :: rest) a W := by
 obtain ⟨i0, hi, hzz⟩ := Option.map_eq_some_iff.1 hinfo
 simp only [Prod.mk.injEq] at hzz
 obtain ⟨hz0, hz1, hz2⟩ := hzz
 have hlen : xs.length + ys.length ≤ 140737488355328 := Nat.le_trans (Nat.le_mul_of_pos_right _ hb0) hl
 by_cases hy : ys = []
 · subst hy
   have hsrc : Src Tryz.prog i0.size t (.slice ad 0 c) 0 [] W := by
     cases ad with
     | none => exact Src.ofNil W ht c
     | some ad => exact Src.ofSlice W ht ad 0 c [] (by simp) (fun j u hu => by simp at hu) (fun u hu => by cases hu)
   have hfin := h v W (by rw [List.append_nil]; exact HO) (OnlyChg.refl _ _) (.inl rfl)
   rcases HO.form with ⟨rfl, _⟩ | ⟨g, cap, rfl, _, _, hcap, _⟩
   · exact Go.Lib.wpList_append_run W hgd s x t t ho _ _ hs hx _ W (run_append_nothing W t t _ e i0 ht hi none 0 0 (Nat.le_refl _) _ hsrc) hfin
   · exact Go.Lib.wpList_append_run W hgd s x t t ho _ _ hs hx _ W (run_append_nothing W t t _ e i0 ht hi _ _ _ hcap _ hsrc) hfin
 · obtain ⟨ad', rfl⟩ : ∃ q, ad = some q := by
     obtain ⟨x0, l0, rfl⟩ : ∃ x l', ys = x :: l' := by cases ys with | nil => exact absurd rfl hy | cons x l => exact ⟨x, l, rfl⟩
     obtain ⟨b, off, hb, _⟩ := HS 0 x0 rfl
     exact ⟨_, hb⟩
   have hfl : (ys.flatMap enc).length = ys.length * size := by
     clear HS hx hl hlen h hy
     induction ys with
     | nil => simp
     | cons x l ih => rw [List.flatMap_cons, List.length_append, ih, hk, List.length_cons, Nat.add_mul]; omega
   refine wpList_append_own_at W hgd s x t ho base e i0 z size bytes ht hi hz0 hz1 hz2 hz hsz v xs.length (xs.flatMap enc) hs HO ad' ys.length c (ys.flatMap enc) hx hfl (HS.flat hk hy)
     (fun u hu => by obtain ⟨y, _, hy⟩ := List.mem_flatMap.1 hu; exact h1 y u hy) (by simp only [maxLen]; omega) hl hbase ?_
   intro v1 w1 hown hg _ hat
   refine h v1 w1 ?_ ?_ ?_
   · unfold OwnL; simpa [List.flatMap_append] using hown
   · exact ⟨hg.os, hg.tape, hg.output, hg.size, fun i hi hs => hg.block i hi (fun e => hs e.symm)⟩
   · rcases hat with hat | hat
     · exact .inl hat
     · exact .inr ⟨_, hat, Nat.le_refl _⟩
end
theorem Sl.ofBk {α : Type} {size t : Nat} {enc : α → List Value} {w : World} {b : Nat} {y : α} (h : Bk w b t (enc y).toArray) : Sl size enc w (some ⟨b, 0, none⟩) [y] := fun i x hx => by
 match i, hx with
 | 0, hx =>
   cases hx
   refine ⟨b, 0, rfl, h.lt, fun j u hu => ?_⟩
   rw [show 0 + 0 * size + j = j by omega, h.cell j]
   simpa using hu
theorem OwnL.apart {α : Type} {e size : Nat} {enc : α → List Value} {w : World} {base : Nat} {v : Value} {xs : List α} (h : OwnL e size enc w base v xs) {b t : Nat} {cs : Array Value} (hb : Bk w b t cs) (ht : t ≠ e) : v.ownBlock ≠ some b := by
 obtain ⟨h1, ⟨rfl, _⟩ | ⟨g, cap, cur, rfl, h3, h4, h5⟩⟩ := h
 · simp [Value.ownBlock]
 · intro hk
   simp only [Value.ownBlock, Option.some.injEq] at hk
   subst hk
   unfold Bk at hb
   rw [hb] at h4
   simp only [Option.some.injEq, Obj.cells.injEq] at h4
   exact ht h4.2.1
theorem Bk.apart {w : World} {b b' t t' : Nat} {cs cs' : Array Value} (h : Bk w b t cs) (h' : Bk w b' t' cs') (ht : t ≠ t') : b ≠ b' := by
 rintro rfl
 unfold Bk at h h'
 rw [h] at h'
 simp only [Option.some.injEq, Obj.cells.injEq] at h'
 exact ht h'.2.1
end
end Go.Proofs.YtokkghhmliplfaaGreat
namespace Go.Proofs
open Go.Shelf
def Tryz.growP_ren : Go.Shelf.Ren := ⟨fun | 4 => 100 | n => n, fun | 22 => 29 | 25 => 94 | 3 => 3 | 4 => 4 | 9 => 9 | 20 => 20 | 0 => 0 | n => n, fun | n => n⟩
theorem Tryz.growP : Go.Proofs.Lays8.n4 Tryz.prog Tryz.growP_ren := {
 mixed := by kernel_rfl
 f4 := ⟨Tryz.f100.name, by decide, Tryz.func100.trans (congrArg some (by kernel_rfl))⟩
 t0 := Tryz.underlying0
 a0 := Tryz.isAgg0
 z0 := Tryz.sizeOf0
 v0 := Tryz.zeroValue0
 t3 := Tryz.underlying3
 a3 := Tryz.isAgg3
 z3 := Tryz.sizeOf3
 v3 := Tryz.zeroValue3
 t4 := Tryz.underlying4
 a4 := Tryz.isAgg4
 z4 := Tryz.sizeOf4
 v4 := Tryz.zeroValue4
 t9 := Tryz.underlying9
 a9 := Tryz.isAgg9
 z9 := Tryz.sizeOf9
 v9 := Tryz.zeroValue9
 t20 := Tryz.underlying20
 a20 := Tryz.isAgg20
 z20 := Tryz.sizeOf20
 v20 := Tryz.zeroValue20
 t22 := Tryz.underlying29
 a22 := Tryz.isAgg29
 z22 := Tryz.sizeOf29
 v22 := Tryz.zeroValue29 }
end Go.Proofs
namespace Go.Proofs.YtokkghhmliplfaaGreat
section
open Go.RowKit Go.Sort
attribute [local go_sem] qAt qUpon okOp okUpon cell_in_grow frozen_in_grow encFixV_eq encBodyV_eq encJointV_eq encPkV_eq encPtV_eq
attribute [local go_sem ↓] loadAt44 storeAt44 loadAt58 storeAt58 loadAt70 storeAt70 loadAt94 storeAt94
attribute [local go_sem] run_bl44 run_bs44 run_bl58 run_bs58 run_bl70 run_bs70 run_bl94 run_bs94 there_new there_alloc have_in_grow cells_in_grow oc_int oc_bool oc_slice oc_all oc_cons oc_nil List.size_toArray List.length_cons List.length_nil
attribute [local go_sem high] eqR23 eqR94
theorem infoPk : (Tryz.prog.info? 94).map (fun i => (i.zero, i.size, i.bytes)) = some (some (.agg #[.int .i64 0, .int .i64 0, .int .i64 0, .int .i64 0]), 4, 32) := by kernel_rfl
theorem growPk_any (n : Nat) (w : World) (hn : n * 32 ≤ 140737488355328) :
   Calls Tryz.prog 100 #[.slice none 0 0, .int .i64 n] w fun e w' => ∃ v, e = .returned v ∧ Grw w w' ∧ OwnL 94 4 encPkV w' w.heap.size v [] := by
 rcases Nat.eq_zero_or_pos n with rfl | h0
 · have h := Any8.slices_Grow_room Tryz.growP none 0 0 0 w (by omega) (by omega) (by omega) (by omega)
   change Calls Tryz.prog 100 _ _ _ at h
   refine h.mono ?_
   rintro e w' ⟨rfl, rfl⟩
   exact ⟨_, rfl, Grw.refl _, OwnL.nil _ _ _ _ _⟩
 · obtain ⟨i0, hi, hzz⟩ := Option.map_eq_some_iff.1 infoPk
   simp only [Prod.mk.injEq] at hzz
   obtain ⟨hz0, hz1, hz2⟩ := hzz
   have h := Any8.slices_Grow_grow Tryz.growP i0 _ hi hz0 (by rw [hz1]; decide) none 0 0 n [] w (by omega) (by omega) (by rw [hz2]; omega) (by omega) (by simp) (fun _ => rfl) (fun a ha => by cases ha)
   change Calls Tryz.prog 100 _ _ _ at h
   refine h.mono ?_
   rintro e w' ⟨rfl, rfl⟩
   refine ⟨_, rfl, ((Grw.refl w).drew).alloc _, rfl, .inr ⟨w.heap.size, _, _, rfl, Nat.le_refl _, heap_alloc_new w.drew _, Nat.zero_le _, grownCap_le_maxLen _ _ _ _ (by simp only [maxLen]; omega), ?_, by simp⟩⟩
   · have hge := grownCap_ge w (0 + n) 0 94
     have hs : (Value.agg #[.int .i64 0, .int .i64 0, .int .i64 0, .int .i64 0]).cells.size = 4 := rfl
     show (_ ++ Builtin.zeroCells _ (0 + n - 0) ++ Builtin.zeroCells _ (grownCap w (0 + n) 0 94 - (0 + n))).size = grownCap w (0 + n) 0 94 * 4
     simp only [Array.size_append, size_zeroCells, hs]
     show 0 + (0 + n - 0) * 4 + (grownCap w (0 + n) 0 94 - (0 + n)) * 4 = _
     omega
theorem encPk_one (x : PkV) : ∀ u ∈ encPkV x, u.oneCell' = true := fun u hu => by simp [encPkV] at hu; rcases hu with rfl | rfl | rfl | rfl <;> rfl
theorem concatPk_any (b : Nat) (a1 a2 : Option Addr) (c1 c2 : Nat) (l1 l2 : List PkV) (w : World) (hb : Bk w b 29 #[.slice a1 l1.length c1, .slice a2 l2.length c2]) (h1 : Sl 4 encPkV w a1 l1) (h2 : Sl 4 encPkV w a2 l2)
   (hl : (l1.length + l2.length) * 32 ≤ 140737488355328) :
   Calls Tryz.prog 46 #[.slice (some ⟨b, 0, none⟩) 2 2] w fun e w' => ∃ v, e = .returned v ∧ Grw w w' ∧ OwnL 94 4 encPkV w' w.heap.size v (l1 ++ l2) := by
 have hb0 := hb.cell 0
 have hb1 := hb.cell 1
 simp only [gL] at hb0 hb1
 have hbl := hb.lt
 have HB := Lib.hid hb
 have H1 := Lib.hid h1
 have H2 := Lib.hid h2
 have H20 := Lib.hid h2
 clear hb h1 h2
 have hn1 : ¬ ((l1.length : Int) < 0) := by omega
 have hn2 : ¬ ((l1.length : Int) + (l2.length : Int) < 0) := by omega
 have hw1 : wrap64 ((l1.length : Int) + (l2.length : Int)) = (l1.length : Int) + (l2.length : Int) := by unfold wrap64; omega
 have hw0 : wrap64 (0 + (l1.length : Int)) = (l1.length : Int) := by unfold wrap64; omega
 have hw2 : wrap64 ((l1.length : Int)) = (l1.length : Int) := by unfold wrap64; omega
 go_enter Tryz.func46, Tryz.ntmps46
 go_wp2_with fail
 refine wp_loop_rounds 3 ?_
 rw [rounds_succ]
 go_wp2_with fail
 rw [rounds_succ]
 go_wp2_with fail
 rw [rounds_succ]
 go_wp2_with fail
 have hG := growPk_any (l1.length + l2.length) w (by omega)
 rw [Int.natCast_add] at hG
 refine hG.mono ?_
 clear hG
 rintro e w1 ⟨v, rfl, hg1, hO1⟩
 have hb0 := hg1.cell hb0
 have hb1 := hg1.cell hb1
 have hbl1 : b < w1.heap.size := Nat.lt_of_lt_of_le hbl hg1.size
 have H1 := Lib.hid (H1.out.grw hg1)
 have H2 := Lib.hid (H2.out.grw hg1)
 have HB := Lib.hid (HB.out.grw hg1)
 have hne := hO1.apart HB.out (by decide)
 have hsz1 := hg1.size
 have HG := Lib.hid hg1
 have HO := Lib.hid hO1
 have HN := Lib.hid hne
 clear hg1 hO1 hne
 go_wp2_with fail
 refine wp_loop_rounds 3 ?_
 rw [rounds_succ]
 go_wp2_with (at_builtin; refine wpList_appendAll (enc := encPkV) (z := .agg #[.int .i64 0, .int .i64 0, .int .i64 0, .int .i64 0]) (bytes := 32) (fun _ => rfl) encPk_one w.heap.size rfl _ _ rfl Tryz.underlying29 infoPk rfl (by decide) (by decide) v [] l1 a1 c1 rfl rfl HO.out H1.out hsz1 (by simp; omega) ?_; intro v1 w2 hO2 hC2 hat2)
 have hB2 : Bk w2 b 29 #[.slice a1 l1.length c1, .slice a2 l2.length c2] := (hC2.block b hbl1 HN.out).trans HB.out
 have hb1 : w2.cell? ⟨b, 1, none⟩ = some (.slice a2 l2.length c2) := hB2.cell 1
 have hG2 : Grw w w2 := OnlyChg.near (S := fun k => w.heap.size ≤ k) ((OnlyChg.of_grw HG.out).trans (hC2.mono fun k _ hk => (HO.out.base_le k hk).1)) fun k h => h
 have hsz2 := hG2.size
 have H2 := Lib.hid (H20.out.grw hG2)
 have HB2 := Lib.hid hB2
 have HG2 := Lib.hid hG2
 have HO2 := Lib.hid hO2
 clear hB2 hG2 hO2 hC2 hat2
 rw [rounds_succ]
 go_wp2_with (at_builtin; refine wpList_appendAll (enc := encPkV) (z := .agg #[.int .i64 0, .int .i64 0, .int .i64 0, .int .i64 0]) (bytes := 32) (fun _ => rfl) encPk_one w.heap.size rfl _ _ rfl Tryz.underlying29 infoPk rfl (by decide) (by decide) v1 ([] ++ l1) l2 a2 c2 rfl rfl HO2.out H2.out hsz2 (by simp; omega) ?_; intro v2 w3 hO3 hC3 hat3)
 have hG3 : Grw w w3 := OnlyChg.near (S := fun k => w.heap.size ≤ k) ((OnlyChg.of_grw HG2.out).trans (hC3.mono fun k _ hk => (HO2.out.base_le k hk).1)) fun k h => h
 have HG3 := Lib.hid hG3
 have HO3 := Lib.hid hO3
 clear hG3 hO3 hC3 hat3
 rw [rounds_succ]
 go_wp2_with fail
 go_ret
 exact ⟨v2, rfl, HG3.out, by simpa using HO3.out⟩
end
section
open Go.RowKit Go.Sort
attribute [local go_sem] qAt qUpon okOp okUpon cell_in_grow frozen_in_grow encFixV_eq encBodyV_eq encJointV_eq encPkV_eq encPtV_eq encCtV_eq encMfV_eq encWorldV_eq
attribute [local go_sem ↓] loadAt31 storeAt31 loadAt99 storeAt99 loadAt44 storeAt44 loadAt58 storeAt58 loadAt70 storeAt70 loadAt25 storeAt25 loadAt143 storeAt143
attribute [local go_sem] run_bl31 run_bs31 run_bl99 run_bs99 run_bl44 run_bs44 run_bl58 run_bs58 run_bl70 run_bs70 run_bl25 run_bs25 run_bl143 run_bs143 there_new there_alloc have_in_grow cells_in_grow oc_int oc_bool oc_slice oc_all oc_cons oc_nil List.size_toArray List.length_cons List.length_nil
attribute [local go_sem high] eqR23 eqR94
def ctKey (c : CtV) : PkV := ⟨c.a, c.fa, c.b, c.fb⟩
def ctOkB (c : CtV) : Bool := validManifoldB ⟨c.nx, c.ny, c.pa, c.pc, c.pl⟩
def validContactsB (W : WorldV) : Bool := W.cl.all ctOkB && (validKeysB (W.cl.map ctKey) && (validKeysB W.ol && !(List.any (W.cl.map ctKey ++ W.ol) fun k => vc1B k W)))
theorem take_all_succ {α : Type} (p : α → Bool) (l : List α) (k : Nat) (x : α) (h : l[k]? = some x) (h1 : (l.take k).all p = true) (h2 : p x = true) : (l.take (k + 1)).all p = true := by
 rw [List.take_add_one, h]
 simp [List.all_append, h1, h2]
theorem all_false_of {α : Type} (p : α → Bool) (l : List α) (k : Nat) (x : α) (h : l[k]? = some x) (h2 : p x = false) : l.all p = false := by
 rw [List.all_eq_false]
 exact ⟨x, List.mem_of_getElem? h, by simp [h2]⟩
theorem validContacts_any (W : WorldV) (w : World) (h_W : WorldOk w W) (h1 : W.cl.length ≤ 8192) (h2 : W.ol.length ≤ 8192) :
   Calls Tryz.prog 22 #[.agg (encWorldV W).toArray] w fun e w' => e = .returned (.bool (validContactsB W)) ∧ Grw w w' := by
 have H_W := Lib.hid h_W; clear h_W
 go_enter Tryz.func22, Tryz.ntmps22
 go_upto_region 2 with (fail)
 refine wp_gen (fun xw => Grw w xw ∧ Bk xw (w.heap.size) 31 (encWorldV W).toArray) ⟨((Grw.refl w)).alloc _, (Bk.new' (by simp))⟩ ?_
 rintro w1 ⟨hw1, hB1⟩
 have g1_7 : w1.cell? ⟨w.heap.size, 7, none⟩ = some (.slice (W.ca) (W.cl.length) (W.cc)) := hB1.cell 7
 have HB1 := Lib.hid hB1; clear hB1
 go_wp2_with fail
 go_loopg [9, 3] W.cl.length (fun gm v s3 xw => ∃ (k : Nat), v = .int .i64 k ∧ k ≤ W.cl.length ∧ W.cl.length - k ≤ gm ∧ Grw w xw ∧ Bk xw (w.heap.size) 31 (encWorldV W).toArray ∧ OwnL 94 4 encPkV xw w.heap.size s3 ((W.cl.take k).map ctKey) ∧ (W.cl.take k).all ctOkB = true)
 case atStart => exact ⟨0, rfl, Nat.zero_le _, Nat.le_refl _, hw1, HB1.out, OwnL.nil _ _ _ _ _, rfl⟩
 case round =>
 obtain ⟨k, rfl, hk, hgm, hw2, hB2, hO2, hA2⟩ := hrel
 obtain ⟨w2, rfl⟩ : ∃ x, x = wr := ⟨_, rfl⟩
 have HA2 := Lib.hid hA2; have HG2 := Lib.hid hgm; have HO2 := Lib.hid hO2; clear hA2 hgm hO2
 have hl2 := hB2.lt
 have HB2 := Lib.hid hB2; clear hB2 g1_7 HB1 hw1
 rcases Nat.lt_or_ge k W.cl.length with hlt | hge
 · obtain ⟨x, hx⟩ : ∃ x, W.cl[k]? = some x := ⟨W.cl[k], List.getElem?_eq_getElem hlt⟩
   obtain ⟨bx, ox, he, hbx, gEA, gEC⟩ := (H_W.out.c.grw hw2).big (fun _ => rfl) hx
   replace gEC : cellsAt w2 bx (ox + k * 7) 7 = (encCtV x).toArray := gEC
   have HRx := Lib.hid (H_W.out.cx _ (List.mem_of_getElem? hx))
   have HX := Lib.hid hx; clear hx
   have b0 := HB2.out
   have o0 := HO2.out
   go_upto_region 5 with (fail)
   refine wp_gen (fun xw => Grw w xw ∧ Bk xw (w.heap.size) 31 (encWorldV W).toArray ∧ Bk xw (w2.heap.size) 99 (encCtV x).toArray ∧ OwnL 94 4 encPkV xw w.heap.size u3 ((W.cl.take k).map ctKey)) ⟨((hw2).alloc _).setCells (by omega) _, (b0.alloc _).farCells (by omega) _, ((Bk.new' (by simp))).setAll' rfl rfl, o0.grw (((Grw.refl w2).alloc _).setCells (Nat.le_refl _) _)⟩ ?_
   rintro w3 ⟨hw3, hB3, hC3, hO3⟩
   have g3_0 : w3.cell? ⟨w2.heap.size, 0, none⟩ = some (.int .i64 x.a) := hC3.cell 0
   have g3_1 : w3.cell? ⟨w2.heap.size, 1, none⟩ = some (.int .i64 x.fa) := hC3.cell 1
   have g3_2 : w3.cell? ⟨w2.heap.size, 2, none⟩ = some (.int .i64 x.b) := hC3.cell 2
   have g3_3 : w3.cell? ⟨w2.heap.size, 3, none⟩ = some (.int .i64 x.fb) := hC3.cell 3
   have g3_4 : w3.cell? ⟨w2.heap.size, 4, none⟩ = some (.int .i64 x.nx) := hC3.cell 4
   have g3_5 : w3.cell? ⟨w2.heap.size, 5, none⟩ = some (.int .i64 x.ny) := hC3.cell 5
   have g3_6 : w3.cell? ⟨w2.heap.size, 6, none⟩ = some (.slice x.pa x.pl.length x.pc) := hC3.cell 6
   have HB3 := Lib.hid hB3; have HC3 := Lib.hid hC3; have HO3 := Lib.hid hO3
   clear hB3 hC3 hO3 b0 o0 HB2 HO2
   go_wp2_with fail
   (go_at_call 43; refine (validManifold_any ⟨x.nx, x.ny, x.pa, x.pc, x.pl⟩ _ ⟨(HRx.out.grw hw3).1, HRx.out.2⟩).mono ?_; rintro e w4 ⟨rfl, hg4⟩)
   have g4_0 := hg4.cell g3_0
   have g4_1 := hg4.cell g3_1
   have g4_2 := hg4.cell g3_2
   have g4_3 := hg4.cell g3_3
   have hw4 := hw3.trans hg4
   have HB4 := Lib.hid (HB3.out.grw hg4)
   have HO4 := Lib.hid (HO3.out.grw hg4)
   clear g3_0 g3_1 g3_2 g3_3 g3_4 g3_5 g3_6 HB3 HC3 HO3 hg4 hw3
   cases hv : validManifoldB ⟨x.nx, x.ny, x.pa, x.pc, x.pl⟩
   · have hF : validContactsB W = false := by unfold validContactsB; rw [all_false_of ctOkB _ _ _ HX.out hv]; rfl
     have HF := Lib.hid hF; clear hF
     go_wp2_with fail
     go_ret
     exact ⟨ret_bool HF.out.symm, hw4⟩
   · have HV := Lib.hid hv
     have hsz4 := hw4.size
     have hll : (((W.cl.take k).map ctKey).length + 1) * 32 ≤ 140737488355328 := by simp; omega
     have HM := Lib.hid (map_take_succ ctKey W.cl k x HX.out)
     go_wp2_with (at_builtin; refine wpList_push (enc := encPkV) (z := .agg #[.int .i64 0, .int .i64 0, .int .i64 0, .int .i64 0]) (bytes := 32) (fun _ => rfl) encPk_one w.heap.size rfl _ _ rfl Tryz.underlying29 infoPk rfl (by decide) (by decide) u3 ((W.cl.take k).map ctKey) (ctKey x) _ rfl rfl rfl HO4.out hsz4 hll ?_; intro v1 w8 hO8 hC8 _)
     have hbz : ∀ k, u3.ownBlock = some k → w.heap.size ≤ k := fun k hk => (HO4.out.base_le k hk).1
     have hw8 : Grw w w8 := OnlyChg.near (S := fun k => w.heap.size ≤ k) ((OnlyChg.of_grw hw4).trans (hC8.mono fun k _ hk => hbz k hk)) fun k h => h
     have hB8 : Bk w8 w.heap.size 31 (encWorldV W).toArray := (hC8.block _ HB4.out.lt (HO4.out.apart HB4.out (by decide))).trans HB4.out
     have HO8 := Lib.hid hO8
     have HB8 := Lib.hid hB8
     clear hO8 hB8 hC8
     go_wp2_with fail
     have hgm := HG2.out
     (try simp only [← he])
     go_roundg (W.cl.length - (k + 1))
     case measure => omega
     case rel => exact ⟨k + 1, by go_num, by omega, Nat.le_refl _, hw8, HB8.out, by rw [HM.out]; exact HO8.out, take_all_succ _ _ _ _ HX.out HA2.out HV.out⟩
 · obtain rfl : k = W.cl.length := by omega
   have hA := HA2.out
   have hO := HO2.out
   rw [List.take_length] at hA hO
   obtain ⟨a3, c3, rfl, hS3, _⟩ := OwnL.sl (enc := encPkV) (size := 4) (fun _ => rfl) hO
   have hl3 : (W.cl.map ctKey).length < 4611686018427387904 := by simp; omega
   have HA := Lib.hid hA; have HS3 := Lib.hid hS3
   obtain ⟨ks, hks⟩ : ∃ ks, ks = W.cl.map ctKey := ⟨_, rfl⟩
   rw [← hks] at HS3 hl3
   have hkl : ks.length ≤ 8192 := by rw [hks]; simpa using h1
   rw [← hks]
   have HK := Lib.hid hks
   clear hA hO hS3 HA2 HO2 hks
   go_wp2_with fail
   (go_at_call 44; refine (validKeys_any ks a3 c3 _ HS3.out hl3).mono ?_; rintro e w4 ⟨rfl, hg4⟩)
   have HB4 := Lib.hid (HB2.out.grw hg4)
   have HS4 := Lib.hid (HS3.out.grw hg4)
   have hw4 := hw2.trans hg4
   have g4_8 : w4.cell? ⟨w.heap.size, 8, none⟩ = some (.slice (W.oa) (W.ol.length) (W.oc)) := HB4.out.cell 8
   clear HB2 HS3 hg4 hw2 hl2
   cases hv : validKeysB ks
   · have hF : validContactsB W = false := by unfold validContactsB; rw [← HK.out, hv]; simp
     have HF := Lib.hid hF; clear hF
     go_wp2_with fail
     go_ret
     exact ⟨ret_bool HF.out.symm, hw4⟩
   · have HV := Lib.hid hv
     go_wp2_with fail
     (go_at_call 44; refine (validKeys_any W.ol _ _ _ (H_W.out.o.grw hw4) H_W.out.on).mono ?_; rintro e w5 ⟨rfl, hg5⟩)
     have HB5 := Lib.hid (HB4.out.grw hg5)
     have HS5 := Lib.hid (HS4.out.grw hg5)
     have hw5 := hw4.trans hg5
     have g5_8 : w5.cell? ⟨w.heap.size, 8, none⟩ = some (.slice (W.oa) (W.ol.length) (W.oc)) := HB5.out.cell 8
     clear HB4 HS4 hg5 hw4 g4_8
     cases hv2 : validKeysB W.ol
     · have hF : validContactsB W = false := by unfold validContactsB; rw [hv2]; simp
       have HF := Lib.hid hF; clear hF
       go_wp2_with fail
       go_ret
       exact ⟨ret_bool HF.out.symm, hw5⟩
     · have HV2 := Lib.hid hv2
       have hl5 := HB5.out.lt
       go_wp2_with fail
       have hN : Bk (w5.alloc (.cells #[.slice a3 ks.length c3, .slice W.oa W.ol.length W.oc] 29)) w5.heap.size 29 #[.slice a3 ks.length c3, .slice W.oa W.ol.length W.oc] := Bk.new _ _ _
       have hg6 := (Grw.refl w5).alloc (.cells #[.slice a3 ks.length c3, .slice W.oa W.ol.length W.oc] 29)
       (go_at_call 46; refine (concatPk_any w5.heap.size a3 W.oa c3 W.oc ks W.ol _ hN (HS5.out.grw hg6) (H_W.out.o.grw (hw5.trans hg6)) (by omega)).mono ?_; rintro e w7 ⟨v7, rfl, hg7, hO7⟩)
       obtain ⟨qs, hqs⟩ : ∃ qs, qs = ks ++ W.ol := ⟨_, rfl⟩
       rw [← hqs] at hO7
       have hlq : qs.length < 4611686018427387904 := by rw [hqs]; simp; omega
       obtain ⟨a7, c7, rfl, hS7, _⟩ := OwnL.sl (enc := encPkV) (size := 4) (fun _ => rfl) hO7
       have hw7 := (hw5.trans hg6).trans hg7
       have HB7 := Lib.hid (HB5.out.grw (hg6.trans hg7))
       have HS7 := Lib.hid hS7
       clear hO7 hS7 hN hg6 hg7 HB5 HS5 hw5 g5_8
       have hF : validContactsB W = !(List.any qs fun k => vc1B k W) := by unfold validContactsB; rw [hqs, HA.out, ← HK.out, HV.out, HV2.out]; rfl
       have HF := Lib.hid hF; clear hF hqs
       go_wp2_with fail
       (go_at_call 45; refine (containsPk_any qs a7 c7 _ 47 _ (fun k => vc1B k W) HS7.out hlq call_47 (fun x _ Wx hgx => vc1_any x W w.heap.size Wx (H_W.out.grw (hw7.trans hgx)) (HB7.out.grw hgx))).mono ?_; rintro e w8 ⟨rfl, hg8⟩)
       have hw8 := hw7.trans hg8
       go_wp2_with fail
       go_ret
       exact ⟨ret_bool HF.out.symm, hw8⟩
end
end Go.Proofs.YtokkghhmliplfaaGreat
