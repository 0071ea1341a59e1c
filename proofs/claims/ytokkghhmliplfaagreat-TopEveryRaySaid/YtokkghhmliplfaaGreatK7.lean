/- The row TopEveryRay of the program holds; part 8 of the proof. No condition. -/
import Derived.Test.YtokkghhmliplfaaGreatK6
set_option maxRecDepth 100000
set_option maxHeartbeats 12800000
set_option linter.all false
namespace Go.Proofs.YtokkghhmliplfaaGreat
section
open Go.RowKit Go.Sort
attribute [local go_sem] qAt qUpon okOp okUpon cell_in_grow frozen_in_grow
structure PkV where
 a : Int
 fa : Int
 b : Int
 fb : Int
def encPkV (x : PkV) : List Value := [.int .i64 (x.a), .int .i64 (x.fa), .int .i64 (x.b), .int .i64 (x.fb)]
theorem encPkV_eq (x : PkV) : (encPkV x).toArray = #[.int .i64 (x.a), .int .i64 (x.fa), .int .i64 (x.b), .int .i64 (x.fb)] := rfl
attribute [local go_sem] encPkV_eq
structure PtV where
 x : Int
 y : Int
 sep : Int
 id : Int
 ni : Int
 ti : Int
def PtV.d : PtV := ⟨0, 0, 0, 0, 0, 0⟩
def encPtV (x : PtV) : List Value := [.int .i64 (x.x), .int .i64 (x.y), .int .i64 (x.sep), .int .i64 (x.id), .int .i64 (x.ni), .int .i64 (x.ti)]
theorem encPtV_eq (x : PtV) : (encPtV x).toArray = #[.int .i64 (x.x), .int .i64 (x.y), .int .i64 (x.sep), .int .i64 (x.id), .int .i64 (x.ni), .int .i64 (x.ti)] := rfl
attribute [local go_sem] encPtV_eq
theorem loadAt94 (x : Value) : Instr.loadAt 94 x = bigLoad 94 x := rfl
theorem storeAt94 (x v : Value) : Instr.storeAt 94 x v = bigStore 94 x v := rfl
theorem run_bl94 (w : World) (b o : Nat) (h : HaveAll w b o 4) : (bigLoad 94 (.pointer (some ⟨b, o, none⟩))).run Tryz.prog w = .ok (.agg (cellsAt w b o 4)) w := run_bigLoad (d := .struct (Tryz.prog.fieldsOf 94)) (by kernel_rfl) rfl (by kernel_rfl) h
theorem run_bs94 (w : World) (b o : Nat) (cs : Array Value) (hs : cs.size = 4) (h1 : cs.all (·.oneCell') = true) (h : There w b o 4) : (bigStore 94 (.pointer (some ⟨b, o, none⟩)) (.agg cs)).run Tryz.prog w = .ok () (w.setCells b o cs.toList) := run_bigStore (by kernel_rfl) hs h1 h
theorem loadAt143 (x : Value) : Instr.loadAt 143 x = bigLoad 143 x := rfl
theorem storeAt143 (x v : Value) : Instr.storeAt 143 x v = bigStore 143 x v := rfl
theorem run_bl143 (w : World) (b o : Nat) (h : HaveAll w b o 6) : (bigLoad 143 (.pointer (some ⟨b, o, none⟩))).run Tryz.prog w = .ok (.agg (cellsAt w b o 6)) w := run_bigLoad (d := .struct (Tryz.prog.fieldsOf 143)) (by kernel_rfl) rfl (by kernel_rfl) h
theorem run_bs143 (w : World) (b o : Nat) (cs : Array Value) (hs : cs.size = 6) (h1 : cs.all (·.oneCell') = true) (h : There w b o 6) : (bigStore 143 (.pointer (some ⟨b, o, none⟩)) (.agg cs)).run Tryz.prog w = .ok () (w.setCells b o cs.toList) := run_bigStore (by kernel_rfl) hs h1 h
def eqB94 (a0 : Int) (a1 : Int) (a2 : Int) (a3 : Int) (b0 : Int) (b1 : Int) (b2 : Int) (b3 : Int) : Bool := (a0 == b0) && (a1 == b1) && (a2 == b2) && (a3 == b3)
theorem eqR94 (a0 : Int) (a1 : Int) (a2 : Int) (a3 : Int) (b0 : Int) (b1 : Int) (b2 : Int) (b3 : Int) (w : World) : (Op.equalIn 10000 94 (.agg #[.int .i64 (a0), .int .i64 (a1), .int .i64 (a2), .int .i64 (a3)]) (.agg #[.int .i64 (b0), .int .i64 (b1), .int .i64 (b2), .int .i64 (b3)])).run Tryz.prog w = .ok (eqB94 a0 a1 a2 a3 b0 b1 b2 b3) w := by
 unfold eqB94
 go_simp
 by_cases h0 : a0 = b0
 case neg => simp [h0]
 by_cases h1 : a1 = b1
 case neg => simp [h0, h1]
 by_cases h2 : a2 = b2
 case neg => simp [h0, h1, h2]
 by_cases h3 : a3 = b3
 case neg => simp [h0, h1, h2, h3]
 simp [h0, h1, h2, h3]
attribute [local go_sem high] eqR94
attribute [local go_sem ↓] loadAt94 storeAt94 loadAt143 storeAt143
attribute [local go_sem] run_bl94 run_bs94 run_bl143 run_bs143 there_new there_alloc have_in_grow cells_in_grow oc_int oc_bool oc_slice oc_all oc_cons oc_nil List.size_toArray List.length_cons List.length_nil
def nanB (x : Int) : Bool := false
theorem nan_any (x : Int) (w : World) :
   Calls Tryz.prog 135 #[.int .i64 (x)] w fun e w' => e = .returned (.bool (nanB x)) ∧ w = w' := by
 go_enter Tryz.func135, Tryz.ntmps135
 go_wp2_with fail
 have hF : nanB x = false := by unfold nanB; first | rfl | (simp only [cond_true, cond_false]; done) | (simp only [cond_true, cond_false]; rfl) | simp []
 refine bodyPost_ret (v := .bool (false)) (by simp [results, Tryz.results135, go_sem]) rfl ⟨by rw [hF], ?_⟩
 rfl
def compareI (x y : Int) : Int := let r1 : Bool := nanB x; let r2 : Bool := nanB y; bif r1 then (bif r2 then (0) else ((-1))) else (bif r2 then (1) else (bif decide (x < y) then ((-1)) else (bif decide (y < x) then (1) else (0))))
theorem compare_any (x y : Int) (w : World) :
   Calls Tryz.prog 64 #[.int .i64 (x), .int .i64 (y)] w fun e w' => e = .returned (.int .i64 (compareI x y)) ∧ w = w' := by
 go_enter Tryz.func64, Tryz.ntmps64
 go_wp2_with fail
 (go_at_call 135; refine (nan_any x _).mono ?_; rintro e w1 ⟨rfl, rfl⟩)
 obtain ⟨r1, hr1⟩ : ∃ r : Bool, r = nanB x := ⟨_, rfl⟩
 (try simp only [← hr1])
 have R1 := Lib.hid hr1; clear hr1
 go_wp2_with fail
 (go_at_call 135; refine (nan_any y _).mono ?_; rintro e w1 ⟨rfl, rfl⟩)
 obtain ⟨r2, hr2⟩ : ∃ r : Bool, r = nanB y := ⟨_, rfl⟩
 (try simp only [← hr2])
 have R2 := Lib.hid hr2; clear hr2
 cases hc3 : (r1)
 · cases hc4 : (r2)
   · cases hc5 : (decide (x < y))
     · cases hc6 : (decide (y < x))
       · go_wp2_with fail
         have hF : compareI x y = 0 := by unfold compareI; first | rfl | (simp only [← R2.out, ← R1.out, hc3, hc4, hc5, hc6, cond_true, cond_false]; done) | (simp only [← R2.out, ← R1.out, hc3, hc4, hc5, hc6, cond_true, cond_false]; rfl) | simp [← R2.out, ← R1.out, hc3, hc4, hc5, hc6]
         refine bodyPost_ret (v := .int .i64 (0)) (by simp [results, Tryz.results64, go_sem]) rfl ⟨by rw [hF], ?_⟩
         rfl
       · go_wp2_with fail
         have hF : compareI x y = 1 := by unfold compareI; first | rfl | (simp only [← R2.out, ← R1.out, hc3, hc4, hc5, hc6, cond_true, cond_false]; done) | (simp only [← R2.out, ← R1.out, hc3, hc4, hc5, hc6, cond_true, cond_false]; rfl) | simp [← R2.out, ← R1.out, hc3, hc4, hc5, hc6]
         refine bodyPost_ret (v := .int .i64 (1)) (by simp [results, Tryz.results64, go_sem]) rfl ⟨by rw [hF], ?_⟩
         rfl
     · go_wp2_with fail
       have hF : compareI x y = (-1) := by unfold compareI; first | rfl | (simp only [← R2.out, ← R1.out, hc3, hc4, hc5, cond_true, cond_false]; done) | (simp only [← R2.out, ← R1.out, hc3, hc4, hc5, cond_true, cond_false]; rfl) | simp [← R2.out, ← R1.out, hc3, hc4, hc5]
       refine bodyPost_ret (v := .int .i64 (-1)) (by simp [results, Tryz.results64, go_sem]) rfl ⟨by rw [hF], ?_⟩
       rfl
   · go_wp2_with fail
     have hF : compareI x y = 1 := by unfold compareI; first | rfl | (simp only [← R2.out, ← R1.out, hc3, hc4, cond_true, cond_false]; done) | (simp only [← R2.out, ← R1.out, hc3, hc4, cond_true, cond_false]; rfl) | simp [← R2.out, ← R1.out, hc3, hc4]
     refine bodyPost_ret (v := .int .i64 (1)) (by simp [results, Tryz.results64, go_sem]) rfl ⟨by rw [hF], ?_⟩
     rfl
 · cases hc7 : (r2)
   · go_wp2_with fail
     have hF : compareI x y = (-1) := by unfold compareI; first | rfl | (simp only [← R2.out, ← R1.out, hc3, hc7, cond_true, cond_false]; done) | (simp only [← R2.out, ← R1.out, hc3, hc7, cond_true, cond_false]; rfl) | simp [← R2.out, ← R1.out, hc3, hc7]
     refine bodyPost_ret (v := .int .i64 (-1)) (by simp [results, Tryz.results64, go_sem]) rfl ⟨by rw [hF], ?_⟩
     rfl
   · go_wp2_with fail
     have hF : compareI x y = 0 := by unfold compareI; first | rfl | (simp only [← R2.out, ← R1.out, hc3, hc7, cond_true, cond_false]; done) | (simp only [← R2.out, ← R1.out, hc3, hc7, cond_true, cond_false]; rfl) | simp [← R2.out, ← R1.out, hc3, hc7]
     refine bodyPost_ret (v := .int .i64 (0)) (by simp [results, Tryz.results64, go_sem]) rfl ⟨by rw [hF], ?_⟩
     rfl
def orI_step1 (x1 : Int) (s : Unit) : Sum (Int) (Unit) := bif x1 != 0 then (.inl x1) else (.inr ())
def orI (l : List Int) : Int := (match loopM (orI_step1 ) l () with | .inl r => r | .inr s => 0)
theorem or_any (l : List Int) (a_l : Option Addr) (c_l : Nat) (w : World) (hs_l : Sl 1 encInt w a_l l) (hl_l : l.length < 4611686018427387904) :
   Calls Tryz.prog 63 #[.slice (a_l) (l.length) (c_l)] w fun e w' => e = .returned (.int .i64 (orI l)) ∧ Grw w w' := by
 have HS_l := Lib.hid hs_l; have HL_l := Lib.hid hl_l; clear hs_l hl_l
 go_enter Tryz.func63, Tryz.ntmps63
 go_wp2_with fail
 go_loopg [8] l.length (fun gm v  xw => ∃ (k1 : Nat), v = .int .i64 k1 ∧ k1 ≤ l.length ∧ l.length - k1 ≤ gm ∧ Grw w xw ∧ loopM (orI_step1 ) l () = loopM (orI_step1 ) (l.drop k1) ())
 case atStart => exact ⟨0, rfl, Nat.zero_le _, Nat.le_refl _, (Grw.refl w), rfl⟩
 case round =>
 obtain ⟨k1, rfl, hk1, hgm1, hw1, hA1⟩ := hrel
 obtain ⟨w1, rfl⟩ : ∃ x, x = wr := ⟨_, rfl⟩
 obtain ⟨gm1, rfl⟩ : ∃ x, x = gk := ⟨_, rfl⟩
 have HA1 := Lib.hid hA1; have HG1 := Lib.hid hgm1; clear hA1 hgm1
 rcases Nat.lt_or_ge k1 l.length with hlt1 | hge1
 · obtain ⟨x1, hx1⟩ : ∃ x, l[k1]? = some x := ⟨l[k1], List.getElem?_eq_getElem hlt1⟩
   obtain ⟨bx1, ox1, he1, hbx1, gx1_0⟩ := (HS_l.out.grw hw1).int hx1
   have HX1 := Lib.hid hx1; clear hx1
   cases hc2 : (x1 != 0)
   · have hln1 := HL_l.out
     go_wp2_with fail
     have hS1 : orI_step1  x1 () = .inr () := by unfold orI_step1; first | rfl | (simp only [hc2, cond_true, cond_false]; done) | (simp only [hc2, cond_true, cond_false]; rfl) | simp [hc2]
     have HS1 := Lib.hid (HA1.out.trans ((loopM_at (f := orI_step1 ) HX1.out).trans (by rw [hS1])))
     (try simp only [← he1])
     have hgm1 := HG1.out
     go_roundg (l.length - (k1 + 1))
     case measure => omega
     case rel => exact ⟨k1 + 1, by go_num, by omega, Nat.le_refl _, hw1, HS1.out⟩
   · have hS1 : orI_step1  x1 () = .inl x1 := by unfold orI_step1; first | rfl | (simp only [hc2, cond_true, cond_false]; done) | (simp only [hc2, cond_true, cond_false]; rfl) | simp [hc2]
     have hL1 := HA1.out.trans ((loopM_at (f := orI_step1 ) HX1.out).trans (by rw [hS1]))
     have HL1 := Lib.hid hL1; clear hL1 hS1
     go_wp2_with fail
     have ql0 := HL1.out; (try simp only [hc2] at ql0); have HQ0 := Lib.hid ql0; clear ql0
     have hF : orI l = x1 := by unfold orI; first | rfl | (simp only [HQ0.out, HL1.out, hc2, cond_true, cond_false]; done) | (simp only [HQ0.out, HL1.out, hc2, cond_true, cond_false]; rfl) | simp [HQ0.out, HL1.out, hc2]
     refine bodyPost_ret (v := .int .i64 (x1)) (by simp [results, Tryz.results63, go_sem]) rfl ⟨by rw [hF], ?_⟩
     exact hw1
 · obtain rfl : k1 = l.length := by omega
   have HRl1 := Lib.hid (HA1.out.trans (loopM_end (orI_step1 ) l ())); clear HA1
   go_wp2_with fail
   have ql0 := HRl1.out; (try simp only [] at ql0); have HQ0 := Lib.hid ql0; clear ql0
   have hF : orI l = 0 := by unfold orI; first | rfl | (simp only [HQ0.out, HRl1.out, cond_true, cond_false]; done) | (simp only [HQ0.out, HRl1.out, cond_true, cond_false]; rfl) | simp [HQ0.out, HRl1.out]
   refine bodyPost_ret (v := .int .i64 (0)) (by simp [results, Tryz.results63, go_sem]) rfl ⟨by rw [hF], ?_⟩
   exact hw1
def pvalidB (k : PkV) : Bool := let r6 : Bool := (decide (k.a < k.b)) && ((decide (0 ≤ k.fa)) && ((decide (k.fa < 4)) && ((decide (0 ≤ k.fb)) && (decide (k.fb < 4))))); r6
theorem pvalid_any (k : PkV) (w : World) :
   Calls Tryz.prog 97 #[.agg (encPkV k).toArray] w fun e w' => e = .returned (.bool (pvalidB k)) ∧ Grw w w' := by
 go_enter Tryz.func97, Tryz.ntmps97
 go_upto_region 1 with (fail)
 refine wp_gen (fun xw => Grw w xw ∧ Bk xw (w.heap.size) 94 (encPkV k).toArray) ⟨((Grw.refl w)).alloc _, (Bk.new' (by simp))⟩ ?_
 rintro w1 ⟨hw1, hB1_0⟩
 have g1_0_0 : w1.cell? ⟨w.heap.size, 0, none⟩ = some (.int .i64 (k.a)) := hB1_0.cell 0
 have g1_0_1 : w1.cell? ⟨w.heap.size, 1, none⟩ = some (.int .i64 (k.fa)) := hB1_0.cell 1
 have g1_0_2 : w1.cell? ⟨w.heap.size, 2, none⟩ = some (.int .i64 (k.b)) := hB1_0.cell 2
 have g1_0_3 : w1.cell? ⟨w.heap.size, 3, none⟩ = some (.int .i64 (k.fb)) := hB1_0.cell 3
 have g1_0_l := hB1_0.lt
 have HB1 := Lib.hid (show _ from hB1_0); clear hB1_0
 obtain ⟨r6, hr6⟩ : ∃ r : Bool, r = ((decide (k.a < k.b)) && ((decide (0 ≤ k.fa)) && ((decide (k.fa < 4)) && ((decide (0 ≤ k.fb)) && (decide (k.fb < 4)))))) := ⟨_, rfl⟩
 have R6 := Lib.hid hr6; clear hr6
 go_cut [2] (fun s2 xw => s2 = .bool (r6) ∧ w1 = xw)
 case first =>
   cases hc2 : (decide (k.a < k.b))
   · go_wp2_with fail
     go_meet
     case rel =>
       have er6 : r6 = (false) := R6.out.trans (by simp [hc2])
       subst er6
       exact ⟨rfl, rfl⟩
   · cases hc3 : (decide (0 ≤ k.fa))
     · go_wp2_with fail
       go_meet
       case rel =>
         have er6 : r6 = (false) := R6.out.trans (by simp [hc2, hc3])
         subst er6
         exact ⟨rfl, rfl⟩
     · cases hc4 : (decide (k.fa < 4))
       · go_wp2_with fail
         go_meet
         case rel =>
           have er6 : r6 = (false) := R6.out.trans (by simp [hc2, hc3, hc4])
           subst er6
           exact ⟨rfl, rfl⟩
       · cases hc5 : (decide (0 ≤ k.fb))
         · go_wp2_with fail
           go_meet
           case rel =>
             have er6 : r6 = (false) := R6.out.trans (by simp [hc2, hc3, hc4, hc5])
             subst er6
             exact ⟨rfl, rfl⟩
         · go_wp2_with fail
           go_meet
           case rel =>
             have er6 : r6 = (decide (k.fb < 4)) := R6.out.trans (by simp [hc2, hc3, hc4, hc5])
             subst er6
             exact ⟨rfl, rfl⟩
 case rest =>
 obtain ⟨rfl, rfl⟩ := hcut
 go_wp2_with fail
 have hF : pvalidB k = r6 := by unfold pvalidB; first | rfl | (simp only [← R6.out, cond_true, cond_false]; done) | (simp only [← R6.out, cond_true, cond_false]; rfl) | simp [← R6.out]
 refine bodyPost_ret (v := .bool (r6)) (by simp [results, Tryz.results97, go_sem, g1_0_0, g1_0_1, g1_0_2, g1_0_3, g1_0_l]) rfl ⟨by rw [hF], ?_⟩
 exact hw1
def pcompareI (x y : PkV) : Int := let r3 : Int := compareI x.a y.a; let r4 : Int := compareI x.fa y.fa; let r5 : Int := compareI x.b y.b; let r6 : Int := compareI x.fb y.fb; (orI [r3, r4, r5, r6])
theorem pcompare_any (x y : PkV) (w : World) :
   Calls Tryz.prog 165 #[.agg (encPkV x).toArray, .agg (encPkV y).toArray] w fun e w' => e = .returned (.int .i64 (pcompareI x y)) ∧ Grw w w' := by
 go_enter Tryz.func165, Tryz.ntmps165
 go_upto_region 1 with (fail)
 refine wp_gen (fun xw => Grw w xw ∧ Bk xw (w.heap.size) 94 (encPkV x).toArray ∧ Bk xw (w.heap.size + 1) 94 (encPkV y).toArray) ⟨(((Grw.refl w)).alloc _).alloc _, (Bk.new' (by simp)).alloc _, (Bk.new' (by simp))⟩ ?_
 rintro w1 ⟨hw1, hB1_0, hB1_1⟩
 have g1_0_0 : w1.cell? ⟨w.heap.size, 0, none⟩ = some (.int .i64 (x.a)) := hB1_0.cell 0
 have g1_0_1 : w1.cell? ⟨w.heap.size, 1, none⟩ = some (.int .i64 (x.fa)) := hB1_0.cell 1
 have g1_0_2 : w1.cell? ⟨w.heap.size, 2, none⟩ = some (.int .i64 (x.b)) := hB1_0.cell 2
 have g1_0_3 : w1.cell? ⟨w.heap.size, 3, none⟩ = some (.int .i64 (x.fb)) := hB1_0.cell 3
 have g1_0_l := hB1_0.lt
 have g1_1_0 : w1.cell? ⟨w.heap.size + 1, 0, none⟩ = some (.int .i64 (y.a)) := hB1_1.cell 0
 have g1_1_1 : w1.cell? ⟨w.heap.size + 1, 1, none⟩ = some (.int .i64 (y.fa)) := hB1_1.cell 1
 have g1_1_2 : w1.cell? ⟨w.heap.size + 1, 2, none⟩ = some (.int .i64 (y.b)) := hB1_1.cell 2
 have g1_1_3 : w1.cell? ⟨w.heap.size + 1, 3, none⟩ = some (.int .i64 (y.fb)) := hB1_1.cell 3
 have g1_1_l := hB1_1.lt
 have HB1 := Lib.hid (show _ ∧ _ from ⟨hB1_0, hB1_1⟩); clear hB1_0 hB1_1
 refine wp_region_flowB 20 (by kernel_rfl) (by kernel_rfl) ?_
 simp only [tD]
 iterate 4 (refine wpQ_step (fun K hK => ?_); go_simp; refine hK _ ?_; clear hK K)
 refine wpQ_step (fun K hK => ?_); go_simp; apply Exists.intro; refine ⟨fun _ => ?_, hK _ ?_⟩; (go_at_call 64; exact (compare_any x.a y.a _).mono fun _ _ h => ⟨h.1, h.2 ▸ Grw.refl _⟩); clear hK K
 iterate 4 (refine wpQ_step (fun K hK => ?_); go_simp; refine hK _ ?_; clear hK K)
 refine wpQ_step (fun K hK => ?_); go_simp; apply Exists.intro; refine ⟨fun _ => ?_, hK _ ?_⟩; (go_at_call 64; exact (compare_any x.fa y.fa _).mono fun _ _ h => ⟨h.1, h.2 ▸ Grw.refl _⟩); clear hK K
 iterate 4 (refine wpQ_step (fun K hK => ?_); go_simp; refine hK _ ?_; clear hK K)
 refine wpQ_step (fun K hK => ?_); go_simp; apply Exists.intro; refine ⟨fun _ => ?_, hK _ ?_⟩; (go_at_call 64; exact (compare_any x.b y.b _).mono fun _ _ h => ⟨h.1, h.2 ▸ Grw.refl _⟩); clear hK K
 iterate 4 (refine wpQ_step (fun K hK => ?_); go_simp; refine hK _ ?_; clear hK K)
 refine wpQ_step (fun K hK => ?_); go_simp; apply Exists.intro; refine ⟨fun _ => ?_, hK _ ?_⟩; (go_at_call 64; exact (compare_any x.fb y.fb _).mono fun _ _ h => ⟨h.1, h.2 ▸ Grw.refl _⟩); clear hK K
 refine wpQ_nil ?_
 intro w2 hg2
 obtain ⟨r3, hr3⟩ : ∃ r : Int, r = compareI x.a y.a := ⟨_, rfl⟩
 (try simp only [← hr3])
 have R3 := Lib.hid hr3; clear hr3
 obtain ⟨r4, hr4⟩ : ∃ r : Int, r = compareI x.fa y.fa := ⟨_, rfl⟩
 (try simp only [← hr4])
 have R4 := Lib.hid hr4; clear hr4
 obtain ⟨r5, hr5⟩ : ∃ r : Int, r = compareI x.b y.b := ⟨_, rfl⟩
 (try simp only [← hr5])
 have R5 := Lib.hid hr5; clear hr5
 obtain ⟨r6, hr6⟩ : ∃ r : Int, r = compareI x.fb y.fb := ⟨_, rfl⟩
 (try simp only [← hr6])
 have R6 := Lib.hid hr6; clear hr6
 refine okList_step (fun w2_0 hw2_0 K hK => ?_)
 go_simp; refine hK _ _ (by (repeat with_reducible first | exact .refl _ | assumption | refine .setAt ?_ (by first | omega | simp <;> omega) _ | refine .setCells ?_ (by first | omega | simp <;> omega) _ | refine .alloc ?_ _ | refine .drewN ?_ _ | refine .drew ?_ | refine .trans ?_ (by assumption))) ?_; clear hK K
 have hN2_0 := Bk.new w2_0 3 #[.int .i64 (r3), .int .i64 (r4), .int .i64 (r5), .int .i64 (r6)]
 refine okList_step (fun w2_1 hw2_1 K hK => ?_)
 replace hN2_0 := hN2_0.grw hw2_1
 go_simp; refine (or_any [r3, r4, r5, r6] _ _ _ (Sl.ofInt (l := [r3, r4, r5, r6]) hN2_0) (by simp)).mono ?_; rintro e w2_1_c ⟨rfl, hg2_1_c⟩; refine ⟨_, rfl, hK _ _ (by (repeat with_reducible first | exact .refl _ | assumption | refine .setAt ?_ (by first | omega | simp <;> omega) _ | refine .setCells ?_ (by first | omega | simp <;> omega) _ | refine .alloc ?_ _ | refine .drewN ?_ _ | refine .drew ?_ | refine .trans ?_ (by assumption))) ?_⟩; clear hK K
 replace hN2_0 := hN2_0.grw hg2_1_c
 refine okList_step (fun w2_2 hw2_2 K hK => ?_)
 replace hN2_0 := hN2_0.grw hw2_2
 go_simp; refine hK _ _ (by (repeat with_reducible first | exact .refl _ | assumption | refine .setAt ?_ (by first | omega | simp <;> omega) _ | refine .setCells ?_ (by first | omega | simp <;> omega) _ | refine .alloc ?_ _ | refine .drewN ?_ _ | refine .drew ?_ | refine .trans ?_ (by assumption))) ?_; clear hK K
 refine okList_nil (fun w7 h7 => ?_); go_simp
 have hN2_0 : Bk w7 (w2_0.heap.size) 3 #[.int .i64 (r3), .int .i64 (r4), .int .i64 (r5), .int .i64 (r6)] := hN2_0.grw h7
 have hg7 : Grw w1 w7 := by (repeat with_reducible first | exact .refl _ | assumption | refine .setAt ?_ (by first | omega | simp <;> omega) _ | refine .setCells ?_ (by first | omega | simp <;> omega) _ | refine .alloc ?_ _ | refine .drewN ?_ _ | refine .drew ?_ | refine .trans ?_ (by assumption))
 have hsz2_0 : w.heap.size + 1 < w2_0.heap.size := by (have h1 : Grw w1 w2_0 := by (repeat with_reducible first | exact .refl _ | assumption | refine .setAt ?_ (by first | omega | simp <;> omega) _ | refine .setCells ?_ (by first | omega | simp <;> omega) _ | refine .alloc ?_ _ | refine .drewN ?_ _ | refine .drew ?_ | refine .trans ?_ (by assumption))); (have h2 := h1.size); (have h3 := g1_1_l); omega
 obtain ⟨b0, b1⟩ := HB1.out
 have hB7_0 : Bk w7 (w.heap.size) 94 (encPkV x).toArray := (b0).grw hg7
 have hB7_1 : Bk w7 (w.heap.size + 1) 94 (encPkV y).toArray := (b1).grw hg7
 have hB7_2 : Bk w7 (w2_0.heap.size) 3 #[.int .i64 (r3), .int .i64 (r4), .int .i64 (r5), .int .i64 (r6)] := hN2_0
 have hw7 : Grw w w7 := (hw1).trans hg7
 have hs7 : w.heap.size + 1 < w7.heap.size := by have h1 := hg7.size; have h2 := g1_1_l; (try simp at h1); omega
 have g7_0_l := hB7_0.lt
 have g7_1_l := hB7_1.lt
 have g7_2_l := hB7_2.lt
 have HB7 := Lib.hid (show _ ∧ _ ∧ _ from ⟨hB7_0, hB7_1, hB7_2⟩); clear hB7_0 hB7_1 hB7_2
 clear g1_0_0 g1_0_1 g1_0_2 g1_0_3 g1_0_l g1_1_0 g1_1_1 g1_1_2 g1_1_3 g1_1_l b0 b1 HB1 hw1 hg7
 clear hN2_0 hw2_2 hw2_1 hw2_0 h7 hg2 hg2_1_c
 go_wp2_with fail
 have hF : pcompareI x y = (orI [r3, r4, r5, r6]) := by unfold pcompareI; first | rfl | (simp only [← R6.out, ← R5.out, ← R4.out, ← R3.out, cond_true, cond_false]; done) | (simp only [← R6.out, ← R5.out, ← R4.out, ← R3.out, cond_true, cond_false]; rfl) | simp [← R6.out, ← R5.out, ← R4.out, ← R3.out]
 refine bodyPost_ret (v := .int .i64 (orI [r3, r4, r5, r6])) (by simp [results, Tryz.results165, go_sem, g7_0_l, g7_1_l, g7_2_l]) rfl ⟨by rw [hF], ?_⟩
 exact hw7
def plessB (x y : PkV) : Bool := let r3 : Int := pcompareI x y; (decide (r3 < 0))
theorem pless_any (x y : PkV) (w : World) :
   Calls Tryz.prog 98 #[.agg (encPkV x).toArray, .agg (encPkV y).toArray] w fun e w' => e = .returned (.bool (plessB x y)) ∧ Grw w w' := by
 go_enter Tryz.func98, Tryz.ntmps98
 go_upto_region 1 with (fail)
 refine wp_gen (fun xw => Grw w xw ∧ Bk xw (w.heap.size) 94 (encPkV x).toArray ∧ Bk xw (w.heap.size + 1) 94 (encPkV y).toArray) ⟨(((Grw.refl w)).alloc _).alloc _, (Bk.new' (by simp)).alloc _, (Bk.new' (by simp))⟩ ?_
 rintro w1 ⟨hw1, hB1_0, hB1_1⟩
 have gA1_0_0_4 : HaveAll w1 (w.heap.size) 0 4 := hB1_0.have 0 4 (Nat.le_of_ble_eq_true rfl)
 have gC1_0_0_4 : cellsAt w1 (w.heap.size) 0 4 = (encPkV x).toArray := hB1_0.cells' 0 4 _ rfl rfl
 have g1_0_l := hB1_0.lt
 have gA1_1_0_4 : HaveAll w1 (w.heap.size + 1) 0 4 := hB1_1.have 0 4 (Nat.le_of_ble_eq_true rfl)
 have gC1_1_0_4 : cellsAt w1 (w.heap.size + 1) 0 4 = (encPkV y).toArray := hB1_1.cells' 0 4 _ rfl rfl
 have g1_1_l := hB1_1.lt
 have HB1 := Lib.hid (show _ ∧ _ from ⟨hB1_0, hB1_1⟩); clear hB1_0 hB1_1
 go_wp2_with fail
 (go_at_call 165; refine (pcompare_any x y _).mono ?_; rintro e w2 ⟨rfl, hg2⟩)
 obtain ⟨r3, hr3⟩ : ∃ r : Int, r = pcompareI x y := ⟨_, rfl⟩
 (try simp only [← hr3])
 have R3 := Lib.hid hr3; clear hr3
 obtain ⟨b0, b1⟩ := HB1.out
 have hB2_0 : Bk w2 (w.heap.size) 94 (encPkV x).toArray := (b0).grw hg2
 have hB2_1 : Bk w2 (w.heap.size + 1) 94 (encPkV y).toArray := (b1).grw hg2
 have hw2 : Grw w w2 := (hw1).trans hg2
 have hs2 : w.heap.size + 1 < w2.heap.size := by have h1 := hg2.size; have h2 := g1_1_l; (try simp at h1); omega
 have g2_0_l := hB2_0.lt
 have g2_1_l := hB2_1.lt
 have HB2 := Lib.hid (show _ ∧ _ from ⟨hB2_0, hB2_1⟩); clear hB2_0 hB2_1
 clear gA1_0_0_4 gC1_0_0_4 g1_0_l gA1_1_0_4 gC1_1_0_4 g1_1_l b0 b1 HB1 hw1 hg2
 go_wp2_with fail
 have hF : plessB x y = (decide (r3 < 0)) := by unfold plessB; first | rfl | (simp only [← R3.out, cond_true, cond_false]; done) | (simp only [← R3.out, cond_true, cond_false]; rfl) | simp [← R3.out]
 refine bodyPost_ret (v := .bool (decide (r3 < 0))) (by simp [results, Tryz.results98, go_sem, g2_0_l, g2_1_l]) rfl ⟨by rw [hF], ?_⟩
 exact hw2
def validKeysB_step1 (x1 : PkV) (k1 : Nat) (s : Int × Int × Int × Int) : Sum (Bool) (Int × Int × Int × Int) := let c1_0 := s.1; let c1_1 := s.2.1; let c1_2 := s.2.2.1; let c1_3 := s.2.2.2; let r11 : Bool := (!(pvalidB x1)) || ((decide (0 < (k1 : Int))) && ((eqB94 x1.a x1.fa x1.b x1.fb c1_0 c1_1 c1_2 c1_3) || (!(plessB (PkV.mk c1_0 c1_1 c1_2 c1_3) x1)))); bif r11 then (.inl false) else (.inr (x1.a, x1.fa, x1.b, x1.fb))
def validKeysB (l : List PkV) : Bool := (match loopI (validKeysB_step1 ) l 0 (0, 0, 0, 0) with | .inl r => r | .inr s => let c1_0 := s.1; let c1_1 := s.2.1; let c1_2 := s.2.2.1; let c1_3 := s.2.2.2; true)
theorem validKeys_any (l : List PkV) (a_l : Option Addr) (c_l : Nat) (w : World) (hs_l : Sl 4 encPkV w a_l l) (hl_l : l.length < 4611686018427387904) :
   Calls Tryz.prog 44 #[.slice (a_l) (l.length) (c_l)] w fun e w' => e = .returned (.bool (validKeysB l)) ∧ Grw w w' := by
 have HS_l := Lib.hid hs_l; have HL_l := Lib.hid hl_l; clear hs_l hl_l
 go_enter Tryz.func44, Tryz.ntmps44
 go_wp2_with fail
 go_loopg [9] l.length (fun gm v  xw => ∃ (k1 : Nat) (c1_0 : Int) (c1_1 : Int) (c1_2 : Int) (c1_3 : Int), v = .int .i64 k1 ∧ k1 ≤ l.length ∧ l.length - k1 ≤ gm ∧ Grw w xw ∧ Bk xw (w.heap.size) 94 #[.int .i64 (c1_0), .int .i64 (c1_1), .int .i64 (c1_2), .int .i64 (c1_3)] ∧ loopI (validKeysB_step1 ) l 0 (0, 0, 0, 0) = loopI (validKeysB_step1 ) (l.drop k1) k1 (c1_0, c1_1, c1_2, c1_3))
 case atStart => exact ⟨0, 0, 0, 0, 0, rfl, Nat.zero_le _, Nat.le_refl _, (((Grw.refl w)).alloc _).setCells (by omega) _, ((Bk.new' (by simp))).setAll' rfl rfl, rfl⟩
 case round =>
 obtain ⟨k1, c1_0, c1_1, c1_2, c1_3, rfl, hk1, hgm1, hw1, hB1_0, hA1⟩ := hrel
 obtain ⟨w1, rfl⟩ : ∃ x, x = wr := ⟨_, rfl⟩
 obtain ⟨gm1, rfl⟩ : ∃ x, x = gk := ⟨_, rfl⟩
 have HA1 := Lib.hid hA1; have HG1 := Lib.hid hgm1; clear hA1 hgm1
 have g1_0_l := hB1_0.lt
 have HB1 := Lib.hid (show _ from hB1_0); clear hB1_0
 rcases Nat.lt_or_ge k1 l.length with hlt1 | hge1
 · obtain ⟨x1, hx1⟩ : ∃ x, l[k1]? = some x := ⟨l[k1], List.getElem?_eq_getElem hlt1⟩
   obtain ⟨bx1, ox1, he1, hbx1, gEA1, gEC1⟩ := (HS_l.out.grw hw1).big (fun _ => rfl) hx1
   replace gEC1 : cellsAt w1 bx1 (ox1 + k1 * 4) 4 = (encPkV x1).toArray := gEC1
   have HX1 := Lib.hid hx1; clear hx1
   have b0 := HB1.out
   go_upto_region 5 with (fail)
   refine wp_gen (fun xw => Grw w xw ∧ Bk xw (w.heap.size) 94 #[.int .i64 (c1_0), .int .i64 (c1_1), .int .i64 (c1_2), .int .i64 (c1_3)] ∧ Bk xw (w1.heap.size) 94 (encPkV x1).toArray) ⟨((hw1).alloc _).setCells (by omega) _, (b0.alloc _).farCells (by omega) _, ((Bk.new' (by simp))).setAll' rfl rfl⟩ ?_
   rintro w2 ⟨hw2, hB2_0, hB2_1⟩
   have g2_0_l := hB2_0.lt
   have gA2_1_0_4 : HaveAll w2 (w1.heap.size) 0 4 := hB2_1.have 0 4 (Nat.le_of_ble_eq_true rfl)
   have gC2_1_0_4 : cellsAt w2 (w1.heap.size) 0 4 = (encPkV x1).toArray := hB2_1.cells' 0 4 _ rfl rfl
   have g2_1_l := hB2_1.lt
   have HB2 := Lib.hid (show _ ∧ _ from ⟨hB2_0, hB2_1⟩); clear hB2_0 hB2_1
   clear g1_0_l b0 HB1 hw1
   obtain ⟨r11, hr11⟩ : ∃ r : Bool, r = ((!(pvalidB x1)) || ((decide (0 < (k1 : Int))) && ((eqB94 x1.a x1.fa x1.b x1.fb c1_0 c1_1 c1_2 c1_3) || (!(plessB (PkV.mk c1_0 c1_1 c1_2 c1_3) x1))))) := ⟨_, rfl⟩
   have R11 := Lib.hid hr11; clear hr11
   (try simp only [encPkV_eq, he1])
   go_cut [31] (fun s31 xw => s31 = .bool (r11) ∧ Grw w xw ∧ Bk xw (w.heap.size) 94 #[.int .i64 (c1_0), .int .i64 (c1_1), .int .i64 (c1_2), .int .i64 (c1_3)] ∧ Bk xw (w1.heap.size) 94 (encPkV x1).toArray)
   case first =>
     cases hc3 : (!(pvalidB x1))
     · cases hc4 : (decide (0 < (k1 : Int)))
       · have hd4 : ¬ 0 < k1 := by (have h1 := of_decide_eq_false hc4); omega
         go_wp2_with fail
         (go_at_call 97; refine (pvalid_any x1 _).mono ?_; rintro e w5 ⟨rfl, hg5⟩)
         obtain ⟨b0, b1⟩ := HB2.out
         have hB5_0 : Bk w5 (w.heap.size) 94 #[.int .i64 (c1_0), .int .i64 (c1_1), .int .i64 (c1_2), .int .i64 (c1_3)] := (b0).grw hg5
         have hB5_1 : Bk w5 (w1.heap.size) 94 (encPkV x1).toArray := (b1).grw hg5
         have hw5 : Grw w w5 := (hw2).trans hg5
         have hs5 : w1.heap.size < w5.heap.size := by have h1 := hg5.size; have h2 := g2_1_l; (try simp at h1); omega
         have g5_0_l := hB5_0.lt
         have g5_1_l := hB5_1.lt
         have HB5 := Lib.hid (show _ ∧ _ from ⟨hB5_0, hB5_1⟩); clear hB5_0 hB5_1
         clear g2_0_l gA2_1_0_4 gC2_1_0_4 g2_1_l b0 b1 HB2 hw2 hg5
         go_wp2_with fail
         go_meet
         case rel =>
           have er11 : r11 = (false) := R11.out.trans (by simp [hc3, hc4, hd4])
           subst er11
           obtain ⟨b0, b1⟩ := HB5.out
           exact ⟨rfl, hw5, b0, b1⟩
       · have hd4 : 0 < k1 := by (have h1 := of_decide_eq_true hc4); omega
         cases hc6 : (eqB94 x1.a x1.fa x1.b x1.fb c1_0 c1_1 c1_2 c1_3)
         · go_wp2_with fail
           (go_at_call 97; refine (pvalid_any x1 _).mono ?_; rintro e w7 ⟨rfl, hg7⟩)
           obtain ⟨b0, b1⟩ := HB2.out
           have hB7_0 : Bk w7 (w.heap.size) 94 #[.int .i64 (c1_0), .int .i64 (c1_1), .int .i64 (c1_2), .int .i64 (c1_3)] := (b0).grw hg7
           have hB7_1 : Bk w7 (w1.heap.size) 94 (encPkV x1).toArray := (b1).grw hg7
           have hw7 : Grw w w7 := (hw2).trans hg7
           have hs7 : w1.heap.size < w7.heap.size := by have h1 := hg7.size; have h2 := g2_1_l; (try simp at h1); omega
           have gA7_0_0_4 : HaveAll w7 (w.heap.size) 0 4 := hB7_0.have 0 4 (Nat.le_of_ble_eq_true rfl)
           have gC7_0_0_4 : cellsAt w7 (w.heap.size) 0 4 = #[.int .i64 (c1_0), .int .i64 (c1_1), .int .i64 (c1_2), .int .i64 (c1_3)] := hB7_0.cells' 0 4 _ rfl rfl
           have g7_0_l := hB7_0.lt
           have gA7_1_0_4 : HaveAll w7 (w1.heap.size) 0 4 := hB7_1.have 0 4 (Nat.le_of_ble_eq_true rfl)
           have gC7_1_0_4 : cellsAt w7 (w1.heap.size) 0 4 = (encPkV x1).toArray := hB7_1.cells' 0 4 _ rfl rfl
           have g7_1_l := hB7_1.lt
           have HB7 := Lib.hid (show _ ∧ _ from ⟨hB7_0, hB7_1⟩); clear hB7_0 hB7_1
           clear g2_0_l gA2_1_0_4 gC2_1_0_4 g2_1_l b0 b1 HB2 hw2 hg7
           go_wp2_with fail
           (go_at_call 98; refine (pless_any (PkV.mk c1_0 c1_1 c1_2 c1_3) x1 _).mono ?_; rintro e w8 ⟨rfl, hg8⟩)
           obtain ⟨b0, b1⟩ := HB7.out
           have hB8_0 : Bk w8 (w.heap.size) 94 #[.int .i64 (c1_0), .int .i64 (c1_1), .int .i64 (c1_2), .int .i64 (c1_3)] := (b0).grw hg8
           have hB8_1 : Bk w8 (w1.heap.size) 94 (encPkV x1).toArray := (b1).grw hg8
           have hw8 : Grw w w8 := (hw7).trans hg8
           have hs8 : w1.heap.size < w8.heap.size := by have h1 := hg8.size; have h2 := g7_1_l; (try simp at h1); omega
           have g8_0_l := hB8_0.lt
           have g8_1_l := hB8_1.lt
           have HB8 := Lib.hid (show _ ∧ _ from ⟨hB8_0, hB8_1⟩); clear hB8_0 hB8_1
           clear gA7_0_0_4 gC7_0_0_4 g7_0_l gA7_1_0_4 gC7_1_0_4 g7_1_l b0 b1 HB7 hw7 hg8
           go_wp2_with fail
           go_meet
           case rel =>
             have er11 : r11 = (!(plessB (PkV.mk c1_0 c1_1 c1_2 c1_3) x1)) := R11.out.trans (by simp [hc3, hc4, hd4, hc6])
             subst er11
             obtain ⟨b0, b1⟩ := HB8.out
             exact ⟨rfl, hw8, b0, b1⟩
         · go_wp2_with fail
           (go_at_call 97; refine (pvalid_any x1 _).mono ?_; rintro e w9 ⟨rfl, hg9⟩)
           obtain ⟨b0, b1⟩ := HB2.out
           have hB9_0 : Bk w9 (w.heap.size) 94 #[.int .i64 (c1_0), .int .i64 (c1_1), .int .i64 (c1_2), .int .i64 (c1_3)] := (b0).grw hg9
           have hB9_1 : Bk w9 (w1.heap.size) 94 (encPkV x1).toArray := (b1).grw hg9
           have hw9 : Grw w w9 := (hw2).trans hg9
           have hs9 : w1.heap.size < w9.heap.size := by have h1 := hg9.size; have h2 := g2_1_l; (try simp at h1); omega
           have gA9_0_0_4 : HaveAll w9 (w.heap.size) 0 4 := hB9_0.have 0 4 (Nat.le_of_ble_eq_true rfl)
           have gC9_0_0_4 : cellsAt w9 (w.heap.size) 0 4 = #[.int .i64 (c1_0), .int .i64 (c1_1), .int .i64 (c1_2), .int .i64 (c1_3)] := hB9_0.cells' 0 4 _ rfl rfl
           have g9_0_l := hB9_0.lt
           have gA9_1_0_4 : HaveAll w9 (w1.heap.size) 0 4 := hB9_1.have 0 4 (Nat.le_of_ble_eq_true rfl)
           have gC9_1_0_4 : cellsAt w9 (w1.heap.size) 0 4 = (encPkV x1).toArray := hB9_1.cells' 0 4 _ rfl rfl
           have g9_1_l := hB9_1.lt
           have HB9 := Lib.hid (show _ ∧ _ from ⟨hB9_0, hB9_1⟩); clear hB9_0 hB9_1
           clear g2_0_l gA2_1_0_4 gC2_1_0_4 g2_1_l b0 b1 HB2 hw2 hg9
           go_wp2_with fail
           go_meet
           case rel =>
             have er11 : r11 = (true) := R11.out.trans (by simp [hc3, hc4, hd4, hc6])
             subst er11
             obtain ⟨b0, b1⟩ := HB9.out
             exact ⟨rfl, hw9, b0, b1⟩
     · go_wp2_with fail
       (go_at_call 97; refine (pvalid_any x1 _).mono ?_; rintro e w10 ⟨rfl, hg10⟩)
       obtain ⟨b0, b1⟩ := HB2.out
       have hB10_0 : Bk w10 (w.heap.size) 94 #[.int .i64 (c1_0), .int .i64 (c1_1), .int .i64 (c1_2), .int .i64 (c1_3)] := (b0).grw hg10
       have hB10_1 : Bk w10 (w1.heap.size) 94 (encPkV x1).toArray := (b1).grw hg10
       have hw10 : Grw w w10 := (hw2).trans hg10
       have hs10 : w1.heap.size < w10.heap.size := by have h1 := hg10.size; have h2 := g2_1_l; (try simp at h1); omega
       have g10_0_l := hB10_0.lt
       have g10_1_l := hB10_1.lt
       have HB10 := Lib.hid (show _ ∧ _ from ⟨hB10_0, hB10_1⟩); clear hB10_0 hB10_1
       clear g2_0_l gA2_1_0_4 gC2_1_0_4 g2_1_l b0 b1 HB2 hw2 hg10
       go_wp2_with fail
       go_meet
       case rel =>
         have er11 : r11 = (true) := R11.out.trans (by simp [hc3])
         subst er11
         obtain ⟨b0, b1⟩ := HB10.out
         exact ⟨rfl, hw10, b0, b1⟩
   case rest =>
   obtain ⟨rfl, hw12, hB12_0, hB12_1⟩ := hcut
   obtain ⟨w12, rfl⟩ : ∃ x, x = wc := ⟨_, rfl⟩
   have gT12_0 : There w12 (w.heap.size) 0 4 := hB12_0.there 0 4 (Nat.le_of_ble_eq_true rfl)
   have g12_0_l := hB12_0.lt
   have gA12_1_0_4 : HaveAll w12 (w1.heap.size) 0 4 := hB12_1.have 0 4 (Nat.le_of_ble_eq_true rfl)
   have gC12_1_0_4 : cellsAt w12 (w1.heap.size) 0 4 = (encPkV x1).toArray := hB12_1.cells' 0 4 _ rfl rfl
   have g12_1_l := hB12_1.lt
   have HB12 := Lib.hid (show _ ∧ _ from ⟨hB12_0, hB12_1⟩); clear hB12_0 hB12_1
   clear g2_0_l gA2_1_0_4 gC2_1_0_4 g2_1_l HB2 hw2
   cases hc13 : (r11)
   · have hln1 := HL_l.out
     go_wp2_with fail
     obtain ⟨b0, b1⟩ := HB12.out
     have hS1 : validKeysB_step1  x1 k1 (c1_0, c1_1, c1_2, c1_3) = .inr (x1.a, x1.fa, x1.b, x1.fb) := by unfold validKeysB_step1; first | rfl | (simp only [← R11.out, hc13, cond_true, cond_false]; done) | (simp only [← R11.out, hc13, cond_true, cond_false]; rfl) | simp [← R11.out, hc13]
     have HS1 := Lib.hid (HA1.out.trans ((loopI_at (f := validKeysB_step1 ) HX1.out).trans (by rw [hS1])))
     (try simp only [← he1])
     have hgm1 := HG1.out
     go_roundg (l.length - (k1 + 1))
     case measure => omega
     case rel => exact ⟨k1 + 1, x1.a, x1.fa, x1.b, x1.fb, by go_num, by omega, Nat.le_refl _, (hw12).setCells (by omega) _, (b0).setAll' rfl rfl, HS1.out⟩
   · have hS1 : validKeysB_step1  x1 k1 (c1_0, c1_1, c1_2, c1_3) = .inl false := by unfold validKeysB_step1; first | rfl | (simp only [← R11.out, hc13, cond_true, cond_false]; done) | (simp only [← R11.out, hc13, cond_true, cond_false]; rfl) | simp [← R11.out, hc13]
     have hL1 := HA1.out.trans ((loopI_at (f := validKeysB_step1 ) HX1.out).trans (by rw [hS1]))
     have HL1 := Lib.hid hL1; clear hL1 hS1
     go_wp2_with fail
     have ql0 := HL1.out; (try simp only [hc13] at ql0); have HQ0 := Lib.hid ql0; clear ql0
     have hF : validKeysB l = false := by unfold validKeysB; first | rfl | (simp only [HQ0.out, HL1.out, ← R11.out, hc13, cond_true, cond_false]; done) | (simp only [HQ0.out, HL1.out, ← R11.out, hc13, cond_true, cond_false]; rfl) | simp [HQ0.out, HL1.out, ← R11.out, hc13]
     refine bodyPost_ret (v := .bool (false)) (by simp [results, Tryz.results44, go_sem, gT12_0, g12_0_l, gA12_1_0_4, gC12_1_0_4, g12_1_l]) rfl ⟨by rw [hF], ?_⟩
     exact hw12
 · obtain rfl : k1 = l.length := by omega
   have HRl1 := Lib.hid (HA1.out.trans (loopI_end (validKeysB_step1 ) l (c1_0, c1_1, c1_2, c1_3))); clear HA1
   go_wp2_with fail
   have ql0 := HRl1.out; (try simp only [] at ql0); have HQ0 := Lib.hid ql0; clear ql0
   have hF : validKeysB l = true := by unfold validKeysB; first | rfl | (simp only [HQ0.out, HRl1.out, cond_true, cond_false]; done) | (simp only [HQ0.out, HRl1.out, cond_true, cond_false]; rfl) | simp [HQ0.out, HRl1.out]
   refine bodyPost_ret (v := .bool (true)) (by simp [results, Tryz.results44, go_sem, g1_0_l]) rfl ⟨by rw [hF], ?_⟩
   exact hw1
end
section
open Go.RowKit Go.Sort
attribute [local go_sem] qAt qUpon okOp okUpon cell_in_grow frozen_in_grow
structure CtV where
 a : Int
 fa : Int
 b : Int
 fb : Int
 nx : Int
 ny : Int
 pa : Option Addr
 pc : Nat
 pl : List PtV
def encCtV (x : CtV) : List Value := [.int .i64 (x.a), .int .i64 (x.fa), .int .i64 (x.b), .int .i64 (x.fb), .int .i64 (x.nx), .int .i64 (x.ny), .slice (x.pa) (x.pl.length) (x.pc)]
theorem encCtV_eq (x : CtV) : (encCtV x).toArray = #[.int .i64 (x.a), .int .i64 (x.fa), .int .i64 (x.b), .int .i64 (x.fb), .int .i64 (x.nx), .int .i64 (x.ny), .slice (x.pa) (x.pl.length) (x.pc)] := rfl
attribute [local go_sem] encCtV_eq
structure MfV where
 nx : Int
 ny : Int
 pa : Option Addr
 pc : Nat
 pl : List PtV
def encMfV (x : MfV) : List Value := [.int .i64 (x.nx), .int .i64 (x.ny), .slice (x.pa) (x.pl.length) (x.pc)]
theorem encMfV_eq (x : MfV) : (encMfV x).toArray = #[.int .i64 (x.nx), .int .i64 (x.ny), .slice (x.pa) (x.pl.length) (x.pc)] := rfl
attribute [local go_sem] encMfV_eq
structure WorldV where
 ts : Int
 gx : Int
 gy : Int
 it : Int
 ss : Int
 ba : Option Addr
 bc : Nat
 bl : List BodyV
 ja : Option Addr
 jc : Nat
 jl : List JointV
 ca : Option Addr
 cc : Nat
 cl : List CtV
 oa : Option Addr
 oc : Nat
 ol : List PkV
 nid : Int
 frame : Int
def WorldV.d : WorldV := ⟨0, 0, 0, 0, 0, none, 0, [], none, 0, [], none, 0, [], none, 0, [], 0, 0⟩
def encWorldV (x : WorldV) : List Value := [.int .i64 (x.ts), .int .i64 (x.gx), .int .i64 (x.gy), .int .i64 (x.it), .int .i64 (x.ss), .slice (x.ba) (x.bl.length) (x.bc), .slice (x.ja) (x.jl.length) (x.jc), .slice (x.ca) (x.cl.length) (x.cc), .slice (x.oa) (x.ol.length) (x.oc), .int .i64 (x.nid), .int .i64 (x.frame)]
theorem encWorldV_eq (x : WorldV) : (encWorldV x).toArray = #[.int .i64 (x.ts), .int .i64 (x.gx), .int .i64 (x.gy), .int .i64 (x.it), .int .i64 (x.ss), .slice (x.ba) (x.bl.length) (x.bc), .slice (x.ja) (x.jl.length) (x.jc), .slice (x.ca) (x.cl.length) (x.cc), .slice (x.oa) (x.ol.length) (x.oc), .int .i64 (x.nid), .int .i64 (x.frame)] := rfl
attribute [local go_sem] encWorldV_eq
def CtOk (w : World) (c : CtV) : Prop := Sl 6 encPtV w c.pa c.pl ∧ c.pl.length < 4611686018427387904
def MfOk (w : World) (c : MfV) : Prop := Sl 6 encPtV w c.pa c.pl ∧ c.pl.length < 4611686018427387904
theorem CtOk.grw {w w' : World} {f : CtV} (h : CtOk w f) (hg : Grw w w') : CtOk w' f := ⟨h.1.grw hg, h.2⟩
structure WorldOk (w : World) (W : WorldV) : Prop where
 b : Sl 20 encBodyV w W.ba W.bl
 bx : ∀ x ∈ W.bl, BodyOk w x
 bn : W.bl.length < 4611686018427387904
 j : Sl 24 encJointV w W.ja W.jl
 jn : W.jl.length < 4611686018427387904
 c : Sl 7 encCtV w W.ca W.cl
 cx : ∀ x ∈ W.cl, CtOk w x
 cn : W.cl.length < 4611686018427387904
 o : Sl 4 encPkV w W.oa W.ol
 on : W.ol.length < 4611686018427387904
theorem WorldOk.grw {w w' : World} {W : WorldV} (h : WorldOk w W) (hg : Grw w w') : WorldOk w' W := ⟨h.b.grw hg, fun x hx => (h.bx x hx).grw hg, h.bn, h.j.grw hg, h.jn, h.c.grw hg, fun x hx => (h.cx x hx).grw hg, h.cn, h.o.grw hg, h.on⟩
theorem loadAt31 (x : Value) : Instr.loadAt 31 x = bigLoad 31 x := rfl
theorem storeAt31 (x v : Value) : Instr.storeAt 31 x v = bigStore 31 x v := rfl
theorem run_bl31 (w : World) (b o : Nat) (h : HaveAll w b o 11) : (bigLoad 31 (.pointer (some ⟨b, o, none⟩))).run Tryz.prog w = .ok (.agg (cellsAt w b o 11)) w := run_bigLoad (d := .struct (Tryz.prog.fieldsOf 31)) (by kernel_rfl) rfl (by kernel_rfl) h
theorem run_bs31 (w : World) (b o : Nat) (cs : Array Value) (hs : cs.size = 11) (h1 : cs.all (·.oneCell') = true) (h : There w b o 11) : (bigStore 31 (.pointer (some ⟨b, o, none⟩)) (.agg cs)).run Tryz.prog w = .ok () (w.setCells b o cs.toList) := run_bigStore (by kernel_rfl) hs h1 h
theorem loadAt99 (x : Value) : Instr.loadAt 99 x = bigLoad 99 x := rfl
theorem storeAt99 (x v : Value) : Instr.storeAt 99 x v = bigStore 99 x v := rfl
theorem run_bl99 (w : World) (b o : Nat) (h : HaveAll w b o 7) : (bigLoad 99 (.pointer (some ⟨b, o, none⟩))).run Tryz.prog w = .ok (.agg (cellsAt w b o 7)) w := run_bigLoad (d := .struct (Tryz.prog.fieldsOf 99)) (by kernel_rfl) rfl (by kernel_rfl) h
theorem run_bs99 (w : World) (b o : Nat) (cs : Array Value) (hs : cs.size = 7) (h1 : cs.all (·.oneCell') = true) (h : There w b o 7) : (bigStore 99 (.pointer (some ⟨b, o, none⟩)) (.agg cs)).run Tryz.prog w = .ok () (w.setCells b o cs.toList) := run_bigStore (by kernel_rfl) hs h1 h
attribute [local go_sem] encFixV_eq encBodyV_eq encJointV_eq encPkV_eq encPtV_eq
attribute [local go_sem ↓] loadAt31 storeAt31 loadAt99 storeAt99 loadAt44 storeAt44 loadAt58 storeAt58 loadAt70 storeAt70 loadAt25 storeAt25 loadAt94 storeAt94 loadAt143 storeAt143
attribute [local go_sem] run_bl31 run_bs31 run_bl99 run_bs99 run_bl44 run_bs44 run_bl58 run_bs58 run_bl70 run_bs70 run_bl25 run_bs25 run_bl94 run_bs94 run_bl143 run_bs143 there_new there_alloc have_in_grow cells_in_grow oc_int oc_bool oc_slice oc_all oc_cons oc_nil List.size_toArray List.length_cons List.length_nil
attribute [local go_sem high] eqR23 eqR94
theorem call_93 (args : Array Value) (W : World) : (callFunc 93 args).run Tryz.prog W = .ok (.enter 93 args) W := by simp [go_sem, callFunc, Tryz.func93]; rfl
theorem call_163 (args : Array Value) (W : World) : (callFunc 163 args).run Tryz.prog W = .ok (.enter 163 args) W := by simp [go_sem, callFunc, Tryz.func163]; rfl
theorem call_96 (args : Array Value) (W : World) : (callFunc 96 args).run Tryz.prog W = .ok (.enter 96 args) W := by simp [go_sem, callFunc, Tryz.func96]; rfl
theorem call_47 (args : Array Value) (W : World) : (callFunc 47 args).run Tryz.prog W = .ok (.enter 47 args) W := by simp [go_sem, callFunc, Tryz.func47]; rfl
theorem indexInt_any (l : List Int) (a : Option Addr) (cap : Nat) (w : World) (f : FuncId) (p : Int → Bool) (hs : Sl 1 encInt w a l) (hl : l.length < 4611686018427387904)
   (hcf : ∀ (args : Array Value) (W : World), (callFunc f args).run Tryz.prog W = .ok (.enter f args) W)
   (hp : ∀ (x : Int), x ∈ l → ∀ (W : World), Grw w W → Calls Tryz.prog f #[.int .i64 x] W fun e w' => e = .returned (.bool (p x)) ∧ Grw W w') :
   Calls Tryz.prog 189 #[.slice a l.length cap, .func (.func f) #[] #[]] w fun e w' => e = .returned (.int .i64 (firstIx p l)) ∧ Grw w w' := by
 have HS := Lib.hid hs
 have HP := Lib.hid hp
 have HCF := Lib.hid hcf
 clear hs hp hcf
 go_enter Tryz.func189, Tryz.ntmps189
 go_wp2_with fail
 go_loopg [8, 5] l.length (fun g v v5 wr => ∃ k : Nat, v = .int .i64 k ∧ k ≤ l.length ∧ l.length - k ≤ g ∧ Grw w wr ∧ ∀ j y, j < k → l[j]? = some y → p y = false)
 case atStart => exact ⟨0, rfl, Nat.zero_le _, Nat.le_refl _, Grw.refl _, fun j y hj => absurd hj (Nat.not_lt_zero _)⟩
 case round =>
   obtain ⟨k, rfl, hk, hg, hgr, hN⟩ := hrel
   have HN := Lib.hid hN
   clear hN
   rcases Nat.lt_or_ge k l.length with hlt | hge
   · obtain ⟨x, hx⟩ : ∃ x, l[k]? = some x := ⟨l[k], List.getElem?_eq_getElem hlt⟩
     obtain ⟨b, off, he, hb2, gE⟩ := (HS.out.grw hgr).int hx
     subst he
     have HX := Lib.hid hx
     clear hx
     have hc1 := HCF.out #[.int .i64 x] wr
     cases hr : p x
     · have HR := Lib.hid hr
       go_wp2_with fail
       refine (HP.out x (List.mem_of_getElem? HX.out) _ hgr).mono ?_
       rintro e w2 ⟨rfl, hg2⟩
       rw [HR.out]
       go_wp2_with fail
       go_roundg (l.length - (k + 1))
       case measure => omega
       case rel =>
         refine ⟨k + 1, by go_num, by omega, Nat.le_refl _, hgr.trans hg2, fun j y hj hy => ?_⟩
         rcases Nat.lt_or_ge j k with hjk | hjk
         · exact HN.out j y hjk hy
         · obtain rfl : j = k := by omega
           rw [HX.out] at hy; cases hy; exact HR.out
     · have HR := Lib.hid hr
       have HF := Lib.hid (firstIx_at p l k x HX.out hr HN.out)
       go_wp2_with fail
       refine (HP.out x (List.mem_of_getElem? HX.out) _ hgr).mono ?_
       rintro e w2 ⟨rfl, hg2⟩
       rw [HR.out]
       go_wp2_with fail
       go_ret
       exact ⟨ret_int HF.out.symm, hgr.trans hg2⟩
   · obtain rfl : k = l.length := by omega
     have HF := Lib.hid (firstIx_none p l fun j y hy => HN.out j y (List.getElem?_eq_some_iff.1 hy).1 hy)
     go_wp2_with fail
     go_ret
     exact ⟨ret_int HF.out.symm, hgr⟩
theorem containsInt_any (l : List Int) (a : Option Addr) (cap : Nat) (w : World) (f : FuncId) (p : Int → Bool) (hs : Sl 1 encInt w a l) (hl : l.length < 4611686018427387904)
   (hcf : ∀ (args : Array Value) (W : World), (callFunc f args).run Tryz.prog W = .ok (.enter f args) W)
   (hp : ∀ (x : Int), x ∈ l → ∀ (W : World), Grw w W → Calls Tryz.prog f #[.int .i64 x] W fun e w' => e = .returned (.bool (p x)) ∧ Grw W w') :
   Calls Tryz.prog 162 #[.slice a l.length cap, .func (.func f) #[] #[]] w fun e w' => e = .returned (.bool (l.any p)) ∧ Grw w w' := by
 have HC := Lib.hid (indexInt_any l a cap w f p hs hl hcf hp)
 have HN := Lib.hid (firstIx_nonneg p l)
 clear hs hp hcf
 go_enter Tryz.func162, Tryz.ntmps162
 go_wp2_with fail
 refine HC.out.mono ?_
 rintro e w1 ⟨rfl, hg1⟩
 go_wp2_with fail
 go_ret
 exact ⟨ret_bool HN.out, hg1⟩
theorem indexPt_any (l : List PtV) (a : Option Addr) (cap : Nat) (w : World) (f : FuncId) (p : PtV → Bool) (hs : Sl 6 encPtV w a l) (hl : l.length < 4611686018427387904)
   (hcf : ∀ (args : Array Value) (W : World), (callFunc f args).run Tryz.prog W = .ok (.enter f args) W)
   (hp : ∀ (x : PtV), x ∈ l → ∀ (W : World), Grw w W → Calls Tryz.prog f #[.agg (encPtV x).toArray] W fun e w' => e = .returned (.bool (p x)) ∧ Grw W w') :
   Calls Tryz.prog 164 #[.slice a l.length cap, .func (.func f) #[] #[]] w fun e w' => e = .returned (.int .i64 (firstIx p l)) ∧ Grw w w' := by
 have HS := Lib.hid hs
 have HP := Lib.hid hp
 have HCF := Lib.hid hcf
 clear hs hp hcf
 go_enter Tryz.func164, Tryz.ntmps164
 go_wp2_with fail
 go_loopg [8, 5] l.length (fun g v v5 wr => ∃ k : Nat, v = .int .i64 k ∧ k ≤ l.length ∧ l.length - k ≤ g ∧ Grw w wr ∧ ∀ j y, j < k → l[j]? = some y → p y = false)
 case atStart => exact ⟨0, rfl, Nat.zero_le _, Nat.le_refl _, Grw.refl _, fun j y hj => absurd hj (Nat.not_lt_zero _)⟩
 case round =>
   obtain ⟨k, rfl, hk, hg, hgr, hN⟩ := hrel
   have HN := Lib.hid hN
   clear hN
   rcases Nat.lt_or_ge k l.length with hlt | hge
   · obtain ⟨x, hx⟩ : ∃ x, l[k]? = some x := ⟨l[k], List.getElem?_eq_getElem hlt⟩
     obtain ⟨b, off, he, hb2, gEA, gEC⟩ := (HS.out.grw hgr).big (fun _ => rfl) hx
     subst he
     have HX := Lib.hid hx
     clear hx
     have hc1 := HCF.out #[.agg (encPtV x).toArray] wr
     simp only [encPtV_eq] at hc1
     cases hr : p x
     · have HR := Lib.hid hr
       go_wp2_with fail
       refine (HP.out x (List.mem_of_getElem? HX.out) _ hgr).mono ?_
       rintro e w2 ⟨rfl, hg2⟩
       rw [HR.out]
       go_wp2_with fail
       go_roundg (l.length - (k + 1))
       case measure => omega
       case rel =>
         refine ⟨k + 1, by go_num, by omega, Nat.le_refl _, hgr.trans hg2, fun j y hj hy => ?_⟩
         rcases Nat.lt_or_ge j k with hjk | hjk
         · exact HN.out j y hjk hy
         · obtain rfl : j = k := by omega
           rw [HX.out] at hy; cases hy; exact HR.out
     · have HR := Lib.hid hr
       have HF := Lib.hid (firstIx_at p l k x HX.out hr HN.out)
       go_wp2_with fail
       refine (HP.out x (List.mem_of_getElem? HX.out) _ hgr).mono ?_
       rintro e w2 ⟨rfl, hg2⟩
       rw [HR.out]
       go_wp2_with fail
       go_ret
       exact ⟨ret_int HF.out.symm, hgr.trans hg2⟩
   · obtain rfl : k = l.length := by omega
     have HF := Lib.hid (firstIx_none p l fun j y hy => HN.out j y (List.getElem?_eq_some_iff.1 hy).1 hy)
     go_wp2_with fail
     go_ret
     exact ⟨ret_int HF.out.symm, hgr⟩
theorem containsPt_any (l : List PtV) (a : Option Addr) (cap : Nat) (w : World) (f : FuncId) (p : PtV → Bool) (hs : Sl 6 encPtV w a l) (hl : l.length < 4611686018427387904)
   (hcf : ∀ (args : Array Value) (W : World), (callFunc f args).run Tryz.prog W = .ok (.enter f args) W)
   (hp : ∀ (x : PtV), x ∈ l → ∀ (W : World), Grw w W → Calls Tryz.prog f #[.agg (encPtV x).toArray] W fun e w' => e = .returned (.bool (p x)) ∧ Grw W w') :
   Calls Tryz.prog 95 #[.slice a l.length cap, .func (.func f) #[] #[]] w fun e w' => e = .returned (.bool (l.any p)) ∧ Grw w w' := by
 have HC := Lib.hid (indexPt_any l a cap w f p hs hl hcf hp)
 have HN := Lib.hid (firstIx_nonneg p l)
 clear hs hp hcf
 go_enter Tryz.func95, Tryz.ntmps95
 go_wp2_with fail
 refine HC.out.mono ?_
 rintro e w1 ⟨rfl, hg1⟩
 go_wp2_with fail
 go_ret
 exact ⟨ret_bool HN.out, hg1⟩
theorem indexPk_any (l : List PkV) (a : Option Addr) (cap : Nat) (w : World) (f : FuncId) (c : Value) (p : PkV → Bool) (hs : Sl 4 encPkV w a l) (hl : l.length < 4611686018427387904)
   (hcf : ∀ (args : Array Value) (W : World), (callFunc f args).run Tryz.prog W = .ok (.enter f args) W)
   (hp : ∀ (x : PkV), x ∈ l → ∀ (W : World), Grw w W → Calls Tryz.prog f #[.agg (encPkV x).toArray, c] W fun e w' => e = .returned (.bool (p x)) ∧ Grw W w') :
   Calls Tryz.prog 99 #[.slice a l.length cap, .func (.func f) #[] #[c]] w fun e w' => e = .returned (.int .i64 (firstIx p l)) ∧ Grw w w' := by
 have HS := Lib.hid hs
 have HP := Lib.hid hp
 have HCF := Lib.hid hcf
 clear hs hp hcf
 go_enter Tryz.func99, Tryz.ntmps99
 go_wp2_with fail
 go_loopg [8, 5] l.length (fun g v v5 wr => ∃ k : Nat, v = .int .i64 k ∧ k ≤ l.length ∧ l.length - k ≤ g ∧ Grw w wr ∧ ∀ j y, j < k → l[j]? = some y → p y = false)
 case atStart => exact ⟨0, rfl, Nat.zero_le _, Nat.le_refl _, Grw.refl _, fun j y hj => absurd hj (Nat.not_lt_zero _)⟩
 case round =>
   obtain ⟨k, rfl, hk, hg, hgr, hN⟩ := hrel
   have HN := Lib.hid hN
   clear hN
   rcases Nat.lt_or_ge k l.length with hlt | hge
   · obtain ⟨x, hx⟩ : ∃ x, l[k]? = some x := ⟨l[k], List.getElem?_eq_getElem hlt⟩
     obtain ⟨b, off, he, hb2, gEA, gEC⟩ := (HS.out.grw hgr).big (fun _ => rfl) hx
     subst he
     have HX := Lib.hid hx
     clear hx
     have hc1 := HCF.out #[.agg (encPkV x).toArray, c] wr
     simp only [encPkV_eq] at hc1
     cases hr : p x
     · have HR := Lib.hid hr
       go_wp2_with fail
       refine (HP.out x (List.mem_of_getElem? HX.out) _ hgr).mono ?_
       rintro e w2 ⟨rfl, hg2⟩
       rw [HR.out]
       go_wp2_with fail
       go_roundg (l.length - (k + 1))
       case measure => omega
       case rel =>
         refine ⟨k + 1, by go_num, by omega, Nat.le_refl _, hgr.trans hg2, fun j y hj hy => ?_⟩
         rcases Nat.lt_or_ge j k with hjk | hjk
         · exact HN.out j y hjk hy
         · obtain rfl : j = k := by omega
           rw [HX.out] at hy; cases hy; exact HR.out
     · have HR := Lib.hid hr
       have HF := Lib.hid (firstIx_at p l k x HX.out hr HN.out)
       go_wp2_with fail
       refine (HP.out x (List.mem_of_getElem? HX.out) _ hgr).mono ?_
       rintro e w2 ⟨rfl, hg2⟩
       rw [HR.out]
       go_wp2_with fail
       go_ret
       exact ⟨ret_int HF.out.symm, hgr.trans hg2⟩
   · obtain rfl : k = l.length := by omega
     have HF := Lib.hid (firstIx_none p l fun j y hy => HN.out j y (List.getElem?_eq_some_iff.1 hy).1 hy)
     go_wp2_with fail
     go_ret
     exact ⟨ret_int HF.out.symm, hgr⟩
theorem containsPk_any (l : List PkV) (a : Option Addr) (cap : Nat) (w : World) (f : FuncId) (c : Value) (p : PkV → Bool) (hs : Sl 4 encPkV w a l) (hl : l.length < 4611686018427387904)
   (hcf : ∀ (args : Array Value) (W : World), (callFunc f args).run Tryz.prog W = .ok (.enter f args) W)
   (hp : ∀ (x : PkV), x ∈ l → ∀ (W : World), Grw w W → Calls Tryz.prog f #[.agg (encPkV x).toArray, c] W fun e w' => e = .returned (.bool (p x)) ∧ Grw W w') :
   Calls Tryz.prog 45 #[.slice a l.length cap, .func (.func f) #[] #[c]] w fun e w' => e = .returned (.bool (l.any p)) ∧ Grw w w' := by
 have HC := Lib.hid (indexPk_any l a cap w f c p hs hl hcf hp)
 have HN := Lib.hid (firstIx_nonneg p l)
 clear hs hp hcf
 go_enter Tryz.func45, Tryz.ntmps45
 go_wp2_with fail
 refine HC.out.mono ?_
 rintro e w1 ⟨rfl, hg1⟩
 go_wp2_with fail
 go_ret
 exact ⟨ret_bool HN.out, hg1⟩
theorem indexBody_any (l : List BodyV) (a : Option Addr) (cap : Nat) (w : World) (f : FuncId) (c : Value) (p : BodyV → Bool) (hs : Sl 20 encBodyV w a l) (hl : l.length < 4611686018427387904)
   (hcf : ∀ (args : Array Value) (W : World), (callFunc f args).run Tryz.prog W = .ok (.enter f args) W)
   (hp : ∀ (x : BodyV), x ∈ l → ∀ (W : World), Grw w W → Calls Tryz.prog f #[.agg (encBodyV x).toArray, c] W fun e w' => e = .returned (.bool (p x)) ∧ Grw W w') :
   Calls Tryz.prog 92 #[.slice a l.length cap, .func (.func f) #[] #[c]] w fun e w' => e = .returned (.int .i64 (firstIx p l)) ∧ Grw w w' := by
 have HS := Lib.hid hs
 have HP := Lib.hid hp
 have HCF := Lib.hid hcf
 clear hs hp hcf
 go_enter Tryz.func92, Tryz.ntmps92
 go_wp2_with fail
 go_loopg [8, 5] l.length (fun g v v5 wr => ∃ k : Nat, v = .int .i64 k ∧ k ≤ l.length ∧ l.length - k ≤ g ∧ Grw w wr ∧ ∀ j y, j < k → l[j]? = some y → p y = false)
 case atStart => exact ⟨0, rfl, Nat.zero_le _, Nat.le_refl _, Grw.refl _, fun j y hj => absurd hj (Nat.not_lt_zero _)⟩
 case round =>
   obtain ⟨k, rfl, hk, hg, hgr, hN⟩ := hrel
   have HN := Lib.hid hN
   clear hN
   rcases Nat.lt_or_ge k l.length with hlt | hge
   · obtain ⟨x, hx⟩ : ∃ x, l[k]? = some x := ⟨l[k], List.getElem?_eq_getElem hlt⟩
     obtain ⟨b, off, he, hb2, gEA, gEC⟩ := (HS.out.grw hgr).big (fun _ => rfl) hx
     subst he
     have HX := Lib.hid hx
     clear hx
     have hc1 := HCF.out #[.agg (encBodyV x).toArray, c] wr
     simp only [encBodyV_eq] at hc1
     cases hr : p x
     · have HR := Lib.hid hr
       go_wp2_with fail
       refine (HP.out x (List.mem_of_getElem? HX.out) _ hgr).mono ?_
       rintro e w2 ⟨rfl, hg2⟩
       rw [HR.out]
       go_wp2_with fail
       go_roundg (l.length - (k + 1))
       case measure => omega
       case rel =>
         refine ⟨k + 1, by go_num, by omega, Nat.le_refl _, hgr.trans hg2, fun j y hj hy => ?_⟩
         rcases Nat.lt_or_ge j k with hjk | hjk
         · exact HN.out j y hjk hy
         · obtain rfl : j = k := by omega
           rw [HX.out] at hy; cases hy; exact HR.out
     · have HR := Lib.hid hr
       have HF := Lib.hid (firstIx_at p l k x HX.out hr HN.out)
       go_wp2_with fail
       refine (HP.out x (List.mem_of_getElem? HX.out) _ hgr).mono ?_
       rintro e w2 ⟨rfl, hg2⟩
       rw [HR.out]
       go_wp2_with fail
       go_ret
       exact ⟨ret_int HF.out.symm, hgr.trans hg2⟩
   · obtain rfl : k = l.length := by omega
     have HF := Lib.hid (firstIx_none p l fun j y hy => HN.out j y (List.getElem?_eq_some_iff.1 hy).1 hy)
     go_wp2_with fail
     go_ret
     exact ⟨ret_int HF.out.symm, hgr⟩
def sat1B (n : Int) : Bool := let r2 : Bool := winB n (-536870911) 536870911; (!r2)
theorem sat1_any (n : Int) (w : World) :
   Calls Tryz.prog 163 #[.int .i64 (n)] w fun e w' => e = .returned (.bool (sat1B n)) ∧ Grw w w' := by
 go_enter Tryz.func163, Tryz.ntmps163
 go_upto_region 1 with (fail)
 refine wp_gen (fun xw => Grw w xw) ((Grw.refl w)) ?_
 rintro w1 hw1
 go_wp2_with fail
 (go_at_call 19; refine (win_any n (-536870911) 536870911 _).mono ?_; rintro e w1 ⟨rfl, rfl⟩)
 obtain ⟨r2, hr2⟩ : ∃ r : Bool, r = winB n (-536870911) 536870911 := ⟨_, rfl⟩
 (try simp only [← hr2])
 have R2 := Lib.hid hr2; clear hr2
 go_wp2_with fail
 have hF : sat1B n = (!r2) := by unfold sat1B; first | rfl | (simp only [← R2.out, cond_true, cond_false]; done) | (simp only [← R2.out, cond_true, cond_false]; rfl) | simp [← R2.out]
 refine bodyPost_ret (v := .bool (!r2)) (by simp [results, Tryz.results163, go_sem]) rfl ⟨by rw [hF], ?_⟩
 exact hw1
def wsatB (l : List Int) : Bool := let r3 : Bool := List.any l (sat1B); (!r3)
theorem wsat_any (l : List Int) (a_l : Option Addr) (c_l : Nat) (w : World) (hs_l : Sl 1 encInt w a_l l) (hl_l : l.length < 4611686018427387904) :
   Calls Tryz.prog 94 #[.slice (a_l) (l.length) (c_l)] w fun e w' => e = .returned (.bool (wsatB l)) ∧ Grw w w' := by
 have HS_l := Lib.hid hs_l; have HL_l := Lib.hid hl_l; clear hs_l hl_l
 go_enter Tryz.func94, Tryz.ntmps94
 go_upto_region 1 with (fail)
 refine wp_gen (fun xw => Grw w xw) ((Grw.refl w)) ?_
 rintro w1 hw1
 go_wp2_with fail
 (go_at_call 162; refine (containsInt_any l _ _ _ 163 (sat1B) (HS_l.out.grw (hw1)) HL_l.out call_163 (fun x _ W _ => sat1_any x W)).mono ?_; rintro e w2 ⟨rfl, hg2⟩)
 obtain ⟨r3, hr3⟩ : ∃ r : Bool, r = List.any l (sat1B) := ⟨_, rfl⟩
 (try simp only [← hr3])
 have R3 := Lib.hid hr3; clear hr3
 have hw2 : Grw w w2 := (hw1).trans hg2
 clear hw1 hg2
 go_wp2_with fail
 have hF : wsatB l = (!r3) := by unfold wsatB; first | rfl | (simp only [← R3.out, cond_true, cond_false]; done) | (simp only [← R3.out, cond_true, cond_false]; rfl) | simp [← R3.out]
 refine bodyPost_ret (v := .bool (!r3)) (by simp [results, Tryz.results94, go_sem]) rfl ⟨by rw [hF], ?_⟩
 exact hw2
def vm1B (p : PtV) : Bool := let r4 : Bool := (decide (p.ni < 0)) || (!(wsatB [p.x, p.y, p.sep, p.id, p.ni, p.ti])); r4
theorem vm1_any (p : PtV) (w : World) :
   Calls Tryz.prog 96 #[.agg (encPtV p).toArray] w fun e w' => e = .returned (.bool (vm1B p)) ∧ Grw w w' := by
 go_enter Tryz.func96, Tryz.ntmps96
 go_upto_region 1 with (fail)
 refine wp_gen (fun xw => Grw w xw ∧ Bk xw (w.heap.size) 143 (encPtV p).toArray) ⟨((Grw.refl w)).alloc _, (Bk.new' (by simp))⟩ ?_
 rintro w1 ⟨hw1, hB1_0⟩
 have g1_0_0 : w1.cell? ⟨w.heap.size, 0, none⟩ = some (.int .i64 (p.x)) := hB1_0.cell 0
 have g1_0_1 : w1.cell? ⟨w.heap.size, 1, none⟩ = some (.int .i64 (p.y)) := hB1_0.cell 1
 have g1_0_2 : w1.cell? ⟨w.heap.size, 2, none⟩ = some (.int .i64 (p.sep)) := hB1_0.cell 2
 have g1_0_3 : w1.cell? ⟨w.heap.size, 3, none⟩ = some (.int .i64 (p.id)) := hB1_0.cell 3
 have g1_0_4 : w1.cell? ⟨w.heap.size, 4, none⟩ = some (.int .i64 (p.ni)) := hB1_0.cell 4
 have g1_0_5 : w1.cell? ⟨w.heap.size, 5, none⟩ = some (.int .i64 (p.ti)) := hB1_0.cell 5
 have g1_0_l := hB1_0.lt
 have HB1 := Lib.hid (show _ from hB1_0); clear hB1_0
 obtain ⟨r4, hr4⟩ : ∃ r : Bool, r = ((decide (p.ni < 0)) || (!(wsatB [p.x, p.y, p.sep, p.id, p.ni, p.ti]))) := ⟨_, rfl⟩
 have R4 := Lib.hid hr4; clear hr4
 go_cut [2] (fun s2 xw => s2 = .bool (r4) ∧ Grw w xw)
 case first =>
   cases hc2 : (decide (p.ni < 0))
   · go_wp2_with fail
     (go_at_call 94; refine (wsat_any [p.x, p.y, p.sep, p.id, p.ni, p.ti] _ _ _ (Sl.ofInt (l := [p.x, p.y, p.sep, p.id, p.ni, p.ti]) ((Bk.new' (by simp)))) (by simp)).mono ?_; rintro e w3 ⟨rfl, hg3⟩)
     have b0 := HB1.out
     have hB3_0 : Bk w3 (w.heap.size) 143 (encPtV p).toArray := (b0.alloc _).grw hg3
     have hB3_1 : Bk w3 (w1.heap.size) 3 (encPtV p).toArray := ((Bk.new' (by simp))).grw hg3
     have hw3 : Grw w w3 := ((hw1).alloc _).trans hg3
     have hs3 : w.heap.size < w3.heap.size := by have h1 := hg3.size; have h2 := g1_0_l; (try simp at h1); omega
     have g3_0_l := hB3_0.lt
     have g3_1_l := hB3_1.lt
     have HB3 := Lib.hid (show _ ∧ _ from ⟨hB3_0, hB3_1⟩); clear hB3_0 hB3_1
     clear g1_0_0 g1_0_1 g1_0_2 g1_0_3 g1_0_4 g1_0_5 g1_0_l b0 HB1 hw1 hg3
     go_wp2_with fail
     go_meet
     case rel =>
       have er4 : r4 = (!(wsatB [p.x, p.y, p.sep, p.id, p.ni, p.ti])) := R4.out.trans (by simp [hc2])
       subst er4
       obtain ⟨b0, b1⟩ := HB3.out
       exact ⟨rfl, hw3⟩
   · go_wp2_with fail
     go_meet
     case rel =>
       have er4 : r4 = (true) := R4.out.trans (by simp [hc2])
       subst er4
       have b0 := HB1.out
       exact ⟨rfl, hw1⟩
 case rest =>
 obtain ⟨rfl, hw5⟩ := hcut
 obtain ⟨w5, rfl⟩ : ∃ x, x = wc := ⟨_, rfl⟩
 clear g1_0_0 g1_0_1 g1_0_2 g1_0_3 g1_0_4 g1_0_5 g1_0_l HB1 hw1
 go_wp2_with fail
 have hF : vm1B p = r4 := by unfold vm1B; first | rfl | (simp only [← R4.out, cond_true, cond_false]; done) | (simp only [← R4.out, cond_true, cond_false]; rfl) | simp [← R4.out]
 refine bodyPost_ret (v := .bool (r4)) (by simp [results, Tryz.results96, go_sem]) rfl ⟨by rw [hF], ?_⟩
 exact hw5
def fb1B (b : BodyV) (id : Int) : Bool := (b.id == id)
theorem fb1_any (b : BodyV) (id : Int) (n : Nat) (w : World) (hb_n : Bk w n 3 #[.int .i64 (id)]) :
   Calls Tryz.prog 93 #[.agg (encBodyV b).toArray, .pointer (some ⟨n, 0, none⟩)] w fun e w' => e = .returned (.bool (fb1B b id)) ∧ Grw w w' := by
 go_enter Tryz.func93, Tryz.ntmps93
 have hB_0 := hb_n; clear hb_n
 have g_0_l := hB_0.lt
 have HB := Lib.hid (show _ from hB_0); clear hB_0
 have b0 := HB.out
 go_upto_region 1 with (fail)
 refine wp_gen (fun xw => Grw w xw ∧ Bk xw (n) 3 #[.int .i64 (id)] ∧ Bk xw (w.heap.size) 44 (encBodyV b).toArray) ⟨((Grw.refl w)).alloc _, b0.alloc _, (Bk.new' (by simp))⟩ ?_
 rintro w1 ⟨hw1, hB1_0, hB1_1⟩
 have g1_0_0 : w1.cell? ⟨n, 0, none⟩ = some (.int .i64 (id)) := hB1_0.cell 0
 have g1_0_l := hB1_0.lt
 have g1_1_0 : w1.cell? ⟨w.heap.size, 0, none⟩ = some (.int .i64 (b.id)) := hB1_1.cell 0
 have g1_1_l := hB1_1.lt
 have HB1 := Lib.hid (show _ ∧ _ from ⟨hB1_0, hB1_1⟩); clear hB1_0 hB1_1
 clear g_0_l b0 HB
 go_wp2_with fail
 have hF : fb1B b id = (b.id == id) := by unfold fb1B; first | rfl | (simp only [cond_true, cond_false]; done) | (simp only [cond_true, cond_false]; rfl) | simp []
 refine bodyPost_ret (v := .bool (b.id == id)) (by simp [results, Tryz.results93, go_sem, g1_0_0, g1_0_l, g1_1_0, g1_1_l]) rfl ⟨by rw [hF], ?_⟩
 exact hw1
def findBodyI (W : WorldV) (id : Int) : Int := let r3 : Int := firstIx (fun x => fb1B x id) W.bl; r3
theorem findBody_any (W : WorldV) (id : Int) (w : World) (h_W : WorldOk w W) :
   Calls Tryz.prog 42 #[.agg (encWorldV W).toArray, .int .i64 (id)] w fun e w' => e = .returned (.int .i64 (findBodyI W id)) ∧ Grw w w' := by
 have H_W := Lib.hid h_W; clear h_W
 go_enter Tryz.func42, Tryz.ntmps42
 go_upto_region 1 with (fail)
 refine wp_gen (fun xw => Grw w xw ∧ Bk xw (w.heap.size) 31 (encWorldV W).toArray ∧ Bk xw (w.heap.size + 1) 3 #[.int .i64 (id)]) ⟨(((Grw.refl w)).alloc _).alloc _, (Bk.new' (by simp)).alloc _, (Bk.new' (by simp))⟩ ?_
 rintro w1 ⟨hw1, hB1_0, hB1_1⟩
 have g1_0_5 : w1.cell? ⟨w.heap.size, 5, none⟩ = some (.slice (W.ba) (W.bl.length) (W.bc)) := hB1_0.cell 5
 have g1_0_l := hB1_0.lt
 have g1_1_l := hB1_1.lt
 have HB1 := Lib.hid (show _ ∧ _ from ⟨hB1_0, hB1_1⟩); clear hB1_0 hB1_1
 go_wp2_with fail
 (go_at_call 92; refine (indexBody_any W.bl _ _ _ 93 _ (fun x => fb1B x id) (H_W.out.b.grw (hw1)) H_W.out.bn call_93 (fun x _ W hW => fb1_any x id _ W ((HB1.out.2).grw hW))).mono ?_; rintro e w2 ⟨rfl, hg2⟩)
 obtain ⟨r3, hr3⟩ : ∃ r : Int, r = firstIx (fun x => fb1B x id) W.bl := ⟨_, rfl⟩
 (try simp only [← hr3])
 have R3 := Lib.hid hr3; clear hr3
 obtain ⟨b0, b1⟩ := HB1.out
 have hB2_0 : Bk w2 (w.heap.size) 31 (encWorldV W).toArray := (b0).grw hg2
 have hB2_1 : Bk w2 (w.heap.size + 1) 3 #[.int .i64 (id)] := (b1).grw hg2
 have hw2 : Grw w w2 := (hw1).trans hg2
 have hs2 : w.heap.size + 1 < w2.heap.size := by have h1 := hg2.size; have h2 := g1_1_l; (try simp at h1); omega
 have g2_0_l := hB2_0.lt
 have g2_1_l := hB2_1.lt
 have HB2 := Lib.hid (show _ ∧ _ from ⟨hB2_0, hB2_1⟩); clear hB2_0 hB2_1
 clear g1_0_5 g1_0_l g1_1_l b0 b1 HB1 hw1 hg2
 go_wp2_with fail
 have hF : findBodyI W id = r3 := by unfold findBodyI; first | rfl | (simp only [← R3.out, cond_true, cond_false]; done) | (simp only [← R3.out, cond_true, cond_false]; rfl) | simp [← R3.out]
 refine bodyPost_ret (v := .int .i64 (r3)) (by simp [results, Tryz.results42, go_sem, g2_0_l, g2_1_l]) rfl ⟨by rw [hF], ?_⟩
 exact hw2
def bodiesExistB (W : WorldV) (j : JointV) : Bool := let r8 : Bool := (decide (0 ≤ (findBodyI W j.bb))) && ((j.kd == 5) || (decide (0 ≤ (findBodyI W j.ba)))); r8
theorem bodiesExist_any (W : WorldV) (j : JointV) (w : World) (h_W : WorldOk w W) :
   Calls Tryz.prog 41 #[.agg (encWorldV W).toArray, .agg (encJointV j).toArray] w fun e w' => e = .returned (.bool (bodiesExistB W j)) ∧ Grw w w' := by
 have H_W := Lib.hid h_W; clear h_W
 go_enter Tryz.func41, Tryz.ntmps41
 go_upto_region 1 with (fail)
 refine wp_gen (fun xw => Grw w xw ∧ Bk xw (w.heap.size) 31 (encWorldV W).toArray ∧ Bk xw (w.heap.size + 1) 70 (encJointV j).toArray) ⟨(((Grw.refl w)).alloc _).alloc _, (Bk.new' (by simp)).alloc _, (Bk.new' (by simp))⟩ ?_
 rintro w1 ⟨hw1, hB1_0, hB1_1⟩
 have gA1_0_0_11 : HaveAll w1 (w.heap.size) 0 11 := hB1_0.have 0 11 (Nat.le_of_ble_eq_true rfl)
 have gC1_0_0_11 : cellsAt w1 (w.heap.size) 0 11 = (encWorldV W).toArray := hB1_0.cells' 0 11 _ rfl rfl
 have g1_0_l := hB1_0.lt
 have g1_1_3 : w1.cell? ⟨w.heap.size + 1, 3, none⟩ = some (.int .i64 (j.bb)) := hB1_1.cell 3
 have g1_1_l := hB1_1.lt
 have HB1 := Lib.hid (show _ ∧ _ from ⟨hB1_0, hB1_1⟩); clear hB1_0 hB1_1
 obtain ⟨r8, hr8⟩ : ∃ r : Bool, r = ((decide (0 ≤ (findBodyI W j.bb))) && ((j.kd == 5) || (decide (0 ≤ (findBodyI W j.ba))))) := ⟨_, rfl⟩
 have R8 := Lib.hid hr8; clear hr8
 go_cut [4] (fun s4 xw => s4 = .bool (r8) ∧ Grw w xw)
 case first =>
   cases hc2 : (decide (0 ≤ (findBodyI W j.bb)))
   · go_wp2_with fail
     (go_at_call 42; refine (findBody_any W j.bb _ (H_W.out.grw (hw1))).mono ?_; rintro e w3 ⟨rfl, hg3⟩)
     obtain ⟨b0, b1⟩ := HB1.out
     have hB3_0 : Bk w3 (w.heap.size) 31 (encWorldV W).toArray := (b0).grw hg3
     have hB3_1 : Bk w3 (w.heap.size + 1) 70 (encJointV j).toArray := (b1).grw hg3
     have hw3 : Grw w w3 := (hw1).trans hg3
     have hs3 : w.heap.size + 1 < w3.heap.size := by have h1 := hg3.size; have h2 := g1_1_l; (try simp at h1); omega
     have g3_0_l := hB3_0.lt
     have g3_1_l := hB3_1.lt
     have HB3 := Lib.hid (show _ ∧ _ from ⟨hB3_0, hB3_1⟩); clear hB3_0 hB3_1
     clear gA1_0_0_11 gC1_0_0_11 g1_0_l g1_1_3 g1_1_l b0 b1 HB1 hw1 hg3
     go_wp2_with fail
     go_meet
     case rel =>
       have er8 : r8 = (false) := R8.out.trans (by simp [hc2])
       subst er8
       obtain ⟨b0, b1⟩ := HB3.out
       exact ⟨rfl, hw3⟩
   · cases hc4 : (j.kd == 5)
     · go_wp2_with fail
       (go_at_call 42; refine (findBody_any W j.bb _ (H_W.out.grw (hw1))).mono ?_; rintro e w5 ⟨rfl, hg5⟩)
       obtain ⟨b0, b1⟩ := HB1.out
       have hB5_0 : Bk w5 (w.heap.size) 31 (encWorldV W).toArray := (b0).grw hg5
       have hB5_1 : Bk w5 (w.heap.size + 1) 70 (encJointV j).toArray := (b1).grw hg5
       have hw5 : Grw w w5 := (hw1).trans hg5
       have hs5 : w.heap.size + 1 < w5.heap.size := by have h1 := hg5.size; have h2 := g1_1_l; (try simp at h1); omega
       have gA5_0_0_11 : HaveAll w5 (w.heap.size) 0 11 := hB5_0.have 0 11 (Nat.le_of_ble_eq_true rfl)
       have gC5_0_0_11 : cellsAt w5 (w.heap.size) 0 11 = (encWorldV W).toArray := hB5_0.cells' 0 11 _ rfl rfl
       have g5_0_l := hB5_0.lt
       have g5_1_1 : w5.cell? ⟨w.heap.size + 1, 1, none⟩ = some (.int .i64 (j.kd)) := hB5_1.cell 1
       have g5_1_2 : w5.cell? ⟨w.heap.size + 1, 2, none⟩ = some (.int .i64 (j.ba)) := hB5_1.cell 2
       have g5_1_l := hB5_1.lt
       have HB5 := Lib.hid (show _ ∧ _ from ⟨hB5_0, hB5_1⟩); clear hB5_0 hB5_1
       clear gA1_0_0_11 gC1_0_0_11 g1_0_l g1_1_3 g1_1_l b0 b1 HB1 hw1 hg5
       go_wp2_with fail
       (go_at_call 42; refine (findBody_any W j.ba _ (H_W.out.grw (hw5))).mono ?_; rintro e w6 ⟨rfl, hg6⟩)
       obtain ⟨b0, b1⟩ := HB5.out
       have hB6_0 : Bk w6 (w.heap.size) 31 (encWorldV W).toArray := (b0).grw hg6
       have hB6_1 : Bk w6 (w.heap.size + 1) 70 (encJointV j).toArray := (b1).grw hg6
       have hw6 : Grw w w6 := (hw5).trans hg6
       have hs6 : w.heap.size + 1 < w6.heap.size := by have h1 := hg6.size; have h2 := g5_1_l; (try simp at h1); omega
       have g6_0_l := hB6_0.lt
       have g6_1_l := hB6_1.lt
       have HB6 := Lib.hid (show _ ∧ _ from ⟨hB6_0, hB6_1⟩); clear hB6_0 hB6_1
       clear gA5_0_0_11 gC5_0_0_11 g5_0_l g5_1_1 g5_1_2 g5_1_l b0 b1 HB5 hw5 hg6
       go_wp2_with fail
       go_meet
       case rel =>
         have er8 : r8 = (decide (0 ≤ (findBodyI W j.ba))) := R8.out.trans (by simp [hc2, hc4])
         subst er8
         obtain ⟨b0, b1⟩ := HB6.out
         exact ⟨rfl, hw6⟩
     · go_wp2_with fail
       (go_at_call 42; refine (findBody_any W j.bb _ (H_W.out.grw (hw1))).mono ?_; rintro e w7 ⟨rfl, hg7⟩)
       obtain ⟨b0, b1⟩ := HB1.out
       have hB7_0 : Bk w7 (w.heap.size) 31 (encWorldV W).toArray := (b0).grw hg7
       have hB7_1 : Bk w7 (w.heap.size + 1) 70 (encJointV j).toArray := (b1).grw hg7
       have hw7 : Grw w w7 := (hw1).trans hg7
       have hs7 : w.heap.size + 1 < w7.heap.size := by have h1 := hg7.size; have h2 := g1_1_l; (try simp at h1); omega
       have g7_0_l := hB7_0.lt
       have g7_1_1 : w7.cell? ⟨w.heap.size + 1, 1, none⟩ = some (.int .i64 (j.kd)) := hB7_1.cell 1
       have g7_1_l := hB7_1.lt
       have HB7 := Lib.hid (show _ ∧ _ from ⟨hB7_0, hB7_1⟩); clear hB7_0 hB7_1
       clear gA1_0_0_11 gC1_0_0_11 g1_0_l g1_1_3 g1_1_l b0 b1 HB1 hw1 hg7
       go_wp2_with fail
       go_meet
       case rel =>
         have er8 : r8 = (true) := R8.out.trans (by simp [hc2, hc4])
         subst er8
         obtain ⟨b0, b1⟩ := HB7.out
         exact ⟨rfl, hw7⟩
 case rest =>
 obtain ⟨rfl, hw9⟩ := hcut
 obtain ⟨w9, rfl⟩ : ∃ x, x = wc := ⟨_, rfl⟩
 clear gA1_0_0_11 gC1_0_0_11 g1_0_l g1_1_3 g1_1_l HB1 hw1
 go_wp2_with fail
 have hF : bodiesExistB W j = r8 := by unfold bodiesExistB; first | rfl | (simp only [← R8.out, cond_true, cond_false]; done) | (simp only [← R8.out, cond_true, cond_false]; rfl) | simp [← R8.out]
 refine bodyPost_ret (v := .bool (r8)) (by simp [results, Tryz.results41, go_sem]) rfl ⟨by rw [hF], ?_⟩
 exact hw9
def validManifoldB (m : MfV) : Bool := let r20 : Bool := (decide ((m.pl.length : Int) < 1)) || ((decide (2 < (m.pl.length : Int))) || (bif (m.pl.length : Int) == 2 then (((nth m.pl 0 PtV.d).id) == ((nth m.pl 1 PtV.d).id)) || (!(wsatB [m.nx, m.ny])) else !(wsatB [m.nx, m.ny]))); bif r20 then (false) else (let r24 : Bool := List.any m.pl (vm1B); (!r24))
theorem validManifold_any (m : MfV) (w : World) (h_m : MfOk w m) :
   Calls Tryz.prog 43 #[.agg (encMfV m).toArray] w fun e w' => e = .returned (.bool (validManifoldB m)) ∧ Grw w w' := by
 have H_m := Lib.hid h_m; clear h_m
 go_enter Tryz.func43, Tryz.ntmps43
 go_upto_region 1 with (fail)
 refine wp_gen (fun xw => Grw w xw ∧ Bk xw (w.heap.size) 97 (encMfV m).toArray) ⟨((Grw.refl w)).alloc _, (Bk.new' (by simp))⟩ ?_
 rintro w1 ⟨hw1, hB1_0⟩
 have g1_0_0 : w1.cell? ⟨w.heap.size, 0, none⟩ = some (.int .i64 (m.nx)) := hB1_0.cell 0
 have g1_0_1 : w1.cell? ⟨w.heap.size, 1, none⟩ = some (.int .i64 (m.ny)) := hB1_0.cell 1
 have g1_0_2 : w1.cell? ⟨w.heap.size, 2, none⟩ = some (.slice (m.pa) (m.pl.length) (m.pc)) := hB1_0.cell 2
 have g1_0_l := hB1_0.lt
 have HB1 := Lib.hid (show _ from hB1_0); clear hB1_0
 go_upto_region 2 with (fail)
 obtain ⟨r20, hr20⟩ : ∃ r : Bool, r = ((decide ((m.pl.length : Int) < 1)) || ((decide (2 < (m.pl.length : Int))) || (bif (m.pl.length : Int) == 2 then (((nth m.pl 0 PtV.d).id) == ((nth m.pl 1 PtV.d).id)) || (!(wsatB [m.nx, m.ny])) else !(wsatB [m.nx, m.ny])))) := ⟨_, rfl⟩
 have R20 := Lib.hid hr20; clear hr20
 go_cut [40] (fun s40 xw => s40 = .bool (r20) ∧ Grw w xw ∧ Bk xw (w.heap.size) 97 (encMfV m).toArray)
 case first =>
   cases hc2 : (decide ((m.pl.length : Int) < 1))
   · cases hc3 : (decide (2 < (m.pl.length : Int)))
     · cases hc4 : ((m.pl.length : Int) == 2)
       · go_upto_region 2 with (fail)
         refine wp_region_flowB 30 (by kernel_rfl) (by kernel_rfl) ?_
         simp only [tD]
         iterate 30 (refine wpQ_step (fun K hK => ?_); go_simp; refine hK _ ?_; clear hK K)
         refine wpQ_nil ?_
         intro w5 hg5
         refine okList_step (fun w5_0 hw5_0 K hK => ?_)
         go_simp; refine hK _ _ (by (repeat with_reducible first | exact .refl _ | assumption | refine .setAt ?_ (by first | omega | simp <;> omega) _ | refine .setCells ?_ (by first | omega | simp <;> omega) _ | refine .alloc ?_ _ | refine .drewN ?_ _ | refine .drew ?_ | refine .trans ?_ (by assumption))) ?_; clear hK K
         have hN5_0 := Bk.new w5_0 3 #[.int .i64 (m.nx), .int .i64 (m.ny)]
         refine okList_step (fun w5_1 hw5_1 K hK => ?_)
         replace hN5_0 := hN5_0.grw hw5_1
         go_simp; refine (wsat_any [m.nx, m.ny] _ _ _ (Sl.ofInt (l := [m.nx, m.ny]) hN5_0) (by simp)).mono ?_; rintro e w5_1_c ⟨rfl, hg5_1_c⟩; refine ⟨_, rfl, hK _ _ (by (repeat with_reducible first | exact .refl _ | assumption | refine .setAt ?_ (by first | omega | simp <;> omega) _ | refine .setCells ?_ (by first | omega | simp <;> omega) _ | refine .alloc ?_ _ | refine .drewN ?_ _ | refine .drew ?_ | refine .trans ?_ (by assumption))) ?_⟩; clear hK K
         replace hN5_0 := hN5_0.grw hg5_1_c
         refine okList_step (fun w5_2 hw5_2 K hK => ?_)
         replace hN5_0 := hN5_0.grw hw5_2
         go_simp; refine hK _ _ (by (repeat with_reducible first | exact .refl _ | assumption | refine .setAt ?_ (by first | omega | simp <;> omega) _ | refine .setCells ?_ (by first | omega | simp <;> omega) _ | refine .alloc ?_ _ | refine .drewN ?_ _ | refine .drew ?_ | refine .trans ?_ (by assumption))) ?_; clear hK K
         refine okList_step (fun w5_3 hw5_3 K hK => ?_)
         replace hN5_0 := hN5_0.grw hw5_3
         go_simp; refine hK _ _ (by (repeat with_reducible first | exact .refl _ | assumption | refine .setAt ?_ (by first | omega | simp <;> omega) _ | refine .setCells ?_ (by first | omega | simp <;> omega) _ | refine .alloc ?_ _ | refine .drewN ?_ _ | refine .drew ?_ | refine .trans ?_ (by assumption))) ?_; clear hK K
         refine okList_nil (fun w6 h6 => ?_); go_simp
         have hN5_0 : Bk w6 (w5_0.heap.size) 3 #[.int .i64 (m.nx), .int .i64 (m.ny)] := hN5_0.grw h6
         have hg6 : Grw w1 w6 := by (repeat with_reducible first | exact .refl _ | assumption | refine .setAt ?_ (by first | omega | simp <;> omega) _ | refine .setCells ?_ (by first | omega | simp <;> omega) _ | refine .alloc ?_ _ | refine .drewN ?_ _ | refine .drew ?_ | refine .trans ?_ (by assumption))
         have hsz5_0 : w.heap.size < w5_0.heap.size := by (have h1 : Grw w1 w5_0 := by (repeat with_reducible first | exact .refl _ | assumption | refine .setAt ?_ (by first | omega | simp <;> omega) _ | refine .setCells ?_ (by first | omega | simp <;> omega) _ | refine .alloc ?_ _ | refine .drewN ?_ _ | refine .drew ?_ | refine .trans ?_ (by assumption))); (have h2 := h1.size); (have h3 := g1_0_l); omega
         have b0 := HB1.out
         have hB6_0 : Bk w6 (w.heap.size) 97 (encMfV m).toArray := (b0).grw hg6
         have hB6_1 : Bk w6 (w5_0.heap.size) 3 #[.int .i64 (m.nx), .int .i64 (m.ny)] := hN5_0
         have hw6 : Grw w w6 := (hw1).trans hg6
         have hs6 : w.heap.size < w6.heap.size := by have h1 := hg6.size; have h2 := g1_0_l; (try simp at h1); omega
         have g6_0_l := hB6_0.lt
         have g6_1_l := hB6_1.lt
         have HB6 := Lib.hid (show _ ∧ _ from ⟨hB6_0, hB6_1⟩); clear hB6_0 hB6_1
         clear g1_0_0 g1_0_1 g1_0_2 g1_0_l b0 HB1 hw1 hg6
         clear hN5_0 hw5_3 hw5_2 hw5_1 hw5_0 h6 hg5 hg5_1_c
         go_wp2_with fail
         go_meet
         case rel =>
           have er20 : r20 = (!(wsatB [m.nx, m.ny])) := R20.out.trans (by simp [hc2, hc3, hc4])
           subst er20
           obtain ⟨b0, b1⟩ := HB6.out
           exact ⟨rfl, hw6, b0⟩
       · cases hc7 : (((nth m.pl 0 PtV.d).id) == ((nth m.pl 1 PtV.d).id))
         · go_upto_region 2 with (fail)
           have hi8 : 0 < m.pl.length := by have qhc2 := of_decide_eq_false hc2; have qhc3 := of_decide_eq_false hc3; have qhc4 := eq_of_beq hc4; omega
           have hx8 : m.pl[0]? = some (nth m.pl 0 PtV.d) := getD_of _ hi8
           obtain ⟨bx8, ox8, he8, hbx8, hcx8⟩ := (H_m.out.1.grw (hw1)) 0 _ hx8; clear hx8
           have gx8_3 : w1.cell? ⟨bx8, ox8 + 3, none⟩ = some (.int .i64 ((nth m.pl 0 PtV.d).id)) := by simpa [Nat.add_assoc] using hcx8 3 _ rfl
           have hi9 : 1 < m.pl.length := by have qhc2 := of_decide_eq_false hc2; have qhc3 := of_decide_eq_false hc3; have qhc4 := eq_of_beq hc4; omega
           have hj9 : (1 : Int) < (m.pl.length : Int) := by omega
           have hx9 : m.pl[1]? = some (nth m.pl 1 PtV.d) := getD_of _ hi9
           obtain ⟨bx9, ox9, he9, hbx9, hcx9⟩ := (H_m.out.1.grw (hw1)) 1 _ hx9; clear hx9
           obtain ⟨rfl, rfl⟩ : bx8 = bx9 ∧ ox8 = ox9 := by have h1 := he8.symm.trans he9; simpa using h1
           clear he9
           have gx9_3 : w1.cell? ⟨bx8, ox8 + 6 + 3, none⟩ = some (.int .i64 ((nth m.pl 1 PtV.d).id)) := by simpa [Nat.add_assoc] using hcx9 3 _ rfl
           refine wp_region_flowB 30 (by kernel_rfl) (by kernel_rfl) ?_
           simp only [tD]
           iterate 30 (refine wpQ_step (fun K hK => ?_); go_simp; refine hK _ ?_; clear hK K)
           refine wpQ_nil ?_
           intro w10 hg10
           refine okList_step (fun w10_0 hw10_0 K hK => ?_)
           go_simp; refine hK _ _ (by (repeat with_reducible first | exact .refl _ | assumption | refine .setAt ?_ (by first | omega | simp <;> omega) _ | refine .setCells ?_ (by first | omega | simp <;> omega) _ | refine .alloc ?_ _ | refine .drewN ?_ _ | refine .drew ?_ | refine .trans ?_ (by assumption))) ?_; clear hK K
           have hN10_0 := Bk.new w10_0 3 #[.int .i64 (m.nx), .int .i64 (m.ny)]
           refine okList_step (fun w10_1 hw10_1 K hK => ?_)
           replace hN10_0 := hN10_0.grw hw10_1
           go_simp; refine (wsat_any [m.nx, m.ny] _ _ _ (Sl.ofInt (l := [m.nx, m.ny]) hN10_0) (by simp)).mono ?_; rintro e w10_1_c ⟨rfl, hg10_1_c⟩; refine ⟨_, rfl, hK _ _ (by (repeat with_reducible first | exact .refl _ | assumption | refine .setAt ?_ (by first | omega | simp <;> omega) _ | refine .setCells ?_ (by first | omega | simp <;> omega) _ | refine .alloc ?_ _ | refine .drewN ?_ _ | refine .drew ?_ | refine .trans ?_ (by assumption))) ?_⟩; clear hK K
           replace hN10_0 := hN10_0.grw hg10_1_c
           refine okList_step (fun w10_2 hw10_2 K hK => ?_)
           replace hN10_0 := hN10_0.grw hw10_2
           go_simp; refine hK _ _ (by (repeat with_reducible first | exact .refl _ | assumption | refine .setAt ?_ (by first | omega | simp <;> omega) _ | refine .setCells ?_ (by first | omega | simp <;> omega) _ | refine .alloc ?_ _ | refine .drewN ?_ _ | refine .drew ?_ | refine .trans ?_ (by assumption))) ?_; clear hK K
           refine okList_step (fun w10_3 hw10_3 K hK => ?_)
           replace hN10_0 := hN10_0.grw hw10_3
           go_simp; refine hK _ _ (by (repeat with_reducible first | exact .refl _ | assumption | refine .setAt ?_ (by first | omega | simp <;> omega) _ | refine .setCells ?_ (by first | omega | simp <;> omega) _ | refine .alloc ?_ _ | refine .drewN ?_ _ | refine .drew ?_ | refine .trans ?_ (by assumption))) ?_; clear hK K
           refine okList_nil (fun w11 h11 => ?_); go_simp
           have hN10_0 : Bk w11 (w10_0.heap.size) 3 #[.int .i64 (m.nx), .int .i64 (m.ny)] := hN10_0.grw h11
           have hg11 : Grw w1 w11 := by (repeat with_reducible first | exact .refl _ | assumption | refine .setAt ?_ (by first | omega | simp <;> omega) _ | refine .setCells ?_ (by first | omega | simp <;> omega) _ | refine .alloc ?_ _ | refine .drewN ?_ _ | refine .drew ?_ | refine .trans ?_ (by assumption))
           have hsz10_0 : w.heap.size < w10_0.heap.size := by (have h1 : Grw w1 w10_0 := by (repeat with_reducible first | exact .refl _ | assumption | refine .setAt ?_ (by first | omega | simp <;> omega) _ | refine .setCells ?_ (by first | omega | simp <;> omega) _ | refine .alloc ?_ _ | refine .drewN ?_ _ | refine .drew ?_ | refine .trans ?_ (by assumption))); (have h2 := h1.size); (have h3 := g1_0_l); omega
           have b0 := HB1.out
           have hB11_0 : Bk w11 (w.heap.size) 97 (encMfV m).toArray := (b0).grw hg11
           have hB11_1 : Bk w11 (w10_0.heap.size) 3 #[.int .i64 (m.nx), .int .i64 (m.ny)] := hN10_0
           have hw11 : Grw w w11 := (hw1).trans hg11
           have hs11 : w.heap.size < w11.heap.size := by have h1 := hg11.size; have h2 := g1_0_l; (try simp at h1); omega
           have g11_0_l := hB11_0.lt
           have g11_1_l := hB11_1.lt
           have HB11 := Lib.hid (show _ ∧ _ from ⟨hB11_0, hB11_1⟩); clear hB11_0 hB11_1
           clear g1_0_0 g1_0_1 g1_0_2 g1_0_l b0 HB1 hw1 hg11
           clear hN10_0 hw10_3 hw10_2 hw10_1 hw10_0 h11 hg10 hg10_1_c
           go_wp2_with fail
           (try simp only [← he8])
           go_meet
           case rel =>
             have er20 : r20 = (!(wsatB [m.nx, m.ny])) := R20.out.trans (by simp [hc2, hc3, hc4, hc7])
             subst er20
             obtain ⟨b0, b1⟩ := HB11.out
             exact ⟨rfl, hw11, b0⟩
         · go_upto_region 2 with (fail)
           have hi12 : 0 < m.pl.length := by have qhc2 := of_decide_eq_false hc2; have qhc3 := of_decide_eq_false hc3; have qhc4 := eq_of_beq hc4; omega
           have hx12 : m.pl[0]? = some (nth m.pl 0 PtV.d) := getD_of _ hi12
           obtain ⟨bx12, ox12, he12, hbx12, hcx12⟩ := (H_m.out.1.grw (hw1)) 0 _ hx12; clear hx12
           have gx12_3 : w1.cell? ⟨bx12, ox12 + 3, none⟩ = some (.int .i64 ((nth m.pl 0 PtV.d).id)) := by simpa [Nat.add_assoc] using hcx12 3 _ rfl
           have hi13 : 1 < m.pl.length := by have qhc2 := of_decide_eq_false hc2; have qhc3 := of_decide_eq_false hc3; have qhc4 := eq_of_beq hc4; omega
           have hj13 : (1 : Int) < (m.pl.length : Int) := by omega
           have hx13 : m.pl[1]? = some (nth m.pl 1 PtV.d) := getD_of _ hi13
           obtain ⟨bx13, ox13, he13, hbx13, hcx13⟩ := (H_m.out.1.grw (hw1)) 1 _ hx13; clear hx13
           obtain ⟨rfl, rfl⟩ : bx12 = bx13 ∧ ox12 = ox13 := by have h1 := he12.symm.trans he13; simpa using h1
           clear he13
           have gx13_3 : w1.cell? ⟨bx12, ox12 + 6 + 3, none⟩ = some (.int .i64 ((nth m.pl 1 PtV.d).id)) := by simpa [Nat.add_assoc] using hcx13 3 _ rfl
           refine wp_region_flowB 30 (by kernel_rfl) (by kernel_rfl) ?_
           simp only [tD]
           iterate 30 (refine wpQ_step (fun K hK => ?_); go_simp; refine hK _ ?_; clear hK K)
           refine wpQ_nil ?_
           intro w14 hg14
           refine okList_step (fun w14_0 hw14_0 K hK => ?_)
           go_simp; refine hK _ _ (by (repeat with_reducible first | exact .refl _ | assumption | refine .setAt ?_ (by first | omega | simp <;> omega) _ | refine .setCells ?_ (by first | omega | simp <;> omega) _ | refine .alloc ?_ _ | refine .drewN ?_ _ | refine .drew ?_ | refine .trans ?_ (by assumption))) ?_; clear hK K
           refine okList_step (fun w14_1 hw14_1 K hK => ?_)
           go_simp; refine hK _ _ (by (repeat with_reducible first | exact .refl _ | assumption | refine .setAt ?_ (by first | omega | simp <;> omega) _ | refine .setCells ?_ (by first | omega | simp <;> omega) _ | refine .alloc ?_ _ | refine .drewN ?_ _ | refine .drew ?_ | refine .trans ?_ (by assumption))) ?_; clear hK K
           refine okList_step (fun w14_2 hw14_2 K hK => ?_)
           go_simp; refine hK _ _ (by (repeat with_reducible first | exact .refl _ | assumption | refine .setAt ?_ (by first | omega | simp <;> omega) _ | refine .setCells ?_ (by first | omega | simp <;> omega) _ | refine .alloc ?_ _ | refine .drewN ?_ _ | refine .drew ?_ | refine .trans ?_ (by assumption))) ?_; clear hK K
           refine okList_step (fun w14_3 hw14_3 K hK => ?_)
           go_simp; refine hK _ _ (by (repeat with_reducible first | exact .refl _ | assumption | refine .setAt ?_ (by first | omega | simp <;> omega) _ | refine .setCells ?_ (by first | omega | simp <;> omega) _ | refine .alloc ?_ _ | refine .drewN ?_ _ | refine .drew ?_ | refine .trans ?_ (by assumption))) ?_; clear hK K
           refine okList_nil (fun w15 h15 => ?_); go_simp
           have hg15 : Grw w1 w15 := by (repeat with_reducible first | exact .refl _ | assumption | refine .setAt ?_ (by first | omega | simp <;> omega) _ | refine .setCells ?_ (by first | omega | simp <;> omega) _ | refine .alloc ?_ _ | refine .drewN ?_ _ | refine .drew ?_ | refine .trans ?_ (by assumption))
           have b0 := HB1.out
           have hB15_0 : Bk w15 (w.heap.size) 97 (encMfV m).toArray := (b0).grw hg15
           have hw15 : Grw w w15 := (hw1).trans hg15
           have hs15 : w.heap.size < w15.heap.size := by have h1 := hg15.size; have h2 := g1_0_l; (try simp at h1); omega
           have g15_0_l := hB15_0.lt
           have HB15 := Lib.hid (show _ from hB15_0); clear hB15_0
           clear g1_0_0 g1_0_1 g1_0_2 g1_0_l b0 HB1 hw1 hg15
           clear hw14_3 hw14_2 hw14_1 hw14_0 h15 hg14
           go_wp2_with fail
           (try simp only [← he12])
           go_meet
           case rel =>
             have er20 : r20 = (true) := R20.out.trans (by simp [hc2, hc3, hc4, hc7])
             subst er20
             have b0 := HB15.out
             exact ⟨rfl, hw15, b0⟩
     · go_upto_region 2 with (fail)
       refine wp_region_flowB 30 (by kernel_rfl) (by kernel_rfl) ?_
       simp only [tD]
       iterate 30 (refine wpQ_step (fun K hK => ?_); go_simp; refine hK _ ?_; clear hK K)
       refine wpQ_nil ?_
       intro w16 hg16
       refine okList_step (fun w16_0 hw16_0 K hK => ?_)
       go_simp; refine hK _ _ (by (repeat with_reducible first | exact .refl _ | assumption | refine .setAt ?_ (by first | omega | simp <;> omega) _ | refine .setCells ?_ (by first | omega | simp <;> omega) _ | refine .alloc ?_ _ | refine .drewN ?_ _ | refine .drew ?_ | refine .trans ?_ (by assumption))) ?_; clear hK K
       refine okList_step (fun w16_1 hw16_1 K hK => ?_)
       go_simp; refine hK _ _ (by (repeat with_reducible first | exact .refl _ | assumption | refine .setAt ?_ (by first | omega | simp <;> omega) _ | refine .setCells ?_ (by first | omega | simp <;> omega) _ | refine .alloc ?_ _ | refine .drewN ?_ _ | refine .drew ?_ | refine .trans ?_ (by assumption))) ?_; clear hK K
       refine okList_step (fun w16_2 hw16_2 K hK => ?_)
       go_simp; refine hK _ _ (by (repeat with_reducible first | exact .refl _ | assumption | refine .setAt ?_ (by first | omega | simp <;> omega) _ | refine .setCells ?_ (by first | omega | simp <;> omega) _ | refine .alloc ?_ _ | refine .drewN ?_ _ | refine .drew ?_ | refine .trans ?_ (by assumption))) ?_; clear hK K
       refine okList_step (fun w16_3 hw16_3 K hK => ?_)
       go_simp; refine hK _ _ (by (repeat with_reducible first | exact .refl _ | assumption | refine .setAt ?_ (by first | omega | simp <;> omega) _ | refine .setCells ?_ (by first | omega | simp <;> omega) _ | refine .alloc ?_ _ | refine .drewN ?_ _ | refine .drew ?_ | refine .trans ?_ (by assumption))) ?_; clear hK K
       refine okList_nil (fun w17 h17 => ?_); go_simp
       have hg17 : Grw w1 w17 := by (repeat with_reducible first | exact .refl _ | assumption | refine .setAt ?_ (by first | omega | simp <;> omega) _ | refine .setCells ?_ (by first | omega | simp <;> omega) _ | refine .alloc ?_ _ | refine .drewN ?_ _ | refine .drew ?_ | refine .trans ?_ (by assumption))
       have b0 := HB1.out
       have hB17_0 : Bk w17 (w.heap.size) 97 (encMfV m).toArray := (b0).grw hg17
       have hw17 : Grw w w17 := (hw1).trans hg17
       have hs17 : w.heap.size < w17.heap.size := by have h1 := hg17.size; have h2 := g1_0_l; (try simp at h1); omega
       have g17_0_l := hB17_0.lt
       have HB17 := Lib.hid (show _ from hB17_0); clear hB17_0
       clear g1_0_0 g1_0_1 g1_0_2 g1_0_l b0 HB1 hw1 hg17
       clear hw16_3 hw16_2 hw16_1 hw16_0 h17 hg16
       go_wp2_with fail
       go_meet
       case rel =>
         have er20 : r20 = (true) := R20.out.trans (by simp [hc2, hc3])
         subst er20
         have b0 := HB17.out
         exact ⟨rfl, hw17, b0⟩
   · go_upto_region 2 with (fail)
     refine wp_region_flowB 30 (by kernel_rfl) (by kernel_rfl) ?_
     simp only [tD]
     iterate 30 (refine wpQ_step (fun K hK => ?_); go_simp; refine hK _ ?_; clear hK K)
     refine wpQ_nil ?_
     intro w18 hg18
     refine okList_step (fun w18_0 hw18_0 K hK => ?_)
     go_simp; refine hK _ _ (by (repeat with_reducible first | exact .refl _ | assumption | refine .setAt ?_ (by first | omega | simp <;> omega) _ | refine .setCells ?_ (by first | omega | simp <;> omega) _ | refine .alloc ?_ _ | refine .drewN ?_ _ | refine .drew ?_ | refine .trans ?_ (by assumption))) ?_; clear hK K
     refine okList_step (fun w18_1 hw18_1 K hK => ?_)
     go_simp; refine hK _ _ (by (repeat with_reducible first | exact .refl _ | assumption | refine .setAt ?_ (by first | omega | simp <;> omega) _ | refine .setCells ?_ (by first | omega | simp <;> omega) _ | refine .alloc ?_ _ | refine .drewN ?_ _ | refine .drew ?_ | refine .trans ?_ (by assumption))) ?_; clear hK K
     refine okList_step (fun w18_2 hw18_2 K hK => ?_)
     go_simp; refine hK _ _ (by (repeat with_reducible first | exact .refl _ | assumption | refine .setAt ?_ (by first | omega | simp <;> omega) _ | refine .setCells ?_ (by first | omega | simp <;> omega) _ | refine .alloc ?_ _ | refine .drewN ?_ _ | refine .drew ?_ | refine .trans ?_ (by assumption))) ?_; clear hK K
     refine okList_step (fun w18_3 hw18_3 K hK => ?_)
     go_simp; refine hK _ _ (by (repeat with_reducible first | exact .refl _ | assumption | refine .setAt ?_ (by first | omega | simp <;> omega) _ | refine .setCells ?_ (by first | omega | simp <;> omega) _ | refine .alloc ?_ _ | refine .drewN ?_ _ | refine .drew ?_ | refine .trans ?_ (by assumption))) ?_; clear hK K
     refine okList_nil (fun w19 h19 => ?_); go_simp
     have hg19 : Grw w1 w19 := by (repeat with_reducible first | exact .refl _ | assumption | refine .setAt ?_ (by first | omega | simp <;> omega) _ | refine .setCells ?_ (by first | omega | simp <;> omega) _ | refine .alloc ?_ _ | refine .drewN ?_ _ | refine .drew ?_ | refine .trans ?_ (by assumption))
     have b0 := HB1.out
     have hB19_0 : Bk w19 (w.heap.size) 97 (encMfV m).toArray := (b0).grw hg19
     have hw19 : Grw w w19 := (hw1).trans hg19
     have hs19 : w.heap.size < w19.heap.size := by have h1 := hg19.size; have h2 := g1_0_l; (try simp at h1); omega
     have g19_0_l := hB19_0.lt
     have HB19 := Lib.hid (show _ from hB19_0); clear hB19_0
     clear g1_0_0 g1_0_1 g1_0_2 g1_0_l b0 HB1 hw1 hg19
     clear hw18_3 hw18_2 hw18_1 hw18_0 h19 hg18
     go_wp2_with fail
     go_meet
     case rel =>
       have er20 : r20 = (true) := R20.out.trans (by simp [hc2])
       subst er20
       have b0 := HB19.out
       exact ⟨rfl, hw19, b0⟩
 case rest =>
 obtain ⟨rfl, hw21, hB21_0⟩ := hcut
 obtain ⟨w21, rfl⟩ : ∃ x, x = wc := ⟨_, rfl⟩
 have g21_0_2 : w21.cell? ⟨w.heap.size, 2, none⟩ = some (.slice (m.pa) (m.pl.length) (m.pc)) := hB21_0.cell 2
 have g21_0_l := hB21_0.lt
 have HB21 := Lib.hid (show _ from hB21_0); clear hB21_0
 clear g1_0_0 g1_0_1 g1_0_2 g1_0_l HB1 hw1
 cases hc22 : (r20)
 · go_wp2_with fail
   (go_at_call 95; refine (containsPt_any m.pl _ _ _ 96 (vm1B) (H_m.out.1.grw (hw21)) H_m.out.2 call_96 (fun x _ W _ => vm1_any x W)).mono ?_; rintro e w23 ⟨rfl, hg23⟩)
   obtain ⟨r24, hr24⟩ : ∃ r : Bool, r = List.any m.pl (vm1B) := ⟨_, rfl⟩
   (try simp only [← hr24])
   have R24 := Lib.hid hr24; clear hr24
   have b0 := HB21.out
   have hB23_0 : Bk w23 (w.heap.size) 97 (encMfV m).toArray := (b0).grw hg23
   have hw23 : Grw w w23 := (hw21).trans hg23
   have hs23 : w.heap.size < w23.heap.size := by have h1 := hg23.size; have h2 := g21_0_l; (try simp at h1); omega
   have g23_0_l := hB23_0.lt
   have HB23 := Lib.hid (show _ from hB23_0); clear hB23_0
   clear g21_0_2 g21_0_l b0 HB21 hw21 hg23
   go_wp2_with fail
   have hF : validManifoldB m = (!r24) := by unfold validManifoldB; first | rfl | (simp only [← R24.out, ← R20.out, hc22, cond_true, cond_false]; done) | (simp only [← R24.out, ← R20.out, hc22, cond_true, cond_false]; rfl) | simp [← R24.out, ← R20.out, hc22]
   refine bodyPost_ret (v := .bool (!r24)) (by simp [results, Tryz.results43, go_sem, g23_0_l]) rfl ⟨by rw [hF], ?_⟩
   exact hw23
 · go_wp2_with fail
   have hF : validManifoldB m = false := by unfold validManifoldB; first | rfl | (simp only [← R20.out, hc22, cond_true, cond_false]; done) | (simp only [← R20.out, hc22, cond_true, cond_false]; rfl) | simp [← R20.out, hc22]
   refine bodyPost_ret (v := .bool (false)) (by simp [results, Tryz.results43, go_sem, g21_0_2, g21_0_l]) rfl ⟨by rw [hF], ?_⟩
   exact hw21
end
end Go.Proofs.YtokkghhmliplfaaGreat
