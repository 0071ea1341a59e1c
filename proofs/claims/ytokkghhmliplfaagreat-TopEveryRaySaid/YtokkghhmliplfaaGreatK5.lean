/- The row TopEveryRay of the program holds; part 6 of the proof. No condition. -/
import Derived.Test.YtokkghhmliplfaaGreatK4
import Derived.LoopN
set_option maxRecDepth 100000
set_option maxHeartbeats 12800000
set_option linter.all false
namespace Go.Proofs.YtokkghhmliplfaaGreat
section
open Go.RowKit Go.Sort
attribute [local go_sem] qAt qUpon okOp okUpon cell_in_grow frozen_in_grow
structure FixV where
 k : Int
 r : Int
 va : Option Addr
 vc : Nat
 vl : List P2
 den : Int
 fri : Int
 res : Int
 sen : Bool
 cat : Int
 mask : Int
 grp : Int
def FixV.d : FixV := ⟨0, 0, none, 0, [], 0, 0, 0, false, 0, 0, 0⟩
def encFixV (x : FixV) : List Value := [.int .i64 (x.k), .int .i64 (x.r), .slice (x.va) (x.vl.length) (x.vc), .int .i64 (x.den), .int .i64 (x.fri), .int .i64 (x.res), .bool (x.sen), .int .i64 (x.cat), .int .i64 (x.mask), .int .i64 (x.grp)]
theorem encFixV_eq (x : FixV) : (encFixV x).toArray = #[.int .i64 (x.k), .int .i64 (x.r), .slice (x.va) (x.vl.length) (x.vc), .int .i64 (x.den), .int .i64 (x.fri), .int .i64 (x.res), .bool (x.sen), .int .i64 (x.cat), .int .i64 (x.mask), .int .i64 (x.grp)] := rfl
attribute [local go_sem] encFixV_eq
structure BodyV where
 id : Int
 kd : Int
 px : Int
 py : Int
 an : Int
 vx : Int
 vy : Int
 av : Int
 fx : Int
 fy : Int
 tq : Int
 ld : Int
 ad : Int
 gs : Int
 bu : Bool
 fr : Bool
 ns : Bool
 sl : Bool
 idl : Int
 fa : Option Addr
 fc : Nat
 fl : List FixV
def BodyV.d : BodyV := ⟨0, 0, 0, 0, 0, 0, 0, 0, 0, 0, 0, 0, 0, 0, false, false, false, false, 0, none, 0, []⟩
def encBodyV (x : BodyV) : List Value := [.int .i64 (x.id), .int .i64 (x.kd), .int .i64 (x.px), .int .i64 (x.py), .int .i64 (x.an), .int .i64 (x.vx), .int .i64 (x.vy), .int .i64 (x.av), .int .i64 (x.fx), .int .i64 (x.fy), .int .i64 (x.tq), .int .i64 (x.ld), .int .i64 (x.ad), .int .i64 (x.gs), .bool (x.bu), .bool (x.fr), .bool (x.ns), .bool (x.sl), .int .i64 (x.idl), .slice (x.fa) (x.fl.length) (x.fc)]
theorem encBodyV_eq (x : BodyV) : (encBodyV x).toArray = #[.int .i64 (x.id), .int .i64 (x.kd), .int .i64 (x.px), .int .i64 (x.py), .int .i64 (x.an), .int .i64 (x.vx), .int .i64 (x.vy), .int .i64 (x.av), .int .i64 (x.fx), .int .i64 (x.fy), .int .i64 (x.tq), .int .i64 (x.ld), .int .i64 (x.ad), .int .i64 (x.gs), .bool (x.bu), .bool (x.fr), .bool (x.ns), .bool (x.sl), .int .i64 (x.idl), .slice (x.fa) (x.fl.length) (x.fc)] := rfl
attribute [local go_sem] encBodyV_eq
def FixOk (w : World) (f : FixV) : Prop := Sl 2 encV w f.va f.vl ∧ f.vl.length < 4611686018427387904
def BodyOk (w : World) (b : BodyV) : Prop := Sl 10 encFixV w b.fa b.fl ∧ b.fl.length < 4611686018427387904 ∧ ∀ x ∈ b.fl, FixOk w x
theorem FixOk.grw {w w' : World} {f : FixV} (h : FixOk w f) (hg : Grw w w') : FixOk w' f := ⟨h.1.grw hg, h.2⟩
theorem BodyOk.grw {w w' : World} {b : BodyV} (h : BodyOk w b) (hg : Grw w w') : BodyOk w' b := ⟨h.1.grw hg, h.2.1, fun x hx => (h.2.2 x hx).grw hg⟩
def eqB23 (a0 : Int) (a1 : Int) (b0 : Int) (b1 : Int) : Bool := (a0 == b0) && (a1 == b1)
theorem eqR23 (a0 : Int) (a1 : Int) (b0 : Int) (b1 : Int) (w : World) : (Op.equalIn 10000 23 (.agg #[.int .i64 (a0), .int .i64 (a1)]) (.agg #[.int .i64 (b0), .int .i64 (b1)])).run Tryz.prog w = .ok (eqB23 a0 a1 b0 b1) w := by
 unfold eqB23
 go_simp
 by_cases h0 : a0 = b0
 case neg => simp [h0]
 by_cases h1 : a1 = b1
 case neg => simp [h0, h1]
 simp [h0, h1]
attribute [local go_sem high] eqR23
theorem loadAt44 (x : Value) : Instr.loadAt 44 x = bigLoad 44 x := rfl
theorem storeAt44 (x v : Value) : Instr.storeAt 44 x v = bigStore 44 x v := rfl
theorem run_bl44 (w : World) (b o : Nat) (h : HaveAll w b o 20) : (bigLoad 44 (.pointer (some ⟨b, o, none⟩))).run Tryz.prog w = .ok (.agg (cellsAt w b o 20)) w := run_bigLoad (d := .struct (Tryz.prog.fieldsOf 44)) (by kernel_rfl) rfl (by kernel_rfl) h
theorem run_bs44 (w : World) (b o : Nat) (cs : Array Value) (hs : cs.size = 20) (h1 : cs.all (·.oneCell') = true) (h : There w b o 20) : (bigStore 44 (.pointer (some ⟨b, o, none⟩)) (.agg cs)).run Tryz.prog w = .ok () (w.setCells b o cs.toList) := run_bigStore (by kernel_rfl) hs h1 h
theorem loadAt58 (x : Value) : Instr.loadAt 58 x = bigLoad 58 x := rfl
theorem storeAt58 (x v : Value) : Instr.storeAt 58 x v = bigStore 58 x v := rfl
theorem run_bl58 (w : World) (b o : Nat) (h : HaveAll w b o 10) : (bigLoad 58 (.pointer (some ⟨b, o, none⟩))).run Tryz.prog w = .ok (.agg (cellsAt w b o 10)) w := run_bigLoad (d := .struct (Tryz.prog.fieldsOf 58)) (by kernel_rfl) rfl (by kernel_rfl) h
theorem run_bs58 (w : World) (b o : Nat) (cs : Array Value) (hs : cs.size = 10) (h1 : cs.all (·.oneCell') = true) (h : There w b o 10) : (bigStore 58 (.pointer (some ⟨b, o, none⟩)) (.agg cs)).run Tryz.prog w = .ok () (w.setCells b o cs.toList) := run_bigStore (by kernel_rfl) hs h1 h
attribute [local go_sem ↓] loadAt44 storeAt44 loadAt58 storeAt58
attribute [local go_sem] run_bl44 run_bs44 run_bl58 run_bs58 there_new there_alloc have_in_grow cells_in_grow oc_int oc_bool oc_slice oc_all oc_cons oc_nil List.size_toArray List.length_cons List.length_nil
def withinB (x lo hi : Int) : Bool := let r2 : Bool := (decide (lo ≤ x)) && (decide (x ≤ hi)); r2
theorem within_any (x lo hi : Int) (w : World) :
   Calls Tryz.prog 156 #[.int .i64 (x), .int .i64 (lo), .int .i64 (hi)] w fun e w' => e = .returned (.bool (withinB x lo hi)) ∧ w = w' := by
 go_enter Tryz.func156, Tryz.ntmps156
 go_upto_region 1 with (fail)
 obtain ⟨r2, hr2⟩ : ∃ r : Bool, r = ((decide (lo ≤ x)) && (decide (x ≤ hi))) := ⟨_, rfl⟩
 have R2 := Lib.hid hr2; clear hr2
 go_cut [6] (fun s6 xw => s6 = .bool (r2) ∧ w = xw)
 case first =>
   cases hc1 : (decide (lo ≤ x))
   · go_wp2_with fail
     go_meet
     case rel =>
       have er2 : r2 = (false) := R2.out.trans (by simp [hc1])
       subst er2
       exact ⟨rfl, rfl⟩
   · go_wp2_with fail
     go_meet
     case rel =>
       have er2 : r2 = (decide (x ≤ hi)) := R2.out.trans (by simp [hc1])
       subst er2
       exact ⟨rfl, rfl⟩
 case rest =>
 obtain ⟨rfl, rfl⟩ := hcut
 go_wp2_with fail
 have hF : withinB x lo hi = r2 := by unfold withinB; first | rfl | (simp only [← R2.out, cond_true, cond_false]; done) | (simp only [← R2.out, cond_true, cond_false]; rfl) | simp [← R2.out]
 refine bodyPost_ret (v := .bool (r2)) (by simp [results, Tryz.results156, go_sem]) rfl ⟨by rw [hF], ?_⟩
 rfl
def boundedB (x y m : Int) : Bool := let r3 : Bool := (withinB x (wrap64 (-m)) m) && (withinB y (wrap64 (-m)) m); r3
theorem bounded_any (x y m : Int) (w : World) :
   Calls Tryz.prog 155 #[.agg #[.int .i64 (x), .int .i64 (y)], .int .i64 (m)] w fun e w' => e = .returned (.bool (boundedB x y m)) ∧ Grw w w' := by
 go_enter Tryz.func155, Tryz.ntmps155
 go_upto_region 1 with (fail)
 refine wp_gen (fun xw => Grw w xw ∧ Bk xw (w.heap.size) 23 #[.int .i64 (x), .int .i64 (y)]) ⟨((Grw.refl w)).alloc _, (Bk.new' (by simp))⟩ ?_
 rintro w1 ⟨hw1, hB1_0⟩
 have g1_0_0 : w1.cell? ⟨w.heap.size, 0, none⟩ = some (.int .i64 (x)) := hB1_0.cell 0
 have g1_0_1 : w1.cell? ⟨w.heap.size, 1, none⟩ = some (.int .i64 (y)) := hB1_0.cell 1
 have g1_0_l := hB1_0.lt
 have HB1 := Lib.hid (show _ from hB1_0); clear hB1_0
 obtain ⟨r3, hr3⟩ : ∃ r : Bool, r = ((withinB x (wrap64 (-m)) m) && (withinB y (wrap64 (-m)) m)) := ⟨_, rfl⟩
 have R3 := Lib.hid hr3; clear hr3
 go_cut [4] (fun s4 xw => s4 = .bool (r3) ∧ w1 = xw)
 case first =>
   cases hc2 : (withinB x (wrap64 (-m)) m)
   · go_wp2_with fail
     (go_at_call 156; refine (within_any x (wrap64 (-m)) m _).mono ?_; rintro e w1 ⟨rfl, rfl⟩)
     go_wp2_with fail
     go_meet
     case rel =>
       have er3 : r3 = (false) := R3.out.trans (by simp [hc2])
       subst er3
       exact ⟨rfl, rfl⟩
   · go_wp2_with fail
     (go_at_call 156; refine (within_any x (wrap64 (-m)) m _).mono ?_; rintro e w1 ⟨rfl, rfl⟩)
     go_wp2_with fail
     (go_at_call 156; refine (within_any y (wrap64 (-m)) m _).mono ?_; rintro e w1 ⟨rfl, rfl⟩)
     go_wp2_with fail
     go_meet
     case rel =>
       have er3 : r3 = (withinB y (wrap64 (-m)) m) := R3.out.trans (by simp [hc2])
       subst er3
       exact ⟨rfl, rfl⟩
 case rest =>
 obtain ⟨rfl, rfl⟩ := hcut
 go_wp2_with fail
 have hF : boundedB x y m = r3 := by unfold boundedB; first | rfl | (simp only [← R3.out, cond_true, cond_false]; done) | (simp only [← R3.out, cond_true, cond_false]; rfl) | simp [← R3.out]
 refine bodyPost_ret (v := .bool (r3)) (by simp [results, Tryz.results155, go_sem, g1_0_0, g1_0_1, g1_0_l]) rfl ⟨by rw [hF], ?_⟩
 exact hw1
def inWorldB (x : Int) : Bool := let r2 : Bool := (decide ((-268435456) ≤ x)) && (decide (x ≤ 268435456)); r2
theorem inWorld_any (x : Int) (w : World) :
   Calls Tryz.prog 226 #[.int .i64 (x)] w fun e w' => e = .returned (.bool (inWorldB x)) ∧ w = w' := by
 go_enter Tryz.func226, Tryz.ntmps226
 go_upto_region 1 with (fail)
 obtain ⟨r2, hr2⟩ : ∃ r : Bool, r = ((decide ((-268435456) ≤ x)) && (decide (x ≤ 268435456))) := ⟨_, rfl⟩
 have R2 := Lib.hid hr2; clear hr2
 go_cut [2] (fun s2 xw => s2 = .bool (r2) ∧ w = xw)
 case first =>
   cases hc1 : (decide ((-268435456) ≤ x))
   · go_wp2_with fail
     go_meet
     case rel =>
       have er2 : r2 = (false) := R2.out.trans (by simp [hc1])
       subst er2
       exact ⟨rfl, rfl⟩
   · go_wp2_with fail
     go_meet
     case rel =>
       have er2 : r2 = (decide (x ≤ 268435456)) := R2.out.trans (by simp [hc1])
       subst er2
       exact ⟨rfl, rfl⟩
 case rest =>
 obtain ⟨rfl, rfl⟩ := hcut
 go_wp2_with fail
 have hF : inWorldB x = r2 := by unfold inWorldB; first | rfl | (simp only [← R2.out, cond_true, cond_false]; done) | (simp only [← R2.out, cond_true, cond_false]; rfl) | simp [← R2.out]
 refine bodyPost_ret (v := .bool (r2)) (by simp [results, Tryz.results226, go_sem]) rfl ⟨by rw [hF], ?_⟩
 rfl
def tvalidB (x y a : Int) : Bool := let r5 : Bool := (inWorldB x) && ((inWorldB y) && ((decide ((-205888) ≤ a)) && (decide (a < 205888)))); r5
theorem tvalid_any (x y a : Int) (w : World) :
   Calls Tryz.prog 157 #[.agg #[.int .i64 (x), .int .i64 (y), .int .i64 (a)]] w fun e w' => e = .returned (.bool (tvalidB x y a)) ∧ Grw w w' := by
 go_enter Tryz.func157, Tryz.ntmps157
 go_upto_region 1 with (fail)
 refine wp_gen (fun xw => Grw w xw ∧ Bk xw (w.heap.size) 41 #[.int .i64 (x), .int .i64 (y), .int .i64 (a)]) ⟨((Grw.refl w)).alloc _, (Bk.new' (by simp))⟩ ?_
 rintro w1 ⟨hw1, hB1_0⟩
 have g1_0_0 : w1.cell? ⟨w.heap.size, 0, none⟩ = some (.int .i64 (x)) := hB1_0.cell 0
 have g1_0_1 : w1.cell? ⟨w.heap.size, 1, none⟩ = some (.int .i64 (y)) := hB1_0.cell 1
 have g1_0_2 : w1.cell? ⟨w.heap.size, 2, none⟩ = some (.int .i64 (a)) := hB1_0.cell 2
 have g1_0_l := hB1_0.lt
 have HB1 := Lib.hid (show _ from hB1_0); clear hB1_0
 obtain ⟨r5, hr5⟩ : ∃ r : Bool, r = ((inWorldB x) && ((inWorldB y) && ((decide ((-205888) ≤ a)) && (decide (a < 205888))))) := ⟨_, rfl⟩
 have R5 := Lib.hid hr5; clear hr5
 go_cut [2] (fun s2 xw => s2 = .bool (r5) ∧ w1 = xw)
 case first =>
   cases hc2 : (inWorldB x)
   · go_wp2_with fail
     (go_at_call 226; refine (inWorld_any x _).mono ?_; rintro e w1 ⟨rfl, rfl⟩)
     go_wp2_with fail
     go_meet
     case rel =>
       have er5 : r5 = (false) := R5.out.trans (by simp [hc2])
       subst er5
       exact ⟨rfl, rfl⟩
   · cases hc3 : (inWorldB y)
     · go_wp2_with fail
       (go_at_call 226; refine (inWorld_any x _).mono ?_; rintro e w1 ⟨rfl, rfl⟩)
       go_wp2_with fail
       (go_at_call 226; refine (inWorld_any y _).mono ?_; rintro e w1 ⟨rfl, rfl⟩)
       go_wp2_with fail
       go_meet
       case rel =>
         have er5 : r5 = (false) := R5.out.trans (by simp [hc2, hc3])
         subst er5
         exact ⟨rfl, rfl⟩
     · cases hc4 : (decide ((-205888) ≤ a))
       · go_wp2_with fail
         (go_at_call 226; refine (inWorld_any x _).mono ?_; rintro e w1 ⟨rfl, rfl⟩)
         go_wp2_with fail
         (go_at_call 226; refine (inWorld_any y _).mono ?_; rintro e w1 ⟨rfl, rfl⟩)
         go_wp2_with fail
         go_meet
         case rel =>
           have er5 : r5 = (false) := R5.out.trans (by simp [hc2, hc3, hc4])
           subst er5
           exact ⟨rfl, rfl⟩
       · go_wp2_with fail
         (go_at_call 226; refine (inWorld_any x _).mono ?_; rintro e w1 ⟨rfl, rfl⟩)
         go_wp2_with fail
         (go_at_call 226; refine (inWorld_any y _).mono ?_; rintro e w1 ⟨rfl, rfl⟩)
         go_wp2_with fail
         go_meet
         case rel =>
           have er5 : r5 = (decide (a < 205888)) := R5.out.trans (by simp [hc2, hc3, hc4])
           subst er5
           exact ⟨rfl, rfl⟩
 case rest =>
 obtain ⟨rfl, rfl⟩ := hcut
 go_wp2_with fail
 have hF : tvalidB x y a = r5 := by unfold tvalidB; first | rfl | (simp only [← R5.out, cond_true, cond_false]; done) | (simp only [← R5.out, cond_true, cond_false]; rfl) | simp [← R5.out]
 refine bodyPost_ret (v := .bool (r5)) (by simp [results, Tryz.results157, go_sem, g1_0_0, g1_0_1, g1_0_2, g1_0_l]) rfl ⟨by rw [hF], ?_⟩
 exact hw1
def movingB (b : BodyV) : Bool := let r3 : Bool := (!(eqB23 b.vx b.vy 0 0)) || (b.av != 0); r3
theorem moving_any (b : BodyV) (w : World) :
   Calls Tryz.prog 158 #[.agg (encBodyV b).toArray] w fun e w' => e = .returned (.bool (movingB b)) ∧ Grw w w' := by
 go_enter Tryz.func158, Tryz.ntmps158
 go_upto_region 1 with (fail)
 refine wp_gen (fun xw => Grw w xw ∧ Bk xw (w.heap.size) 44 (encBodyV b).toArray) ⟨((Grw.refl w)).alloc _, (Bk.new' (by simp))⟩ ?_
 rintro w1 ⟨hw1, hB1_0⟩
 have g1_0_5 : w1.cell? ⟨w.heap.size, 5, none⟩ = some (.int .i64 (b.vx)) := hB1_0.cell 5
 have g1_0_6 : w1.cell? ⟨w.heap.size, 6, none⟩ = some (.int .i64 (b.vy)) := hB1_0.cell 6
 have g1_0_7 : w1.cell? ⟨w.heap.size, 7, none⟩ = some (.int .i64 (b.av)) := hB1_0.cell 7
 have g1_0_l := hB1_0.lt
 have HB1 := Lib.hid (show _ from hB1_0); clear hB1_0
 obtain ⟨r3, hr3⟩ : ∃ r : Bool, r = ((!(eqB23 b.vx b.vy 0 0)) || (b.av != 0)) := ⟨_, rfl⟩
 have R3 := Lib.hid hr3; clear hr3
 go_cut [2] (fun s2 xw => s2 = .bool (r3) ∧ w1 = xw)
 case first =>
   cases hc2 : (!(eqB23 b.vx b.vy 0 0))
   · go_wp2_with fail
     go_meet
     case rel =>
       have er3 : r3 = (b.av != 0) := R3.out.trans (by simp [hc2])
       subst er3
       exact ⟨rfl, rfl⟩
   · go_wp2_with fail
     go_meet
     case rel =>
       have er3 : r3 = (true) := R3.out.trans (by simp [hc2])
       subst er3
       exact ⟨rfl, rfl⟩
 case rest =>
 obtain ⟨rfl, rfl⟩ := hcut
 go_wp2_with fail
 have hF : movingB b = r3 := by unfold movingB; first | rfl | (simp only [← R3.out, cond_true, cond_false]; done) | (simp only [← R3.out, cond_true, cond_false]; rfl) | simp [← R3.out]
 refine bodyPost_ret (v := .bool (r3)) (by simp [results, Tryz.results158, go_sem, g1_0_5, g1_0_6, g1_0_7, g1_0_l]) rfl ⟨by rw [hF], ?_⟩
 exact hw1
def binRangeB (b : BodyV) : Bool := let r5 : Bool := (boundedB b.vx b.vy 16777216) && (withinB b.av (-4194304) 4194304); let r10 : Bool := (boundedB b.fx b.fy 536870911) && (withinB b.tq (-536870911) 536870911); let r13 : Bool := (withinB b.ld 0 65536) && (withinB b.ad 0 65536); let r15 : Bool := withinB b.gs (-262144) 262144; let r28 : Bool := (withinB b.id 1 1099511627776) && ((tvalidB b.px b.py b.an) && (r5 && (r10 && (r13 && (r15 && (withinB b.idl 0 1048576)))))); r28
theorem binRange_any (b : BodyV) (w : World) :
   Calls Tryz.prog 86 #[.agg (encBodyV b).toArray] w fun e w' => e = .returned (.bool (binRangeB b)) ∧ Grw w w' := by
 go_enter Tryz.func86, Tryz.ntmps86
 go_upto_region 1 with (fail)
 refine wp_gen (fun xw => Grw w xw ∧ Bk xw (w.heap.size) 44 (encBodyV b).toArray) ⟨((Grw.refl w)).alloc _, (Bk.new' (by simp))⟩ ?_
 rintro w1 ⟨hw1, hB1_0⟩
 have g1_0_5 : w1.cell? ⟨w.heap.size, 5, none⟩ = some (.int .i64 (b.vx)) := hB1_0.cell 5
 have g1_0_6 : w1.cell? ⟨w.heap.size, 6, none⟩ = some (.int .i64 (b.vy)) := hB1_0.cell 6
 have g1_0_l := hB1_0.lt
 have HB1 := Lib.hid (show _ from hB1_0); clear hB1_0
 obtain ⟨r5, hr5⟩ : ∃ r : Bool, r = ((boundedB b.vx b.vy 16777216) && (withinB b.av (-4194304) 4194304)) := ⟨_, rfl⟩
 have R5 := Lib.hid hr5; clear hr5
 go_cut [3] (fun s3 xw => s3 = .bool (r5) ∧ Grw w xw ∧ Bk xw (w.heap.size) 44 (encBodyV b).toArray)
 case first =>
   cases hc2 : (boundedB b.vx b.vy 16777216)
   · go_wp2_with fail
     (go_at_call 155; refine (bounded_any b.vx b.vy 16777216 _).mono ?_; rintro e w3 ⟨rfl, hg3⟩)
     have b0 := HB1.out
     have hB3_0 : Bk w3 (w.heap.size) 44 (encBodyV b).toArray := (b0).grw hg3
     have hw3 : Grw w w3 := (hw1).trans hg3
     have hs3 : w.heap.size < w3.heap.size := by have h1 := hg3.size; have h2 := g1_0_l; (try simp at h1); omega
     have g3_0_l := hB3_0.lt
     have HB3 := Lib.hid (show _ from hB3_0); clear hB3_0
     clear g1_0_5 g1_0_6 g1_0_l b0 HB1 hw1 hg3
     go_wp2_with fail
     go_meet
     case rel =>
       have er5 : r5 = (false) := R5.out.trans (by simp [hc2])
       subst er5
       have b0 := HB3.out
       exact ⟨rfl, hw3, b0⟩
   · go_wp2_with fail
     (go_at_call 155; refine (bounded_any b.vx b.vy 16777216 _).mono ?_; rintro e w4 ⟨rfl, hg4⟩)
     have b0 := HB1.out
     have hB4_0 : Bk w4 (w.heap.size) 44 (encBodyV b).toArray := (b0).grw hg4
     have hw4 : Grw w w4 := (hw1).trans hg4
     have hs4 : w.heap.size < w4.heap.size := by have h1 := hg4.size; have h2 := g1_0_l; (try simp at h1); omega
     have g4_0_7 : w4.cell? ⟨w.heap.size, 7, none⟩ = some (.int .i64 (b.av)) := hB4_0.cell 7
     have g4_0_l := hB4_0.lt
     have HB4 := Lib.hid (show _ from hB4_0); clear hB4_0
     clear g1_0_5 g1_0_6 g1_0_l b0 HB1 hw1 hg4
     go_wp2_with fail
     (go_at_call 156; refine (within_any b.av (-4194304) 4194304 _).mono ?_; rintro e w1 ⟨rfl, rfl⟩)
     go_wp2_with fail
     go_meet
     case rel =>
       have er5 : r5 = (withinB b.av (-4194304) 4194304) := R5.out.trans (by simp [hc2])
       subst er5
       have b0 := HB4.out
       exact ⟨rfl, hw4, b0⟩
 case rest =>
 obtain ⟨rfl, hw6, hB6_0⟩ := hcut
 obtain ⟨w6, rfl⟩ : ∃ x, x = wc := ⟨_, rfl⟩
 have g6_0_8 : w6.cell? ⟨w.heap.size, 8, none⟩ = some (.int .i64 (b.fx)) := hB6_0.cell 8
 have g6_0_9 : w6.cell? ⟨w.heap.size, 9, none⟩ = some (.int .i64 (b.fy)) := hB6_0.cell 9
 have g6_0_l := hB6_0.lt
 have HB6 := Lib.hid (show _ from hB6_0); clear hB6_0
 clear g1_0_5 g1_0_6 g1_0_l HB1 hw1
 go_upto_region 2 with (fail)
 obtain ⟨r10, hr10⟩ : ∃ r : Bool, r = ((boundedB b.fx b.fy 536870911) && (withinB b.tq (-536870911) 536870911)) := ⟨_, rfl⟩
 have R10 := Lib.hid hr10; clear hr10
 go_cut [4] (fun s4 xw => s4 = .bool (r10) ∧ Grw w xw ∧ Bk xw (w.heap.size) 44 (encBodyV b).toArray)
 case first =>
   cases hc7 : (boundedB b.fx b.fy 536870911)
   · go_wp2_with fail
     (go_at_call 155; refine (bounded_any b.fx b.fy 536870911 _).mono ?_; rintro e w8 ⟨rfl, hg8⟩)
     have b0 := HB6.out
     have hB8_0 : Bk w8 (w.heap.size) 44 (encBodyV b).toArray := (b0).grw hg8
     have hw8 : Grw w w8 := (hw6).trans hg8
     have hs8 : w.heap.size < w8.heap.size := by have h1 := hg8.size; have h2 := g6_0_l; (try simp at h1); omega
     have g8_0_l := hB8_0.lt
     have HB8 := Lib.hid (show _ from hB8_0); clear hB8_0
     clear g6_0_8 g6_0_9 g6_0_l b0 HB6 hw6 hg8
     go_wp2_with fail
     go_meet
     case rel =>
       have er10 : r10 = (false) := R10.out.trans (by simp [hc7])
       subst er10
       have b0 := HB8.out
       exact ⟨rfl, hw8, b0⟩
   · go_wp2_with fail
     (go_at_call 155; refine (bounded_any b.fx b.fy 536870911 _).mono ?_; rintro e w9 ⟨rfl, hg9⟩)
     have b0 := HB6.out
     have hB9_0 : Bk w9 (w.heap.size) 44 (encBodyV b).toArray := (b0).grw hg9
     have hw9 : Grw w w9 := (hw6).trans hg9
     have hs9 : w.heap.size < w9.heap.size := by have h1 := hg9.size; have h2 := g6_0_l; (try simp at h1); omega
     have g9_0_10 : w9.cell? ⟨w.heap.size, 10, none⟩ = some (.int .i64 (b.tq)) := hB9_0.cell 10
     have g9_0_l := hB9_0.lt
     have HB9 := Lib.hid (show _ from hB9_0); clear hB9_0
     clear g6_0_8 g6_0_9 g6_0_l b0 HB6 hw6 hg9
     go_wp2_with fail
     (go_at_call 156; refine (within_any b.tq (-536870911) 536870911 _).mono ?_; rintro e w1 ⟨rfl, rfl⟩)
     go_wp2_with fail
     go_meet
     case rel =>
       have er10 : r10 = (withinB b.tq (-536870911) 536870911) := R10.out.trans (by simp [hc7])
       subst er10
       have b0 := HB9.out
       exact ⟨rfl, hw9, b0⟩
 case rest =>
 obtain ⟨rfl, hw11, hB11_0⟩ := hcut
 obtain ⟨w11, rfl⟩ : ∃ x, x = wc := ⟨_, rfl⟩
 have g11_0_0 : w11.cell? ⟨w.heap.size, 0, none⟩ = some (.int .i64 (b.id)) := hB11_0.cell 0
 have g11_0_2 : w11.cell? ⟨w.heap.size, 2, none⟩ = some (.int .i64 (b.px)) := hB11_0.cell 2
 have g11_0_3 : w11.cell? ⟨w.heap.size, 3, none⟩ = some (.int .i64 (b.py)) := hB11_0.cell 3
 have g11_0_4 : w11.cell? ⟨w.heap.size, 4, none⟩ = some (.int .i64 (b.an)) := hB11_0.cell 4
 have g11_0_11 : w11.cell? ⟨w.heap.size, 11, none⟩ = some (.int .i64 (b.ld)) := hB11_0.cell 11
 have g11_0_12 : w11.cell? ⟨w.heap.size, 12, none⟩ = some (.int .i64 (b.ad)) := hB11_0.cell 12
 have g11_0_13 : w11.cell? ⟨w.heap.size, 13, none⟩ = some (.int .i64 (b.gs)) := hB11_0.cell 13
 have g11_0_l := hB11_0.lt
 have HB11 := Lib.hid (show _ from hB11_0); clear hB11_0
 clear g6_0_8 g6_0_9 g6_0_l HB6 hw6
 go_upto_region 3 with (fail)
 obtain ⟨r13, hr13⟩ : ∃ r : Bool, r = ((withinB b.ld 0 65536) && (withinB b.ad 0 65536)) := ⟨_, rfl⟩
 have R13 := Lib.hid hr13; clear hr13
 go_cut [5] (fun s5 xw => s5 = .bool (r13) ∧ w11 = xw)
 case first =>
   cases hc12 : (withinB b.ld 0 65536)
   · go_wp2_with fail
     (go_at_call 156; refine (within_any b.ld 0 65536 _).mono ?_; rintro e w1 ⟨rfl, rfl⟩)
     go_wp2_with fail
     go_meet
     case rel =>
       have er13 : r13 = (false) := R13.out.trans (by simp [hc12])
       subst er13
       exact ⟨rfl, rfl⟩
   · go_wp2_with fail
     (go_at_call 156; refine (within_any b.ld 0 65536 _).mono ?_; rintro e w1 ⟨rfl, rfl⟩)
     go_wp2_with fail
     (go_at_call 156; refine (within_any b.ad 0 65536 _).mono ?_; rintro e w1 ⟨rfl, rfl⟩)
     go_wp2_with fail
     go_meet
     case rel =>
       have er13 : r13 = (withinB b.ad 0 65536) := R13.out.trans (by simp [hc12])
       subst er13
       exact ⟨rfl, rfl⟩
 case rest =>
 obtain ⟨rfl, rfl⟩ := hcut
 go_wp2_with fail
 (go_at_call 156; refine (within_any b.gs (-262144) 262144 _).mono ?_; rintro e w1 ⟨rfl, rfl⟩)
 obtain ⟨r15, hr15⟩ : ∃ r : Bool, r = withinB b.gs (-262144) 262144 := ⟨_, rfl⟩
 (try simp only [← hr15])
 have R15 := Lib.hid hr15; clear hr15
 go_upto_region 5 with (fail)
 obtain ⟨r28, hr28⟩ : ∃ r : Bool, r = ((withinB b.id 1 1099511627776) && ((tvalidB b.px b.py b.an) && (r5 && (r10 && (r13 && (r15 && (withinB b.idl 0 1048576))))))) := ⟨_, rfl⟩
 have R28 := Lib.hid hr28; clear hr28
 go_cut [2, 3, 4, 5, 6, 33] (fun s2 _s3 _s4 _s5 _s6 _s33 xw => s2 = .bool (r28) ∧ Grw w xw)
 case first =>
   cases hc16 : (withinB b.id 1 1099511627776)
   · go_wp2_with fail
     (go_at_call 156; refine (within_any b.id 1 1099511627776 _).mono ?_; rintro e w1 ⟨rfl, rfl⟩)
     go_wp2_with fail
     go_meet
     case rel =>
       have er28 : r28 = (false) := R28.out.trans (by simp [hc16])
       subst er28
       have b0 := HB11.out
       exact ⟨rfl, hw11⟩
   · cases hc17 : (tvalidB b.px b.py b.an)
     · go_wp2_with fail
       (go_at_call 156; refine (within_any b.id 1 1099511627776 _).mono ?_; rintro e w1 ⟨rfl, rfl⟩)
       go_wp2_with fail
       (go_at_call 157; refine (tvalid_any b.px b.py b.an _).mono ?_; rintro e w18 ⟨rfl, hg18⟩)
       have b0 := HB11.out
       have hB18_0 : Bk w18 (w.heap.size) 44 (encBodyV b).toArray := (b0).grw hg18
       have hw18 : Grw w w18 := (hw11).trans hg18
       have hs18 : w.heap.size < w18.heap.size := by have h1 := hg18.size; have h2 := g11_0_l; (try simp at h1); omega
       have g18_0_l := hB18_0.lt
       have HB18 := Lib.hid (show _ from hB18_0); clear hB18_0
       clear g11_0_0 g11_0_2 g11_0_3 g11_0_4 g11_0_11 g11_0_12 g11_0_13 g11_0_l b0 HB11 hw11 hg18
       go_wp2_with fail
       go_meet
       case rel =>
         have er28 : r28 = (false) := R28.out.trans (by simp [hc16, hc17])
         subst er28
         have b0 := HB18.out
         exact ⟨rfl, hw18⟩
     · cases hc19 : (r5)
       · go_wp2_with fail
         (go_at_call 156; refine (within_any b.id 1 1099511627776 _).mono ?_; rintro e w1 ⟨rfl, rfl⟩)
         go_wp2_with fail
         (go_at_call 157; refine (tvalid_any b.px b.py b.an _).mono ?_; rintro e w20 ⟨rfl, hg20⟩)
         have b0 := HB11.out
         have hB20_0 : Bk w20 (w.heap.size) 44 (encBodyV b).toArray := (b0).grw hg20
         have hw20 : Grw w w20 := (hw11).trans hg20
         have hs20 : w.heap.size < w20.heap.size := by have h1 := hg20.size; have h2 := g11_0_l; (try simp at h1); omega
         have g20_0_l := hB20_0.lt
         have HB20 := Lib.hid (show _ from hB20_0); clear hB20_0
         clear g11_0_0 g11_0_2 g11_0_3 g11_0_4 g11_0_11 g11_0_12 g11_0_13 g11_0_l b0 HB11 hw11 hg20
         go_wp2_with fail
         go_meet
         case rel =>
           have er28 : r28 = (false) := R28.out.trans (by simp [hc16, hc17, hc19])
           subst er28
           have b0 := HB20.out
           exact ⟨rfl, hw20⟩
       · cases hc21 : (r10)
         · go_wp2_with fail
           (go_at_call 156; refine (within_any b.id 1 1099511627776 _).mono ?_; rintro e w1 ⟨rfl, rfl⟩)
           go_wp2_with fail
           (go_at_call 157; refine (tvalid_any b.px b.py b.an _).mono ?_; rintro e w22 ⟨rfl, hg22⟩)
           have b0 := HB11.out
           have hB22_0 : Bk w22 (w.heap.size) 44 (encBodyV b).toArray := (b0).grw hg22
           have hw22 : Grw w w22 := (hw11).trans hg22
           have hs22 : w.heap.size < w22.heap.size := by have h1 := hg22.size; have h2 := g11_0_l; (try simp at h1); omega
           have g22_0_l := hB22_0.lt
           have HB22 := Lib.hid (show _ from hB22_0); clear hB22_0
           clear g11_0_0 g11_0_2 g11_0_3 g11_0_4 g11_0_11 g11_0_12 g11_0_13 g11_0_l b0 HB11 hw11 hg22
           go_wp2_with fail
           go_meet
           case rel =>
             have er28 : r28 = (false) := R28.out.trans (by simp [hc16, hc17, hc19, hc21])
             subst er28
             have b0 := HB22.out
             exact ⟨rfl, hw22⟩
         · cases hc23 : (r13)
           · go_wp2_with fail
             (go_at_call 156; refine (within_any b.id 1 1099511627776 _).mono ?_; rintro e w1 ⟨rfl, rfl⟩)
             go_wp2_with fail
             (go_at_call 157; refine (tvalid_any b.px b.py b.an _).mono ?_; rintro e w24 ⟨rfl, hg24⟩)
             have b0 := HB11.out
             have hB24_0 : Bk w24 (w.heap.size) 44 (encBodyV b).toArray := (b0).grw hg24
             have hw24 : Grw w w24 := (hw11).trans hg24
             have hs24 : w.heap.size < w24.heap.size := by have h1 := hg24.size; have h2 := g11_0_l; (try simp at h1); omega
             have g24_0_l := hB24_0.lt
             have HB24 := Lib.hid (show _ from hB24_0); clear hB24_0
             clear g11_0_0 g11_0_2 g11_0_3 g11_0_4 g11_0_11 g11_0_12 g11_0_13 g11_0_l b0 HB11 hw11 hg24
             go_wp2_with fail
             go_meet
             case rel =>
               have er28 : r28 = (false) := R28.out.trans (by simp [hc16, hc17, hc19, hc21, hc23])
               subst er28
               have b0 := HB24.out
               exact ⟨rfl, hw24⟩
           · cases hc25 : (r15)
             · go_wp2_with fail
               (go_at_call 156; refine (within_any b.id 1 1099511627776 _).mono ?_; rintro e w1 ⟨rfl, rfl⟩)
               go_wp2_with fail
               (go_at_call 157; refine (tvalid_any b.px b.py b.an _).mono ?_; rintro e w26 ⟨rfl, hg26⟩)
               have b0 := HB11.out
               have hB26_0 : Bk w26 (w.heap.size) 44 (encBodyV b).toArray := (b0).grw hg26
               have hw26 : Grw w w26 := (hw11).trans hg26
               have hs26 : w.heap.size < w26.heap.size := by have h1 := hg26.size; have h2 := g11_0_l; (try simp at h1); omega
               have g26_0_l := hB26_0.lt
               have HB26 := Lib.hid (show _ from hB26_0); clear hB26_0
               clear g11_0_0 g11_0_2 g11_0_3 g11_0_4 g11_0_11 g11_0_12 g11_0_13 g11_0_l b0 HB11 hw11 hg26
               go_wp2_with fail
               go_meet
               case rel =>
                 have er28 : r28 = (false) := R28.out.trans (by simp [hc16, hc17, hc19, hc21, hc23, hc25])
                 subst er28
                 have b0 := HB26.out
                 exact ⟨rfl, hw26⟩
             · go_wp2_with fail
               (go_at_call 156; refine (within_any b.id 1 1099511627776 _).mono ?_; rintro e w1 ⟨rfl, rfl⟩)
               go_wp2_with fail
               (go_at_call 157; refine (tvalid_any b.px b.py b.an _).mono ?_; rintro e w27 ⟨rfl, hg27⟩)
               have b0 := HB11.out
               have hB27_0 : Bk w27 (w.heap.size) 44 (encBodyV b).toArray := (b0).grw hg27
               have hw27 : Grw w w27 := (hw11).trans hg27
               have hs27 : w.heap.size < w27.heap.size := by have h1 := hg27.size; have h2 := g11_0_l; (try simp at h1); omega
               have g27_0_18 : w27.cell? ⟨w.heap.size, 18, none⟩ = some (.int .i64 (b.idl)) := hB27_0.cell 18
               have g27_0_l := hB27_0.lt
               have HB27 := Lib.hid (show _ from hB27_0); clear hB27_0
               clear g11_0_0 g11_0_2 g11_0_3 g11_0_4 g11_0_11 g11_0_12 g11_0_13 g11_0_l b0 HB11 hw11 hg27
               go_wp2_with fail
               (go_at_call 156; refine (within_any b.idl 0 1048576 _).mono ?_; rintro e w1 ⟨rfl, rfl⟩)
               go_wp2_with fail
               go_meet
               case rel =>
                 have er28 : r28 = (withinB b.idl 0 1048576) := R28.out.trans (by simp [hc16, hc17, hc19, hc21, hc23, hc25])
                 subst er28
                 have b0 := HB27.out
                 exact ⟨rfl, hw27⟩
 case rest =>
 obtain ⟨rfl, hw29⟩ := hcut
 obtain ⟨w29, rfl⟩ : ∃ x, x = wc := ⟨_, rfl⟩
 clear g11_0_0 g11_0_2 g11_0_3 g11_0_4 g11_0_11 g11_0_12 g11_0_13 g11_0_l HB11 hw11
 go_wp2_with fail
 have hF : binRangeB b = r28 := by unfold binRangeB; first | rfl | (simp only [← R28.out, ← R15.out, ← R13.out, ← R10.out, ← R5.out, cond_true, cond_false]; done) | (simp only [← R28.out, ← R15.out, ← R13.out, ← R10.out, ← R5.out, cond_true, cond_false]; rfl) | simp [← R28.out, ← R15.out, ← R13.out, ← R10.out, ← R5.out]
 refine bodyPost_ret (v := .bool (r28)) (by simp [results, Tryz.results86, go_sem]) rfl ⟨by rw [hF], ?_⟩
 exact hw29
def consistentB (b : BodyV) : Bool := let r3 : Bool := (!(eqB23 b.fx b.fy 0 0)) || (b.tq != 0); let r9 : Bool := (b.kd == 1) && ((movingB b) || r3); bif r9 then (false) else (let r14 : Bool := (b.kd != 3) && (b.sl || b.bu); bif r14 then (false) else (let r19 : Bool := (!b.sl) || (!(movingB b)); r19))
theorem consistent_any (b : BodyV) (w : World) :
   Calls Tryz.prog 88 #[.agg (encBodyV b).toArray] w fun e w' => e = .returned (.bool (consistentB b)) ∧ Grw w w' := by
 go_enter Tryz.func88, Tryz.ntmps88
 go_upto_region 1 with (fail)
 refine wp_gen (fun xw => Grw w xw ∧ Bk xw (w.heap.size) 44 (encBodyV b).toArray) ⟨((Grw.refl w)).alloc _, (Bk.new' (by simp))⟩ ?_
 rintro w1 ⟨hw1, hB1_0⟩
 have g1_0_1 : w1.cell? ⟨w.heap.size, 1, none⟩ = some (.int .i64 (b.kd)) := hB1_0.cell 1
 have g1_0_8 : w1.cell? ⟨w.heap.size, 8, none⟩ = some (.int .i64 (b.fx)) := hB1_0.cell 8
 have g1_0_9 : w1.cell? ⟨w.heap.size, 9, none⟩ = some (.int .i64 (b.fy)) := hB1_0.cell 9
 have g1_0_10 : w1.cell? ⟨w.heap.size, 10, none⟩ = some (.int .i64 (b.tq)) := hB1_0.cell 10
 have gA1_0_0_20 : HaveAll w1 (w.heap.size) 0 20 := hB1_0.have 0 20 (Nat.le_of_ble_eq_true rfl)
 have gC1_0_0_20 : cellsAt w1 (w.heap.size) 0 20 = (encBodyV b).toArray := hB1_0.cells' 0 20 _ rfl rfl
 have g1_0_l := hB1_0.lt
 have HB1 := Lib.hid (show _ from hB1_0); clear hB1_0
 obtain ⟨r3, hr3⟩ : ∃ r : Bool, r = ((!(eqB23 b.fx b.fy 0 0)) || (b.tq != 0)) := ⟨_, rfl⟩
 have R3 := Lib.hid hr3; clear hr3
 go_cut [3] (fun s3 xw => s3 = .bool (r3) ∧ w1 = xw)
 case first =>
   cases hc2 : (!(eqB23 b.fx b.fy 0 0))
   · go_wp2_with fail
     go_meet
     case rel =>
       have er3 : r3 = (b.tq != 0) := R3.out.trans (by simp [hc2])
       subst er3
       exact ⟨rfl, rfl⟩
   · go_wp2_with fail
     go_meet
     case rel =>
       have er3 : r3 = (true) := R3.out.trans (by simp [hc2])
       subst er3
       exact ⟨rfl, rfl⟩
 case rest =>
 obtain ⟨rfl, rfl⟩ := hcut
 go_upto_region 2 with (fail)
 obtain ⟨r9, hr9⟩ : ∃ r : Bool, r = ((b.kd == 1) && ((movingB b) || r3)) := ⟨_, rfl⟩
 have R9 := Lib.hid hr9; clear hr9
 go_cut [13] (fun s13 xw => s13 = .bool (r9) ∧ Grw w xw ∧ Bk xw (w.heap.size) 44 (encBodyV b).toArray)
 case first =>
   cases hc5 : (b.kd == 1)
   · go_wp2_with fail
     go_meet
     case rel =>
       have er9 : r9 = (false) := R9.out.trans (by simp [hc5])
       subst er9
       have b0 := HB1.out
       exact ⟨rfl, hw1, b0⟩
   · cases hc6 : (movingB b)
     · go_wp2_with fail
       (go_at_call 158; refine (moving_any b _).mono ?_; rintro e w7 ⟨rfl, hg7⟩)
       have b0 := HB1.out
       have hB7_0 : Bk w7 (w.heap.size) 44 (encBodyV b).toArray := (b0).grw hg7
       have hw7 : Grw w w7 := (hw1).trans hg7
       have hs7 : w.heap.size < w7.heap.size := by have h1 := hg7.size; have h2 := g1_0_l; (try simp at h1); omega
       have g7_0_l := hB7_0.lt
       have HB7 := Lib.hid (show _ from hB7_0); clear hB7_0
       clear g1_0_1 g1_0_8 g1_0_9 g1_0_10 gA1_0_0_20 gC1_0_0_20 g1_0_l b0 HB1 hw1 hg7
       go_wp2_with fail
       go_meet
       case rel =>
         have er9 : r9 = (r3) := R9.out.trans (by simp [hc5, hc6])
         subst er9
         have b0 := HB7.out
         exact ⟨rfl, hw7, b0⟩
     · go_wp2_with fail
       (go_at_call 158; refine (moving_any b _).mono ?_; rintro e w8 ⟨rfl, hg8⟩)
       have b0 := HB1.out
       have hB8_0 : Bk w8 (w.heap.size) 44 (encBodyV b).toArray := (b0).grw hg8
       have hw8 : Grw w w8 := (hw1).trans hg8
       have hs8 : w.heap.size < w8.heap.size := by have h1 := hg8.size; have h2 := g1_0_l; (try simp at h1); omega
       have g8_0_l := hB8_0.lt
       have HB8 := Lib.hid (show _ from hB8_0); clear hB8_0
       clear g1_0_1 g1_0_8 g1_0_9 g1_0_10 gA1_0_0_20 gC1_0_0_20 g1_0_l b0 HB1 hw1 hg8
       go_wp2_with fail
       go_meet
       case rel =>
         have er9 : r9 = (true) := R9.out.trans (by simp [hc5, hc6])
         subst er9
         have b0 := HB8.out
         exact ⟨rfl, hw8, b0⟩
 case rest =>
 obtain ⟨rfl, hw10, hB10_0⟩ := hcut
 obtain ⟨w10, rfl⟩ : ∃ x, x = wc := ⟨_, rfl⟩
 have g10_0_1 : w10.cell? ⟨w.heap.size, 1, none⟩ = some (.int .i64 (b.kd)) := hB10_0.cell 1
 have g10_0_14 : w10.cell? ⟨w.heap.size, 14, none⟩ = some (.bool (b.bu)) := hB10_0.cell 14
 have g10_0_17 : w10.cell? ⟨w.heap.size, 17, none⟩ = some (.bool (b.sl)) := hB10_0.cell 17
 have gA10_0_0_20 : HaveAll w10 (w.heap.size) 0 20 := hB10_0.have 0 20 (Nat.le_of_ble_eq_true rfl)
 have gC10_0_0_20 : cellsAt w10 (w.heap.size) 0 20 = (encBodyV b).toArray := hB10_0.cells' 0 20 _ rfl rfl
 have g10_0_l := hB10_0.lt
 have HB10 := Lib.hid (show _ from hB10_0); clear hB10_0
 clear g1_0_1 g1_0_8 g1_0_9 g1_0_10 gA1_0_0_20 gC1_0_0_20 g1_0_l HB1 hw1
 cases hc11 : (r9)
 · go_upto_region 4 with (fail)
   obtain ⟨r14, hr14⟩ : ∃ r : Bool, r = ((b.kd != 3) && (b.sl || b.bu)) := ⟨_, rfl⟩
   have R14 := Lib.hid hr14; clear hr14
   go_cut [24, 0] (fun s24 _s0 xw => s24 = .bool (r14) ∧ w10 = xw)
   case first =>
     cases hc12 : (b.kd != 3)
     · go_wp2_with fail
       go_meet
       case rel =>
         have er14 : r14 = (false) := R14.out.trans (by simp [hc12])
         subst er14
         exact ⟨rfl, rfl⟩
     · cases hc13 : (b.sl)
       · go_wp2_with fail
         go_meet
         case rel =>
           have er14 : r14 = (b.bu) := R14.out.trans (by simp [hc12, hc13])
           subst er14
           exact ⟨rfl, rfl⟩
       · go_wp2_with fail
         go_meet
         case rel =>
           have er14 : r14 = (true) := R14.out.trans (by simp [hc12, hc13])
           subst er14
           exact ⟨rfl, rfl⟩
   case rest =>
   obtain ⟨rfl, rfl⟩ := hcut
   cases hc16 : (r14)
   · go_upto_region 6 with (fail)
     obtain ⟨r19, hr19⟩ : ∃ r : Bool, r = ((!b.sl) || (!(movingB b))) := ⟨_, rfl⟩
     have R19 := Lib.hid hr19; clear hr19
     go_cut [2] (fun s2 xw => s2 = .bool (r19) ∧ Grw w xw)
     case first =>
       cases hc17 : (!b.sl)
       · go_wp2_with fail
         (go_at_call 158; refine (moving_any b _).mono ?_; rintro e w18 ⟨rfl, hg18⟩)
         have b0 := HB10.out
         have hB18_0 : Bk w18 (w.heap.size) 44 (encBodyV b).toArray := (b0).grw hg18
         have hw18 : Grw w w18 := (hw10).trans hg18
         have hs18 : w.heap.size < w18.heap.size := by have h1 := hg18.size; have h2 := g10_0_l; (try simp at h1); omega
         have g18_0_l := hB18_0.lt
         have HB18 := Lib.hid (show _ from hB18_0); clear hB18_0
         clear g10_0_1 g10_0_14 g10_0_17 gA10_0_0_20 gC10_0_0_20 g10_0_l b0 HB10 hw10 hg18
         go_wp2_with fail
         go_meet
         case rel =>
           have er19 : r19 = (!(movingB b)) := R19.out.trans (by simp [hc17])
           subst er19
           have b0 := HB18.out
           exact ⟨rfl, hw18⟩
       · go_wp2_with fail
         go_meet
         case rel =>
           have er19 : r19 = (true) := R19.out.trans (by simp [hc17])
           subst er19
           have b0 := HB10.out
           exact ⟨rfl, hw10⟩
     case rest =>
     obtain ⟨rfl, hw20⟩ := hcut
     obtain ⟨w20, rfl⟩ : ∃ x, x = wc := ⟨_, rfl⟩
     clear g10_0_1 g10_0_14 g10_0_17 gA10_0_0_20 gC10_0_0_20 g10_0_l HB10 hw10
     go_wp2_with fail
     have hF : consistentB b = r19 := by unfold consistentB; first | rfl | (simp only [← R19.out, ← R14.out, ← R9.out, ← R3.out, hc11, hc16, cond_true, cond_false]; done) | (simp only [← R19.out, ← R14.out, ← R9.out, ← R3.out, hc11, hc16, cond_true, cond_false]; rfl) | simp [← R19.out, ← R14.out, ← R9.out, ← R3.out, hc11, hc16]
     refine bodyPost_ret (v := .bool (r19)) (by simp [results, Tryz.results88, go_sem]) rfl ⟨by rw [hF], ?_⟩
     exact hw20
   · go_wp2_with fail
     have hF : consistentB b = false := by unfold consistentB; first | rfl | (simp only [← R14.out, ← R9.out, ← R3.out, hc11, hc16, cond_true, cond_false]; done) | (simp only [← R14.out, ← R9.out, ← R3.out, hc11, hc16, cond_true, cond_false]; rfl) | simp [← R14.out, ← R9.out, ← R3.out, hc11, hc16]
     refine bodyPost_ret (v := .bool (false)) (by simp [results, Tryz.results88, go_sem, g10_0_1, g10_0_14, g10_0_17, gA10_0_0_20, gC10_0_0_20, g10_0_l]) rfl ⟨by rw [hF], ?_⟩
     exact hw10
 · go_wp2_with fail
   have hF : consistentB b = false := by unfold consistentB; first | rfl | (simp only [← R9.out, ← R3.out, hc11, cond_true, cond_false]; done) | (simp only [← R9.out, ← R3.out, hc11, cond_true, cond_false]; rfl) | simp [← R9.out, ← R3.out, hc11]
   refine bodyPost_ret (v := .bool (false)) (by simp [results, Tryz.results88, go_sem, g10_0_1, g10_0_14, g10_0_17, gA10_0_0_20, gC10_0_0_20, g10_0_l]) rfl ⟨by rw [hF], ?_⟩
   exact hw10
def fixtureE (f : FixV) : Int := let r3 : Int := shE f.k f.r f.vl; bif r3 != 0 then (r3) else (let r7 : Bool := (withinB f.den 0 262144) && ((withinB f.fri 0 131072) && (withinB f.res 0 65536)); let r11 : Bool := (withinB f.cat 0 65535) && ((withinB f.mask 0 65535) && (withinB f.grp (-32) 32)); let r14 : Bool := (!r7) || (!r11); bif r14 then (6) else (0))
theorem fixture_any (f : FixV) (w : World) (h_f : FixOk w f) :
   Calls Tryz.prog 87 #[.agg (encFixV f).toArray] w fun e w' => e = .returned (.int .i64 (fixtureE f)) ∧ Grw w w' := by
 have H_f := Lib.hid h_f; clear h_f
 go_enter Tryz.func87, Tryz.ntmps87
 go_upto_region 1 with (fail)
 refine wp_gen (fun xw => Grw w xw ∧ Bk xw (w.heap.size) 58 (encFixV f).toArray) ⟨((Grw.refl w)).alloc _, (Bk.new' (by simp))⟩ ?_
 rintro w1 ⟨hw1, hB1_0⟩
 have g1_0_0 : w1.cell? ⟨w.heap.size, 0, none⟩ = some (.int .i64 (f.k)) := hB1_0.cell 0
 have g1_0_1 : w1.cell? ⟨w.heap.size, 1, none⟩ = some (.int .i64 (f.r)) := hB1_0.cell 1
 have g1_0_2 : w1.cell? ⟨w.heap.size, 2, none⟩ = some (.slice (f.va) (f.vl.length) (f.vc)) := hB1_0.cell 2
 have g1_0_l := hB1_0.lt
 have HB1 := Lib.hid (show _ from hB1_0); clear hB1_0
 go_wp2_with fail
 (go_at_call 65; refine (shapeValidate_any _ _ _ _ _ _ (H_f.out.1.grw (hw1)) H_f.out.2).mono ?_; rintro e w2 ⟨rfl, hg2⟩)
 obtain ⟨r3, hr3⟩ : ∃ r : Int, r = shE f.k f.r f.vl := ⟨_, rfl⟩
 (try simp only [← hr3])
 have R3 := Lib.hid hr3; clear hr3
 have b0 := HB1.out
 have hB2_0 : Bk w2 (w.heap.size) 58 (encFixV f).toArray := (b0).grw hg2
 have hw2 : Grw w w2 := (hw1).trans hg2
 have hs2 : w.heap.size < w2.heap.size := by have h1 := hg2.size; have h2 := g1_0_l; (try simp at h1); omega
 have g2_0_3 : w2.cell? ⟨w.heap.size, 3, none⟩ = some (.int .i64 (f.den)) := hB2_0.cell 3
 have g2_0_4 : w2.cell? ⟨w.heap.size, 4, none⟩ = some (.int .i64 (f.fri)) := hB2_0.cell 4
 have g2_0_5 : w2.cell? ⟨w.heap.size, 5, none⟩ = some (.int .i64 (f.res)) := hB2_0.cell 5
 have g2_0_7 : w2.cell? ⟨w.heap.size, 7, none⟩ = some (.int .i64 (f.cat)) := hB2_0.cell 7
 have g2_0_8 : w2.cell? ⟨w.heap.size, 8, none⟩ = some (.int .i64 (f.mask)) := hB2_0.cell 8
 have g2_0_9 : w2.cell? ⟨w.heap.size, 9, none⟩ = some (.int .i64 (f.grp)) := hB2_0.cell 9
 have g2_0_l := hB2_0.lt
 have HB2 := Lib.hid (show _ from hB2_0); clear hB2_0
 clear g1_0_0 g1_0_1 g1_0_2 g1_0_l b0 HB1 hw1 hg2
 cases hc4 : (r3 != 0)
 · go_upto_region 4 with (fail)
   obtain ⟨r7, hr7⟩ : ∃ r : Bool, r = ((withinB f.den 0 262144) && ((withinB f.fri 0 131072) && (withinB f.res 0 65536))) := ⟨_, rfl⟩
   have R7 := Lib.hid hr7; clear hr7
   go_cut [4] (fun s4 xw => s4 = .bool (r7) ∧ w2 = xw)
   case first =>
     cases hc5 : (withinB f.den 0 262144)
     · go_wp2_with fail
       (go_at_call 156; refine (within_any f.den 0 262144 _).mono ?_; rintro e w1 ⟨rfl, rfl⟩)
       go_wp2_with fail
       go_meet
       case rel =>
         have er7 : r7 = (false) := R7.out.trans (by simp [hc5])
         subst er7
         exact ⟨rfl, rfl⟩
     · cases hc6 : (withinB f.fri 0 131072)
       · go_wp2_with fail
         (go_at_call 156; refine (within_any f.den 0 262144 _).mono ?_; rintro e w1 ⟨rfl, rfl⟩)
         go_wp2_with fail
         (go_at_call 156; refine (within_any f.fri 0 131072 _).mono ?_; rintro e w1 ⟨rfl, rfl⟩)
         go_wp2_with fail
         go_meet
         case rel =>
           have er7 : r7 = (false) := R7.out.trans (by simp [hc5, hc6])
           subst er7
           exact ⟨rfl, rfl⟩
       · go_wp2_with fail
         (go_at_call 156; refine (within_any f.den 0 262144 _).mono ?_; rintro e w1 ⟨rfl, rfl⟩)
         go_wp2_with fail
         (go_at_call 156; refine (within_any f.fri 0 131072 _).mono ?_; rintro e w1 ⟨rfl, rfl⟩)
         go_wp2_with fail
         (go_at_call 156; refine (within_any f.res 0 65536 _).mono ?_; rintro e w1 ⟨rfl, rfl⟩)
         go_wp2_with fail
         go_meet
         case rel =>
           have er7 : r7 = (withinB f.res 0 65536) := R7.out.trans (by simp [hc5, hc6])
           subst er7
           exact ⟨rfl, rfl⟩
   case rest =>
   obtain ⟨rfl, rfl⟩ := hcut
   go_upto_region 5 with (fail)
   obtain ⟨r11, hr11⟩ : ∃ r : Bool, r = ((withinB f.cat 0 65535) && ((withinB f.mask 0 65535) && (withinB f.grp (-32) 32))) := ⟨_, rfl⟩
   have R11 := Lib.hid hr11; clear hr11
   go_cut [5] (fun s5 xw => s5 = .bool (r11) ∧ w2 = xw)
   case first =>
     cases hc9 : (withinB f.cat 0 65535)
     · go_wp2_with fail
       (go_at_call 156; refine (within_any f.cat 0 65535 _).mono ?_; rintro e w1 ⟨rfl, rfl⟩)
       go_wp2_with fail
       go_meet
       case rel =>
         have er11 : r11 = (false) := R11.out.trans (by simp [hc9])
         subst er11
         exact ⟨rfl, rfl⟩
     · cases hc10 : (withinB f.mask 0 65535)
       · go_wp2_with fail
         (go_at_call 156; refine (within_any f.cat 0 65535 _).mono ?_; rintro e w1 ⟨rfl, rfl⟩)
         go_wp2_with fail
         (go_at_call 156; refine (within_any f.mask 0 65535 _).mono ?_; rintro e w1 ⟨rfl, rfl⟩)
         go_wp2_with fail
         go_meet
         case rel =>
           have er11 : r11 = (false) := R11.out.trans (by simp [hc9, hc10])
           subst er11
           exact ⟨rfl, rfl⟩
       · go_wp2_with fail
         (go_at_call 156; refine (within_any f.cat 0 65535 _).mono ?_; rintro e w1 ⟨rfl, rfl⟩)
         go_wp2_with fail
         (go_at_call 156; refine (within_any f.mask 0 65535 _).mono ?_; rintro e w1 ⟨rfl, rfl⟩)
         go_wp2_with fail
         (go_at_call 156; refine (within_any f.grp (-32) 32 _).mono ?_; rintro e w1 ⟨rfl, rfl⟩)
         go_wp2_with fail
         go_meet
         case rel =>
           have er11 : r11 = (withinB f.grp (-32) 32) := R11.out.trans (by simp [hc9, hc10])
           subst er11
           exact ⟨rfl, rfl⟩
   case rest =>
   obtain ⟨rfl, rfl⟩ := hcut
   go_upto_region 6 with (fail)
   obtain ⟨r14, hr14⟩ : ∃ r : Bool, r = ((!r7) || (!r11)) := ⟨_, rfl⟩
   have R14 := Lib.hid hr14; clear hr14
   go_cut [43] (fun s43 xw => s43 = .bool (r14) ∧ w2 = xw)
   case first =>
     cases hc13 : (!r7)
     · go_wp2_with fail
       go_meet
       case rel =>
         have er14 : r14 = (!r11) := R14.out.trans (by simp [hc13])
         subst er14
         exact ⟨rfl, rfl⟩
     · go_wp2_with fail
       go_meet
       case rel =>
         have er14 : r14 = (true) := R14.out.trans (by simp [hc13])
         subst er14
         exact ⟨rfl, rfl⟩
   case rest =>
   obtain ⟨rfl, rfl⟩ := hcut
   cases hc16 : (r14)
   · go_wp2_with fail
     have hF : fixtureE f = 0 := by unfold fixtureE; first | rfl | (simp only [← R14.out, ← R11.out, ← R7.out, ← R3.out, hc4, hc16, cond_true, cond_false]; done) | (simp only [← R14.out, ← R11.out, ← R7.out, ← R3.out, hc4, hc16, cond_true, cond_false]; rfl) | simp [← R14.out, ← R11.out, ← R7.out, ← R3.out, hc4, hc16]
     refine bodyPost_ret (v := .int .i64 (0)) (by simp [results, Tryz.results87, go_sem, g2_0_3, g2_0_4, g2_0_5, g2_0_7, g2_0_8, g2_0_9, g2_0_l]) rfl ⟨by rw [hF], ?_⟩
     exact hw2
   · go_wp2_with fail
     have hF : fixtureE f = 6 := by unfold fixtureE; first | rfl | (simp only [← R14.out, ← R11.out, ← R7.out, ← R3.out, hc4, hc16, cond_true, cond_false]; done) | (simp only [← R14.out, ← R11.out, ← R7.out, ← R3.out, hc4, hc16, cond_true, cond_false]; rfl) | simp [← R14.out, ← R11.out, ← R7.out, ← R3.out, hc4, hc16]
     refine bodyPost_ret (v := .int .i64 (6)) (by simp [results, Tryz.results87, go_sem, g2_0_3, g2_0_4, g2_0_5, g2_0_7, g2_0_8, g2_0_9, g2_0_l]) rfl ⟨by rw [hF], ?_⟩
     exact hw2
 · go_wp2_with fail
   have hF : fixtureE f = r3 := by unfold fixtureE; first | rfl | (simp only [← R3.out, hc4, cond_true, cond_false]; done) | (simp only [← R3.out, hc4, cond_true, cond_false]; rfl) | simp [← R3.out, hc4]
   refine bodyPost_ret (v := .int .i64 (r3)) (by simp [results, Tryz.results87, go_sem, g2_0_3, g2_0_4, g2_0_5, g2_0_7, g2_0_8, g2_0_9, g2_0_l]) rfl ⟨by rw [hF], ?_⟩
   exact hw2
def bodyE_step11 (x11 : FixV) (s : Unit) : Sum (Int) (Unit) := let r14 : Int := fixtureE x11; bif r14 != 0 then (.inl 13) else (.inr ())
def bodyE (b : BodyV) : Int := let r4 : Bool := (b.kd != 1) && ((b.kd != 2) && (b.kd != 3)); bif r4 then (10) else (let r8 : Bool := binRangeB b; bif !r8 then (6) else (bif decide (4 < (b.fl.length : Int)) then (11) else ((match loopM (bodyE_step11 ) b.fl () with | .inl r => r | .inr s => let r17 : Bool := consistentB b; bif !r17 then (14) else (0)))))
theorem body_any (b : BodyV) (w : World) (h_b : BodyOk w b) :
   Calls Tryz.prog 39 #[.agg (encBodyV b).toArray] w fun e w' => e = .returned (.int .i64 (bodyE b)) ∧ Grw w w' := by
 have H_b := Lib.hid h_b; clear h_b
 go_enter Tryz.func39, Tryz.ntmps39
 go_upto_region 1 with (fail)
 refine wp_gen (fun xw => Grw w xw ∧ Bk xw (w.heap.size) 44 (encBodyV b).toArray) ⟨((Grw.refl w)).alloc _, (Bk.new' (by simp))⟩ ?_
 rintro w1 ⟨hw1, hB1_0⟩
 have g1_0_1 : w1.cell? ⟨w.heap.size, 1, none⟩ = some (.int .i64 (b.kd)) := hB1_0.cell 1
 have gA1_0_0_20 : HaveAll w1 (w.heap.size) 0 20 := hB1_0.have 0 20 (Nat.le_of_ble_eq_true rfl)
 have gC1_0_0_20 : cellsAt w1 (w.heap.size) 0 20 = (encBodyV b).toArray := hB1_0.cells' 0 20 _ rfl rfl
 have g1_0_l := hB1_0.lt
 have HB1 := Lib.hid (show _ from hB1_0); clear hB1_0
 obtain ⟨r4, hr4⟩ : ∃ r : Bool, r = ((b.kd != 1) && ((b.kd != 2) && (b.kd != 3))) := ⟨_, rfl⟩
 have R4 := Lib.hid hr4; clear hr4
 go_cut [17] (fun s17 xw => s17 = .bool (r4) ∧ w1 = xw)
 case first =>
   cases hc2 : (b.kd != 1)
   · go_wp2_with fail
     go_meet
     case rel =>
       have er4 : r4 = (false) := R4.out.trans (by simp [hc2])
       subst er4
       exact ⟨rfl, rfl⟩
   · cases hc3 : (b.kd != 2)
     · go_wp2_with fail
       go_meet
       case rel =>
         have er4 : r4 = (false) := R4.out.trans (by simp [hc2, hc3])
         subst er4
         exact ⟨rfl, rfl⟩
     · go_wp2_with fail
       go_meet
       case rel =>
         have er4 : r4 = (b.kd != 3) := R4.out.trans (by simp [hc2, hc3])
         subst er4
         exact ⟨rfl, rfl⟩
 case rest =>
 obtain ⟨rfl, rfl⟩ := hcut
 cases hc6 : (r4)
 · go_wp2_with fail
   (go_at_call 86; refine (binRange_any b _).mono ?_; rintro e w7 ⟨rfl, hg7⟩)
   obtain ⟨r8, hr8⟩ : ∃ r : Bool, r = binRangeB b := ⟨_, rfl⟩
   (try simp only [← hr8])
   have R8 := Lib.hid hr8; clear hr8
   have b0 := HB1.out
   have hB7_0 : Bk w7 (w.heap.size) 44 (encBodyV b).toArray := (b0).grw hg7
   have hw7 : Grw w w7 := (hw1).trans hg7
   have hs7 : w.heap.size < w7.heap.size := by have h1 := hg7.size; have h2 := g1_0_l; (try simp at h1); omega
   have g7_0_19 : w7.cell? ⟨w.heap.size, 19, none⟩ = some (.slice (b.fa) (b.fl.length) (b.fc)) := hB7_0.cell 19
   have g7_0_l := hB7_0.lt
   have HB7 := Lib.hid (show _ from hB7_0); clear hB7_0
   clear g1_0_1 gA1_0_0_20 gC1_0_0_20 g1_0_l b0 HB1 hw1 hg7
   cases hc9 : (!r8)
   · cases hc10 : (decide (4 < (b.fl.length : Int)))
     · go_wp2_with fail
       have b0 := HB7.out
       go_loopg [28] b.fl.length (fun gm v  xw => ∃ (k11 : Nat), v = .int .i64 k11 ∧ k11 ≤ b.fl.length ∧ b.fl.length - k11 ≤ gm ∧ Grw w xw ∧ Bk xw (w.heap.size) 44 (encBodyV b).toArray ∧ loopM (bodyE_step11 ) b.fl () = loopM (bodyE_step11 ) (b.fl.drop k11) ())
       case atStart => exact ⟨0, rfl, Nat.zero_le _, Nat.le_refl _, hw7, b0, rfl⟩
       case round =>
       obtain ⟨k11, rfl, hk11, hgm11, hw11, hB11_0, hA11⟩ := hrel
       obtain ⟨w11, rfl⟩ : ∃ x, x = wr := ⟨_, rfl⟩
       obtain ⟨gm11, rfl⟩ : ∃ x, x = gk := ⟨_, rfl⟩
       have HA11 := Lib.hid hA11; have HG11 := Lib.hid hgm11; clear hA11 hgm11
       have gA11_0_0_20 : HaveAll w11 (w.heap.size) 0 20 := hB11_0.have 0 20 (Nat.le_of_ble_eq_true rfl)
       have gC11_0_0_20 : cellsAt w11 (w.heap.size) 0 20 = (encBodyV b).toArray := hB11_0.cells' 0 20 _ rfl rfl
       have g11_0_l := hB11_0.lt
       have HB11 := Lib.hid (show _ from hB11_0); clear hB11_0
       clear g7_0_19 g7_0_l b0 HB7 hw7
       rcases Nat.lt_or_ge k11 b.fl.length with hlt11 | hge11
       · obtain ⟨x11, hx11⟩ : ∃ x, b.fl[k11]? = some x := ⟨b.fl[k11], List.getElem?_eq_getElem hlt11⟩
         obtain ⟨bx11, ox11, he11, hbx11, gEA11, gEC11⟩ := (H_b.out.1.grw hw11).big (fun _ => rfl) hx11
         replace gEC11 : cellsAt w11 bx11 (ox11 + k11 * 10) 10 = (encFixV x11).toArray := gEC11
         have HRx11 := Lib.hid (H_b.out.2.2 _ (List.mem_of_getElem? hx11))
         have HX11 := Lib.hid hx11; clear hx11
         have b0 := HB11.out
         go_upto_region 10 with (fail)
         refine wp_gen (fun xw => Grw w xw ∧ Bk xw (w.heap.size) 44 (encBodyV b).toArray ∧ Bk xw (w11.heap.size) 58 (encFixV x11).toArray) ⟨((hw11).alloc _).setCells (by omega) _, (b0.alloc _).farCells (by omega) _, ((Bk.new' (by simp))).setAll' rfl rfl⟩ ?_
         rintro w12 ⟨hw12, hB12_0, hB12_1⟩
         have g12_0_l := hB12_0.lt
         have gA12_1_0_10 : HaveAll w12 (w11.heap.size) 0 10 := hB12_1.have 0 10 (Nat.le_of_ble_eq_true rfl)
         have gC12_1_0_10 : cellsAt w12 (w11.heap.size) 0 10 = (encFixV x11).toArray := hB12_1.cells' 0 10 _ rfl rfl
         have g12_1_l := hB12_1.lt
         have HB12 := Lib.hid (show _ ∧ _ from ⟨hB12_0, hB12_1⟩); clear hB12_0 hB12_1
         clear gA11_0_0_20 gC11_0_0_20 g11_0_l b0 HB11 hw11
         go_wp2_with fail
         (try simp only [← he11])
         (go_at_call 87; refine (fixture_any x11 _ (HRx11.out.grw (hw12))).mono ?_; rintro e w13 ⟨rfl, hg13⟩)
         obtain ⟨r14, hr14⟩ : ∃ r : Int, r = fixtureE x11 := ⟨_, rfl⟩
         (try simp only [← hr14])
         have R14 := Lib.hid hr14; clear hr14
         obtain ⟨b0, b1⟩ := HB12.out
         have hB13_0 : Bk w13 (w.heap.size) 44 (encBodyV b).toArray := (b0).grw hg13
         have hB13_1 : Bk w13 (w11.heap.size) 58 (encFixV x11).toArray := (b1).grw hg13
         have hw13 : Grw w w13 := (hw12).trans hg13
         have hs13 : w11.heap.size < w13.heap.size := by have h1 := hg13.size; have h2 := g12_1_l; (try simp at h1); omega
         have g13_0_l := hB13_0.lt
         have g13_1_l := hB13_1.lt
         have HB13 := Lib.hid (show _ ∧ _ from ⟨hB13_0, hB13_1⟩); clear hB13_0 hB13_1
         clear g12_0_l gA12_1_0_10 gC12_1_0_10 g12_1_l b0 b1 HB12 hw12 hg13
         cases hc15 : (r14 != 0)
         · have hln11 := H_b.out.2.1
           go_wp2_with fail
           obtain ⟨b0, b1⟩ := HB13.out
           have hS11 : bodyE_step11  x11 () = .inr () := by unfold bodyE_step11; first | rfl | (simp only [← R14.out, hc15, cond_true, cond_false]; done) | (simp only [← R14.out, hc15, cond_true, cond_false]; rfl) | simp [← R14.out, hc15]
           have HS11 := Lib.hid (HA11.out.trans ((loopM_at (f := bodyE_step11 ) HX11.out).trans (by rw [hS11])))
           (try simp only [← he11])
           have hgm11 := HG11.out
           go_roundg (b.fl.length - (k11 + 1))
           case measure => omega
           case rel => exact ⟨k11 + 1, by go_num, by omega, Nat.le_refl _, hw13, b0, HS11.out⟩
         · have hS11 : bodyE_step11  x11 () = .inl 13 := by unfold bodyE_step11; first | rfl | (simp only [← R14.out, hc15, cond_true, cond_false]; done) | (simp only [← R14.out, hc15, cond_true, cond_false]; rfl) | simp [← R14.out, hc15]
           have hL11 := HA11.out.trans ((loopM_at (f := bodyE_step11 ) HX11.out).trans (by rw [hS11]))
           have HL11 := Lib.hid hL11; clear hL11 hS11
           go_wp2_with fail
           have ql0 := HL11.out; (try simp only [hc6, hc9, hc10, hc15] at ql0); have HQ0 := Lib.hid ql0; clear ql0
           have hF : bodyE b = 13 := by unfold bodyE; first | rfl | (simp only [HQ0.out, HL11.out, ← R14.out, ← R8.out, ← R4.out, hc6, hc9, hc10, hc15, cond_true, cond_false]; done) | (simp only [HQ0.out, HL11.out, ← R14.out, ← R8.out, ← R4.out, hc6, hc9, hc10, hc15, cond_true, cond_false]; rfl) | simp [HQ0.out, HL11.out, ← R14.out, ← R8.out, ← R4.out, hc6, hc9, hc10, hc15]
           refine bodyPost_ret (v := .int .i64 (13)) (by simp [results, Tryz.results39, go_sem, g13_0_l, g13_1_l]) rfl ⟨by rw [hF], ?_⟩
           exact hw13
       · obtain rfl : k11 = b.fl.length := by omega
         have HRl11 := Lib.hid (HA11.out.trans (loopM_end (bodyE_step11 ) b.fl ())); clear HA11
         go_wp2_with fail
         (go_at_call 88; refine (consistent_any b _).mono ?_; rintro e w16 ⟨rfl, hg16⟩)
         obtain ⟨r17, hr17⟩ : ∃ r : Bool, r = consistentB b := ⟨_, rfl⟩
         (try simp only [← hr17])
         have R17 := Lib.hid hr17; clear hr17
         have b0 := HB11.out
         have hB16_0 : Bk w16 (w.heap.size) 44 (encBodyV b).toArray := (b0).grw hg16
         have hw16 : Grw w w16 := (hw11).trans hg16
         have hs16 : w.heap.size < w16.heap.size := by have h1 := hg16.size; have h2 := g11_0_l; (try simp at h1); omega
         have g16_0_l := hB16_0.lt
         have HB16 := Lib.hid (show _ from hB16_0); clear hB16_0
         clear gA11_0_0_20 gC11_0_0_20 g11_0_l b0 HB11 hw11 hg16
         cases hc18 : (!r17)
         · go_wp2_with fail
           have ql0 := HRl11.out; (try simp only [hc6, hc9, hc10, hc18] at ql0); have HQ0 := Lib.hid ql0; clear ql0
           have hF : bodyE b = 0 := by unfold bodyE; first | rfl | (simp only [HQ0.out, ← R17.out, HRl11.out, ← R8.out, ← R4.out, hc6, hc9, hc10, hc18, cond_true, cond_false]; done) | (simp only [HQ0.out, ← R17.out, HRl11.out, ← R8.out, ← R4.out, hc6, hc9, hc10, hc18, cond_true, cond_false]; rfl) | simp [HQ0.out, ← R17.out, HRl11.out, ← R8.out, ← R4.out, hc6, hc9, hc10, hc18]
           refine bodyPost_ret (v := .int .i64 (0)) (by simp [results, Tryz.results39, go_sem, g16_0_l]) rfl ⟨by rw [hF], ?_⟩
           exact hw16
         · go_wp2_with fail
           have ql0 := HRl11.out; (try simp only [hc6, hc9, hc10, hc18] at ql0); have HQ0 := Lib.hid ql0; clear ql0
           have hF : bodyE b = 14 := by unfold bodyE; first | rfl | (simp only [HQ0.out, ← R17.out, HRl11.out, ← R8.out, ← R4.out, hc6, hc9, hc10, hc18, cond_true, cond_false]; done) | (simp only [HQ0.out, ← R17.out, HRl11.out, ← R8.out, ← R4.out, hc6, hc9, hc10, hc18, cond_true, cond_false]; rfl) | simp [HQ0.out, ← R17.out, HRl11.out, ← R8.out, ← R4.out, hc6, hc9, hc10, hc18]
           refine bodyPost_ret (v := .int .i64 (14)) (by simp [results, Tryz.results39, go_sem, g16_0_l]) rfl ⟨by rw [hF], ?_⟩
           exact hw16
     · go_wp2_with fail
       have hF : bodyE b = 11 := by unfold bodyE; first | rfl | (simp only [← R8.out, ← R4.out, hc6, hc9, hc10, cond_true, cond_false]; done) | (simp only [← R8.out, ← R4.out, hc6, hc9, hc10, cond_true, cond_false]; rfl) | simp [← R8.out, ← R4.out, hc6, hc9, hc10]
       refine bodyPost_ret (v := .int .i64 (11)) (by simp [results, Tryz.results39, go_sem, g7_0_19, g7_0_l]) rfl ⟨by rw [hF], ?_⟩
       exact hw7
   · go_wp2_with fail
     have hF : bodyE b = 6 := by unfold bodyE; first | rfl | (simp only [← R8.out, ← R4.out, hc6, hc9, cond_true, cond_false]; done) | (simp only [← R8.out, ← R4.out, hc6, hc9, cond_true, cond_false]; rfl) | simp [← R8.out, ← R4.out, hc6, hc9]
     refine bodyPost_ret (v := .int .i64 (6)) (by simp [results, Tryz.results39, go_sem, g7_0_19, g7_0_l]) rfl ⟨by rw [hF], ?_⟩
     exact hw7
 · go_wp2_with fail
   have hF : bodyE b = 10 := by unfold bodyE; first | rfl | (simp only [← R4.out, hc6, cond_true, cond_false]; done) | (simp only [← R4.out, hc6, cond_true, cond_false]; rfl) | simp [← R4.out, hc6]
   refine bodyPost_ret (v := .int .i64 (10)) (by simp [results, Tryz.results39, go_sem, g1_0_1, gA1_0_0_20, gC1_0_0_20, g1_0_l]) rfl ⟨by rw [hF], ?_⟩
   exact hw1
end
end Go.Proofs.YtokkghhmliplfaaGreat
