/- The row TopEveryRay of the program holds; part 7 of the proof. No condition. -/
import Derived.Test.YtokkghhmliplfaaGreatK5
set_option maxRecDepth 100000
set_option maxHeartbeats 12800000
set_option linter.all false
namespace Go.Proofs.YtokkghhmliplfaaGreat
section
open Go.RowKit Go.Sort
attribute [local go_sem] qAt qUpon okOp okUpon cell_in_grow frozen_in_grow
structure JointV where
 id : Int
 kd : Int
 ba : Int
 bb : Int
 ax : Int
 ay : Int
 bx : Int
 by_ : Int
 xx : Int
 xy : Int
 ra : Int
 el : Bool
 lo : Int
 hi : Int
 em : Bool
 ms : Int
 mf : Int
 so : Int
 bf : Int
 cc : Bool
 i0 : Int
 i1 : Int
 i2 : Int
 i3 : Int
def encJointV (x : JointV) : List Value := [.int .i64 (x.id), .int .i64 (x.kd), .int .i64 (x.ba), .int .i64 (x.bb), .int .i64 (x.ax), .int .i64 (x.ay), .int .i64 (x.bx), .int .i64 (x.by_), .int .i64 (x.xx), .int .i64 (x.xy), .int .i64 (x.ra), .bool (x.el), .int .i64 (x.lo), .int .i64 (x.hi), .bool (x.em), .int .i64 (x.ms), .int .i64 (x.mf), .int .i64 (x.so), .int .i64 (x.bf), .bool (x.cc), .int .i64 (x.i0), .int .i64 (x.i1), .int .i64 (x.i2), .int .i64 (x.i3)]
theorem encJointV_eq (x : JointV) : (encJointV x).toArray = #[.int .i64 (x.id), .int .i64 (x.kd), .int .i64 (x.ba), .int .i64 (x.bb), .int .i64 (x.ax), .int .i64 (x.ay), .int .i64 (x.bx), .int .i64 (x.by_), .int .i64 (x.xx), .int .i64 (x.xy), .int .i64 (x.ra), .bool (x.el), .int .i64 (x.lo), .int .i64 (x.hi), .bool (x.em), .int .i64 (x.ms), .int .i64 (x.mf), .int .i64 (x.so), .int .i64 (x.bf), .bool (x.cc), .int .i64 (x.i0), .int .i64 (x.i1), .int .i64 (x.i2), .int .i64 (x.i3)] := rfl
attribute [local go_sem] encJointV_eq
theorem loadAt70 (x : Value) : Instr.loadAt 70 x = bigLoad 70 x := rfl
theorem storeAt70 (x v : Value) : Instr.storeAt 70 x v = bigStore 70 x v := rfl
theorem run_bl70 (w : World) (b o : Nat) (h : HaveAll w b o 24) : (bigLoad 70 (.pointer (some ⟨b, o, none⟩))).run Tryz.prog w = .ok (.agg (cellsAt w b o 24)) w := run_bigLoad (d := .struct (Tryz.prog.fieldsOf 70)) (by kernel_rfl) rfl (by kernel_rfl) h
theorem run_bs70 (w : World) (b o : Nat) (cs : Array Value) (hs : cs.size = 24) (h1 : cs.all (·.oneCell') = true) (h : There w b o 24) : (bigStore 70 (.pointer (some ⟨b, o, none⟩)) (.agg cs)).run Tryz.prog w = .ok () (w.setCells b o cs.toList) := run_bigStore (by kernel_rfl) hs h1 h
theorem loadAt25 (x : Value) : Instr.loadAt 25 x = bigLoad 25 x := rfl
theorem storeAt25 (x v : Value) : Instr.storeAt 25 x v = bigStore 25 x v := rfl
theorem run_bl25 (w : World) (b o : Nat) (h : HaveAll w b o 5) : (bigLoad 25 (.pointer (some ⟨b, o, none⟩))).run Tryz.prog w = .ok (.agg (cellsAt w b o 5)) w := run_bigLoad (d := .struct (Tryz.prog.fieldsOf 25)) (by kernel_rfl) rfl (by kernel_rfl) h
theorem run_bs25 (w : World) (b o : Nat) (cs : Array Value) (hs : cs.size = 5) (h1 : cs.all (·.oneCell') = true) (h : There w b o 5) : (bigStore 25 (.pointer (some ⟨b, o, none⟩)) (.agg cs)).run Tryz.prog w = .ok () (w.setCells b o cs.toList) := run_bigStore (by kernel_rfl) hs h1 h
attribute [local go_sem ↓] loadAt70 storeAt70 loadAt25 storeAt25
attribute [local go_sem] run_bl70 run_bs70 run_bl25 run_bs25 there_new there_alloc have_in_grow cells_in_grow oc_int oc_bool oc_slice oc_all oc_cons oc_nil List.size_toArray List.length_cons List.length_nil
attribute [local go_sem high] eqR23
theorem idx68_0 (a b c d : Value) (w : World) : (Instr.index 68 (.agg #[a, b, c, d]) (.int .i64 0)).run Tryz.prog w = .ok a w := by
 kernel_rfl
theorem idx68_1 (a b c d : Value) (w : World) : (Instr.index 68 (.agg #[a, b, c, d]) (.int .i64 1)).run Tryz.prog w = .ok b w := by
 kernel_rfl
theorem idx68_2 (a b c d : Value) (w : World) : (Instr.index 68 (.agg #[a, b, c, d]) (.int .i64 2)).run Tryz.prog w = .ok c w := by
 kernel_rfl
theorem idx68_3 (a b c d : Value) (w : World) : (Instr.index 68 (.agg #[a, b, c, d]) (.int .i64 3)).run Tryz.prog w = .ok d w := by
 kernel_rfl
attribute [local go_sem] idx68_0 idx68_1 idx68_2 idx68_3
def winB (x lo hi : Int) : Bool := let r2 : Bool := (decide (lo ≤ x)) && (decide (x ≤ hi)); r2
theorem win_any (x lo hi : Int) (w : World) :
   Calls Tryz.prog 19 #[.int .i64 (x), .int .i64 (lo), .int .i64 (hi)] w fun e w' => e = .returned (.bool (winB x lo hi)) ∧ w = w' := by
 go_enter Tryz.func19, Tryz.ntmps19
 go_upto_region 1 with (fail)
 obtain ⟨r2, hr2⟩ : ∃ r : Bool, r = ((decide (lo ≤ x)) && (decide (x ≤ hi))) := ⟨_, rfl⟩
 have R2 := Lib.hid hr2; clear hr2
 go_cut [6] (fun s6 xw => s6 = .bool (r2) ∧ w = xw)
 case first =>
   cases hc1 : (decide (lo ≤ x))
   · go_wp2_with fail
     go_meet
     case rel =>
       have er2 : r2 = (false) := R2.out.trans (by simp [hc1])
       subst er2
       exact ⟨rfl, rfl⟩
   · go_wp2_with fail
     go_meet
     case rel =>
       have er2 : r2 = (decide (x ≤ hi)) := R2.out.trans (by simp [hc1])
       subst er2
       exact ⟨rfl, rfl⟩
 case rest =>
 obtain ⟨rfl, rfl⟩ := hcut
 go_wp2_with fail
 have hF : winB x lo hi = r2 := by unfold winB; first | rfl | (simp only [← R2.out, cond_true, cond_false]; done) | (simp only [← R2.out, cond_true, cond_false]; rfl) | simp [← R2.out]
 refine bodyPost_ret (v := .bool (r2)) (by simp [results, Tryz.results19, go_sem]) rfl ⟨by rw [hF], ?_⟩
 rfl
def settingsE (ts gx gy it ss : Int) : Int := let r3 : Bool := (winB gx (-16777216) 16777216) && (winB gy (-16777216) 16777216); let r8 : Bool := (!(winB ts 64 8192)) || ((!r3) || ((!(winB it 1 32)) || (!(winB ss 0 1048576)))); bif r8 then (6) else (0)
theorem settings_any (ts gx gy it ss : Int) (w : World) :
   Calls Tryz.prog 18 #[.agg #[.int .i64 (ts), .int .i64 (gx), .int .i64 (gy), .int .i64 (it), .int .i64 (ss)]] w fun e w' => e = .returned (.int .i64 (settingsE ts gx gy it ss)) ∧ Grw w w' := by
 go_enter Tryz.func18, Tryz.ntmps18
 go_upto_region 1 with (fail)
 refine wp_gen (fun xw => Grw w xw ∧ Bk xw (w.heap.size) 25 #[.int .i64 (ts), .int .i64 (gx), .int .i64 (gy), .int .i64 (it), .int .i64 (ss)]) ⟨((Grw.refl w)).alloc _, (Bk.new' (by simp))⟩ ?_
 rintro w1 ⟨hw1, hB1_0⟩
 have g1_0_0 : w1.cell? ⟨w.heap.size, 0, none⟩ = some (.int .i64 (ts)) := hB1_0.cell 0
 have g1_0_1 : w1.cell? ⟨w.heap.size, 1, none⟩ = some (.int .i64 (gx)) := hB1_0.cell 1
 have g1_0_2 : w1.cell? ⟨w.heap.size, 2, none⟩ = some (.int .i64 (gy)) := hB1_0.cell 2
 have g1_0_3 : w1.cell? ⟨w.heap.size, 3, none⟩ = some (.int .i64 (it)) := hB1_0.cell 3
 have g1_0_4 : w1.cell? ⟨w.heap.size, 4, none⟩ = some (.int .i64 (ss)) := hB1_0.cell 4
 have g1_0_l := hB1_0.lt
 have HB1 := Lib.hid (show _ from hB1_0); clear hB1_0
 obtain ⟨r3, hr3⟩ : ∃ r : Bool, r = ((winB gx (-16777216) 16777216) && (winB gy (-16777216) 16777216)) := ⟨_, rfl⟩
 have R3 := Lib.hid hr3; clear hr3
 go_cut [3] (fun s3 xw => s3 = .bool (r3) ∧ w1 = xw)
 case first =>
   cases hc2 : (winB gx (-16777216) 16777216)
   · go_wp2_with fail
     (go_at_call 19; refine (win_any gx (-16777216) 16777216 _).mono ?_; rintro e w1 ⟨rfl, rfl⟩)
     go_wp2_with fail
     go_meet
     case rel =>
       have er3 : r3 = (false) := R3.out.trans (by simp [hc2])
       subst er3
       exact ⟨rfl, rfl⟩
   · go_wp2_with fail
     (go_at_call 19; refine (win_any gx (-16777216) 16777216 _).mono ?_; rintro e w1 ⟨rfl, rfl⟩)
     go_wp2_with fail
     (go_at_call 19; refine (win_any gy (-16777216) 16777216 _).mono ?_; rintro e w1 ⟨rfl, rfl⟩)
     go_wp2_with fail
     go_meet
     case rel =>
       have er3 : r3 = (winB gy (-16777216) 16777216) := R3.out.trans (by simp [hc2])
       subst er3
       exact ⟨rfl, rfl⟩
 case rest =>
 obtain ⟨rfl, rfl⟩ := hcut
 go_upto_region 2 with (fail)
 obtain ⟨r8, hr8⟩ : ∃ r : Bool, r = ((!(winB ts 64 8192)) || ((!r3) || ((!(winB it 1 32)) || (!(winB ss 0 1048576))))) := ⟨_, rfl⟩
 have R8 := Lib.hid hr8; clear hr8
 go_cut [33] (fun s33 xw => s33 = .bool (r8) ∧ w1 = xw)
 case first =>
   cases hc5 : (!(winB ts 64 8192))
   · cases hc6 : (!r3)
     · cases hc7 : (!(winB it 1 32))
       · go_wp2_with fail
         (go_at_call 19; refine (win_any ts 64 8192 _).mono ?_; rintro e w1 ⟨rfl, rfl⟩)
         go_wp2_with fail
         (go_at_call 19; refine (win_any it 1 32 _).mono ?_; rintro e w1 ⟨rfl, rfl⟩)
         go_wp2_with fail
         (go_at_call 19; refine (win_any ss 0 1048576 _).mono ?_; rintro e w1 ⟨rfl, rfl⟩)
         go_wp2_with fail
         go_meet
         case rel =>
           have er8 : r8 = (!(winB ss 0 1048576)) := R8.out.trans (by simp [hc5, hc6, hc7])
           subst er8
           exact ⟨rfl, rfl⟩
       · go_wp2_with fail
         (go_at_call 19; refine (win_any ts 64 8192 _).mono ?_; rintro e w1 ⟨rfl, rfl⟩)
         go_wp2_with fail
         (go_at_call 19; refine (win_any it 1 32 _).mono ?_; rintro e w1 ⟨rfl, rfl⟩)
         go_wp2_with fail
         go_meet
         case rel =>
           have er8 : r8 = (true) := R8.out.trans (by simp [hc5, hc6, hc7])
           subst er8
           exact ⟨rfl, rfl⟩
     · go_wp2_with fail
       (go_at_call 19; refine (win_any ts 64 8192 _).mono ?_; rintro e w1 ⟨rfl, rfl⟩)
       go_wp2_with fail
       go_meet
       case rel =>
         have er8 : r8 = (true) := R8.out.trans (by simp [hc5, hc6])
         subst er8
         exact ⟨rfl, rfl⟩
   · go_wp2_with fail
     (go_at_call 19; refine (win_any ts 64 8192 _).mono ?_; rintro e w1 ⟨rfl, rfl⟩)
     go_wp2_with fail
     go_meet
     case rel =>
       have er8 : r8 = (true) := R8.out.trans (by simp [hc5])
       subst er8
       exact ⟨rfl, rfl⟩
 case rest =>
 obtain ⟨rfl, rfl⟩ := hcut
 cases hc10 : (r8)
 · go_wp2_with fail
   have hF : settingsE ts gx gy it ss = 0 := by unfold settingsE; first | rfl | (simp only [← R8.out, ← R3.out, hc10, cond_true, cond_false]; done) | (simp only [← R8.out, ← R3.out, hc10, cond_true, cond_false]; rfl) | simp [← R8.out, ← R3.out, hc10]
   refine bodyPost_ret (v := .int .i64 (0)) (by simp [results, Tryz.results18, go_sem, g1_0_0, g1_0_1, g1_0_2, g1_0_3, g1_0_4, g1_0_l]) rfl ⟨by rw [hF], ?_⟩
   exact hw1
 · go_wp2_with fail
   have hF : settingsE ts gx gy it ss = 6 := by unfold settingsE; first | rfl | (simp only [← R8.out, ← R3.out, hc10, cond_true, cond_false]; done) | (simp only [← R8.out, ← R3.out, hc10, cond_true, cond_false]; rfl) | simp [← R8.out, ← R3.out, hc10]
   refine bodyPost_ret (v := .int .i64 (6)) (by simp [results, Tryz.results18, go_sem, g1_0_0, g1_0_1, g1_0_2, g1_0_3, g1_0_4, g1_0_l]) rfl ⟨by rw [hF], ?_⟩
   exact hw1
def jinB (x lo hi : Int) : Bool := let r2 : Bool := (decide (lo ≤ x)) && (decide (x ≤ hi)); r2
theorem jin_any (x lo hi : Int) (w : World) :
   Calls Tryz.prog 160 #[.int .i64 (x), .int .i64 (lo), .int .i64 (hi)] w fun e w' => e = .returned (.bool (jinB x lo hi)) ∧ w = w' := by
 go_enter Tryz.func160, Tryz.ntmps160
 go_upto_region 1 with (fail)
 obtain ⟨r2, hr2⟩ : ∃ r : Bool, r = ((decide (lo ≤ x)) && (decide (x ≤ hi))) := ⟨_, rfl⟩
 have R2 := Lib.hid hr2; clear hr2
 go_cut [6] (fun s6 xw => s6 = .bool (r2) ∧ w = xw)
 case first =>
   cases hc1 : (decide (lo ≤ x))
   · go_wp2_with fail
     go_meet
     case rel =>
       have er2 : r2 = (false) := R2.out.trans (by simp [hc1])
       subst er2
       exact ⟨rfl, rfl⟩
   · go_wp2_with fail
     go_meet
     case rel =>
       have er2 : r2 = (decide (x ≤ hi)) := R2.out.trans (by simp [hc1])
       subst er2
       exact ⟨rfl, rfl⟩
 case rest =>
 obtain ⟨rfl, rfl⟩ := hcut
 go_wp2_with fail
 have hF : jinB x lo hi = r2 := by unfold jinB; first | rfl | (simp only [← R2.out, cond_true, cond_false]; done) | (simp only [← R2.out, cond_true, cond_false]; rfl) | simp [← R2.out]
 refine bodyPost_ret (v := .bool (r2)) (by simp [results, Tryz.results160, go_sem]) rfl ⟨by rw [hF], ?_⟩
 rfl
def jpinB (x y m : Int) : Bool := let r3 : Bool := (jinB x (wrap64 (-m)) m) && (jinB y (wrap64 (-m)) m); r3
theorem jpin_any (x y m : Int) (w : World) :
   Calls Tryz.prog 161 #[.agg #[.int .i64 (x), .int .i64 (y)], .int .i64 (m)] w fun e w' => e = .returned (.bool (jpinB x y m)) ∧ Grw w w' := by
 go_enter Tryz.func161, Tryz.ntmps161
 go_upto_region 1 with (fail)
 refine wp_gen (fun xw => Grw w xw ∧ Bk xw (w.heap.size) 23 #[.int .i64 (x), .int .i64 (y)]) ⟨((Grw.refl w)).alloc _, (Bk.new' (by simp))⟩ ?_
 rintro w1 ⟨hw1, hB1_0⟩
 have g1_0_0 : w1.cell? ⟨w.heap.size, 0, none⟩ = some (.int .i64 (x)) := hB1_0.cell 0
 have g1_0_1 : w1.cell? ⟨w.heap.size, 1, none⟩ = some (.int .i64 (y)) := hB1_0.cell 1
 have g1_0_l := hB1_0.lt
 have HB1 := Lib.hid (show _ from hB1_0); clear hB1_0
 obtain ⟨r3, hr3⟩ : ∃ r : Bool, r = ((jinB x (wrap64 (-m)) m) && (jinB y (wrap64 (-m)) m)) := ⟨_, rfl⟩
 have R3 := Lib.hid hr3; clear hr3
 go_cut [4] (fun s4 xw => s4 = .bool (r3) ∧ w1 = xw)
 case first =>
   cases hc2 : (jinB x (wrap64 (-m)) m)
   · go_wp2_with fail
     (go_at_call 160; refine (jin_any x (wrap64 (-m)) m _).mono ?_; rintro e w1 ⟨rfl, rfl⟩)
     go_wp2_with fail
     go_meet
     case rel =>
       have er3 : r3 = (false) := R3.out.trans (by simp [hc2])
       subst er3
       exact ⟨rfl, rfl⟩
   · go_wp2_with fail
     (go_at_call 160; refine (jin_any x (wrap64 (-m)) m _).mono ?_; rintro e w1 ⟨rfl, rfl⟩)
     go_wp2_with fail
     (go_at_call 160; refine (jin_any y (wrap64 (-m)) m _).mono ?_; rintro e w1 ⟨rfl, rfl⟩)
     go_wp2_with fail
     go_meet
     case rel =>
       have er3 : r3 = (jinB y (wrap64 (-m)) m) := R3.out.trans (by simp [hc2])
       subst er3
       exact ⟨rfl, rfl⟩
 case rest =>
 obtain ⟨rfl, rfl⟩ := hcut
 go_wp2_with fail
 have hF : jpinB x y m = r3 := by unfold jpinB; first | rfl | (simp only [← R3.out, cond_true, cond_false]; done) | (simp only [← R3.out, cond_true, cond_false]; rfl) | simp [← R3.out]
 refine bodyPost_ret (v := .bool (r3)) (by simp [results, Tryz.results161, go_sem, g1_0_0, g1_0_1, g1_0_l]) rfl ⟨by rw [hF], ?_⟩
 exact hw1
def jlimI (k : Int) : Int × Int := bif k == 1 then ((0, 268435456)) else (bif k == 2 then ((-205888, 205888)) else ((-268435456, 268435456)))
theorem jlim_any (k : Int) (w : World) :
   Calls Tryz.prog 159 #[.int .i64 (k)] w fun e w' => e = .returned (.tuple #[.int .i64 ((jlimI k).1), .int .i64 ((jlimI k).2)]) ∧ w = w' := by
 go_enter Tryz.func159, Tryz.ntmps159
 cases hc1 : (k == 1)
 · cases hc2 : (k == 2)
   · go_wp2_with fail
     have hF : jlimI k = (-268435456, 268435456) := by unfold jlimI; first | rfl | (simp only [hc1, hc2, cond_true, cond_false]; done) | (simp only [hc1, hc2, cond_true, cond_false]; rfl) | simp [hc1, hc2]
     refine bodyPost_ret (v := .tuple #[.int .i64 (-268435456), .int .i64 (268435456)]) (by simp [results, Tryz.results159, go_sem]) rfl ⟨by rw [hF], ?_⟩
     rfl
   · go_wp2_with fail
     have hF : jlimI k = (-205888, 205888) := by unfold jlimI; first | rfl | (simp only [hc1, hc2, cond_true, cond_false]; done) | (simp only [hc1, hc2, cond_true, cond_false]; rfl) | simp [hc1, hc2]
     refine bodyPost_ret (v := .tuple #[.int .i64 (-205888), .int .i64 (205888)]) (by simp [results, Tryz.results159, go_sem]) rfl ⟨by rw [hF], ?_⟩
     rfl
 · go_wp2_with fail
   have hF : jlimI k = (0, 268435456) := by unfold jlimI; first | rfl | (simp only [hc1, cond_true, cond_false]; done) | (simp only [hc1, cond_true, cond_false]; rfl) | simp [hc1]
   refine bodyPost_ret (v := .tuple #[.int .i64 (0), .int .i64 (268435456)]) (by simp [results, Tryz.results159, go_sem]) rfl ⟨by rw [hF], ?_⟩
   rfl
def jbodiesB (j : JointV) : Bool := bif j.kd == 5 then (let r8 : Bool := (j.ba == 0) && (jinB j.bb 1 1099511627776); r8) else (let r5 : Bool := (jinB j.ba 1 1099511627776) && ((jinB j.bb 1 1099511627776) && (j.ba != j.bb)); r5)
theorem jbodies_any (j : JointV) (w : World) :
   Calls Tryz.prog 90 #[.agg (encJointV j).toArray] w fun e w' => e = .returned (.bool (jbodiesB j)) ∧ Grw w w' := by
 go_enter Tryz.func90, Tryz.ntmps90
 go_upto_region 1 with (fail)
 refine wp_gen (fun xw => Grw w xw ∧ Bk xw (w.heap.size) 70 (encJointV j).toArray) ⟨((Grw.refl w)).alloc _, (Bk.new' (by simp))⟩ ?_
 rintro w1 ⟨hw1, hB1_0⟩
 have g1_0_1 : w1.cell? ⟨w.heap.size, 1, none⟩ = some (.int .i64 (j.kd)) := hB1_0.cell 1
 have g1_0_2 : w1.cell? ⟨w.heap.size, 2, none⟩ = some (.int .i64 (j.ba)) := hB1_0.cell 2
 have g1_0_3 : w1.cell? ⟨w.heap.size, 3, none⟩ = some (.int .i64 (j.bb)) := hB1_0.cell 3
 have g1_0_l := hB1_0.lt
 have HB1 := Lib.hid (show _ from hB1_0); clear hB1_0
 cases hc2 : (j.kd == 5)
 · go_upto_region 3 with (fail)
   obtain ⟨r5, hr5⟩ : ∃ r : Bool, r = ((jinB j.ba 1 1099511627776) && ((jinB j.bb 1 1099511627776) && (j.ba != j.bb))) := ⟨_, rfl⟩
   have R5 := Lib.hid hr5; clear hr5
   go_cut [2] (fun s2 xw => s2 = .bool (r5) ∧ w1 = xw)
   case first =>
     cases hc3 : (jinB j.ba 1 1099511627776)
     · go_wp2_with fail
       (go_at_call 160; refine (jin_any j.ba 1 1099511627776 _).mono ?_; rintro e w1 ⟨rfl, rfl⟩)
       go_wp2_with fail
       go_meet
       case rel =>
         have er5 : r5 = (false) := R5.out.trans (by simp [hc3])
         subst er5
         exact ⟨rfl, rfl⟩
     · cases hc4 : (jinB j.bb 1 1099511627776)
       · go_wp2_with fail
         (go_at_call 160; refine (jin_any j.ba 1 1099511627776 _).mono ?_; rintro e w1 ⟨rfl, rfl⟩)
         go_wp2_with fail
         (go_at_call 160; refine (jin_any j.bb 1 1099511627776 _).mono ?_; rintro e w1 ⟨rfl, rfl⟩)
         go_wp2_with fail
         go_meet
         case rel =>
           have er5 : r5 = (false) := R5.out.trans (by simp [hc3, hc4])
           subst er5
           exact ⟨rfl, rfl⟩
       · go_wp2_with fail
         (go_at_call 160; refine (jin_any j.ba 1 1099511627776 _).mono ?_; rintro e w1 ⟨rfl, rfl⟩)
         go_wp2_with fail
         (go_at_call 160; refine (jin_any j.bb 1 1099511627776 _).mono ?_; rintro e w1 ⟨rfl, rfl⟩)
         go_wp2_with fail
         go_meet
         case rel =>
           have er5 : r5 = (j.ba != j.bb) := R5.out.trans (by simp [hc3, hc4])
           subst er5
           exact ⟨rfl, rfl⟩
   case rest =>
   obtain ⟨rfl, rfl⟩ := hcut
   go_wp2_with fail
   have hF : jbodiesB j = r5 := by unfold jbodiesB; first | rfl | (simp only [← R5.out, hc2, cond_true, cond_false]; done) | (simp only [← R5.out, hc2, cond_true, cond_false]; rfl) | simp [← R5.out, hc2]
   refine bodyPost_ret (v := .bool (r5)) (by simp [results, Tryz.results90, go_sem, g1_0_1, g1_0_2, g1_0_3, g1_0_l]) rfl ⟨by rw [hF], ?_⟩
   exact hw1
 · go_upto_region 2 with (fail)
   obtain ⟨r8, hr8⟩ : ∃ r : Bool, r = ((j.ba == 0) && (jinB j.bb 1 1099511627776)) := ⟨_, rfl⟩
   have R8 := Lib.hid hr8; clear hr8
   go_cut [2] (fun s2 xw => s2 = .bool (r8) ∧ w1 = xw)
   case first =>
     cases hc7 : (j.ba == 0)
     · go_wp2_with fail
       go_meet
       case rel =>
         have er8 : r8 = (false) := R8.out.trans (by simp [hc7])
         subst er8
         exact ⟨rfl, rfl⟩
     · go_wp2_with fail
       (go_at_call 160; refine (jin_any j.bb 1 1099511627776 _).mono ?_; rintro e w1 ⟨rfl, rfl⟩)
       go_wp2_with fail
       go_meet
       case rel =>
         have er8 : r8 = (jinB j.bb 1 1099511627776) := R8.out.trans (by simp [hc7])
         subst er8
         exact ⟨rfl, rfl⟩
   case rest =>
   obtain ⟨rfl, rfl⟩ := hcut
   go_wp2_with fail
   have hF : jbodiesB j = r8 := by unfold jbodiesB; first | rfl | (simp only [← R8.out, hc2, cond_true, cond_false]; done) | (simp only [← R8.out, hc2, cond_true, cond_false]; rfl) | simp [← R8.out, hc2]
   refine bodyPost_ret (v := .bool (r8)) (by simp [results, Tryz.results90, go_sem, g1_0_1, g1_0_2, g1_0_3, g1_0_l]) rfl ⟨by rw [hF], ?_⟩
   exact hw1
def jinconB (j : JointV) : Bool := bif j.kd == 3 then (let r19 : Int := lenI j.xx j.xy; let r20 : Bool := jinB r19 65520 65552; (!r20)) else (bif j.kd == 1 then (let r16 : Bool := (!(eqB23 j.xx j.xy 0 0)) || (j.em || (!j.el)); r16) else (bif j.kd == 4 then (let r12 : Bool := (!(eqB23 j.xx j.xy 0 0)) || (j.em || j.el); r12) else (bif j.kd == 5 then (let r8 : Bool := (!(eqB23 j.xx j.xy 0 0)) || (j.em || j.el); r8) else ((!(eqB23 j.xx j.xy 0 0))))))
theorem jincon_any (j : JointV) (w : World) :
   Calls Tryz.prog 91 #[.agg (encJointV j).toArray] w fun e w' => e = .returned (.bool (jinconB j)) ∧ Grw w w' := by
 go_enter Tryz.func91, Tryz.ntmps91
 go_upto_region 1 with (fail)
 refine wp_gen (fun xw => Grw w xw ∧ Bk xw (w.heap.size) 70 (encJointV j).toArray) ⟨((Grw.refl w)).alloc _, (Bk.new' (by simp))⟩ ?_
 rintro w1 ⟨hw1, hB1_0⟩
 have g1_0_1 : w1.cell? ⟨w.heap.size, 1, none⟩ = some (.int .i64 (j.kd)) := hB1_0.cell 1
 have g1_0_8 : w1.cell? ⟨w.heap.size, 8, none⟩ = some (.int .i64 (j.xx)) := hB1_0.cell 8
 have g1_0_9 : w1.cell? ⟨w.heap.size, 9, none⟩ = some (.int .i64 (j.xy)) := hB1_0.cell 9
 have g1_0_11 : w1.cell? ⟨w.heap.size, 11, none⟩ = some (.bool (j.el)) := hB1_0.cell 11
 have g1_0_14 : w1.cell? ⟨w.heap.size, 14, none⟩ = some (.bool (j.em)) := hB1_0.cell 14
 have g1_0_l := hB1_0.lt
 have HB1 := Lib.hid (show _ from hB1_0); clear hB1_0
 cases hc2 : (j.kd == 3)
 · cases hc3 : (j.kd == 1)
   · cases hc4 : (j.kd == 4)
     · cases hc5 : (j.kd == 5)
       · go_wp2_with fail
         have hF : jinconB j = (!(eqB23 j.xx j.xy 0 0)) := by unfold jinconB; first | rfl | (simp only [hc2, hc3, hc4, hc5, cond_true, cond_false]; done) | (simp only [hc2, hc3, hc4, hc5, cond_true, cond_false]; rfl) | simp [hc2, hc3, hc4, hc5]
         refine bodyPost_ret (v := .bool (!(eqB23 j.xx j.xy 0 0))) (by simp [results, Tryz.results91, go_sem, g1_0_1, g1_0_8, g1_0_9, g1_0_11, g1_0_14, g1_0_l]) rfl ⟨by rw [hF], ?_⟩
         exact hw1
       · go_upto_region 9 with (fail)
         obtain ⟨r8, hr8⟩ : ∃ r : Bool, r = ((!(eqB23 j.xx j.xy 0 0)) || (j.em || j.el)) := ⟨_, rfl⟩
         have R8 := Lib.hid hr8; clear hr8
         go_cut [2, 0] (fun s2 _s0 xw => s2 = .bool (r8) ∧ w1 = xw)
         case first =>
           cases hc6 : (!(eqB23 j.xx j.xy 0 0))
           · cases hc7 : (j.em)
             · go_wp2_with fail
               go_meet
               case rel =>
                 have er8 : r8 = (j.el) := R8.out.trans (by simp [hc6, hc7])
                 subst er8
                 exact ⟨rfl, rfl⟩
             · go_wp2_with fail
               go_meet
               case rel =>
                 have er8 : r8 = (true) := R8.out.trans (by simp [hc6, hc7])
                 subst er8
                 exact ⟨rfl, rfl⟩
           · go_wp2_with fail
             go_meet
             case rel =>
               have er8 : r8 = (true) := R8.out.trans (by simp [hc6])
               subst er8
               exact ⟨rfl, rfl⟩
         case rest =>
         obtain ⟨rfl, rfl⟩ := hcut
         go_wp2_with fail
         have hF : jinconB j = r8 := by unfold jinconB; first | rfl | (simp only [← R8.out, hc2, hc3, hc4, hc5, cond_true, cond_false]; done) | (simp only [← R8.out, hc2, hc3, hc4, hc5, cond_true, cond_false]; rfl) | simp [← R8.out, hc2, hc3, hc4, hc5]
         refine bodyPost_ret (v := .bool (r8)) (by simp [results, Tryz.results91, go_sem, g1_0_1, g1_0_8, g1_0_9, g1_0_11, g1_0_14, g1_0_l]) rfl ⟨by rw [hF], ?_⟩
         exact hw1
     · go_upto_region 9 with (fail)
       obtain ⟨r12, hr12⟩ : ∃ r : Bool, r = ((!(eqB23 j.xx j.xy 0 0)) || (j.em || j.el)) := ⟨_, rfl⟩
       have R12 := Lib.hid hr12; clear hr12
       go_cut [2, 0] (fun s2 _s0 xw => s2 = .bool (r12) ∧ w1 = xw)
       case first =>
         cases hc10 : (!(eqB23 j.xx j.xy 0 0))
         · cases hc11 : (j.em)
           · go_wp2_with fail
             go_meet
             case rel =>
               have er12 : r12 = (j.el) := R12.out.trans (by simp [hc10, hc11])
               subst er12
               exact ⟨rfl, rfl⟩
           · go_wp2_with fail
             go_meet
             case rel =>
               have er12 : r12 = (true) := R12.out.trans (by simp [hc10, hc11])
               subst er12
               exact ⟨rfl, rfl⟩
         · go_wp2_with fail
           go_meet
           case rel =>
             have er12 : r12 = (true) := R12.out.trans (by simp [hc10])
             subst er12
             exact ⟨rfl, rfl⟩
       case rest =>
       obtain ⟨rfl, rfl⟩ := hcut
       go_wp2_with fail
       have hF : jinconB j = r12 := by unfold jinconB; first | rfl | (simp only [← R12.out, hc2, hc3, hc4, cond_true, cond_false]; done) | (simp only [← R12.out, hc2, hc3, hc4, cond_true, cond_false]; rfl) | simp [← R12.out, hc2, hc3, hc4]
       refine bodyPost_ret (v := .bool (r12)) (by simp [results, Tryz.results91, go_sem, g1_0_1, g1_0_8, g1_0_9, g1_0_11, g1_0_14, g1_0_l]) rfl ⟨by rw [hF], ?_⟩
       exact hw1
   · go_upto_region 8 with (fail)
     obtain ⟨r16, hr16⟩ : ∃ r : Bool, r = ((!(eqB23 j.xx j.xy 0 0)) || (j.em || (!j.el))) := ⟨_, rfl⟩
     have R16 := Lib.hid hr16; clear hr16
     go_cut [2, 0] (fun s2 _s0 xw => s2 = .bool (r16) ∧ w1 = xw)
     case first =>
       cases hc14 : (!(eqB23 j.xx j.xy 0 0))
       · cases hc15 : (j.em)
         · go_wp2_with fail
           go_meet
           case rel =>
             have er16 : r16 = (!j.el) := R16.out.trans (by simp [hc14, hc15])
             subst er16
             exact ⟨rfl, rfl⟩
         · go_wp2_with fail
           go_meet
           case rel =>
             have er16 : r16 = (true) := R16.out.trans (by simp [hc14, hc15])
             subst er16
             exact ⟨rfl, rfl⟩
       · go_wp2_with fail
         go_meet
         case rel =>
           have er16 : r16 = (true) := R16.out.trans (by simp [hc14])
           subst er16
           exact ⟨rfl, rfl⟩
     case rest =>
     obtain ⟨rfl, rfl⟩ := hcut
     go_wp2_with fail
     have hF : jinconB j = r16 := by unfold jinconB; first | rfl | (simp only [← R16.out, hc2, hc3, cond_true, cond_false]; done) | (simp only [← R16.out, hc2, hc3, cond_true, cond_false]; rfl) | simp [← R16.out, hc2, hc3]
     refine bodyPost_ret (v := .bool (r16)) (by simp [results, Tryz.results91, go_sem, g1_0_1, g1_0_8, g1_0_9, g1_0_11, g1_0_14, g1_0_l]) rfl ⟨by rw [hF], ?_⟩
     exact hw1
 · go_wp2_with fail
   (go_at_call 35; refine (length_any _ _ _).mono ?_; rintro e w18 ⟨rfl, hg18⟩)
   obtain ⟨r19, hr19⟩ : ∃ r : Int, r = lenI j.xx j.xy := ⟨_, rfl⟩
   (try simp only [← hr19])
   have R19 := Lib.hid hr19; clear hr19
   have b0 := HB1.out
   have hB18_0 : Bk w18 (w.heap.size) 70 (encJointV j).toArray := (b0).grw hg18
   have hw18 : Grw w w18 := (hw1).trans hg18
   have hs18 : w.heap.size < w18.heap.size := by have h1 := hg18.size; have h2 := g1_0_l; (try simp at h1); omega
   have g18_0_l := hB18_0.lt
   have HB18 := Lib.hid (show _ from hB18_0); clear hB18_0
   clear g1_0_1 g1_0_8 g1_0_9 g1_0_11 g1_0_14 g1_0_l b0 HB1 hw1 hg18
   go_wp2_with fail
   (go_at_call 160; refine (jin_any r19 65520 65552 _).mono ?_; rintro e w1 ⟨rfl, rfl⟩)
   obtain ⟨r20, hr20⟩ : ∃ r : Bool, r = jinB r19 65520 65552 := ⟨_, rfl⟩
   (try simp only [← hr20])
   have R20 := Lib.hid hr20; clear hr20
   go_wp2_with fail
   have hF : jinconB j = (!r20) := by unfold jinconB; first | rfl | (simp only [← R20.out, ← R19.out, hc2, cond_true, cond_false]; done) | (simp only [← R20.out, ← R19.out, hc2, cond_true, cond_false]; rfl) | simp [← R20.out, ← R19.out, hc2]
   refine bodyPost_ret (v := .bool (!r20)) (by simp [results, Tryz.results91, go_sem, g18_0_l]) rfl ⟨by rw [hF], ?_⟩
   exact hw18
def jnumB (j : JointV) : Bool := let r3 : Int := bif j.kd == 5 then 268435456 else 1048576; let r5 : Int := (jlimI j.kd).1; let r6 : Int := (jlimI j.kd).2; let r7 : Bool := jinB j.i0 (-536870911) 536870911; bif !r7 then (false) else (let r9 : Bool := jinB j.i1 (-536870911) 536870911; bif !r9 then (false) else (let r11 : Bool := jinB j.i2 (-536870911) 536870911; bif !r11 then (false) else (let r13 : Bool := jinB j.i3 (-536870911) 536870911; bif !r13 then (false) else (let r44 : Bool := (jinB j.id 1 1099511627776) && ((jpinB j.ax j.ay r3) && ((jpinB j.bx j.by_ 1048576) && ((jinB j.ra (-205888) 205887) && ((jinB j.lo r5 r6) && ((jinB j.hi r5 r6) && ((decide (j.lo ≤ j.hi)) && ((jinB j.ms (-16777216) 16777216) && ((jinB j.mf 0 536870911) && ((jinB j.so 0 536870911) && (jinB j.bf 0 536870911)))))))))); r44))))
theorem jnum_any (j : JointV) (w : World) :
   Calls Tryz.prog 89 #[.agg (encJointV j).toArray] w fun e w' => e = .returned (.bool (jnumB j)) ∧ Grw w w' := by
 go_enter Tryz.func89, Tryz.ntmps89
 go_upto_region 2 with (fail)
 refine wp_gen (fun xw => Grw w xw ∧ Bk xw (w.heap.size) 70 (encJointV j).toArray) ⟨((Grw.refl w)).alloc _, (Bk.new' (by simp))⟩ ?_
 rintro w1 ⟨hw1, hB1_0⟩
 have g1_0_0 : w1.cell? ⟨w.heap.size, 0, none⟩ = some (.int .i64 (j.id)) := hB1_0.cell 0
 have g1_0_1 : w1.cell? ⟨w.heap.size, 1, none⟩ = some (.int .i64 (j.kd)) := hB1_0.cell 1
 have g1_0_4 : w1.cell? ⟨w.heap.size, 4, none⟩ = some (.int .i64 (j.ax)) := hB1_0.cell 4
 have g1_0_5 : w1.cell? ⟨w.heap.size, 5, none⟩ = some (.int .i64 (j.ay)) := hB1_0.cell 5
 have g1_0_20 : w1.cell? ⟨w.heap.size, 20, none⟩ = some (.int .i64 (j.i0)) := hB1_0.cell 20
 have g1_0_21 : w1.cell? ⟨w.heap.size, 21, none⟩ = some (.int .i64 (j.i1)) := hB1_0.cell 21
 have g1_0_22 : w1.cell? ⟨w.heap.size, 22, none⟩ = some (.int .i64 (j.i2)) := hB1_0.cell 22
 have g1_0_23 : w1.cell? ⟨w.heap.size, 23, none⟩ = some (.int .i64 (j.i3)) := hB1_0.cell 23
 have g1_0_l := hB1_0.lt
 have HB1 := Lib.hid (show _ from hB1_0); clear hB1_0
 go_upto_if 10 with (fail)
 obtain ⟨r3, hr3⟩ : ∃ r : Int, r = (bif j.kd == 5 then 268435456 else 1048576) := ⟨_, rfl⟩
 have R3 := Lib.hid hr3; clear hr3
 go_cut [3, 10] (fun s3 _s10 xw => s3 = .int .i64 (r3) ∧ w1 = xw)
 case first =>
   cases hc2 : (j.kd == 5)
   · go_wp2_with fail
     go_meet
     case rel =>
       have er3 : r3 = (1048576) := R3.out.trans (by simp [hc2])
       subst er3
       exact ⟨rfl, rfl⟩
   · go_wp2_with fail
     go_meet
     case rel =>
       have er3 : r3 = (268435456) := R3.out.trans (by simp [hc2])
       subst er3
       exact ⟨rfl, rfl⟩
 case rest =>
 obtain ⟨rfl, rfl⟩ := hcut
 go_wp2_with fail
 (go_at_call 159; refine (jlim_any j.kd _).mono ?_; rintro e w1 ⟨rfl, rfl⟩)
 obtain ⟨r5, hr5⟩ : ∃ r : Int, r = (jlimI j.kd).1 := ⟨_, rfl⟩
 obtain ⟨r6, hr6⟩ : ∃ r : Int, r = (jlimI j.kd).2 := ⟨_, rfl⟩
 (try simp only [← hr5, ← hr6])
 have R5 := Lib.hid hr5; clear hr5
 have R6 := Lib.hid hr6; clear hr6
 go_wp2_with fail
 refine wp_loop_rounds 6 ?_
 rw [rounds_succ]
 go_wp2_with fail
 (go_at_call 160; refine (jin_any j.i0 (-536870911) 536870911 _).mono ?_; rintro e w1 ⟨rfl, rfl⟩)
 obtain ⟨r7, hr7⟩ : ∃ r : Bool, r = jinB j.i0 (-536870911) 536870911 := ⟨_, rfl⟩
 (try simp only [← hr7])
 have R7 := Lib.hid hr7; clear hr7
 cases hc8 : (!r7)
 · go_wp2_with fail
   rw [rounds_succ]
   go_wp2_with fail
   (go_at_call 160; refine (jin_any j.i1 (-536870911) 536870911 _).mono ?_; rintro e w1 ⟨rfl, rfl⟩)
   obtain ⟨r9, hr9⟩ : ∃ r : Bool, r = jinB j.i1 (-536870911) 536870911 := ⟨_, rfl⟩
   (try simp only [← hr9])
   have R9 := Lib.hid hr9; clear hr9
   cases hc10 : (!r9)
   · go_wp2_with fail
     rw [rounds_succ]
     go_wp2_with fail
     (go_at_call 160; refine (jin_any j.i2 (-536870911) 536870911 _).mono ?_; rintro e w1 ⟨rfl, rfl⟩)
     obtain ⟨r11, hr11⟩ : ∃ r : Bool, r = jinB j.i2 (-536870911) 536870911 := ⟨_, rfl⟩
     (try simp only [← hr11])
     have R11 := Lib.hid hr11; clear hr11
     cases hc12 : (!r11)
     · go_wp2_with fail
       rw [rounds_succ]
       go_wp2_with fail
       (go_at_call 160; refine (jin_any j.i3 (-536870911) 536870911 _).mono ?_; rintro e w1 ⟨rfl, rfl⟩)
       obtain ⟨r13, hr13⟩ : ∃ r : Bool, r = jinB j.i3 (-536870911) 536870911 := ⟨_, rfl⟩
       (try simp only [← hr13])
       have R13 := Lib.hid hr13; clear hr13
       cases hc14 : (!r13)
       · go_wp2_with fail
         rw [rounds_succ]
         go_upto_region 11 with (fail)
         obtain ⟨r44, hr44⟩ : ∃ r : Bool, r = ((jinB j.id 1 1099511627776) && ((jpinB j.ax j.ay r3) && ((jpinB j.bx j.by_ 1048576) && ((jinB j.ra (-205888) 205887) && ((jinB j.lo r5 r6) && ((jinB j.hi r5 r6) && ((decide (j.lo ≤ j.hi)) && ((jinB j.ms (-16777216) 16777216) && ((jinB j.mf 0 536870911) && ((jinB j.so 0 536870911) && (jinB j.bf 0 536870911))))))))))) := ⟨_, rfl⟩
         have R44 := Lib.hid hr44; clear hr44
         go_cut [2] (fun s2 xw => s2 = .bool (r44) ∧ Grw w xw)
         case first =>
           cases hc15 : (jinB j.id 1 1099511627776)
           · go_wp2_with fail
             (go_at_call 160; refine (jin_any j.id 1 1099511627776 _).mono ?_; rintro e w1 ⟨rfl, rfl⟩)
             go_wp2_with fail
             go_meet
             case rel =>
               have er44 : r44 = (false) := R44.out.trans (by simp [hc15])
               subst er44
               have b0 := HB1.out
               exact ⟨rfl, hw1⟩
           · cases hc16 : (jpinB j.ax j.ay r3)
             · go_wp2_with fail
               (go_at_call 160; refine (jin_any j.id 1 1099511627776 _).mono ?_; rintro e w1 ⟨rfl, rfl⟩)
               go_wp2_with fail
               (go_at_call 161; refine (jpin_any j.ax j.ay r3 _).mono ?_; rintro e w17 ⟨rfl, hg17⟩)
               have b0 := HB1.out
               have hB17_0 : Bk w17 (w.heap.size) 70 (encJointV j).toArray := (b0).grw hg17
               have hw17 : Grw w w17 := (hw1).trans hg17
               have hs17 : w.heap.size < w17.heap.size := by have h1 := hg17.size; have h2 := g1_0_l; (try simp at h1); omega
               have g17_0_l := hB17_0.lt
               have HB17 := Lib.hid (show _ from hB17_0); clear hB17_0
               clear g1_0_0 g1_0_1 g1_0_4 g1_0_5 g1_0_20 g1_0_21 g1_0_22 g1_0_23 g1_0_l b0 HB1 hw1 hg17
               go_wp2_with fail
               go_meet
               case rel =>
                 have er44 : r44 = (false) := R44.out.trans (by simp [hc15, hc16])
                 subst er44
                 have b0 := HB17.out
                 exact ⟨rfl, hw17⟩
             · cases hc18 : (jpinB j.bx j.by_ 1048576)
               · go_wp2_with fail
                 (go_at_call 160; refine (jin_any j.id 1 1099511627776 _).mono ?_; rintro e w1 ⟨rfl, rfl⟩)
                 go_wp2_with fail
                 (go_at_call 161; refine (jpin_any j.ax j.ay r3 _).mono ?_; rintro e w19 ⟨rfl, hg19⟩)
                 have b0 := HB1.out
                 have hB19_0 : Bk w19 (w.heap.size) 70 (encJointV j).toArray := (b0).grw hg19
                 have hw19 : Grw w w19 := (hw1).trans hg19
                 have hs19 : w.heap.size < w19.heap.size := by have h1 := hg19.size; have h2 := g1_0_l; (try simp at h1); omega
                 have g19_0_6 : w19.cell? ⟨w.heap.size, 6, none⟩ = some (.int .i64 (j.bx)) := hB19_0.cell 6
                 have g19_0_7 : w19.cell? ⟨w.heap.size, 7, none⟩ = some (.int .i64 (j.by_)) := hB19_0.cell 7
                 have g19_0_l := hB19_0.lt
                 have HB19 := Lib.hid (show _ from hB19_0); clear hB19_0
                 clear g1_0_0 g1_0_1 g1_0_4 g1_0_5 g1_0_20 g1_0_21 g1_0_22 g1_0_23 g1_0_l b0 HB1 hw1 hg19
                 go_wp2_with fail
                 (go_at_call 161; refine (jpin_any j.bx j.by_ 1048576 _).mono ?_; rintro e w20 ⟨rfl, hg20⟩)
                 have b0 := HB19.out
                 have hB20_0 : Bk w20 (w.heap.size) 70 (encJointV j).toArray := (b0).grw hg20
                 have hw20 : Grw w w20 := (hw19).trans hg20
                 have hs20 : w.heap.size < w20.heap.size := by have h1 := hg20.size; have h2 := g19_0_l; (try simp at h1); omega
                 have g20_0_l := hB20_0.lt
                 have HB20 := Lib.hid (show _ from hB20_0); clear hB20_0
                 clear g19_0_6 g19_0_7 g19_0_l b0 HB19 hw19 hg20
                 go_wp2_with fail
                 go_meet
                 case rel =>
                   have er44 : r44 = (false) := R44.out.trans (by simp [hc15, hc16, hc18])
                   subst er44
                   have b0 := HB20.out
                   exact ⟨rfl, hw20⟩
               · cases hc21 : (jinB j.ra (-205888) 205887)
                 · go_wp2_with fail
                   (go_at_call 160; refine (jin_any j.id 1 1099511627776 _).mono ?_; rintro e w1 ⟨rfl, rfl⟩)
                   go_wp2_with fail
                   (go_at_call 161; refine (jpin_any j.ax j.ay r3 _).mono ?_; rintro e w22 ⟨rfl, hg22⟩)
                   have b0 := HB1.out
                   have hB22_0 : Bk w22 (w.heap.size) 70 (encJointV j).toArray := (b0).grw hg22
                   have hw22 : Grw w w22 := (hw1).trans hg22
                   have hs22 : w.heap.size < w22.heap.size := by have h1 := hg22.size; have h2 := g1_0_l; (try simp at h1); omega
                   have g22_0_6 : w22.cell? ⟨w.heap.size, 6, none⟩ = some (.int .i64 (j.bx)) := hB22_0.cell 6
                   have g22_0_7 : w22.cell? ⟨w.heap.size, 7, none⟩ = some (.int .i64 (j.by_)) := hB22_0.cell 7
                   have g22_0_l := hB22_0.lt
                   have HB22 := Lib.hid (show _ from hB22_0); clear hB22_0
                   clear g1_0_0 g1_0_1 g1_0_4 g1_0_5 g1_0_20 g1_0_21 g1_0_22 g1_0_23 g1_0_l b0 HB1 hw1 hg22
                   go_wp2_with fail
                   (go_at_call 161; refine (jpin_any j.bx j.by_ 1048576 _).mono ?_; rintro e w23 ⟨rfl, hg23⟩)
                   have b0 := HB22.out
                   have hB23_0 : Bk w23 (w.heap.size) 70 (encJointV j).toArray := (b0).grw hg23
                   have hw23 : Grw w w23 := (hw22).trans hg23
                   have hs23 : w.heap.size < w23.heap.size := by have h1 := hg23.size; have h2 := g22_0_l; (try simp at h1); omega
                   have g23_0_10 : w23.cell? ⟨w.heap.size, 10, none⟩ = some (.int .i64 (j.ra)) := hB23_0.cell 10
                   have g23_0_l := hB23_0.lt
                   have HB23 := Lib.hid (show _ from hB23_0); clear hB23_0
                   clear g22_0_6 g22_0_7 g22_0_l b0 HB22 hw22 hg23
                   go_wp2_with fail
                   (go_at_call 160; refine (jin_any j.ra (-205888) 205887 _).mono ?_; rintro e w1 ⟨rfl, rfl⟩)
                   go_wp2_with fail
                   go_meet
                   case rel =>
                     have er44 : r44 = (false) := R44.out.trans (by simp [hc15, hc16, hc18, hc21])
                     subst er44
                     have b0 := HB23.out
                     exact ⟨rfl, hw23⟩
                 · cases hc24 : (jinB j.lo r5 r6)
                   · go_wp2_with fail
                     (go_at_call 160; refine (jin_any j.id 1 1099511627776 _).mono ?_; rintro e w1 ⟨rfl, rfl⟩)
                     go_wp2_with fail
                     (go_at_call 161; refine (jpin_any j.ax j.ay r3 _).mono ?_; rintro e w25 ⟨rfl, hg25⟩)
                     have b0 := HB1.out
                     have hB25_0 : Bk w25 (w.heap.size) 70 (encJointV j).toArray := (b0).grw hg25
                     have hw25 : Grw w w25 := (hw1).trans hg25
                     have hs25 : w.heap.size < w25.heap.size := by have h1 := hg25.size; have h2 := g1_0_l; (try simp at h1); omega
                     have g25_0_6 : w25.cell? ⟨w.heap.size, 6, none⟩ = some (.int .i64 (j.bx)) := hB25_0.cell 6
                     have g25_0_7 : w25.cell? ⟨w.heap.size, 7, none⟩ = some (.int .i64 (j.by_)) := hB25_0.cell 7
                     have g25_0_l := hB25_0.lt
                     have HB25 := Lib.hid (show _ from hB25_0); clear hB25_0
                     clear g1_0_0 g1_0_1 g1_0_4 g1_0_5 g1_0_20 g1_0_21 g1_0_22 g1_0_23 g1_0_l b0 HB1 hw1 hg25
                     go_wp2_with fail
                     (go_at_call 161; refine (jpin_any j.bx j.by_ 1048576 _).mono ?_; rintro e w26 ⟨rfl, hg26⟩)
                     have b0 := HB25.out
                     have hB26_0 : Bk w26 (w.heap.size) 70 (encJointV j).toArray := (b0).grw hg26
                     have hw26 : Grw w w26 := (hw25).trans hg26
                     have hs26 : w.heap.size < w26.heap.size := by have h1 := hg26.size; have h2 := g25_0_l; (try simp at h1); omega
                     have g26_0_10 : w26.cell? ⟨w.heap.size, 10, none⟩ = some (.int .i64 (j.ra)) := hB26_0.cell 10
                     have g26_0_12 : w26.cell? ⟨w.heap.size, 12, none⟩ = some (.int .i64 (j.lo)) := hB26_0.cell 12
                     have g26_0_l := hB26_0.lt
                     have HB26 := Lib.hid (show _ from hB26_0); clear hB26_0
                     clear g25_0_6 g25_0_7 g25_0_l b0 HB25 hw25 hg26
                     go_wp2_with fail
                     (go_at_call 160; refine (jin_any j.ra (-205888) 205887 _).mono ?_; rintro e w1 ⟨rfl, rfl⟩)
                     go_wp2_with fail
                     (go_at_call 160; refine (jin_any j.lo r5 r6 _).mono ?_; rintro e w1 ⟨rfl, rfl⟩)
                     go_wp2_with fail
                     go_meet
                     case rel =>
                       have er44 : r44 = (false) := R44.out.trans (by simp [hc15, hc16, hc18, hc21, hc24])
                       subst er44
                       have b0 := HB26.out
                       exact ⟨rfl, hw26⟩
                   · cases hc27 : (jinB j.hi r5 r6)
                     · go_wp2_with fail
                       (go_at_call 160; refine (jin_any j.id 1 1099511627776 _).mono ?_; rintro e w1 ⟨rfl, rfl⟩)
                       go_wp2_with fail
                       (go_at_call 161; refine (jpin_any j.ax j.ay r3 _).mono ?_; rintro e w28 ⟨rfl, hg28⟩)
                       have b0 := HB1.out
                       have hB28_0 : Bk w28 (w.heap.size) 70 (encJointV j).toArray := (b0).grw hg28
                       have hw28 : Grw w w28 := (hw1).trans hg28
                       have hs28 : w.heap.size < w28.heap.size := by have h1 := hg28.size; have h2 := g1_0_l; (try simp at h1); omega
                       have g28_0_6 : w28.cell? ⟨w.heap.size, 6, none⟩ = some (.int .i64 (j.bx)) := hB28_0.cell 6
                       have g28_0_7 : w28.cell? ⟨w.heap.size, 7, none⟩ = some (.int .i64 (j.by_)) := hB28_0.cell 7
                       have g28_0_l := hB28_0.lt
                       have HB28 := Lib.hid (show _ from hB28_0); clear hB28_0
                       clear g1_0_0 g1_0_1 g1_0_4 g1_0_5 g1_0_20 g1_0_21 g1_0_22 g1_0_23 g1_0_l b0 HB1 hw1 hg28
                       go_wp2_with fail
                       (go_at_call 161; refine (jpin_any j.bx j.by_ 1048576 _).mono ?_; rintro e w29 ⟨rfl, hg29⟩)
                       have b0 := HB28.out
                       have hB29_0 : Bk w29 (w.heap.size) 70 (encJointV j).toArray := (b0).grw hg29
                       have hw29 : Grw w w29 := (hw28).trans hg29
                       have hs29 : w.heap.size < w29.heap.size := by have h1 := hg29.size; have h2 := g28_0_l; (try simp at h1); omega
                       have g29_0_10 : w29.cell? ⟨w.heap.size, 10, none⟩ = some (.int .i64 (j.ra)) := hB29_0.cell 10
                       have g29_0_12 : w29.cell? ⟨w.heap.size, 12, none⟩ = some (.int .i64 (j.lo)) := hB29_0.cell 12
                       have g29_0_13 : w29.cell? ⟨w.heap.size, 13, none⟩ = some (.int .i64 (j.hi)) := hB29_0.cell 13
                       have g29_0_l := hB29_0.lt
                       have HB29 := Lib.hid (show _ from hB29_0); clear hB29_0
                       clear g28_0_6 g28_0_7 g28_0_l b0 HB28 hw28 hg29
                       go_wp2_with fail
                       (go_at_call 160; refine (jin_any j.ra (-205888) 205887 _).mono ?_; rintro e w1 ⟨rfl, rfl⟩)
                       go_wp2_with fail
                       (go_at_call 160; refine (jin_any j.lo r5 r6 _).mono ?_; rintro e w1 ⟨rfl, rfl⟩)
                       go_wp2_with fail
                       (go_at_call 160; refine (jin_any j.hi r5 r6 _).mono ?_; rintro e w1 ⟨rfl, rfl⟩)
                       go_wp2_with fail
                       go_meet
                       case rel =>
                         have er44 : r44 = (false) := R44.out.trans (by simp [hc15, hc16, hc18, hc21, hc24, hc27])
                         subst er44
                         have b0 := HB29.out
                         exact ⟨rfl, hw29⟩
                     · cases hc30 : (decide (j.lo ≤ j.hi))
                       · go_wp2_with fail
                         (go_at_call 160; refine (jin_any j.id 1 1099511627776 _).mono ?_; rintro e w1 ⟨rfl, rfl⟩)
                         go_wp2_with fail
                         (go_at_call 161; refine (jpin_any j.ax j.ay r3 _).mono ?_; rintro e w31 ⟨rfl, hg31⟩)
                         have b0 := HB1.out
                         have hB31_0 : Bk w31 (w.heap.size) 70 (encJointV j).toArray := (b0).grw hg31
                         have hw31 : Grw w w31 := (hw1).trans hg31
                         have hs31 : w.heap.size < w31.heap.size := by have h1 := hg31.size; have h2 := g1_0_l; (try simp at h1); omega
                         have g31_0_6 : w31.cell? ⟨w.heap.size, 6, none⟩ = some (.int .i64 (j.bx)) := hB31_0.cell 6
                         have g31_0_7 : w31.cell? ⟨w.heap.size, 7, none⟩ = some (.int .i64 (j.by_)) := hB31_0.cell 7
                         have g31_0_l := hB31_0.lt
                         have HB31 := Lib.hid (show _ from hB31_0); clear hB31_0
                         clear g1_0_0 g1_0_1 g1_0_4 g1_0_5 g1_0_20 g1_0_21 g1_0_22 g1_0_23 g1_0_l b0 HB1 hw1 hg31
                         go_wp2_with fail
                         (go_at_call 161; refine (jpin_any j.bx j.by_ 1048576 _).mono ?_; rintro e w32 ⟨rfl, hg32⟩)
                         have b0 := HB31.out
                         have hB32_0 : Bk w32 (w.heap.size) 70 (encJointV j).toArray := (b0).grw hg32
                         have hw32 : Grw w w32 := (hw31).trans hg32
                         have hs32 : w.heap.size < w32.heap.size := by have h1 := hg32.size; have h2 := g31_0_l; (try simp at h1); omega
                         have g32_0_10 : w32.cell? ⟨w.heap.size, 10, none⟩ = some (.int .i64 (j.ra)) := hB32_0.cell 10
                         have g32_0_12 : w32.cell? ⟨w.heap.size, 12, none⟩ = some (.int .i64 (j.lo)) := hB32_0.cell 12
                         have g32_0_13 : w32.cell? ⟨w.heap.size, 13, none⟩ = some (.int .i64 (j.hi)) := hB32_0.cell 13
                         have g32_0_l := hB32_0.lt
                         have HB32 := Lib.hid (show _ from hB32_0); clear hB32_0
                         clear g31_0_6 g31_0_7 g31_0_l b0 HB31 hw31 hg32
                         go_wp2_with fail
                         (go_at_call 160; refine (jin_any j.ra (-205888) 205887 _).mono ?_; rintro e w1 ⟨rfl, rfl⟩)
                         go_wp2_with fail
                         (go_at_call 160; refine (jin_any j.lo r5 r6 _).mono ?_; rintro e w1 ⟨rfl, rfl⟩)
                         go_wp2_with fail
                         (go_at_call 160; refine (jin_any j.hi r5 r6 _).mono ?_; rintro e w1 ⟨rfl, rfl⟩)
                         go_wp2_with fail
                         go_meet
                         case rel =>
                           have er44 : r44 = (false) := R44.out.trans (by simp [hc15, hc16, hc18, hc21, hc24, hc27, hc30])
                           subst er44
                           have b0 := HB32.out
                           exact ⟨rfl, hw32⟩
                       · cases hc33 : (jinB j.ms (-16777216) 16777216)
                         · go_wp2_with fail
                           (go_at_call 160; refine (jin_any j.id 1 1099511627776 _).mono ?_; rintro e w1 ⟨rfl, rfl⟩)
                           go_wp2_with fail
                           (go_at_call 161; refine (jpin_any j.ax j.ay r3 _).mono ?_; rintro e w34 ⟨rfl, hg34⟩)
                           have b0 := HB1.out
                           have hB34_0 : Bk w34 (w.heap.size) 70 (encJointV j).toArray := (b0).grw hg34
                           have hw34 : Grw w w34 := (hw1).trans hg34
                           have hs34 : w.heap.size < w34.heap.size := by have h1 := hg34.size; have h2 := g1_0_l; (try simp at h1); omega
                           have g34_0_6 : w34.cell? ⟨w.heap.size, 6, none⟩ = some (.int .i64 (j.bx)) := hB34_0.cell 6
                           have g34_0_7 : w34.cell? ⟨w.heap.size, 7, none⟩ = some (.int .i64 (j.by_)) := hB34_0.cell 7
                           have g34_0_l := hB34_0.lt
                           have HB34 := Lib.hid (show _ from hB34_0); clear hB34_0
                           clear g1_0_0 g1_0_1 g1_0_4 g1_0_5 g1_0_20 g1_0_21 g1_0_22 g1_0_23 g1_0_l b0 HB1 hw1 hg34
                           go_wp2_with fail
                           (go_at_call 161; refine (jpin_any j.bx j.by_ 1048576 _).mono ?_; rintro e w35 ⟨rfl, hg35⟩)
                           have b0 := HB34.out
                           have hB35_0 : Bk w35 (w.heap.size) 70 (encJointV j).toArray := (b0).grw hg35
                           have hw35 : Grw w w35 := (hw34).trans hg35
                           have hs35 : w.heap.size < w35.heap.size := by have h1 := hg35.size; have h2 := g34_0_l; (try simp at h1); omega
                           have g35_0_10 : w35.cell? ⟨w.heap.size, 10, none⟩ = some (.int .i64 (j.ra)) := hB35_0.cell 10
                           have g35_0_12 : w35.cell? ⟨w.heap.size, 12, none⟩ = some (.int .i64 (j.lo)) := hB35_0.cell 12
                           have g35_0_13 : w35.cell? ⟨w.heap.size, 13, none⟩ = some (.int .i64 (j.hi)) := hB35_0.cell 13
                           have g35_0_15 : w35.cell? ⟨w.heap.size, 15, none⟩ = some (.int .i64 (j.ms)) := hB35_0.cell 15
                           have g35_0_l := hB35_0.lt
                           have HB35 := Lib.hid (show _ from hB35_0); clear hB35_0
                           clear g34_0_6 g34_0_7 g34_0_l b0 HB34 hw34 hg35
                           go_wp2_with fail
                           (go_at_call 160; refine (jin_any j.ra (-205888) 205887 _).mono ?_; rintro e w1 ⟨rfl, rfl⟩)
                           go_wp2_with fail
                           (go_at_call 160; refine (jin_any j.lo r5 r6 _).mono ?_; rintro e w1 ⟨rfl, rfl⟩)
                           go_wp2_with fail
                           (go_at_call 160; refine (jin_any j.hi r5 r6 _).mono ?_; rintro e w1 ⟨rfl, rfl⟩)
                           go_wp2_with fail
                           (go_at_call 160; refine (jin_any j.ms (-16777216) 16777216 _).mono ?_; rintro e w1 ⟨rfl, rfl⟩)
                           go_wp2_with fail
                           go_meet
                           case rel =>
                             have er44 : r44 = (false) := R44.out.trans (by simp [hc15, hc16, hc18, hc21, hc24, hc27, hc30, hc33])
                             subst er44
                             have b0 := HB35.out
                             exact ⟨rfl, hw35⟩
                         · cases hc36 : (jinB j.mf 0 536870911)
                           · go_wp2_with fail
                             (go_at_call 160; refine (jin_any j.id 1 1099511627776 _).mono ?_; rintro e w1 ⟨rfl, rfl⟩)
                             go_wp2_with fail
                             (go_at_call 161; refine (jpin_any j.ax j.ay r3 _).mono ?_; rintro e w37 ⟨rfl, hg37⟩)
                             have b0 := HB1.out
                             have hB37_0 : Bk w37 (w.heap.size) 70 (encJointV j).toArray := (b0).grw hg37
                             have hw37 : Grw w w37 := (hw1).trans hg37
                             have hs37 : w.heap.size < w37.heap.size := by have h1 := hg37.size; have h2 := g1_0_l; (try simp at h1); omega
                             have g37_0_6 : w37.cell? ⟨w.heap.size, 6, none⟩ = some (.int .i64 (j.bx)) := hB37_0.cell 6
                             have g37_0_7 : w37.cell? ⟨w.heap.size, 7, none⟩ = some (.int .i64 (j.by_)) := hB37_0.cell 7
                             have g37_0_l := hB37_0.lt
                             have HB37 := Lib.hid (show _ from hB37_0); clear hB37_0
                             clear g1_0_0 g1_0_1 g1_0_4 g1_0_5 g1_0_20 g1_0_21 g1_0_22 g1_0_23 g1_0_l b0 HB1 hw1 hg37
                             go_wp2_with fail
                             (go_at_call 161; refine (jpin_any j.bx j.by_ 1048576 _).mono ?_; rintro e w38 ⟨rfl, hg38⟩)
                             have b0 := HB37.out
                             have hB38_0 : Bk w38 (w.heap.size) 70 (encJointV j).toArray := (b0).grw hg38
                             have hw38 : Grw w w38 := (hw37).trans hg38
                             have hs38 : w.heap.size < w38.heap.size := by have h1 := hg38.size; have h2 := g37_0_l; (try simp at h1); omega
                             have g38_0_10 : w38.cell? ⟨w.heap.size, 10, none⟩ = some (.int .i64 (j.ra)) := hB38_0.cell 10
                             have g38_0_12 : w38.cell? ⟨w.heap.size, 12, none⟩ = some (.int .i64 (j.lo)) := hB38_0.cell 12
                             have g38_0_13 : w38.cell? ⟨w.heap.size, 13, none⟩ = some (.int .i64 (j.hi)) := hB38_0.cell 13
                             have g38_0_15 : w38.cell? ⟨w.heap.size, 15, none⟩ = some (.int .i64 (j.ms)) := hB38_0.cell 15
                             have g38_0_16 : w38.cell? ⟨w.heap.size, 16, none⟩ = some (.int .i64 (j.mf)) := hB38_0.cell 16
                             have g38_0_l := hB38_0.lt
                             have HB38 := Lib.hid (show _ from hB38_0); clear hB38_0
                             clear g37_0_6 g37_0_7 g37_0_l b0 HB37 hw37 hg38
                             go_wp2_with fail
                             (go_at_call 160; refine (jin_any j.ra (-205888) 205887 _).mono ?_; rintro e w1 ⟨rfl, rfl⟩)
                             go_wp2_with fail
                             (go_at_call 160; refine (jin_any j.lo r5 r6 _).mono ?_; rintro e w1 ⟨rfl, rfl⟩)
                             go_wp2_with fail
                             (go_at_call 160; refine (jin_any j.hi r5 r6 _).mono ?_; rintro e w1 ⟨rfl, rfl⟩)
                             go_wp2_with fail
                             (go_at_call 160; refine (jin_any j.ms (-16777216) 16777216 _).mono ?_; rintro e w1 ⟨rfl, rfl⟩)
                             go_wp2_with fail
                             (go_at_call 160; refine (jin_any j.mf 0 536870911 _).mono ?_; rintro e w1 ⟨rfl, rfl⟩)
                             go_wp2_with fail
                             go_meet
                             case rel =>
                               have er44 : r44 = (false) := R44.out.trans (by simp [hc15, hc16, hc18, hc21, hc24, hc27, hc30, hc33, hc36])
                               subst er44
                               have b0 := HB38.out
                               exact ⟨rfl, hw38⟩
                           · cases hc39 : (jinB j.so 0 536870911)
                             · go_wp2_with fail
                               (go_at_call 160; refine (jin_any j.id 1 1099511627776 _).mono ?_; rintro e w1 ⟨rfl, rfl⟩)
                               go_wp2_with fail
                               (go_at_call 161; refine (jpin_any j.ax j.ay r3 _).mono ?_; rintro e w40 ⟨rfl, hg40⟩)
                               have b0 := HB1.out
                               have hB40_0 : Bk w40 (w.heap.size) 70 (encJointV j).toArray := (b0).grw hg40
                               have hw40 : Grw w w40 := (hw1).trans hg40
                               have hs40 : w.heap.size < w40.heap.size := by have h1 := hg40.size; have h2 := g1_0_l; (try simp at h1); omega
                               have g40_0_6 : w40.cell? ⟨w.heap.size, 6, none⟩ = some (.int .i64 (j.bx)) := hB40_0.cell 6
                               have g40_0_7 : w40.cell? ⟨w.heap.size, 7, none⟩ = some (.int .i64 (j.by_)) := hB40_0.cell 7
                               have g40_0_l := hB40_0.lt
                               have HB40 := Lib.hid (show _ from hB40_0); clear hB40_0
                               clear g1_0_0 g1_0_1 g1_0_4 g1_0_5 g1_0_20 g1_0_21 g1_0_22 g1_0_23 g1_0_l b0 HB1 hw1 hg40
                               go_wp2_with fail
                               (go_at_call 161; refine (jpin_any j.bx j.by_ 1048576 _).mono ?_; rintro e w41 ⟨rfl, hg41⟩)
                               have b0 := HB40.out
                               have hB41_0 : Bk w41 (w.heap.size) 70 (encJointV j).toArray := (b0).grw hg41
                               have hw41 : Grw w w41 := (hw40).trans hg41
                               have hs41 : w.heap.size < w41.heap.size := by have h1 := hg41.size; have h2 := g40_0_l; (try simp at h1); omega
                               have g41_0_10 : w41.cell? ⟨w.heap.size, 10, none⟩ = some (.int .i64 (j.ra)) := hB41_0.cell 10
                               have g41_0_12 : w41.cell? ⟨w.heap.size, 12, none⟩ = some (.int .i64 (j.lo)) := hB41_0.cell 12
                               have g41_0_13 : w41.cell? ⟨w.heap.size, 13, none⟩ = some (.int .i64 (j.hi)) := hB41_0.cell 13
                               have g41_0_15 : w41.cell? ⟨w.heap.size, 15, none⟩ = some (.int .i64 (j.ms)) := hB41_0.cell 15
                               have g41_0_16 : w41.cell? ⟨w.heap.size, 16, none⟩ = some (.int .i64 (j.mf)) := hB41_0.cell 16
                               have g41_0_17 : w41.cell? ⟨w.heap.size, 17, none⟩ = some (.int .i64 (j.so)) := hB41_0.cell 17
                               have g41_0_l := hB41_0.lt
                               have HB41 := Lib.hid (show _ from hB41_0); clear hB41_0
                               clear g40_0_6 g40_0_7 g40_0_l b0 HB40 hw40 hg41
                               go_wp2_with fail
                               (go_at_call 160; refine (jin_any j.ra (-205888) 205887 _).mono ?_; rintro e w1 ⟨rfl, rfl⟩)
                               go_wp2_with fail
                               (go_at_call 160; refine (jin_any j.lo r5 r6 _).mono ?_; rintro e w1 ⟨rfl, rfl⟩)
                               go_wp2_with fail
                               (go_at_call 160; refine (jin_any j.hi r5 r6 _).mono ?_; rintro e w1 ⟨rfl, rfl⟩)
                               go_wp2_with fail
                               (go_at_call 160; refine (jin_any j.ms (-16777216) 16777216 _).mono ?_; rintro e w1 ⟨rfl, rfl⟩)
                               go_wp2_with fail
                               (go_at_call 160; refine (jin_any j.mf 0 536870911 _).mono ?_; rintro e w1 ⟨rfl, rfl⟩)
                               go_wp2_with fail
                               (go_at_call 160; refine (jin_any j.so 0 536870911 _).mono ?_; rintro e w1 ⟨rfl, rfl⟩)
                               go_wp2_with fail
                               go_meet
                               case rel =>
                                 have er44 : r44 = (false) := R44.out.trans (by simp [hc15, hc16, hc18, hc21, hc24, hc27, hc30, hc33, hc36, hc39])
                                 subst er44
                                 have b0 := HB41.out
                                 exact ⟨rfl, hw41⟩
                             · go_wp2_with fail
                               (go_at_call 160; refine (jin_any j.id 1 1099511627776 _).mono ?_; rintro e w1 ⟨rfl, rfl⟩)
                               go_wp2_with fail
                               (go_at_call 161; refine (jpin_any j.ax j.ay r3 _).mono ?_; rintro e w42 ⟨rfl, hg42⟩)
                               have b0 := HB1.out
                               have hB42_0 : Bk w42 (w.heap.size) 70 (encJointV j).toArray := (b0).grw hg42
                               have hw42 : Grw w w42 := (hw1).trans hg42
                               have hs42 : w.heap.size < w42.heap.size := by have h1 := hg42.size; have h2 := g1_0_l; (try simp at h1); omega
                               have g42_0_6 : w42.cell? ⟨w.heap.size, 6, none⟩ = some (.int .i64 (j.bx)) := hB42_0.cell 6
                               have g42_0_7 : w42.cell? ⟨w.heap.size, 7, none⟩ = some (.int .i64 (j.by_)) := hB42_0.cell 7
                               have g42_0_l := hB42_0.lt
                               have HB42 := Lib.hid (show _ from hB42_0); clear hB42_0
                               clear g1_0_0 g1_0_1 g1_0_4 g1_0_5 g1_0_20 g1_0_21 g1_0_22 g1_0_23 g1_0_l b0 HB1 hw1 hg42
                               go_wp2_with fail
                               (go_at_call 161; refine (jpin_any j.bx j.by_ 1048576 _).mono ?_; rintro e w43 ⟨rfl, hg43⟩)
                               have b0 := HB42.out
                               have hB43_0 : Bk w43 (w.heap.size) 70 (encJointV j).toArray := (b0).grw hg43
                               have hw43 : Grw w w43 := (hw42).trans hg43
                               have hs43 : w.heap.size < w43.heap.size := by have h1 := hg43.size; have h2 := g42_0_l; (try simp at h1); omega
                               have g43_0_10 : w43.cell? ⟨w.heap.size, 10, none⟩ = some (.int .i64 (j.ra)) := hB43_0.cell 10
                               have g43_0_12 : w43.cell? ⟨w.heap.size, 12, none⟩ = some (.int .i64 (j.lo)) := hB43_0.cell 12
                               have g43_0_13 : w43.cell? ⟨w.heap.size, 13, none⟩ = some (.int .i64 (j.hi)) := hB43_0.cell 13
                               have g43_0_15 : w43.cell? ⟨w.heap.size, 15, none⟩ = some (.int .i64 (j.ms)) := hB43_0.cell 15
                               have g43_0_16 : w43.cell? ⟨w.heap.size, 16, none⟩ = some (.int .i64 (j.mf)) := hB43_0.cell 16
                               have g43_0_17 : w43.cell? ⟨w.heap.size, 17, none⟩ = some (.int .i64 (j.so)) := hB43_0.cell 17
                               have g43_0_18 : w43.cell? ⟨w.heap.size, 18, none⟩ = some (.int .i64 (j.bf)) := hB43_0.cell 18
                               have g43_0_l := hB43_0.lt
                               have HB43 := Lib.hid (show _ from hB43_0); clear hB43_0
                               clear g42_0_6 g42_0_7 g42_0_l b0 HB42 hw42 hg43
                               go_wp2_with fail
                               (go_at_call 160; refine (jin_any j.ra (-205888) 205887 _).mono ?_; rintro e w1 ⟨rfl, rfl⟩)
                               go_wp2_with fail
                               (go_at_call 160; refine (jin_any j.lo r5 r6 _).mono ?_; rintro e w1 ⟨rfl, rfl⟩)
                               go_wp2_with fail
                               (go_at_call 160; refine (jin_any j.hi r5 r6 _).mono ?_; rintro e w1 ⟨rfl, rfl⟩)
                               go_wp2_with fail
                               (go_at_call 160; refine (jin_any j.ms (-16777216) 16777216 _).mono ?_; rintro e w1 ⟨rfl, rfl⟩)
                               go_wp2_with fail
                               (go_at_call 160; refine (jin_any j.mf 0 536870911 _).mono ?_; rintro e w1 ⟨rfl, rfl⟩)
                               go_wp2_with fail
                               (go_at_call 160; refine (jin_any j.so 0 536870911 _).mono ?_; rintro e w1 ⟨rfl, rfl⟩)
                               go_wp2_with fail
                               (go_at_call 160; refine (jin_any j.bf 0 536870911 _).mono ?_; rintro e w1 ⟨rfl, rfl⟩)
                               go_wp2_with fail
                               go_meet
                               case rel =>
                                 have er44 : r44 = (jinB j.bf 0 536870911) := R44.out.trans (by simp [hc15, hc16, hc18, hc21, hc24, hc27, hc30, hc33, hc36, hc39])
                                 subst er44
                                 have b0 := HB43.out
                                 exact ⟨rfl, hw43⟩
         case rest =>
         obtain ⟨rfl, hw45⟩ := hcut
         obtain ⟨w45, rfl⟩ : ∃ x, x = wc := ⟨_, rfl⟩
         clear g1_0_0 g1_0_1 g1_0_4 g1_0_5 g1_0_20 g1_0_21 g1_0_22 g1_0_23 g1_0_l HB1 hw1
         go_wp2_with fail
         have hF : jnumB j = r44 := by unfold jnumB; first | rfl | (simp only [← R44.out, ← R13.out, ← R11.out, ← R9.out, ← R7.out, ← R6.out, ← R5.out, ← R3.out, hc8, hc10, hc12, hc14, cond_true, cond_false]; done) | (simp only [← R44.out, ← R13.out, ← R11.out, ← R9.out, ← R7.out, ← R6.out, ← R5.out, ← R3.out, hc8, hc10, hc12, hc14, cond_true, cond_false]; rfl) | simp [← R44.out, ← R13.out, ← R11.out, ← R9.out, ← R7.out, ← R6.out, ← R5.out, ← R3.out, hc8, hc10, hc12, hc14]
         refine bodyPost_ret (v := .bool (r44)) (by simp [results, Tryz.results89, go_sem]) rfl ⟨by rw [hF], ?_⟩
         exact hw45
       · go_wp2_with fail
         have hF : jnumB j = false := by unfold jnumB; first | rfl | (simp only [← R13.out, ← R11.out, ← R9.out, ← R7.out, ← R6.out, ← R5.out, ← R3.out, hc8, hc10, hc12, hc14, cond_true, cond_false]; done) | (simp only [← R13.out, ← R11.out, ← R9.out, ← R7.out, ← R6.out, ← R5.out, ← R3.out, hc8, hc10, hc12, hc14, cond_true, cond_false]; rfl) | simp [← R13.out, ← R11.out, ← R9.out, ← R7.out, ← R6.out, ← R5.out, ← R3.out, hc8, hc10, hc12, hc14]
         refine bodyPost_ret (v := .bool (false)) (by simp [results, Tryz.results89, go_sem, g1_0_0, g1_0_1, g1_0_4, g1_0_5, g1_0_20, g1_0_21, g1_0_22, g1_0_23, g1_0_l]) rfl ⟨by rw [hF], ?_⟩
         exact hw1
     · go_wp2_with fail
       have hF : jnumB j = false := by unfold jnumB; first | rfl | (simp only [← R11.out, ← R9.out, ← R7.out, ← R6.out, ← R5.out, ← R3.out, hc8, hc10, hc12, cond_true, cond_false]; done) | (simp only [← R11.out, ← R9.out, ← R7.out, ← R6.out, ← R5.out, ← R3.out, hc8, hc10, hc12, cond_true, cond_false]; rfl) | simp [← R11.out, ← R9.out, ← R7.out, ← R6.out, ← R5.out, ← R3.out, hc8, hc10, hc12]
       refine bodyPost_ret (v := .bool (false)) (by simp [results, Tryz.results89, go_sem, g1_0_0, g1_0_1, g1_0_4, g1_0_5, g1_0_20, g1_0_21, g1_0_22, g1_0_23, g1_0_l]) rfl ⟨by rw [hF], ?_⟩
       exact hw1
   · go_wp2_with fail
     have hF : jnumB j = false := by unfold jnumB; first | rfl | (simp only [← R9.out, ← R7.out, ← R6.out, ← R5.out, ← R3.out, hc8, hc10, cond_true, cond_false]; done) | (simp only [← R9.out, ← R7.out, ← R6.out, ← R5.out, ← R3.out, hc8, hc10, cond_true, cond_false]; rfl) | simp [← R9.out, ← R7.out, ← R6.out, ← R5.out, ← R3.out, hc8, hc10]
     refine bodyPost_ret (v := .bool (false)) (by simp [results, Tryz.results89, go_sem, g1_0_0, g1_0_1, g1_0_4, g1_0_5, g1_0_20, g1_0_21, g1_0_22, g1_0_23, g1_0_l]) rfl ⟨by rw [hF], ?_⟩
     exact hw1
 · go_wp2_with fail
   have hF : jnumB j = false := by unfold jnumB; first | rfl | (simp only [← R7.out, ← R6.out, ← R5.out, ← R3.out, hc8, cond_true, cond_false]; done) | (simp only [← R7.out, ← R6.out, ← R5.out, ← R3.out, hc8, cond_true, cond_false]; rfl) | simp [← R7.out, ← R6.out, ← R5.out, ← R3.out, hc8]
   refine bodyPost_ret (v := .bool (false)) (by simp [results, Tryz.results89, go_sem, g1_0_0, g1_0_1, g1_0_4, g1_0_5, g1_0_20, g1_0_21, g1_0_22, g1_0_23, g1_0_l]) rfl ⟨by rw [hF], ?_⟩
   exact hw1
def jointE (j : JointV) : Int := let r3 : Bool := (decide (j.kd < 1)) || (decide (5 < j.kd)); bif r3 then (10) else (let r7 : Bool := jnumB j; bif !r7 then (6) else (let r10 : Bool := jbodiesB j; bif !r10 then (14) else (let r13 : Bool := jinconB j; bif r13 then (15) else (0))))
theorem joint_any (j : JointV) (w : World) :
   Calls Tryz.prog 40 #[.agg (encJointV j).toArray] w fun e w' => e = .returned (.int .i64 (jointE j)) ∧ Grw w w' := by
 go_enter Tryz.func40, Tryz.ntmps40
 go_upto_region 1 with (fail)
 refine wp_gen (fun xw => Grw w xw ∧ Bk xw (w.heap.size) 70 (encJointV j).toArray) ⟨((Grw.refl w)).alloc _, (Bk.new' (by simp))⟩ ?_
 rintro w1 ⟨hw1, hB1_0⟩
 have g1_0_1 : w1.cell? ⟨w.heap.size, 1, none⟩ = some (.int .i64 (j.kd)) := hB1_0.cell 1
 have gA1_0_0_24 : HaveAll w1 (w.heap.size) 0 24 := hB1_0.have 0 24 (Nat.le_of_ble_eq_true rfl)
 have gC1_0_0_24 : cellsAt w1 (w.heap.size) 0 24 = (encJointV j).toArray := hB1_0.cells' 0 24 _ rfl rfl
 have g1_0_l := hB1_0.lt
 have HB1 := Lib.hid (show _ from hB1_0); clear hB1_0
 obtain ⟨r3, hr3⟩ : ∃ r : Bool, r = ((decide (j.kd < 1)) || (decide (5 < j.kd))) := ⟨_, rfl⟩
 have R3 := Lib.hid hr3; clear hr3
 go_cut [3] (fun s3 xw => s3 = .bool (r3) ∧ w1 = xw)
 case first =>
   cases hc2 : (decide (j.kd < 1))
   · go_wp2_with fail
     go_meet
     case rel =>
       have er3 : r3 = (decide (5 < j.kd)) := R3.out.trans (by simp [hc2])
       subst er3
       exact ⟨rfl, rfl⟩
   · go_wp2_with fail
     go_meet
     case rel =>
       have er3 : r3 = (true) := R3.out.trans (by simp [hc2])
       subst er3
       exact ⟨rfl, rfl⟩
 case rest =>
 obtain ⟨rfl, rfl⟩ := hcut
 cases hc5 : (r3)
 · go_wp2_with fail
   (go_at_call 89; refine (jnum_any j _).mono ?_; rintro e w6 ⟨rfl, hg6⟩)
   obtain ⟨r7, hr7⟩ : ∃ r : Bool, r = jnumB j := ⟨_, rfl⟩
   (try simp only [← hr7])
   have R7 := Lib.hid hr7; clear hr7
   have b0 := HB1.out
   have hB6_0 : Bk w6 (w.heap.size) 70 (encJointV j).toArray := (b0).grw hg6
   have hw6 : Grw w w6 := (hw1).trans hg6
   have hs6 : w.heap.size < w6.heap.size := by have h1 := hg6.size; have h2 := g1_0_l; (try simp at h1); omega
   have gA6_0_0_24 : HaveAll w6 (w.heap.size) 0 24 := hB6_0.have 0 24 (Nat.le_of_ble_eq_true rfl)
   have gC6_0_0_24 : cellsAt w6 (w.heap.size) 0 24 = (encJointV j).toArray := hB6_0.cells' 0 24 _ rfl rfl
   have g6_0_l := hB6_0.lt
   have HB6 := Lib.hid (show _ from hB6_0); clear hB6_0
   clear g1_0_1 gA1_0_0_24 gC1_0_0_24 g1_0_l b0 HB1 hw1 hg6
   cases hc8 : (!r7)
   · go_wp2_with fail
     (go_at_call 90; refine (jbodies_any j _).mono ?_; rintro e w9 ⟨rfl, hg9⟩)
     obtain ⟨r10, hr10⟩ : ∃ r : Bool, r = jbodiesB j := ⟨_, rfl⟩
     (try simp only [← hr10])
     have R10 := Lib.hid hr10; clear hr10
     have b0 := HB6.out
     have hB9_0 : Bk w9 (w.heap.size) 70 (encJointV j).toArray := (b0).grw hg9
     have hw9 : Grw w w9 := (hw6).trans hg9
     have hs9 : w.heap.size < w9.heap.size := by have h1 := hg9.size; have h2 := g6_0_l; (try simp at h1); omega
     have gA9_0_0_24 : HaveAll w9 (w.heap.size) 0 24 := hB9_0.have 0 24 (Nat.le_of_ble_eq_true rfl)
     have gC9_0_0_24 : cellsAt w9 (w.heap.size) 0 24 = (encJointV j).toArray := hB9_0.cells' 0 24 _ rfl rfl
     have g9_0_l := hB9_0.lt
     have HB9 := Lib.hid (show _ from hB9_0); clear hB9_0
     clear gA6_0_0_24 gC6_0_0_24 g6_0_l b0 HB6 hw6 hg9
     cases hc11 : (!r10)
     · go_wp2_with fail
       (go_at_call 91; refine (jincon_any j _).mono ?_; rintro e w12 ⟨rfl, hg12⟩)
       obtain ⟨r13, hr13⟩ : ∃ r : Bool, r = jinconB j := ⟨_, rfl⟩
       (try simp only [← hr13])
       have R13 := Lib.hid hr13; clear hr13
       have b0 := HB9.out
       have hB12_0 : Bk w12 (w.heap.size) 70 (encJointV j).toArray := (b0).grw hg12
       have hw12 : Grw w w12 := (hw9).trans hg12
       have hs12 : w.heap.size < w12.heap.size := by have h1 := hg12.size; have h2 := g9_0_l; (try simp at h1); omega
       have g12_0_l := hB12_0.lt
       have HB12 := Lib.hid (show _ from hB12_0); clear hB12_0
       clear gA9_0_0_24 gC9_0_0_24 g9_0_l b0 HB9 hw9 hg12
       cases hc14 : (r13)
       · go_wp2_with fail
         have hF : jointE j = 0 := by unfold jointE; first | rfl | (simp only [← R13.out, ← R10.out, ← R7.out, ← R3.out, hc5, hc8, hc11, hc14, cond_true, cond_false]; done) | (simp only [← R13.out, ← R10.out, ← R7.out, ← R3.out, hc5, hc8, hc11, hc14, cond_true, cond_false]; rfl) | simp [← R13.out, ← R10.out, ← R7.out, ← R3.out, hc5, hc8, hc11, hc14]
         refine bodyPost_ret (v := .int .i64 (0)) (by simp [results, Tryz.results40, go_sem, g12_0_l]) rfl ⟨by rw [hF], ?_⟩
         exact hw12
       · go_wp2_with fail
         have hF : jointE j = 15 := by unfold jointE; first | rfl | (simp only [← R13.out, ← R10.out, ← R7.out, ← R3.out, hc5, hc8, hc11, hc14, cond_true, cond_false]; done) | (simp only [← R13.out, ← R10.out, ← R7.out, ← R3.out, hc5, hc8, hc11, hc14, cond_true, cond_false]; rfl) | simp [← R13.out, ← R10.out, ← R7.out, ← R3.out, hc5, hc8, hc11, hc14]
         refine bodyPost_ret (v := .int .i64 (15)) (by simp [results, Tryz.results40, go_sem, g12_0_l]) rfl ⟨by rw [hF], ?_⟩
         exact hw12
     · go_wp2_with fail
       have hF : jointE j = 14 := by unfold jointE; first | rfl | (simp only [← R10.out, ← R7.out, ← R3.out, hc5, hc8, hc11, cond_true, cond_false]; done) | (simp only [← R10.out, ← R7.out, ← R3.out, hc5, hc8, hc11, cond_true, cond_false]; rfl) | simp [← R10.out, ← R7.out, ← R3.out, hc5, hc8, hc11]
       refine bodyPost_ret (v := .int .i64 (14)) (by simp [results, Tryz.results40, go_sem, gA9_0_0_24, gC9_0_0_24, g9_0_l]) rfl ⟨by rw [hF], ?_⟩
       exact hw9
   · go_wp2_with fail
     have hF : jointE j = 6 := by unfold jointE; first | rfl | (simp only [← R7.out, ← R3.out, hc5, hc8, cond_true, cond_false]; done) | (simp only [← R7.out, ← R3.out, hc5, hc8, cond_true, cond_false]; rfl) | simp [← R7.out, ← R3.out, hc5, hc8]
     refine bodyPost_ret (v := .int .i64 (6)) (by simp [results, Tryz.results40, go_sem, gA6_0_0_24, gC6_0_0_24, g6_0_l]) rfl ⟨by rw [hF], ?_⟩
     exact hw6
 · go_wp2_with fail
   have hF : jointE j = 10 := by unfold jointE; first | rfl | (simp only [← R3.out, hc5, cond_true, cond_false]; done) | (simp only [← R3.out, hc5, cond_true, cond_false]; rfl) | simp [← R3.out, hc5]
   refine bodyPost_ret (v := .int .i64 (10)) (by simp [results, Tryz.results40, go_sem, g1_0_1, gA1_0_0_24, gC1_0_0_24, g1_0_l]) rfl ⟨by rw [hF], ?_⟩
   exact hw1
end
end Go.Proofs.YtokkghhmliplfaaGreat
