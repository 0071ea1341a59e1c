/- The row TopEveryRay of the program holds; part 4 of the proof. No condition. -/
import Derived.Test.YtokkghhmliplfaaGreatK2
set_option maxRecDepth 100000
set_option maxHeartbeats 12800000
set_option linter.all false
namespace Go.Proofs.YtokkghhmliplfaaGreat
section
open Go.RowKit Go.Sort
attribute [local go_sem] qAt qUpon cell_in_grow frozen_in_grow
theorem shapeV_p0 (k r : Int) (a : Option Addr) (cap : Nat) (l : List (Int × Int)) (w : World) (hs : Sl 2 encV w a l) (hl : l.length < 4611686018427387904) (hk : k = 3) (hc : vcB k l.length = true) (ho : l.any outV = false) (h1 : r = 0) (q0 : convexB l = false) :
   Calls Tryz.prog 65 #[.agg #[.int .i64 k, .int .i64 r, .slice a l.length cap]] w fun e w' => e = .returned (.int .i64 (shE k r l)) ∧ Grw w w' := by
 have HS := Lib.hid hs
 clear hs
 have HV := Lib.hid (show shE k r l = 12 from ((((if_neg (by omega)).trans (if_neg (by rw [hc]; simp))).trans (if_neg (by rw [ho]; simp))).trans (if_neg (by omega))).trans ((if_neg (by omega)).trans (if_pos ⟨hk, .inl q0⟩)))
 have hn : 3 ≤ l.length ∧ l.length ≤ 8 := by rw [hk] at hc; simpa [vcB] using hc
 have hn2 : 2 ≤ l.length := by omega
 subst hk h1
 clear hn
 go_enter Tryz.func65, Tryz.ntmps65
 go_upto_region 10 with ((first | (go_at_call 136; refine (validCount_any _ _ _ _ _ _ hl).mono ?_; rintro e w1 ⟨rfl, hg1⟩; obtain ⟨hc1, hf1⟩ := hg1.cells; have hz1 := hg1.size; (have hl1_0 : w.heap.size < w1.heap.size := by (try simp at hz1); omega); (have c1_0_0 := hc1 (w.heap.size) 0 (by first | omega | simp <;> omega); simp [go_sem] at c1_0_0); (have c1_0_1 := hc1 (w.heap.size) 1 (by first | omega | simp <;> omega); simp [go_sem] at c1_0_1); (have c1_0_2 := hc1 (w.heap.size) 2 (by first | omega | simp <;> omega); simp [go_sem] at c1_0_2); (have f1_0 := fun o => hf1 (w.heap.size) o (by first | omega | simp <;> omega); simp [go_sem] at f1_0); clear hc1 hf1) | (go_at_call 137; refine (containsOutV_any _ _ _ _ (HS.out.grw (by (repeat with_reducible first | exact .refl _ | assumption | refine .setAt ?_ (by first | omega | simp <;> omega) _ | refine .alloc ?_ _ | refine .drewN ?_ _ | refine .drew ?_ | refine .trans ?_ (by assumption)))) hl).mono ?_; rintro e w1 ⟨rfl, hg2⟩; replace hg1 := Grw.trans hg1 hg2; clear hg2; obtain ⟨hc1, hf1⟩ := hg1.cells; have hz1 := hg1.size; (have hl1_0 : w.heap.size < w1.heap.size := by (try simp at hz1); omega); (have c1_0_0 := hc1 (w.heap.size) 0 (by first | omega | simp <;> omega); simp [go_sem] at c1_0_0); (have c1_0_1 := hc1 (w.heap.size) 1 (by first | omega | simp <;> omega); simp [go_sem] at c1_0_1); (have c1_0_2 := hc1 (w.heap.size) 2 (by first | omega | simp <;> omega); simp [go_sem] at c1_0_2); (have f1_0 := fun o => hf1 (w.heap.size) o (by first | omega | simp <;> omega); simp [go_sem] at f1_0); clear hc1 hf1)))
 (refine wp_region_flow (by kernel_rfl) (by kernel_rfl) ?_; (repeat (refine wpQ_step (fun K hK => ?_); go_simp; refine hK _ ?_; clear hK K)); refine wpQ_nil ?_)
 intro w2 hg2
 have hg3 := hg1.trans hg2
 clear hg1 c1_0_0 c1_0_1 c1_0_2 f1_0 hz1 hl1_0 hg2
 obtain ⟨hc3, hf3⟩ := hg3.cells
 (have c1_0_0 := hc3 (w.heap.size) 0 (by first | omega | simp <;> omega); simp [go_sem] at c1_0_0)
 (have c1_0_2 := hc3 (w.heap.size) 2 (by first | omega | simp <;> omega); simp [go_sem] at c1_0_2)
 clear hc3 hf3
 go_wp2_with (first | (go_at_call 140; refine (isConvex_any _ _ _ _ (HS.out.grw (by (repeat with_reducible first | exact .refl _ | assumption | refine .setAt ?_ (by first | omega | simp <;> omega) _ | refine .alloc ?_ _ | refine .drewN ?_ _ | refine .drew ?_ | refine .trans ?_ (by assumption)))) hl).mono ?_; rintro e w2 ⟨rfl, hg4⟩; replace hg3 := Grw.trans hg3 hg4; clear hg4; obtain ⟨hc3, hf3⟩ := hg3.cells; (have c1_0_2 := hc3 (w.heap.size) 2 (by first | omega | simp <;> omega); simp [go_sem] at c1_0_2); clear hc3 hf3) | (go_at_call 141; refine (shortest_any _ _ _ _ (HS.out.grw (by (repeat with_reducible first | exact .refl _ | assumption | refine .setAt ?_ (by first | omega | simp <;> omega) _ | refine .alloc ?_ _ | refine .drewN ?_ _ | refine .drew ?_ | refine .trans ?_ (by assumption)))) hl).mono ?_; rintro e w2 ⟨rfl, hg4⟩; replace hg3 := Grw.trans hg3 hg4; clear hg4; obtain ⟨hc3, hf3⟩ := hg3.cells; (have c1_0_2 := hc3 (w.heap.size) 2 (by first | omega | simp <;> omega); simp [go_sem] at c1_0_2); clear hc3 hf3) | (go_at_call 142; refine (area_any _ _ _ _ (HS.out.grw (by (repeat with_reducible first | exact .refl _ | assumption | refine .setAt ?_ (by first | omega | simp <;> omega) _ | refine .alloc ?_ _ | refine .drewN ?_ _ | refine .drew ?_ | refine .trans ?_ (by assumption)))) hl).mono ?_; rintro e w2 ⟨rfl, hg4⟩; replace hg3 := Grw.trans hg3 hg4; clear hg4; obtain ⟨hc3, hf3⟩ := hg3.cells; (have c1_0_2 := hc3 (w.heap.size) 2 (by first | omega | simp <;> omega); simp [go_sem] at c1_0_2); clear hc3 hf3) | (go_at_call 143; refine (blunt_any _ _ _ _ (HS.out.grw (by (repeat with_reducible first | exact .refl _ | assumption | refine .setAt ?_ (by first | omega | simp <;> omega) _ | refine .alloc ?_ _ | refine .drewN ?_ _ | refine .drew ?_ | refine .trans ?_ (by assumption)))) hn2 hl).mono ?_; rintro e w2 ⟨rfl, hg4⟩; replace hg3 := Grw.trans hg3 hg4; clear hg4; obtain ⟨hc3, hf3⟩ := hg3.cells; (have c1_0_2 := hc3 (w.heap.size) 2 (by first | omega | simp <;> omega); simp [go_sem] at c1_0_2); clear hc3 hf3))
 go_ret
 exact ⟨ret_int HV.out.symm, by (repeat with_reducible first | exact .refl _ | assumption | refine .setAt ?_ (by first | omega | simp <;> omega) _ | refine .alloc ?_ _ | refine .drewN ?_ _ | refine .drew ?_ | refine .trans ?_ (by assumption))⟩
theorem shapeV_p1 (k r : Int) (a : Option Addr) (cap : Nat) (l : List (Int × Int)) (w : World) (hs : Sl 2 encV w a l) (hl : l.length < 4611686018427387904) (hk : k = 3) (hc : vcB k l.length = true) (ho : l.any outV = false) (h1 : r = 0) (q0 : convexB l = true) (q1 : shortestI l < 4096) :
   Calls Tryz.prog 65 #[.agg #[.int .i64 k, .int .i64 r, .slice a l.length cap]] w fun e w' => e = .returned (.int .i64 (shE k r l)) ∧ Grw w w' := by
 have HS := Lib.hid hs
 clear hs
 have HV := Lib.hid (show shE k r l = 12 from ((((if_neg (by omega)).trans (if_neg (by rw [hc]; simp))).trans (if_neg (by rw [ho]; simp))).trans (if_neg (by omega))).trans ((if_neg (by omega)).trans (if_pos ⟨hk, .inr (.inl q1)⟩)))
 have hn : 3 ≤ l.length ∧ l.length ≤ 8 := by rw [hk] at hc; simpa [vcB] using hc
 have hn2 : 2 ≤ l.length := by omega
 have d1 : decide (shortestI l < 4096) = true := by simpa using q1
 subst hk h1
 clear hn
 go_enter Tryz.func65, Tryz.ntmps65
 go_upto_region 10 with ((first | (go_at_call 136; refine (validCount_any _ _ _ _ _ _ hl).mono ?_; rintro e w1 ⟨rfl, hg1⟩; obtain ⟨hc1, hf1⟩ := hg1.cells; have hz1 := hg1.size; (have hl1_0 : w.heap.size < w1.heap.size := by (try simp at hz1); omega); (have c1_0_0 := hc1 (w.heap.size) 0 (by first | omega | simp <;> omega); simp [go_sem] at c1_0_0); (have c1_0_1 := hc1 (w.heap.size) 1 (by first | omega | simp <;> omega); simp [go_sem] at c1_0_1); (have c1_0_2 := hc1 (w.heap.size) 2 (by first | omega | simp <;> omega); simp [go_sem] at c1_0_2); (have f1_0 := fun o => hf1 (w.heap.size) o (by first | omega | simp <;> omega); simp [go_sem] at f1_0); clear hc1 hf1) | (go_at_call 137; refine (containsOutV_any _ _ _ _ (HS.out.grw (by (repeat with_reducible first | exact .refl _ | assumption | refine .setAt ?_ (by first | omega | simp <;> omega) _ | refine .alloc ?_ _ | refine .drewN ?_ _ | refine .drew ?_ | refine .trans ?_ (by assumption)))) hl).mono ?_; rintro e w1 ⟨rfl, hg2⟩; replace hg1 := Grw.trans hg1 hg2; clear hg2; obtain ⟨hc1, hf1⟩ := hg1.cells; have hz1 := hg1.size; (have hl1_0 : w.heap.size < w1.heap.size := by (try simp at hz1); omega); (have c1_0_0 := hc1 (w.heap.size) 0 (by first | omega | simp <;> omega); simp [go_sem] at c1_0_0); (have c1_0_1 := hc1 (w.heap.size) 1 (by first | omega | simp <;> omega); simp [go_sem] at c1_0_1); (have c1_0_2 := hc1 (w.heap.size) 2 (by first | omega | simp <;> omega); simp [go_sem] at c1_0_2); (have f1_0 := fun o => hf1 (w.heap.size) o (by first | omega | simp <;> omega); simp [go_sem] at f1_0); clear hc1 hf1)))
 (refine wp_region_flow (by kernel_rfl) (by kernel_rfl) ?_; (repeat (refine wpQ_step (fun K hK => ?_); go_simp; refine hK _ ?_; clear hK K)); refine wpQ_nil ?_)
 intro w2 hg2
 have hg3 := hg1.trans hg2
 clear hg1 c1_0_0 c1_0_1 c1_0_2 f1_0 hz1 hl1_0 hg2
 obtain ⟨hc3, hf3⟩ := hg3.cells
 (have c1_0_0 := hc3 (w.heap.size) 0 (by first | omega | simp <;> omega); simp [go_sem] at c1_0_0)
 (have c1_0_2 := hc3 (w.heap.size) 2 (by first | omega | simp <;> omega); simp [go_sem] at c1_0_2)
 clear hc3 hf3
 go_wp2_with (first | (go_at_call 140; refine (isConvex_any _ _ _ _ (HS.out.grw (by (repeat with_reducible first | exact .refl _ | assumption | refine .setAt ?_ (by first | omega | simp <;> omega) _ | refine .alloc ?_ _ | refine .drewN ?_ _ | refine .drew ?_ | refine .trans ?_ (by assumption)))) hl).mono ?_; rintro e w2 ⟨rfl, hg4⟩; replace hg3 := Grw.trans hg3 hg4; clear hg4; obtain ⟨hc3, hf3⟩ := hg3.cells; (have c1_0_2 := hc3 (w.heap.size) 2 (by first | omega | simp <;> omega); simp [go_sem] at c1_0_2); clear hc3 hf3) | (go_at_call 141; refine (shortest_any _ _ _ _ (HS.out.grw (by (repeat with_reducible first | exact .refl _ | assumption | refine .setAt ?_ (by first | omega | simp <;> omega) _ | refine .alloc ?_ _ | refine .drewN ?_ _ | refine .drew ?_ | refine .trans ?_ (by assumption)))) hl).mono ?_; rintro e w2 ⟨rfl, hg4⟩; replace hg3 := Grw.trans hg3 hg4; clear hg4; obtain ⟨hc3, hf3⟩ := hg3.cells; (have c1_0_2 := hc3 (w.heap.size) 2 (by first | omega | simp <;> omega); simp [go_sem] at c1_0_2); clear hc3 hf3) | (go_at_call 142; refine (area_any _ _ _ _ (HS.out.grw (by (repeat with_reducible first | exact .refl _ | assumption | refine .setAt ?_ (by first | omega | simp <;> omega) _ | refine .alloc ?_ _ | refine .drewN ?_ _ | refine .drew ?_ | refine .trans ?_ (by assumption)))) hl).mono ?_; rintro e w2 ⟨rfl, hg4⟩; replace hg3 := Grw.trans hg3 hg4; clear hg4; obtain ⟨hc3, hf3⟩ := hg3.cells; (have c1_0_2 := hc3 (w.heap.size) 2 (by first | omega | simp <;> omega); simp [go_sem] at c1_0_2); clear hc3 hf3) | (go_at_call 143; refine (blunt_any _ _ _ _ (HS.out.grw (by (repeat with_reducible first | exact .refl _ | assumption | refine .setAt ?_ (by first | omega | simp <;> omega) _ | refine .alloc ?_ _ | refine .drewN ?_ _ | refine .drew ?_ | refine .trans ?_ (by assumption)))) hn2 hl).mono ?_; rintro e w2 ⟨rfl, hg4⟩; replace hg3 := Grw.trans hg3 hg4; clear hg4; obtain ⟨hc3, hf3⟩ := hg3.cells; (have c1_0_2 := hc3 (w.heap.size) 2 (by first | omega | simp <;> omega); simp [go_sem] at c1_0_2); clear hc3 hf3))
 go_ret
 exact ⟨ret_int HV.out.symm, by (repeat with_reducible first | exact .refl _ | assumption | refine .setAt ?_ (by first | omega | simp <;> omega) _ | refine .alloc ?_ _ | refine .drewN ?_ _ | refine .drew ?_ | refine .trans ?_ (by assumption))⟩
theorem shapeV_p2 (k r : Int) (a : Option Addr) (cap : Nat) (l : List (Int × Int)) (w : World) (hs : Sl 2 encV w a l) (hl : l.length < 4611686018427387904) (hk : k = 3) (hc : vcB k l.length = true) (ho : l.any outV = false) (h1 : r = 0) (q0 : convexB l = true) (q1 : ¬ shortestI l < 4096) (q2 : areaI l < 256) :
   Calls Tryz.prog 65 #[.agg #[.int .i64 k, .int .i64 r, .slice a l.length cap]] w fun e w' => e = .returned (.int .i64 (shE k r l)) ∧ Grw w w' := by
 have HS := Lib.hid hs
 clear hs
 have HV := Lib.hid (show shE k r l = 12 from ((((if_neg (by omega)).trans (if_neg (by rw [hc]; simp))).trans (if_neg (by rw [ho]; simp))).trans (if_neg (by omega))).trans ((if_neg (by omega)).trans (if_pos ⟨hk, .inr (.inr (.inl q2))⟩)))
 have hn : 3 ≤ l.length ∧ l.length ≤ 8 := by rw [hk] at hc; simpa [vcB] using hc
 have hn2 : 2 ≤ l.length := by omega
 have d1 : decide (shortestI l < 4096) = false := by simpa using q1
 have d2 : decide (areaI l < 256) = true := by simpa using q2
 subst hk h1
 clear hn
 go_enter Tryz.func65, Tryz.ntmps65
 go_upto_region 10 with ((first | (go_at_call 136; refine (validCount_any _ _ _ _ _ _ hl).mono ?_; rintro e w1 ⟨rfl, hg1⟩; obtain ⟨hc1, hf1⟩ := hg1.cells; have hz1 := hg1.size; (have hl1_0 : w.heap.size < w1.heap.size := by (try simp at hz1); omega); (have c1_0_0 := hc1 (w.heap.size) 0 (by first | omega | simp <;> omega); simp [go_sem] at c1_0_0); (have c1_0_1 := hc1 (w.heap.size) 1 (by first | omega | simp <;> omega); simp [go_sem] at c1_0_1); (have c1_0_2 := hc1 (w.heap.size) 2 (by first | omega | simp <;> omega); simp [go_sem] at c1_0_2); (have f1_0 := fun o => hf1 (w.heap.size) o (by first | omega | simp <;> omega); simp [go_sem] at f1_0); clear hc1 hf1) | (go_at_call 137; refine (containsOutV_any _ _ _ _ (HS.out.grw (by (repeat with_reducible first | exact .refl _ | assumption | refine .setAt ?_ (by first | omega | simp <;> omega) _ | refine .alloc ?_ _ | refine .drewN ?_ _ | refine .drew ?_ | refine .trans ?_ (by assumption)))) hl).mono ?_; rintro e w1 ⟨rfl, hg2⟩; replace hg1 := Grw.trans hg1 hg2; clear hg2; obtain ⟨hc1, hf1⟩ := hg1.cells; have hz1 := hg1.size; (have hl1_0 : w.heap.size < w1.heap.size := by (try simp at hz1); omega); (have c1_0_0 := hc1 (w.heap.size) 0 (by first | omega | simp <;> omega); simp [go_sem] at c1_0_0); (have c1_0_1 := hc1 (w.heap.size) 1 (by first | omega | simp <;> omega); simp [go_sem] at c1_0_1); (have c1_0_2 := hc1 (w.heap.size) 2 (by first | omega | simp <;> omega); simp [go_sem] at c1_0_2); (have f1_0 := fun o => hf1 (w.heap.size) o (by first | omega | simp <;> omega); simp [go_sem] at f1_0); clear hc1 hf1)))
 (refine wp_region_flow (by kernel_rfl) (by kernel_rfl) ?_; (repeat (refine wpQ_step (fun K hK => ?_); go_simp; refine hK _ ?_; clear hK K)); refine wpQ_nil ?_)
 intro w2 hg2
 have hg3 := hg1.trans hg2
 clear hg1 c1_0_0 c1_0_1 c1_0_2 f1_0 hz1 hl1_0 hg2
 obtain ⟨hc3, hf3⟩ := hg3.cells
 (have c1_0_0 := hc3 (w.heap.size) 0 (by first | omega | simp <;> omega); simp [go_sem] at c1_0_0)
 (have c1_0_2 := hc3 (w.heap.size) 2 (by first | omega | simp <;> omega); simp [go_sem] at c1_0_2)
 clear hc3 hf3
 go_wp2_with (first | (go_at_call 140; refine (isConvex_any _ _ _ _ (HS.out.grw (by (repeat with_reducible first | exact .refl _ | assumption | refine .setAt ?_ (by first | omega | simp <;> omega) _ | refine .alloc ?_ _ | refine .drewN ?_ _ | refine .drew ?_ | refine .trans ?_ (by assumption)))) hl).mono ?_; rintro e w2 ⟨rfl, hg4⟩; replace hg3 := Grw.trans hg3 hg4; clear hg4; obtain ⟨hc3, hf3⟩ := hg3.cells; (have c1_0_2 := hc3 (w.heap.size) 2 (by first | omega | simp <;> omega); simp [go_sem] at c1_0_2); clear hc3 hf3) | (go_at_call 141; refine (shortest_any _ _ _ _ (HS.out.grw (by (repeat with_reducible first | exact .refl _ | assumption | refine .setAt ?_ (by first | omega | simp <;> omega) _ | refine .alloc ?_ _ | refine .drewN ?_ _ | refine .drew ?_ | refine .trans ?_ (by assumption)))) hl).mono ?_; rintro e w2 ⟨rfl, hg4⟩; replace hg3 := Grw.trans hg3 hg4; clear hg4; obtain ⟨hc3, hf3⟩ := hg3.cells; (have c1_0_2 := hc3 (w.heap.size) 2 (by first | omega | simp <;> omega); simp [go_sem] at c1_0_2); clear hc3 hf3) | (go_at_call 142; refine (area_any _ _ _ _ (HS.out.grw (by (repeat with_reducible first | exact .refl _ | assumption | refine .setAt ?_ (by first | omega | simp <;> omega) _ | refine .alloc ?_ _ | refine .drewN ?_ _ | refine .drew ?_ | refine .trans ?_ (by assumption)))) hl).mono ?_; rintro e w2 ⟨rfl, hg4⟩; replace hg3 := Grw.trans hg3 hg4; clear hg4; obtain ⟨hc3, hf3⟩ := hg3.cells; (have c1_0_2 := hc3 (w.heap.size) 2 (by first | omega | simp <;> omega); simp [go_sem] at c1_0_2); clear hc3 hf3) | (go_at_call 143; refine (blunt_any _ _ _ _ (HS.out.grw (by (repeat with_reducible first | exact .refl _ | assumption | refine .setAt ?_ (by first | omega | simp <;> omega) _ | refine .alloc ?_ _ | refine .drewN ?_ _ | refine .drew ?_ | refine .trans ?_ (by assumption)))) hn2 hl).mono ?_; rintro e w2 ⟨rfl, hg4⟩; replace hg3 := Grw.trans hg3 hg4; clear hg4; obtain ⟨hc3, hf3⟩ := hg3.cells; (have c1_0_2 := hc3 (w.heap.size) 2 (by first | omega | simp <;> omega); simp [go_sem] at c1_0_2); clear hc3 hf3))
 go_ret
 exact ⟨ret_int HV.out.symm, by (repeat with_reducible first | exact .refl _ | assumption | refine .setAt ?_ (by first | omega | simp <;> omega) _ | refine .alloc ?_ _ | refine .drewN ?_ _ | refine .drew ?_ | refine .trans ?_ (by assumption))⟩
theorem shapeV_p3 (k r : Int) (a : Option Addr) (cap : Nat) (l : List (Int × Int)) (w : World) (hs : Sl 2 encV w a l) (hl : l.length < 4611686018427387904) (hk : k = 3) (hc : vcB k l.length = true) (ho : l.any outV = false) (h1 : r = 0) (q0 : convexB l = true) (q1 : ¬ shortestI l < 4096) (q2 : ¬ areaI l < 256) (q3 : bluntB l = true) :
   Calls Tryz.prog 65 #[.agg #[.int .i64 k, .int .i64 r, .slice a l.length cap]] w fun e w' => e = .returned (.int .i64 (shE k r l)) ∧ Grw w w' := by
 have HS := Lib.hid hs
 clear hs
 have HV := Lib.hid (show shE k r l = 12 from ((((if_neg (by omega)).trans (if_neg (by rw [hc]; simp))).trans (if_neg (by rw [ho]; simp))).trans (if_neg (by omega))).trans ((if_neg (by omega)).trans (if_pos ⟨hk, .inr (.inr (.inr q3))⟩)))
 have hn : 3 ≤ l.length ∧ l.length ≤ 8 := by rw [hk] at hc; simpa [vcB] using hc
 have hn2 : 2 ≤ l.length := by omega
 have d1 : decide (shortestI l < 4096) = false := by simpa using q1
 have d2 : decide (areaI l < 256) = false := by simpa using q2
 subst hk h1
 clear hn
 go_enter Tryz.func65, Tryz.ntmps65
 go_upto_region 10 with ((first | (go_at_call 136; refine (validCount_any _ _ _ _ _ _ hl).mono ?_; rintro e w1 ⟨rfl, hg1⟩; obtain ⟨hc1, hf1⟩ := hg1.cells; have hz1 := hg1.size; (have hl1_0 : w.heap.size < w1.heap.size := by (try simp at hz1); omega); (have c1_0_0 := hc1 (w.heap.size) 0 (by first | omega | simp <;> omega); simp [go_sem] at c1_0_0); (have c1_0_1 := hc1 (w.heap.size) 1 (by first | omega | simp <;> omega); simp [go_sem] at c1_0_1); (have c1_0_2 := hc1 (w.heap.size) 2 (by first | omega | simp <;> omega); simp [go_sem] at c1_0_2); (have f1_0 := fun o => hf1 (w.heap.size) o (by first | omega | simp <;> omega); simp [go_sem] at f1_0); clear hc1 hf1) | (go_at_call 137; refine (containsOutV_any _ _ _ _ (HS.out.grw (by (repeat with_reducible first | exact .refl _ | assumption | refine .setAt ?_ (by first | omega | simp <;> omega) _ | refine .alloc ?_ _ | refine .drewN ?_ _ | refine .drew ?_ | refine .trans ?_ (by assumption)))) hl).mono ?_; rintro e w1 ⟨rfl, hg2⟩; replace hg1 := Grw.trans hg1 hg2; clear hg2; obtain ⟨hc1, hf1⟩ := hg1.cells; have hz1 := hg1.size; (have hl1_0 : w.heap.size < w1.heap.size := by (try simp at hz1); omega); (have c1_0_0 := hc1 (w.heap.size) 0 (by first | omega | simp <;> omega); simp [go_sem] at c1_0_0); (have c1_0_1 := hc1 (w.heap.size) 1 (by first | omega | simp <;> omega); simp [go_sem] at c1_0_1); (have c1_0_2 := hc1 (w.heap.size) 2 (by first | omega | simp <;> omega); simp [go_sem] at c1_0_2); (have f1_0 := fun o => hf1 (w.heap.size) o (by first | omega | simp <;> omega); simp [go_sem] at f1_0); clear hc1 hf1)))
 (refine wp_region_flow (by kernel_rfl) (by kernel_rfl) ?_; (repeat (refine wpQ_step (fun K hK => ?_); go_simp; refine hK _ ?_; clear hK K)); refine wpQ_nil ?_)
 intro w2 hg2
 have hg3 := hg1.trans hg2
 clear hg1 c1_0_0 c1_0_1 c1_0_2 f1_0 hz1 hl1_0 hg2
 obtain ⟨hc3, hf3⟩ := hg3.cells
 (have c1_0_0 := hc3 (w.heap.size) 0 (by first | omega | simp <;> omega); simp [go_sem] at c1_0_0)
 (have c1_0_2 := hc3 (w.heap.size) 2 (by first | omega | simp <;> omega); simp [go_sem] at c1_0_2)
 clear hc3 hf3
 go_wp2_with (first | (go_at_call 140; refine (isConvex_any _ _ _ _ (HS.out.grw (by (repeat with_reducible first | exact .refl _ | assumption | refine .setAt ?_ (by first | omega | simp <;> omega) _ | refine .alloc ?_ _ | refine .drewN ?_ _ | refine .drew ?_ | refine .trans ?_ (by assumption)))) hl).mono ?_; rintro e w2 ⟨rfl, hg4⟩; replace hg3 := Grw.trans hg3 hg4; clear hg4; obtain ⟨hc3, hf3⟩ := hg3.cells; (have c1_0_2 := hc3 (w.heap.size) 2 (by first | omega | simp <;> omega); simp [go_sem] at c1_0_2); clear hc3 hf3) | (go_at_call 141; refine (shortest_any _ _ _ _ (HS.out.grw (by (repeat with_reducible first | exact .refl _ | assumption | refine .setAt ?_ (by first | omega | simp <;> omega) _ | refine .alloc ?_ _ | refine .drewN ?_ _ | refine .drew ?_ | refine .trans ?_ (by assumption)))) hl).mono ?_; rintro e w2 ⟨rfl, hg4⟩; replace hg3 := Grw.trans hg3 hg4; clear hg4; obtain ⟨hc3, hf3⟩ := hg3.cells; (have c1_0_2 := hc3 (w.heap.size) 2 (by first | omega | simp <;> omega); simp [go_sem] at c1_0_2); clear hc3 hf3) | (go_at_call 142; refine (area_any _ _ _ _ (HS.out.grw (by (repeat with_reducible first | exact .refl _ | assumption | refine .setAt ?_ (by first | omega | simp <;> omega) _ | refine .alloc ?_ _ | refine .drewN ?_ _ | refine .drew ?_ | refine .trans ?_ (by assumption)))) hl).mono ?_; rintro e w2 ⟨rfl, hg4⟩; replace hg3 := Grw.trans hg3 hg4; clear hg4; obtain ⟨hc3, hf3⟩ := hg3.cells; (have c1_0_2 := hc3 (w.heap.size) 2 (by first | omega | simp <;> omega); simp [go_sem] at c1_0_2); clear hc3 hf3) | (go_at_call 143; refine (blunt_any _ _ _ _ (HS.out.grw (by (repeat with_reducible first | exact .refl _ | assumption | refine .setAt ?_ (by first | omega | simp <;> omega) _ | refine .alloc ?_ _ | refine .drewN ?_ _ | refine .drew ?_ | refine .trans ?_ (by assumption)))) hn2 hl).mono ?_; rintro e w2 ⟨rfl, hg4⟩; replace hg3 := Grw.trans hg3 hg4; clear hg4; obtain ⟨hc3, hf3⟩ := hg3.cells; (have c1_0_2 := hc3 (w.heap.size) 2 (by first | omega | simp <;> omega); simp [go_sem] at c1_0_2); clear hc3 hf3))
 go_ret
 exact ⟨ret_int HV.out.symm, by (repeat with_reducible first | exact .refl _ | assumption | refine .setAt ?_ (by first | omega | simp <;> omega) _ | refine .alloc ?_ _ | refine .drewN ?_ _ | refine .drew ?_ | refine .trans ?_ (by assumption))⟩
theorem shapeV_p4 (k r : Int) (a : Option Addr) (cap : Nat) (l : List (Int × Int)) (w : World) (hs : Sl 2 encV w a l) (hl : l.length < 4611686018427387904) (hk : k = 3) (hc : vcB k l.length = true) (ho : l.any outV = false) (h1 : r = 0) (q0 : convexB l = true) (q1 : ¬ shortestI l < 4096) (q2 : ¬ areaI l < 256) (q3 : bluntB l = false) :
   Calls Tryz.prog 65 #[.agg #[.int .i64 k, .int .i64 r, .slice a l.length cap]] w fun e w' => e = .returned (.int .i64 (shE k r l)) ∧ Grw w w' := by
 have HS := Lib.hid hs
 clear hs
 have HV := Lib.hid (show shE k r l = 0 from ((((if_neg (by omega)).trans (if_neg (by rw [hc]; simp))).trans (if_neg (by rw [ho]; simp))).trans (if_neg (by omega))).trans ((if_neg (by omega)).trans (if_neg (by rintro ⟨_, h | h | h | h⟩; rw [q0] at h; cases h; exact q1 h; exact q2 h; rw [q3] at h; cases h))))
 have hn : 3 ≤ l.length ∧ l.length ≤ 8 := by rw [hk] at hc; simpa [vcB] using hc
 have hn2 : 2 ≤ l.length := by omega
 have d1 : decide (shortestI l < 4096) = false := by simpa using q1
 have d2 : decide (areaI l < 256) = false := by simpa using q2
 subst hk h1
 clear hn
 go_enter Tryz.func65, Tryz.ntmps65
 go_upto_region 10 with ((first | (go_at_call 136; refine (validCount_any _ _ _ _ _ _ hl).mono ?_; rintro e w1 ⟨rfl, hg1⟩; obtain ⟨hc1, hf1⟩ := hg1.cells; have hz1 := hg1.size; (have hl1_0 : w.heap.size < w1.heap.size := by (try simp at hz1); omega); (have c1_0_0 := hc1 (w.heap.size) 0 (by first | omega | simp <;> omega); simp [go_sem] at c1_0_0); (have c1_0_1 := hc1 (w.heap.size) 1 (by first | omega | simp <;> omega); simp [go_sem] at c1_0_1); (have c1_0_2 := hc1 (w.heap.size) 2 (by first | omega | simp <;> omega); simp [go_sem] at c1_0_2); (have f1_0 := fun o => hf1 (w.heap.size) o (by first | omega | simp <;> omega); simp [go_sem] at f1_0); clear hc1 hf1) | (go_at_call 137; refine (containsOutV_any _ _ _ _ (HS.out.grw (by (repeat with_reducible first | exact .refl _ | assumption | refine .setAt ?_ (by first | omega | simp <;> omega) _ | refine .alloc ?_ _ | refine .drewN ?_ _ | refine .drew ?_ | refine .trans ?_ (by assumption)))) hl).mono ?_; rintro e w1 ⟨rfl, hg2⟩; replace hg1 := Grw.trans hg1 hg2; clear hg2; obtain ⟨hc1, hf1⟩ := hg1.cells; have hz1 := hg1.size; (have hl1_0 : w.heap.size < w1.heap.size := by (try simp at hz1); omega); (have c1_0_0 := hc1 (w.heap.size) 0 (by first | omega | simp <;> omega); simp [go_sem] at c1_0_0); (have c1_0_1 := hc1 (w.heap.size) 1 (by first | omega | simp <;> omega); simp [go_sem] at c1_0_1); (have c1_0_2 := hc1 (w.heap.size) 2 (by first | omega | simp <;> omega); simp [go_sem] at c1_0_2); (have f1_0 := fun o => hf1 (w.heap.size) o (by first | omega | simp <;> omega); simp [go_sem] at f1_0); clear hc1 hf1)))
 (refine wp_region_flow (by kernel_rfl) (by kernel_rfl) ?_; (repeat (refine wpQ_step (fun K hK => ?_); go_simp; refine hK _ ?_; clear hK K)); refine wpQ_nil ?_)
 intro w2 hg2
 have hg3 := hg1.trans hg2
 clear hg1 c1_0_0 c1_0_1 c1_0_2 f1_0 hz1 hl1_0 hg2
 obtain ⟨hc3, hf3⟩ := hg3.cells
 (have c1_0_0 := hc3 (w.heap.size) 0 (by first | omega | simp <;> omega); simp [go_sem] at c1_0_0)
 (have c1_0_2 := hc3 (w.heap.size) 2 (by first | omega | simp <;> omega); simp [go_sem] at c1_0_2)
 clear hc3 hf3
 go_wp2_with (first | (go_at_call 140; refine (isConvex_any _ _ _ _ (HS.out.grw (by (repeat with_reducible first | exact .refl _ | assumption | refine .setAt ?_ (by first | omega | simp <;> omega) _ | refine .alloc ?_ _ | refine .drewN ?_ _ | refine .drew ?_ | refine .trans ?_ (by assumption)))) hl).mono ?_; rintro e w2 ⟨rfl, hg4⟩; replace hg3 := Grw.trans hg3 hg4; clear hg4; obtain ⟨hc3, hf3⟩ := hg3.cells; (have c1_0_2 := hc3 (w.heap.size) 2 (by first | omega | simp <;> omega); simp [go_sem] at c1_0_2); clear hc3 hf3) | (go_at_call 141; refine (shortest_any _ _ _ _ (HS.out.grw (by (repeat with_reducible first | exact .refl _ | assumption | refine .setAt ?_ (by first | omega | simp <;> omega) _ | refine .alloc ?_ _ | refine .drewN ?_ _ | refine .drew ?_ | refine .trans ?_ (by assumption)))) hl).mono ?_; rintro e w2 ⟨rfl, hg4⟩; replace hg3 := Grw.trans hg3 hg4; clear hg4; obtain ⟨hc3, hf3⟩ := hg3.cells; (have c1_0_2 := hc3 (w.heap.size) 2 (by first | omega | simp <;> omega); simp [go_sem] at c1_0_2); clear hc3 hf3) | (go_at_call 142; refine (area_any _ _ _ _ (HS.out.grw (by (repeat with_reducible first | exact .refl _ | assumption | refine .setAt ?_ (by first | omega | simp <;> omega) _ | refine .alloc ?_ _ | refine .drewN ?_ _ | refine .drew ?_ | refine .trans ?_ (by assumption)))) hl).mono ?_; rintro e w2 ⟨rfl, hg4⟩; replace hg3 := Grw.trans hg3 hg4; clear hg4; obtain ⟨hc3, hf3⟩ := hg3.cells; (have c1_0_2 := hc3 (w.heap.size) 2 (by first | omega | simp <;> omega); simp [go_sem] at c1_0_2); clear hc3 hf3) | (go_at_call 143; refine (blunt_any _ _ _ _ (HS.out.grw (by (repeat with_reducible first | exact .refl _ | assumption | refine .setAt ?_ (by first | omega | simp <;> omega) _ | refine .alloc ?_ _ | refine .drewN ?_ _ | refine .drew ?_ | refine .trans ?_ (by assumption)))) hn2 hl).mono ?_; rintro e w2 ⟨rfl, hg4⟩; replace hg3 := Grw.trans hg3 hg4; clear hg4; obtain ⟨hc3, hf3⟩ := hg3.cells; (have c1_0_2 := hc3 (w.heap.size) 2 (by first | omega | simp <;> omega); simp [go_sem] at c1_0_2); clear hc3 hf3))
 go_ret
 exact ⟨ret_int HV.out.symm, by (repeat with_reducible first | exact .refl _ | assumption | refine .setAt ?_ (by first | omega | simp <;> omega) _ | refine .alloc ?_ _ | refine .drewN ?_ _ | refine .drew ?_ | refine .trans ?_ (by assumption))⟩
theorem shapeValidate_any (k r : Int) (a : Option Addr) (cap : Nat) (l : List (Int × Int)) (w : World) (hs : Sl 2 encV w a l) (hl : l.length < 4611686018427387904) :
   Calls Tryz.prog 65 #[.agg #[.int .i64 k, .int .i64 r, .slice a l.length cap]] w fun e w' => e = .returned (.int .i64 (shE k r l)) ∧ Grw w w' := by
 by_cases h0 : k < 1 ∨ 3 < k
 · exact shapeV_kind k r a cap l w hs hl h0
 cases hc : vcB k l.length
 · exact shapeV_count k r a cap l w hs hl (by omega) (by omega) hc
 by_cases ho1 : l.any outV = true
 · exact shapeV_out k r a cap l w hs hl (by omega) (by omega) hc ho1
 have ho : l.any outV = false := by simpa using ho1
 by_cases hr : (k = 3 ∧ r ≠ 0) ∨ (k ≠ 3 ∧ (r < 2048 ∨ 524288 < r))
 · exact shapeV_radius k r a cap l w hs hl (by omega) (by omega) hc ho hr
 by_cases h1 : k = 1
 · exact shapeV_circle k r a cap l w hs hl h1 hc ho (by omega) (by omega)
 by_cases h2 : k = 2
 · by_cases hq : lenI (subI (ptL l 1).1 (ptL l 0).1) (subI (ptL l 1).2 (ptL l 0).2) < 4096
   · exact shapeV_short k r a cap l w hs hl h2 hc ho (by omega) (by omega) hq
   · exact shapeV_capsule k r a cap l w hs hl h2 hc ho (by omega) (by omega) hq
 have h3 : k = 3 := by omega
 have hr0 : r = 0 := by omega
 cases q0 : convexB l
 · exact shapeV_p0 k r a cap l w hs hl h3 hc ho hr0 q0
 by_cases q1 : shortestI l < 4096
 · exact shapeV_p1 k r a cap l w hs hl h3 hc ho hr0 q0 q1
 by_cases q2 : areaI l < 256
 · exact shapeV_p2 k r a cap l w hs hl h3 hc ho hr0 q0 q1 q2
 cases q3 : bluntB l
 · exact shapeV_p4 k r a cap l w hs hl h3 hc ho hr0 q0 q1 q2 q3
 · exact shapeV_p3 k r a cap l w hs hl h3 hc ho hr0 q0 q1 q2 q3
theorem shE_len {k r : Int} {l : List (Int × Int)} (h : shE k r l = 0) : (1 ≤ k ∧ k ≤ 3) ∧ (k = 1 → l.length = 1) ∧ (k = 2 → l.length = 2) ∧ (k = 3 → 3 ≤ l.length) ∧ 1 ≤ l.length ∧ l.length ≤ 8 := by
 unfold shE at h
 by_cases h0 : k < 1 ∨ 3 < k
 · rw [if_pos h0] at h; cases h
 rw [if_neg h0] at h
 cases hc : vcB k l.length
 · rw [if_pos hc] at h; cases h
 clear h
 unfold vcB at hc
 by_cases h1 : k = 1
 · rw [if_pos h1] at hc; simp at hc; omega
 rw [if_neg h1] at hc
 by_cases h2 : k = 2
 · rw [if_pos h2] at hc; simp at hc; omega
 rw [if_neg h2] at hc; simp at hc; omega
theorem OwnL.sl {α : Type} {e size : Nat} {enc : α → List Value} {w : World} {base : Nat} {v : Value} {xs : List α} (hk : ∀ x, (enc x).length = size) (h : OwnL e size enc w base v xs) :
   ∃ a cap, v = .slice a xs.length cap ∧ Sl size enc w a xs ∧ xs.length ≤ cap := by
 obtain ⟨h1, ⟨rfl, h2⟩ | ⟨g, cap, cur, rfl, h3, h4, h5, h6, h7, h8⟩⟩ := h
 · obtain rfl := List.length_eq_zero_iff.1 h2
   exact ⟨none, 0, rfl, Sl.nil, Nat.le_refl _⟩
 · refine ⟨some ⟨g, 0, none⟩, cap, rfl, fun i x hx => ⟨g, 0, rfl, (Array.getElem?_eq_some_iff.1 h4).1, fun j u hu => ?_⟩, h5⟩
   have hj : j < (enc x).length := (List.getElem?_eq_some_iff.1 hu).1
   rw [hk] at hj
   have hil : i < xs.length := (List.getElem?_eq_some_iff.1 hx).1
   have key : (xs.flatMap enc)[i * size + j]? = some u := by
     have : ∀ (l : List α) (i : Nat), l[i]? = some x → (l.flatMap enc)[i * size + j]? = some u := by
       intro l
       induction l with
       | nil => intro i hi; simp at hi
       | cons y l ih =>
         intro i hi
         rw [List.flatMap_cons]
         match i, hi with
         | 0, hi =>
           cases hi
           rw [Nat.zero_mul, Nat.zero_add, List.getElem?_append_left (by rw [hk]; exact hj)]; exact hu
         | i + 1, hi =>
           rw [List.getElem?_append_right (by rw [hk, Nat.add_mul]; omega), hk, show (i + 1) * size + j - size = i * size + j by rw [Nat.add_mul]; omega]
           exact ih i (by simpa using hi)
     exact this xs i hx
   have hlt : i * size + j < xs.length * size := by
     have : (i + 1) * size ≤ xs.length * size := Nat.mul_le_mul_right _ hil
     rw [Nat.add_mul] at this; omega
   have h9 : (cur.toList.take (xs.length * size))[i * size + j]? = some u := by rw [h8]; exact key
   rw [List.getElem?_take, if_pos hlt] at h9
   simp only [World.cell?, h4, Nat.zero_add]
   simpa using h9
def appP (px py an : Int) (p : Int × Int) : Int × Int := (appX px an p.1 p.2, appY py an p.1 p.2)
def vtF (k r : Int) (l : List (Int × Int)) (px py an : Int) : List (Int × Int) := if shE k r l = 0 then l.map (appP px py an) else []
theorem infoV : (Tryz.prog.info? 23).map (fun i => (i.zero, i.size, i.bytes)) = some (some (.agg #[.int .i64 0, .int .i64 0]), 2, 16) := by kernel_rfl
theorem map_take_succ {α β : Type} (f : α → β) (l : List α) (k : Nat) (x : α) (h : l[k]? = some x) : (l.take (k + 1)).map f = (l.take k).map f ++ [f x] := by
 rw [List.take_add_one, h, List.map_append]; rfl
theorem vertices_any (k r px py an : Int) (a : Option Addr) (cap : Nat) (l : List (Int × Int)) (w : World) (hs : Sl 2 encV w a l) (hl : l.length < 4611686018427387904) :
   Calls Tryz.prog 30 #[.agg #[.int .i64 k, .int .i64 r, .slice a l.length cap], .agg #[.int .i64 px, .int .i64 py, .int .i64 an]] w fun e w' =>
     ∃ v, e = .returned v ∧ Grw w w' ∧ OwnL 23 2 encV w' w.heap.size v (vtF k r l px py an) := by
 have HS := Lib.hid hs
 clear hs
 by_cases he : shE k r l = 0
 · have HV := Lib.hid (show vtF k r l px py an = l.map (appP px py an) from if_pos he)
   have hb0 : (shE k r l != 0) = false := by simp [he]
   obtain ⟨_, _, _, _, hl1, hl8⟩ := shE_len he
   clear he
   go_enter Tryz.func30, Tryz.ntmps30
   go_wp2_with (first | (go_at_call 65; refine (shapeValidate_any _ _ _ _ _ _ (HS.out.grw (by (repeat with_reducible first | exact .refl _ | assumption | refine .setAt ?_ (by first | omega | simp <;> omega) _ | refine .alloc ?_ _ | refine .drewN ?_ _ | refine .drew ?_ | refine .trans ?_ (by assumption)))) hl).mono ?_; rintro e w1 ⟨rfl, hg1⟩; (try replace hg1 := Grw.trans (by assumption) hg1); obtain ⟨hc1, hf1⟩ := hg1.cells; have hz1 := hg1.size; (have hl1_0 : w.heap.size < w1.heap.size := by (try simp at hz1); omega); (have c1_0_0 := hc1 (w.heap.size) 0 (by first | omega | simp <;> omega); simp [go_sem] at c1_0_0); (have c1_0_1 := hc1 (w.heap.size) 1 (by first | omega | simp <;> omega); simp [go_sem] at c1_0_1); (have c1_0_2 := hc1 (w.heap.size) 2 (by first | omega | simp <;> omega); simp [go_sem] at c1_0_2); (have f1_0 := fun o => hf1 (w.heap.size) o (by first | omega | simp <;> omega); simp [go_sem] at f1_0); (have hl1_1 : w.heap.size + 1 < w1.heap.size := by (try simp at hz1); omega); (have c1_1_0 := hc1 (w.heap.size + 1) 0 (by first | omega | simp <;> omega); simp [go_sem] at c1_1_0); (have c1_1_1 := hc1 (w.heap.size + 1) 1 (by first | omega | simp <;> omega); simp [go_sem] at c1_1_1); (have c1_1_2 := hc1 (w.heap.size + 1) 2 (by first | omega | simp <;> omega); simp [go_sem] at c1_1_2); (have f1_1 := fun o => hf1 (w.heap.size + 1) o (by first | omega | simp <;> omega); simp [go_sem] at f1_1); clear hc1 hf1))
   have hB1 : Bk w1 w.heap.size 56 #[.int .i64 k, .int .i64 r, .slice a l.length cap] := Bk.grw (by (repeat with_reducible first | exact Bk.new' (by simp) | refine Bk.alloc ?_ _)) hg1
   have hT1 : Bk w1 (w.heap.size + 1) 41 #[.int .i64 px, .int .i64 py, .int .i64 an] := Bk.grw (by (repeat with_reducible first | exact Bk.new' (by simp) | refine Bk.alloc ?_ _)) hg1
   have hw1 : Grw w w1 := by (repeat with_reducible first | exact .refl _ | assumption | refine .setAt ?_ (by first | omega | simp <;> omega) _ | refine .alloc ?_ _ | refine .drewN ?_ _ | refine .drew ?_ | refine .trans ?_ (by assumption))
   go_loopg [14, 5] l.length (fun g v14 v5 wr => ∃ i : Nat, v14 = .int .i64 i ∧ i ≤ l.length ∧ l.length - i ≤ g ∧ Grw w wr ∧ Bk wr (w.heap.size + 1) 41 #[.int .i64 px, .int .i64 py, .int .i64 an] ∧ OwnL 23 2 encV wr (w.heap.size + 2) v5 ((l.take i).map (appP px py an)))
   case atStart => exact ⟨0, rfl, Nat.zero_le _, Nat.le_refl _, hw1, hT1, OwnL.nil _ _ _ _ _⟩
   case round =>
     obtain ⟨i, rfl, hi, hg, hgr, hT, hO⟩ := hrel
     have HO := Lib.hid hO
     clear hO hB1 hT1 hw1 hg1 c1_0_0 c1_0_1 c1_0_2 c1_1_0 c1_1_1 c1_1_2 f1_0 f1_1 hz1 hl1_0 hl1_1
     rcases Nat.lt_or_ge i l.length with hlt | hge
     · obtain ⟨x, hx⟩ : ∃ x, l[i]? = some x := ⟨l[i], List.getElem?_eq_getElem hlt⟩
       obtain ⟨b, off, rfl, hb2, x0, x1⟩ := (HS.out.grw hgr).vec hx
       have HM := Lib.hid (map_take_succ (appP px py an) l i x hx)
       (have t0 := (hT).cell 0; simp only [gL] at t0); (have t1 := (hT).cell 1; simp only [gL] at t1); (have t2 := (hT).cell 2; simp only [gL] at t2); have tf := (hT).frozen; have tl := (hT).lt
       have hTl : w.heap.size + 1 < wr.heap.size := hT.lt
       have HT := Lib.hid hT
       clear hx hT
       go_wp2_with fail
       (go_at_call 66; refine (apply_any _ _ _ _ _ _).mono ?_; rintro e w2 ⟨rfl, hg2⟩)
       have hG2 : Grw wr w2 := by (repeat with_reducible first | exact .refl _ | assumption | refine .setAt ?_ (by first | omega | simp <;> omega) _ | refine .alloc ?_ _ | refine .drewN ?_ _ | refine .drew ?_ | refine .trans ?_ (by assumption))
       have HO2 := Lib.hid (HO.out.grw hG2)
       have HT2 := Lib.hid (HT.out.grw hG2)
       have hw2 : Grw w w2 := hgr.trans hG2
       have hbl := HT2.out.lt
       have hll : (((l.take i).map (appP px py an)).length + 1) * 16 ≤ 140737488355328 := by simp; omega
       clear t0 t1 t2 tf x0 x1
       go_wp2_with (at_builtin; refine wpList_push (enc := encV) (z := .agg #[.int .i64 0, .int .i64 0]) (bytes := 16) (fun _ => rfl) (by simp [encV, Value.oneCell']) (w.heap.size + 2) rfl _ _ rfl Tryz.underlying54 infoV rfl (by decide) (by decide) u5 ((l.take i).map (appP px py an)) (appP px py an x) _ rfl rfl rfl HO2.out (by omega) hll ?_; intro v1 w8 hO8 hC8 _)
       have hbz : ∀ k, u5.ownBlock = some k → w.heap.size + 2 ≤ k := fun k hk => (HO2.out.base_le k hk).1
       have hw8 : Grw w w8 := OnlyChg.near (S := fun k => w.heap.size ≤ k) ((OnlyChg.of_grw hw2).trans (hC8.mono fun k _ hk => by have := hbz k hk; omega)) fun k h => h
       have hT8 : Bk w8 (w.heap.size + 1) 41 #[.int .i64 px, .int .i64 py, .int .i64 an] := (hC8.block _ HT2.out.lt (fun hk => by have := hbz _ hk; omega)).trans HT2.out
       have HO8 := Lib.hid hO8
       have HT8 := Lib.hid hT8
       clear hO8 hT8 hC8
       go_wp2_with fail
       go_roundg (l.length - (i + 1))
       case measure => omega
       case rel => exact ⟨i + 1, by go_num, by omega, Nat.le_refl _, hw8, HT8.out, by rw [HM.out]; exact HO8.out⟩
     · obtain rfl : i = l.length := by omega
       rw [List.take_of_length_le (Nat.le_refl _)] at HO
       have hO9 : OwnL 23 2 encV wr w.heap.size u5 (vtF k r l px py an) := by
         rw [HV.out]
         obtain ⟨h1, h2 | ⟨g, cap, cur, h3, h4, h5⟩⟩ := HO.out
         · exact ⟨h1, .inl h2⟩
         · exact ⟨h1, .inr ⟨g, cap, cur, h3, by omega, h5⟩⟩
       have HO9 := Lib.hid hO9
       clear hO9 hT
       go_wp2_with fail
       go_ret
       exact ⟨u5, rfl, hgr, HO9.out⟩
 · have HV := Lib.hid (show vtF k r l px py an = [] from if_neg he)
   have hb0 : (shE k r l != 0) = true := by simp [he]
   clear he
   go_enter Tryz.func30, Tryz.ntmps30
   go_wp2_with (first | (go_at_call 65; refine (shapeValidate_any _ _ _ _ _ _ (HS.out.grw (by (repeat with_reducible first | exact .refl _ | assumption | refine .setAt ?_ (by first | omega | simp <;> omega) _ | refine .alloc ?_ _ | refine .drewN ?_ _ | refine .drew ?_ | refine .trans ?_ (by assumption)))) hl).mono ?_; rintro e w1 ⟨rfl, hg1⟩; (try replace hg1 := Grw.trans (by assumption) hg1); obtain ⟨hc1, hf1⟩ := hg1.cells; have hz1 := hg1.size; (have hl1_0 : w.heap.size < w1.heap.size := by (try simp at hz1); omega); (have c1_0_0 := hc1 (w.heap.size) 0 (by first | omega | simp <;> omega); simp [go_sem] at c1_0_0); (have c1_0_1 := hc1 (w.heap.size) 1 (by first | omega | simp <;> omega); simp [go_sem] at c1_0_1); (have c1_0_2 := hc1 (w.heap.size) 2 (by first | omega | simp <;> omega); simp [go_sem] at c1_0_2); (have f1_0 := fun o => hf1 (w.heap.size) o (by first | omega | simp <;> omega); simp [go_sem] at f1_0); (have hl1_1 : w.heap.size + 1 < w1.heap.size := by (try simp at hz1); omega); (have c1_1_0 := hc1 (w.heap.size + 1) 0 (by first | omega | simp <;> omega); simp [go_sem] at c1_1_0); (have c1_1_1 := hc1 (w.heap.size + 1) 1 (by first | omega | simp <;> omega); simp [go_sem] at c1_1_1); (have c1_1_2 := hc1 (w.heap.size + 1) 2 (by first | omega | simp <;> omega); simp [go_sem] at c1_1_2); (have f1_1 := fun o => hf1 (w.heap.size + 1) o (by first | omega | simp <;> omega); simp [go_sem] at f1_1); clear hc1 hf1))
   go_ret
   exact ⟨.slice none 0 0, rfl, by (repeat with_reducible first | exact .refl _ | assumption | refine .setAt ?_ (by first | omega | simp <;> omega) _ | refine .alloc ?_ _ | refine .drewN ?_ _ | refine .drew ?_ | refine .trans ?_ (by assumption)), by rw [HV.out]; exact OwnL.nil _ _ _ _ _⟩
def edgeE (l : List (Int × Int)) (i : Nat) : Int × Int := vsubP (ptL l ((i + 1) % l.length)) (ptL l i)
def edgeN (l : List (Int × Int)) (i : Nat) : Int × Int := (normX (edgeE l i).2 (-(edgeE l i).1), normY (edgeE l i).2 (-(edgeE l i).1))
theorem edge_any (a : Option Addr) (cap : Nat) (l : List (Int × Int)) (i : Nat) (w : World) (hs : Sl 2 encV w a l) (h2 : 2 ≤ l.length) (hi : i < l.length) (hl : l.length < 4611686018427387904) :
   Calls Tryz.prog 148 #[.slice a l.length cap, .int .i64 i] w fun e w' => e = .returned (.tuple #[.agg #[.int .i64 ((edgeE l i).1), .int .i64 ((edgeE l i).2)], .bool true]) ∧ Grw w w' := by
 have HS := Lib.hid hs
 clear hs
 obtain ⟨x, hx⟩ : ∃ x, l[i]? = some x := ⟨l[i], List.getElem?_eq_getElem hi⟩
 obtain ⟨j, hj⟩ : ∃ j : Nat, j = (i + 1) % l.length := ⟨_, rfl⟩
 have hjl : j < l.length := by rw [hj]; exact Nat.mod_lt _ (by omega)
 obtain ⟨z, hz⟩ : ∃ z, l[j]? = some z := ⟨l[j], List.getElem?_eq_getElem hjl⟩
 have HE := Lib.hid (show edgeE l i = (subI z.1 x.1, subI z.2 x.2) by unfold edgeE; rw [← hj, ptL_of hz, ptL_of hx]; rfl)
 have HJ := Lib.hid (show ((i : Int) + 1).tmod (l.length : Int) = (j : Int) by rw [hj]; rfl)
 have hn0 : (l.length : Int) ≠ 0 := by omega
 have hne : l ≠ [] := by rintro rfl; simp at h2
 have hi0 : (0 : Int) ≤ i := by omega
 have hi1 : (i : Int) < l.length := by omega
 have HX := Lib.hid hx
 have HZ := Lib.hid hz
 clear hx hz hj
 go_enter Tryz.func148, Tryz.ntmps148
 go_upto_region 3 with (fail)
 refine wp_gen (fun x' => Grw w x' ∧ Bk x' w.heap.size 23 #[.int .i64 0, .int .i64 0]) ⟨(Grw.refl w).alloc _, Bk.new' rfl⟩ ?_
 rintro w3 ⟨hg3, hB3⟩
 obtain ⟨b, off, rfl, hb2, x0, x1⟩ := (HS.out.grw hg3).vec HX.out
 obtain ⟨_, _, e1, hb4, z0, z1⟩ := (HS.out.grw hg3).vec HZ.out
 cases e1
 have HB3 := Lib.hid hB3
 clear hB3
 have hj0 : (0 : Int) ≤ j := by omega
 have hj1 : (j : Int) < l.length := by omega
 (have hwr0 : IntKind.i64.wrap ((i : Int) + 1) = (i : Int) + 1 := IntWalk.i64_in _ (by omega)); (have hwr1 : IntKind.i64.wrap ((j : Int)) = (j : Int) := IntWalk.i64_in _ (by omega))
 have hjm := HJ.out
 (refine wp_region_flowA 13 (by kernel_rfl) (by kernel_rfl) ?_; simp only [tD]; (repeat (refine wpQ_step (fun K hK => ?_); go_simp; first | (refine hK _ ?_; clear hK K) | (apply Exists.intro; refine ⟨fun _ => ?_, hK _ ?_⟩; (first | (go_at_call 36; exact (vsub_any _ _ _ _ _))); clear hK K))); refine wpQ_nil ?_)
 intro w4 hg4
 clear hwr0 hwr1
 clear hjm
 have hB4 := HB3.out.grw hg4
 (have o0 := (hB4).cell 0; simp only [gL] at o0); (have o1 := (hB4).cell 1; simp only [gL] at o1); have of := (hB4).frozen; have ol := (hB4).lt
 have hw4 := hg3.trans hg4
 clear hB4
 go_wp2_with fail
 refine bodyPost_ret (v := .tuple #[.agg #[.int .i64 (subI z.1 x.1), .int .i64 (subI z.2 x.2)], .bool true]) (by simp [results, Tryz.results148, go_sem, o0, o1]) rfl ⟨by rw [HE.out], ?_⟩
 (repeat with_reducible first | exact .refl _ | assumption | refine .setAt ?_ (by first | omega | simp <;> omega) _ | refine .alloc ?_ _ | refine .drewN ?_ _ | refine .drew ?_ | refine .trans ?_ (by assumption))
theorem edgeNormal_any (a : Option Addr) (cap : Nat) (l : List (Int × Int)) (i : Nat) (w : World) (hs : Sl 2 encV w a l) (h2 : 2 ≤ l.length) (hi : i < l.length) (hl : l.length < 4611686018427387904) :
   Calls Tryz.prog 77 #[.slice a l.length cap, .int .i64 i] w fun e w' => e = .returned (.agg #[.int .i64 ((edgeN l i).1), .int .i64 ((edgeN l i).2)]) ∧ Grw w w' := by
 have HS := Lib.hid hs
 clear hs
 obtain ⟨e, he⟩ : ∃ e, e = edgeE l i := ⟨_, rfl⟩
 have hb := vsubP_bd (ptL l ((i + 1) % l.length)) (ptL l i)
 have HN := Lib.hid (show edgeN l i = (normX e.2 (-e.1), normY e.2 (-e.1)) by rw [he]; rfl)
 have hb' : (-536870911 ≤ e.1 ∧ e.1 ≤ 536870911) ∧ -536870911 ≤ e.2 ∧ e.2 ≤ 536870911 := he ▸ hb
 obtain ⟨⟨k1, k2⟩, k3, k4⟩ := hb'
 have HE := Lib.hid he
 clear he hb
 go_enter Tryz.func77, Tryz.ntmps77
 go_wp2_with fail
 (go_at_call 148; refine (edge_any _ _ _ _ _ (HS.out.grw (by (repeat with_reducible first | exact .refl _ | assumption | refine .setAt ?_ (by first | omega | simp <;> omega) _ | refine .alloc ?_ _ | refine .drewN ?_ _ | refine .drew ?_ | refine .trans ?_ (by assumption)))) h2 hi hl).mono ?_; rintro e' w1 ⟨rfl, hg1⟩)
 rw [← HE.out]
 have hB1 : Bk w1 w.heap.size 23 #[.int .i64 0, .int .i64 0] := (Bk.new' rfl).grw hg1
 have hw1 : Grw w w1 := by (repeat with_reducible first | exact .refl _ | assumption | refine .setAt ?_ (by first | omega | simp <;> omega) _ | refine .alloc ?_ _ | refine .drewN ?_ _ | refine .drew ?_ | refine .trans ?_ (by assumption))
 (have o0 := (hB1).cell 0; simp only [gL] at o0); (have o1 := (hB1).cell 1; simp only [gL] at o1); have of := (hB1).frozen; have ol := (hB1).lt
 have HB1 := Lib.hid hB1
 clear hB1 hg1
 go_wp2_with fail
 (go_at_call 68; refine (normalize_any _ _ _).mono ?_; rintro e' w2 ⟨rfl, hg2⟩)
 have hB2 := (HB1.out.alloc (.cells #[.int .i64 e.1, .int .i64 e.2] 23)).grw hg2
 have hw2 : Grw w w2 := by (repeat with_reducible first | exact .refl _ | assumption | refine .setAt ?_ (by first | omega | simp <;> omega) _ | refine .alloc ?_ _ | refine .drewN ?_ _ | refine .drew ?_ | refine .trans ?_ (by assumption))
 clear o0 o1 of ol
 (have o0 := (hB2).cell 0; simp only [gL] at o0); (have o1 := (hB2).cell 1; simp only [gL] at o1); have of := (hB2).frozen; have ol := (hB2).lt
 clear hB2 hg2
 go_wp2_with fail
 refine bodyPost_ret (v := .agg #[.int .i64 (normX e.2 (-e.1)), .int .i64 (normY e.2 (-e.1))]) (by simp [results, Tryz.results77, go_sem, o0, o1]) rfl ⟨by rw [HN.out], ?_⟩
 (repeat with_reducible first | exact .refl _ | assumption | refine .setAt ?_ (by first | omega | simp <;> omega) _ | refine .alloc ?_ _ | refine .drewN ?_ _ | refine .drew ?_ | refine .trans ?_ (by assumption))
end
section
open Go.RowKit Go.Sort
attribute [local go_sem] qAt qUpon okOp okUpon cell_in_grow frozen_in_grow
abbrev P2 := Int × Int
def satP (p : P2) : P2 := (sat p.1, sat p.2)
def normP (p : P2) : P2 := (normX p.1 p.2, normY p.1 p.2)
def lerpP (p q : P2) (t : Int) : P2 := (lerpI p.1 q.1 t, lerpI p.2 q.2 t)
def ccD (f t : P2) : P2 := vsubP (satP t) (satP f)
def ccL (f t : P2) : Int := lenI (ccD f t).1 (ccD f t).2
def ccM (c f : P2) : P2 := vsubP c (satP f)
def ccH (c f t : P2) : Int := crossI (normP (ccD f t)).1 (normP (ccD f t)).2 (ccM c f).1 (ccM c f).2
def ccE (c : P2) (r : Int) (f t : P2) : Int := subI (dotI (ccM c f).1 (ccM c f).2 (normP (ccD f t)).1 (normP (ccD f t)).2) (isqI (r * r - ccH c f t * ccH c f t))
def ccN (c : P2) (r : Int) (f t : P2) : P2 := normP (vsubP (lerpP (satP f) (satP t) (ratioI (ccE c r f t) (ccL f t))) c)
structure Hit where
 t : Int
 n : P2
 ok : Bool
def Hit.no : Hit := ⟨0, (0, 0), false⟩
def Hit.v (h : Hit) : Value := .tuple #[.int .i64 h.t, .agg #[.int .i64 h.n.1, .int .i64 h.n.2], .bool h.ok]
def ccF (c : P2) (r : Int) (f t : P2) : Hit :=
 if ccL f t = 0 ∨ r < 0 ∨ 536870911 < r ∨ r < max (ccH c f t) (-ccH c f t) then .no
 else if ccE c r f t < 0 ∨ ccL f t < ccE c r f t then .no else ⟨ratioI (ccE c r f t) (ccL f t), ccN c r f t, true⟩
theorem castCircle_any (cx cy r fx fy tx ty : Int) (w : World) :
   Calls Tryz.prog 31 #[.agg #[.int .i64 (cx), .int .i64 (cy)], .int .i64 r, .agg #[.int .i64 (fx), .int .i64 (fy)], .agg #[.int .i64 (tx), .int .i64 (ty)]] w fun e w' => e = .returned (ccF (cx, cy) r (fx, fy) (tx, ty)).v ∧ Grw w w' := by
 go_enter Tryz.func31, Tryz.ntmps31
 go_wp2_with fail
 (refine wp_region_flowA 4 (by kernel_rfl) (by kernel_rfl) ?_; simp only [tD]; (repeat (refine wpQ_step (fun K hK => ?_); go_simp; first | (refine hK _ ?_; clear hK K) | (apply Exists.intro; refine ⟨fun _ => ?_, hK _ ?_⟩; (first | (go_at_call 67; exact (rsat_any _ _ _))); clear hK K))); refine wpQ_nil ?_)
 intro w2 hg2
 have b0 : Bk w2 w.heap.size 23 #[.int .i64 cx, .int .i64 cy] := Bk.grw (by (repeat with_reducible first | exact Bk.new' (by simp) | refine Bk.alloc ?_ _)) hg2
 have b1 : Bk w2 (w.heap.size + 1) 23 #[.int .i64 fx, .int .i64 fy] := Bk.grw (by (repeat with_reducible first | exact Bk.new' (by simp) | refine Bk.alloc ?_ _)) hg2
 have b2 : Bk w2 (w.heap.size + 1 + 1) 23 #[.int .i64 tx, .int .i64 ty] := Bk.grw (by (repeat with_reducible first | exact Bk.new' (by simp) | refine Bk.alloc ?_ _)) hg2
 have b3 : Bk w2 (w.heap.size + 1 + 1 + 1) 23 #[.int .i64 0, .int .i64 0] := Bk.grw (by (repeat with_reducible first | exact Bk.new' (by simp) | refine Bk.alloc ?_ _)) hg2
 (have p0 := (b1).cell 0; simp only [gL] at p0); (have p1 := (b1).cell 1; simp only [gL] at p1); have pf := (b1).frozen; have pl := (b1).lt
 (have q0 := (b2).cell 0; simp only [gL] at q0); (have q1 := (b2).cell 1; simp only [gL] at q1); have qf := (b2).frozen; have ql := (b2).lt
 have H2 := Lib.hid (show _ ∧ _ ∧ _ ∧ _ from ⟨b0, b1, b2, b3⟩)
 clear b0 b1 b2 b3
 go_upto_region 2 with (fail)
 obtain ⟨b0, b1, b2, b3⟩ := H2.out
 refine wp_gen (fun x => Grw w x ∧ Bk x (w.heap.size) 23 #[.int .i64 (cx), .int .i64 (cy)] ∧ Bk x (w.heap.size + 1) 23 #[.int .i64 (sat fx), .int .i64 (sat fy)] ∧ Bk x (w.heap.size + 1 + 1) 23 #[.int .i64 (sat tx), .int .i64 (sat ty)] ∧ Bk x (w.heap.size + 1 + 1 + 1) 23 #[.int .i64 (0), .int .i64 (0)]) ⟨by (repeat with_reducible first | exact .refl _ | assumption | refine .setAt ?_ (by first | omega | simp <;> omega) _ | refine .alloc ?_ _ | refine .drewN ?_ _ | refine .drew ?_ | refine .trans ?_ (by assumption)), by (repeat' first | (with_reducible first | assumption | apply Bk.set' | apply Bk.far | exact Bk.new' (by simp) | refine Bk.alloc ?_ _) | refine Bk.grw ?_ (by with_reducible assumption) | omega | rfl), by (repeat' first | (with_reducible first | assumption | apply Bk.set' | apply Bk.far | exact Bk.new' (by simp) | refine Bk.alloc ?_ _) | refine Bk.grw ?_ (by with_reducible assumption) | omega | rfl), by (repeat' first | (with_reducible first | assumption | apply Bk.set' | apply Bk.far | exact Bk.new' (by simp) | refine Bk.alloc ?_ _) | refine Bk.grw ?_ (by with_reducible assumption) | omega | rfl), by (repeat' first | (with_reducible first | assumption | apply Bk.set' | apply Bk.far | exact Bk.new' (by simp) | refine Bk.alloc ?_ _) | refine Bk.grw ?_ (by with_reducible assumption) | omega | rfl)⟩ ?_; rintro w3 ⟨hG3, hB3_0, hB3_1, hB3_2, hB3_3⟩; (have g3_00 := (hB3_0).cell 0; simp only [gL] at g3_00); (have g3_01 := (hB3_0).cell 1; simp only [gL] at g3_01); have g3_0f := (hB3_0).frozen; have g3_0l := (hB3_0).lt; (have g3_10 := (hB3_1).cell 0; simp only [gL] at g3_10); (have g3_11 := (hB3_1).cell 1; simp only [gL] at g3_11); have g3_1f := (hB3_1).frozen; have g3_1l := (hB3_1).lt; (have g3_20 := (hB3_2).cell 0; simp only [gL] at g3_20); (have g3_21 := (hB3_2).cell 1; simp only [gL] at g3_21); have g3_2f := (hB3_2).frozen; have g3_2l := (hB3_2).lt; (have g3_30 := (hB3_3).cell 0; simp only [gL] at g3_30); (have g3_31 := (hB3_3).cell 1; simp only [gL] at g3_31); have g3_3f := (hB3_3).frozen; have g3_3l := (hB3_3).lt; have HB3 := Lib.hid (show _ ∧ _ ∧ _ ∧ _ from ⟨hB3_0, hB3_1, hB3_2, hB3_3⟩); clear hB3_0 hB3_1 hB3_2 hB3_3
 clear b0 b1 b2 b3 p0 p1 pf pl q0 q1 qf ql H2 hg2
 go_wp2_with fail
 (go_at_call 36; refine (vsub_any _ _ _ _ _).mono ?_; rintro e w4 ⟨rfl, hg4⟩)
 obtain ⟨b0, b1, b2, b3⟩ := HB3.out
 go_upto_region 3 with (fail); refine wp_gen (fun x => Grw w3 x ∧ Bk x (w.heap.size) 23 #[.int .i64 (cx), .int .i64 (cy)] ∧ Bk x (w.heap.size + 1) 23 #[.int .i64 (sat fx), .int .i64 (sat fy)] ∧ Bk x (w.heap.size + 1 + 1) 23 #[.int .i64 (sat tx), .int .i64 (sat ty)] ∧ Bk x (w.heap.size + 1 + 1 + 1) 23 #[.int .i64 (0), .int .i64 (0)] ∧ Bk x (w4.heap.size) 23 #[.int .i64 (subI (sat tx) (sat fx)), .int .i64 (subI (sat ty) (sat fy))]) ⟨by (repeat with_reducible first | exact .refl _ | assumption | refine .setAt ?_ (by first | omega | simp <;> omega) _ | refine .alloc ?_ _ | refine .drewN ?_ _ | refine .drew ?_ | refine .trans ?_ (by assumption)), by (repeat' first | (with_reducible first | assumption | apply Bk.set' | apply Bk.far | exact Bk.new' (by simp) | refine Bk.alloc ?_ _) | refine Bk.grw ?_ (by with_reducible assumption) | omega | rfl), by (repeat' first | (with_reducible first | assumption | apply Bk.set' | apply Bk.far | exact Bk.new' (by simp) | refine Bk.alloc ?_ _) | refine Bk.grw ?_ (by with_reducible assumption) | omega | rfl), by (repeat' first | (with_reducible first | assumption | apply Bk.set' | apply Bk.far | exact Bk.new' (by simp) | refine Bk.alloc ?_ _) | refine Bk.grw ?_ (by with_reducible assumption) | omega | rfl), by (repeat' first | (with_reducible first | assumption | apply Bk.set' | apply Bk.far | exact Bk.new' (by simp) | refine Bk.alloc ?_ _) | refine Bk.grw ?_ (by with_reducible assumption) | omega | rfl), by (repeat' first | (with_reducible first | assumption | apply Bk.set' | apply Bk.far | exact Bk.new' (by simp) | refine Bk.alloc ?_ _) | refine Bk.grw ?_ (by with_reducible assumption) | omega | rfl)⟩ ?_; rintro w5 ⟨hG5, hB5_0, hB5_1, hB5_2, hB5_3, hB5_4⟩; (have g5_00 := (hB5_0).cell 0; simp only [gL] at g5_00); (have g5_01 := (hB5_0).cell 1; simp only [gL] at g5_01); have g5_0f := (hB5_0).frozen; have g5_0l := (hB5_0).lt; (have g5_10 := (hB5_1).cell 0; simp only [gL] at g5_10); (have g5_11 := (hB5_1).cell 1; simp only [gL] at g5_11); have g5_1f := (hB5_1).frozen; have g5_1l := (hB5_1).lt; (have g5_20 := (hB5_2).cell 0; simp only [gL] at g5_20); (have g5_21 := (hB5_2).cell 1; simp only [gL] at g5_21); have g5_2f := (hB5_2).frozen; have g5_2l := (hB5_2).lt; (have g5_30 := (hB5_3).cell 0; simp only [gL] at g5_30); (have g5_31 := (hB5_3).cell 1; simp only [gL] at g5_31); have g5_3f := (hB5_3).frozen; have g5_3l := (hB5_3).lt; (have g5_40 := (hB5_4).cell 0; simp only [gL] at g5_40); (have g5_41 := (hB5_4).cell 1; simp only [gL] at g5_41); have g5_4f := (hB5_4).frozen; have g5_4l := (hB5_4).lt; have HB5 := Lib.hid (show _ ∧ _ ∧ _ ∧ _ ∧ _ from ⟨hB5_0, hB5_1, hB5_2, hB5_3, hB5_4⟩); clear hB5_0 hB5_1 hB5_2 hB5_3 hB5_4
 clear b0 b1 b2 b3 HB3 hg4 g3_00 g3_01 g3_0f g3_0l g3_10 g3_11 g3_1f g3_1l g3_20 g3_21 g3_2f g3_2l g3_30 g3_31 g3_3f g3_3l
 obtain ⟨d, hd⟩ : ∃ d : P2, d = ccD (fx, fy) (tx, ty) := ⟨_, rfl⟩
 have d1 : subI (sat tx) (sat fx) = d.1 := by rw [hd]; rfl
 have d2 : subI (sat ty) (sat fy) = d.2 := by rw [hd]; rfl
 simp only [d1, d2] at g5_40 g5_41 HB5 ⊢
 have HD := Lib.hid hd
 clear d1 d2 hd
 (refine wp_region_flowB 4 (by kernel_rfl) (by kernel_rfl) ?_; simp only [tD]; (repeat (refine wpQ_step (fun K hK => ?_); go_simp; first | (refine hK _ ?_; clear hK K) | (apply Exists.intro; refine ⟨fun _ => ?_, hK _ ?_⟩; (first | (go_at_call 35; exact (length_any _ _ _)) | (go_at_call 68; exact (normalize_any _ _ _))); clear hK K))); refine wpQ_nil ?_)
 intro w6 hg6
 refine okList_step (fun wa7 hwa7 K hK => ?_); (have hA7 : w5.heap.size ≤ wa7.heap.size := (show Grw w5 wa7 by (repeat with_reducible first | exact .refl _ | assumption | refine .setAt ?_ (by first | omega | simp <;> omega) _ | refine .alloc ?_ _ | refine .drewN ?_ _ | refine .drew ?_ | refine .trans ?_ (by assumption))).size); go_simp; refine hK _ _ (by (repeat with_reducible first | exact .refl _ | assumption | refine .setAt ?_ (by first | omega | simp <;> omega) _ | refine .alloc ?_ _ | refine .drewN ?_ _ | refine .drew ?_ | refine .trans ?_ (by assumption))) ?_; clear hK K; (have hN := Bk.new wa7 23 #[.int .i64 0, .int .i64  0]); refine okList_step (fun wm7_0 hwm7_0 K hK => ?_); replace hN := hN.grw hwm7_0; go_simp; refine hK _ _ (by (repeat with_reducible first | exact .refl _ | assumption | refine .setAt ?_ (by first | omega | simp <;> omega) _ | refine .alloc ?_ _ | refine .drewN ?_ _ | refine .drew ?_ | refine .trans ?_ (by assumption))) ?_; clear hK K; refine okList_step (fun wb7 hwb7 K hK => ?_); replace hN := hN.grw hwb7; (have nn0 := (hN).cell 0; simp only [gL] at nn0); (have nn1 := (hN).cell 1; simp only [gL] at nn1); have nnf := (hN).frozen; have nnl := (hN).lt; go_simp; refine hK _ _ (by (repeat with_reducible first | exact .refl _ | assumption | refine .setAt ?_ (by first | omega | simp <;> omega) _ | refine .alloc ?_ _ | refine .drewN ?_ _ | refine .drew ?_ | refine .trans ?_ (by assumption))) ?_; clear hK K; refine okList_nil (fun w7 hw7 => ?_); go_simp; (have hN7 : Bk w7 wa7.heap.size 23 #[.int .i64 (normX d.1 d.2), .int .i64 (normY d.1 d.2)] := (((hN).set 0 (.int .i64 (normX d.1 d.2))).set 1 (.int .i64 (normY d.1 d.2))).grw hw7); (have hG7 : Grw w5 w7 := by (repeat with_reducible first | exact .refl _ | assumption | refine .setAt ?_ (by first | omega | simp <;> omega) _ | refine .alloc ?_ _ | refine .drewN ?_ _ | refine .drew ?_ | refine .trans ?_ (by assumption))); clear hN nn0 nn1 nnf; clear hw7 hwb7 hwm7_0 hwa7 nnl
 obtain ⟨b0, b1, b2, b3, b4⟩ := HB5.out
 have hl5 : w4.heap.size < w5.heap.size := g5_4l
 go_upto_region 4 with (fail); refine wp_gen (fun x => Grw w5 x ∧ Bk x (w.heap.size) 23 #[.int .i64 (cx), .int .i64 (cy)] ∧ Bk x (w.heap.size + 1) 23 #[.int .i64 (sat fx), .int .i64 (sat fy)] ∧ Bk x (w.heap.size + 1 + 1) 23 #[.int .i64 (sat tx), .int .i64 (sat ty)] ∧ Bk x (w.heap.size + 1 + 1 + 1) 23 #[.int .i64 (0), .int .i64 (0)] ∧ Bk x (wa7.heap.size) 23 #[.int .i64 (normX d.1 d.2), .int .i64 (normY d.1 d.2)]) ⟨by (repeat with_reducible first | exact .refl _ | assumption | refine .setAt ?_ (by first | omega | simp <;> omega) _ | refine .alloc ?_ _ | refine .drewN ?_ _ | refine .drew ?_ | refine .trans ?_ (by assumption)), by (repeat' first | (with_reducible first | assumption | apply Bk.set' | apply Bk.far | exact Bk.new' (by simp) | refine Bk.alloc ?_ _) | refine Bk.grw ?_ (by with_reducible assumption) | omega | rfl), by (repeat' first | (with_reducible first | assumption | apply Bk.set' | apply Bk.far | exact Bk.new' (by simp) | refine Bk.alloc ?_ _) | refine Bk.grw ?_ (by with_reducible assumption) | omega | rfl), by (repeat' first | (with_reducible first | assumption | apply Bk.set' | apply Bk.far | exact Bk.new' (by simp) | refine Bk.alloc ?_ _) | refine Bk.grw ?_ (by with_reducible assumption) | omega | rfl), by (repeat' first | (with_reducible first | assumption | apply Bk.set' | apply Bk.far | exact Bk.new' (by simp) | refine Bk.alloc ?_ _) | refine Bk.grw ?_ (by with_reducible assumption) | omega | rfl), by (repeat' first | (with_reducible first | assumption | apply Bk.set' | apply Bk.far | exact Bk.new' (by simp) | refine Bk.alloc ?_ _) | refine Bk.grw ?_ (by with_reducible assumption) | omega | rfl)⟩ ?_; rintro w8 ⟨hG8, hB8_0, hB8_1, hB8_2, hB8_3, hB8_4⟩; (have g8_00 := (hB8_0).cell 0; simp only [gL] at g8_00); (have g8_01 := (hB8_0).cell 1; simp only [gL] at g8_01); have g8_0f := (hB8_0).frozen; have g8_0l := (hB8_0).lt; (have g8_10 := (hB8_1).cell 0; simp only [gL] at g8_10); (have g8_11 := (hB8_1).cell 1; simp only [gL] at g8_11); have g8_1f := (hB8_1).frozen; have g8_1l := (hB8_1).lt; (have g8_20 := (hB8_2).cell 0; simp only [gL] at g8_20); (have g8_21 := (hB8_2).cell 1; simp only [gL] at g8_21); have g8_2f := (hB8_2).frozen; have g8_2l := (hB8_2).lt; (have g8_30 := (hB8_3).cell 0; simp only [gL] at g8_30); (have g8_31 := (hB8_3).cell 1; simp only [gL] at g8_31); have g8_3f := (hB8_3).frozen; have g8_3l := (hB8_3).lt; (have g8_40 := (hB8_4).cell 0; simp only [gL] at g8_40); (have g8_41 := (hB8_4).cell 1; simp only [gL] at g8_41); have g8_4f := (hB8_4).frozen; have g8_4l := (hB8_4).lt; have HB8 := Lib.hid (show _ ∧ _ ∧ _ ∧ _ ∧ _ from ⟨hB8_0, hB8_1, hB8_2, hB8_3, hB8_4⟩); clear hB8_0 hB8_1 hB8_2 hB8_3 hB8_4
 clear b0 b1 b2 b3 b4 HB5 hN7 hG7 hg6 g5_00 g5_01 g5_0f g5_0l g5_10 g5_11 g5_1f g5_1l g5_20 g5_21 g5_2f g5_2l g5_30 g5_31 g5_3f g5_3l g5_40 g5_41 g5_4f g5_4l hl5
 have hw8 : Grw w w8 := (hG3.trans hG5).trans hG8
 clear hG3 hG5 hG8
 obtain ⟨L, hL⟩ : ∃ L, L = ccL (fx, fy) (tx, ty) := ⟨_, rfl⟩
 have l1 : lenI d.1 d.2 = L := by rw [hL, HD.out]; rfl
 obtain ⟨u, hu⟩ : ∃ u : P2, u = normP d := ⟨_, rfl⟩
 have u1 : normX d.1 d.2 = u.1 := by rw [hu]; rfl
 have u2 : normY d.1 d.2 = u.2 := by rw [hu]; rfl
 simp only [l1, u1, u2] at g8_40 g8_41 HB8 ⊢
 have HL := Lib.hid hL
 have HU := Lib.hid hu
 clear l1 u1 u2 hL hu
 go_wp2_with fail
 (go_at_call 36; refine (vsub_any _ _ _ _ _).mono ?_; rintro e w9 ⟨rfl, hg9⟩)
 obtain ⟨m, hm⟩ : ∃ m : P2, m = ccM (cx, cy) (fx, fy) := ⟨_, rfl⟩
 have m1 : subI cx (sat fx) = m.1 := by rw [hm]; rfl
 have m2 : subI cy (sat fy) = m.2 := by rw [hm]; rfl
 simp only [m1, m2]
 have HM := Lib.hid hm
 clear m1 m2 hm
 obtain ⟨b0, b1, b2, b3, b4⟩ := HB8.out
 go_upto_region 5 with (fail); refine wp_gen (fun x => Grw w8 x ∧ Bk x (w.heap.size) 23 #[.int .i64 (cx), .int .i64 (cy)] ∧ Bk x (w.heap.size + 1) 23 #[.int .i64 (sat fx), .int .i64 (sat fy)] ∧ Bk x (w.heap.size + 1 + 1) 23 #[.int .i64 (sat tx), .int .i64 (sat ty)] ∧ Bk x (w.heap.size + 1 + 1 + 1) 23 #[.int .i64 (0), .int .i64 (0)] ∧ Bk x (wa7.heap.size) 23 #[.int .i64 (u.1), .int .i64 (u.2)] ∧ Bk x (w9.heap.size) 23 #[.int .i64 (m.1), .int .i64 (m.2)]) ⟨by (repeat with_reducible first | exact .refl _ | assumption | refine .setAt ?_ (by first | omega | simp <;> omega) _ | refine .alloc ?_ _ | refine .drewN ?_ _ | refine .drew ?_ | refine .trans ?_ (by assumption)), by (repeat' first | (with_reducible first | assumption | apply Bk.set' | apply Bk.far | exact Bk.new' (by simp) | refine Bk.alloc ?_ _) | refine Bk.grw ?_ (by with_reducible assumption) | omega | rfl), by (repeat' first | (with_reducible first | assumption | apply Bk.set' | apply Bk.far | exact Bk.new' (by simp) | refine Bk.alloc ?_ _) | refine Bk.grw ?_ (by with_reducible assumption) | omega | rfl), by (repeat' first | (with_reducible first | assumption | apply Bk.set' | apply Bk.far | exact Bk.new' (by simp) | refine Bk.alloc ?_ _) | refine Bk.grw ?_ (by with_reducible assumption) | omega | rfl), by (repeat' first | (with_reducible first | assumption | apply Bk.set' | apply Bk.far | exact Bk.new' (by simp) | refine Bk.alloc ?_ _) | refine Bk.grw ?_ (by with_reducible assumption) | omega | rfl), by (repeat' first | (with_reducible first | assumption | apply Bk.set' | apply Bk.far | exact Bk.new' (by simp) | refine Bk.alloc ?_ _) | refine Bk.grw ?_ (by with_reducible assumption) | omega | rfl), by (repeat' first | (with_reducible first | assumption | apply Bk.set' | apply Bk.far | exact Bk.new' (by simp) | refine Bk.alloc ?_ _) | refine Bk.grw ?_ (by with_reducible assumption) | omega | rfl)⟩ ?_; rintro w10 ⟨hG10, hB10_0, hB10_1, hB10_2, hB10_3, hB10_4, hB10_5⟩; (have g10_00 := (hB10_0).cell 0; simp only [gL] at g10_00); (have g10_01 := (hB10_0).cell 1; simp only [gL] at g10_01); have g10_0f := (hB10_0).frozen; have g10_0l := (hB10_0).lt; (have g10_10 := (hB10_1).cell 0; simp only [gL] at g10_10); (have g10_11 := (hB10_1).cell 1; simp only [gL] at g10_11); have g10_1f := (hB10_1).frozen; have g10_1l := (hB10_1).lt; (have g10_20 := (hB10_2).cell 0; simp only [gL] at g10_20); (have g10_21 := (hB10_2).cell 1; simp only [gL] at g10_21); have g10_2f := (hB10_2).frozen; have g10_2l := (hB10_2).lt; (have g10_30 := (hB10_3).cell 0; simp only [gL] at g10_30); (have g10_31 := (hB10_3).cell 1; simp only [gL] at g10_31); have g10_3f := (hB10_3).frozen; have g10_3l := (hB10_3).lt; (have g10_40 := (hB10_4).cell 0; simp only [gL] at g10_40); (have g10_41 := (hB10_4).cell 1; simp only [gL] at g10_41); have g10_4f := (hB10_4).frozen; have g10_4l := (hB10_4).lt; (have g10_50 := (hB10_5).cell 0; simp only [gL] at g10_50); (have g10_51 := (hB10_5).cell 1; simp only [gL] at g10_51); have g10_5f := (hB10_5).frozen; have g10_5l := (hB10_5).lt; have HB10 := Lib.hid (show _ ∧ _ ∧ _ ∧ _ ∧ _ ∧ _ from ⟨hB10_0, hB10_1, hB10_2, hB10_3, hB10_4, hB10_5⟩); clear hB10_0 hB10_1 hB10_2 hB10_3 hB10_4 hB10_5
 clear b0 b1 b2 b3 b4 HB8 hg9 g8_00 g8_01 g8_0f g8_0l g8_10 g8_11 g8_1f g8_1l g8_20 g8_21 g8_2f g8_2l g8_30 g8_31 g8_3f g8_3l g8_40 g8_41 g8_4f g8_4l
 go_wp2_with fail
 (go_at_call 69; refine (cross_any _ _ _ _ _).mono ?_; rintro e w11 ⟨rfl, hg11⟩)
 obtain ⟨H, hH⟩ : ∃ H, H = ccH (cx, cy) (fx, fy) (tx, ty) := ⟨_, rfl⟩
 have h1 : crossI u.1 u.2 m.1 m.2 = H := by rw [hH, HU.out, HM.out, HD.out]; rfl
 simp only [h1]
 have HH := Lib.hid hH
 clear h1 hH
 have hHb : -536870911 ≤ H ∧ H ≤ 536870911 := by rw [HH.out]; exact sat_bd _
 have hLb : 0 ≤ L ∧ L < 4294967296 := by rw [HL.out]; exact isqI_bd _
 obtain ⟨hH1, hH2⟩ := hHb
 obtain ⟨hL1, hL2⟩ := hLb
 obtain ⟨b0, b1, b2, b3, b4, b5⟩ := HB10.out
 go_upto_region 6 with (fail); refine wp_gen (fun x => Grw w8 x ∧ Bk x (w.heap.size) 23 #[.int .i64 (cx), .int .i64 (cy)] ∧ Bk x (w.heap.size + 1) 23 #[.int .i64 (sat fx), .int .i64 (sat fy)] ∧ Bk x (w.heap.size + 1 + 1) 23 #[.int .i64 (sat tx), .int .i64 (sat ty)] ∧ Bk x (w.heap.size + 1 + 1 + 1) 23 #[.int .i64 (0), .int .i64 (0)] ∧ Bk x (wa7.heap.size) 23 #[.int .i64 (u.1), .int .i64 (u.2)] ∧ Bk x (w9.heap.size) 23 #[.int .i64 (m.1), .int .i64 (m.2)]) ⟨by (repeat with_reducible first | exact .refl _ | assumption | refine .setAt ?_ (by first | omega | simp <;> omega) _ | refine .alloc ?_ _ | refine .drewN ?_ _ | refine .drew ?_ | refine .trans ?_ (by assumption)), by (repeat' first | (with_reducible first | assumption | apply Bk.set' | apply Bk.far | exact Bk.new' (by simp) | refine Bk.alloc ?_ _) | refine Bk.grw ?_ (by with_reducible assumption) | omega | rfl), by (repeat' first | (with_reducible first | assumption | apply Bk.set' | apply Bk.far | exact Bk.new' (by simp) | refine Bk.alloc ?_ _) | refine Bk.grw ?_ (by with_reducible assumption) | omega | rfl), by (repeat' first | (with_reducible first | assumption | apply Bk.set' | apply Bk.far | exact Bk.new' (by simp) | refine Bk.alloc ?_ _) | refine Bk.grw ?_ (by with_reducible assumption) | omega | rfl), by (repeat' first | (with_reducible first | assumption | apply Bk.set' | apply Bk.far | exact Bk.new' (by simp) | refine Bk.alloc ?_ _) | refine Bk.grw ?_ (by with_reducible assumption) | omega | rfl), by (repeat' first | (with_reducible first | assumption | apply Bk.set' | apply Bk.far | exact Bk.new' (by simp) | refine Bk.alloc ?_ _) | refine Bk.grw ?_ (by with_reducible assumption) | omega | rfl), by (repeat' first | (with_reducible first | assumption | apply Bk.set' | apply Bk.far | exact Bk.new' (by simp) | refine Bk.alloc ?_ _) | refine Bk.grw ?_ (by with_reducible assumption) | omega | rfl)⟩ ?_; rintro w12 ⟨hG12, hB12_0, hB12_1, hB12_2, hB12_3, hB12_4, hB12_5⟩; (have g12_00 := (hB12_0).cell 0; simp only [gL] at g12_00); (have g12_01 := (hB12_0).cell 1; simp only [gL] at g12_01); have g12_0f := (hB12_0).frozen; have g12_0l := (hB12_0).lt; (have g12_10 := (hB12_1).cell 0; simp only [gL] at g12_10); (have g12_11 := (hB12_1).cell 1; simp only [gL] at g12_11); have g12_1f := (hB12_1).frozen; have g12_1l := (hB12_1).lt; (have g12_20 := (hB12_2).cell 0; simp only [gL] at g12_20); (have g12_21 := (hB12_2).cell 1; simp only [gL] at g12_21); have g12_2f := (hB12_2).frozen; have g12_2l := (hB12_2).lt; (have g12_30 := (hB12_3).cell 0; simp only [gL] at g12_30); (have g12_31 := (hB12_3).cell 1; simp only [gL] at g12_31); have g12_3f := (hB12_3).frozen; have g12_3l := (hB12_3).lt; (have g12_40 := (hB12_4).cell 0; simp only [gL] at g12_40); (have g12_41 := (hB12_4).cell 1; simp only [gL] at g12_41); have g12_4f := (hB12_4).frozen; have g12_4l := (hB12_4).lt; (have g12_50 := (hB12_5).cell 0; simp only [gL] at g12_50); (have g12_51 := (hB12_5).cell 1; simp only [gL] at g12_51); have g12_5f := (hB12_5).frozen; have g12_5l := (hB12_5).lt; have HB12 := Lib.hid (show _ ∧ _ ∧ _ ∧ _ ∧ _ ∧ _ from ⟨hB12_0, hB12_1, hB12_2, hB12_3, hB12_4, hB12_5⟩); clear hB12_0 hB12_1 hB12_2 hB12_3 hB12_4 hB12_5
 have hw12 := hw8.trans hG12
 clear b0 b1 b2 b3 b4 b5 HB10 hg11 hG10 hw8 hG12 g10_00 g10_01 g10_0f g10_0l g10_10 g10_11 g10_1f g10_1l g10_20 g10_21 g10_2f g10_2l g10_30 g10_31 g10_3f g10_3l g10_40 g10_41 g10_4f g10_4l g10_50 g10_51 g10_5f g10_5l
 have hF0 : ccF (cx, cy) r (fx, fy) (tx, ty) = if L = 0 ∨ r < 0 ∨ 536870911 < r ∨ r < max H (-H) then .no else if ccE (cx, cy) r (fx, fy) (tx, ty) < 0 ∨ L < ccE (cx, cy) r (fx, fy) (tx, ty) then .no else ⟨ratioI (ccE (cx, cy) r (fx, fy) (tx, ty)) L, ccN (cx, cy) r (fx, fy) (tx, ty), true⟩ := by unfold ccF; rw [← HL.out, ← HH.out]
 obtain ⟨A, hA⟩ : ∃ A, A = max H (-H) := ⟨_, rfl⟩
 rw [← hA] at hF0
 have hmx : (if H < -H then -H else H) = A := by rw [hA]; split <;> omega
 have hA0 : 0 ≤ A ∧ H ≤ A ∧ -H ≤ A := by omega
 obtain ⟨hA1, hA2, hA3⟩ := hA0
 clear hA
 by_cases e1 : L = 0
 · have HF := Lib.hid (hF0.trans (if_pos (.inl e1)))
   have hb1 : (L == 0) = true := by simp [e1]
   clear hF0 e1
   go_wp2_with fail
   all_goals first
     | (exfalso; omega)
     | (refine bodyPost_ret (v := Hit.no.v) (by simp [results, Tryz.results31, go_sem, Hit.no, Hit.v, g12_30, g12_31]) rfl ⟨by rw [HF.out], ?_⟩; (repeat with_reducible first | exact .refl _ | assumption | refine .setAt ?_ (by first | omega | simp <;> omega) _ | refine .alloc ?_ _ | refine .drewN ?_ _ | refine .drew ?_ | refine .trans ?_ (by assumption)))
 have hb1 : (L == 0) = false := by simp [e1]
 by_cases e2 : r < 0
 · have HF := Lib.hid (hF0.trans (if_pos (.inr (.inl e2))))
   clear hF0 e1
   go_wp2_with fail
   all_goals first
     | (exfalso; omega)
     | (refine bodyPost_ret (v := Hit.no.v) (by simp [results, Tryz.results31, go_sem, Hit.no, Hit.v, g12_30, g12_31]) rfl ⟨by rw [HF.out], ?_⟩; (repeat with_reducible first | exact .refl _ | assumption | refine .setAt ?_ (by first | omega | simp <;> omega) _ | refine .alloc ?_ _ | refine .drewN ?_ _ | refine .drew ?_ | refine .trans ?_ (by assumption)))
 by_cases e3 : 536870911 < r
 · have HF := Lib.hid (hF0.trans (if_pos (.inr (.inr (.inl e3)))))
   clear hF0 e1
   go_wp2_with fail
   all_goals first
     | (exfalso; omega)
     | (refine bodyPost_ret (v := Hit.no.v) (by simp [results, Tryz.results31, go_sem, Hit.no, Hit.v, g12_30, g12_31]) rfl ⟨by rw [HF.out], ?_⟩; (repeat with_reducible first | exact .refl _ | assumption | refine .setAt ?_ (by first | omega | simp <;> omega) _ | refine .alloc ?_ _ | refine .drewN ?_ _ | refine .drew ?_ | refine .trans ?_ (by assumption)))
 by_cases e4 : r < A
 · have HF := Lib.hid (hF0.trans (if_pos (.inr (.inr (.inr e4)))))
   clear hF0 e1
   go_wp2_with fail
   all_goals first
     | (exfalso; omega)
     | (refine bodyPost_ret (v := Hit.no.v) (by simp [results, Tryz.results31, go_sem, Hit.no, Hit.v, g12_30, g12_31]) rfl ⟨by rw [HF.out], ?_⟩; (repeat with_reducible first | exact .refl _ | assumption | refine .setAt ?_ (by first | omega | simp <;> omega) _ | refine .alloc ?_ _ | refine .drewN ?_ _ | refine .drew ?_ | refine .trans ?_ (by assumption)))
 have hF1 := hF0.trans (if_neg (by omega))
 have e2' : 0 ≤ r := by omega
 have e3' : r ≤ 536870911 := by omega
 have e4' : A ≤ r := by omega
 clear e2 e3 e4 hF0 e1
 have hq1 := mul_bd (a := r) (b := r) (m := 536870911) (n := 536870911) (by omega) (by omega) (by omega) (by omega)
 have hq2 := mul_bd (a := H) (b := H) (m := 536870911) (n := 536870911) hH1 hH2 hH1 hH2
 obtain ⟨q1, q2⟩ := hq1
 obtain ⟨q3, q4⟩ := hq2
 obtain ⟨E, hE⟩ : ∃ E, E = ccE (cx, cy) r (fx, fy) (tx, ty) := ⟨_, rfl⟩
 have e5 : subI (dotI m.1 m.2 u.1 u.2) (isqI (r * r - H * H)) = E := by rw [hE, HH.out, HU.out, HM.out, HD.out]; rfl
 rw [← hE] at hF1
 have HF1 := Lib.hid hF1
 have HE5 := Lib.hid e5
 have HE := Lib.hid hE
 clear hF1 e5 hE
 go_wp2_with fail
 (go_at_call 71; refine (dot_any _ _ _ _ _).mono ?_; rintro e w13 ⟨rfl, hg13⟩)
 obtain ⟨b0, b1, b2, b3, b4, b5⟩ := HB12.out
 have b0' := b0.grw hg13
 have b1' := b1.grw hg13
 have b2' := b2.grw hg13
 have b3' := b3.grw hg13
 have hw13 := hw12.trans hg13
 (have c0 := (b0').cell 0; simp only [gL] at c0); (have c1 := (b0').cell 1; simp only [gL] at c1); have cf := (b0').frozen; have cl := (b0').lt
 (have f0 := (b1').cell 0; simp only [gL] at f0); (have f1 := (b1').cell 1; simp only [gL] at f1); have ff := (b1').frozen; have fl := (b1').lt
 (have t0 := (b2').cell 0; simp only [gL] at t0); (have t1 := (b2').cell 1; simp only [gL] at t1); have tf := (b2').frozen; have tl := (b2').lt
 (have r0 := (b3').cell 0; simp only [gL] at r0); (have r1 := (b3').cell 1; simp only [gL] at r1); have rf := (b3').frozen; have rl := (b3').lt
 have HB13 := Lib.hid (show _ ∧ _ ∧ _ ∧ _ from ⟨b0', b1', b2', b3'⟩)
 clear b0 b1 b2 b3 b4 b5 b0' b1' b2' b3' HB12 hg13 hw12 g12_00 g12_01 g12_0f g12_0l g12_10 g12_11 g12_1f g12_1l g12_20 g12_21 g12_2f g12_2l g12_30 g12_31 g12_3f g12_3l g12_40 g12_41 g12_4f g12_4l g12_50 g12_51 g12_5f g12_5l
 by_cases e6 : E < 0
 · have HF := Lib.hid (HF1.out.trans (if_pos (.inl e6)))
   go_wp2_with (first | (go_at_call 72; refine (isqrt_any _ _).mono ?_; rintro e w1 ⟨rfl, rfl⟩) | (go_at_call 70; refine (sub_any _ _ _).mono ?_; rintro e w1 ⟨rfl, rfl⟩; simp only [HE5.out]))
   refine bodyPost_ret (v := Hit.no.v) (by simp [results, Tryz.results31, go_sem, Hit.no, Hit.v, r0, r1]) rfl ⟨by rw [HF.out], ?_⟩
   (repeat with_reducible first | exact .refl _ | assumption | refine .setAt ?_ (by first | omega | simp <;> omega) _ | refine .alloc ?_ _ | refine .drewN ?_ _ | refine .drew ?_ | refine .trans ?_ (by assumption))
 by_cases e7 : L < E
 · have HF := Lib.hid (HF1.out.trans (if_pos (.inr e7)))
   go_wp2_with (first | (go_at_call 72; refine (isqrt_any _ _).mono ?_; rintro e w1 ⟨rfl, rfl⟩) | (go_at_call 70; refine (sub_any _ _ _).mono ?_; rintro e w1 ⟨rfl, rfl⟩; simp only [HE5.out]))
   refine bodyPost_ret (v := Hit.no.v) (by simp [results, Tryz.results31, go_sem, Hit.no, Hit.v, r0, r1]) rfl ⟨by rw [HF.out], ?_⟩
   (repeat with_reducible first | exact .refl _ | assumption | refine .setAt ?_ (by first | omega | simp <;> omega) _ | refine .alloc ?_ _ | refine .drewN ?_ _ | refine .drew ?_ | refine .trans ?_ (by assumption))
 have HF := Lib.hid (HF1.out.trans (if_neg (by omega)))
 have e6' : 0 ≤ E := by omega
 have e7' : E ≤ L := by omega
 clear e6 e7
 go_upto_region 12 with (first | (go_at_call 72; refine (isqrt_any _ _).mono ?_; rintro e w1 ⟨rfl, rfl⟩) | (go_at_call 70; refine (sub_any _ _ _).mono ?_; rintro e w1 ⟨rfl, rfl⟩; simp only [HE5.out]) | (go_at_call 73; refine (ratio_any _ _ _).mono ?_; rintro e w14 ⟨rfl, hg14⟩))
 obtain ⟨b0, b1, b2, b3⟩ := HB13.out
 have b0' := b0.grw hg14
 have b1' := b1.grw hg14
 have b2' := b2.grw hg14
 have b3' := b3.grw hg14
 have hw14 := hw13.trans hg14
 clear b0 b1 b2 b3 HB13 c0 c1 cf cl f0 f1 ff fl t0 t1 tf tl r0 r1 rf rl hw13 hg14
 (have c0 := (b0').cell 0; simp only [gL] at c0); (have c1 := (b0').cell 1; simp only [gL] at c1); have cf := (b0').frozen; have cl := (b0').lt
 (have f0 := (b1').cell 0; simp only [gL] at f0); (have f1 := (b1').cell 1; simp only [gL] at f1); have ff := (b1').frozen; have fl := (b1').lt
 (have t0 := (b2').cell 0; simp only [gL] at t0); (have t1 := (b2').cell 1; simp only [gL] at t1); have tf := (b2').frozen; have tl := (b2').lt
 have HB14 := Lib.hid b3'
 clear b0' b1' b2' b3'
 (refine wp_region_flowA 8 (by kernel_rfl) (by kernel_rfl) ?_; simp only [tD]; (repeat (refine wpQ_step (fun K hK => ?_); go_simp; first | (refine hK _ ?_; clear hK K) | (apply Exists.intro; refine ⟨fun _ => ?_, hK _ ?_⟩; (first | (go_at_call 14; exact (vlerp_any _ _ _ _ _ _)) | (go_at_call 36; exact (vsub_any _ _ _ _ _)) | (go_at_call 68; exact (normalize_any _ _ _))); clear hK K))); refine wpQ_nil ?_)
 intro w15 hg15
 have b3 := HB14.out.grw hg15
 (have r0 := (b3).cell 0; simp only [gL] at r0); (have r1 := (b3).cell 1; simp only [gL] at r1); have rf := (b3).frozen; have rl := (b3).lt
 clear b3
 go_wp2_with fail
 refine bodyPost_ret (v := (⟨ratioI E L, ccN (cx, cy) r (fx, fy) (tx, ty), true⟩ : Hit).v) (by simp [results, Tryz.results31, go_sem, r0, r1, rf, rl, Hit.v, ccN, normP, vsubP, lerpP, satP, HE.out, HL.out]) rfl ⟨by rw [HF.out], ?_⟩
 (repeat with_reducible first | exact .refl _ | assumption | refine .setAt ?_ (by first | omega | simp <;> omega) _ | refine .alloc ?_ _ | refine .drewN ?_ _ | refine .drew ?_ | refine .trans ?_ (by assumption))
end
end Go.Proofs.YtokkghhmliplfaaGreat
