/- The row TopEveryRay of the program holds; part 2 of the proof. No condition. -/
import Derived.Test.YtokkghhmliplfaaGreatK0
import Derived.Maps.AppendAt
set_option maxRecDepth 100000
set_option maxHeartbeats 12800000
set_option linter.all false
namespace Go.Proofs.YtokkghhmliplfaaGreat
section
open Go.RowKit Go.Sort
attribute [local go_sem] qAt qUpon cell_in_grow frozen_in_grow
def lineD (cx cy dx dy px py : Int) : Int := max ((dx - cx) * (py - cy) - (dy - cy) * (px - cx)) (-((dx - cx) * (py - cy) - (dy - cy) * (px - cx)))
theorem prod4_bd {a b c d e f g h : Int} (ha : -536870911 ≤ a ∧ a ≤ 536870911) (hb : -536870911 ≤ b ∧ b ≤ 536870911) (hc : -536870911 ≤ c ∧ c ≤ 536870911) (hd : -536870911 ≤ d ∧ d ≤ 536870911)
   (he : -536870911 ≤ e ∧ e ≤ 536870911) (hf : -536870911 ≤ f ∧ f ≤ 536870911) (hg : -536870911 ≤ g ∧ g ≤ 536870911) (hh : -536870911 ≤ h ∧ h ≤ 536870911) :
   -1152921500311879684 ≤ (a - b) * (c - d) ∧ (a - b) * (c - d) ≤ 1152921500311879684 ∧ -1152921500311879684 ≤ (e - f) * (g - h) ∧ (e - f) * (g - h) ≤ 1152921500311879684 := by
 have k1 := mul_bd (a := a - b) (b := c - d) (m := 1073741822) (n := 1073741822) (by omega) (by omega) (by omega) (by omega)
 have k2 := mul_bd (a := e - f) (b := g - h) (m := 1073741822) (n := 1073741822) (by omega) (by omega) (by omega) (by omega)
 omega
theorem sat_bd (a : Int) : -536870911 ≤ sat a ∧ sat a ≤ 536870911 := ⟨sat_lo a, sat_hi a⟩
theorem lineD_any (cx cy dx dy px py : Int) (w : World) (h1 : -536870911 ≤ cx ∧ cx ≤ 536870911) (h2 : -536870911 ≤ cy ∧ cy ≤ 536870911) (h3 : -536870911 ≤ dx ∧ dx ≤ 536870911) (h4 : -536870911 ≤ dy ∧ dy ≤ 536870911) (h5 : -536870911 ≤ px ∧ px ≤ 536870911) (h6 : -536870911 ≤ py ∧ py ≤ 536870911) :
   Calls Tryz.prog 153 #[.agg #[.int .i64 (cx), .int .i64 (cy)], .agg #[.int .i64 (dx), .int .i64 (dy)], .agg #[.int .i64 (px), .int .i64 (py)]] w fun e w' => e = .returned (.int .i64 (lineD cx cy dx dy px py)) ∧ Grw w w' := by
 obtain ⟨k1, k2, k3, k4⟩ := prod4_bd h3 h1 h6 h2 h4 h2 h5 h1
 obtain ⟨a1, a2⟩ := h1; obtain ⟨a3, a4⟩ := h2; obtain ⟨a5, a6⟩ := h3; obtain ⟨a7, a8⟩ := h4; obtain ⟨a9, a10⟩ := h5; obtain ⟨a11, a12⟩ := h6
 go_enter Tryz.func153, Tryz.ntmps153
 go_wp2_with fail
 all_goals
   go_ret
   exact ⟨ret_int (by unfold lineD; omega), by (repeat with_reducible first | exact .refl _ | assumption | refine .setAt ?_ (by first | omega | simp <;> omega) _ | refine .alloc ?_ _ | refine .drewN ?_ _ | refine .drew ?_ | refine .trans ?_ (by assumption))⟩
def cpT (ax ay bx by' px py : Int) : Int := ratioI ((sat px - sat ax) * (sat bx - sat ax) + (sat py - sat ay) * (sat by' - sat ay)) (dsqI (sat ax) (sat ay) (sat bx) (sat by'))
def cpX (ax ay bx by' px py : Int) : Int := if cpT ax ay bx by' px py = 0 then sat ax else if cpT ax ay bx by' px py = 65536 then sat bx else lerpI (sat ax) (sat bx) (cpT ax ay bx by' px py)
def cpY (ax ay bx by' px py : Int) : Int := if cpT ax ay bx by' px py = 0 then sat ay else if cpT ax ay bx by' px py = 65536 then sat by' else lerpI (sat ay) (sat by') (cpT ax ay bx by' px py)
theorem cp_ratio (ax ay bx by' px py : Int) (w : World) :
   Calls Tryz.prog 73 #[.int .i64 ((sat px - sat ax) * (sat bx - sat ax) + (sat py - sat ay) * (sat by' - sat ay)), .int .i64 (dsqI (sat ax) (sat ay) (sat bx) (sat by'))] w fun e w' => e = .returned (.int .i64 (cpT ax ay bx by' px py)) ∧ Grw w w' := ratio_any _ _ w
theorem closestPoint_any (ax ay bx by' px py : Int) (w : World) :
   Calls Tryz.prog 154 #[.agg #[.int .i64 (ax), .int .i64 (ay)], .agg #[.int .i64 (bx), .int .i64 (by')], .agg #[.int .i64 (px), .int .i64 (py)]] w fun e w' => e = .returned (.tuple #[.agg #[.int .i64 (cpX ax ay bx by' px py), .int .i64 (cpY ax ay bx by' px py)], .int .i64 (cpT ax ay bx by' px py)]) ∧ Grw w w' := by
 obtain ⟨k1, k2, k3, k4⟩ := prod4_bd (sat_bd px) (sat_bd ax) (sat_bd bx) (sat_bd ax) (sat_bd py) (sat_bd ay) (sat_bd by') (sat_bd ay)
 obtain ⟨a1, a2⟩ := sat_bd ax; obtain ⟨a3, a4⟩ := sat_bd ay; obtain ⟨a5, a6⟩ := sat_bd bx; obtain ⟨a7, a8⟩ := sat_bd by'; obtain ⟨a9, a10⟩ := sat_bd px; obtain ⟨a11, a12⟩ := sat_bd py
 by_cases h0 : cpT ax ay bx by' px py = 0
 · have hx : cpX ax ay bx by' px py = sat ax := if_pos h0
   have hy : cpY ax ay bx by' px py = sat ay := if_pos h0
   rw [hx, hy]
   have hb : (cpT ax ay bx by' px py == 0) = true := by simp [h0]
   clear h0 hx hy
   go_enter Tryz.func154, Tryz.ntmps154
   go_wp2_with fail
   (refine wp_region_flowA 6 (by kernel_rfl) (by kernel_rfl) ?_; simp only [tD]; (repeat (refine wpQ_step (fun K hK => ?_); go_simp; first | (refine hK _ ?_; clear hK K) | (apply Exists.intro; refine ⟨fun _ => ?_, hK _ ?_⟩; (first | (go_at_call 152; exact (ssat_any _ _ _))); clear hK K))); refine wpQ_nil ?_)
   intro w2 hg2
   obtain ⟨hc2, hf2⟩ := hg2.cells; have hz2 := hg2.size; (have hl2_0 : w.heap.size < w2.heap.size := by (try simp at hz2); omega); (have c2_0_0 := hc2 (w.heap.size) 0 (by first | omega | simp <;> omega); simp [go_sem] at c2_0_0); (have c2_0_1 := hc2 (w.heap.size) 1 (by first | omega | simp <;> omega); simp [go_sem] at c2_0_1); (have f2_0 := fun o => hf2 (w.heap.size) o (by first | omega | simp <;> omega); simp [go_sem] at f2_0); (have hl2_1 : w.heap.size + 1 < w2.heap.size := by (try simp at hz2); omega); (have c2_1_0 := hc2 (w.heap.size + 1) 0 (by first | omega | simp <;> omega); simp [go_sem] at c2_1_0); (have c2_1_1 := hc2 (w.heap.size + 1) 1 (by first | omega | simp <;> omega); simp [go_sem] at c2_1_1); (have f2_1 := fun o => hf2 (w.heap.size + 1) o (by first | omega | simp <;> omega); simp [go_sem] at f2_1); (have hl2_2 : w.heap.size + 2 < w2.heap.size := by (try simp at hz2); omega); (have c2_2_0 := hc2 (w.heap.size + 2) 0 (by first | omega | simp <;> omega); simp [go_sem] at c2_2_0); (have c2_2_1 := hc2 (w.heap.size + 2) 1 (by first | omega | simp <;> omega); simp [go_sem] at c2_2_1); (have f2_2 := fun o => hf2 (w.heap.size + 2) o (by first | omega | simp <;> omega); simp [go_sem] at f2_2); (have hl2_3 : w.heap.size + 3 < w2.heap.size := by (try simp at hz2); omega); (have c2_3_0 := hc2 (w.heap.size + 3) 0 (by first | omega | simp <;> omega); simp [go_sem] at c2_3_0); (have c2_3_1 := hc2 (w.heap.size + 3) 1 (by first | omega | simp <;> omega); simp [go_sem] at c2_3_1); (have f2_3 := fun o => hf2 (w.heap.size + 3) o (by first | omega | simp <;> omega); simp [go_sem] at f2_3); clear hc2 hf2
   go_upto_region 2 with (fail); refine wp_gen (fun x => Grw w x ∧ x.cell? ⟨w.heap.size, 0, none⟩ = some (.int .i64 (sat ax)) ∧ x.cell? ⟨w.heap.size, 1, none⟩ = some (.int .i64 (sat ay)) ∧ (∀ o, x.frozen? ⟨w.heap.size, o, none⟩ = false) ∧ w.heap.size < x.heap.size ∧ x.cell? ⟨w.heap.size + 1, 0, none⟩ = some (.int .i64 (sat bx)) ∧ x.cell? ⟨w.heap.size + 1, 1, none⟩ = some (.int .i64 (sat by')) ∧ (∀ o, x.frozen? ⟨w.heap.size + 1, o, none⟩ = false) ∧ w.heap.size + 1 < x.heap.size ∧ x.cell? ⟨w.heap.size + 2, 0, none⟩ = some (.int .i64 (sat px)) ∧ x.cell? ⟨w.heap.size + 2, 1, none⟩ = some (.int .i64 (sat py)) ∧ (∀ o, x.frozen? ⟨w.heap.size + 2, o, none⟩ = false) ∧ w.heap.size + 2 < x.heap.size ∧ x.cell? ⟨w.heap.size + 3, 0, none⟩ = some (.int .i64 (0)) ∧ x.cell? ⟨w.heap.size + 3, 1, none⟩ = some (.int .i64 (0)) ∧ (∀ o, x.frozen? ⟨w.heap.size + 3, o, none⟩ = false) ∧ w.heap.size + 3 < x.heap.size) ⟨by (repeat with_reducible first | exact .refl _ | assumption | refine .setAt ?_ (by first | omega | simp <;> omega) _ | refine .alloc ?_ _ | refine .drewN ?_ _ | refine .drew ?_ | refine .trans ?_ (by assumption)), by simp [go_sem, c2_0_0, c2_0_1, c2_1_0, c2_1_1, c2_2_0, c2_2_1, c2_3_0, c2_3_1, f2_0, f2_1, f2_2, f2_3], by simp [go_sem, c2_0_0, c2_0_1, c2_1_0, c2_1_1, c2_2_0, c2_2_1, c2_3_0, c2_3_1, f2_0, f2_1, f2_2, f2_3], by intro o; simp [go_sem, c2_0_0, c2_0_1, c2_1_0, c2_1_1, c2_2_0, c2_2_1, c2_3_0, c2_3_1, f2_0, f2_1, f2_2, f2_3], by simp [go_sem]; omega, by simp [go_sem, c2_0_0, c2_0_1, c2_1_0, c2_1_1, c2_2_0, c2_2_1, c2_3_0, c2_3_1, f2_0, f2_1, f2_2, f2_3], by simp [go_sem, c2_0_0, c2_0_1, c2_1_0, c2_1_1, c2_2_0, c2_2_1, c2_3_0, c2_3_1, f2_0, f2_1, f2_2, f2_3], by intro o; simp [go_sem, c2_0_0, c2_0_1, c2_1_0, c2_1_1, c2_2_0, c2_2_1, c2_3_0, c2_3_1, f2_0, f2_1, f2_2, f2_3], by simp [go_sem]; omega, by simp [go_sem, c2_0_0, c2_0_1, c2_1_0, c2_1_1, c2_2_0, c2_2_1, c2_3_0, c2_3_1, f2_0, f2_1, f2_2, f2_3], by simp [go_sem, c2_0_0, c2_0_1, c2_1_0, c2_1_1, c2_2_0, c2_2_1, c2_3_0, c2_3_1, f2_0, f2_1, f2_2, f2_3], by intro o; simp [go_sem, c2_0_0, c2_0_1, c2_1_0, c2_1_1, c2_2_0, c2_2_1, c2_3_0, c2_3_1, f2_0, f2_1, f2_2, f2_3], by simp [go_sem]; omega, by simp [go_sem, c2_0_0, c2_0_1, c2_1_0, c2_1_1, c2_2_0, c2_2_1, c2_3_0, c2_3_1, f2_0, f2_1, f2_2, f2_3], by simp [go_sem, c2_0_0, c2_0_1, c2_1_0, c2_1_1, c2_2_0, c2_2_1, c2_3_0, c2_3_1, f2_0, f2_1, f2_2, f2_3], by intro o; simp [go_sem, c2_0_0, c2_0_1, c2_1_0, c2_1_1, c2_2_0, c2_2_1, c2_3_0, c2_3_1, f2_0, f2_1, f2_2, f2_3], by simp [go_sem]; omega⟩ ?_; rintro w3 ⟨hg3, g3_0_0, g3_0_1, fg3_0, lg3_0, g3_1_0, g3_1_1, fg3_1, lg3_1, g3_2_0, g3_2_1, fg3_2, lg3_2, g3_3_0, g3_3_1, fg3_3, lg3_3⟩
   clear c2_0_0 c2_0_1 c2_1_0 c2_1_1 c2_2_0 c2_2_1 c2_3_0 c2_3_1 f2_0 f2_1 f2_2 f2_3
   (have hwr0 : IntKind.i64.wrap (sat px - sat ax) = sat px - sat ax := IntWalk.i64_in _ (by omega)); (have hwr1 : IntKind.i64.wrap (sat bx - sat ax) = sat bx - sat ax := IntWalk.i64_in _ (by omega)); (have hwr2 : IntKind.i64.wrap (sat py - sat ay) = sat py - sat ay := IntWalk.i64_in _ (by omega)); (have hwr3 : IntKind.i64.wrap (sat by' - sat ay) = sat by' - sat ay := IntWalk.i64_in _ (by omega)); (have hwr4 : IntKind.i64.wrap ((sat px - sat ax) * (sat bx - sat ax)) = (sat px - sat ax) * (sat bx - sat ax) := IntWalk.i64_in _ (by omega)); (have hwr5 : IntKind.i64.wrap ((sat py - sat ay) * (sat by' - sat ay)) = (sat py - sat ay) * (sat by' - sat ay) := IntWalk.i64_in _ (by omega)); (have hwr6 : IntKind.i64.wrap ((sat px - sat ax) * (sat bx - sat ax) + (sat py - sat ay) * (sat by' - sat ay)) = (sat px - sat ax) * (sat bx - sat ax) + (sat py - sat ay) * (sat by' - sat ay) := IntWalk.i64_in _ (by omega))
   (refine wp_region_flow (by kernel_rfl) (by kernel_rfl) ?_; (repeat (refine wpQ_step (fun K hK => ?_); go_simp; first | (refine hK _ ?_; clear hK K) | (apply Exists.intro; refine ⟨fun _ => ?_, hK _ ?_⟩; (first | (go_at_call 81; exact (dsq_any _ _ _ _ _)) | (go_at_call 73; exact (cp_ratio ax ay bx by' px py _))); clear hK K))); refine wpQ_nil ?_)
   intro w4 hg4
   clear hwr0 hwr1 hwr2 hwr3 hwr4 hwr5 hwr6
   obtain ⟨hc4, hf4⟩ := hg4.cells; have hz4 := hg4.size; (have hl4_0 : w.heap.size < w4.heap.size := by (try simp at hz4); omega); (have c4_0_0 := hc4 (w.heap.size) 0 (by first | omega | simp <;> omega); simp [go_sem, g3_0_0, g3_0_1, g3_1_0, g3_1_1, g3_2_0, g3_2_1, g3_3_0, g3_3_1, fg3_0, fg3_1, fg3_2, fg3_3] at c4_0_0); (have c4_0_1 := hc4 (w.heap.size) 1 (by first | omega | simp <;> omega); simp [go_sem, g3_0_0, g3_0_1, g3_1_0, g3_1_1, g3_2_0, g3_2_1, g3_3_0, g3_3_1, fg3_0, fg3_1, fg3_2, fg3_3] at c4_0_1); (have f4_0 := fun o => hf4 (w.heap.size) o (by first | omega | simp <;> omega); simp [go_sem, g3_0_0, g3_0_1, g3_1_0, g3_1_1, g3_2_0, g3_2_1, g3_3_0, g3_3_1, fg3_0, fg3_1, fg3_2, fg3_3] at f4_0); (have hl4_1 : w.heap.size + 1 < w4.heap.size := by (try simp at hz4); omega); (have c4_1_0 := hc4 (w.heap.size + 1) 0 (by first | omega | simp <;> omega); simp [go_sem, g3_0_0, g3_0_1, g3_1_0, g3_1_1, g3_2_0, g3_2_1, g3_3_0, g3_3_1, fg3_0, fg3_1, fg3_2, fg3_3] at c4_1_0); (have c4_1_1 := hc4 (w.heap.size + 1) 1 (by first | omega | simp <;> omega); simp [go_sem, g3_0_0, g3_0_1, g3_1_0, g3_1_1, g3_2_0, g3_2_1, g3_3_0, g3_3_1, fg3_0, fg3_1, fg3_2, fg3_3] at c4_1_1); (have f4_1 := fun o => hf4 (w.heap.size + 1) o (by first | omega | simp <;> omega); simp [go_sem, g3_0_0, g3_0_1, g3_1_0, g3_1_1, g3_2_0, g3_2_1, g3_3_0, g3_3_1, fg3_0, fg3_1, fg3_2, fg3_3] at f4_1); (have hl4_2 : w.heap.size + 2 < w4.heap.size := by (try simp at hz4); omega); (have c4_2_0 := hc4 (w.heap.size + 2) 0 (by first | omega | simp <;> omega); simp [go_sem, g3_0_0, g3_0_1, g3_1_0, g3_1_1, g3_2_0, g3_2_1, g3_3_0, g3_3_1, fg3_0, fg3_1, fg3_2, fg3_3] at c4_2_0); (have c4_2_1 := hc4 (w.heap.size + 2) 1 (by first | omega | simp <;> omega); simp [go_sem, g3_0_0, g3_0_1, g3_1_0, g3_1_1, g3_2_0, g3_2_1, g3_3_0, g3_3_1, fg3_0, fg3_1, fg3_2, fg3_3] at c4_2_1); (have f4_2 := fun o => hf4 (w.heap.size + 2) o (by first | omega | simp <;> omega); simp [go_sem, g3_0_0, g3_0_1, g3_1_0, g3_1_1, g3_2_0, g3_2_1, g3_3_0, g3_3_1, fg3_0, fg3_1, fg3_2, fg3_3] at f4_2); (have hl4_3 : w.heap.size + 3 < w4.heap.size := by (try simp at hz4); omega); (have c4_3_0 := hc4 (w.heap.size + 3) 0 (by first | omega | simp <;> omega); simp [go_sem, g3_0_0, g3_0_1, g3_1_0, g3_1_1, g3_2_0, g3_2_1, g3_3_0, g3_3_1, fg3_0, fg3_1, fg3_2, fg3_3] at c4_3_0); (have c4_3_1 := hc4 (w.heap.size + 3) 1 (by first | omega | simp <;> omega); simp [go_sem, g3_0_0, g3_0_1, g3_1_0, g3_1_1, g3_2_0, g3_2_1, g3_3_0, g3_3_1, fg3_0, fg3_1, fg3_2, fg3_3] at c4_3_1); (have f4_3 := fun o => hf4 (w.heap.size + 3) o (by first | omega | simp <;> omega); simp [go_sem, g3_0_0, g3_0_1, g3_1_0, g3_1_1, g3_2_0, g3_2_1, g3_3_0, g3_3_1, fg3_0, fg3_1, fg3_2, fg3_3] at f4_3); clear hc4 hf4
   replace hg4 := hg3.trans hg4
   clear g3_0_0 g3_0_1 g3_1_0 g3_1_1 g3_2_0 g3_2_1 g3_3_0 g3_3_1 fg3_0 fg3_1 fg3_2 fg3_3 hg3
   go_wp2_with fail
   refine bodyPost_ret (v := .tuple #[.agg #[.int .i64 (sat ax), .int .i64 (sat ay)], .int .i64 (cpT ax ay bx by' px py)]) (by simp [results, Tryz.results154, go_sem, c4_3_0, c4_3_1]) rfl ⟨rfl, ?_⟩
   (repeat with_reducible first | exact .refl _ | assumption | refine .setAt ?_ (by first | omega | simp <;> omega) _ | refine .alloc ?_ _ | refine .drewN ?_ _ | refine .drew ?_ | refine .trans ?_ (by assumption))
 by_cases h1 : cpT ax ay bx by' px py = 65536
 · have hx : cpX ax ay bx by' px py = sat bx := (if_neg h0).trans (if_pos h1)
   have hy : cpY ax ay bx by' px py = sat by' := (if_neg h0).trans (if_pos h1)
   rw [hx, hy]
   have hb : (cpT ax ay bx by' px py == 0) = false := by simp [h0]
   have hb1 : (cpT ax ay bx by' px py == 65536) = true := by simp [h1]
   clear h0 h1 hx hy
   go_enter Tryz.func154, Tryz.ntmps154
   go_wp2_with fail
   (refine wp_region_flowA 6 (by kernel_rfl) (by kernel_rfl) ?_; simp only [tD]; (repeat (refine wpQ_step (fun K hK => ?_); go_simp; first | (refine hK _ ?_; clear hK K) | (apply Exists.intro; refine ⟨fun _ => ?_, hK _ ?_⟩; (first | (go_at_call 152; exact (ssat_any _ _ _))); clear hK K))); refine wpQ_nil ?_)
   intro w2 hg2
   obtain ⟨hc2, hf2⟩ := hg2.cells; have hz2 := hg2.size; (have hl2_0 : w.heap.size < w2.heap.size := by (try simp at hz2); omega); (have c2_0_0 := hc2 (w.heap.size) 0 (by first | omega | simp <;> omega); simp [go_sem] at c2_0_0); (have c2_0_1 := hc2 (w.heap.size) 1 (by first | omega | simp <;> omega); simp [go_sem] at c2_0_1); (have f2_0 := fun o => hf2 (w.heap.size) o (by first | omega | simp <;> omega); simp [go_sem] at f2_0); (have hl2_1 : w.heap.size + 1 < w2.heap.size := by (try simp at hz2); omega); (have c2_1_0 := hc2 (w.heap.size + 1) 0 (by first | omega | simp <;> omega); simp [go_sem] at c2_1_0); (have c2_1_1 := hc2 (w.heap.size + 1) 1 (by first | omega | simp <;> omega); simp [go_sem] at c2_1_1); (have f2_1 := fun o => hf2 (w.heap.size + 1) o (by first | omega | simp <;> omega); simp [go_sem] at f2_1); (have hl2_2 : w.heap.size + 2 < w2.heap.size := by (try simp at hz2); omega); (have c2_2_0 := hc2 (w.heap.size + 2) 0 (by first | omega | simp <;> omega); simp [go_sem] at c2_2_0); (have c2_2_1 := hc2 (w.heap.size + 2) 1 (by first | omega | simp <;> omega); simp [go_sem] at c2_2_1); (have f2_2 := fun o => hf2 (w.heap.size + 2) o (by first | omega | simp <;> omega); simp [go_sem] at f2_2); (have hl2_3 : w.heap.size + 3 < w2.heap.size := by (try simp at hz2); omega); (have c2_3_0 := hc2 (w.heap.size + 3) 0 (by first | omega | simp <;> omega); simp [go_sem] at c2_3_0); (have c2_3_1 := hc2 (w.heap.size + 3) 1 (by first | omega | simp <;> omega); simp [go_sem] at c2_3_1); (have f2_3 := fun o => hf2 (w.heap.size + 3) o (by first | omega | simp <;> omega); simp [go_sem] at f2_3); clear hc2 hf2
   go_upto_region 2 with (fail); refine wp_gen (fun x => Grw w x ∧ x.cell? ⟨w.heap.size, 0, none⟩ = some (.int .i64 (sat ax)) ∧ x.cell? ⟨w.heap.size, 1, none⟩ = some (.int .i64 (sat ay)) ∧ (∀ o, x.frozen? ⟨w.heap.size, o, none⟩ = false) ∧ w.heap.size < x.heap.size ∧ x.cell? ⟨w.heap.size + 1, 0, none⟩ = some (.int .i64 (sat bx)) ∧ x.cell? ⟨w.heap.size + 1, 1, none⟩ = some (.int .i64 (sat by')) ∧ (∀ o, x.frozen? ⟨w.heap.size + 1, o, none⟩ = false) ∧ w.heap.size + 1 < x.heap.size ∧ x.cell? ⟨w.heap.size + 2, 0, none⟩ = some (.int .i64 (sat px)) ∧ x.cell? ⟨w.heap.size + 2, 1, none⟩ = some (.int .i64 (sat py)) ∧ (∀ o, x.frozen? ⟨w.heap.size + 2, o, none⟩ = false) ∧ w.heap.size + 2 < x.heap.size ∧ x.cell? ⟨w.heap.size + 3, 0, none⟩ = some (.int .i64 (0)) ∧ x.cell? ⟨w.heap.size + 3, 1, none⟩ = some (.int .i64 (0)) ∧ (∀ o, x.frozen? ⟨w.heap.size + 3, o, none⟩ = false) ∧ w.heap.size + 3 < x.heap.size) ⟨by (repeat with_reducible first | exact .refl _ | assumption | refine .setAt ?_ (by first | omega | simp <;> omega) _ | refine .alloc ?_ _ | refine .drewN ?_ _ | refine .drew ?_ | refine .trans ?_ (by assumption)), by simp [go_sem, c2_0_0, c2_0_1, c2_1_0, c2_1_1, c2_2_0, c2_2_1, c2_3_0, c2_3_1, f2_0, f2_1, f2_2, f2_3], by simp [go_sem, c2_0_0, c2_0_1, c2_1_0, c2_1_1, c2_2_0, c2_2_1, c2_3_0, c2_3_1, f2_0, f2_1, f2_2, f2_3], by intro o; simp [go_sem, c2_0_0, c2_0_1, c2_1_0, c2_1_1, c2_2_0, c2_2_1, c2_3_0, c2_3_1, f2_0, f2_1, f2_2, f2_3], by simp [go_sem]; omega, by simp [go_sem, c2_0_0, c2_0_1, c2_1_0, c2_1_1, c2_2_0, c2_2_1, c2_3_0, c2_3_1, f2_0, f2_1, f2_2, f2_3], by simp [go_sem, c2_0_0, c2_0_1, c2_1_0, c2_1_1, c2_2_0, c2_2_1, c2_3_0, c2_3_1, f2_0, f2_1, f2_2, f2_3], by intro o; simp [go_sem, c2_0_0, c2_0_1, c2_1_0, c2_1_1, c2_2_0, c2_2_1, c2_3_0, c2_3_1, f2_0, f2_1, f2_2, f2_3], by simp [go_sem]; omega, by simp [go_sem, c2_0_0, c2_0_1, c2_1_0, c2_1_1, c2_2_0, c2_2_1, c2_3_0, c2_3_1, f2_0, f2_1, f2_2, f2_3], by simp [go_sem, c2_0_0, c2_0_1, c2_1_0, c2_1_1, c2_2_0, c2_2_1, c2_3_0, c2_3_1, f2_0, f2_1, f2_2, f2_3], by intro o; simp [go_sem, c2_0_0, c2_0_1, c2_1_0, c2_1_1, c2_2_0, c2_2_1, c2_3_0, c2_3_1, f2_0, f2_1, f2_2, f2_3], by simp [go_sem]; omega, by simp [go_sem, c2_0_0, c2_0_1, c2_1_0, c2_1_1, c2_2_0, c2_2_1, c2_3_0, c2_3_1, f2_0, f2_1, f2_2, f2_3], by simp [go_sem, c2_0_0, c2_0_1, c2_1_0, c2_1_1, c2_2_0, c2_2_1, c2_3_0, c2_3_1, f2_0, f2_1, f2_2, f2_3], by intro o; simp [go_sem, c2_0_0, c2_0_1, c2_1_0, c2_1_1, c2_2_0, c2_2_1, c2_3_0, c2_3_1, f2_0, f2_1, f2_2, f2_3], by simp [go_sem]; omega⟩ ?_; rintro w3 ⟨hg3, g3_0_0, g3_0_1, fg3_0, lg3_0, g3_1_0, g3_1_1, fg3_1, lg3_1, g3_2_0, g3_2_1, fg3_2, lg3_2, g3_3_0, g3_3_1, fg3_3, lg3_3⟩
   clear c2_0_0 c2_0_1 c2_1_0 c2_1_1 c2_2_0 c2_2_1 c2_3_0 c2_3_1 f2_0 f2_1 f2_2 f2_3
   (have hwr0 : IntKind.i64.wrap (sat px - sat ax) = sat px - sat ax := IntWalk.i64_in _ (by omega)); (have hwr1 : IntKind.i64.wrap (sat bx - sat ax) = sat bx - sat ax := IntWalk.i64_in _ (by omega)); (have hwr2 : IntKind.i64.wrap (sat py - sat ay) = sat py - sat ay := IntWalk.i64_in _ (by omega)); (have hwr3 : IntKind.i64.wrap (sat by' - sat ay) = sat by' - sat ay := IntWalk.i64_in _ (by omega)); (have hwr4 : IntKind.i64.wrap ((sat px - sat ax) * (sat bx - sat ax)) = (sat px - sat ax) * (sat bx - sat ax) := IntWalk.i64_in _ (by omega)); (have hwr5 : IntKind.i64.wrap ((sat py - sat ay) * (sat by' - sat ay)) = (sat py - sat ay) * (sat by' - sat ay) := IntWalk.i64_in _ (by omega)); (have hwr6 : IntKind.i64.wrap ((sat px - sat ax) * (sat bx - sat ax) + (sat py - sat ay) * (sat by' - sat ay)) = (sat px - sat ax) * (sat bx - sat ax) + (sat py - sat ay) * (sat by' - sat ay) := IntWalk.i64_in _ (by omega))
   (refine wp_region_flow (by kernel_rfl) (by kernel_rfl) ?_; (repeat (refine wpQ_step (fun K hK => ?_); go_simp; first | (refine hK _ ?_; clear hK K) | (apply Exists.intro; refine ⟨fun _ => ?_, hK _ ?_⟩; (first | (go_at_call 81; exact (dsq_any _ _ _ _ _)) | (go_at_call 73; exact (cp_ratio ax ay bx by' px py _))); clear hK K))); refine wpQ_nil ?_)
   intro w4 hg4
   clear hwr0 hwr1 hwr2 hwr3 hwr4 hwr5 hwr6
   obtain ⟨hc4, hf4⟩ := hg4.cells; have hz4 := hg4.size; (have hl4_0 : w.heap.size < w4.heap.size := by (try simp at hz4); omega); (have c4_0_0 := hc4 (w.heap.size) 0 (by first | omega | simp <;> omega); simp [go_sem, g3_0_0, g3_0_1, g3_1_0, g3_1_1, g3_2_0, g3_2_1, g3_3_0, g3_3_1, fg3_0, fg3_1, fg3_2, fg3_3] at c4_0_0); (have c4_0_1 := hc4 (w.heap.size) 1 (by first | omega | simp <;> omega); simp [go_sem, g3_0_0, g3_0_1, g3_1_0, g3_1_1, g3_2_0, g3_2_1, g3_3_0, g3_3_1, fg3_0, fg3_1, fg3_2, fg3_3] at c4_0_1); (have f4_0 := fun o => hf4 (w.heap.size) o (by first | omega | simp <;> omega); simp [go_sem, g3_0_0, g3_0_1, g3_1_0, g3_1_1, g3_2_0, g3_2_1, g3_3_0, g3_3_1, fg3_0, fg3_1, fg3_2, fg3_3] at f4_0); (have hl4_1 : w.heap.size + 1 < w4.heap.size := by (try simp at hz4); omega); (have c4_1_0 := hc4 (w.heap.size + 1) 0 (by first | omega | simp <;> omega); simp [go_sem, g3_0_0, g3_0_1, g3_1_0, g3_1_1, g3_2_0, g3_2_1, g3_3_0, g3_3_1, fg3_0, fg3_1, fg3_2, fg3_3] at c4_1_0); (have c4_1_1 := hc4 (w.heap.size + 1) 1 (by first | omega | simp <;> omega); simp [go_sem, g3_0_0, g3_0_1, g3_1_0, g3_1_1, g3_2_0, g3_2_1, g3_3_0, g3_3_1, fg3_0, fg3_1, fg3_2, fg3_3] at c4_1_1); (have f4_1 := fun o => hf4 (w.heap.size + 1) o (by first | omega | simp <;> omega); simp [go_sem, g3_0_0, g3_0_1, g3_1_0, g3_1_1, g3_2_0, g3_2_1, g3_3_0, g3_3_1, fg3_0, fg3_1, fg3_2, fg3_3] at f4_1); (have hl4_2 : w.heap.size + 2 < w4.heap.size := by (try simp at hz4); omega); (have c4_2_0 := hc4 (w.heap.size + 2) 0 (by first | omega | simp <;> omega); simp [go_sem, g3_0_0, g3_0_1, g3_1_0, g3_1_1, g3_2_0, g3_2_1, g3_3_0, g3_3_1, fg3_0, fg3_1, fg3_2, fg3_3] at c4_2_0); (have c4_2_1 := hc4 (w.heap.size + 2) 1 (by first | omega | simp <;> omega); simp [go_sem, g3_0_0, g3_0_1, g3_1_0, g3_1_1, g3_2_0, g3_2_1, g3_3_0, g3_3_1, fg3_0, fg3_1, fg3_2, fg3_3] at c4_2_1); (have f4_2 := fun o => hf4 (w.heap.size + 2) o (by first | omega | simp <;> omega); simp [go_sem, g3_0_0, g3_0_1, g3_1_0, g3_1_1, g3_2_0, g3_2_1, g3_3_0, g3_3_1, fg3_0, fg3_1, fg3_2, fg3_3] at f4_2); (have hl4_3 : w.heap.size + 3 < w4.heap.size := by (try simp at hz4); omega); (have c4_3_0 := hc4 (w.heap.size + 3) 0 (by first | omega | simp <;> omega); simp [go_sem, g3_0_0, g3_0_1, g3_1_0, g3_1_1, g3_2_0, g3_2_1, g3_3_0, g3_3_1, fg3_0, fg3_1, fg3_2, fg3_3] at c4_3_0); (have c4_3_1 := hc4 (w.heap.size + 3) 1 (by first | omega | simp <;> omega); simp [go_sem, g3_0_0, g3_0_1, g3_1_0, g3_1_1, g3_2_0, g3_2_1, g3_3_0, g3_3_1, fg3_0, fg3_1, fg3_2, fg3_3] at c4_3_1); (have f4_3 := fun o => hf4 (w.heap.size + 3) o (by first | omega | simp <;> omega); simp [go_sem, g3_0_0, g3_0_1, g3_1_0, g3_1_1, g3_2_0, g3_2_1, g3_3_0, g3_3_1, fg3_0, fg3_1, fg3_2, fg3_3] at f4_3); clear hc4 hf4
   replace hg4 := hg3.trans hg4
   clear g3_0_0 g3_0_1 g3_1_0 g3_1_1 g3_2_0 g3_2_1 g3_3_0 g3_3_1 fg3_0 fg3_1 fg3_2 fg3_3 hg3
   go_wp2_with fail
   refine bodyPost_ret (v := .tuple #[.agg #[.int .i64 (sat bx), .int .i64 (sat by')], .int .i64 (cpT ax ay bx by' px py)]) (by simp [results, Tryz.results154, go_sem, c4_3_0, c4_3_1]) rfl ⟨rfl, ?_⟩
   (repeat with_reducible first | exact .refl _ | assumption | refine .setAt ?_ (by first | omega | simp <;> omega) _ | refine .alloc ?_ _ | refine .drewN ?_ _ | refine .drew ?_ | refine .trans ?_ (by assumption))
 · have hx : cpX ax ay bx by' px py = lerpI (sat ax) (sat bx) (cpT ax ay bx by' px py) := (if_neg h0).trans (if_neg h1)
   have hy : cpY ax ay bx by' px py = lerpI (sat ay) (sat by') (cpT ax ay bx by' px py) := (if_neg h0).trans (if_neg h1)
   rw [hx, hy]
   have hb : (cpT ax ay bx by' px py == 0) = false := by simp [h0]
   have hb1 : (cpT ax ay bx by' px py == 65536) = false := by simp [h1]
   clear h0 h1 hx hy
   go_enter Tryz.func154, Tryz.ntmps154
   go_wp2_with fail
   (refine wp_region_flowA 6 (by kernel_rfl) (by kernel_rfl) ?_; simp only [tD]; (repeat (refine wpQ_step (fun K hK => ?_); go_simp; first | (refine hK _ ?_; clear hK K) | (apply Exists.intro; refine ⟨fun _ => ?_, hK _ ?_⟩; (first | (go_at_call 152; exact (ssat_any _ _ _))); clear hK K))); refine wpQ_nil ?_)
   intro w2 hg2
   obtain ⟨hc2, hf2⟩ := hg2.cells; have hz2 := hg2.size; (have hl2_0 : w.heap.size < w2.heap.size := by (try simp at hz2); omega); (have c2_0_0 := hc2 (w.heap.size) 0 (by first | omega | simp <;> omega); simp [go_sem] at c2_0_0); (have c2_0_1 := hc2 (w.heap.size) 1 (by first | omega | simp <;> omega); simp [go_sem] at c2_0_1); (have f2_0 := fun o => hf2 (w.heap.size) o (by first | omega | simp <;> omega); simp [go_sem] at f2_0); (have hl2_1 : w.heap.size + 1 < w2.heap.size := by (try simp at hz2); omega); (have c2_1_0 := hc2 (w.heap.size + 1) 0 (by first | omega | simp <;> omega); simp [go_sem] at c2_1_0); (have c2_1_1 := hc2 (w.heap.size + 1) 1 (by first | omega | simp <;> omega); simp [go_sem] at c2_1_1); (have f2_1 := fun o => hf2 (w.heap.size + 1) o (by first | omega | simp <;> omega); simp [go_sem] at f2_1); (have hl2_2 : w.heap.size + 2 < w2.heap.size := by (try simp at hz2); omega); (have c2_2_0 := hc2 (w.heap.size + 2) 0 (by first | omega | simp <;> omega); simp [go_sem] at c2_2_0); (have c2_2_1 := hc2 (w.heap.size + 2) 1 (by first | omega | simp <;> omega); simp [go_sem] at c2_2_1); (have f2_2 := fun o => hf2 (w.heap.size + 2) o (by first | omega | simp <;> omega); simp [go_sem] at f2_2); (have hl2_3 : w.heap.size + 3 < w2.heap.size := by (try simp at hz2); omega); (have c2_3_0 := hc2 (w.heap.size + 3) 0 (by first | omega | simp <;> omega); simp [go_sem] at c2_3_0); (have c2_3_1 := hc2 (w.heap.size + 3) 1 (by first | omega | simp <;> omega); simp [go_sem] at c2_3_1); (have f2_3 := fun o => hf2 (w.heap.size + 3) o (by first | omega | simp <;> omega); simp [go_sem] at f2_3); clear hc2 hf2
   go_upto_region 2 with (fail); refine wp_gen (fun x => Grw w x ∧ x.cell? ⟨w.heap.size, 0, none⟩ = some (.int .i64 (sat ax)) ∧ x.cell? ⟨w.heap.size, 1, none⟩ = some (.int .i64 (sat ay)) ∧ (∀ o, x.frozen? ⟨w.heap.size, o, none⟩ = false) ∧ w.heap.size < x.heap.size ∧ x.cell? ⟨w.heap.size + 1, 0, none⟩ = some (.int .i64 (sat bx)) ∧ x.cell? ⟨w.heap.size + 1, 1, none⟩ = some (.int .i64 (sat by')) ∧ (∀ o, x.frozen? ⟨w.heap.size + 1, o, none⟩ = false) ∧ w.heap.size + 1 < x.heap.size ∧ x.cell? ⟨w.heap.size + 2, 0, none⟩ = some (.int .i64 (sat px)) ∧ x.cell? ⟨w.heap.size + 2, 1, none⟩ = some (.int .i64 (sat py)) ∧ (∀ o, x.frozen? ⟨w.heap.size + 2, o, none⟩ = false) ∧ w.heap.size + 2 < x.heap.size ∧ x.cell? ⟨w.heap.size + 3, 0, none⟩ = some (.int .i64 (0)) ∧ x.cell? ⟨w.heap.size + 3, 1, none⟩ = some (.int .i64 (0)) ∧ (∀ o, x.frozen? ⟨w.heap.size + 3, o, none⟩ = false) ∧ w.heap.size + 3 < x.heap.size) ⟨by (repeat with_reducible first | exact .refl _ | assumption | refine .setAt ?_ (by first | omega | simp <;> omega) _ | refine .alloc ?_ _ | refine .drewN ?_ _ | refine .drew ?_ | refine .trans ?_ (by assumption)), by simp [go_sem, c2_0_0, c2_0_1, c2_1_0, c2_1_1, c2_2_0, c2_2_1, c2_3_0, c2_3_1, f2_0, f2_1, f2_2, f2_3], by simp [go_sem, c2_0_0, c2_0_1, c2_1_0, c2_1_1, c2_2_0, c2_2_1, c2_3_0, c2_3_1, f2_0, f2_1, f2_2, f2_3], by intro o; simp [go_sem, c2_0_0, c2_0_1, c2_1_0, c2_1_1, c2_2_0, c2_2_1, c2_3_0, c2_3_1, f2_0, f2_1, f2_2, f2_3], by simp [go_sem]; omega, by simp [go_sem, c2_0_0, c2_0_1, c2_1_0, c2_1_1, c2_2_0, c2_2_1, c2_3_0, c2_3_1, f2_0, f2_1, f2_2, f2_3], by simp [go_sem, c2_0_0, c2_0_1, c2_1_0, c2_1_1, c2_2_0, c2_2_1, c2_3_0, c2_3_1, f2_0, f2_1, f2_2, f2_3], by intro o; simp [go_sem, c2_0_0, c2_0_1, c2_1_0, c2_1_1, c2_2_0, c2_2_1, c2_3_0, c2_3_1, f2_0, f2_1, f2_2, f2_3], by simp [go_sem]; omega, by simp [go_sem, c2_0_0, c2_0_1, c2_1_0, c2_1_1, c2_2_0, c2_2_1, c2_3_0, c2_3_1, f2_0, f2_1, f2_2, f2_3], by simp [go_sem, c2_0_0, c2_0_1, c2_1_0, c2_1_1, c2_2_0, c2_2_1, c2_3_0, c2_3_1, f2_0, f2_1, f2_2, f2_3], by intro o; simp [go_sem, c2_0_0, c2_0_1, c2_1_0, c2_1_1, c2_2_0, c2_2_1, c2_3_0, c2_3_1, f2_0, f2_1, f2_2, f2_3], by simp [go_sem]; omega, by simp [go_sem, c2_0_0, c2_0_1, c2_1_0, c2_1_1, c2_2_0, c2_2_1, c2_3_0, c2_3_1, f2_0, f2_1, f2_2, f2_3], by simp [go_sem, c2_0_0, c2_0_1, c2_1_0, c2_1_1, c2_2_0, c2_2_1, c2_3_0, c2_3_1, f2_0, f2_1, f2_2, f2_3], by intro o; simp [go_sem, c2_0_0, c2_0_1, c2_1_0, c2_1_1, c2_2_0, c2_2_1, c2_3_0, c2_3_1, f2_0, f2_1, f2_2, f2_3], by simp [go_sem]; omega⟩ ?_; rintro w3 ⟨hg3, g3_0_0, g3_0_1, fg3_0, lg3_0, g3_1_0, g3_1_1, fg3_1, lg3_1, g3_2_0, g3_2_1, fg3_2, lg3_2, g3_3_0, g3_3_1, fg3_3, lg3_3⟩
   clear c2_0_0 c2_0_1 c2_1_0 c2_1_1 c2_2_0 c2_2_1 c2_3_0 c2_3_1 f2_0 f2_1 f2_2 f2_3
   (have hwr0 : IntKind.i64.wrap (sat px - sat ax) = sat px - sat ax := IntWalk.i64_in _ (by omega)); (have hwr1 : IntKind.i64.wrap (sat bx - sat ax) = sat bx - sat ax := IntWalk.i64_in _ (by omega)); (have hwr2 : IntKind.i64.wrap (sat py - sat ay) = sat py - sat ay := IntWalk.i64_in _ (by omega)); (have hwr3 : IntKind.i64.wrap (sat by' - sat ay) = sat by' - sat ay := IntWalk.i64_in _ (by omega)); (have hwr4 : IntKind.i64.wrap ((sat px - sat ax) * (sat bx - sat ax)) = (sat px - sat ax) * (sat bx - sat ax) := IntWalk.i64_in _ (by omega)); (have hwr5 : IntKind.i64.wrap ((sat py - sat ay) * (sat by' - sat ay)) = (sat py - sat ay) * (sat by' - sat ay) := IntWalk.i64_in _ (by omega)); (have hwr6 : IntKind.i64.wrap ((sat px - sat ax) * (sat bx - sat ax) + (sat py - sat ay) * (sat by' - sat ay)) = (sat px - sat ax) * (sat bx - sat ax) + (sat py - sat ay) * (sat by' - sat ay) := IntWalk.i64_in _ (by omega))
   (refine wp_region_flow (by kernel_rfl) (by kernel_rfl) ?_; (repeat (refine wpQ_step (fun K hK => ?_); go_simp; first | (refine hK _ ?_; clear hK K) | (apply Exists.intro; refine ⟨fun _ => ?_, hK _ ?_⟩; (first | (go_at_call 81; exact (dsq_any _ _ _ _ _)) | (go_at_call 73; exact (cp_ratio ax ay bx by' px py _))); clear hK K))); refine wpQ_nil ?_)
   intro w4 hg4
   clear hwr0 hwr1 hwr2 hwr3 hwr4 hwr5 hwr6
   obtain ⟨hc4, hf4⟩ := hg4.cells; have hz4 := hg4.size; (have hl4_0 : w.heap.size < w4.heap.size := by (try simp at hz4); omega); (have c4_0_0 := hc4 (w.heap.size) 0 (by first | omega | simp <;> omega); simp [go_sem, g3_0_0, g3_0_1, g3_1_0, g3_1_1, g3_2_0, g3_2_1, g3_3_0, g3_3_1, fg3_0, fg3_1, fg3_2, fg3_3] at c4_0_0); (have c4_0_1 := hc4 (w.heap.size) 1 (by first | omega | simp <;> omega); simp [go_sem, g3_0_0, g3_0_1, g3_1_0, g3_1_1, g3_2_0, g3_2_1, g3_3_0, g3_3_1, fg3_0, fg3_1, fg3_2, fg3_3] at c4_0_1); (have f4_0 := fun o => hf4 (w.heap.size) o (by first | omega | simp <;> omega); simp [go_sem, g3_0_0, g3_0_1, g3_1_0, g3_1_1, g3_2_0, g3_2_1, g3_3_0, g3_3_1, fg3_0, fg3_1, fg3_2, fg3_3] at f4_0); (have hl4_1 : w.heap.size + 1 < w4.heap.size := by (try simp at hz4); omega); (have c4_1_0 := hc4 (w.heap.size + 1) 0 (by first | omega | simp <;> omega); simp [go_sem, g3_0_0, g3_0_1, g3_1_0, g3_1_1, g3_2_0, g3_2_1, g3_3_0, g3_3_1, fg3_0, fg3_1, fg3_2, fg3_3] at c4_1_0); (have c4_1_1 := hc4 (w.heap.size + 1) 1 (by first | omega | simp <;> omega); simp [go_sem, g3_0_0, g3_0_1, g3_1_0, g3_1_1, g3_2_0, g3_2_1, g3_3_0, g3_3_1, fg3_0, fg3_1, fg3_2, fg3_3] at c4_1_1); (have f4_1 := fun o => hf4 (w.heap.size + 1) o (by first | omega | simp <;> omega); simp [go_sem, g3_0_0, g3_0_1, g3_1_0, g3_1_1, g3_2_0, g3_2_1, g3_3_0, g3_3_1, fg3_0, fg3_1, fg3_2, fg3_3] at f4_1); (have hl4_2 : w.heap.size + 2 < w4.heap.size := by (try simp at hz4); omega); (have c4_2_0 := hc4 (w.heap.size + 2) 0 (by first | omega | simp <;> omega); simp [go_sem, g3_0_0, g3_0_1, g3_1_0, g3_1_1, g3_2_0, g3_2_1, g3_3_0, g3_3_1, fg3_0, fg3_1, fg3_2, fg3_3] at c4_2_0); (have c4_2_1 := hc4 (w.heap.size + 2) 1 (by first | omega | simp <;> omega); simp [go_sem, g3_0_0, g3_0_1, g3_1_0, g3_1_1, g3_2_0, g3_2_1, g3_3_0, g3_3_1, fg3_0, fg3_1, fg3_2, fg3_3] at c4_2_1); (have f4_2 := fun o => hf4 (w.heap.size + 2) o (by first | omega | simp <;> omega); simp [go_sem, g3_0_0, g3_0_1, g3_1_0, g3_1_1, g3_2_0, g3_2_1, g3_3_0, g3_3_1, fg3_0, fg3_1, fg3_2, fg3_3] at f4_2); (have hl4_3 : w.heap.size + 3 < w4.heap.size := by (try simp at hz4); omega); (have c4_3_0 := hc4 (w.heap.size + 3) 0 (by first | omega | simp <;> omega); simp [go_sem, g3_0_0, g3_0_1, g3_1_0, g3_1_1, g3_2_0, g3_2_1, g3_3_0, g3_3_1, fg3_0, fg3_1, fg3_2, fg3_3] at c4_3_0); (have c4_3_1 := hc4 (w.heap.size + 3) 1 (by first | omega | simp <;> omega); simp [go_sem, g3_0_0, g3_0_1, g3_1_0, g3_1_1, g3_2_0, g3_2_1, g3_3_0, g3_3_1, fg3_0, fg3_1, fg3_2, fg3_3] at c4_3_1); (have f4_3 := fun o => hf4 (w.heap.size + 3) o (by first | omega | simp <;> omega); simp [go_sem, g3_0_0, g3_0_1, g3_1_0, g3_1_1, g3_2_0, g3_2_1, g3_3_0, g3_3_1, fg3_0, fg3_1, fg3_2, fg3_3] at f4_3); clear hc4 hf4
   replace hg4 := hg3.trans hg4
   clear g3_0_0 g3_0_1 g3_1_0 g3_1_1 g3_2_0 g3_2_1 g3_3_0 g3_3_1 fg3_0 fg3_1 fg3_2 fg3_3 hg3
   go_wp2_with (first | (go_at_call 14; refine (vlerp_any _ _ _ _ _ _).mono ?_; rintro e w1 ⟨rfl, hg1⟩; obtain ⟨hc1, hf1⟩ := hg1.cells; have hz1 := hg1.size; (have hl1_3 : w.heap.size + 3 < w1.heap.size := by (try simp at hz1); omega); (have c1_3_0 := hc1 (w.heap.size + 3) 0 (by first | omega | simp <;> omega); simp [go_sem, c4_3_0, c4_3_1, f4_3] at c1_3_0); (have c1_3_1 := hc1 (w.heap.size + 3) 1 (by first | omega | simp <;> omega); simp [go_sem, c4_3_0, c4_3_1, f4_3] at c1_3_1); (have f1_3 := fun o => hf1 (w.heap.size + 3) o (by first | omega | simp <;> omega); simp [go_sem, c4_3_0, c4_3_1, f4_3] at f1_3); clear hc1 hf1))
   refine bodyPost_ret (v := .tuple #[.agg #[.int .i64 (lerpI (sat ax) (sat bx) (cpT ax ay bx by' px py)), .int .i64 (lerpI (sat ay) (sat by') (cpT ax ay bx by' px py))], .int .i64 (cpT ax ay bx by' px py)]) (by simp [results, Tryz.results154, go_sem, c1_3_0, c1_3_1]) rfl ⟨rfl, ?_⟩
   (repeat with_reducible first | exact .refl _ | assumption | refine .setAt ?_ (by first | omega | simp <;> omega) _ | refine .alloc ?_ _ | refine .drewN ?_ _ | refine .drew ?_ | refine .trans ?_ (by assumption))
def Sl {α : Type} (k : Nat) (enc : α → List Value) (w : World) (a : Option Addr) (l : List α) : Prop := ∀ i x, l[i]? = some x → ∃ b off, a = some ⟨b, off, none⟩ ∧ b < w.heap.size ∧ ∀ j u, (enc x)[j]? = some u → w.cell? ⟨b, off + i * k + j, none⟩ = some u
section
variable {α : Type} {k : Nat} {enc : α → List Value} {w w' : World} {a : Option Addr} {l : List α}
theorem Sl.nil : Sl k enc w a [] := fun i x h => by simp at h
theorem Sl.grw (h : Sl k enc w a l) (hg : Grw w w') : Sl k enc w' a l := fun i x hx => by
 obtain ⟨b, off, rfl, hb, hc⟩ := h i x hx
 exact ⟨b, off, rfl, Nat.lt_of_lt_of_le hb hg.size, fun j u hu => hg.cell (hc j u hu)⟩
end
def encV (p : Int × Int) : List Value := [.int .i64 p.1, .int .i64 p.2]
theorem Sl.vec {w : World} {a : Option Addr} {l : List (Int × Int)} {i : Nat} {x : Int × Int} (h : Sl 2 encV w a l) (hx : l[i]? = some x) : ∃ b off, a = some ⟨b, off, none⟩ ∧ b < w.heap.size ∧ w.cell? ⟨b, off + i * 2, none⟩ = some (.int .i64 x.1) ∧ w.cell? ⟨b, off + i * 2 + 1, none⟩ = some (.int .i64 x.2) := by
 obtain ⟨b, off, h1, h2, h3⟩ := h i x hx
 exact ⟨b, off, h1, h2, h3 0 _ rfl, h3 1 _ rfl⟩
structure Bx where
 a : Int
 b : Int
 c : Int
 d : Int
def fpStep (q : Bx) (p : Int × Int) : Bx := ⟨min q.a (sat p.1), min q.b (sat p.2), max q.c (sat p.1), max q.d (sat p.2)⟩
def fpF : List (Int × Int) → Bx
 | [] => ⟨0, 0, 0, 0⟩
 | p :: l => l.foldl fpStep ⟨sat p.1, sat p.2, sat p.1, sat p.2⟩
def Bx.v (q : Bx) : Value := .agg #[.int .i64 q.a, .int .i64 q.b, .int .i64 q.c, .int .i64 q.d]
def Bk (w : World) (b t : Nat) (cs : Array Value) : Prop := w.heap[b]? = some (.cells cs t (0, 0))
section
variable {w w' : World} {b t : Nat} {cs : Array Value}
theorem Bk.lt (h : Bk w b t cs) : b < w.heap.size := (Array.getElem?_eq_some_iff.1 h).1
theorem Bk.cell (h : Bk w b t cs) (i : Nat) : w.cell? ⟨b, i, none⟩ = cs[i]? := by unfold Bk at h; simp [World.cell?, h]
theorem Bk.frozen (h : Bk w b t cs) (i : Nat) : w.frozen? ⟨b, i, none⟩ = false := by unfold Bk at h; simp [World.frozen?, h]
theorem Bk.grw (h : Bk w b t cs) (hg : Grw w w') : Bk w' b t cs := (hg.heap h.lt).trans h
theorem Bk.new (w : World) (t : Nat) (cs : Array Value) : Bk (w.alloc (.cells cs t)) w.heap.size t cs := heap_alloc_new w _
theorem Bk.new' {w : World} {t : Nat} {cs : Array Value} {b : Nat} (h : b = w.heap.size) : Bk (w.alloc (.cells cs t)) b t cs := by subst h; exact Bk.new w t cs
theorem Bk.alloc (h : Bk w b t cs) (o : Obj) : Bk (w.alloc o) b t cs := h.grw ((Grw.refl w).alloc o)
theorem Bk.set (h : Bk w b t cs) (i : Nat) (u : Value) : Bk (w.setCell ⟨b, i, none⟩ u) b t (cs.setIfInBounds i u) := by
 unfold Bk at h ⊢
 simp [World.setCell, Array.getElem?_modify, h]
theorem Bk.set' {i : Nat} {u : Value} {cs' : Array Value} (h : Bk w b t cs) (e : cs.setIfInBounds i u = cs') : Bk (w.setCell ⟨b, i, none⟩ u) b t cs' := e ▸ h.set i u
theorem Bk.far (h : Bk w b t cs) {p i : Nat} (hp : b ≠ p) (u : Value) : Bk (w.setCell ⟨p, i, none⟩ u) b t cs := (Below.heap_setCell w ⟨p, i, none⟩ u b hp).trans h
end
def Bx.cs (q : Bx) : Array Value := #[.int .i64 q.a, .int .i64 q.b, .int .i64 q.c, .int .i64 q.d]
theorem foldl_take_succ {β α : Type} (f : β → α → β) (z : β) (l : List α) (k : Nat) (x : α) (h : l[k]? = some x) : (l.take (k + 1)).foldl f z = f ((l.take k).foldl f z) x := by
 rw [List.take_add_one, h, List.foldl_append]; rfl
theorem fromPoints_any (a : Option Addr) (cap : Nat) (p : Int × Int) (l : List (Int × Int)) (w : World) (hs : Sl 2 encV w a (p :: l)) (hc : l.length + 1 ≤ cap) (hl : l.length < 4611686018427387904) :
   Calls Tryz.prog 150 #[.slice a (l.length + 1) cap] w fun e w' => e = .returned (.tuple #[(fpF (p :: l)).v, .bool true]) ∧ Grw w w' := by
 obtain ⟨b, off, rfl, hb, hc0, hc1⟩ := hs.vec (i := 0) rfl
 simp only [Nat.zero_mul, Nat.add_zero] at hc0 hc1
 by_cases h1 : cap = 1
 · obtain rfl : l = [] := List.length_eq_zero_iff.1 (by omega)
   subst h1
   clear hs hc hl
   go_enter Tryz.func150, Tryz.ntmps150
   go_wp2_with (first | (go_at_call 221; refine (asat_any _ _ _).mono ?_; rintro e w1 ⟨rfl, hg1⟩; obtain ⟨hc1, hf1⟩ := hg1.cells; have hz1 := hg1.size; (have hl1_0 : w.heap.size < w1.heap.size := by (try simp at hz1); omega); (have c1_0_0 := hc1 (w.heap.size) 0 (by first | omega | simp <;> omega); simp [go_sem] at c1_0_0); (have c1_0_1 := hc1 (w.heap.size) 1 (by first | omega | simp <;> omega); simp [go_sem] at c1_0_1); (have c1_0_2 := hc1 (w.heap.size) 2 (by first | omega | simp <;> omega); simp [go_sem] at c1_0_2); (have c1_0_3 := hc1 (w.heap.size) 3 (by first | omega | simp <;> omega); simp [go_sem] at c1_0_3); (have f1_0 := fun o => hf1 (w.heap.size) o (by first | omega | simp <;> omega); simp [go_sem] at f1_0); clear hc1 hf1))
   have hR0 := (((Bk.new w 210 (Bx.cs ⟨0, 0, 0, 0⟩)).grw hg1).alloc (.cells #[.int .i64 (sat p.1), .int .i64 (sat p.2)] 23)).alloc (.cells #[.int .i64 (sat p.1), .int .i64 (sat p.2), .int .i64 (sat p.1), .int .i64 (sat p.2)] 210)
   go_loopg [22] 0 (fun g v wr => v = .int .i64 0 ∧ Grw w wr ∧ Bk wr w.heap.size 210 (Bx.cs ⟨0, 0, 0, 0⟩) ∧ Bk wr (w1.heap.size + 1) 210 (Bx.cs ⟨sat p.1, sat p.2, sat p.1, sat p.2⟩))
   case atStart => exact ⟨rfl, by (repeat with_reducible first | exact .refl _ | assumption | refine .setAt ?_ (by first | omega | simp <;> omega) _ | refine .alloc ?_ _ | refine .drewN ?_ _ | refine .drew ?_ | refine .trans ?_ (by assumption)), hR0, Bk.new' (by simp)⟩
   case round =>
     obtain ⟨rfl, hgr, hR, hQ⟩ := hrel
     clear c1_0_0 c1_0_1 c1_0_2 c1_0_3 f1_0 hz1 hR0
     unfold Bx.cs at hR hQ
     (have r0 := (hR).cell 0; simp only [gL] at r0); (have r1 := (hR).cell 1; simp only [gL] at r1); (have r2 := (hR).cell 2; simp only [gL] at r2); (have r3 := (hR).cell 3; simp only [gL] at r3); have rf := (hR).frozen; have rl := (hR).lt
     (have q0 := (hQ).cell 0; simp only [gL] at q0); (have q1 := (hQ).cell 1; simp only [gL] at q1); (have q2 := (hQ).cell 2; simp only [gL] at q2); (have q3 := (hQ).cell 3; simp only [gL] at q3); have qf := (hQ).frozen; have ql := (hQ).lt
     go_wp2_with fail
     refine bodyPost_ret (v := .tuple #[(fpF [p]).v, .bool true]) (by simp [results, Tryz.results150, go_sem, fpF, Bx.v, r0, r1, r2, r3]) rfl ⟨rfl, ?_⟩
     (repeat with_reducible first | exact .refl _ | assumption | refine .setAt ?_ (by first | omega | simp <;> omega) _ | refine .alloc ?_ _ | refine .drewN ?_ _ | refine .drew ?_ | refine .trans ?_ (by assumption))
 · have hcap : 1 < cap := by omega
   have hS : Sl 2 encV w (some ⟨b, off + 2, none⟩) l := fun i x hx => by
     obtain ⟨b', off', h2, h3, h4⟩ := hs (i + 1) x (by simpa using hx)
     cases h2
     refine ⟨b, off + 2, rfl, h3, fun j u hu => ?_⟩
     rw [show off + 2 + i * 2 + j = off + (i + 1) * 2 + j by omega]
     exact h4 j u hu
   have HS := Lib.hid hS
   clear hs h1 hS
   go_enter Tryz.func150, Tryz.ntmps150
   go_wp2_with (first | (go_at_call 221; refine (asat_any _ _ _).mono ?_; rintro e w1 ⟨rfl, hg1⟩; obtain ⟨hc1, hf1⟩ := hg1.cells; have hz1 := hg1.size; (have hl1_0 : w.heap.size < w1.heap.size := by (try simp at hz1); omega); (have c1_0_0 := hc1 (w.heap.size) 0 (by first | omega | simp <;> omega); simp [go_sem] at c1_0_0); (have c1_0_1 := hc1 (w.heap.size) 1 (by first | omega | simp <;> omega); simp [go_sem] at c1_0_1); (have c1_0_2 := hc1 (w.heap.size) 2 (by first | omega | simp <;> omega); simp [go_sem] at c1_0_2); (have c1_0_3 := hc1 (w.heap.size) 3 (by first | omega | simp <;> omega); simp [go_sem] at c1_0_3); (have f1_0 := fun o => hf1 (w.heap.size) o (by first | omega | simp <;> omega); simp [go_sem] at f1_0); clear hc1 hf1))
   have hR0 := (((Bk.new w 210 (Bx.cs ⟨0, 0, 0, 0⟩)).grw hg1).alloc (.cells #[.int .i64 (sat p.1), .int .i64 (sat p.2)] 23)).alloc (.cells #[.int .i64 (sat p.1), .int .i64 (sat p.2), .int .i64 (sat p.1), .int .i64 (sat p.2)] 210)
   go_loopg [22] l.length (fun g v wr => ∃ k : Nat, v = .int .i64 k ∧ k ≤ l.length ∧ l.length - k ≤ g ∧ Grw w wr ∧ Bk wr w.heap.size 210 (Bx.cs ⟨0, 0, 0, 0⟩) ∧ Bk wr (w1.heap.size + 1) 210 (Bx.cs ((l.take k).foldl fpStep ⟨sat p.1, sat p.2, sat p.1, sat p.2⟩)))
   case atStart => exact ⟨0, rfl, Nat.zero_le _, Nat.le_refl _, by (repeat with_reducible first | exact .refl _ | assumption | refine .setAt ?_ (by first | omega | simp <;> omega) _ | refine .alloc ?_ _ | refine .drewN ?_ _ | refine .drew ?_ | refine .trans ?_ (by assumption)), hR0, Bk.new' (by simp)⟩
   case round =>
     obtain ⟨k, rfl, hk, hg, hgr, hR, hQ⟩ := hrel
     clear c1_0_0 c1_0_1 c1_0_2 c1_0_3 f1_0 hz1 hc0 hc1 hR0
     rcases Nat.lt_or_ge k l.length with hlt | hge
     · obtain ⟨x, hx⟩ : ∃ x, l[k]? = some x := ⟨l[k], List.getElem?_eq_getElem hlt⟩
       obtain ⟨_, _, h2, hb2, x0, x1⟩ := (HS.out.grw hgr).vec hx
       cases h2
       have hF := foldl_take_succ fpStep ⟨sat p.1, sat p.2, sat p.1, sat p.2⟩ l k x hx
       obtain ⟨Q, hQe⟩ : ∃ Q, Q = (l.take k).foldl fpStep ⟨sat p.1, sat p.2, sat p.1, sat p.2⟩ := ⟨_, rfl⟩
       rw [← hQe] at hQ hF
       have HF := Lib.hid hF
       have hlb : w1.heap.size + 1 < wr.heap.size := hQ.lt
       have hg1w : w.heap.size < w1.heap.size := hl1_0
       have HR := Lib.hid hR
       have HQ := Lib.hid hQ
       have HX := Lib.hid hx
       clear hx hQe hR hQ hF
       go_wp2_with fail
       (go_at_call 221; refine (asat_any _ _ _).mono ?_; rintro e w2 ⟨rfl, hg2⟩)
       have hT2 := (Bk.new wr 23 #[.int .i64 x.1, .int .i64 x.2]).grw hg2
       have hQ2 := (HQ.out.alloc (.cells #[.int .i64 x.1, .int .i64 x.2] 23)).grw hg2
       unfold Bx.cs at hQ2
       (have t0 := (hT2).cell 0; simp only [gL] at t0); (have t1 := (hT2).cell 1; simp only [gL] at t1); have tf := (hT2).frozen; have tl := (hT2).lt
       (have q0 := (hQ2).cell 0; simp only [gL] at q0); (have q1 := (hQ2).cell 1; simp only [gL] at q1); (have q2 := (hQ2).cell 2; simp only [gL] at q2); (have q3 := (hQ2).cell 3; simp only [gL] at q3); have qf := (hQ2).frozen; have ql := (hQ2).lt
       have HT2 := Lib.hid hT2
       have HQ2 := Lib.hid hQ2
       clear hT2 hQ2
       go_wp2_with fail
       (go_at_call 222; refine (lower_any _ _ _ _ _).mono ?_; rintro e w3 ⟨rfl, hg3⟩)
       have hT3 : Bk w3 wr.heap.size 23 #[.int .i64 (sat x.1), .int .i64 (sat x.2)] := (((HT2.out.set 0 (.int .i64 (sat x.1))).set 1 (.int .i64 (sat x.2)))).grw hg3
       have hQ3 := (((HQ2.out.far (p := wr.heap.size) (i := 0) (by omega) (.int .i64 (sat x.1))).far (p := wr.heap.size) (i := 1) (by omega) (.int .i64 (sat x.2)))).grw hg3
       clear t0 t1 tf q0 q1 q2 q3 qf
       (have t0 := (hT3).cell 0; simp only [gL] at t0); (have t1 := (hT3).cell 1; simp only [gL] at t1); have tf := (hT3).frozen; have tl := (hT3).lt
       (have q0 := (hQ3).cell 0; simp only [gL] at q0); (have q1 := (hQ3).cell 1; simp only [gL] at q1); (have q2 := (hQ3).cell 2; simp only [gL] at q2); (have q3 := (hQ3).cell 3; simp only [gL] at q3); have qf := (hQ3).frozen; have ql := (hQ3).lt
       have HT3 := Lib.hid hT3
       have HQ3 := Lib.hid hQ3
       clear hT3 hQ3
       go_wp2_with fail
       (go_at_call 223; refine (upper_any _ _ _ _ _).mono ?_; rintro e w4 ⟨rfl, hg4⟩)
       have hQ4 : Bk w4 (w1.heap.size + 1) 210 #[.int .i64 (min Q.a (sat x.1)), .int .i64 (min Q.b (sat x.2)), .int .i64 Q.c, .int .i64 Q.d] := ((HQ3.out.set 0 (.int .i64 (min Q.a (sat x.1)))).set 1 (.int .i64 (min Q.b (sat x.2)))).grw hg4
       clear t0 t1 tf q0 q1 q2 q3 qf
       (have q0 := (hQ4).cell 0; simp only [gL] at q0); (have q1 := (hQ4).cell 1; simp only [gL] at q1); (have q2 := (hQ4).cell 2; simp only [gL] at q2); (have q3 := (hQ4).cell 3; simp only [gL] at q3); have qf := (hQ4).frozen; have ql := (hQ4).lt
       have hQ5 : Bk _ (w1.heap.size + 1) 210 (Bx.cs (fpStep Q x)) := (hQ4.set 2 (.int .i64 (max Q.c (sat x.1)))).set 3 (.int .i64 (max Q.d (sat x.2)))
       have HQ5 := Lib.hid hQ5
       clear hQ4 hQ5
       go_wp2_with fail
       go_roundg (l.length - (k + 1))
       case measure => omega
       case rel =>
         have hR := HR.out
         refine ⟨k + 1, by go_num, by omega, Nat.le_refl _, by (repeat with_reducible first | exact .refl _ | assumption | refine .setAt ?_ (by first | omega | simp <;> omega) _ | refine .alloc ?_ _ | refine .drewN ?_ _ | refine .drew ?_ | refine .trans ?_ (by assumption)), ?_, by rw [HF.out]; exact HQ5.out⟩
         (repeat (first | (with_reducible assumption) | (with_reducible refine Bk.far ?_ (by omega) _) | (with_reducible refine Bk.alloc ?_ _) | (refine Bk.grw ?_ (by with_reducible assumption))))
     · obtain rfl : k = l.length := by omega
       rw [List.take_of_length_le (Nat.le_refl _)] at hQ
       obtain ⟨Q, hQe⟩ : ∃ Q, Q = fpF (p :: l) := ⟨_, rfl⟩
       have hQ' : Bk wr (w1.heap.size + 1) 210 (Bx.cs Q) := hQe ▸ hQ
       have HE := Lib.hid hQe
       clear hQ hQe
       unfold Bx.cs at hR hQ'
       (have r0 := (hR).cell 0; simp only [gL] at r0); (have r1 := (hR).cell 1; simp only [gL] at r1); (have r2 := (hR).cell 2; simp only [gL] at r2); (have r3 := (hR).cell 3; simp only [gL] at r3); have rf := (hR).frozen; have rl := (hR).lt
       (have q0 := (hQ').cell 0; simp only [gL] at q0); (have q1 := (hQ').cell 1; simp only [gL] at q1); (have q2 := (hQ').cell 2; simp only [gL] at q2); (have q3 := (hQ').cell 3; simp only [gL] at q3); have qf := (hQ').frozen; have ql := (hQ').lt
       go_wp2_with fail
       refine bodyPost_ret (v := .tuple #[Q.v, .bool true]) (by simp [results, Tryz.results150, go_sem, Bx.v, r0, r1, r2, r3]) rfl ⟨by rw [HE.out], ?_⟩
       (repeat with_reducible first | exact .refl _ | assumption | refine .setAt ?_ (by first | omega | simp <;> omega) _ | refine .alloc ?_ _ | refine .drewN ?_ _ | refine .drew ?_ | refine .trans ?_ (by assumption))
end
section
open Go.RowKit Go.Sort
attribute [local go_sem] qAt qUpon cell_in_grow frozen_in_grow
theorem orient_rng (a b c d e f : Int) : -1 ≤ orientI a b c d e f ∧ orientI a b c d e f ≤ 1 := by unfold orientI; omega
theorem orient_mul (a b c d e f a' b' c' d' e' f' : Int) : -1 ≤ orientI a b c d e f * orientI a' b' c' d' e' f' ∧ orientI a b c d e f * orientI a' b' c' d' e' f' ≤ 1 := by
 have := mul_bd (orient_rng a b c d e f).1 (orient_rng a b c d e f).2 (orient_rng a' b' c' d' e' f').1 (orient_rng a' b' c' d' e' f').2
 omega
def ovBx (p q : Bx) : Bool := validB p.a p.b p.c p.d && validB q.a q.b q.c q.d && ovB p.a p.b p.c p.d q.a q.b q.c q.d
def itI (ax ay bx by' cx cy dx dy : Int) : Bool := !(decide (0 < orientI ax ay bx by' cx cy * orientI ax ay bx by' dx dy) || decide (0 < orientI cx cy dx dy ax ay * orientI cx cy dx dy bx by')) && ovBx (fpF [(ax, ay), (bx, by')]) (fpF [(cx, cy), (dx, dy)])
theorem sl2 {w : World} {n : Nat} (a b c d : Int) (hb : Bk w n 23 #[.int .i64 a, .int .i64 b, .int .i64 c, .int .i64 d]) : Sl 2 encV w (some ⟨n, 0, none⟩) [(a, b), (c, d)] := fun i x hx => by
 refine ⟨n, 0, rfl, hb.lt, fun j u hu => ?_⟩
 rw [hb.cell]
 match i, hx with
 | 0, hx => cases hx; match j, hu with
   | 0, hu => cases hu; rfl
   | 1, hu => cases hu; rfl
 | 1, hx => cases hx; match j, hu with
   | 0, hu => cases hu; rfl
   | 1, hu => cases hu; rfl
theorem intersects_a (ax ay bx by' cx cy dx dy : Int) (w : World) (h1 : 0 < orientI ax ay bx by' cx cy * orientI ax ay bx by' dx dy) :
   Calls Tryz.prog 82 #[.agg #[.int .i64 (ax), .int .i64 (ay)], .agg #[.int .i64 (bx), .int .i64 (by')], .agg #[.int .i64 (cx), .int .i64 (cy)], .agg #[.int .i64 (dx), .int .i64 (dy)]] w fun e w' => e = .returned (.bool (itI ax ay bx by' cx cy dx dy)) ∧ Grw w w' := by
 obtain ⟨m1, m2⟩ := orient_mul ax ay bx by' cx cy ax ay bx by' dx dy
 obtain ⟨m3, m4⟩ := orient_mul cx cy dx dy ax ay cx cy dx dy bx by'
 have hd1 : decide (0 < orientI ax ay bx by' cx cy * orientI ax ay bx by' dx dy) = true := by simpa using h1
 have hres : itI ax ay bx by' cx cy dx dy = false := by unfold itI; rw [hd1]; simp
 have HRES := Lib.hid hres
 clear h1 hres
 go_enter Tryz.func82, Tryz.ntmps82
 go_wp2_with fail
 (go_at_call 150; refine (fromPoints_any _ _ (ax, ay) [(bx, by')] _ (sl2 ax ay bx by' (Bk.new' (by simp))) (by simp) (by simp)).mono ?_; rintro e w1 ⟨rfl, hg1⟩)
 have b0 : Bk w1 (w.heap.size) 23 #[.int .i64 ax, .int .i64 ay] := Bk.grw (by (repeat with_reducible first | exact Bk.new' (by simp) | refine Bk.alloc ?_ _)) hg1
 have b1 : Bk w1 (w.heap.size + 1) 23 #[.int .i64 bx, .int .i64 by'] := Bk.grw (by (repeat with_reducible first | exact Bk.new' (by simp) | refine Bk.alloc ?_ _)) hg1
 have b2 : Bk w1 (w.heap.size + 1 + 1) 23 #[.int .i64 cx, .int .i64 cy] := Bk.grw (by (repeat with_reducible first | exact Bk.new' (by simp) | refine Bk.alloc ?_ _)) hg1
 have b3 : Bk w1 (w.heap.size + 1 + 1 + 1) 23 #[.int .i64 dx, .int .i64 dy] := Bk.grw (by (repeat with_reducible first | exact Bk.new' (by simp) | refine Bk.alloc ?_ _)) hg1
 have hw1 : Grw w w1 := by (repeat with_reducible first | exact .refl _ | assumption | refine .setAt ?_ (by first | omega | simp <;> omega) _ | refine .alloc ?_ _ | refine .drewN ?_ _ | refine .drew ?_ | refine .trans ?_ (by assumption))
 clear hg1
 (have x00 := (b0).cell 0; simp only [gL] at x00); (have x01 := (b0).cell 1; simp only [gL] at x01); have x0f := (b0).frozen; have x0l := (b0).lt
 (have x10 := (b1).cell 0; simp only [gL] at x10); (have x11 := (b1).cell 1; simp only [gL] at x11); have x1f := (b1).frozen; have x1l := (b1).lt
 (have x20 := (b2).cell 0; simp only [gL] at x20); (have x21 := (b2).cell 1; simp only [gL] at x21); have x2f := (b2).frozen; have x2l := (b2).lt
 (have x30 := (b3).cell 0; simp only [gL] at x30); (have x31 := (b3).cell 1; simp only [gL] at x31); have x3f := (b3).frozen; have x3l := (b3).lt
 have B0 := Lib.hid b0; have B1 := Lib.hid b1; have B2 := Lib.hid b2; have B3 := Lib.hid b3
 clear b0 b1 b2 b3
 obtain ⟨P, hP⟩ : ∃ P, P = fpF [(ax, ay), (bx, by')] := ⟨_, rfl⟩
 rw [← hP]
 have HP := Lib.hid hP
 clear hP
 simp only [Bx.v]
 go_wp2_with fail
 (go_at_call 150; refine (fromPoints_any _ _ (cx, cy) [(dx, dy)] _ (sl2 cx cy dx dy (Bk.new' (by simp))) (by simp) (by simp)).mono ?_; rintro e w2 ⟨rfl, hg2⟩)
 have b0 := ((B0.out.alloc (.cells (Bx.cs P) 210)).alloc (.cells #[.int .i64 cx, .int .i64 cy, .int .i64 dx, .int .i64 dy] 23)).grw hg2
 have b1 := ((B1.out.alloc (.cells (Bx.cs P) 210)).alloc (.cells #[.int .i64 cx, .int .i64 cy, .int .i64 dx, .int .i64 dy] 23)).grw hg2
 have b2 := ((B2.out.alloc (.cells (Bx.cs P) 210)).alloc (.cells #[.int .i64 cx, .int .i64 cy, .int .i64 dx, .int .i64 dy] 23)).grw hg2
 have b3 := ((B3.out.alloc (.cells (Bx.cs P) 210)).alloc (.cells #[.int .i64 cx, .int .i64 cy, .int .i64 dx, .int .i64 dy] 23)).grw hg2
 have b4 : Bk w2 w1.heap.size 210 (Bx.cs P) := ((Bk.new' (w := w1) (t := 210) (cs := Bx.cs P) rfl).alloc (.cells #[.int .i64 cx, .int .i64 cy, .int .i64 dx, .int .i64 dy] 23)).grw hg2
 have hw2 : Grw w w2 := by (repeat with_reducible first | exact .refl _ | assumption | refine .setAt ?_ (by first | omega | simp <;> omega) _ | refine .alloc ?_ _ | refine .drewN ?_ _ | refine .drew ?_ | refine .trans ?_ (by assumption))
 clear hg2 hw1
 clear x00 x01 x0f x0l x10 x11 x1f x1l x20 x21 x2f x2l x30 x31 x3f x3l
 obtain ⟨Q, hQ⟩ : ∃ Q, Q = fpF [(cx, cy), (dx, dy)] := ⟨_, rfl⟩
 rw [← hQ]
 have HQ := Lib.hid hQ
 clear hQ
 simp only [Bx.v]
 have HB := Lib.hid (show _ ∧ _ ∧ _ ∧ _ ∧ _ from ⟨b0, b1, b2, b3, b4⟩)
 clear b0 b1 b2 b3 b4
 go_upto_region 3 with (fail)
 refine wp_gen (fun x => Grw w x ∧ (Bk x (w.heap.size) 23 #[.int .i64 ax, .int .i64 ay] ∧ Bk x (w.heap.size + 1) 23 #[.int .i64 bx, .int .i64 by'] ∧ Bk x (w.heap.size + 1 + 1) 23 #[.int .i64 cx, .int .i64 cy] ∧ Bk x (w.heap.size + 1 + 1 + 1) 23 #[.int .i64 dx, .int .i64 dy]) ∧ Bk x w1.heap.size 210 (Bx.cs P) ∧ Bk x w2.heap.size 210 (Bx.cs Q)) ⟨by (repeat with_reducible first | exact .refl _ | assumption | refine .setAt ?_ (by first | omega | simp <;> omega) _ | refine .alloc ?_ _ | refine .drewN ?_ _ | refine .drew ?_ | refine .trans ?_ (by assumption)), ⟨HB.out.1.alloc _, HB.out.2.1.alloc _, HB.out.2.2.1.alloc _, HB.out.2.2.2.1.alloc _⟩, HB.out.2.2.2.2.alloc _, Bk.new' rfl⟩ ?_
 rintro w3 ⟨hw3, ⟨b0, b1, b2, b3⟩, b4, b5⟩
 clear HB hw2
 unfold Bx.cs at b4 b5
 (have x00 := (b0).cell 0; simp only [gL] at x00); (have x01 := (b0).cell 1; simp only [gL] at x01); have x0f := (b0).frozen; have x0l := (b0).lt
 (have x10 := (b1).cell 0; simp only [gL] at x10); (have x11 := (b1).cell 1; simp only [gL] at x11); have x1f := (b1).frozen; have x1l := (b1).lt
 (have x20 := (b2).cell 0; simp only [gL] at x20); (have x21 := (b2).cell 1; simp only [gL] at x21); have x2f := (b2).frozen; have x2l := (b2).lt
 (have x30 := (b3).cell 0; simp only [gL] at x30); (have x31 := (b3).cell 1; simp only [gL] at x31); have x3f := (b3).frozen; have x3l := (b3).lt
 (have x40 := (b4).cell 0; simp only [gL] at x40); (have x41 := (b4).cell 1; simp only [gL] at x41); (have x42 := (b4).cell 2; simp only [gL] at x42); (have x43 := (b4).cell 3; simp only [gL] at x43); have x4f := (b4).frozen; have x4l := (b4).lt
 (have x50 := (b5).cell 0; simp only [gL] at x50); (have x51 := (b5).cell 1; simp only [gL] at x51); (have x52 := (b5).cell 2; simp only [gL] at x52); (have x53 := (b5).cell 3; simp only [gL] at x53); have x5f := (b5).frozen; have x5l := (b5).lt
 clear b0 b1 b2 b3 b4 b5
 (have hwr0 : IntKind.i64.wrap ((orientI ax ay bx by' cx cy) * (orientI ax ay bx by' dx dy)) = (orientI ax ay bx by' cx cy) * (orientI ax ay bx by' dx dy) := IntWalk.i64_in _ (by omega))
 (refine wp_region_flow (by kernel_rfl) (by kernel_rfl) ?_; (repeat (refine wpQ_step (fun K hK => ?_); go_simp; first | (refine hK _ ?_; clear hK K) | (apply Exists.intro; refine ⟨fun _ => ?_, hK _ ?_⟩; (first | (go_at_call 38; exact (orient_any _ _ _ _ _ _ _))); clear hK K))); refine wpQ_nil ?_)
 intro w4 hg4
 clear hwr0
 go_wp2_with fail
 go_ret
 exact ⟨ret_bool HRES.out.symm, by (repeat with_reducible first | exact .refl _ | assumption | refine .setAt ?_ (by first | omega | simp <;> omega) _ | refine .alloc ?_ _ | refine .drewN ?_ _ | refine .drew ?_ | refine .trans ?_ (by assumption))⟩
theorem intersects_b (ax ay bx by' cx cy dx dy : Int) (w : World) (h1 : ¬ 0 < orientI ax ay bx by' cx cy * orientI ax ay bx by' dx dy) (h2 : 0 < orientI cx cy dx dy ax ay * orientI cx cy dx dy bx by') :
   Calls Tryz.prog 82 #[.agg #[.int .i64 (ax), .int .i64 (ay)], .agg #[.int .i64 (bx), .int .i64 (by')], .agg #[.int .i64 (cx), .int .i64 (cy)], .agg #[.int .i64 (dx), .int .i64 (dy)]] w fun e w' => e = .returned (.bool (itI ax ay bx by' cx cy dx dy)) ∧ Grw w w' := by
 obtain ⟨m1, m2⟩ := orient_mul ax ay bx by' cx cy ax ay bx by' dx dy
 obtain ⟨m3, m4⟩ := orient_mul cx cy dx dy ax ay cx cy dx dy bx by'
 have hd1 : decide (0 < orientI ax ay bx by' cx cy * orientI ax ay bx by' dx dy) = false := by simpa using h1
 have hd2 : decide (0 < orientI cx cy dx dy ax ay * orientI cx cy dx dy bx by') = true := by simpa using h2
 have hres : itI ax ay bx by' cx cy dx dy = false := by unfold itI; rw [hd1, hd2]; simp
 have HRES := Lib.hid hres
 clear h1 h2 hres
 go_enter Tryz.func82, Tryz.ntmps82
 go_wp2_with fail
 (go_at_call 150; refine (fromPoints_any _ _ (ax, ay) [(bx, by')] _ (sl2 ax ay bx by' (Bk.new' (by simp))) (by simp) (by simp)).mono ?_; rintro e w1 ⟨rfl, hg1⟩)
 have b0 : Bk w1 (w.heap.size) 23 #[.int .i64 ax, .int .i64 ay] := Bk.grw (by (repeat with_reducible first | exact Bk.new' (by simp) | refine Bk.alloc ?_ _)) hg1
 have b1 : Bk w1 (w.heap.size + 1) 23 #[.int .i64 bx, .int .i64 by'] := Bk.grw (by (repeat with_reducible first | exact Bk.new' (by simp) | refine Bk.alloc ?_ _)) hg1
 have b2 : Bk w1 (w.heap.size + 1 + 1) 23 #[.int .i64 cx, .int .i64 cy] := Bk.grw (by (repeat with_reducible first | exact Bk.new' (by simp) | refine Bk.alloc ?_ _)) hg1
 have b3 : Bk w1 (w.heap.size + 1 + 1 + 1) 23 #[.int .i64 dx, .int .i64 dy] := Bk.grw (by (repeat with_reducible first | exact Bk.new' (by simp) | refine Bk.alloc ?_ _)) hg1
 have hw1 : Grw w w1 := by (repeat with_reducible first | exact .refl _ | assumption | refine .setAt ?_ (by first | omega | simp <;> omega) _ | refine .alloc ?_ _ | refine .drewN ?_ _ | refine .drew ?_ | refine .trans ?_ (by assumption))
 clear hg1
 (have x00 := (b0).cell 0; simp only [gL] at x00); (have x01 := (b0).cell 1; simp only [gL] at x01); have x0f := (b0).frozen; have x0l := (b0).lt
 (have x10 := (b1).cell 0; simp only [gL] at x10); (have x11 := (b1).cell 1; simp only [gL] at x11); have x1f := (b1).frozen; have x1l := (b1).lt
 (have x20 := (b2).cell 0; simp only [gL] at x20); (have x21 := (b2).cell 1; simp only [gL] at x21); have x2f := (b2).frozen; have x2l := (b2).lt
 (have x30 := (b3).cell 0; simp only [gL] at x30); (have x31 := (b3).cell 1; simp only [gL] at x31); have x3f := (b3).frozen; have x3l := (b3).lt
 have B0 := Lib.hid b0; have B1 := Lib.hid b1; have B2 := Lib.hid b2; have B3 := Lib.hid b3
 clear b0 b1 b2 b3
 obtain ⟨P, hP⟩ : ∃ P, P = fpF [(ax, ay), (bx, by')] := ⟨_, rfl⟩
 rw [← hP]
 have HP := Lib.hid hP
 clear hP
 simp only [Bx.v]
 go_wp2_with fail
 (go_at_call 150; refine (fromPoints_any _ _ (cx, cy) [(dx, dy)] _ (sl2 cx cy dx dy (Bk.new' (by simp))) (by simp) (by simp)).mono ?_; rintro e w2 ⟨rfl, hg2⟩)
 have b0 := ((B0.out.alloc (.cells (Bx.cs P) 210)).alloc (.cells #[.int .i64 cx, .int .i64 cy, .int .i64 dx, .int .i64 dy] 23)).grw hg2
 have b1 := ((B1.out.alloc (.cells (Bx.cs P) 210)).alloc (.cells #[.int .i64 cx, .int .i64 cy, .int .i64 dx, .int .i64 dy] 23)).grw hg2
 have b2 := ((B2.out.alloc (.cells (Bx.cs P) 210)).alloc (.cells #[.int .i64 cx, .int .i64 cy, .int .i64 dx, .int .i64 dy] 23)).grw hg2
 have b3 := ((B3.out.alloc (.cells (Bx.cs P) 210)).alloc (.cells #[.int .i64 cx, .int .i64 cy, .int .i64 dx, .int .i64 dy] 23)).grw hg2
 have b4 : Bk w2 w1.heap.size 210 (Bx.cs P) := ((Bk.new' (w := w1) (t := 210) (cs := Bx.cs P) rfl).alloc (.cells #[.int .i64 cx, .int .i64 cy, .int .i64 dx, .int .i64 dy] 23)).grw hg2
 have hw2 : Grw w w2 := by (repeat with_reducible first | exact .refl _ | assumption | refine .setAt ?_ (by first | omega | simp <;> omega) _ | refine .alloc ?_ _ | refine .drewN ?_ _ | refine .drew ?_ | refine .trans ?_ (by assumption))
 clear hg2 hw1
 clear x00 x01 x0f x0l x10 x11 x1f x1l x20 x21 x2f x2l x30 x31 x3f x3l
 obtain ⟨Q, hQ⟩ : ∃ Q, Q = fpF [(cx, cy), (dx, dy)] := ⟨_, rfl⟩
 rw [← hQ]
 have HQ := Lib.hid hQ
 clear hQ
 simp only [Bx.v]
 have HB := Lib.hid (show _ ∧ _ ∧ _ ∧ _ ∧ _ from ⟨b0, b1, b2, b3, b4⟩)
 clear b0 b1 b2 b3 b4
 go_upto_region 3 with (fail)
 refine wp_gen (fun x => Grw w x ∧ (Bk x (w.heap.size) 23 #[.int .i64 ax, .int .i64 ay] ∧ Bk x (w.heap.size + 1) 23 #[.int .i64 bx, .int .i64 by'] ∧ Bk x (w.heap.size + 1 + 1) 23 #[.int .i64 cx, .int .i64 cy] ∧ Bk x (w.heap.size + 1 + 1 + 1) 23 #[.int .i64 dx, .int .i64 dy]) ∧ Bk x w1.heap.size 210 (Bx.cs P) ∧ Bk x w2.heap.size 210 (Bx.cs Q)) ⟨by (repeat with_reducible first | exact .refl _ | assumption | refine .setAt ?_ (by first | omega | simp <;> omega) _ | refine .alloc ?_ _ | refine .drewN ?_ _ | refine .drew ?_ | refine .trans ?_ (by assumption)), ⟨HB.out.1.alloc _, HB.out.2.1.alloc _, HB.out.2.2.1.alloc _, HB.out.2.2.2.1.alloc _⟩, HB.out.2.2.2.2.alloc _, Bk.new' rfl⟩ ?_
 rintro w3 ⟨hw3, ⟨b0, b1, b2, b3⟩, b4, b5⟩
 clear HB hw2
 unfold Bx.cs at b4 b5
 (have x00 := (b0).cell 0; simp only [gL] at x00); (have x01 := (b0).cell 1; simp only [gL] at x01); have x0f := (b0).frozen; have x0l := (b0).lt
 (have x10 := (b1).cell 0; simp only [gL] at x10); (have x11 := (b1).cell 1; simp only [gL] at x11); have x1f := (b1).frozen; have x1l := (b1).lt
 (have x20 := (b2).cell 0; simp only [gL] at x20); (have x21 := (b2).cell 1; simp only [gL] at x21); have x2f := (b2).frozen; have x2l := (b2).lt
 (have x30 := (b3).cell 0; simp only [gL] at x30); (have x31 := (b3).cell 1; simp only [gL] at x31); have x3f := (b3).frozen; have x3l := (b3).lt
 (have x40 := (b4).cell 0; simp only [gL] at x40); (have x41 := (b4).cell 1; simp only [gL] at x41); (have x42 := (b4).cell 2; simp only [gL] at x42); (have x43 := (b4).cell 3; simp only [gL] at x43); have x4f := (b4).frozen; have x4l := (b4).lt
 (have x50 := (b5).cell 0; simp only [gL] at x50); (have x51 := (b5).cell 1; simp only [gL] at x51); (have x52 := (b5).cell 2; simp only [gL] at x52); (have x53 := (b5).cell 3; simp only [gL] at x53); have x5f := (b5).frozen; have x5l := (b5).lt
 clear b0 b1 b2 b3 b4 b5
 (have hwr0 : IntKind.i64.wrap ((orientI ax ay bx by' cx cy) * (orientI ax ay bx by' dx dy)) = (orientI ax ay bx by' cx cy) * (orientI ax ay bx by' dx dy) := IntWalk.i64_in _ (by omega)); (have hwr1 : IntKind.i64.wrap ((orientI cx cy dx dy ax ay) * (orientI cx cy dx dy bx by')) = (orientI cx cy dx dy ax ay) * (orientI cx cy dx dy bx by') := IntWalk.i64_in _ (by omega))
 (refine wp_region_flow (by kernel_rfl) (by kernel_rfl) ?_; (repeat (refine wpQ_step (fun K hK => ?_); go_simp; first | (refine hK _ ?_; clear hK K) | (apply Exists.intro; refine ⟨fun _ => ?_, hK _ ?_⟩; (first | (go_at_call 38; exact (orient_any _ _ _ _ _ _ _))); clear hK K))); refine wpQ_nil ?_)
 intro w4 hg4
 clear hwr0 hwr1
 go_wp2_with fail
 go_ret
 exact ⟨ret_bool HRES.out.symm, by (repeat with_reducible first | exact .refl _ | assumption | refine .setAt ?_ (by first | omega | simp <;> omega) _ | refine .alloc ?_ _ | refine .drewN ?_ _ | refine .drew ?_ | refine .trans ?_ (by assumption))⟩
theorem intersects_c (ax ay bx by' cx cy dx dy : Int) (w : World) (h1 : ¬ 0 < orientI ax ay bx by' cx cy * orientI ax ay bx by' dx dy) (h2 : ¬ 0 < orientI cx cy dx dy ax ay * orientI cx cy dx dy bx by') :
   Calls Tryz.prog 82 #[.agg #[.int .i64 (ax), .int .i64 (ay)], .agg #[.int .i64 (bx), .int .i64 (by')], .agg #[.int .i64 (cx), .int .i64 (cy)], .agg #[.int .i64 (dx), .int .i64 (dy)]] w fun e w' => e = .returned (.bool (itI ax ay bx by' cx cy dx dy)) ∧ Grw w w' := by
 obtain ⟨m1, m2⟩ := orient_mul ax ay bx by' cx cy ax ay bx by' dx dy
 obtain ⟨m3, m4⟩ := orient_mul cx cy dx dy ax ay cx cy dx dy bx by'
 have hd1 : decide (0 < orientI ax ay bx by' cx cy * orientI ax ay bx by' dx dy) = false := by simpa using h1
 have hd2 : decide (0 < orientI cx cy dx dy ax ay * orientI cx cy dx dy bx by') = false := by simpa using h2
 have hres : itI ax ay bx by' cx cy dx dy = ovBx (fpF [(ax, ay), (bx, by')]) (fpF [(cx, cy), (dx, dy)]) := by unfold itI; rw [hd1, hd2]; simp
 have HRES := Lib.hid hres
 clear h1 h2 hres
 go_enter Tryz.func82, Tryz.ntmps82
 go_wp2_with fail
 (go_at_call 150; refine (fromPoints_any _ _ (ax, ay) [(bx, by')] _ (sl2 ax ay bx by' (Bk.new' (by simp))) (by simp) (by simp)).mono ?_; rintro e w1 ⟨rfl, hg1⟩)
 have b0 : Bk w1 (w.heap.size) 23 #[.int .i64 ax, .int .i64 ay] := Bk.grw (by (repeat with_reducible first | exact Bk.new' (by simp) | refine Bk.alloc ?_ _)) hg1
 have b1 : Bk w1 (w.heap.size + 1) 23 #[.int .i64 bx, .int .i64 by'] := Bk.grw (by (repeat with_reducible first | exact Bk.new' (by simp) | refine Bk.alloc ?_ _)) hg1
 have b2 : Bk w1 (w.heap.size + 1 + 1) 23 #[.int .i64 cx, .int .i64 cy] := Bk.grw (by (repeat with_reducible first | exact Bk.new' (by simp) | refine Bk.alloc ?_ _)) hg1
 have b3 : Bk w1 (w.heap.size + 1 + 1 + 1) 23 #[.int .i64 dx, .int .i64 dy] := Bk.grw (by (repeat with_reducible first | exact Bk.new' (by simp) | refine Bk.alloc ?_ _)) hg1
 have hw1 : Grw w w1 := by (repeat with_reducible first | exact .refl _ | assumption | refine .setAt ?_ (by first | omega | simp <;> omega) _ | refine .alloc ?_ _ | refine .drewN ?_ _ | refine .drew ?_ | refine .trans ?_ (by assumption))
 clear hg1
 (have x00 := (b0).cell 0; simp only [gL] at x00); (have x01 := (b0).cell 1; simp only [gL] at x01); have x0f := (b0).frozen; have x0l := (b0).lt
 (have x10 := (b1).cell 0; simp only [gL] at x10); (have x11 := (b1).cell 1; simp only [gL] at x11); have x1f := (b1).frozen; have x1l := (b1).lt
 (have x20 := (b2).cell 0; simp only [gL] at x20); (have x21 := (b2).cell 1; simp only [gL] at x21); have x2f := (b2).frozen; have x2l := (b2).lt
 (have x30 := (b3).cell 0; simp only [gL] at x30); (have x31 := (b3).cell 1; simp only [gL] at x31); have x3f := (b3).frozen; have x3l := (b3).lt
 have B0 := Lib.hid b0; have B1 := Lib.hid b1; have B2 := Lib.hid b2; have B3 := Lib.hid b3
 clear b0 b1 b2 b3
 obtain ⟨P, hP⟩ : ∃ P, P = fpF [(ax, ay), (bx, by')] := ⟨_, rfl⟩
 rw [← hP]
 have HP := Lib.hid hP
 clear hP
 simp only [Bx.v]
 go_wp2_with fail
 (go_at_call 150; refine (fromPoints_any _ _ (cx, cy) [(dx, dy)] _ (sl2 cx cy dx dy (Bk.new' (by simp))) (by simp) (by simp)).mono ?_; rintro e w2 ⟨rfl, hg2⟩)
 have b0 := ((B0.out.alloc (.cells (Bx.cs P) 210)).alloc (.cells #[.int .i64 cx, .int .i64 cy, .int .i64 dx, .int .i64 dy] 23)).grw hg2
 have b1 := ((B1.out.alloc (.cells (Bx.cs P) 210)).alloc (.cells #[.int .i64 cx, .int .i64 cy, .int .i64 dx, .int .i64 dy] 23)).grw hg2
 have b2 := ((B2.out.alloc (.cells (Bx.cs P) 210)).alloc (.cells #[.int .i64 cx, .int .i64 cy, .int .i64 dx, .int .i64 dy] 23)).grw hg2
 have b3 := ((B3.out.alloc (.cells (Bx.cs P) 210)).alloc (.cells #[.int .i64 cx, .int .i64 cy, .int .i64 dx, .int .i64 dy] 23)).grw hg2
 have b4 : Bk w2 w1.heap.size 210 (Bx.cs P) := ((Bk.new' (w := w1) (t := 210) (cs := Bx.cs P) rfl).alloc (.cells #[.int .i64 cx, .int .i64 cy, .int .i64 dx, .int .i64 dy] 23)).grw hg2
 have hw2 : Grw w w2 := by (repeat with_reducible first | exact .refl _ | assumption | refine .setAt ?_ (by first | omega | simp <;> omega) _ | refine .alloc ?_ _ | refine .drewN ?_ _ | refine .drew ?_ | refine .trans ?_ (by assumption))
 clear hg2 hw1
 clear x00 x01 x0f x0l x10 x11 x1f x1l x20 x21 x2f x2l x30 x31 x3f x3l
 obtain ⟨Q, hQ⟩ : ∃ Q, Q = fpF [(cx, cy), (dx, dy)] := ⟨_, rfl⟩
 rw [← hQ]
 have HQ := Lib.hid hQ
 clear hQ
 simp only [Bx.v]
 have HB := Lib.hid (show _ ∧ _ ∧ _ ∧ _ ∧ _ from ⟨b0, b1, b2, b3, b4⟩)
 clear b0 b1 b2 b3 b4
 go_upto_region 3 with (fail)
 refine wp_gen (fun x => Grw w x ∧ (Bk x (w.heap.size) 23 #[.int .i64 ax, .int .i64 ay] ∧ Bk x (w.heap.size + 1) 23 #[.int .i64 bx, .int .i64 by'] ∧ Bk x (w.heap.size + 1 + 1) 23 #[.int .i64 cx, .int .i64 cy] ∧ Bk x (w.heap.size + 1 + 1 + 1) 23 #[.int .i64 dx, .int .i64 dy]) ∧ Bk x w1.heap.size 210 (Bx.cs P) ∧ Bk x w2.heap.size 210 (Bx.cs Q)) ⟨by (repeat with_reducible first | exact .refl _ | assumption | refine .setAt ?_ (by first | omega | simp <;> omega) _ | refine .alloc ?_ _ | refine .drewN ?_ _ | refine .drew ?_ | refine .trans ?_ (by assumption)), ⟨HB.out.1.alloc _, HB.out.2.1.alloc _, HB.out.2.2.1.alloc _, HB.out.2.2.2.1.alloc _⟩, HB.out.2.2.2.2.alloc _, Bk.new' rfl⟩ ?_
 rintro w3 ⟨hw3, ⟨b0, b1, b2, b3⟩, b4, b5⟩
 clear HB hw2
 unfold Bx.cs at b4 b5
 (have x00 := (b0).cell 0; simp only [gL] at x00); (have x01 := (b0).cell 1; simp only [gL] at x01); have x0f := (b0).frozen; have x0l := (b0).lt
 (have x10 := (b1).cell 0; simp only [gL] at x10); (have x11 := (b1).cell 1; simp only [gL] at x11); have x1f := (b1).frozen; have x1l := (b1).lt
 (have x20 := (b2).cell 0; simp only [gL] at x20); (have x21 := (b2).cell 1; simp only [gL] at x21); have x2f := (b2).frozen; have x2l := (b2).lt
 (have x30 := (b3).cell 0; simp only [gL] at x30); (have x31 := (b3).cell 1; simp only [gL] at x31); have x3f := (b3).frozen; have x3l := (b3).lt
 (have x40 := (b4).cell 0; simp only [gL] at x40); (have x41 := (b4).cell 1; simp only [gL] at x41); (have x42 := (b4).cell 2; simp only [gL] at x42); (have x43 := (b4).cell 3; simp only [gL] at x43); have x4f := (b4).frozen; have x4l := (b4).lt
 (have x50 := (b5).cell 0; simp only [gL] at x50); (have x51 := (b5).cell 1; simp only [gL] at x51); (have x52 := (b5).cell 2; simp only [gL] at x52); (have x53 := (b5).cell 3; simp only [gL] at x53); have x5f := (b5).frozen; have x5l := (b5).lt
 clear b0 b1 b2 b3 b4 b5
 (have hwr0 : IntKind.i64.wrap ((orientI ax ay bx by' cx cy) * (orientI ax ay bx by' dx dy)) = (orientI ax ay bx by' cx cy) * (orientI ax ay bx by' dx dy) := IntWalk.i64_in _ (by omega)); (have hwr1 : IntKind.i64.wrap ((orientI cx cy dx dy ax ay) * (orientI cx cy dx dy bx by')) = (orientI cx cy dx dy ax ay) * (orientI cx cy dx dy bx by') := IntWalk.i64_in _ (by omega))
 (refine wp_region_flow (by kernel_rfl) (by kernel_rfl) ?_; (repeat (refine wpQ_step (fun K hK => ?_); go_simp; first | (refine hK _ ?_; clear hK K) | (apply Exists.intro; refine ⟨fun _ => ?_, hK _ ?_⟩; (first | (go_at_call 38; exact (orient_any _ _ _ _ _ _ _))); clear hK K))); refine wpQ_nil ?_)
 intro w4 hg4
 clear hwr0 hwr1
 obtain ⟨hc4, hf4⟩ := hg4.cells
 have y40 := (hc4 _ 0 x4l).trans x40
 have y41 := (hc4 _ 1 x4l).trans x41
 have y42 := (hc4 _ 2 x4l).trans x42
 have y43 := (hc4 _ 3 x4l).trans x43
 have y50 := (hc4 _ 0 x5l).trans x50
 have y51 := (hc4 _ 1 x5l).trans x51
 have y52 := (hc4 _ 2 x5l).trans x52
 have y53 := (hc4 _ 3 x5l).trans x53
 clear hc4 hf4
 go_wp2_with (first | (go_at_call 151; refine (Overlaps_any _ _ _ _ _ _ _ _ _).mono ?_; rintro e w1 ⟨rfl, hg1⟩))
 go_ret
 exact ⟨ret_bool (by rw [HRES.out, ← HP.out, ← HQ.out]; rfl), by (repeat with_reducible first | exact .refl _ | assumption | refine .setAt ?_ (by first | omega | simp <;> omega) _ | refine .alloc ?_ _ | refine .drewN ?_ _ | refine .drew ?_ | refine .trans ?_ (by assumption))⟩
theorem intersects_any (ax ay bx by' cx cy dx dy : Int) (w : World)  :
   Calls Tryz.prog 82 #[.agg #[.int .i64 (ax), .int .i64 (ay)], .agg #[.int .i64 (bx), .int .i64 (by')], .agg #[.int .i64 (cx), .int .i64 (cy)], .agg #[.int .i64 (dx), .int .i64 (dy)]] w fun e w' => e = .returned (.bool (itI ax ay bx by' cx cy dx dy)) ∧ Grw w w' := by
 by_cases h1 : 0 < orientI ax ay bx by' cx cy * orientI ax ay bx by' dx dy
 · exact intersects_a ax ay bx by' cx cy dx dy w h1
 · by_cases h2 : 0 < orientI cx cy dx dy ax ay * orientI cx cy dx dy bx by'
   · exact intersects_b ax ay bx by' cx cy dx dy w h1 h2
   · exact intersects_c ax ay bx by' cx cy dx dy w h1 h2
def inReachB (x y : Int) : Bool := decide (-1048576 ≤ x ∧ x ≤ 1048576 ∧ -1048576 ≤ y ∧ y ≤ 1048576)
theorem inReach_any (a b : Int) (w : World) :
   Calls Tryz.prog 278 #[.agg #[.int .i64 (a), .int .i64 (b)]] w fun e w' => e = .returned (.bool (inReachB a b)) ∧ Grw w w' := by
 go_enter Tryz.func278, Tryz.ntmps278
 go_wp2_with fail
 all_goals
   go_ret
   exact ⟨ret_bool (by rw [Bool.eq_iff_iff]; simp [inReachB] at *; omega), by (repeat with_reducible first | exact .refl _ | assumption | refine .setAt ?_ (by first | omega | simp <;> omega) _ | refine .alloc ?_ _ | refine .drewN ?_ _ | refine .drew ?_ | refine .trans ?_ (by assumption))⟩
def allReachB (l : List (Int × Int)) : Bool := l.all fun p => inReachB p.1 p.2
theorem all_take_succ {α : Type} (f : α → Bool) (l : List α) (k : Nat) (x : α) (h : l[k]? = some x) : (l.take (k + 1)).all f = ((l.take k).all f && f x) := by
 rw [List.take_add_one, h, List.all_append]; simp
theorem all_false {α : Type} (f : α → Bool) (l : List α) (k : Nat) (x : α) (h : l[k]? = some x) (hf : f x = false) : l.all f = false := by
 rw [Bool.eq_false_iff]; intro ha
 have := List.all_eq_true.1 ha x (List.mem_of_getElem? h)
 rw [hf] at this; cases this
theorem allInReach_any (a : Option Addr) (cap : Nat) (l : List (Int × Int)) (w : World) (hs : Sl 2 encV w a l) (hl : l.length < 4611686018427387904) :
   Calls Tryz.prog 217 #[.slice a l.length cap] w fun e w' => e = .returned (.bool (allReachB l)) ∧ Grw w w' := by
 have HS := Lib.hid hs
 clear hs
 go_enter Tryz.func217, Tryz.ntmps217
 go_wp2_with fail
 go_loopg [7] l.length (fun g v wr => ∃ k : Nat, v = .int .i64 k ∧ k ≤ l.length ∧ l.length - k ≤ g ∧ Grw w wr ∧ allReachB (l.take k) = true)
 case atStart => exact ⟨0, rfl, Nat.zero_le _, Nat.le_refl _, Grw.refl _, rfl⟩
 case round =>
   obtain ⟨k, rfl, hk, hg, hgr, hA⟩ := hrel
   rcases Nat.lt_or_ge k l.length with hlt | hge
   · obtain ⟨x, hx⟩ : ∃ x, l[k]? = some x := ⟨l[k], List.getElem?_eq_getElem hlt⟩
     obtain ⟨b, off, rfl, hb2, x0, x1⟩ := (HS.out.grw hgr).vec hx
     have HX := Lib.hid hx
     have HA := Lib.hid hA
     clear hx hA
     cases hr : inReachB x.1 x.2
     · have HR := Lib.hid (all_false (fun p => inReachB p.1 p.2) l k x HX.out hr)
       go_wp2_with (first | (go_at_call 278; refine (inReach_any _ _ _).mono ?_; rintro e w1 ⟨rfl, hg1⟩))
       go_ret
       exact ⟨ret_bool HR.out.symm, by (repeat with_reducible first | exact .refl _ | assumption | refine .setAt ?_ (by first | omega | simp <;> omega) _ | refine .alloc ?_ _ | refine .drewN ?_ _ | refine .drew ?_ | refine .trans ?_ (by assumption))⟩
     · have HR := Lib.hid (all_take_succ (fun p => inReachB p.1 p.2) l k x HX.out)
       go_wp2_with (first | (go_at_call 278; refine (inReach_any _ _ _).mono ?_; rintro e w1 ⟨rfl, hg1⟩))
       go_roundg (l.length - (k + 1))
       case measure => omega
       case rel => exact ⟨k + 1, by go_num, by omega, Nat.le_refl _, by (repeat with_reducible first | exact .refl _ | assumption | refine .setAt ?_ (by first | omega | simp <;> omega) _ | refine .alloc ?_ _ | refine .drewN ?_ _ | refine .drew ?_ | refine .trans ?_ (by assumption)), by unfold allReachB at *; rw [HR.out, HA.out, hr]; rfl⟩
   · obtain rfl : k = l.length := by omega
     rw [List.take_of_length_le (Nat.le_refl _)] at hA
     have HA := Lib.hid hA
     clear hA
     go_wp2_with fail
     go_ret
     exact ⟨ret_bool HA.out.symm, by (repeat with_reducible first | exact .refl _ | assumption | refine .setAt ?_ (by first | omega | simp <;> omega) _ | refine .alloc ?_ _ | refine .drewN ?_ _ | refine .drew ?_ | refine .trans ?_ (by assumption))⟩
def ptL (l : List (Int × Int)) (i : Nat) : Int × Int := l.getD i (0, 0)
theorem ptL_of {l : List (Int × Int)} {i : Nat} {x : Int × Int} (h : l[i]? = some x) : ptL l i = x := by simp [ptL, List.getD, h]
def orL (l : List (Int × Int)) (i j k : Nat) : Int := orientI (ptL l i).1 (ptL l i).2 (ptL l j).1 (ptL l j).2 (ptL l k).1 (ptL l k).2
def cvPair (l : List (Int × Int)) (i k : Nat) : Bool := decide (k = i) || decide (k = (i + 1) % l.length) || decide (orL l i ((i + 1) % l.length) k = 1)
def cvRow (l : List (Int × Int)) (i m : Nat) : Bool := (List.range m).all (cvPair l i)
def cvTo (l : List (Int × Int)) (m : Nat) : Bool := (List.range m).all fun i => cvRow l i l.length
def convexB (l : List (Int × Int)) : Bool := decide (3 ≤ l.length) && decide (l.length ≤ 8) && allReachB l && cvTo l l.length
theorem range_all_succ (f : Nat → Bool) (m : Nat) : (List.range (m + 1)).all f = ((List.range m).all f && f m) := by rw [List.range_succ, List.all_append]; simp
theorem range_all_false (f : Nat → Bool) (m i : Nat) (h : i < m) (hf : f i = false) : (List.range m).all f = false := by
 rw [Bool.eq_false_iff]; intro ha
 have := List.all_eq_true.1 ha i (List.mem_range.2 h)
 rw [hf] at this; cases this
theorem isConvex_any (a : Option Addr) (cap : Nat) (l : List (Int × Int)) (w : World) (hs : Sl 2 encV w a l) (hl : l.length < 4611686018427387904) :
   Calls Tryz.prog 140 #[.slice a l.length cap] w fun e w' => e = .returned (.bool (convexB l)) ∧ Grw w w' := by
 have HS := Lib.hid hs
 rcases Nat.lt_or_ge l.length 3 with h3 | h3
 · have HC := Lib.hid (show convexB l = false by unfold convexB; simp; omega)
   clear hs
   go_enter Tryz.func140, Tryz.ntmps140
   go_wp2_with fail
   go_ret
   exact ⟨ret_bool HC.out.symm, by (repeat with_reducible first | exact .refl _ | assumption | refine .setAt ?_ (by first | omega | simp <;> omega) _ | refine .alloc ?_ _ | refine .drewN ?_ _ | refine .drew ?_ | refine .trans ?_ (by assumption))⟩
 rcases Nat.lt_or_ge 8 l.length with h8 | h8
 · have HC := Lib.hid (show convexB l = false by unfold convexB; simp; omega)
   clear hs
   go_enter Tryz.func140, Tryz.ntmps140
   go_wp2_with fail
   go_ret
   exact ⟨ret_bool HC.out.symm, by (repeat with_reducible first | exact .refl _ | assumption | refine .setAt ?_ (by first | omega | simp <;> omega) _ | refine .alloc ?_ _ | refine .drewN ?_ _ | refine .drew ?_ | refine .trans ?_ (by assumption))⟩
 cases hr : allReachB l
 · have HC := Lib.hid (show convexB l = false by unfold convexB; rw [hr]; simp)
   clear hs
   go_enter Tryz.func140, Tryz.ntmps140
   go_wp2_with (first | (go_at_call 217; refine (allInReach_any _ _ _ _ HS.out hl).mono ?_; rintro e w1 ⟨rfl, hg1⟩))
   go_ret
   exact ⟨ret_bool HC.out.symm, by (repeat with_reducible first | exact .refl _ | assumption | refine .setAt ?_ (by first | omega | simp <;> omega) _ | refine .alloc ?_ _ | refine .drewN ?_ _ | refine .drew ?_ | refine .trans ?_ (by assumption))⟩
 have HC := Lib.hid (show convexB l = cvTo l l.length by unfold convexB; rw [hr]; simp [h3, h8])
 clear hs
 go_enter Tryz.func140, Tryz.ntmps140
 go_wp2_with (first | (go_at_call 217; refine (allInReach_any _ _ _ _ HS.out hl).mono ?_; rintro e w1 ⟨rfl, hg1⟩))
 go_loopg [24, 4, 5, 6, 7, 8] l.length (fun g v v4 v5 v6 v7 v8 wr => ∃ i : Nat, v = .int .i64 i ∧ i ≤ l.length ∧ l.length - i ≤ g ∧ Grw w wr ∧ cvTo l i = true)
 case atStart => exact ⟨0, rfl, Nat.zero_le _, Nat.le_refl _, hg1, rfl⟩
 case round =>
   obtain ⟨i, rfl, hi, hg, hgr, hA⟩ := hrel
   have HA := Lib.hid hA
   clear hA
   rcases Nat.lt_or_ge i l.length with hlt | hge
   · obtain ⟨x, hx⟩ : ∃ x, l[i]? = some x := ⟨l[i], List.getElem?_eq_getElem hlt⟩
     obtain ⟨b, off, rfl, hb2, x0, x1⟩ := (HS.out.grw hgr).vec hx
     have HX := Lib.hid (ptL_of hx)
     clear hx
     obtain ⟨j, hj⟩ : ∃ j : Nat, j = (i + 1) % l.length := ⟨_, rfl⟩
     have hjl : j < l.length := by rw [hj]; exact Nat.mod_lt _ (by omega)
     have hjm : ((i : Int) + 1) % (l.length : Int) = (j : Int) := by rw [hj]; simp
     have HJ := Lib.hid hj
     clear hj
     obtain ⟨wo, rfl⟩ : ∃ wo : World, wo = wr := ⟨_, rfl⟩
     go_wp2_with fail
     have HM := Lib.hid hjm
     clear hjm
     rw [HM.out]
     have hb0 := Bk.new wo 23 #[.int .i64 x.1, .int .i64 x.2]
     have hg0 : Grw wo (wo.alloc (.cells #[.int .i64 x.1, .int .i64 x.2] 23)) := (Grw.refl wo).alloc _
     go_loopg [35, 7, 8] l.length (fun g v v7 v8 wr => ∃ k : Nat, v = .int .i64 k ∧ k ≤ l.length ∧ l.length - k ≤ g ∧ Grw wo wr ∧ Bk wr wo.heap.size 23 #[.int .i64 x.1, .int .i64 x.2] ∧ cvRow l i k = true)
     case atStart => exact ⟨0, rfl, Nat.zero_le _, Nat.le_refl _, hg0, hb0, rfl⟩
     case round =>
       obtain ⟨k, rfl, hk, hgk, hgr2, hB, hR⟩ := hrel
       have HR := Lib.hid hR
       clear hR hb0 hg0 x0 x1
       rcases Nat.lt_or_ge k l.length with hltk | hgek
       · obtain ⟨y, hy⟩ : ∃ y, l[k]? = some y := ⟨l[k], List.getElem?_eq_getElem hltk⟩
         obtain ⟨z, hz⟩ : ∃ z, l[j]? = some z := ⟨l[j], List.getElem?_eq_getElem hjl⟩
         obtain ⟨_, _, e1, hb3, y0, y1⟩ := (HS.out.grw (hgr.trans hgr2)).vec hy
         cases e1
         have HY := Lib.hid (ptL_of hy)
         have HZ := Lib.hid (ptL_of hz)
         have HZ0 := Lib.hid hz
         have hor : orL l i ((i + 1) % l.length) k = orientI x.1 x.2 z.1 z.2 y.1 y.2 := by unfold orL; rw [← HJ.out, HX.out, HZ.out, HY.out]
         have HO := Lib.hid hor
         have HBB := Lib.hid hB
         clear hy hz hor hB
         go_upto_region 11 with (fail)
         refine wp_gen (fun x' => Grw wr x' ∧ Bk x' wo.heap.size 23 #[.int .i64 x.1, .int .i64 x.2] ∧ Bk x' wr.heap.size 23 #[.int .i64 y.1, .int .i64 y.2]) ⟨(Grw.refl wr).alloc _, HBB.out.alloc _, Bk.new' rfl⟩ ?_
         rintro w3 ⟨hg3, hB3, hY3⟩
         obtain ⟨_, _, e1, hb4, z0, z1⟩ := (HS.out.grw ((hgr.trans hgr2).trans hg3)).vec HZ0.out
         cases e1
         (have p0 := (hB3).cell 0; simp only [gL] at p0); (have p1 := (hB3).cell 1; simp only [gL] at p1); have pf := (hB3).frozen; have pl := (hB3).lt
         (have q0 := (hY3).cell 0; simp only [gL] at q0); (have q1 := (hY3).cell 1; simp only [gL] at q1); have qf := (hY3).frozen; have ql := (hY3).lt
         have HB3 := Lib.hid hB3
         clear hB3 hY3 y0 y1
         have hpair : cvPair l i k = (decide (k = i) || decide (k = j) || decide (orientI x.1 x.2 z.1 z.2 y.1 y.2 = 1)) := by unfold cvPair; rw [HO.out, ← HJ.out]
         have HP := Lib.hid hpair
         clear hpair
         by_cases h1 : k = i
         · have HQ := Lib.hid (show cvPair l i k = true by rw [HP.out]; simp [h1])
           have hn1 : ((k : Int) != (i : Int)) = false := by simp [h1]
           clear h1
           (refine wp_region_flow (by kernel_rfl) (by kernel_rfl) ?_; (repeat (refine wpQ_step (fun K hK => ?_); go_simp; first | (refine hK _ ?_; clear hK K) | (apply Exists.intro; refine ⟨fun _ => ?_, hK _ ?_⟩; (first | (go_at_call 38; exact (orient_any _ _ _ _ _ _ _))); clear hK K))); refine wpQ_nil ?_)
           intro w4 hg4
           go_wp2_with fail
           go_roundg (l.length - (k + 1))
           case measure => omega
           case rel => exact ⟨k + 1, by go_num, by omega, Nat.le_refl _, by (repeat with_reducible first | exact .refl _ | assumption | refine .setAt ?_ (by first | omega | simp <;> omega) _ | refine .alloc ?_ _ | refine .drewN ?_ _ | refine .drew ?_ | refine .trans ?_ (by assumption)), HB3.out.grw hg4, by unfold cvRow at *; rw [range_all_succ, HR.out, HQ.out]; rfl⟩
         by_cases h2 : k = j
         · have HQ := Lib.hid (show cvPair l i k = true by rw [HP.out]; simp [h2])
           have hn1 : ((k : Int) != (i : Int)) = true := by simp; omega
           have hn2 : ((k : Int) != (j : Int)) = false := by simp [h2]
           clear h1 h2
           (refine wp_region_flow (by kernel_rfl) (by kernel_rfl) ?_; (repeat (refine wpQ_step (fun K hK => ?_); go_simp; first | (refine hK _ ?_; clear hK K) | (apply Exists.intro; refine ⟨fun _ => ?_, hK _ ?_⟩; (first | (go_at_call 38; exact (orient_any _ _ _ _ _ _ _))); clear hK K))); refine wpQ_nil ?_)
           intro w4 hg4
           go_wp2_with fail
           go_roundg (l.length - (k + 1))
           case measure => omega
           case rel => exact ⟨k + 1, by go_num, by omega, Nat.le_refl _, by (repeat with_reducible first | exact .refl _ | assumption | refine .setAt ?_ (by first | omega | simp <;> omega) _ | refine .alloc ?_ _ | refine .drewN ?_ _ | refine .drew ?_ | refine .trans ?_ (by assumption)), HB3.out.grw hg4, by unfold cvRow at *; rw [range_all_succ, HR.out, HQ.out]; rfl⟩
         have hn1 : ((k : Int) != (i : Int)) = true := by simp; omega
         have hn2 : ((k : Int) != (j : Int)) = true := by simp; omega
         by_cases h4 : orientI x.1 x.2 z.1 z.2 y.1 y.2 = 1
         · have HQ := Lib.hid (show cvPair l i k = true by rw [HP.out]; simp [h4])
           have hn3 : (orientI x.1 x.2 z.1 z.2 y.1 y.2 != 1) = false := by simp [h4]
           clear h1 h2 h4
           (refine wp_region_flow (by kernel_rfl) (by kernel_rfl) ?_; (repeat (refine wpQ_step (fun K hK => ?_); go_simp; first | (refine hK _ ?_; clear hK K) | (apply Exists.intro; refine ⟨fun _ => ?_, hK _ ?_⟩; (first | (go_at_call 38; exact (orient_any _ _ _ _ _ _ _))); clear hK K))); refine wpQ_nil ?_)
           intro w4 hg4
           go_wp2_with fail
           go_roundg (l.length - (k + 1))
           case measure => omega
           case rel => exact ⟨k + 1, by go_num, by omega, Nat.le_refl _, by (repeat with_reducible first | exact .refl _ | assumption | refine .setAt ?_ (by first | omega | simp <;> omega) _ | refine .alloc ?_ _ | refine .drewN ?_ _ | refine .drew ?_ | refine .trans ?_ (by assumption)), HB3.out.grw hg4, by unfold cvRow at *; rw [range_all_succ, HR.out, HQ.out]; rfl⟩
         · have HQ := Lib.hid (show cvPair l i k = false by rw [HP.out]; simp [h1, h2, h4])
           have HF := Lib.hid (show cvTo l l.length = false from range_all_false _ _ i hlt (range_all_false _ _ k hltk HQ.out))
           have hn3 : (orientI x.1 x.2 z.1 z.2 y.1 y.2 != 1) = true := by simp [h4]
           clear h1 h2 h4
           (refine wp_region_flow (by kernel_rfl) (by kernel_rfl) ?_; (repeat (refine wpQ_step (fun K hK => ?_); go_simp; first | (refine hK _ ?_; clear hK K) | (apply Exists.intro; refine ⟨fun _ => ?_, hK _ ?_⟩; (first | (go_at_call 38; exact (orient_any _ _ _ _ _ _ _))); clear hK K))); refine wpQ_nil ?_)
           intro w4 hg4
           go_wp2_with fail
           go_ret
           exact ⟨ret_bool (HC.out.trans HF.out).symm, by (repeat with_reducible first | exact .refl _ | assumption | refine .setAt ?_ (by first | omega | simp <;> omega) _ | refine .alloc ?_ _ | refine .drewN ?_ _ | refine .drew ?_ | refine .trans ?_ (by assumption))⟩
       · obtain rfl : k = l.length := by omega
         have HBB := Lib.hid hB
         clear hB
         go_wp2_with fail
         go_roundg (l.length - (i + 1))
         case measure => omega
         case rel => exact ⟨i + 1, by go_num, by omega, Nat.le_refl _, by (repeat with_reducible first | exact .refl _ | assumption | refine .setAt ?_ (by first | omega | simp <;> omega) _ | refine .alloc ?_ _ | refine .drewN ?_ _ | refine .drew ?_ | refine .trans ?_ (by assumption)), by unfold cvTo at *; rw [range_all_succ, HA.out, HR.out]; rfl⟩
   · obtain rfl : i = l.length := by omega
     go_wp2_with fail
     go_ret
     exact ⟨ret_bool (HC.out.trans HA.out).symm, by (repeat with_reducible first | exact .refl _ | assumption | refine .setAt ?_ (by first | omega | simp <;> omega) _ | refine .alloc ?_ _ | refine .drewN ?_ _ | refine .drew ?_ | refine .trans ?_ (by assumption))⟩
end
section
open Go.RowKit Go.Sort
attribute [local go_sem] qAt qUpon okOp okUpon cell_in_grow frozen_in_grow
structure OnlyChg (S : Nat → Prop) (w w' : World) : Prop where
 os : w'.os = w.os
 tape : w'.tape = w.tape
 output : w'.output = w.output
 size : w.heap.size ≤ w'.heap.size
 block : ∀ k, k < w.heap.size → ¬ S k → w'.heap[k]? = w.heap[k]?
theorem OnlyChg.refl (S : Nat → Prop) (w : World) : OnlyChg S w w := ⟨rfl, rfl, rfl, Nat.le_refl _, fun _ _ _ => rfl⟩
theorem OnlyChg.trans {S : Nat → Prop} {a b c : World} (h : OnlyChg S a b) (k : OnlyChg S b c) : OnlyChg S a c :=
 ⟨k.os.trans h.os, k.tape.trans h.tape, k.output.trans h.output, Nat.le_trans h.size k.size, fun i hi hs => (k.block i (Nat.lt_of_lt_of_le hi h.size) hs).trans (h.block i hi hs)⟩
theorem OnlyChg.mono {S S' : Nat → Prop} {a b : World} (h : OnlyChg S a b) (hs : ∀ k, k < a.heap.size → S k → S' k) : OnlyChg S' a b :=
 ⟨h.os, h.tape, h.output, h.size, fun i hi hn => h.block i hi fun hS => hn (hs i hi hS)⟩
theorem OnlyChg.grw {S : Nat → Prop} {a b c : World} (h : OnlyChg S a b) (k : Grw b c) : OnlyChg S a c :=
 h.trans ⟨k.below.os, k.below.tape, k.below.output, k.below.size, fun i hi _ => k.below.block i hi⟩
theorem OnlyChg.set {S : Nat → Prop} {a b : World} (h : OnlyChg S a b) {p j : Nat} (hp : S p) (v : Value) : OnlyChg S a (b.setCell ⟨p, j, none⟩ v) :=
 h.trans ⟨rfl, rfl, rfl, by simp [World.setCell], fun i hi hs => Below.heap_setCell b ⟨p, j, none⟩ v i (fun e => hs (e ▸ hp))⟩
theorem OnlyChg.set1 {n : Nat} {a b : World} (h : OnlyChg (fun k => k = n) a b) {j : Nat} (v : Value) : OnlyChg (fun k => k = n) a (b.setCell ⟨n, j, none⟩ v) := h.set (S := fun k => k = n) rfl v
theorem OnlyChg.of_grw {S : Nat → Prop} {a b : World} (h : Grw a b) : OnlyChg S a b := (OnlyChg.refl S a).grw h
theorem OnlyChg.toGrw {a b : World} (h : OnlyChg (fun _ => False) a b) : Grw a b := by
 refine ⟨⟨b.drawn, b.heap.extract a.heap.size b.heap.size⟩, ?_⟩
 have hh : b.heap = a.heap ++ b.heap.extract a.heap.size b.heap.size := by
   apply Array.ext_getElem?
   intro i
   rcases Nat.lt_or_ge i a.heap.size with hi | hi
   · rw [h.block i hi (by simp), Array.getElem?_append_left hi]
   · rw [Array.getElem?_append_right hi, Array.getElem?_extract]
     have hs := h.size
     split
     · congr 1; omega
     · rw [Array.getElem?_eq_none (by omega)]
 obtain ⟨ah, at', ad, ao, au⟩ := a
 obtain ⟨bh, bt, bd, bo, bu⟩ := b
 exact (World.mk.injEq _ _ _ _ _ _ _ _ _ _).mpr ⟨hh, h.tape, rfl, h.os, h.output⟩
theorem OnlyChg.near {S : Nat → Prop} {a b : World} (h : OnlyChg S a b) (hs : ∀ k, S k → a.heap.size ≤ k) : Grw a b := (h.mono (S' := fun _ => False) fun k hk hS => by have := hs k hS; omega).toGrw
def OwnL {α : Type} (e size : Nat) (enc : α → List Value) (w : World) (base : Nat) (v : Value) (xs : List α) : Prop := w.ownsRow base e size v xs.length (xs.flatMap enc)
theorem OwnL.nil {α : Type} (e size : Nat) (enc : α → List Value) (w : World) (base : Nat) : OwnL e size enc w base (.slice none 0 0) ([] : List α) := World.ownsRow_nil w base e size
theorem OwnL.keep {α : Type} {e size : Nat} {enc : α → List Value} {w w' : World} {base : Nat} {v : Value} {xs : List α} {S : Nat → Prop} (h : OwnL e size enc w base v xs) (hc : OnlyChg S w w') (hs : ∀ b, v.ownBlock = some b → ¬ S b) : OwnL e size enc w' base v xs := by
 obtain ⟨h1, h2 | ⟨g, cap, cur, rfl, h3, h4, h5⟩⟩ := h
 · exact ⟨h1, .inl h2⟩
 · exact ⟨h1, .inr ⟨g, cap, cur, rfl, h3, (hc.block g (Array.getElem?_eq_some_iff.1 h4).1 (hs g rfl)).trans h4, h5⟩⟩
theorem OwnL.grw {α : Type} {e size : Nat} {enc : α → List Value} {w w' : World} {base : Nat} {v : Value} {xs : List α} (h : OwnL e size enc w base v xs) (hg : Grw w w') : OwnL e size enc w' base v xs := h.keep (OnlyChg.of_grw (S := fun _ => False) hg) (by simp)
theorem OwnL.base_le {α : Type} {e size : Nat} {enc : α → List Value} {w : World} {base : Nat} {v : Value} {xs : List α} (h : OwnL e size enc w base v xs) (b : Nat) (hb : v.ownBlock = some b) : base ≤ b ∧ b < w.heap.size := by
 obtain ⟨h1, ⟨rfl, _⟩ | ⟨g, cap, cur, rfl, h3, h4, h5⟩⟩ := h
 · simp [Value.ownBlock] at hb
 · simp only [Value.ownBlock, Option.some.injEq] at hb
   subst hb
   exact ⟨h3, (Array.getElem?_eq_some_iff.1 h4).1⟩
theorem OwnL.form {α : Type} {e size : Nat} {enc : α → List Value} {w : World} {base : Nat} {v : Value} {xs : List α} (h : OwnL e size enc w base v xs) : (v = .slice none 0 0 ∧ xs = []) ∨ ∃ g cap, v = .slice (some ⟨g, 0, none⟩) xs.length cap ∧ base ≤ g ∧ g < w.heap.size ∧ xs.length ≤ cap ∧ cap ≤ maxLen := by
 obtain ⟨h1, ⟨rfl, h2⟩ | ⟨g, cap, cur, rfl, h3, h4, h5, h6, _⟩⟩ := h
 · exact .inl ⟨rfl, List.length_eq_zero_iff.1 h2⟩
 · exact .inr ⟨g, cap, rfl, h3, (Array.getElem?_eq_some_iff.1 h4).1, h5, h6⟩
section
variable {α : Type} {ops : Array Oper} {rest : List Oper} {o : Oper} {a : Act} {Q : Exit → Act → World → Prop}
theorem wpList_push {enc : α → List Value} {e size bytes t : Nat} {z : Value} (hk : ∀ x, (enc x).length = size) (h1 : ∀ x, ∀ u ∈ enc x, u.oneCell' = true) {W : World} (base : Nat) (hgd : o.guard = none) (s x : Operand)
   (ho : o.op = .call { callee := .builtin .append, args := #[s, x], argTypes := #[t, t] })
   (ht : Tryz.prog.underlying t = some (.slice e)) (hinfo : (Tryz.prog.info? e).map (fun i => (i.zero, i.size, i.bytes)) = some (some z, size, bytes)) (hz : z.cells.size = size) (hsz : 0 < size) (hb0 : 0 < bytes)
   (v : Value) (xs : List α) (y : α) (cs : Array Value) (hcs : cs = (enc y).toArray) (hs : a.eval s = v) (hx : a.eval x = .slice (some ⟨W.heap.size, 0, none⟩) 1 1)
   (HO : OwnL e size enc W base v xs) (hbase : base ≤ W.heap.size) (hl : (xs.length + 1) * bytes ≤ 140737488355328)
   (h : ∀ v1 w1, OwnL e size enc w1 base v1 (xs ++ [y]) → OnlyChg (fun k => v.ownBlock = some k) W w1 → (v1.ownBlock = v.ownBlock ∨ ∃ b, v1.ownBlock = some b ∧ W.heap.size ≤ b) → wpList Tryz.prog ops Q rest (a.put o.dst v1) w1) :
   wpList Tryz.prog ops Q (o :: rest) a (W.alloc (.cells cs e)) := by
 subst hcs
 obtain ⟨i0, hi, hzz⟩ := Option.map_eq_some_iff.1 hinfo
 simp only [Prod.mk.injEq] at hzz
 obtain ⟨hz0, hz1, hz2⟩ := hzz
 have hlen : xs.length + 1 ≤ 140737488355328 := Nat.le_trans (Nat.le_mul_of_pos_right _ hb0) hl
 refine wpList_append_own_at (W.alloc (.cells (enc y).toArray e)) hgd s x t ho base e i0 z size bytes ht hi hz0 hz1 hz2 hz hsz v xs.length (xs.flatMap enc) hs (HO.grw ((Grw.refl W).alloc _)) ⟨W.heap.size, 0, none⟩ 1 1 (enc y) hx (by rw [hk]; omega)
   (fun j u hu => ?_) (h1 y) (by simp only [maxLen]; omega) hl (by simp; omega) ?_
 · have e1 : (⟨W.heap.size, 0, none⟩ : Addr).add j = ⟨W.heap.size, j, none⟩ := by unfold Addr.add; split <;> simp_all
   rw [e1, (Bk.new W e (enc y).toArray).cell j]
   simpa using hu
 · intro v1 w1 hown hg _ hat
   refine h v1 w1 ?_ ?_ ?_
   · unfold OwnL; simpa [List.flatMap_append] using hown
   · have k1 : OnlyChg (fun k => v.ownBlock = some k) W (W.alloc (.cells (enc y).toArray e)) := (OnlyChg.refl _ W).grw ((Grw.refl W).alloc _)
     exact k1.trans ⟨hg.os, hg.tape, hg.output, hg.size, fun i hi hs => hg.block i hi (fun e => hs e.symm)⟩
   · rcases hat with hat | hat
     · exact .inl hat
     · exact .inr ⟨_, hat, by simp⟩
end
end
end Go.Proofs.YtokkghhmliplfaaGreat
