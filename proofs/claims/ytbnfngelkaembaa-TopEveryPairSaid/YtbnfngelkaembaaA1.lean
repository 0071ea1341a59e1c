/- Contracts of the leaf functions of packages fixed and aabb, over the translated program; their conditions: the boxes are of 64-bit integers. -/
import Derived.Test.YtbnfngelkaembaaProg
import Derived.WalkKit
import Derived.WalkSpells
import Derived.WalkLawsBesides
import Derived.Deep.QuietTactic
import Derived.BigQuiet
import Derived.Test.YtbnfngelkaembaaB0
import Derived.Lib.Hide
namespace Go.Proofs.Ytbnfngelkaembaa
open Go.RowKit Go.Sort

attribute [local go_sem] qAt qUpon cell_in_grow frozen_in_grow
theorem ret_int {k : IntKind} {a b : Int} (h : a = b) : Ending.returned (.int k a) = .returned (.int k b) := by rw [h]
theorem ret_bool {a b : Bool} (h : a = b) : Ending.returned (.bool a) = .returned (.bool b) := by rw [h]

def sat (x : Int) : Int := if x < -536870911 then -536870911 else if 536870911 < x then 536870911 else x
theorem sat_eq (a : Int) : (sat a = a) ↔ (-536870911 ≤ a ∧ a ≤ 536870911) := by unfold sat; (repeat' split) <;> constructor <;> intro h <;> (try constructor) <;> omega
theorem sat_lo (a : Int) : -536870911 ≤ sat a := by unfold sat; (repeat' split) <;> omega
theorem sat_hi (a : Int) : sat a ≤ 536870911 := by unfold sat; (repeat' split) <;> omega

set_option maxHeartbeats 400000 in
theorem saturate_any (x : Int) (w : World) :
    Calls Try.prog 55 #[.int .i64 x] w fun e w' => e = .returned (.int .i64 (sat x)) ∧ w = w' := by
  go_enter Try.func55, Try.ntmps55
  go_wp2
  all_goals
    go_ret
    exact ⟨ret_int (by unfold sat; (repeat' split) <;> omega), rfl⟩

/-- both components of a vector are saturated -/
def satd (a b : Int) : Bool := decide (-536870911 ≤ a ∧ a ≤ 536870911 ∧ -536870911 ≤ b ∧ b ≤ 536870911)

set_option maxHeartbeats 400000 in
theorem saturated_any (a b : Int) (w : World) :
    Calls Try.prog 37 #[.agg #[.int .i64 a, .int .i64 b]] w fun e w' => e = .returned (.bool (satd a b)) ∧ Grw w w' := by
  by_cases h1 : sat a = a
  · have hd : satd a b = (sat b == b) := by have := (sat_eq a).1 h1; rw [Bool.eq_iff_iff]; simp [satd, sat_eq]; omega
    have hb : (sat a == a) = true := by simp [h1]
    have HD := Lib.hid hd
    clear hd h1
    go_enter Try.func37, Try.ntmps37
    go_wp2_with fail
    go_quiet ((go_at_call 55; exact Calls.quiet_of_same ((saturate_any _ _).mono fun _ _ h => ⟨h.1, h.2.symm⟩)))
    go_wp2_with fail
    go_ret
    exact ⟨ret_bool HD.out.symm, ((Grw.refl w).alloc _).drewN _⟩
  · have hd : satd a b = false := by simp [satd]; rw [sat_eq] at h1; omega
    have hb : (sat a == a) = false := by simp [h1]
    have HD := Lib.hid hd
    clear hd h1
    go_enter Try.func37, Try.ntmps37
    go_wp2_with fail
    go_quiet ((go_at_call 55; exact Calls.quiet_of_same ((saturate_any _ _).mono fun _ _ h => ⟨h.1, h.2.symm⟩)))
    go_wp2_with fail
    go_ret
    exact ⟨ret_bool HD.out.symm, ((Grw.refl w).alloc _).drewN _⟩

/-- a box is valid -/
def validB (a b c d : Int) : Bool := decide (a ≤ c ∧ b ≤ d ∧ -536870911 ≤ a ∧ c ≤ 536870911 ∧ -536870911 ≤ b ∧ d ≤ 536870911)

set_option maxHeartbeats 400000 in
theorem valid_any (a b c d : Int) (w : World) :
    Calls Try.prog 23 #[.agg #[.int .i64 a, .int .i64 b, .int .i64 c, .int .i64 d]] w fun e w' => e = .returned (.bool (validB a b c d)) ∧ Grw w w' := by
  go_enter Try.func23, Try.ntmps23
  go_wp2_with (go_at_call 37; refine (saturated_any _ _ _).mono ?_; rintro e w1 ⟨rfl, hg⟩; obtain ⟨hc, hf⟩ := hg.cells; have hz := hg.size)
  all_goals
    go_ret
    exact ⟨ret_bool (by rw [Bool.eq_iff_iff]; simp [satd, validB] at *; omega), by (repeat (first | exact Grw.refl _ | assumption | refine Grw.trans ?_ (by assumption) | refine Grw.alloc ?_ _ | refine Grw.drewN ?_ _ | refine Grw.drew ?_))⟩

/-- two valid boxes have a common point -/
def ovB (a b c d a' b' c' d' : Int) : Bool := decide (a ≤ c' ∧ a' ≤ c ∧ b ≤ d' ∧ b' ≤ d)

set_option maxHeartbeats 400000 in
theorem overlaps_any (a b c d a' b' c' d' : Int) (w : World) :
    Calls Try.prog 34 #[.agg #[.int .i64 a, .int .i64 b, .int .i64 c, .int .i64 d], .agg #[.int .i64 a', .int .i64 b', .int .i64 c', .int .i64 d']] w fun e w' => e = .returned (.bool (ovB a b c d a' b' c' d')) ∧ Grw w w' := by
  go_enter Try.func34, Try.ntmps34
  go_wp2_with fail
  all_goals
    go_ret
    exact ⟨ret_bool (by rw [Bool.eq_iff_iff]; simp [ovB] at *; omega), by (repeat (first | exact Grw.refl _ | assumption | refine Grw.trans ?_ (by assumption) | refine Grw.alloc ?_ _ | refine Grw.drewN ?_ _ | refine Grw.drew ?_))⟩

set_option maxHeartbeats 400000 in
theorem Overlaps_any (a b c d a' b' c' d' : Int) (w : World) :
    Calls Try.prog 20 #[.agg #[.int .i64 a, .int .i64 b, .int .i64 c, .int .i64 d], .agg #[.int .i64 a', .int .i64 b', .int .i64 c', .int .i64 d']] w fun e w' =>
      e = .returned (.bool (validB a b c d && validB a' b' c' d' && ovB a b c d a' b' c' d')) ∧ Grw w w' := by
  go_enter Try.func20, Try.ntmps20
  go_wp2_with (first | (go_at_call 23; refine (valid_any _ _ _ _ _).mono ?_; rintro e w1 ⟨rfl, hg⟩; (try replace hg := Grw.trans (by assumption) hg); obtain ⟨hc, hf⟩ := hg.cells; have hz := hg.size) | (go_at_call 34; refine (overlaps_any _ _ _ _ _ _ _ _ _).mono ?_; rintro e w1 ⟨rfl, hg⟩; (try replace hg := Grw.trans (by assumption) hg); obtain ⟨hc, hf⟩ := hg.cells; have hz := hg.size))
  all_goals
    go_ret
    exact ⟨ret_bool (by simp_all), by (repeat (first | exact Grw.refl _ | assumption | refine Grw.trans ?_ (by assumption) | refine Grw.alloc ?_ _ | refine Grw.drewN ?_ _ | refine Grw.drew ?_ | refine Grw.setNew ?_ (by simp) _))⟩

set_option maxHeartbeats 400000 in
theorem lower_any (a b a' b' : Int) (w : World) :
    Calls Try.prog 75 #[.agg #[.int .i64 a, .int .i64 b], .agg #[.int .i64 a', .int .i64 b']] w fun e w' =>
      e = .returned (.agg #[.int .i64 (min a a'), .int .i64 (min b b')]) ∧ Grw w w' := by
  go_enter Try.func75, Try.ntmps75
  go_wp2_with fail
  all_goals
    refine bodyPost_ret (v := .agg #[.int .i64 (min a a'), .int .i64 (min b b')]) (by simp [results, Try.results75, go_sem]; omega) rfl ⟨rfl, ?_⟩
    (repeat (first | exact Grw.refl _ | assumption | refine Grw.trans ?_ (by assumption) | refine Grw.alloc ?_ _ | refine Grw.drewN ?_ _ | refine Grw.drew ?_ | refine Grw.setNew ?_ (by simp) _))

set_option maxHeartbeats 400000 in
theorem upper_any (a b a' b' : Int) (w : World) :
    Calls Try.prog 76 #[.agg #[.int .i64 a, .int .i64 b], .agg #[.int .i64 a', .int .i64 b']] w fun e w' =>
      e = .returned (.agg #[.int .i64 (max a a'), .int .i64 (max b b')]) ∧ Grw w w' := by
  go_enter Try.func76, Try.ntmps76
  go_wp2_with fail
  all_goals
    refine bodyPost_ret (v := .agg #[.int .i64 (max a a'), .int .i64 (max b b')]) (by simp [results, Try.results76, go_sem]; omega) rfl ⟨rfl, ?_⟩
    (repeat (first | exact Grw.refl _ | assumption | refine Grw.trans ?_ (by assumption) | refine Grw.alloc ?_ _ | refine Grw.drewN ?_ _ | refine Grw.drew ?_ | refine Grw.setNew ?_ (by simp) _))

set_option maxHeartbeats 400000 in
theorem add_any (a b : Int) (w : World) :
    Calls Try.prog 73 #[.int .i64 a, .int .i64 b] w fun e w' => e = .returned (.int .i64 (sat (sat a + sat b))) ∧ w = w' := by
  have h1 := sat_lo a
  have h2 := sat_hi a
  have h3 := sat_lo b
  have h4 := sat_hi b
  go_enter Try.func73, Try.ntmps73
  go_wp2_with (go_at_call 55; refine (saturate_any _ _).mono ?_; rintro e w1 ⟨rfl, rfl⟩)
  all_goals
    go_ret
    exact ⟨rfl, rfl⟩

set_option maxHeartbeats 400000 in
theorem sub_any (a b : Int) (w : World) :
    Calls Try.prog 74 #[.int .i64 a, .int .i64 b] w fun e w' => e = .returned (.int .i64 (sat (sat a - sat b))) ∧ w = w' := by
  have h1 := sat_lo a
  have h2 := sat_hi a
  have h3 := sat_lo b
  have h4 := sat_hi b
  go_enter Try.func74, Try.ntmps74
  go_wp2_with (go_at_call 55; refine (saturate_any _ _).mono ?_; rintro e w1 ⟨rfl, rfl⟩)
  all_goals
    go_ret
    exact ⟨rfl, rfl⟩

/-- the half perimeter of a box -/
def hpF (a b c d : Int) : Int := if validB a b c d then sat (sat (sat (sat c - sat a)) + sat (sat (sat d - sat b))) else 0

set_option maxHeartbeats 400000 in
theorem hp_any (a b c d : Int) (w : World) :
    Calls Try.prog 56 #[.agg #[.int .i64 a, .int .i64 b, .int .i64 c, .int .i64 d]] w fun e w' => e = .returned (.int .i64 (hpF a b c d)) ∧ Grw w w' := by
  by_cases hv : validB a b c d = true
  · have h : hpF a b c d = sat (sat (sat (sat c - sat a)) + sat (sat (sat d - sat b))) := by unfold hpF; rw [if_pos hv]
    have H := Lib.hid h
    clear h
    go_enter Try.func56, Try.ntmps56
    go_wp2_with (go_at_call 23; refine (valid_any _ _ _ _ _).mono ?_; rintro e w1 ⟨rfl, hg⟩; obtain ⟨hc, hf⟩ := hg.cells; have hz := hg.size)
    have hlt : w.heap.size < w1.heap.size := by simp at hz; omega
    refine wp_region_flow (by kernel_rfl) (by kernel_rfl) ?_
    (repeat (refine wpQ_step (fun K hK => ?_); go_simp; first | (refine hK _ ?_; clear hK K) | (apply Exists.intro; refine ⟨fun _ => ?_, hK _ ?_⟩; (first | (go_at_call 74; exact (sub_any _ _ _).mono fun _ _ h => ⟨h.1, h.2 ▸ Grw.refl _⟩) | (go_at_call 73; exact (add_any _ _ _).mono fun _ _ h => ⟨h.1, h.2 ▸ Grw.refl _⟩)); clear hK K)))
    refine wpQ_nil ?_
    intro w2 hg2
    go_wp2_with fail
    go_ret
    exact ⟨ret_int H.out.symm, by (repeat (first | exact Grw.refl _ | assumption | refine Grw.trans ?_ (by assumption) | refine Grw.alloc ?_ _ | refine Grw.drewN ?_ _ | refine Grw.drew ?_ | refine Grw.setNew ?_ (by simp) _))⟩
  · have h : hpF a b c d = 0 := by unfold hpF; rw [if_neg hv]
    have H := Lib.hid h
    clear h
    go_enter Try.func56, Try.ntmps56
    go_wp2_with (go_at_call 23; refine (valid_any _ _ _ _ _).mono ?_; rintro e w1 ⟨rfl, hg⟩; obtain ⟨hc, hf⟩ := hg.cells; have hz := hg.size)
    go_ret
    exact ⟨ret_int H.out.symm, by (repeat (first | exact Grw.refl _ | assumption | refine Grw.trans ?_ (by assumption) | refine Grw.alloc ?_ _ | refine Grw.drewN ?_ _ | refine Grw.drew ?_ | refine Grw.setNew ?_ (by simp) _))⟩

set_option maxHeartbeats 400000 in
theorem union_any (a b c d a' b' c' d' : Int) (w : World) (hv : validB a b c d = true) (hv' : validB a' b' c' d' = true) :
    Calls Try.prog 57 #[.agg #[.int .i64 a, .int .i64 b, .int .i64 c, .int .i64 d], .agg #[.int .i64 a', .int .i64 b', .int .i64 c', .int .i64 d']] w fun e w' =>
      e = .returned (.agg #[.int .i64 (min a a'), .int .i64 (min b b'), .int .i64 (max c c'), .int .i64 (max d d')]) ∧ Grw w w' := by
  go_enter Try.func57, Try.ntmps57
  go_wp2_with (go_at_call 23; refine (valid_any _ _ _ _ _).mono ?_; rintro e w1 ⟨rfl, hg⟩; (try replace hg := Grw.trans (by assumption) hg); obtain ⟨hc, hf⟩ := hg.cells; have hz := hg.size)
  have hlt : w.heap.size < w1.heap.size := by simp at hz; omega
  have hlt1 : w.heap.size + 1 < w1.heap.size := by simp at hz; omega
  have hlt2 : w.heap.size + 2 < w1.heap.size := by simp at hz; omega
  refine wp_region_flowA 11 (by kernel_rfl) (by kernel_rfl) ?_
  simp only [List.take_succ_cons, List.take_zero, List.drop_succ_cons, List.drop_zero]
  (repeat (refine wpQ_step (fun K hK => ?_); go_simp; first | (refine hK _ ?_; clear hK K) | (apply Exists.intro; refine ⟨fun _ => ?_, hK _ ?_⟩; (first | (go_at_call 75; exact (lower_any _ _ _ _ _)) | (go_at_call 76; exact (upper_any _ _ _ _ _))); clear hK K)))
  refine wpQ_nil ?_
  intro w2 hg2
  obtain ⟨hc2, hf2⟩ := hg2.cells
  go_wp2_with fail
  refine bodyPost_ret (v := .agg #[.int .i64 (min a a'), .int .i64 (min b b'), .int .i64 (max c c'), .int .i64 (max d d')]) (by simp [results, Try.results57, go_sem, hc2, hc, hlt2]) rfl ⟨rfl, ?_⟩
  (repeat (first | exact Grw.refl _ | assumption | refine Grw.trans ?_ (by assumption) | refine Grw.alloc ?_ _ | refine Grw.drewN ?_ _ | refine Grw.drew ?_ | refine Grw.setAt ?_ (by first | omega | (simp; omega) | (simp; done)) _))

end Go.Proofs.Ytbnfngelkaembaa
