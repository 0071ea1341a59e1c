/- cmp.Compare, cmp.Or of two, and the two comparisons of package sap. -/
import Derived.Test.YtbnfngelkaembaaA19
import Derived.Shelf.SlSortCmp.WholeK
namespace Go.Proofs.Ytbnfngelkaembaa
open Go.RowKit Go.Sort
attribute [local go_sem] qAt qUpon okOp okUpon cell_in_grow frozen_in_grow

theorem nan_any (x : Int) (w : World) : Calls Try.prog 44 #[.int .i64 x] w fun e w' => e = .returned (.bool false) ∧ w = w' := by
  go_enter Try.func44, Try.ntmps44
  go_wp2_with fail
  go_ret
  exact ⟨rfl, rfl⟩

def cmpI (x y : Int) : Int := if x < y then -1 else if y < x then 1 else 0
set_option maxHeartbeats 400000 in
theorem compare_any (x y : Int) (w : World) : Calls Try.prog 33 #[.int .i64 x, .int .i64 y] w fun e w' => e = .returned (.int .i64 (cmpI x y)) ∧ w = w' := by
  unfold cmpI
  by_cases h1 : x < y
  · go_enter Try.func33, Try.ntmps33
    go_wp2_with (go_at_call 44; refine (nan_any _ _).mono ?_; rintro e w' ⟨rfl, rfl⟩)
    go_ret
    exact ⟨by simp [h1], rfl⟩
  · by_cases h2 : y < x
    · go_enter Try.func33, Try.ntmps33
      go_wp2_with (go_at_call 44; refine (nan_any _ _).mono ?_; rintro e w' ⟨rfl, rfl⟩)
      go_ret
      exact ⟨by simp [h1, h2], rfl⟩
    · go_enter Try.func33, Try.ntmps33
      go_wp2_with (go_at_call 44; refine (nan_any _ _).mono ?_; rintro e w' ⟨rfl, rfl⟩)
      go_ret
      exact ⟨by simp [h1, h2], rfl⟩

theorem compare_q (x y : Int) (w : World) : Calls Try.prog 33 #[.int .i64 x, .int .i64 y] w fun e w' => e = .returned (.int .i64 (cmpI x y)) ∧ Grw w w' :=
  (compare_any x y w).mono fun _ _ h => ⟨h.1, h.2 ▸ Grw.refl _⟩

theorem okG_want {P : Program} {ops : Array Oper} {Q : Act → World → Prop} {a : Act} {w : World} {o : Oper} {rest : List Oper} (hw : Region.wanted o (yielded ops a.tmps) = true)
    (h : ∀ w1, Grw w w1 → ∀ K : Act → World → Prop, (∀ a' w2, Grw w1 w2 → okList P ops Q rest a' w2 → K a' w2) → okUpon P (fun v w2 => K (a.put o.dst v) w2) ((execOp a.eval o).run P w1)) : okList P ops Q (o :: rest) a w := by
  intro w1 hw1
  unfold okOp
  rw [if_pos hw]
  exact okUpon_mono (fun v w2 hk => hk) (h w1 hw1 (fun a' w2 => Grw w1 w2 ∧ okList P ops Q rest a' w2) fun a' w2 h1 h2 => ⟨h1, h2⟩)
theorem pair_cells (w : World) (x y : Int) : (w.alloc (.cells #[.int .i64 x, .int .i64 y] 3)).cell? ⟨w.heap.size, 0, none⟩ = some (.int .i64 x) ∧ (w.alloc (.cells #[.int .i64 x, .int .i64 y] 3)).cell? ⟨w.heap.size, 1, none⟩ = some (.int .i64 y) :=
  ⟨cell_of_block (heap_alloc_new w _) 0, cell_of_block (heap_alloc_new w _) 1⟩

def orI (x y : Int) : Int := if x = 0 then y else x
set_option maxHeartbeats 400000 in
theorem or_any (x y : Int) (g : Nat) (w : World) (c0 : w.cell? ⟨g, 0, none⟩ = some (.int .i64 x)) (c1 : w.cell? ⟨g, 1, none⟩ = some (.int .i64 y)) :
    Calls Try.prog 32 #[.slice (some ⟨g, 0, none⟩) 2 2] w fun e w' => e = .returned (.int .i64 (orI x y)) ∧ w = w' := by
  unfold orI
  by_cases h1 : x = 0
  · subst h1
    by_cases h2 : y = 0
    · subst h2
      go_enter Try.func32, Try.ntmps32
      go_wp2_with fail
      go_loopg [8] 2 (fun k v wr => wr = w ∧ ((v = .int .i64 0 ∧ k = 2) ∨ (v = .int .i64 1 ∧ k = 1) ∨ (v = .int .i64 2 ∧ k = 0)))
      case atStart => exact ⟨rfl, .inl ⟨rfl, rfl⟩⟩
      case round =>
        obtain ⟨rfl, ⟨rfl, rfl⟩ | ⟨rfl, rfl⟩ | ⟨rfl, rfl⟩⟩ := hrel
        · go_wp2_with fail
          go_roundg 1
          case measure => omega
          case rel => exact ⟨rfl, .inr (.inl ⟨rfl, rfl⟩)⟩
        · go_wp2_with fail
          go_roundg 0
          case measure => omega
          case rel => exact ⟨rfl, .inr (.inr ⟨rfl, rfl⟩)⟩
        · go_wp2_with fail
          go_ret
          exact ⟨rfl, rfl⟩
    · go_enter Try.func32, Try.ntmps32
      go_wp2_with fail
      go_loopg [8] 2 (fun k v wr => wr = w ∧ ((v = .int .i64 0 ∧ k = 2) ∨ (v = .int .i64 1 ∧ k = 1)))
      case atStart => exact ⟨rfl, .inl ⟨rfl, rfl⟩⟩
      case round =>
        obtain ⟨rfl, ⟨rfl, rfl⟩ | ⟨rfl, rfl⟩⟩ := hrel
        · go_wp2_with fail
          go_roundg 1
          case measure => omega
          case rel => exact ⟨rfl, .inr ⟨rfl, rfl⟩⟩
        · go_wp2_with fail
          go_ret
          exact ⟨by simp, rfl⟩
  · go_enter Try.func32, Try.ntmps32
    go_wp2_with fail
    go_loopg [8] 2 (fun k v wr => wr = w ∧ v = .int .i64 0)
    case atStart => exact ⟨rfl, rfl⟩
    case round =>
      obtain ⟨rfl, rfl⟩ := hrel
      go_wp2_with fail
      go_ret
      exact ⟨by simp [h1], rfl⟩

def cmpP (x y : Int × Int) : Int := orI (cmpI x.1 y.1) (cmpI x.2 y.2)
structure En where
  id : Int
  a : Int
  b : Int
  c : Int
  d : Int
  deriving DecidableEq, Inhabited
def encE (x : En) : List Value := [.int .i64 x.id, .int .i64 x.a, .int .i64 x.b, .int .i64 x.c, .int .i64 x.d]
def cmpE (x y : En) : Int := orI (cmpI x.a y.a) (cmpI x.id y.id)

set_option maxHeartbeats 1000000 in
set_option maxRecDepth 100000 in
theorem cmpP_any (x y : Int × Int) (w : World) : Calls Try.prog 22 #[.agg #[.int .i64 x.1, .int .i64 x.2], .agg #[.int .i64 y.1, .int .i64 y.2]] w fun e w' => e = .returned (.int .i64 (cmpP x y)) ∧ Grw w w' := by
  unfold cmpP
  generalize x.1 = x1
  generalize x.2 = x2
  generalize y.1 = y1
  generalize y.2 = y2
  have hor := or_any (cmpI x1 y1) (cmpI x2 y2)
  generalize orI (cmpI x1 y1) (cmpI x2 y2) = r at hor ⊢
  go_enter Try.func22, Try.ntmps22
  go_wp2_with fail
  refine wp_region_flowB 10 (by kernel_rfl) (by kernel_rfl) ?_
  simp only [List.take_succ_cons, List.take_zero, List.drop_succ_cons, List.drop_zero]
  (repeat (refine wpQ_step (fun K hK => ?_); go_simp; first | (refine hK _ ?_; clear hK K) | (apply Exists.intro; refine ⟨fun _ => ?_, hK _ ?_⟩; (go_at_call 33; exact compare_q _ _ _); clear hK K)))
  refine wpQ_nil ?_
  intro w1 hg1
  have hg := (((Grw.refl w).alloc _).alloc _).trans hg1
  clear hg1
  refine okG_want rfl (fun w2 hg2 K hK => ?_)
  replace hg := hg.trans hg2
  clear hg2
  go_simp
  refine hK _ _ ((Grw.refl _).alloc _) ?_
  clear hK K
  refine okG_want rfl (fun w3 hg3 K hK => ?_)
  have k0 := hg3.cell (pair_cells w2 _ _).1
  have k1 := hg3.cell (pair_cells w2 _ _).2
  have hor3 := hor _ w3 k0 k1
  replace hg := (hg.alloc _).trans hg3
  clear hg3
  go_simp
  refine hor3.mono ?_
  rintro e w4 ⟨rfl, rfl⟩
  refine ⟨_, rfl, hK _ _ (Grw.refl _) ?_⟩
  clear hK K hor3 k0 k1
  refine okG_want rfl (fun w5 hg5 K hK => ?_)
  replace hg := hg.trans hg5
  clear hg5
  go_simp
  refine hK _ _ (Grw.refl _) ?_
  clear hK K
  refine okList_nil (fun w6 hg6 => ?_)
  replace hg := hg.trans hg6
  clear hg6
  go_wp2_with fail
  go_ret
  exact ⟨rfl, hg⟩

set_option maxHeartbeats 1000000 in
set_option maxRecDepth 100000 in
theorem cmpE_any (x y : En) (w : World) : Calls Try.prog 31 #[.agg (encE x).toArray, .agg (encE y).toArray] w fun e w' => e = .returned (.int .i64 (cmpE x y)) ∧ Grw w w' := by
  obtain ⟨i1, a1, b1, c1, d1⟩ := x
  obtain ⟨i2, a2, b2, c2, d2⟩ := y
  unfold cmpE
  show Calls Try.prog 31 #[.agg #[.int .i64 i1, .int .i64 a1, .int .i64 b1, .int .i64 c1, .int .i64 d1], .agg #[.int .i64 i2, .int .i64 a2, .int .i64 b2, .int .i64 c2, .int .i64 d2]] w _
  simp only
  have hor := or_any (cmpI a1 a2) (cmpI i1 i2)
  generalize orI (cmpI a1 a2) (cmpI i1 i2) = r at hor ⊢
  go_enter Try.func31, Try.ntmps31
  go_wp2_with fail
  refine wp_region_flowB 14 (by kernel_rfl) (by kernel_rfl) ?_
  simp only [List.take_succ_cons, List.take_zero, List.drop_succ_cons, List.drop_zero]
  (repeat (refine wpQ_step (fun K hK => ?_); go_simp; first | (refine hK _ ?_; clear hK K) | (apply Exists.intro; refine ⟨fun _ => ?_, hK _ ?_⟩; (go_at_call 33; exact compare_q _ _ _); clear hK K)))
  refine wpQ_nil ?_
  intro w1 hg1
  have hg := (((Grw.refl w).alloc _).alloc _).trans hg1
  clear hg1
  refine okG_want rfl (fun w2 hg2 K hK => ?_)
  replace hg := hg.trans hg2
  clear hg2
  go_simp
  refine hK _ _ ((Grw.refl _).alloc _) ?_
  clear hK K
  refine okG_want rfl (fun w3 hg3 K hK => ?_)
  have k0 := hg3.cell (pair_cells w2 _ _).1
  have k1 := hg3.cell (pair_cells w2 _ _).2
  have hor3 := hor _ w3 k0 k1
  replace hg := (hg.alloc _).trans hg3
  clear hg3
  go_simp
  refine hor3.mono ?_
  rintro e w4 ⟨rfl, rfl⟩
  refine ⟨_, rfl, hK _ _ (Grw.refl _) ?_⟩
  clear hK K hor3 k0 k1
  refine okG_want rfl (fun w5 hg5 K hK => ?_)
  replace hg := hg.trans hg5
  clear hg5
  go_simp
  refine hK _ _ (Grw.refl _) ?_
  clear hK K
  refine okList_nil (fun w6 hg6 => ?_)
  replace hg := hg.trans hg6
  clear hg6
  go_wp2_with fail
  go_ret
  exact ⟨rfl, hg⟩

theorem cmpI_neg (x y : Int) : (cmpI x y < 0) ↔ x < y := by unfold cmpI; split <;> (try split) <;> omega
theorem cmpI_zero (x y : Int) : (cmpI x y = 0) ↔ x = y := by unfold cmpI; split <;> (try split) <;> omega
theorem lex_neg (a b c d : Int) : (orI (cmpI a b) (cmpI c d) < 0) ↔ (a < b ∨ (a = b ∧ c < d)) := by
  unfold orI
  by_cases h : cmpI a b = 0
  · rw [if_pos h, cmpI_neg]; rw [cmpI_zero] at h; omega
  · rw [if_neg h, cmpI_neg]; rw [cmpI_zero] at h; omega
theorem swoP : SWO (ltOf cmpP) where
  irrefl x := by simp only [ltOf, cmpP, decide_eq_false_iff_not, lex_neg]; omega
  trans x y z h1 h2 := by simp only [ltOf, cmpP, decide_eq_true_eq, lex_neg] at *; omega
  ntrans x y z h1 h2 := by simp only [ltOf, cmpP, decide_eq_false_iff_not, lex_neg] at *; omega
theorem swoE : SWO (ltOf cmpE) where
  irrefl x := by simp only [ltOf, cmpE, decide_eq_false_iff_not, lex_neg]; omega
  trans x y z h1 h2 := by simp only [ltOf, cmpE, decide_eq_true_eq, lex_neg] at *; omega
  ntrans x y z h1 h2 := by simp only [ltOf, cmpE, decide_eq_false_iff_not, lex_neg] at *; omega

end Go.Proofs.Ytbnfngelkaembaa
