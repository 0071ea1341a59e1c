/- pairsExample answers true. -/
import Derived.Test.YtbnfngelkaembaaA28
import Derived.Test.YtbnfngelkaembaaB2
namespace Go.Proofs.Ytbnfngelkaembaa
open Go.RowKit Go.Sort
attribute [local go_sem] qAt qUpon okOp okUpon cell_in_grow frozen_in_grow

def e5 : En := ⟨5, 0, 0, 2, 2⟩
def e3 : En := ⟨3, 2, 2, 3, 3⟩
theorem ex_one {o : Option T} {ps : List (Int × Int)} (h : Ents o [e3, e5]) (nd : ((oLeaves o).map (·.id)).Nodup) (hp : ps.Perm ((oLeaves o).flatMap (prs (oLeaves o)))) : ps = [(3, 5)] :=
  List.perm_singleton.1 ((hp.trans (prs_all _ nd)).trans ((pairsOf_perm h).trans (by decide)))
theorem ex_two {ys : List En} {ps : List (Int × Int)} (h : ys.Perm [e5, e3]) (hs : ys.Pairwise (fun x y => ltOf cmpE y x = false)) (hp : ps.Perm (sel (nbr ys))) : ps = [(3, 5)] := by
  rw [sel_nbr ys (fun x hx => by
    have := h.mem_iff.1 hx
    simp only [List.mem_cons, List.not_mem_nil, or_false] at this
    rcases this with rfl | rfl <;> decide) hs] at hp
  exact List.perm_singleton.1 (hp.trans ((pairsOf_perm h).trans (by decide)))
theorem ex_ok : ∀ x ∈ [e5, e3], x.ok := by
  intro x hx
  simp only [List.mem_cons, List.not_mem_nil, or_false] at hx
  rcases hx with rfl | rfl <;> exact ⟨by decide, by decide⟩
theorem ex_eq (W : World) : Sem.run Try.prog (Op.equalIn 10000 56 (.agg #[.int .i64 3, .int .i64 5]) (.agg #[.int .i64 3, .int .i64 5])) W = .ok true W := by kernel_rfl
theorem ex_own (w : World) : OwnE (w.alloc (.cells #[.int .i64 5, .int .i64 0, .int .i64 0, .int .i64 2, .int .i64 2, .int .i64 3, .int .i64 2, .int .i64 2, .int .i64 3, .int .i64 3] 39)) w.heap.size (.slice (some ⟨w.heap.size, 0, none⟩) 2 2) [e5, e3] :=
  ⟨rfl, .inr ⟨w.heap.size, 2, _, rfl, Nat.le_refl _, heap_alloc_new w _, by decide, by decide, rfl, rfl⟩⟩

set_option maxHeartbeats 4000000 in
set_option maxRecDepth 100000 in
theorem example_any (w : World) : Calls Try.prog 11 #[] w fun e w' => e = .returned (.bool true) ∧ OnlyChg (fun _ => False) w w' := by
  go_enter Try.func11, Try.ntmps11
  go_wp2_with fail
  obtain ⟨W1, hW1⟩ : ∃ W1, W1 = (w.alloc (.cells #[.int .i64 0, .int .i64 0, .int .i64 2, .int .i64 2] 30)).alloc (.cells #[.int .i64 2, .int .i64 2, .int .i64 3, .int .i64 3] 30) := ⟨_, rfl⟩
  have hg1 : Grw w W1 := hW1 ▸ ((Grw.refl w).alloc _).alloc _
  have hb1 : W1.heap[w.heap.size]? = some (.cells #[.int .i64 0, .int .i64 0, .int .i64 2, .int .i64 2] 30 (0, 0)) := hW1 ▸ ((Grw.refl _).alloc _).block (heap_alloc_new w _)
  have hb2 : W1.heap[w.heap.size + 1]? = some (.cells #[.int .i64 2, .int .i64 2, .int .i64 3, .int .i64 3] 30 (0, 0)) := by
    have := heap_alloc_new (w.alloc (.cells #[.int .i64 0, .int .i64 0, .int .i64 2, .int .i64 2] 30)) (.cells #[.int .i64 2, .int .i64 2, .int .i64 3, .int .i64 3] 30)
    rw [World.size_alloc] at this
    rw [hW1]; exact this
  rw [← hW1]
  clear hW1
  refine (new_any W1).mono ?_
  rintro e W2 ⟨t, mb, rfl, ht, hmb, hB2, hg2⟩
  have hi1 := ins_ok t mb none [] 5 0 0 2 2 W2 hB2 (by decide) (by decide) (by simp) (by decide)
  have c1 := hg2.block hb1
  have c2 := hg2.block hb2
  have hs1 := (Array.getElem?_eq_some_iff.1 hb2).1
  have x0 := cell_of_block c1 0
  have x1 := cell_of_block c1 1
  have x2 := cell_of_block c1 2
  have x3 := cell_of_block c1 3
  simp only [Array.getElem?_eq_getElem, List.size_toArray, List.length_cons, List.length_nil, Nat.reduceAdd, Nat.reduceLT, List.getElem_toArray, List.getElem_cons_zero, List.getElem_cons_succ] at x0 x1 x2 x3
  go_wp2_with fail
  refine hi1.mono ?_
  rintro e W3 ⟨rfl, o1, p1, hB3, hP3, hN3, hC3⟩
  have hn3 : ∀ q, q ∈ t :: mb :: oNodes none → W1.heap.size ≤ q := by
    intro q hq
    simp only [oNodes, List.mem_cons, List.not_mem_nil, or_false] at hq
    rcases hq with rfl | rfl <;> omega
  have c13 := (hC3.block _ (Array.getElem?_eq_some_iff.1 c1).1 (fun h => by have := hn3 _ h; omega)).trans c1
  have c23 := (hC3.block _ (Array.getElem?_eq_some_iff.1 c2).1 (fun h => by have := hn3 _ h; omega)).trans c2
  have hi2 := ins_ok t mb o1 _ 3 2 2 3 3 W3 hB3 (by decide) (by decide) (by simp) (by simp)
  have hD3 : OnlyChg (fun _ => False) w W3 := ((((OnlyChg.of_grw (hg1.trans hg2)).mono fun _ _ h => h.elim : OnlyChg (fun q => W1.heap.size ≤ q) w W2)).trans (hC3.mono fun q _ h => hn3 q h)).none fun k hk => Nat.le_trans hg1.size hk
  have x0 := cell_of_block c23 0
  have x1 := cell_of_block c23 1
  have x2 := cell_of_block c23 2
  have x3 := cell_of_block c23 3
  simp only [Array.getElem?_eq_getElem, List.size_toArray, List.length_cons, List.length_nil, Nat.reduceAdd, Nat.reduceLT, List.getElem_toArray, List.getElem_cons_zero, List.getElem_cons_succ] at x0 x1 x2 x3
  have HN3 := Lib.hid hN3
  have HP3 := Lib.hid hP3
  clear hB3 hN3 hP3 hB2 hi1 c1 c2 hC3
  go_wp2_with fail
  refine hi2.mono ?_
  rintro e W4 ⟨rfl, o2, p2, hB4, hP4, hN4, hC4⟩
  have hn4 : ∀ q, q ∈ t :: mb :: oNodes o1 → W1.heap.size ≤ q := by
    intro q hq
    simp only [List.mem_cons] at hq
    rcases hq with rfl | rfl | hq
    · omega
    · omega
    · rcases HN3.out q hq with h | h
      · simp [oNodes] at h
      · exact Nat.le_trans hg2.size h
  have c14 := (hC4.block _ (Array.getElem?_eq_some_iff.1 c13).1 (fun h => by have := hn4 _ h; omega)).trans c13
  have c24 := (hC4.block _ (Array.getElem?_eq_some_iff.1 c23).1 (fun h => by have := hn4 _ h; omega)).trans c23
  have hD4 : OnlyChg (fun _ => False) w W4 := ((hD3.mono fun _ _ h => h.elim : OnlyChg (fun q => W1.heap.size ≤ q) w W3).trans (hC4.mono fun q _ h => hn4 q h)).none fun k hk => Nat.le_trans hg1.size hk
  have HE : Hid (Ents o2 [e3, e5]) := by
    refine (hP4.map toEn).trans ?_
    rw [List.map_cons]
    exact List.Perm.cons _ (HP3.out.map toEn)
  have HB := Lib.hid hB4
  have HD := Lib.hid hD4
  have d1 : ∀ w', OnlyChg (fun _ => False) W4 w' → w'.heap[w.heap.size]? = some (.cells #[.int .i64 0, .int .i64 0, .int .i64 2, .int .i64 2] 30 (0, 0)) := fun w' h => (h.block _ (Array.getElem?_eq_some_iff.1 c14).1 (by simp)).trans c14
  have d2 : ∀ w', OnlyChg (fun _ => False) W4 w' → w'.heap[w.heap.size + 1]? = some (.cells #[.int .i64 2, .int .i64 2, .int .i64 3, .int .i64 3] 30 (0, 0)) := fun w' h => (h.block _ (Array.getElem?_eq_some_iff.1 c24).1 (by simp)).trans c24
  have z10 := fun w' h => cell_of_block (d1 w' h) 0
  have z11 := fun w' h => cell_of_block (d1 w' h) 1
  have z12 := fun w' h => cell_of_block (d1 w' h) 2
  have z13 := fun w' h => cell_of_block (d1 w' h) 3
  have z20 := fun w' h => cell_of_block (d2 w' h) 0
  have z21 := fun w' h => cell_of_block (d2 w' h) 1
  have z22 := fun w' h => cell_of_block (d2 w' h) 2
  have z23 := fun w' h => cell_of_block (d2 w' h) 3
  simp only [Array.getElem?_eq_getElem, List.size_toArray, List.length_cons, List.length_nil, Nat.reduceAdd, Nat.reduceLT, List.getElem_toArray, List.getElem_cons_zero, List.getElem_cons_succ] at z10 z11 z12 z13 z20 z21 z22 z23
  clear hi2 hB4 hP4 hN4 hC4 hn4 hn3 hD3 hD4 c13 c23 c14 c24 d1 d2 x0 x1 x2 x3 HN3 HP3 hb1 hb2 hg2 hg1
  go_wp2_with fail
  refine wp_region_pick (S := fun _ => False) [0, 2, 3, 4, 5] 5 (by kernel_rfl) (by kernel_rfl) rfl ?_
  simp only [List.filterMap_cons, List.filterMap_nil, List.getElem?_cons_zero, List.getElem?_cons_succ]
  (repeat (refine wpS_want rfl (fun K hK => ?_); apply Exists.intro; refine ⟨fun w1 hR => ?_, ?_⟩; (go_simp; rfl); go_simp; refine hK _ ?_; clear hK K))
  refine wpS_nil ?_
  intro w5 hg5
  refine anyS_want [1, 6] (by kernel_rfl) rfl rfl ?_
  intro w6 hg6 j hj
  have hW6 : OnlyChg (fun _ => False) W4 w6 := OnlyChg.of_grw (hg5.trans hg6)
  clear hg5 hg6 z10 z11 z12 z13 z20 z21 z22 z23
  have hj' : j = 1 ∨ j = 6 := by simpa using hj
  clear hj
  rcases hj' with rfl | rfl
  · refine ⟨_, rfl, rfl, fun K hK => ?_⟩
    go_simp
    refine (pairs_any t mb o2 _ w6 (HB.out.keep hW6 (by simp))).mono ?_
    rintro e w7 ⟨v1, ps1, rfl, hO7, hP7, hC7⟩
    have hps1 : ps1 = [(3, 5)] := ex_one HE.out HB.out.idsL hP7
    refine ⟨v1, rfl, hK _ _ hC7 ?_⟩
    clear hK K
    subst hps1
    have HO1 := Lib.hid hO7
    have HW := Lib.hid (hW6.trans hC7)
    clear hO7 hP7 hC7 hW6
    refine anyS_want [6] (by kernel_rfl) rfl rfl ?_
    intro w8 hg8 j hj
    obtain rfl : j = 6 := by simpa using hj
    refine ⟨_, rfl, rfl, fun K hK => ?_⟩
    have HO1 := Lib.hid (HO1.out.grw (hg8.alloc (.cells #[.int .i64 5, .int .i64 0, .int .i64 0, .int .i64 2, .int .i64 2, .int .i64 3, .int .i64 2, .int .i64 2, .int .i64 3, .int .i64 3] 39)))
    have HW := Lib.hid (HW.out.grw (hg8.alloc (.cells #[.int .i64 5, .int .i64 0, .int .i64 0, .int .i64 2, .int .i64 2, .int .i64 3, .int .i64 2, .int .i64 2, .int .i64 3, .int .i64 3] 39)))
    have HS1 := Lib.hid (ex_own w8)
    clear hg8
    go_simp
    refine hK _ _ (OnlyChg.of_grw ((Grw.refl _).alloc _)) ?_
    clear hK K
    refine anyS_want [7] (by kernel_rfl) rfl rfl ?_
    intro w10 hg10 j hj
    obtain rfl : j = 7 := by simpa using hj
    refine ⟨_, rfl, rfl, fun K hK => ?_⟩
    have HO1 := Lib.hid (HO1.out.grw hg10)
    have HS1 := Lib.hid (HS1.out.grw hg10)
    have HW := Lib.hid (HW.out.grw hg10)
    clear hg10
    go_simp
    refine (sapPairs_any w10 _ _ _ HS1.out ex_ok (by decide) (by decide)).mono ?_
    rintro e w11 ⟨v2, ys, ps2, rfl, hO2, hy2, hs2, hp2, hB2⟩
    have hps2 : ps2 = [(3, 5)] := ex_two hy2 hs2 hp2
    subst hps2
    have hC11 : OnlyChg (fun _ => False) w10 w11 := ⟨hB2.os, hB2.tape, hB2.output, hB2.size, fun k hk _ => hB2.block k hk⟩
    refine ⟨v2, rfl, hK _ _ hC11 ?_⟩
    clear hK K
    have HO1 := Lib.hid (HO1.out.keep hC11 (by simp))
    have HO2 := Lib.hid hO2
    have HW := Lib.hid (HW.out.trans hC11)
    clear hO2 hy2 hs2 hp2 hB2 hC11 HS1
    refine anyS_want [8] (by kernel_rfl) rfl rfl ?_
    intro w12 hg12 j hj
    obtain rfl : j = 8 := by simpa using hj
    refine ⟨_, rfl, rfl, fun K hK => ?_⟩
    have HO1 := Lib.hid (HO1.out.grw hg12)
    have HO2 := Lib.hid (HO2.out.grw hg12)
    have HW := Lib.hid (HW.out.grw hg12)
    clear hg12
    go_simp
    refine hK _ _ (OnlyChg.refl _ _) ?_
    clear hK K
    refine anyS_want [9] (by kernel_rfl) rfl rfl ?_
    intro w13 hg13 j hj
    obtain rfl : j = 9 := by simpa using hj
    refine ⟨_, rfl, rfl, fun K hK => ?_⟩
    have HO1 := Lib.hid (HO1.out.grw hg13)
    have HO2 := Lib.hid (HO2.out.grw hg13)
    have HW := Lib.hid (HW.out.grw hg13)
    clear hg13
    go_simp
    refine hK _ _ (OnlyChg.refl _ _) ?_
    clear hK K
    refine anyS_end (by kernel_rfl) ?_
    intro w14 hg14
    have HO1 := Lib.hid (HO1.out.grw hg14)
    have HO2 := Lib.hid (HO2.out.grw hg14)
    have HW := Lib.hid (HW.out.grw hg14)
    clear hg14
    obtain ⟨pa1, cap1, rfl⟩ := HO1.out.slice
    obtain ⟨pa2, cap2, rfl⟩ := HO2.out.slice
    obtain ⟨ga, rfl, hga, a0, a1⟩ := OwnP.read (j := 0) HO1.out rfl
    obtain ⟨gb, rfl, hgb, b0, b1⟩ := OwnP.read (j := 0) HO2.out rfl
    simp only [Nat.zero_mul, Nat.zero_add] at a0 a1 b0 b1
    have HF := Lib.hid (HD.out.trans HW.out)
    clear x0 x1 x2 x3
    have heq := ex_eq
    go_wp2_with fail
    refine wp_region_flow (by kernel_rfl) (by kernel_rfl) ?_
    (repeat (refine wpQ_step (fun K hK => ?_); go_simp; first | (refine hK _ ?_; clear hK K) | (apply Exists.intro; refine ⟨fun _ => ?_, hK _ ?_⟩; (fail); clear hK K)))
    refine wpQ_nil ?_
    intro w15 hg15
    go_wp2_with fail
    go_ret
    exact ⟨rfl, HF.out.grw hg15⟩
  · refine ⟨_, rfl, rfl, fun K hK => ?_⟩
    have HS1 := Lib.hid (ex_own w6)
    have HW := Lib.hid (hW6.grw ((Grw.refl w6).alloc (.cells #[.int .i64 5, .int .i64 0, .int .i64 0, .int .i64 2, .int .i64 2, .int .i64 3, .int .i64 2, .int .i64 2, .int .i64 3, .int .i64 3] 39)))
    clear hW6
    go_simp
    refine hK _ _ (OnlyChg.of_grw ((Grw.refl _).alloc _)) ?_
    clear hK K
    refine anyS_want [1] (by kernel_rfl) rfl rfl ?_
    intro w8 hg8 j hj
    obtain rfl : j = 1 := by simpa using hj
    refine ⟨_, rfl, rfl, fun K hK => ?_⟩
    have hW8 := HW.out.grw hg8
    have HS1 := Lib.hid (HS1.out.grw hg8)
    clear hg8
    go_simp
    refine (pairs_any t mb o2 _ w8 (HB.out.keep hW8 (by simp))).mono ?_
    rintro e w7 ⟨v1, ps1, rfl, hO7, hP7, hC7⟩
    have hps1 : ps1 = [(3, 5)] := ex_one HE.out HB.out.idsL hP7
    refine ⟨v1, rfl, hK _ _ hC7 ?_⟩
    clear hK K
    subst hps1
    have HO1 := Lib.hid hO7
    have HS1 := Lib.hid (HS1.out.keep hC7 (by simp))
    have HW := Lib.hid (hW8.trans hC7)
    clear hO7 hP7 hC7 hW8
    refine anyS_want [7] (by kernel_rfl) rfl rfl ?_
    intro w10 hg10 j hj
    obtain rfl : j = 7 := by simpa using hj
    refine ⟨_, rfl, rfl, fun K hK => ?_⟩
    have HO1 := Lib.hid (HO1.out.grw hg10)
    have HS1 := Lib.hid (HS1.out.grw hg10)
    have HW := Lib.hid (HW.out.grw hg10)
    clear hg10
    go_simp
    refine (sapPairs_any w10 _ _ _ HS1.out ex_ok (by decide) (by decide)).mono ?_
    rintro e w11 ⟨v2, ys, ps2, rfl, hO2, hy2, hs2, hp2, hB2⟩
    have hps2 : ps2 = [(3, 5)] := ex_two hy2 hs2 hp2
    subst hps2
    have hC11 : OnlyChg (fun _ => False) w10 w11 := ⟨hB2.os, hB2.tape, hB2.output, hB2.size, fun k hk _ => hB2.block k hk⟩
    refine ⟨v2, rfl, hK _ _ hC11 ?_⟩
    clear hK K
    have HO1 := Lib.hid (HO1.out.keep hC11 (by simp))
    have HO2 := Lib.hid hO2
    have HW := Lib.hid (HW.out.trans hC11)
    clear hO2 hy2 hs2 hp2 hB2 hC11 HS1
    refine anyS_want [8] (by kernel_rfl) rfl rfl ?_
    intro w12 hg12 j hj
    obtain rfl : j = 8 := by simpa using hj
    refine ⟨_, rfl, rfl, fun K hK => ?_⟩
    have HO1 := Lib.hid (HO1.out.grw hg12)
    have HO2 := Lib.hid (HO2.out.grw hg12)
    have HW := Lib.hid (HW.out.grw hg12)
    clear hg12
    go_simp
    refine hK _ _ (OnlyChg.refl _ _) ?_
    clear hK K
    refine anyS_want [9] (by kernel_rfl) rfl rfl ?_
    intro w13 hg13 j hj
    obtain rfl : j = 9 := by simpa using hj
    refine ⟨_, rfl, rfl, fun K hK => ?_⟩
    have HO1 := Lib.hid (HO1.out.grw hg13)
    have HO2 := Lib.hid (HO2.out.grw hg13)
    have HW := Lib.hid (HW.out.grw hg13)
    clear hg13
    go_simp
    refine hK _ _ (OnlyChg.refl _ _) ?_
    clear hK K
    refine anyS_end (by kernel_rfl) ?_
    intro w14 hg14
    have HO1 := Lib.hid (HO1.out.grw hg14)
    have HO2 := Lib.hid (HO2.out.grw hg14)
    have HW := Lib.hid (HW.out.grw hg14)
    clear hg14
    obtain ⟨pa1, cap1, rfl⟩ := HO1.out.slice
    obtain ⟨pa2, cap2, rfl⟩ := HO2.out.slice
    obtain ⟨ga, rfl, hga, a0, a1⟩ := OwnP.read (j := 0) HO1.out rfl
    obtain ⟨gb, rfl, hgb, b0, b1⟩ := OwnP.read (j := 0) HO2.out rfl
    simp only [Nat.zero_mul, Nat.zero_add] at a0 a1 b0 b1
    have HF := Lib.hid (HD.out.trans HW.out)
    clear x0 x1 x2 x3
    have heq := ex_eq
    go_wp2_with fail
    refine wp_region_flow (by kernel_rfl) (by kernel_rfl) ?_
    (repeat (refine wpQ_step (fun K hK => ?_); go_simp; first | (refine hK _ ?_; clear hK K) | (apply Exists.intro; refine ⟨fun _ => ?_, hK _ ?_⟩; (fail); clear hK K)))
    refine wpQ_nil ?_
    intro w15 hg15
    go_wp2_with fail
    go_ret
    exact ⟨rfl, HF.out.grw hg15⟩

end Go.Proofs.Ytbnfngelkaembaa
