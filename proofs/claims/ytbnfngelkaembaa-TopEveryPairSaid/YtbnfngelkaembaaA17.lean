/- The contracts of ascending on a slice of the call's own, and of Query of package bvh; the order of what they answer is not told. -/
import Derived.Test.YtbnfngelkaembaaA16
namespace Go.Proofs.Ytbnfngelkaembaa
open Go.RowKit Go.Sort
attribute [local go_sem] qAt qUpon okOp okUpon cell_in_grow frozen_in_grow

theorem flatI (xs : List Int) : xs.flatMap encI = xs.map (Value.int .i64) := by induction xs <;> simp_all [encI]
theorem OwnI.holds {w : World} {base g n cap : Nat} {xs : List Int} (h : OwnI w base (.slice (some ⟨g, 0, none⟩) n cap) xs) : Holds (Value.int .i64) w g 0 xs.toArray := by
  obtain ⟨h1, ⟨h2, _⟩ | ⟨g', cap', cur, h2, h3, h4, h5, h6, h7, h8⟩⟩ := h
  · cases h2
  · cases h2
    intro j hj
    have hj' : j < xs.length := by simpa using hj
    refine ⟨?_, by simp [World.frozen?, h4]⟩
    rw [cell_of_block h4, Nat.zero_add]
    have h9 : (cur.toList.take (xs.length * 1))[j]? = (xs.flatMap encI)[j]? := by rw [h8]
    rw [flatI, List.getElem?_take, if_pos (by omega)] at h9
    rw [← Array.getElem?_toList, h9, List.getElem?_map, getElem!_pos xs.toArray j hj, List.getElem?_eq_getElem hj']
    simp
theorem onlyChg_put (w : World) (g : Nat) (dk : Array Int) (q : Nat) : OnlyChg (fun k => k = g) w ((putRow (Value.int .i64) w g 0 dk).drewN q) := by
  refine ⟨rfl, rfl, rfl, ?_, fun k hk hs => ?_⟩
  · show w.heap.size ≤ (w.heap.modify _ _).size
    simp
  · show (w.heap.modify _ _)[k]? = _
    rw [Array.getElem?_modify, if_neg (fun e => hs e.symm)]
theorem OwnI.put {w : World} {base g n cap : Nat} {xs : List Int} (h : OwnI w base (.slice (some ⟨g, 0, none⟩) n cap) xs) (dk : Array Int) (hs : dk.size = xs.length) (q : Nat) :
    OwnI ((putRow (Value.int .i64) w g 0 dk).drewN q) base (.slice (some ⟨g, 0, none⟩) n cap) dk.toList := by
  obtain ⟨h1, ⟨h2, _⟩ | ⟨g', cap', cur, h2, h3, h4, h5, h6, h7, h8⟩⟩ := h
  · cases h2
  · cases h2
    have hl : dk.toList.length = xs.length := by simpa using hs
    have hb : ((putRow (Value.int .i64) w g 0 dk).drewN q).heap[g]? = some (.cells (putCells (Value.int .i64) 0 dk cur) 3 (0, 0)) := by
      show (w.heap.modify _ _)[g]? = _
      rw [Array.getElem?_modify, if_pos rfl, h4]
      rfl
    refine ⟨by simp [flatI], .inr ⟨g, cap, _, by rw [hl], h3, hb, by omega, h6, by simpa [putCells] using h7, ?_⟩⟩
    rw [flatI]
    apply List.ext_getElem?
    intro k
    rw [List.getElem?_take, List.getElem?_map]
    by_cases hk : k < dk.size
    · have hk2 : k < cur.size := by omega
      rw [if_pos (by simp; omega), Array.getElem?_toList]
      simp only [putCells, Array.getElem?_mapIdx]
      rw [Array.getElem?_eq_getElem hk2, Option.map_some, if_pos ⟨by omega, by omega⟩, Nat.sub_zero, getElem!_pos dk k hk]
      simp [List.getElem?_eq_getElem, hk]
    · rw [if_neg (by simp; omega)]
      simp [List.getElem?_eq_none, Nat.le_of_not_lt hk]

theorem ascending_own (w : World) (base : Nat) (v : Value) (xs : List Int) (h : OwnI w base v xs) (hl : xs.length ≤ 1000000) :
    Calls Try.prog 15 #[v] w fun e w' => ∃ ys, e = .returned v ∧ ys.Perm xs ∧ OwnI w' base v ys ∧ OnlyChg (fun k => v.ownBlock = some k) w w' := by
  rcases h.form with ⟨rfl, rfl⟩ | ⟨g, cap, rfl, h1, h2, h3, h4⟩
  · refine (ascending_nil none 0 w).mono ?_
    rintro e w' ⟨rfl, rfl⟩
    exact ⟨[], rfl, List.Perm.refl _, h, OnlyChg.refl _ _⟩
  · rcases Nat.eq_zero_or_pos xs.length with h0 | h0
    · obtain rfl := List.length_eq_zero_iff.1 h0
      refine (ascending_nil (some ⟨g, 0, none⟩) cap w).mono ?_
      rintro e w' ⟨rfl, rfl⟩
      exact ⟨[], rfl, List.Perm.refl _, h, OnlyChg.refl _ _⟩
    · refine (ascending_any g xs.length cap xs.toArray w h.holds (by simp) h3 hl h0).mono ?_
      rintro e w' ⟨rfl, dk, hP, hs, q, rfl⟩
      exact ⟨dk.toList, rfl, by simpa using hP, h.put dk (by simpa using hs) q, (onlyChg_put w g dk q).mono fun k _ hk => by simp [Value.ownBlock, hk]⟩

theorem OnlyChg.none {S : Nat → Prop} {w w' : World} (h : OnlyChg S w w') (hs : ∀ k, S k → w.heap.size ≤ k) : OnlyChg (fun _ => False) w w' := h.mono fun k hk hS => by have := hs k hS; omega

theorem TreeIs.root {w : World} {t : Nat} {m : Option Nat} : ∀ {o : Option T}, TreeIs w t m o → TreeAt w t (o.map T.ptr) m
  | none, h => h
  | some _, h => h.2
theorem OwnL.rebase {α : Type} {e size : Nat} {enc : α → List Value} {w : World} {base base' : Nat} {v : Value} {xs : List α} (h : OwnL e size enc w base v xs) (hb : base' ≤ base) : OwnL e size enc w base' v xs := by
  obtain ⟨h1, h2 | ⟨g, cap, cur, h3, h4, h5⟩⟩ := h
  · exact ⟨h1, .inl h2⟩
  · exact ⟨h1, .inr ⟨g, cap, cur, h3, Nat.le_trans hb h4, h5⟩⟩
theorem Bvh.llen {w : World} {t mb : Nat} {o : Option T} {l : List (Int × Nat)} (h : Bvh w t mb o l) : (oLeaves o).length ≤ 4096 := by
  have h1 := h.same.length_eq
  have h2 := h.len
  simp only [List.length_map] at h1
  omega
theorem ids_root (t mb : Nat) (o : Option T) (l : List (Int × Nat)) (w : World) (H : Bvh w t mb o l) :
    Calls Try.prog 16 #[ptrV (o.map T.ptr), .slice none 0 0] w fun e w' => ∃ v, e = .returned v ∧ OwnI w' w.heap.size v ((oLeaves o).map (·.id)) ∧ OnlyChg (fun _ => False) w w' := by
  cases o with
  | none =>
    refine (ids_nil _ w).mono ?_
    rintro e w' ⟨rfl, rfl⟩
    exact ⟨_, rfl, OwnL.nil _ _ _ _ _, OnlyChg.refl _ _⟩
  | some S =>
    refine (ids_any S none w w.heap.size _ [] H.tree.1 (OwnL.nil _ _ _ _ _) (fun p hp => H.tree.1.lt p hp) (Nat.le_refl _) (by have := H.llen; simp only [oLeaves] at this; simp; omega)).mono ?_
    rintro e w' ⟨v, rfl, h1, h2⟩
    exact ⟨v, rfl, by simpa [oLeaves] using h1, h2.none fun k hk => hk⟩
theorem collect_root (t mb : Nat) (o : Option T) (l : List (Int × Nat)) (a b c d : Int) (w : World) (H : Bvh w t mb o l) (hv : validB a b c d = true) :
    Calls Try.prog 28 #[ptrV (o.map T.ptr), .agg #[.int .i64 a, .int .i64 b, .int .i64 c, .int .i64 d], .slice none 0 0] w fun e w' => ∃ v, e = .returned v ∧ OwnI w' w.heap.size v (((oLeaves o).filter (Lf.ov a b c d)).map (·.id)) ∧ OnlyChg (fun _ => False) w w' := by
  cases o with
  | none =>
    refine (collect_nil a b c d _ w).mono ?_
    rintro e w' ⟨rfl, hg⟩
    exact ⟨_, rfl, OwnL.nil _ _ _ _ _, OnlyChg.of_grw hg⟩
  | some S =>
    refine (collect_any a b c d S none w w.heap.size _ [] H.tree.1 H.ok hv (OwnL.nil _ _ _ _ _) (fun p hp => H.tree.1.lt p hp) (Nat.le_refl _) (by have := H.llen; simp only [oLeaves] at this; simp; omega)).mono ?_
    rintro e w' ⟨v, rfl, h1, h2, _⟩
    exact ⟨v, rfl, by simpa [oLeaves] using h1, h2.none fun k hk => by simp [Value.ownBlock] at hk⟩

set_option maxHeartbeats 1000000 in
theorem query_any (t mb : Nat) (o : Option T) (l : List (Int × Nat)) (a b c d : Int) (w : World) (H : Bvh w t mb o l) (hv : validB a b c d = true) :
    Calls Try.prog 17 #[.pointer (some ⟨t, 0, none⟩), .agg #[.int .i64 a, .int .i64 b, .int .i64 c, .int .i64 d]] w fun e w' => ∃ v ys, e = .returned v ∧ OwnI w' w.heap.size v ys ∧ ys.Perm (((oLeaves o).filter (Lf.ov a b c d)).map (·.id)) ∧ OnlyChg (fun _ => False) w w' := by
  have hr := H.tree.root
  obtain ⟨W0, hW0⟩ : ∃ W0, W0 = (w.alloc (.cells #[.int .i64 a, .int .i64 b, .int .i64 c, .int .i64 d] 30)) := ⟨_, rfl⟩
  have hgA : Grw w W0 := hW0 ▸ (Grw.refl w).alloc (.cells #[.int .i64 a, .int .i64 b, .int .i64 c, .int .i64 d] 30)
  have hb : W0.heap[w.heap.size]? = some (.cells #[.int .i64 a, .int .i64 b, .int .i64 c, .int .i64 d] 30 (0, 0)) := hW0 ▸ heap_alloc_new w (.cells #[.int .i64 a, .int .i64 b, .int .i64 c, .int .i64 d] 30)
  have hA : W0.heap[t]? = some (.cells #[ptrV (o.map T.ptr), .map (some mb)] 46 (0, 0)) := hr.grw hgA
  have HC0 := fun W => collect_root t mb o l a b c d W
  generalize ptrV (o.map T.ptr) = pv at HC0 hA
  have HC := Lib.hid HC0
  clear HC0
  have HL := Lib.hid H.llen
  have HH := Lib.hid H
  have HV := Lib.hid hv
  have c0 : ∀ w', OnlyChg (fun k => w.heap.size + 1 ≤ k) W0 w' → w'.cell? ⟨t, 0, none⟩ = some pv := fun w' hR => hR.cell hA (by have := hr.lt; omega) 0
  have b0 : ∀ w', OnlyChg (fun k => w.heap.size + 1 ≤ k) W0 w' → w'.cell? ⟨w.heap.size, 0, none⟩ = some (.int .i64 a) := fun w' hR => hR.cell hb (by omega) 0
  have b1 : ∀ w', OnlyChg (fun k => w.heap.size + 1 ≤ k) W0 w' → w'.cell? ⟨w.heap.size, 1, none⟩ = some (.int .i64 b) := fun w' hR => hR.cell hb (by omega) 1
  have b2 : ∀ w', OnlyChg (fun k => w.heap.size + 1 ≤ k) W0 w' → w'.cell? ⟨w.heap.size, 2, none⟩ = some (.int .i64 c) := fun w' hR => hR.cell hb (by omega) 2
  have b3 : ∀ w', OnlyChg (fun k => w.heap.size + 1 ≤ k) W0 w' → w'.cell? ⟨w.heap.size, 3, none⟩ = some (.int .i64 d) := fun w' hR => hR.cell hb (by omega) 3
  have HG := Lib.hid hgA
  have hs : w.heap.size + 1 ≤ W0.heap.size := by rw [hW0]; simp
  clear H hr hv hgA hb hA
  subst hW0
  go_enter Try.func17, Try.ntmps17
  go_wp2_with fail
  refine wp_region_flowS (S := fun k => w.heap.size + 1 ≤ k) 5 (by kernel_rfl) (by kernel_rfl) ?_
  simp only [List.take_succ_cons, List.take_zero, List.drop_succ_cons, List.drop_zero]
  (repeat (refine wpS_want rfl (fun K hK => ?_); apply Exists.intro; refine ⟨fun w1 hR => ?_, ?_⟩; (go_simp; rfl); go_simp; refine hK _ ?_; clear hK K))
  refine wpS_nil ?_
  intro w2 hR
  refine okS_want rfl (fun w3 hC2 K hK => ?_)
  have hg2 := hR.trans hC2
  have hg := HG.out.trans hg2
  clear hR hC2 c0 b0 b1 b2 b3
  go_simp
  refine (HC.out w3 (HH.out.grw hg) HV.out).mono ?_
  rintro e w4 ⟨v4, rfl, HO4, hC4⟩
  refine ⟨v4, rfl, hK _ _ (hC4.mono fun _ _ h => h.elim) ?_⟩
  clear hK K
  have hC5 := (OnlyChg.of_grw hg).trans hC4
  have HO5 := Lib.hid (HO4.rebase hg.size)
  have hwb : ∀ k, v4.ownBlock = some k → w.heap.size + 1 ≤ k := fun k hk => Nat.le_trans (by have := hg2.size; omega) (HO4.base_le k hk).1
  clear HO4 hC4 HC hg hg2
  refine okS_want rfl (fun w6 hg6 K hK => ?_)
  have hC6 := hC5.grw hg6
  have HO6 := Lib.hid (HO5.out.grw hg6)
  clear HO5 hC5 hg6
  go_simp
  refine (ascending_own w6 _ v4 _ HO6.out (by have := HL.out; have h2 := List.length_filter_le (Lf.ov a b c d) (oLeaves o); simp only [List.length_map]; omega)).mono ?_
  rintro e w7 ⟨ys, rfl, hp, HO7, hC7⟩
  refine ⟨v4, rfl, hK _ _ (hC7.mono fun k _ h => hwb k h) ?_⟩
  clear hK K
  have hC8 : OnlyChg (fun _ => False) w w7 := ((hC6.mono fun _ _ h => h.elim : OnlyChg (fun k => w.heap.size + 1 ≤ k) w w6).trans (hC7.mono fun k _ h => hwb k h)).none fun k hk => by omega
  have HO8 := Lib.hid HO7
  clear HO7 hC7 hC6 HO6
  refine okS_want rfl (fun w8 hg8 K hK => ?_)
  have hC9 := hC8.grw hg8
  have HO9 := Lib.hid (HO8.out.grw hg8)
  clear HO8 hC8 hg8
  go_simp
  refine hK _ _ (OnlyChg.refl _ _) ?_
  clear hK K
  refine okS_nil (fun w9 hg9 => ?_)
  have hC10 := hC9.grw hg9
  have HO10 := Lib.hid (HO9.out.grw hg9)
  clear HO9 hC9 hg9
  go_wp2_with fail
  go_ret
  exact ⟨v4, ys, rfl, HO10.out, hp, hC10⟩

end Go.Proofs.Ytbnfngelkaembaa
