/- The contract of collect of package bvh; its conditions: the slice's own memory is no node. -/
import Derived.Test.YtbnfngelkaembaaA14
namespace Go.Proofs.Ytbnfngelkaembaa
open Go.RowKit Go.Sort
attribute [local go_sem] qAt qUpon okOp okUpon cell_in_grow frozen_in_grow

theorem OnlyChg.cell {S : Nat → Prop} {w w' : World} (hc : OnlyChg S w w') {k : Nat} {cs : Array Value} {t : TypeId} (h : w.heap[k]? = some (.cells cs t (0, 0))) (hs : ¬ S k) (o : Nat) : w'.cell? ⟨k, o, none⟩ = cs[o]? :=
  cell_of_block ((hc.block k (Array.getElem?_eq_some_iff.1 h).1 hs).trans h) o
theorem OnlyChg.cutNew {S : Nat → Prop} {w w' : World} (h : OnlyChg (fun k => S k ∨ w.heap.size ≤ k) w w') : OnlyChg S w w' := h.mono fun k hk hs => hs.resolve_right (by omega)
theorem Grw.block {w w' : World} (h : Grw w w') {k : Nat} {o : Obj} (hk : w.heap[k]? = some o) : w'.heap[k]? = some o :=
  ((OnlyChg.of_grw h).block k (Array.getElem?_eq_some_iff.1 hk).1 (by simp)).trans hk

set_option maxHeartbeats 1000000 in
theorem collect_leaf (x : Lf) (par : Option Nat) (w : World) (base : Nat) (v : Value) (xs : List Int) (a b c d : Int) (h : Rep w par (.leaf x)) (hok : (T.leaf x).ok) (hv : validB a b c d = true) (HO : OwnI w base v xs)
    (hb : base ≤ w.heap.size) (hl : xs.length ≤ 1000000) (hov : ovB x.a x.b x.c x.d a b c d = true) :
    Calls Try.prog 28 #[.pointer (some ⟨x.p, 0, none⟩), .agg #[.int .i64 a, .int .i64 b, .int .i64 c, .int .i64 d], v] w fun e w' => Coll w base v (xs ++ [x.id]) e w' := by
  have hO := Overlaps_at (hok.valid : validB x.a x.b x.c x.d = true) hv hov
  have hlf := fun W hW => leaf_any x.p ((T.leaf x).nd par) W hW
  rw [show ((T.leaf x).nd par).l.isNone = true from rfl] at hlf
  obtain ⟨c0, c1, c2, c3, _⟩ := h.root.facts
  change w.cell? ⟨x.p, 0, none⟩ = some (.int .i64 x.a) at c0
  change w.cell? ⟨x.p, 1, none⟩ = some (.int .i64 x.b) at c1
  change w.cell? ⟨x.p, 2, none⟩ = some (.int .i64 x.c) at c2
  change w.cell? ⟨x.p, 3, none⟩ = some (.int .i64 x.d) at c3
  have HH := Lib.hid HO
  have HOK := Lib.hid hok
  have HV := Lib.hid hv
  have lt : x.p < w.heap.size := h.root.lt
  have lt2 : x.p < w.heap.size + 1 := by have := lt; omega
  have hne : x.p ≠ w.heap.size := by have := lt; omega
  have HN := Lib.hid h.root
  have HRP := Lib.hid h
  clear h HO hok hv hov
  go_enter Try.func28, Try.ntmps28
  go_wp2_with fail
  have hgA := (Grw.refl w).alloc (.cells #[.int .i64 a, .int .i64 b, .int .i64 c, .int .i64 d] 30)
  refine wp_region_flow (by kernel_rfl) (by kernel_rfl) ?_
  (repeat (refine wpQ_step (fun K hK => ?_); go_simp; first | (refine hK _ ?_; clear hK K) | (apply Exists.intro; refine ⟨fun _ => ?_, hK _ ?_⟩; (go_at_call 20; exact hO _); clear hK K)))
  refine wpQ_nil ?_
  intro w1 hg1
  have hg2 := hgA.trans hg1
  go_wp2_with fail
  refine (hlf w1 (HN.out.grw hg2)).mono ?_
  rintro e w' ⟨rfl, rfl⟩
  have c8 := (NodeAt.facts (HN.out.grw hg2)).2.2.2.2.2.2.2.2
  change w1.cell? ⟨x.p, 8, none⟩ = some (.int .i64 x.id) at c8
  have hb2 := Nat.le_trans hb hg2.size
  have HG := Lib.hid hg2
  clear hlf c0 c1 c2 c3 lt lt2 hne hg1 hg2 hgA
  go_wp2_with (at_builtin; refine wpList_push (enc := encI) (z := .int .i64 0) (bytes := 8) (fun _ => rfl) (by simp [encI, Value.oneCell']) base rfl _ _ rfl Try.underlying50 info3 rfl (by decide) (by decide) v xs x.id _ rfl rfl rfl (HH.out.grw HG.out) hb2 (by omega) ?_; intro v1 w2 hO1 hC1 hV1)
  go_ret
  exact ⟨v1, rfl, hO1, ((OnlyChg.refl _ w).grw HG.out).trans hC1, hV1.imp id fun ⟨q, h1, h2⟩ => ⟨q, h1, Nat.le_trans HG.out.size h2⟩⟩

set_option maxHeartbeats 2000000 in
theorem collect_any (a b c d : Int) : ∀ (S : T) (par : Option Nat) (w : World) (base : Nat) (v : Value) (xs : List Int), Rep w par S → S.ok → validB a b c d = true → OwnI w base v xs → (∀ p ∈ S.nodes, p < base) → base ≤ w.heap.size → xs.length + S.leaves.length ≤ 1000000 →
    Calls Try.prog 28 #[.pointer (some ⟨S.ptr, 0, none⟩), .agg #[.int .i64 a, .int .i64 b, .int .i64 c, .int .i64 d], v] w fun e w' => Coll w base v (xs ++ (S.leaves.filter (Lf.ov a b c d)).map (·.id)) e w' := by
  intro S
  induction S with
  | leaf x =>
    intro par w base v xs h hok hv HO _ hb hl
    cases hov : ovB x.a x.b x.c x.d a b c d
    · exact collect_skip (.leaf x) par w base v xs a b c d h hok hv HO hov
    · have := collect_leaf x par w base v xs a b c d h hok hv HO hb (by omega) hov
      rw [show ((T.leaf x).leaves.filter (Lf.ov a b c d)).map (·.id) = [x.id] by simp [T.leaves, Lf.ov, hov]]
      exact this
  | node p l r ihl ihr =>
    intro par w base v xs h hok hv HO hlt hb hl
    cases hov : ovB (T.node p l r).a (T.node p l r).b (T.node p l r).c (T.node p l r).d a b c d
    · exact collect_skip (.node p l r) par w base v xs a b c d h hok hv HO hov
    have hO := Overlaps_at hok.valid hv hov
    have hlf := fun W hW => leaf_any p ((T.node p l r).nd par) W hW
    rw [show ((T.node p l r).nd par).l.isNone = false from rfl] at hlf
    have hc := h.root.facts
    rw [T.nd_a, T.nd_b, T.nd_c, T.nd_d] at hc
    obtain ⟨c0, c1, c2, c3, _⟩ := hc
    obtain ⟨na, hna⟩ : ∃ x, x = (T.node p l r).a := ⟨_, rfl⟩
    obtain ⟨nb, hnb⟩ : ∃ x, x = (T.node p l r).b := ⟨_, rfl⟩
    obtain ⟨nc, hnc⟩ : ∃ x, x = (T.node p l r).c := ⟨_, rfl⟩
    obtain ⟨nd, hnd⟩ : ∃ x, x = (T.node p l r).d := ⟨_, rfl⟩
    rw [← hna, ← hnb, ← hnc, ← hnd] at hO
    rw [← hna] at c0
    rw [← hnb] at c1
    rw [← hnc] at c2
    rw [← hnd] at c3
    rw [T.ptr_node] at c0 c1 c2 c3 ⊢
    clear hna hnb hnc hnd
    have HLT := Lib.hid hlt
    have HL := Lib.hid hl
    have IL := Lib.hid ihl
    have IR := Lib.hid ihr
    have hpb : p < base := hlt p (by simp [T.nodes])
    clear ihl ihr hlt hl
    have HH := Lib.hid HO
    have HOK := Lib.hid hok
    have HV := Lib.hid hv
    have lt : p < w.heap.size := h.root.lt
    have lt2 : p < w.heap.size + 1 := by have := lt; omega
    have hne : p ≠ w.heap.size := by have := lt; omega
    have HN := Lib.hid h.root
    have HRP := Lib.hid h
    clear h HO hok hv hov
    go_enter Try.func28, Try.ntmps28
    go_wp2_with fail
    have hgA := (Grw.refl w).alloc (.cells #[.int .i64 a, .int .i64 b, .int .i64 c, .int .i64 d] 30)
    refine wp_region_flow (by kernel_rfl) (by kernel_rfl) ?_
    (repeat (refine wpQ_step (fun K hK => ?_); go_simp; first | (refine hK _ ?_; clear hK K) | (apply Exists.intro; refine ⟨fun _ => ?_, hK _ ?_⟩; (go_at_call 20; exact hO _); clear hK K)))
    refine wpQ_nil ?_
    intro w1 hg1
    have hg2 := hgA.trans hg1
    go_wp2_with fail

    refine (hlf w1 (HN.out.grw hg2)).mono ?_
    rintro e w' ⟨rfl, rfl⟩
    have hvb : ¬ v.ownBlock = some p := fun e => by have := (HH.out.base_le p e).1; omega
    have hvB : ¬ v.ownBlock = some w.heap.size := fun e => by have := (HH.out.base_le _ e).2; omega
    have hB := hg1.block (heap_alloc_new w (.cells #[.int .i64 a, .int .i64 b, .int .i64 c, .int .i64 d] 30))
    have hBlt := (Array.getElem?_eq_some_iff.1 hB).1
    have hN1 := HN.out.grw hg2
    have hnb : ¬ (v.ownBlock = some p ∨ w1.heap.size ≤ p) := fun e => e.elim hvb (by have := hN1.lt; intro; simp only [T.ptr_node] at this; omega)
    have hnB : ¬ (v.ownBlock = some w.heap.size ∨ w1.heap.size ≤ w.heap.size) := fun e => e.elim hvB (by omega)
    have c5 : ∀ w', OnlyChg (fun k => v.ownBlock = some k ∨ w1.heap.size ≤ k) w1 w' → w'.cell? ⟨p, 5, none⟩ = some (.pointer (some ⟨l.ptr, 0, none⟩)) := fun w' hR => hR.cell hN1 hnb 5
    have c6 : ∀ w', OnlyChg (fun k => v.ownBlock = some k ∨ w1.heap.size ≤ k) w1 w' → w'.cell? ⟨p, 6, none⟩ = some (.pointer (some ⟨r.ptr, 0, none⟩)) := fun w' hR => hR.cell hN1 hnb 6
    have b0 : ∀ w', OnlyChg (fun k => v.ownBlock = some k ∨ w1.heap.size ≤ k) w1 w' → w'.cell? ⟨w.heap.size, 0, none⟩ = some (.int .i64 a) := fun w' hR => hR.cell hB hnB 0
    have b1 : ∀ w', OnlyChg (fun k => v.ownBlock = some k ∨ w1.heap.size ≤ k) w1 w' → w'.cell? ⟨w.heap.size, 1, none⟩ = some (.int .i64 b) := fun w' hR => hR.cell hB hnB 1
    have b2 : ∀ w', OnlyChg (fun k => v.ownBlock = some k ∨ w1.heap.size ≤ k) w1 w' → w'.cell? ⟨w.heap.size, 2, none⟩ = some (.int .i64 c) := fun w' hR => hR.cell hB hnB 2
    have b3 : ∀ w', OnlyChg (fun k => v.ownBlock = some k ∨ w1.heap.size ≤ k) w1 w' → w'.cell? ⟨w.heap.size, 3, none⟩ = some (.int .i64 d) := fun w' hR => hR.cell hB hnB 3
    have hb2 := Nat.le_trans hb hg2.size
    have HG := Lib.hid hg2
    have HO1 := Lib.hid (HH.out.grw hg2)
    have HR1 := Lib.hid (HRP.out.grw hg2)
    have hsz := hg2.size
    have hNV := Lib.hid (fun q (hq : q < base) (e : v.ownBlock = some q ∨ w1.heap.size ≤ q) => e.elim (fun e => Nat.lt_irrefl _ (Nat.lt_of_lt_of_le hq (HH.out.base_le q e).1)) (fun e => by omega))
    clear hlf hvb hvB hnb hnB hB hBlt c0 c1 c2 c3 lt lt2 hne hg1 hg2 hgA hb HRP HH HN hN1
    go_wp2_with fail
    refine wp_region_flowS (S := fun k => v.ownBlock = some k ∨ w1.heap.size ≤ k) 11 (by kernel_rfl) (by kernel_rfl) ?_
    simp only [List.take_succ_cons, List.take_zero, List.drop_succ_cons, List.drop_zero]
    (repeat (refine wpS_want rfl (fun K hK => ?_); apply Exists.intro; refine ⟨fun w1 hR => ?_, ?_⟩; (go_simp; rfl); go_simp; refine hK _ ?_; clear hK K))
    refine wpS_nil ?_
    intro w2 hR
    refine okS_want rfl (fun w3 hC2 K hK => ?_)
    have hg := hR.trans hC2
    clear hR hC2 c5 c6 b0 b1 b2 b3
    go_simp
    refine (IL.out (some p) w3 base v xs (HR1.out.2.1.grw hg) HOK.out.left HV.out (HO1.out.grw hg) (fun q hq => HLT.out q (by simp [T.nodes, hq])) (Nat.le_trans hb2 hg.size) (by have := HL.out; simp only [T.leaves, List.length_append] at this; omega)).mono ?_
    rintro e w4 ⟨v4, rfl, HO4, hC4, hV4⟩
    have hC4' : OnlyChg (fun k => v.ownBlock = some k ∨ w1.heap.size ≤ k) w3 w4 := hC4.mono fun _ _ h => .inl h
    refine ⟨v4, rfl, hK _ _ hC4' ?_⟩
    clear hK K
    have hC5' := ((OnlyChg.refl (fun k => v.ownBlock = some k ∨ w1.heap.size ≤ k) w1).grw hg).trans hC4'
    have hV5 : ∀ k, v4.ownBlock = some k → v.ownBlock = some k ∨ w1.heap.size ≤ k := fun k hk => hV4.elim (fun e => .inl (e ▸ hk)) (fun ⟨q, h1, h2⟩ => .inr (by have := hg.size; rw [h1] at hk; cases hk; omega))
    have hV4o : v4.ownBlock = none → v.ownBlock = none := fun e => hV4.elim (fun h => h ▸ e) (fun ⟨q, h1, _⟩ => by rw [h1] at e; cases e)
    clear hV4
    refine okS_want rfl (fun w6 hg6 K hK => ?_)
    have hC6 := hC5'.grw hg6
    have HO6 := Lib.hid (HO4.grw hg6)
    clear hC5' hC4 hC4' HO4 hg6 hg
    go_simp
    refine (IR.out (some p) w6 base v4 _ (HR1.out.2.2.keep hC6 (fun q hq => hNV.out q (HLT.out q (by simp [T.nodes, hq])))) HOK.out.right HV.out HO6.out (fun q hq => HLT.out q (by simp [T.nodes, hq])) (Nat.le_trans hb2 hC6.size) (by
      have := HL.out
      have h2 := List.length_filter_le (Lf.ov a b c d) l.leaves
      simp only [T.leaves, List.length_append, List.length_map] at this ⊢; omega)).mono ?_
    rintro e w7 ⟨v7, rfl, HO7, hC7, hV7⟩
    have hC7' : OnlyChg (fun k => v.ownBlock = some k ∨ w1.heap.size ≤ k) w6 w7 := hC7.mono fun k _ h => hV5 k h
    refine ⟨v7, rfl, hK _ _ hC7' ?_⟩
    clear hK K
    have hV8 : v7.ownBlock = v.ownBlock ∨ ∃ q, v7.ownBlock = some q ∧ w1.heap.size ≤ q := by
      rcases hV7 with e | ⟨q, h1, h2⟩
      · rw [e]
        cases hv4 : v4.ownBlock with
        | none =>
          exact .inl (hV4o hv4).symm
        | some k => exact (hV5 k hv4).imp (fun e => e.symm) fun h => ⟨k, rfl, h⟩
      · exact .inr ⟨q, h1, by have := hC6.size; omega⟩
    have hC8 := hC6.trans hC7'
    have HO8 := Lib.hid HO7
    clear hC6 hC7 hC7' HO7 HO6 hV7 hV5
    refine okS_want rfl (fun w9 hg9 K hK => ?_)
    have hC9 := hC8.grw hg9
    have HO9 := Lib.hid (HO8.out.grw hg9)
    clear hC8 hg9 HO8
    go_simp
    refine hK _ _ (OnlyChg.refl _ _) ?_
    clear hK K
    refine okS_nil (fun w8 hg8 => ?_)
    have hC8 := hC9.grw hg8
    have HO8 := Lib.hid (HO9.out.grw hg8)
    clear hC9 hg8 HO9
    go_wp2_with fail
    go_ret
    exact ⟨v7, rfl, by simpa [T.leaves, List.filter_append] using HO8.out, ((OnlyChg.refl _ w).grw HG.out).trans hC8.cutNew, hV8.imp id fun ⟨q, h1, h2⟩ => ⟨q, h1, by omega⟩⟩

end Go.Proofs.Ytbnfngelkaembaa
