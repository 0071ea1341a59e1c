/- The contract of detach of package bvh; its conditions: all nodes are apart, all boxes are valid. -/
import Derived.Test.YtbnfngelkaembaaA8
namespace Go.Proofs.Ytbnfngelkaembaa
open Go.RowKit Go.Sort
attribute [local go_sem] qAt qUpon cell_in_grow frozen_in_grow

set_option maxHeartbeats 2000000 in
theorem detach_L (t : Nat) (m : Option Nat) (x : Lf) (p : Nat) (up : Cx) (r : T) (w : World) (hx : LeafAt w x (some p)) (hC : RepC w t m x.p (.L p up r)) (nd : (t :: x.p :: p :: (r.nodes ++ up.nodes)).Nodup) (hok : ∀ y ∈ r.leaves ++ up.leaves, validB y.a y.b y.c y.d = true) (hb : (r.nodes ++ up.nodes).length ≤ 300000) :
    Calls Try.prog 25 #[.pointer (some ⟨t, 0, none⟩), .pointer (some ⟨x.p, 0, none⟩)] w fun e w' => e = .returned (.tuple #[]) ∧ LeafAt w' x none ∧ ∃ S' : T, Rep w' none S' ∧ TreeAt w' t (some S'.ptr) m ∧
      S'.leaves.Perm (r.leaves ++ up.leaves) ∧ S'.nodes.Perm (r.nodes ++ up.nodes) ∧ OnlyChg (fun i => i = t ∨ i = x.p ∨ i ∈ r.nodes ++ up.nodes) w w' := by
  obtain ⟨⟨P, p1, p2, p3, p4, p5⟩, p6, p7⟩ := hC
  have x4 := (NodeAt.facts hx).2.2.2.2.1
  rw [T.nd_par, ptrV_some] at x4
  have nd1 := nd
  simp only [List.nodup_cons, List.mem_cons, List.mem_append, not_or, List.nodup_append] at nd1
  obtain ⟨⟨n1, n2, n3, n4⟩, ⟨n5, n6, n7⟩, ⟨n8, n9⟩, n10, n11, n12⟩ := nd1
  have SB := sibling_any x.p p x.p r.ptr _ _ _ w hx p1 hx (T.nd_par _ _) p2 p3
  rw [if_pos rfl] at SB
  obtain ⟨k, k1, k2, k3, k4, k5⟩ := p7.link n9 r.ptr (fun hc => n12 _ r.ptr_mem _ hc rfl)
  have blk : ∀ z, z ≠ t → z ∉ up.nodes → k.blk t ≠ z := fun z h1 h2 e => by
    rw [k3] at e
    rcases blk_cases t up with g | g
    · exact h1 (e.symm.trans g)
    · exact h2 (e ▸ g)
  have b1 := blk p (Ne.symm n2) n9
  have b2 := blk r.ptr (fun e => n3 (e ▸ r.ptr_mem)) (fun hc => n12 _ r.ptr_mem _ hc rfl)
  have R := replace_any t p r.ptr m P _ k w p1 p6.root k1 (p4.trans k2.symm) b1 b2 k4
  have HX := Lib.hid hx
  have HP := Lib.hid p1
  have HPP := Lib.hid p4
  have HR := Lib.hid p6
  have HOK := Lib.hid hok
  clear hx p1 p2 p3 p4 p5 p6 p7 hok
  go_enter Try.func25, Try.ntmps25
  go_wp2_with fail
  refine SB.mono ?_
  rintro e w' ⟨rfl, rfl⟩
  go_wp2_with fail
  refine R.mono ?_
  rintro e w1 ⟨rfl, r1, r2, r3⟩
  have g1 : RepC w1 t m r.ptr up := k5 _ w1 r1 r3 fun z hz => by
    obtain ⟨g1, g2⟩ := rest_mem (C := up) (List.nodup_cons.2 ⟨n4, n11⟩) hz
    rw [k3]
    rintro (e | e)
    · subst e
      rcases g2 with g2 | g2
      · exact n3 (g2 ▸ r.ptr_mem)
      · exact n12 _ r.ptr_mem _ g2 rfl
    · exact g1 e
  have g2 : Rep w1 up.par r := by
    refine Rep.repar r3 HR.out n10 ?_ fun z hz hne => ?_
    · rw [← T.nd_set (some p) up.par r, ← k2]; exact r2
    · rintro (e | e)
      · exact hne e
      · exact blk z (fun e => n3 (e ▸ hz)) (fun hc => n12 _ hz _ hc rfl) e.symm
  have g3 : NodeAt w1 p P := HP.out.keep r3 (fun h => h.elim (fun e => n8 (e ▸ r.ptr_mem)) (fun e => b1 e.symm))
  have c4 := g3.facts.2.2.2.2.1
  rw [HPP.out] at c4
  have hO : OnlyChg (fun i => i = t ∨ i ∈ (r.nodes ++ up.nodes)) w w1 := r3.mono fun i _ hi => by
    rcases hi with e | e
    · exact .inr (List.mem_append_left _ (e ▸ r.ptr_mem))
    · rw [k3] at e
      rcases blk_cases t up with g | g
      · exact .inl (e.trans g)
      · exact .inr (List.mem_append_right _ (e ▸ g))
  have hRB : RB w t m (r.leaves ++ up.leaves) (r.nodes ++ up.nodes) up.depth (ptrV up.par) w1 := RB.up (S := r) g2 g1 (.refl _) (.refl _) hO
  have F := rebalance_any t m (r.leaves ++ up.leaves) (r.nodes ++ up.nodes) w w1 (by
    refine List.nodup_cons.2 ⟨by simp only [List.mem_append, not_or]; exact ⟨n3, n4⟩, List.nodup_append.2 ⟨n10, n11, n12⟩⟩) HOK.out (by omega) up.depth (ptrV up.par) hRB
  clear g1 g2 g3 hO hRB r1 r2 r3 R SB
  go_wp2_with fail
  refine F.mono ?_
  rintro e w2 ⟨rfl, S', q1, q2, q3, q4, q5⟩
  have hxn : x.p ∉ r.nodes ++ up.nodes := by simp only [List.mem_append, not_or]; exact ⟨n6, n7⟩
  have g4 : LeafAt w2 x (some p) := NodeAt.keep HX.out q5 (fun h => h.elim (fun e => n1 e.symm) hxn)
  have y4 := (NodeAt.facts g4).2.2.2.2.1
  have yf := NodeAt.free g4
  have G4 := Lib.hid g4
  have Q1 := Lib.hid q1
  have Q2 := Lib.hid q2
  have Q3 := Lib.hid q3
  have Q4 := Lib.hid q4
  have Q5 := Lib.hid q5
  have XN := Lib.hid hxn
  clear g4 q1 q2 q3 q4 q5 F hxn
  go_wp2_with fail
  go_end0
  have hO2 : OnlyChg (fun i => i = x.p) w2 (w2.setCell ⟨x.p, 4, none⟩ (.pointer none)) := (OnlyChg.refl _ w2).set1 _
  refine ⟨rfl, NodeAt.set G4.out rfl, S', Q1.out.keep hO2 (fun z hz e => XN.out (Q4.out.mem_iff.1 (e ▸ hz))), Q2.out.keep hO2 n1, Q3.out, Q4.out, ?_⟩
  refine (Q5.out.mono fun i _ hi => ?_).trans (hO2.mono fun i _ hi => .inr (.inl hi))
  exact hi.elim .inl (fun h => .inr (.inr h))

set_option maxHeartbeats 2000000 in
theorem detach_R (t : Nat) (m : Option Nat) (x : Lf) (p : Nat) (up : Cx) (r : T) (w : World) (hx : LeafAt w x (some p)) (hC : RepC w t m x.p (.R p r up)) (nd : (t :: x.p :: p :: (r.nodes ++ up.nodes)).Nodup) (hok : ∀ y ∈ r.leaves ++ up.leaves, validB y.a y.b y.c y.d = true) (hb : (r.nodes ++ up.nodes).length ≤ 300000) :
    Calls Try.prog 25 #[.pointer (some ⟨t, 0, none⟩), .pointer (some ⟨x.p, 0, none⟩)] w fun e w' => e = .returned (.tuple #[]) ∧ LeafAt w' x none ∧ ∃ S' : T, Rep w' none S' ∧ TreeAt w' t (some S'.ptr) m ∧
      S'.leaves.Perm (r.leaves ++ up.leaves) ∧ S'.nodes.Perm (r.nodes ++ up.nodes) ∧ OnlyChg (fun i => i = t ∨ i = x.p ∨ i ∈ r.nodes ++ up.nodes) w w' := by
  obtain ⟨⟨P, p1, p2, p3, p4, p5⟩, p6, p7⟩ := hC
  have x4 := (NodeAt.facts hx).2.2.2.2.1
  rw [T.nd_par, ptrV_some] at x4
  have nd1 := nd
  simp only [List.nodup_cons, List.mem_cons, List.mem_append, not_or, List.nodup_append] at nd1
  obtain ⟨⟨n1, n2, n3, n4⟩, ⟨n5, n6, n7⟩, ⟨n8, n9⟩, n10, n11, n12⟩ := nd1
  have SB := sibling_any x.p p r.ptr x.p _ _ _ w hx p1 p6.root (T.nd_par _ _) p2 p3
  rw [if_neg (fun e : r.ptr = x.p => n6 (e ▸ r.ptr_mem))] at SB
  obtain ⟨k, k1, k2, k3, k4, k5⟩ := p7.link n9 r.ptr (fun hc => n12 _ r.ptr_mem _ hc rfl)
  have blk : ∀ z, z ≠ t → z ∉ up.nodes → k.blk t ≠ z := fun z h1 h2 e => by
    rw [k3] at e
    rcases blk_cases t up with g | g
    · exact h1 (e.symm.trans g)
    · exact h2 (e ▸ g)
  have b1 := blk p (Ne.symm n2) n9
  have b2 := blk r.ptr (fun e => n3 (e ▸ r.ptr_mem)) (fun hc => n12 _ r.ptr_mem _ hc rfl)
  have R := replace_any t p r.ptr m P _ k w p1 p6.root k1 (p4.trans k2.symm) b1 b2 k4
  have HX := Lib.hid hx
  have HP := Lib.hid p1
  have HPP := Lib.hid p4
  have HR := Lib.hid p6
  have HOK := Lib.hid hok
  clear hx p1 p2 p3 p4 p5 p6 p7 hok
  go_enter Try.func25, Try.ntmps25
  go_wp2_with fail
  refine SB.mono ?_
  rintro e w' ⟨rfl, rfl⟩
  go_wp2_with fail
  refine R.mono ?_
  rintro e w1 ⟨rfl, r1, r2, r3⟩
  have g1 : RepC w1 t m r.ptr up := k5 _ w1 r1 r3 fun z hz => by
    obtain ⟨g1, g2⟩ := rest_mem (C := up) (List.nodup_cons.2 ⟨n4, n11⟩) hz
    rw [k3]
    rintro (e | e)
    · subst e
      rcases g2 with g2 | g2
      · exact n3 (g2 ▸ r.ptr_mem)
      · exact n12 _ r.ptr_mem _ g2 rfl
    · exact g1 e
  have g2 : Rep w1 up.par r := by
    refine Rep.repar r3 HR.out n10 ?_ fun z hz hne => ?_
    · rw [← T.nd_set (some p) up.par r, ← k2]; exact r2
    · rintro (e | e)
      · exact hne e
      · exact blk z (fun e => n3 (e ▸ hz)) (fun hc => n12 _ hz _ hc rfl) e.symm
  have g3 : NodeAt w1 p P := HP.out.keep r3 (fun h => h.elim (fun e => n8 (e ▸ r.ptr_mem)) (fun e => b1 e.symm))
  have c4 := g3.facts.2.2.2.2.1
  rw [HPP.out] at c4
  have hO : OnlyChg (fun i => i = t ∨ i ∈ (r.nodes ++ up.nodes)) w w1 := r3.mono fun i _ hi => by
    rcases hi with e | e
    · exact .inr (List.mem_append_left _ (e ▸ r.ptr_mem))
    · rw [k3] at e
      rcases blk_cases t up with g | g
      · exact .inl (e.trans g)
      · exact .inr (List.mem_append_right _ (e ▸ g))
  have hRB : RB w t m (r.leaves ++ up.leaves) (r.nodes ++ up.nodes) up.depth (ptrV up.par) w1 := RB.up (S := r) g2 g1 (.refl _) (.refl _) hO
  have F := rebalance_any t m (r.leaves ++ up.leaves) (r.nodes ++ up.nodes) w w1 (by
    refine List.nodup_cons.2 ⟨by simp only [List.mem_append, not_or]; exact ⟨n3, n4⟩, List.nodup_append.2 ⟨n10, n11, n12⟩⟩) HOK.out (by omega) up.depth (ptrV up.par) hRB
  clear g1 g2 g3 hO hRB r1 r2 r3 R SB
  go_wp2_with fail
  refine F.mono ?_
  rintro e w2 ⟨rfl, S', q1, q2, q3, q4, q5⟩
  have hxn : x.p ∉ r.nodes ++ up.nodes := by simp only [List.mem_append, not_or]; exact ⟨n6, n7⟩
  have g4 : LeafAt w2 x (some p) := NodeAt.keep HX.out q5 (fun h => h.elim (fun e => n1 e.symm) hxn)
  have y4 := (NodeAt.facts g4).2.2.2.2.1
  have yf := NodeAt.free g4
  have G4 := Lib.hid g4
  have Q1 := Lib.hid q1
  have Q2 := Lib.hid q2
  have Q3 := Lib.hid q3
  have Q4 := Lib.hid q4
  have Q5 := Lib.hid q5
  have XN := Lib.hid hxn
  clear g4 q1 q2 q3 q4 q5 F hxn
  go_wp2_with fail
  go_end0
  have hO2 : OnlyChg (fun i => i = x.p) w2 (w2.setCell ⟨x.p, 4, none⟩ (.pointer none)) := (OnlyChg.refl _ w2).set1 _
  refine ⟨rfl, NodeAt.set G4.out rfl, S', Q1.out.keep hO2 (fun z hz e => XN.out (Q4.out.mem_iff.1 (e ▸ hz))), Q2.out.keep hO2 n1, Q3.out, Q4.out, ?_⟩
  refine (Q5.out.mono fun i _ hi => ?_).trans (hO2.mono fun i _ hi => .inr (.inl hi))
  exact hi.elim .inl (fun h => .inr (.inr h))

set_option maxHeartbeats 400000 in
theorem detach_top (t : Nat) (m : Option Nat) (x : Lf) (w : World) (hx : LeafAt w x none) (hT : TreeAt w t (some x.p) m) (hne : t ≠ x.p) :
    Calls Try.prog 25 #[.pointer (some ⟨t, 0, none⟩), .pointer (some ⟨x.p, 0, none⟩)] w fun e w' => e = .returned (.tuple #[]) ∧ LeafAt w' x none ∧ TreeAt w' t none m ∧ OnlyChg (fun i => i = t) w w' := by
  have x4 := (NodeAt.facts hx).2.2.2.2.1
  have t0 := hT.facts.1
  have ft := hT.free
  rw [T.nd_par, ptrV_none] at x4
  have HX := Lib.hid hx
  have HT := Lib.hid hT
  clear hx hT
  go_enter Try.func25, Try.ntmps25
  go_wp2_with fail
  refine bodyPost_ret (results_none rfl _ _ _) rfl ?_
  exact ⟨rfl, NodeAt.other HX.out hne.symm, TreeAt.set HT.out rfl, (OnlyChg.refl _ w).set1 _⟩

/-- the tree, which may be empty -/
def oLeaves : Option T → List Lf
  | none => []
  | some S => S.leaves
def oNodes : Option T → List Nat
  | none => []
  | some S => S.nodes
def TreeIs (w : World) (t : Nat) (m : Option Nat) : Option T → Prop
  | none => TreeAt w t none m
  | some S => Rep w none S ∧ TreeAt w t (some S.ptr) m

theorem detach_any (t : Nat) (m : Option Nat) (S : T) (x : Lf) (w : World) (hS : Rep w none S) (hT : TreeAt w t (some S.ptr) m) (hx : x ∈ S.leaves) (nd : (t :: S.nodes).Nodup) (hok : S.ok) (hb : S.nodes.length ≤ 300000) :
    Calls Try.prog 25 #[.pointer (some ⟨t, 0, none⟩), .pointer (some ⟨x.p, 0, none⟩)] w fun e w' => e = .returned (.tuple #[]) ∧ LeafAt w' x none ∧ ∃ (o : Option T) (E : List Nat), TreeIs w' t m o ∧
      (x :: oLeaves o).Perm S.leaves ∧ (x.p :: (E ++ oNodes o)).Perm S.nodes ∧ OnlyChg (fun i => i = t ∨ i ∈ S.nodes) w w' := by
  obtain ⟨C, c1, c2, c3, c4⟩ := Rep.place S .top hS hT hx
  simp only [Cx.leaves, Cx.nodes, List.append_nil] at c3 c4
  have ndC : (t :: x.p :: C.nodes).Nodup := ((List.Perm.cons t c4).nodup_iff).2 nd
  cases C with
  | top =>
    refine (detach_top t m x w c1 c2 (by simp only [List.nodup_cons, List.mem_cons, not_or] at ndC; exact ndC.1.1)).mono ?_
    rintro e w' ⟨h1, h2, h3, h4⟩
    exact ⟨h1, h2, none, [], h3, by simpa [Cx.leaves, oLeaves] using c3, by simpa [Cx.nodes, oNodes] using c4, h4.mono fun i _ hi => .inl hi⟩
  | L p up r =>
    have len := c4.length_eq
    simp only [Cx.nodes, List.length_cons, List.length_append] at len
    refine (detach_L t m x p up r w c1 c2 (by simpa [Cx.nodes] using ndC) (fun y hy => hok y (c3.mem_iff.1 (by simp only [Cx.leaves]; exact List.mem_cons_of_mem _ hy))) (by simp only [List.length_append]; omega)).mono ?_
    rintro e w' ⟨h1, h2, S', h3, h4, h5, h6, h7⟩
    refine ⟨h1, h2, some S', [p], ⟨h3, h4⟩, (List.Perm.cons x h5).trans (by simpa [Cx.leaves] using c3), ?_, h7.mono fun i _ hi => ?_⟩
    · refine List.Perm.trans ?_ c4
      simp only [Cx.nodes, oNodes, List.singleton_append]
      exact .cons _ (.cons _ h6)
    · rcases hi with e | e | e
      · exact .inl e
      · exact .inr (c4.mem_iff.1 (by simp [e]))
      · exact .inr (c4.mem_iff.1 (by simp only [Cx.nodes]; exact List.mem_cons_of_mem _ (List.mem_cons_of_mem _ e)))
  | R p l up =>
    have len := c4.length_eq
    simp only [Cx.nodes, List.length_cons, List.length_append] at len
    refine (detach_R t m x p up l w c1 c2 (by simpa [Cx.nodes] using ndC) (fun y hy => hok y (c3.mem_iff.1 (by simp only [Cx.leaves]; exact List.mem_cons_of_mem _ hy))) (by simp only [List.length_append]; omega)).mono ?_
    rintro e w' ⟨h1, h2, S', h3, h4, h5, h6, h7⟩
    refine ⟨h1, h2, some S', [p], ⟨h3, h4⟩, (List.Perm.cons x h5).trans (by simpa [Cx.leaves] using c3), ?_, h7.mono fun i _ hi => ?_⟩
    · refine List.Perm.trans ?_ c4
      simp only [Cx.nodes, oNodes, List.singleton_append]
      exact .cons _ (.cons _ h6)
    · rcases hi with e | e | e
      · exact .inl e
      · exact .inr (c4.mem_iff.1 (by simp [e]))
      · exact .inr (c4.mem_iff.1 (by simp only [Cx.nodes]; exact List.mem_cons_of_mem _ (List.mem_cons_of_mem _ e)))

end Go.Proofs.Ytbnfngelkaembaa
