/- The contract of attach of package bvh; its conditions: all nodes are apart, all boxes are valid. -/
import Derived.Test.YtbnfngelkaembaaA7
namespace Go.Proofs.Ytbnfngelkaembaa
open Go.RowKit Go.Sort
attribute [local go_sem] qAt qUpon cell_in_grow frozen_in_grow

theorem T.ptr_node (p : Nat) (l r : T) : (T.node p l r).ptr = p := rfl
theorem T.ptr_leaf (x : Lf) : (T.leaf x).ptr = x.p := rfl
theorem T.nd_node_l (par : Option Nat) (p : Nat) (l r : T) : ((T.node p l r).nd par).l = some l.ptr := rfl
theorem T.nd_node_r (par : Option Nat) (p : Nat) (l r : T) : ((T.node p l r).nd par).r = some r.ptr := rfl

/-- down one step -/
theorem RepC.goL {w : World} {t : Nat} {m : Option Nat} {p : Nat} {l r : T} {C : Cx} (h : Rep w C.par (.node p l r)) (hC : RepC w t m p C) : Rep w (Cx.L p C r).par l ∧ RepC w t m l.ptr (.L p C r) :=
  ⟨h.2.1, ⟨_, h.1, rfl, rfl, rfl, rfl⟩, h.2.2, hC⟩
theorem RepC.goR {w : World} {t : Nat} {m : Option Nat} {p : Nat} {l r : T} {C : Cx} (h : Rep w C.par (.node p l r)) (hC : RepC w t m p C) : Rep w (Cx.R p l C).par r ∧ RepC w t m r.ptr (.R p l C) :=
  ⟨h.2.2, ⟨_, h.1, rfl, rfl, rfl, rfl⟩, h.2.1, hC⟩

/-- a leaf's place -/
theorem Rep.place {w : World} {t : Nat} {m : Option Nat} {x : Lf} : ∀ (S : T) (C : Cx), Rep w C.par S → RepC w t m S.ptr C → x ∈ S.leaves →
    ∃ C' : Cx, Rep w C'.par (.leaf x) ∧ RepC w t m x.p C' ∧ (x :: C'.leaves).Perm (S.leaves ++ C.leaves) ∧ (x.p :: C'.nodes).Perm (S.nodes ++ C.nodes)
  | .leaf y, C, h, hC, hx => by
    simp only [T.leaves, List.mem_singleton] at hx
    subst hx
    exact ⟨C, h, hC, by simp [T.leaves], by simp [T.nodes]⟩
  | .node p l r, C, h, hC, hx => by
    simp only [T.leaves, List.mem_append] at hx
    rcases hx with hx | hx
    · obtain ⟨g1, g2⟩ := RepC.goL h hC
      obtain ⟨C', c1, c2, c3, c4⟩ := Rep.place l _ g1 g2 hx
      refine ⟨C', c1, c2, c3.trans ?_, c4.trans ?_⟩
      · rw [List.perm_iff_count]; intro z; simp only [T.leaves, Cx.leaves, List.count_append]; omega
      · rw [List.perm_iff_count]; intro z; simp only [T.nodes, Cx.nodes, List.count_append, List.count_cons]; omega
    · obtain ⟨g1, g2⟩ := RepC.goR h hC
      obtain ⟨C', c1, c2, c3, c4⟩ := Rep.place r _ g1 g2 hx
      refine ⟨C', c1, c2, c3.trans ?_, c4.trans ?_⟩
      · rw [List.perm_iff_count]; intro z; simp only [T.leaves, Cx.leaves, List.count_append]; omega
      · rw [List.perm_iff_count]; intro z; simp only [T.nodes, Cx.nodes, List.count_append, List.count_cons]; omega

/-- a leaf's record -/
def LeafAt (w : World) (x : Lf) (par : Option Nat) : Prop := NodeAt w x.p ((T.leaf x).nd par)

set_option maxHeartbeats 400000 in
theorem attach_none (t : Nat) (m : Option Nat) (x : Lf) (par : Option Nat) (w : World) (hT : TreeAt w t none m) (hx : LeafAt w x par) (hne : t ≠ x.p) :
    Calls Try.prog 24 #[.pointer (some ⟨t, 0, none⟩), .pointer (some ⟨x.p, 0, none⟩)] w fun e w' => e = .returned (.tuple #[]) ∧ Rep w' none (.leaf x) ∧ TreeAt w' t (some x.p) m ∧ OnlyChg (fun i => i = t ∨ i = x.p) w w' := by
  have t0 := hT.facts.1
  have x4 := NodeAt.facts hx |>.2.2.2.2.1
  have ft := hT.free
  have fx := NodeAt.free hx
  rw [ptrV_none] at t0
  have HT := Lib.hid hT
  have HX := Lib.hid hx
  clear hT hx
  go_enter Try.func24, Try.ntmps24
  go_wp2_with fail
  refine bodyPost_ret (results_none rfl _ _ _) rfl ?_
  refine ⟨rfl, NodeAt.other (NodeAt.set HX.out (by rfl)) hne.symm, TreeAt.set (TreeAt.other HT.out hne) rfl, OnlyChg.set (OnlyChg.set (OnlyChg.refl _ w) (.inr rfl) _) (.inl rfl) _⟩

/-- the relation of the descent -/
def Down (w : World) (t : Nat) (m : Option Nat) (S : T) (k : Nat) (v : Value) (wr : World) : Prop :=
  ∃ (X : T) (C : Cx), k = X.nodes.length ∧ v = .pointer (some ⟨X.ptr, 0, none⟩) ∧ Rep wr C.par X ∧ RepC wr t m X.ptr C ∧ (X.leaves ++ C.leaves).Perm S.leaves ∧ (X.nodes ++ C.nodes).Perm S.nodes ∧ Grw w wr

theorem Down.left {w wr w1 : World} {t : Nat} {m : Option Nat} {S : T} {p : Nat} {l r : T} {C : Cx} (h : Rep wr C.par (.node p l r)) (hC : RepC wr t m (T.node p l r).ptr C) (hl : ((T.node p l r).leaves ++ C.leaves).Perm S.leaves) (hn : ((T.node p l r).nodes ++ C.nodes).Perm S.nodes) (hg : Grw w wr) (hg1 : Grw wr w1) :
    Down w t m S l.nodes.length (.pointer (some ⟨l.ptr, 0, none⟩)) w1 := by
  obtain ⟨g1, g2⟩ := RepC.goL h hC
  refine ⟨l, _, rfl, rfl, g1.grw hg1, g2.grw hg1, List.Perm.trans ?_ hl, List.Perm.trans ?_ hn, hg.trans hg1⟩
  · rw [List.perm_iff_count]; intro z; simp only [T.leaves, Cx.leaves, List.count_append]; omega
  · rw [List.perm_iff_count]; intro z; simp only [T.nodes, Cx.nodes, List.count_append, List.count_cons]; omega
theorem Down.right {w wr w1 : World} {t : Nat} {m : Option Nat} {S : T} {p : Nat} {l r : T} {C : Cx} (h : Rep wr C.par (.node p l r)) (hC : RepC wr t m (T.node p l r).ptr C) (hl : ((T.node p l r).leaves ++ C.leaves).Perm S.leaves) (hn : ((T.node p l r).nodes ++ C.nodes).Perm S.nodes) (hg : Grw w wr) (hg1 : Grw wr w1) :
    Down w t m S r.nodes.length (.pointer (some ⟨r.ptr, 0, none⟩)) w1 := by
  obtain ⟨g1, g2⟩ := RepC.goR h hC
  refine ⟨r, _, rfl, rfl, g1.grw hg1, g2.grw hg1, List.Perm.trans ?_ hl, List.Perm.trans ?_ hn, hg.trans hg1⟩
  · rw [List.perm_iff_count]; intro z; simp only [T.leaves, Cx.leaves, List.count_append]; omega
  · rw [List.perm_iff_count]; intro z; simp only [T.nodes, Cx.nodes, List.count_append, List.count_cons]; omega

def zeroNd : Nd := ⟨0, 0, 0, 0, none, none, none, 0, 0⟩

/-- a new inner node takes a leaf's place, the leaf and another become its children -/
theorem hang_end {w w1 w2 : World} {t : Nat} {m : Option Nat} {y x : Lf} {C : Cx} {k : Lk} {n : Nat} {par : Option Nat} (hy : LeafAt w y C.par) (hx : LeafAt w x par)
    (hkp : k.par = C.par) (hkb : k.blk t = C.blk t) (hre : ∀ (S : Nat → Prop) (w' : World), LinkTo w' t m n k → OnlyChg S w w' → (∀ p ∈ C.rest t, ¬ S p) → RepC w' t m n C)
    (nd : (t :: n :: y.p :: x.p :: C.nodes).Nodup)
    (r1 : LinkTo w1 t m n k) (r3 : OnlyChg (fun i => i = n ∨ i = k.blk t) w w1)
    (s1 : NodeAt w2 n { zeroNd with par := k.par, l := some y.p, r := some x.p, a := min y.a x.a, b := min y.b x.b, c := max y.c x.c, d := max y.d x.d, h := 1 + max 1 1 })
    (s2 : NodeAt w2 y.p ((T.leaf y).nd (some n))) (s3 : NodeAt w2 x.p ((T.leaf x).nd (some n))) (s4 : OnlyChg (fun i => i = n ∨ i = y.p ∨ i = x.p) w1 w2) :
    Rep w2 C.par (.node n (.leaf y) (.leaf x)) ∧ RepC w2 t m n C := by
  simp only [List.nodup_cons, List.mem_cons, not_or] at nd
  obtain ⟨⟨n1, n2, n3, n4⟩, ⟨n5, n6, n7⟩, ⟨n8, n9⟩, n10, n11⟩ := nd
  refine ⟨⟨?_, s2, s3⟩, ?_⟩
  · rw [← hkp]; exact s1
  · have c1 : RepC w1 t m n C := hre _ w1 r1 r3 fun z hz => by
      obtain ⟨g1, g2⟩ := rest_mem (C := C) (List.nodup_cons.2 ⟨n4, n11⟩) hz
      rw [hkb]
      rintro (e | e)
      · subst e
        rcases g2 with g2 | g2
        · exact n1 g2.symm
        · exact n7 g2
      · exact g1 e
    refine c1.keep s4 ?_ ?_
    · rintro (e | e | e)
      · exact n1 e
      · exact n2 e
      · exact n3 e
    · rintro z hz (e | e | e)
      · subst e; exact n7 hz
      · subst e; exact n9 hz
      · subst e; exact n10 hz

set_option maxHeartbeats 4000000 in
theorem attach_some (t : Nat) (m : Option Nat) (S : T) (x : Lf) (par : Option Nat) (w : World) (hS : Rep w none S) (hT : TreeAt w t (some S.ptr) m) (hx : LeafAt w x par) (nd : (t :: x.p :: S.nodes).Nodup) (hok : S.ok) (hvx : validB x.a x.b x.c x.d = true) (hb : S.nodes.length ≤ 300000) :
    Calls Try.prog 24 #[.pointer (some ⟨t, 0, none⟩), .pointer (some ⟨x.p, 0, none⟩)] w fun e w' => e = .returned (.tuple #[]) ∧ ∃ (S' : T) (n : Nat), w.heap.size ≤ n ∧ Rep w' none S' ∧ TreeAt w' t (some S'.ptr) m ∧
      S'.leaves.Perm (x :: S.leaves) ∧ S'.nodes.Perm (n :: x.p :: S.nodes) ∧ OnlyChg (fun i => i = t ∨ i = x.p ∨ i ∈ S.nodes) w w' := by
  have t0 := hT.facts.1
  rw [ptrV_some] at t0
  have H0 : Hid (Down w t m S S.nodes.length (.pointer (some ⟨S.ptr, 0, none⟩)) w) := ⟨S, .top, rfl, rfl, hS, hT, by simp [Cx.leaves], by simp [Cx.nodes], Grw.refl w⟩
  have HX := Lib.hid hx
  have HLT := Lib.hid (And.intro hT.lt (And.intro (NodeAt.lt hx) hS.lt))
  have HN := Lib.hid nd
  have HOK := Lib.hid hok
  have HB := Lib.hid hb
  clear hS hT hx nd hok hb
  go_enter Try.func24, Try.ntmps24
  go_wp2_with fail
  go_loopg [4] S.nodes.length (fun k v wr => Down w t m S k v wr)
  case atStart => exact H0.out
  case round =>
    obtain ⟨X, C, hk, rfl, hX, hC, hl, hn, hg⟩ := hrel
    have HK := Lib.hid hk
    have HC := Lib.hid hC
    have HP := Lib.hid hl
    have HPN := Lib.hid hn
    have HG := Lib.hid hg
    have okX : X.ok := fun y hy => HOK.out y (hl.mem_iff.1 (by simp [hy]))
    clear hk hC hl hn hg
    cases X with
    | node p l r =>
      have hv1 : validB (l.nd (some p)).a (l.nd (some p)).b (l.nd (some p)).c (l.nd (some p)).d = true := by rw [T.nd_a, T.nd_b, T.nd_c, T.nd_d]; exact okX.left.valid
      have hv2 : validB (r.nd (some p)).a (r.nd (some p)).b (r.nd (some p)).c (r.nd (some p)).d = true := by rw [T.nd_a, T.nd_b, T.nd_c, T.nd_d]; exact okX.right.valid
      have hlf := leaf_any p _ wr hX.1
      have c5 := hX.1.facts.2.2.2.2.2.1
      have c6 := hX.1.facts.2.2.2.2.2.2.1
      have xx := (NodeAt.grw HX.out HG.out).facts
      have x0 := xx.1
      have x1 := xx.2.1
      have x2 := xx.2.2.1
      have x3 := xx.2.2.2.1
      have hN1 : ∀ q : GrownBy, NodeAt (grow (wr.drewN q.n) q.os) l.ptr (l.nd (some p)) := fun q => hX.2.1.root.grw (Grw.mk wr q)
      have hN2 : ∀ q : GrownBy, NodeAt (grow (wr.drewN q.n) q.os) r.ptr (r.nd (some p)) := fun q => hX.2.2.root.grw (Grw.mk wr q)
      have HX1 := Lib.hid hX
      rw [T.nd_node_l, ptrV_some] at c5
      rw [T.nd_node_r, ptrV_some] at c6
      rw [T.nd_node_l] at hlf
      change wr.cell? ⟨x.p, 0, none⟩ = some (.int .i64 x.a) at x0
      change wr.cell? ⟨x.p, 1, none⟩ = some (.int .i64 x.b) at x1
      change wr.cell? ⟨x.p, 2, none⟩ = some (.int .i64 x.c) at x2
      change wr.cell? ⟨x.p, 3, none⟩ = some (.int .i64 x.d) at x3
      have j1 := hX.1.lt
      have j2 := (NodeAt.grw HX.out HG.out).lt
      clear hX xx okX
      rw [T.ptr_node]
      go_wp2_with fail
      refine hlf.mono ?_
      rintro e w' ⟨rfl, rfl⟩
      clear hlf
      go_wp2_with fail
      refine wp_region_flow (by kernel_rfl) (by kernel_rfl) ?_
      (repeat (refine wpQ_step (fun K hK => ?_); go_simp; first | (refine hK _ ?_; clear hK K) | (apply Exists.intro; refine ⟨fun _ => ?_, hK _ ?_⟩; (go_at_call 38; first | exact cost_any _ _ _ _ _ _ _ (hN1 _) hv1 hvx | exact cost_any _ _ _ _ _ _ _ (hN2 _) hv2 hvx); clear hK K)))
      refine wpQ_nil ?_
      intro w1 hg1
      have e5 := hg1.cell c5
      have e6 := hg1.cell c6
      have HG1 := Lib.hid hg1
      clear c5 c6 x0 x1 x2 x3 hN1 hN2 hv1 hv2 hg1
      go_wp2_with fail
      · go_roundg l.nodes.length
        case rel => exact Down.left HX1.out HC.out HP.out HPN.out HG.out HG1.out
        case measure => have := HK.out; simp only [T.nodes, List.length_cons, List.length_append] at this; omega
      · go_roundg r.nodes.length
        case rel => exact Down.right HX1.out HC.out HP.out HPN.out HG.out HG1.out
        case measure => have := HK.out; simp only [T.nodes, List.length_cons, List.length_append] at this; omega
    | leaf y =>
      have hlf := leaf_any y.p _ wr hX
      have hnil : ((T.leaf y).nd C.par).l.isNone = true := rfl
      rw [hnil] at hlf
      have HX1 := Lib.hid hX
      clear hX okX hnil
      rw [T.ptr_leaf]
      go_wp2_with fail
      refine hlf.mono ?_
      rintro e w' ⟨rfl, rfl⟩
      clear hlf
      go_wp2_with fail
      obtain ⟨lt1, lt2, lt3⟩ := HLT.out
      have hsz := HG.out.size
      have hnd := HN.out
      have hW : Grw wr (wr.alloc (.cells zeroNd.cells 55)) := (Grw.refl wr).alloc _
      have f1 : NodeAt (wr.alloc (.cells zeroNd.cells 55)) wr.heap.size zeroNd := heap_alloc_new wr _
      have f2 : LeafAt (wr.alloc (.cells zeroNd.cells 55)) y C.par := NodeAt.grw (n := (T.leaf y).nd C.par) HX1.out hW
      have f3 : LeafAt (wr.alloc (.cells zeroNd.cells 55)) x par := NodeAt.grw HX.out (HG.out.trans hW)
      have f4 : RepC (wr.alloc (.cells zeroNd.cells 55)) t m y.p C := RepC.grw HC.out hW
      have old : ∀ z ∈ (T.leaf y).nodes ++ C.nodes, z < w.heap.size := fun z hz => lt3 z (HPN.out.mem_iff.1 hz)
      have nd2 : (t :: wr.heap.size :: y.p :: x.p :: C.nodes).Nodup := by
        have e1 : (t :: x.p :: ((T.leaf y).nodes ++ C.nodes)).Nodup := ((List.Perm.cons t (List.Perm.cons x.p HPN.out)).nodup_iff).2 hnd
        have e2 : (wr.heap.size :: t :: x.p :: ((T.leaf y).nodes ++ C.nodes)).Nodup := by
          refine List.nodup_cons.2 ⟨?_, e1⟩
          simp only [List.mem_cons, not_or]
          refine ⟨by omega, by omega, fun hz => ?_⟩
          have := old _ hz; omega
        refine (List.Perm.nodup_iff ?_).1 e2
        rw [List.perm_iff_count]; intro z; simp only [T.nodes, List.singleton_append, List.count_cons]; omega
      have nd3 := nd2
      simp only [List.nodup_cons, List.mem_cons, not_or] at nd3
      obtain ⟨⟨m1, m2, m3, m4⟩, ⟨m5, m6, m7⟩, ⟨m8, m9⟩, m10, m11⟩ := nd3
      obtain ⟨k, k1, k2, k3, k4, k5⟩ := f4.link m9 wr.heap.size m7
      have blk : ∀ z, z ≠ t → z ∉ C.nodes → k.blk t ≠ z := fun z h1 h2 e => by
        rw [k3] at e
        rcases blk_cases t C with g | g
        · exact h1 (e.symm.trans g)
        · exact h2 (e ▸ g)
      have b1 := blk y.p (Ne.symm m2) m9
      have b2 := blk wr.heap.size (Ne.symm m1) m7
      have b3 := blk x.p (Ne.symm m3) m10
      have vy : validB y.a y.b y.c y.d = true := HOK.out y (HP.out.mem_iff.1 (by simp [T.leaves]))
      have R := replace_any t y.p wr.heap.size m _ _ k _ f2 f1 k1 k2.symm b1 b2 k4
      refine R.mono ?_
      rintro e W1 ⟨rfl, r1, r2, r3⟩
      have g2 : LeafAt W1 y C.par := NodeAt.keep f2 r3 (fun h => h.elim (fun e => m5 e.symm) (fun e => b1 e.symm))
      have g3 : LeafAt W1 x par := NodeAt.keep f3 r3 (fun h => h.elim (fun e => m6 e.symm) (fun e => b3 e.symm))
      have R2 := adopt_any wr.heap.size y.p x.p _ _ _ W1 r2 g2 g3 vy hvx (by show (0 : Int) ≤ 1; omega) (by show (1 : Int) ≤ 1000000; omega) (by show (0 : Int) ≤ 1; omega) (by show (1 : Int) ≤ 1000000; omega) m5 m6 m8
      have X1 := Lib.hid r1
      have X3 := Lib.hid r3
      clear r1 r2 r3
      go_wp2_with fail
      refine R2.mono ?_
      rintro e W2 ⟨rfl, s1, s2, s3, s4⟩
      obtain ⟨h1, h2⟩ := hang_end (w := wr.alloc (.cells zeroNd.cells 55)) (w1 := W1) (w2 := W2) (n := wr.heap.size) (k := k) f2 f3 k2 k3 k5 nd2 X1.out X3.out s1 s2 s3 s4
      have hO : OnlyChg (fun i => i = t ∨ i ∈ (wr.heap.size :: x.p :: S.nodes)) w W2 := by
        refine (((OnlyChg.refl _ w).grw (HG.out.trans hW)).trans (X3.out.mono fun i _ hi => ?_)).trans (s4.mono fun i _ hi => ?_)
        · rcases hi with e | e
          · exact .inr (by simp [e])
          · rw [k3] at e
            rcases blk_cases t C with g | g
            · exact .inl (e.trans g)
            · exact .inr (by have := HPN.out.mem_iff.1 (List.mem_append_right (T.leaf y).nodes (e ▸ g : i ∈ C.nodes)); simp [this])
        · rcases hi with e | e | e
          · exact .inr (by simp [e])
          · exact .inr (by have := HPN.out.mem_iff.1 (List.mem_append_left C.nodes (by simp [T.nodes, e] : i ∈ (T.leaf y).nodes)); simp [this])
          · exact .inr (by simp [e])
      have hRB : RB w t m (x :: S.leaves) (wr.heap.size :: x.p :: S.nodes) C.depth (ptrV C.par) W2 := by
        refine RB.up (S := .node wr.heap.size (.leaf y) (.leaf x)) h1 h2 ?_ ?_ hO
        · have := HP.out
          rw [List.perm_iff_count] at this ⊢
          intro z
          have := this z
          simp only [T.leaves, List.count_append, List.count_cons, List.count_nil] at this ⊢
          omega
        · have := HPN.out
          rw [List.perm_iff_count] at this ⊢
          intro z
          have := this z
          simp only [T.nodes, List.count_append, List.count_cons, List.count_nil] at this ⊢
          omega
      have ndN : (t :: wr.heap.size :: x.p :: S.nodes).Nodup := by
        refine (List.Perm.nodup_iff ?_).1 nd2
        have := HPN.out
        rw [List.perm_iff_count] at this ⊢
        intro z
        have := this z
        simp only [T.nodes, List.count_append, List.count_cons, List.count_nil] at this ⊢
        omega
      have F := rebalance_any t m (x :: S.leaves) (wr.heap.size :: x.p :: S.nodes) w W2 ndN (by
        intro z hz
        simp only [List.mem_cons] at hz
        rcases hz with rfl | hz
        · exact hvx
        · exact HOK.out z hz) (by have := HB.out; simp only [List.length_cons]; omega) C.depth (ptrV C.par) hRB
      have c4 : W2.cell? ⟨wr.heap.size, 4, none⟩ = some (ptrV C.par) := by
        have := h1.1.facts.2.2.2.2.1
        rwa [T.nd_par] at this
      clear s1 s2 s3 s4 h1 h2 hO hRB ndN f1 f2 f3 f4 old nd2 R R2 hW g2 g3
      go_wp2_with fail
      refine F.mono ?_
      rintro e W3 ⟨rfl, S', q1, q2, q3, q4, q5⟩
      have FIN : Hid (∃ (S' : T) (n : Nat), w.heap.size ≤ n ∧ Rep W3 none S' ∧ TreeAt W3 t (some S'.ptr) m ∧ S'.leaves.Perm (x :: S.leaves) ∧ S'.nodes.Perm (n :: x.p :: S.nodes) ∧ OnlyChg (fun i => i = t ∨ i = x.p ∨ i ∈ S.nodes) w W3) := by
        refine ⟨S', wr.heap.size, hsz, q1, q2, q3, q4, q5.mono fun i hi hh => ?_⟩
        simp only [List.mem_cons] at hh
        rcases hh with e | e | e | e
        · exact .inl e
        · omega
        · exact .inr (.inl e)
        · exact .inr (.inr e)
      clear q1 q2 q3 q4 q5 F
      go_wp2_with fail
      go_end0
      exact ⟨rfl, FIN.out⟩

end Go.Proofs.Ytbnfngelkaembaa
