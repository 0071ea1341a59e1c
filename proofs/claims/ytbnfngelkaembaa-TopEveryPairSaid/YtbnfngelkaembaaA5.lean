/- One step on the way up of rebalance: refresh or rotate at a place whose children lie in memory; its conditions: all nodes are apart, all boxes are valid. -/
import Derived.Test.YtbnfngelkaembaaA4
namespace Go.Proofs.Ytbnfngelkaembaa
open Go.RowKit Go.Sort

/-- the node p whose children are l and r lies at the place C; its own box and height may be stale -/
structure Stale (w : World) (t : Nat) (m : Option Nat) (p : Nat) (l r : T) (C : Cx) : Prop where
  own : ∃ P : Nd, NodeAt w p P ∧ P.l = some l.ptr ∧ P.r = some r.ptr ∧ P.par = C.par ∧ P.id = 0
  hl : Rep w (some p) l
  hr : Rep w (some p) r
  hC : RepC w t m p C

/-- all nodes are apart -/
def Apart (t p : Nat) (l r : T) (C : Cx) : Prop := (t :: p :: (l.nodes ++ (r.nodes ++ C.nodes))).Nodup

theorem nodup_parts {t p : Nat} {A B D : List Nat} (h : (t :: p :: (A ++ (B ++ D))).Nodup) :
    t ≠ p ∧ t ∉ A ∧ t ∉ B ∧ t ∉ D ∧ p ∉ A ∧ p ∉ B ∧ p ∉ D ∧ A.Nodup ∧ B.Nodup ∧ D.Nodup ∧ (∀ x ∈ A, x ∉ B ∧ x ∉ D) ∧ (∀ x ∈ B, x ∉ D) := by
  simp only [List.nodup_cons, List.mem_cons, List.mem_append, not_or, List.nodup_append] at h
  obtain ⟨⟨h1, h2, h3, h4⟩, ⟨h5, h6, h7⟩, h8, ⟨h9, h10, h11⟩, h12⟩ := h
  exact ⟨h1, h2, h3, h4, h5, h6, h7, h8, h9, h10, fun x hx => ⟨fun hb => h12 x hx x (.inl hb) rfl, fun hd => h12 x hx x (.inr hd) rfl⟩, fun x hx hd => h11 x hx x hd rfl⟩

theorem nd_node {P : Nd} {par : Option Nat} {p : Nat} {l r : T} (hid : P.id = 0) (q q' : Option Nat) :
    ({ P with par := par, l := some l.ptr, r := some r.ptr, a := min (l.nd q).a (r.nd q').a, b := min (l.nd q).b (r.nd q').b, c := max (l.nd q).c (r.nd q').c, d := max (l.nd q).d (r.nd q').d, h := 1 + max (l.nd q).h (r.nd q').h } : Nd) = (T.node p l r).nd par := by
  cases P
  simp only [T.nd_a, T.nd_b, T.nd_c, T.nd_d, T.nd_h]
  simp only at hid
  subst hid
  rfl

theorem refresh_step (t : Nat) (m : Option Nat) (p : Nat) (l r : T) (C : Cx) (w : World) (h : Stale w t m p l r C) (ha : Apart t p l r C) (okl : l.ok) (okr : r.ok) (hb : l.nodes.length + r.nodes.length ≤ 400000) :
    Calls Try.prog 58 #[.pointer (some ⟨p, 0, none⟩)] w fun e w' => e = .returned (.tuple #[]) ∧ Rep w' C.par (.node p l r) ∧ RepC w' t m p C ∧ OnlyChg (fun i => i = t ∨ i = p ∨ i ∈ l.nodes ∨ i ∈ r.nodes ∨ i ∈ C.nodes) w w' := by
  obtain ⟨⟨P, h1, h2, h3, h4, h5⟩, h6, h7, h8⟩ := h
  obtain ⟨a1, a2, a3, a4, a5, a6, a7, a8, a9, a10, a11, a12⟩ := nodup_parts ha
  have b1 := T.h_lo l
  have b2 := T.h_hi l
  have b3 := T.h_lo r
  have b4 := T.h_hi r
  refine (refresh_any p l.ptr r.ptr P (l.nd (some p)) (r.nd (some p)) w h1 h6.root h7.root h2 h3 (by rw [T.nd_a, T.nd_b, T.nd_c, T.nd_d]; exact okl.valid) (by rw [T.nd_a, T.nd_b, T.nd_c, T.nd_d]; exact okr.valid)
    (by rw [T.nd_h]; omega) (by rw [T.nd_h]; omega) (by rw [T.nd_h]; omega) (by rw [T.nd_h]; omega) (fun e => a5 (e ▸ l.ptr_mem)) (fun e => a6 (e ▸ r.ptr_mem))).mono ?_
  rintro e w' ⟨rfl, hN, hc⟩
  refine ⟨rfl, ⟨?_, h6.keep hc (fun q hq e => a5 (e ▸ hq)), h7.keep hc (fun q hq e => a6 (e ▸ hq))⟩, h8.keep hc a1 (fun q hq e => a7 (e ▸ hq)), hc.mono fun i _ hi => .inr (.inl hi)⟩
  have e := nd_node (P := P) (par := C.par) (p := p) (l := l) (r := r) h5 (some p) (some p)
  rw [← e, ← h2, ← h3, ← h4]
  exact hN

/-- what a step leaves -/
def Step (w : World) (t : Nat) (m : Option Nat) (p : Nat) (l r : T) (C : Cx) (w' : World) (S : T) : Prop :=
  Rep w' C.par S ∧ RepC w' t m S.ptr C ∧ S.leaves.Perm (l.leaves ++ r.leaves) ∧ S.nodes.Perm (p :: (l.nodes ++ r.nodes)) ∧ OnlyChg (fun i => i = t ∨ i = p ∨ i ∈ l.nodes ∨ i ∈ r.nodes ∨ i ∈ C.nodes) w w'

theorem blk_cases (t : Nat) (C : Cx) : C.blk t = t ∨ C.blk t ∈ C.nodes := by cases C <;> simp [Cx.blk, Cx.nodes]
theorem rest_mem {t : Nat} {C : Cx} (hn : (t :: C.nodes).Nodup) {x : Nat} (hx : x ∈ C.rest t) : x ≠ C.blk t ∧ (x = t ∨ x ∈ C.nodes) := by
  cases C with
  | top => simp [Cx.rest] at hx
  | L p up r =>
    simp only [Cx.nodes, List.nodup_cons, List.mem_cons, List.mem_append, not_or] at hn
    simp only [Cx.rest, List.mem_cons, List.mem_append] at hx
    refine ⟨?_, ?_⟩
    · rintro rfl
      rcases hx with e | hx | hx
      · exact hn.1.1 e.symm
      · exact hn.2.1.1 hx
      · exact hn.2.1.2 hx
    · rcases hx with e | hx | hx
      · exact .inl e
      · exact .inr (by simp [Cx.nodes, hx])
      · exact .inr (by simp [Cx.nodes, hx])
  | R p l up =>
    simp only [Cx.nodes, List.nodup_cons, List.mem_cons, List.mem_append, not_or] at hn
    simp only [Cx.rest, List.mem_cons, List.mem_append] at hx
    refine ⟨?_, ?_⟩
    · rintro rfl
      rcases hx with e | hx | hx
      · exact hn.1.1 e.symm
      · exact hn.2.1.1 hx
      · exact hn.2.1.2 hx
    · rcases hx with e | hx | hx
      · exact .inl e
      · exact .inr (by simp [Cx.nodes, hx])
      · exact .inr (by simp [Cx.nodes, hx])

/-- the end of a rotation: the new subtree S = node hi up (node p lo dn) -/
theorem rotate_end {w w' : World} {t : Nat} {m : Option Nat} {p hi : Nat} {lo up dn : T} {C : Cx} {k : Lk} {P H : Nd}
    (hlo : Rep w (some p) lo) (hup : Rep w (some hi) up) (hdn : Rep w (some hi) dn) (hP : P.id = 0) (hH : H.id = 0) (hkp : k.par = C.par) (hkb : k.blk t = C.blk t)
    (hre : ∀ (S : Nat → Prop) (w' : World), LinkTo w' t m hi k → OnlyChg S w w' → (∀ p ∈ C.rest t, ¬ S p) → RepC w' t m hi C)
    (nd : (t :: p :: hi :: (lo.nodes ++ (up.nodes ++ (dn.nodes ++ C.nodes)))).Nodup)
    (r1 : LinkTo w' t m hi k)
    (r2 : NodeAt w' p { P with par := some hi, l := some lo.ptr, r := some dn.ptr, a := min (lo.nd (some p)).a (dn.nd (some hi)).a, b := min (lo.nd (some p)).b (dn.nd (some hi)).b, c := max (lo.nd (some p)).c (dn.nd (some hi)).c, d := max (lo.nd (some p)).d (dn.nd (some hi)).d, h := 1 + max (lo.nd (some p)).h (dn.nd (some hi)).h })
    (r3 : NodeAt w' hi { H with par := k.par, l := some up.ptr, r := some p, a := min (up.nd (some hi)).a (min (lo.nd (some p)).a (dn.nd (some hi)).a), b := min (up.nd (some hi)).b (min (lo.nd (some p)).b (dn.nd (some hi)).b), c := max (up.nd (some hi)).c (max (lo.nd (some p)).c (dn.nd (some hi)).c), d := max (up.nd (some hi)).d (max (lo.nd (some p)).d (dn.nd (some hi)).d), h := 1 + max (up.nd (some hi)).h (1 + max (lo.nd (some p)).h (dn.nd (some hi)).h) })
    (r4 : NodeAt w' lo.ptr { (lo.nd (some p)) with par := some p }) (r5 : NodeAt w' dn.ptr { (dn.nd (some hi)) with par := some p }) (r6 : NodeAt w' up.ptr { (up.nd (some hi)) with par := some hi })
    (r7 : OnlyChg (fun i => i = k.blk t ∨ i = p ∨ i = hi ∨ i = lo.ptr ∨ i = dn.ptr ∨ i = up.ptr) w w') :
    Rep w' C.par (.node hi up (.node p lo dn)) ∧ RepC w' t m hi C := by
  simp only [List.nodup_cons, List.mem_cons, List.mem_append, not_or, List.nodup_append] at nd
  obtain ⟨⟨n1, n2, n3, n4, n5, n6⟩, ⟨n7, n8, n9, n10, n11⟩, ⟨n12, n13, n14, n15⟩, n16, ⟨n17, ⟨n18, n19, n20⟩, n21⟩, n22⟩ := nd
  have hbk : ∀ x, x ≠ t → x ∉ C.nodes → x ≠ k.blk t := fun x h1 h2 e => by
    rw [hkb] at e
    rcases blk_cases t C with h | h
    · exact h1 (e.trans h)
    · exact h2 (e ▸ h)
  have keepSub : ∀ (X : T), (∀ x ∈ X.nodes, x ≠ t ∧ x ∉ C.nodes ∧ x ≠ p ∧ x ≠ hi) → (∀ x ∈ X.nodes, x ≠ X.ptr → x ≠ lo.ptr ∧ x ≠ dn.ptr ∧ x ≠ up.ptr) →
      ∀ x ∈ X.nodes, x ≠ X.ptr → ¬ (x = k.blk t ∨ x = p ∨ x = hi ∨ x = lo.ptr ∨ x = dn.ptr ∨ x = up.ptr) := fun X hX hY x hx hxp => by
    obtain ⟨e1, e2, e3, e4⟩ := hX x hx
    obtain ⟨f1, f2, f3⟩ := hY x hx hxp
    simp [hbk x e1 e2, e3, e4, f1, f2, f3]
  refine ⟨⟨?_, ?_, ?_, ?_, ?_⟩, ?_⟩
  · have e := nd_node (P := H) (par := k.par) (p := hi) (l := up) (r := .node p lo dn) hH (some hi) (some hi)
    rw [← hkp]
    simp only [T.nd_a, T.nd_b, T.nd_c, T.nd_d, T.nd_h] at r3 e
    rw [← e]
    exact r3
  · refine Rep.repar r7 hup n17 (by rw [← T.nd_set (some hi) (some hi) up]; exact r6) (keepSub up (fun x hx => ⟨fun e => n4 (e ▸ hx), fun hc => n21 x hx x (.inr hc) rfl, fun e => n9 (e ▸ hx), fun e => n13 (e ▸ hx)⟩) (fun x hx hne => ⟨fun e => ?_, fun e => ?_, hne⟩))
    · subst e; exact n22 _ lo.ptr_mem _ (.inl hx) rfl
    · subst e; exact n21 _ hx _ (.inl dn.ptr_mem) rfl
  · have e := nd_node (P := P) (par := some hi) (p := p) (l := lo) (r := dn) hP (some p) (some hi)
    rw [← e]; exact r2
  · refine Rep.repar r7 hlo n16 (by rw [← T.nd_set (some p) (some p) lo]; exact r4) (keepSub lo (fun x hx => ⟨fun e => n3 (e ▸ hx), fun hc => n22 x hx x (.inr (.inr hc)) rfl, fun e => n8 (e ▸ hx), fun e => n12 (e ▸ hx)⟩) (fun x hx hne => ⟨hne, fun e => ?_, fun e => ?_⟩))
    · subst e; exact n22 _ hx _ (.inr (.inl dn.ptr_mem)) rfl
    · subst e; exact n22 _ hx _ (.inl up.ptr_mem) rfl
  · refine Rep.repar r7 hdn n18 (by rw [← T.nd_set (some hi) (some p) dn]; exact r5) (keepSub dn (fun x hx => ⟨fun e => n5 (e ▸ hx), fun hc => n20 x hx x hc rfl, fun e => n10 (e ▸ hx), fun e => n14 (e ▸ hx)⟩) (fun x hx hne => ⟨fun e => ?_, hne, fun e => ?_⟩))
    · subst e; exact n22 _ lo.ptr_mem _ (.inr (.inl hx)) rfl
    · subst e; exact n21 _ up.ptr_mem _ (.inl hx) rfl
  · refine hre _ w' r1 r7 fun x hx => ?_
    obtain ⟨g1, g2⟩ := rest_mem (C := C) (List.nodup_cons.2 ⟨n6, n19⟩) hx
    have out : ∀ y, y ≠ t → y ∉ C.nodes → x ≠ y := fun y h1 h2 e => by
      subst e
      rcases g2 with g2 | g2
      · exact h1 g2
      · exact h2 g2
    have o1 := out p (Ne.symm n1) n11
    have o2 := out hi (Ne.symm n2) n15
    have o3 := out lo.ptr (fun e => n3 (e ▸ lo.ptr_mem)) (fun hc => n22 _ lo.ptr_mem _ (.inr (.inr hc)) rfl)
    have o4 := out dn.ptr (fun e => n5 (e ▸ dn.ptr_mem)) (fun hc => n20 _ dn.ptr_mem _ hc rfl)
    have o5 := out up.ptr (fun e => n4 (e ▸ up.ptr_mem)) (fun hc => n21 _ up.ptr_mem _ (.inr hc) rfl)
    rw [hkb]
    simp [g1, o1, o2, o3, o4, o5]

/-- a rotation at a place -/
theorem nodup_swap {t p hi : Nat} {A B D E : List Nat} (h : (t :: p :: hi :: (A ++ (B ++ (D ++ E)))).Nodup) : (t :: p :: hi :: (A ++ (D ++ (B ++ E)))).Nodup := by
  refine (List.Perm.nodup_iff ?_).1 h
  refine .cons _ (.cons _ (.cons _ (.append_left _ ?_)))
  rw [← List.append_assoc, ← List.append_assoc]
  exact List.Perm.append_right _ List.perm_append_comm

theorem rotate_step (t : Nat) (m : Option Nat) (p hi x y : Nat) (lo u d : T) (C : Cx) (P : Nd) (w : World) (hP : NodeAt w p P) (h3 : P.l = some x) (h4 : P.r = some y) (h5 : (if x = hi then y else x) = lo.ptr) (hx : x = hi ∨ x = lo.ptr)
    (hpar : P.par = C.par) (hid : P.id = 0) (hlo : Rep w (some p) lo) (hhi : Rep w (some p) (.node hi u d)) (hC : RepC w t m p C)
    (nd : (t :: p :: hi :: (lo.nodes ++ (u.nodes ++ (d.nodes ++ C.nodes)))).Nodup) (oklo : lo.ok) (okhi : (T.node hi u d).ok) (hb : lo.nodes.length + (u.nodes.length + d.nodes.length) ≤ 400000) :
    Calls Try.prog 59 #[.pointer (some ⟨t, 0, none⟩), .pointer (some ⟨p, 0, none⟩), .pointer (some ⟨hi, 0, none⟩)] w fun e w' => e = .returned (.pointer (some ⟨hi, 0, none⟩)) ∧
      ∃ up dn : T, (up = u ∧ dn = d ∨ up = d ∧ dn = u) ∧ Rep w' C.par (.node hi up (.node p lo dn)) ∧ RepC w' t m hi C ∧
        OnlyChg (fun i => i = t ∨ i = p ∨ i = hi ∨ i ∈ lo.nodes ∨ i ∈ u.nodes ∨ i ∈ d.nodes ∨ i ∈ C.nodes) w w' := by
  have nd0 := nd
  simp only [List.nodup_cons, List.mem_cons, List.mem_append, not_or, List.nodup_append] at nd0
  obtain ⟨⟨n1, n2, n3, n4, n5, n6⟩, ⟨n7, n8, n9, n10, n11⟩, ⟨n12, n13, n14, n15⟩, n16, ⟨n17, ⟨n18, n19, n20⟩, n21⟩, n22⟩ := nd0
  have b1 := T.h_lo lo
  have b2 := T.h_hi lo
  have b3 := T.h_lo u
  have b4 := T.h_hi u
  have b5 := T.h_lo d
  have b6 := T.h_hi d
  by_cases hc : d.h ≤ u.h
  · skip
    obtain ⟨k, k1, k2, k3, k4, k5⟩ := hC.link (a := p) (b := hi) n11 n15
    have blk : ∀ z, z ≠ t → z ∉ C.nodes → k.blk t ≠ z := fun z h1 h2 e => by
      rw [k3] at e
      rcases blk_cases t C with g | g
      · exact h1 (e.symm.trans g)
      · exact h2 (e ▸ g)
    refine (rotate_A t p hi lo.ptr x y u.ptr d.ptr m P _ _ _ _ k w hP hhi.1 hlo.root (hhi.2.1).root (hhi.2.2).root k1 (hpar.trans k2.symm) rfl h3 h4 h5 hx rfl rfl (by rw [T.nd_h, T.nd_h]; omega)
      k4 (blk p (Ne.symm n1) n11) (blk hi (Ne.symm n2) n15) (blk _ (fun e => n3 (e ▸ lo.ptr_mem)) (fun hc => n22 _ lo.ptr_mem _ (.inr (.inr hc)) rfl)) (blk _ (fun e => n4 (e ▸ u.ptr_mem)) (fun hc => n21 _ u.ptr_mem _ (.inr hc) rfl)) (blk _ (fun e => n5 (e ▸ d.ptr_mem)) (fun hc => n20 _ d.ptr_mem _ hc rfl))
      n7 (fun e => n8 (e ▸ lo.ptr_mem)) (fun e => n9 (e ▸ u.ptr_mem)) (fun e => n10 (e ▸ d.ptr_mem)) (fun e => n12 (e ▸ lo.ptr_mem)) (fun e => n13 (e ▸ u.ptr_mem)) (fun e => n14 (e ▸ d.ptr_mem))
      (fun e => n22 _ lo.ptr_mem _ (.inl u.ptr_mem) e) (fun e => n22 _ lo.ptr_mem _ (.inr (.inl d.ptr_mem)) e) (fun e => n21 _ u.ptr_mem _ (.inl d.ptr_mem) e)
      (by rw [T.nd_a, T.nd_b, T.nd_c, T.nd_d]; exact oklo.valid) (by rw [T.nd_a, T.nd_b, T.nd_c, T.nd_d]; exact (okhi.left).valid) (by rw [T.nd_a, T.nd_b, T.nd_c, T.nd_d]; exact (okhi.right).valid)
      (by rw [T.nd_a, T.nd_b, T.nd_c, T.nd_d, T.nd_a, T.nd_b, T.nd_c, T.nd_d]; exact T.valid_union oklo.valid (okhi.right).valid)
      (by rw [T.nd_h]; omega) (by rw [T.nd_h]; omega) (by rw [T.nd_h]; omega) (by rw [T.nd_h]; omega) (by rw [T.nd_h]; omega) (by rw [T.nd_h]; omega)).mono ?_
    rintro e w' ⟨rfl, r1, r2, r3, r4, r5, r6, r7⟩
    obtain ⟨e1, e2⟩ := rotate_end (up := u) (dn := d) (C := C) hlo (hhi.2.1) (hhi.2.2) hid rfl k2 k3 k5 (nd) r1 r2 r3 r4 r5 r6 r7
    refine ⟨rfl, u, d, .inl ⟨rfl, rfl⟩, e1, e2, r7.mono fun i _ hi' => ?_⟩
    rcases hi' with e | e | e | e | e | e
    · rw [k3] at e
      rcases blk_cases t C with g | g
      · exact .inl (e.trans g)
      · exact .inr (.inr (.inr (.inr (.inr (.inr (e ▸ g))))))
    · exact .inr (.inl e)
    · exact .inr (.inr (.inl e))
    · exact .inr (.inr (.inr (.inl (e ▸ lo.ptr_mem))))
    · exact .inr (.inr (.inr (.inr (.inr (.inl (e ▸ d.ptr_mem))))))
    · exact .inr (.inr (.inr (.inr (.inl (e ▸ u.ptr_mem)))))
  · skip
    obtain ⟨k, k1, k2, k3, k4, k5⟩ := hC.link (a := p) (b := hi) n11 n15
    have blk : ∀ z, z ≠ t → z ∉ C.nodes → k.blk t ≠ z := fun z h1 h2 e => by
      rw [k3] at e
      rcases blk_cases t C with g | g
      · exact h1 (e.symm.trans g)
      · exact h2 (e ▸ g)
    refine (rotate_B t p hi lo.ptr x y d.ptr u.ptr m P _ _ _ _ k w hP hhi.1 hlo.root (hhi.2.2).root (hhi.2.1).root k1 (hpar.trans k2.symm) rfl h3 h4 h5 hx rfl rfl (by rw [T.nd_h, T.nd_h]; omega)
      k4 (blk p (Ne.symm n1) n11) (blk hi (Ne.symm n2) n15) (blk _ (fun e => n3 (e ▸ lo.ptr_mem)) (fun hc => n22 _ lo.ptr_mem _ (.inr (.inr hc)) rfl)) (blk _ (fun e => n5 (e ▸ d.ptr_mem)) (fun hc => n20 _ d.ptr_mem _ hc rfl)) (blk _ (fun e => n4 (e ▸ u.ptr_mem)) (fun hc => n21 _ u.ptr_mem _ (.inr hc) rfl))
      n7 (fun e => n8 (e ▸ lo.ptr_mem)) (fun e => n10 (e ▸ d.ptr_mem)) (fun e => n9 (e ▸ u.ptr_mem)) (fun e => n12 (e ▸ lo.ptr_mem)) (fun e => n14 (e ▸ d.ptr_mem)) (fun e => n13 (e ▸ u.ptr_mem))
      (fun e => n22 _ lo.ptr_mem _ (.inr (.inl d.ptr_mem)) e) (fun e => n22 _ lo.ptr_mem _ (.inl u.ptr_mem) e) (fun e => n21 _ u.ptr_mem _ (.inl d.ptr_mem) e.symm)
      (by rw [T.nd_a, T.nd_b, T.nd_c, T.nd_d]; exact oklo.valid) (by rw [T.nd_a, T.nd_b, T.nd_c, T.nd_d]; exact (okhi.right).valid) (by rw [T.nd_a, T.nd_b, T.nd_c, T.nd_d]; exact (okhi.left).valid)
      (by rw [T.nd_a, T.nd_b, T.nd_c, T.nd_d, T.nd_a, T.nd_b, T.nd_c, T.nd_d]; exact T.valid_union oklo.valid (okhi.left).valid)
      (by rw [T.nd_h]; omega) (by rw [T.nd_h]; omega) (by rw [T.nd_h]; omega) (by rw [T.nd_h]; omega) (by rw [T.nd_h]; omega) (by rw [T.nd_h]; omega)).mono ?_
    rintro e w' ⟨rfl, r1, r2, r3, r4, r5, r6, r7⟩
    obtain ⟨e1, e2⟩ := rotate_end (up := d) (dn := u) (C := C) hlo (hhi.2.2) (hhi.2.1) hid rfl k2 k3 k5 (nodup_swap nd) r1 r2 r3 r4 r5 r6 r7
    refine ⟨rfl, d, u, .inr ⟨rfl, rfl⟩, e1, e2, r7.mono fun i _ hi' => ?_⟩
    rcases hi' with e | e | e | e | e | e
    · rw [k3] at e
      rcases blk_cases t C with g | g
      · exact .inl (e.trans g)
      · exact .inr (.inr (.inr (.inr (.inr (.inr (e ▸ g))))))
    · exact .inr (.inl e)
    · exact .inr (.inr (.inl e))
    · exact .inr (.inr (.inr (.inl (e ▸ lo.ptr_mem))))
    · exact .inr (.inr (.inr (.inr (.inl (e ▸ u.ptr_mem)))))
    · exact .inr (.inr (.inr (.inr (.inr (.inl (e ▸ d.ptr_mem))))))


end Go.Proofs.Ytbnfngelkaembaa
