/- The contract of rebalance of package bvh: from a place up to the root; its conditions: all nodes are apart, all boxes are valid. -/
import Derived.Test.YtbnfngelkaembaaA5
import Derived.Deep.LoopGhost
namespace Go.Proofs.Ytbnfngelkaembaa
open Go.RowKit Go.Sort
attribute [local go_sem] qAt qUpon cell_in_grow frozen_in_grow

/-- what rebalance leaves -/
def Whole (w : World) (t : Nat) (m : Option Nat) (L : List Lf) (N : List Nat) (wr : World) : Prop :=
  ∃ S : T, Rep wr none S ∧ TreeAt wr t (some S.ptr) m ∧ S.leaves.Perm L ∧ S.nodes.Perm N ∧ OnlyChg (fun i => i = t ∨ i ∈ N) w wr

def OnWay (w : World) (t : Nat) (m : Option Nat) (L : List Lf) (N : List Nat) (k p : Nat) (l r : T) (C : Cx) (wr : World) : Prop :=
  k = C.depth + 1 ∧ Stale wr t m p l r C ∧ (l.leaves ++ (r.leaves ++ C.leaves)).Perm L ∧ (p :: (l.nodes ++ (r.nodes ++ C.nodes))).Perm N ∧ OnlyChg (fun i => i = t ∨ i ∈ N) w wr

/-- the relation of the loop -/
def RB (w : World) (t : Nat) (m : Option Nat) (L : List Lf) (N : List Nat) (k : Nat) (v : Value) (wr : World) : Prop :=
  (v = .pointer none ∧ Whole w t m L N wr) ∨ ∃ p l r C, v = .pointer (some ⟨p, 0, none⟩) ∧ OnWay w t m L N k p l r C wr

theorem RB.up {w wr : World} {t : Nat} {m : Option Nat} {L : List Lf} {N : List Nat} {S : T} {C : Cx} (h1 : Rep wr C.par S) (h2 : RepC wr t m S.ptr C) (h3 : (S.leaves ++ C.leaves).Perm L) (h4 : (S.nodes ++ C.nodes).Perm N)
    (h5 : OnlyChg (fun i => i = t ∨ i ∈ N) w wr) : RB w t m L N C.depth (ptrV C.par) wr := by
  cases C with
  | top => exact .inl ⟨rfl, S, h1, h2, by simpa [Cx.leaves] using h3, by simpa [Cx.nodes] using h4, h5⟩
  | L p up r =>
    obtain ⟨h6, h7, h8⟩ := h2
    refine .inr ⟨p, S, r, up, rfl, rfl, ⟨h6, h1, h7, h8⟩, by simpa [Cx.leaves] using h3, ?_, h5⟩
    refine List.Perm.trans ?_ h4
    simp only [Cx.nodes]
    exact (List.perm_middle (l₁ := S.nodes) (a := p)).symm
  | R p l up =>
    obtain ⟨h6, h7, h8⟩ := h2
    refine .inr ⟨p, l, S, up, rfl, rfl, ⟨h6, h7, h1, h8⟩, ?_, ?_, h5⟩
    · refine List.Perm.trans ?_ h3
      simp only [Cx.leaves]
      rw [← List.append_assoc, ← List.append_assoc]
      exact List.Perm.append_right _ List.perm_append_comm
    · refine List.Perm.trans ?_ h4
      simp only [Cx.nodes]
      refine List.Perm.trans ?_ (List.perm_middle (l₁ := S.nodes) (a := p)).symm
      refine .cons _ ?_
      rw [← List.append_assoc, ← List.append_assoc]
      exact List.Perm.append_right _ List.perm_append_comm

theorem perm_rot {A u d up dn : T} (h : up = u ∧ dn = d ∨ up = d ∧ dn = u) : (up.leaves ++ (A.leaves ++ dn.leaves)).Perm (A.leaves ++ (u.leaves ++ d.leaves)) := by
  rcases h with ⟨rfl, rfl⟩ | ⟨rfl, rfl⟩ <;> (rw [List.perm_iff_count]; intro x; simp only [List.count_append]; omega)
theorem perm_rotN {A u d up dn : T} (h : up = u ∧ dn = d ∨ up = d ∧ dn = u) : (up.nodes ++ (A.nodes ++ dn.nodes)).Perm (A.nodes ++ (u.nodes ++ d.nodes)) := by
  rcases h with ⟨rfl, rfl⟩ | ⟨rfl, rfl⟩ <;> (rw [List.perm_iff_count]; intro x; simp only [List.count_append]; omega)

section
variable {w wr : World} {t : Nat} {m : Option Nat} {L : List Lf} {N : List Nat} {k p : Nat} {l r : T} {C : Cx}
theorem OnWay.apart (h : OnWay w t m L N k p l r C wr) (hN : (t :: N).Nodup) : Apart t p l r C := by
  obtain ⟨_, _, _, h4, _⟩ := h
  unfold Apart
  exact ((List.Perm.cons t h4).nodup_iff).2 hN
theorem OnWay.okl (h : OnWay w t m L N k p l r C wr) (hL : ∀ y ∈ L, validB y.a y.b y.c y.d = true) : l.ok := fun y hy => hL y (h.2.2.1.mem_iff.1 (by simp [hy]))
theorem OnWay.okr (h : OnWay w t m L N k p l r C wr) (hL : ∀ y ∈ L, validB y.a y.b y.c y.d = true) : r.ok := fun y hy => hL y (h.2.2.1.mem_iff.1 (by simp [hy]))
theorem OnWay.len (h : OnWay w t m L N k p l r C wr) (hb : N.length ≤ 400000) : 1 + (l.nodes.length + (r.nodes.length + C.nodes.length)) ≤ 400000 := by
  have := h.2.2.2.1.length_eq
  simp only [List.length_cons, List.length_append] at this
  omega

/-- a rotation to the right, on the way up -/
theorem OnWay.rotL {hi : Nat} {u d : T} (h : OnWay w t m L N k p (.node hi u d) r C wr) (hN : (t :: N).Nodup) (hL : ∀ y ∈ L, validB y.a y.b y.c y.d = true) (hb : N.length ≤ 400000) :
    Calls Try.prog 59 #[.pointer (some ⟨t, 0, none⟩), .pointer (some ⟨p, 0, none⟩), .pointer (some ⟨hi, 0, none⟩)] wr fun e w' => e = .returned (.pointer (some ⟨hi, 0, none⟩)) ∧ w'.cell? ⟨hi, 4, none⟩ = some (ptrV C.par) ∧ RB w t m L N C.depth (ptrV C.par) w' := by
  have hap := h.apart hN
  have okl := h.okl hL
  have okr := h.okr hL
  have hlen := h.len hb
  obtain ⟨hk, ⟨⟨P, p1, p2, p3, p4, p5⟩, p6, p7, p8⟩, q1, q2, q3⟩ := h
  simp only [T.nodes, List.length_cons, List.length_append] at hlen
  refine (rotate_step t m p hi hi r.ptr r u d C P wr p1 p2 p3 (by simp) (.inl rfl) p4 p5 p7 p6 p8 ?_ okr okl (by omega)).mono ?_
  · unfold Apart at hap
    refine (List.Perm.nodup_iff ?_).1 hap
    refine .cons _ (.cons _ ?_)
    rw [List.perm_iff_count]; intro x; simp only [T.nodes, List.count_append, List.count_cons]; omega
  · rintro e w' ⟨rfl, up, dn, hud, r1, r2, r3⟩
    refine ⟨rfl, ?_, ?_⟩
    · have := (r1.root).facts.2.2.2.2.1
      rwa [T.nd_par] at this
    · refine RB.up r1 r2 (List.Perm.trans ?_ q1) (List.Perm.trans ?_ q2) (q3.trans (r3.mono fun i _ hi' => ?_))
      · have := perm_rot (A := r) hud
        simp only [T.leaves]
        refine List.Perm.trans (List.Perm.append_right _ this) ?_
        rw [List.perm_iff_count]; intro x; simp only [List.count_append]; omega
      · have := perm_rotN (A := r) hud
        simp only [T.nodes]
        rw [List.perm_iff_count] at this ⊢; intro x; have := this x; simp only [List.count_append, List.count_cons] at this ⊢; omega
      · rcases hi' with e | e | e | e | e | e | e
        · exact .inl e
        all_goals exact .inr (q2.mem_iff.1 (by simp [T.nodes, e]))

/-- a rotation to the left, on the way up -/
theorem OnWay.rotR {hi : Nat} {u d : T} (h : OnWay w t m L N k p l (.node hi u d) C wr) (hN : (t :: N).Nodup) (hL : ∀ y ∈ L, validB y.a y.b y.c y.d = true) (hb : N.length ≤ 400000) :
    Calls Try.prog 59 #[.pointer (some ⟨t, 0, none⟩), .pointer (some ⟨p, 0, none⟩), .pointer (some ⟨hi, 0, none⟩)] wr fun e w' => e = .returned (.pointer (some ⟨hi, 0, none⟩)) ∧ w'.cell? ⟨hi, 4, none⟩ = some (ptrV C.par) ∧ RB w t m L N C.depth (ptrV C.par) w' := by
  have hap := h.apart hN
  have okl := h.okl hL
  have okr := h.okr hL
  have hlen := h.len hb
  obtain ⟨hk, ⟨⟨P, p1, p2, p3, p4, p5⟩, p6, p7, p8⟩, q1, q2, q3⟩ := h
  simp only [T.nodes, List.length_cons, List.length_append] at hlen
  have hne : l.ptr ≠ hi := by
    unfold Apart at hap
    intro e
    simp only [T.nodes, List.nodup_cons, List.nodup_append, List.mem_cons, List.mem_append] at hap
    exact hap.2.2.2.2 _ (e ▸ l.ptr_mem) hi (.inl (.inl rfl)) rfl
  refine (rotate_step t m p hi l.ptr hi l u d C P wr p1 p2 p3 (by simp [hne]) (.inr rfl) p4 p5 p6 p7 p8 ?_ okl okr (by omega)).mono ?_
  · unfold Apart at hap
    refine (List.Perm.nodup_iff ?_).1 hap
    refine .cons _ (.cons _ ?_)
    rw [List.perm_iff_count]; intro x; simp only [T.nodes, List.count_append, List.count_cons]; omega
  · rintro e w' ⟨rfl, up, dn, hud, r1, r2, r3⟩
    refine ⟨rfl, ?_, ?_⟩
    · have := (r1.root).facts.2.2.2.2.1
      rwa [T.nd_par] at this
    · refine RB.up r1 r2 (List.Perm.trans ?_ q1) (List.Perm.trans ?_ q2) (q3.trans (r3.mono fun i _ hi' => ?_))
      · have := perm_rot (A := l) hud
        simp only [T.leaves]
        refine List.Perm.trans (List.Perm.append_right _ this) ?_
        rw [List.perm_iff_count]; intro x; simp only [List.count_append]; omega
      · have := perm_rotN (A := l) hud
        simp only [T.nodes]
        rw [List.perm_iff_count] at this ⊢; intro x; have := this x; simp only [List.count_append, List.count_cons] at this ⊢; omega
      · rcases hi' with e | e | e | e | e | e | e
        · exact .inl e
        all_goals exact .inr (q2.mem_iff.1 (by simp [T.nodes, e]))

/-- a refresh, on the way up -/
theorem OnWay.ref (h : OnWay w t m L N k p l r C wr) (hN : (t :: N).Nodup) (hL : ∀ y ∈ L, validB y.a y.b y.c y.d = true) (hb : N.length ≤ 400000) :
    Calls Try.prog 58 #[.pointer (some ⟨p, 0, none⟩)] wr fun e w' => e = .returned (.tuple #[]) ∧ w'.cell? ⟨p, 4, none⟩ = some (ptrV C.par) ∧ RB w t m L N C.depth (ptrV C.par) w' := by
  have hap := h.apart hN
  have okl := h.okl hL
  have okr := h.okr hL
  have hlen := h.len hb
  obtain ⟨hk, hs, q1, q2, q3⟩ := h
  refine (refresh_step t m p l r C wr hs hap okl okr (by omega)).mono ?_
  rintro e w' ⟨rfl, r1, r2, r3⟩
  refine ⟨rfl, ?_, ?_⟩
  · have := (r1.root).facts.2.2.2.2.1
    rwa [T.nd_par] at this
  · refine RB.up (S := .node p l r) r1 r2 (List.Perm.trans ?_ q1) (List.Perm.trans ?_ q2) (q3.trans (r3.mono fun i _ hi' => ?_))
    · simp only [T.leaves]; rw [List.append_assoc]
    · simp only [T.nodes, List.cons_append]; rw [List.append_assoc]
    · rcases hi' with e | e | e | e | e
      · exact .inl e
      all_goals exact .inr (q2.mem_iff.1 (by simp [e]))
end

set_option maxHeartbeats 1000000 in
theorem rebalance_none (t : Nat) (w : World) :
    Calls Try.prog 41 #[.pointer (some ⟨t, 0, none⟩), .pointer none] w fun e w' => e = .returned (.tuple #[]) ∧ w = w' := by
  go_enter Try.func41, Try.ntmps41
  go_wp2_with fail
  refine wp_loop_rounds 1 ?_
  rw [rounds_succ]
  go_wp2_with fail
  go_end0
  exact ⟨rfl, rfl⟩

end Go.Proofs.Ytbnfngelkaembaa
