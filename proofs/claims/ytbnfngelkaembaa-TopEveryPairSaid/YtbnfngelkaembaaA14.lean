/- The contract of ids at no tree, and of collect of package bvh; its conditions: the slice's own memory is no node. -/
import Derived.Test.YtbnfngelkaembaaA13
namespace Go.Proofs.Ytbnfngelkaembaa
open Go.RowKit Go.Sort
attribute [local go_sem] qAt qUpon okOp okUpon cell_in_grow frozen_in_grow

set_option maxHeartbeats 400000 in
theorem ids_nil (v : Value) (w : World) : Calls Try.prog 16 #[.pointer none, v] w fun e w' => e = .returned v ∧ w = w' := by
  go_enter Try.func16, Try.ntmps16
  go_wp2_with fail
  go_ret
  exact ⟨rfl, rfl⟩

set_option maxHeartbeats 400000 in
theorem collect_nil (a b c d : Int) (v : Value) (w : World) : Calls Try.prog 28 #[.pointer none, .agg #[.int .i64 a, .int .i64 b, .int .i64 c, .int .i64 d], v] w fun e w' => e = .returned v ∧ Grw w w' := by
  go_enter Try.func28, Try.ntmps28
  go_wp2_with fail
  refine wp_region_flow (by kernel_rfl) (by kernel_rfl) ?_
  (repeat (refine wpQ_step (fun K hK => ?_); go_simp; first | (refine hK _ ?_; clear hK K) | (apply Exists.intro; refine ⟨fun _ => ?_, hK _ ?_⟩; (fail); clear hK K)))
  refine wpQ_nil ?_
  intro w1 hg1
  go_wp2_with fail
  go_ret
  exact ⟨rfl, ((Grw.refl w).alloc _).trans hg1⟩

def Lf.ov (a b c d : Int) (y : Lf) : Bool := ovB y.a y.b y.c y.d a b c d
theorem ov_union {la lb lc ld ra rb rc rd a b c d : Int} (h : ovB (min la ra) (min lb rb) (max lc rc) (max ld rd) a b c d = false) : ovB la lb lc ld a b c d = false ∧ ovB ra rb rc rd a b c d = false := by
  simp only [ovB, decide_eq_false_iff_not] at h ⊢
  constructor <;> (intro ⟨h1, h2, h3, h4⟩; exact h ⟨by omega, by omega, by omega, by omega⟩)
theorem T.noov {a b c d : Int} : ∀ {S : T}, ovB S.a S.b S.c S.d a b c d = false → S.leaves.filter (Lf.ov a b c d) = []
  | .leaf x, h => by simpa [T.leaves, Lf.ov, T.a, T.b, T.c, T.d] using h
  | .node p l r, h => by
    obtain ⟨h1, h2⟩ := ov_union h
    simp only [T.leaves, List.filter_append, T.noov h1, T.noov h2, List.append_nil]
theorem Overlaps_at {a b c d a' b' c' d' : Int} {β : Bool} (h1 : validB a b c d = true) (h2 : validB a' b' c' d' = true) (h3 : ovB a b c d a' b' c' d' = β) (w : World) :
    Calls Try.prog 20 #[.agg #[.int .i64 a, .int .i64 b, .int .i64 c, .int .i64 d], .agg #[.int .i64 a', .int .i64 b', .int .i64 c', .int .i64 d']] w fun e w' => e = .returned (.bool β) ∧ Grw w w' := by
  have := Overlaps_any a b c d a' b' c' d' w
  rw [h1, h2, h3] at this
  simpa using this

/-- what collect answers -/
def Coll (w : World) (base : Nat) (v : Value) (ys : List Int) (e : Ending) (w' : World) : Prop :=
  ∃ v', e = .returned v' ∧ OwnI w' base v' ys ∧ OnlyChg (fun k => v.ownBlock = some k) w w' ∧ (v'.ownBlock = v.ownBlock ∨ ∃ b, v'.ownBlock = some b ∧ w.heap.size ≤ b)

set_option maxHeartbeats 400000 in
theorem collect_skip (S : T) (par : Option Nat) (w : World) (base : Nat) (v : Value) (xs : List Int) (a b c d : Int) (h : Rep w par S) (hok : S.ok) (hv : validB a b c d = true) (HO : OwnI w base v xs)
    (hov : ovB S.a S.b S.c S.d a b c d = false) :
    Calls Try.prog 28 #[.pointer (some ⟨S.ptr, 0, none⟩), .agg #[.int .i64 a, .int .i64 b, .int .i64 c, .int .i64 d], v] w fun e w' => Coll w base v (xs ++ (S.leaves.filter (Lf.ov a b c d)).map (·.id)) e w' := by
  have hO := Overlaps_at hok.valid hv hov
  rw [T.noov hov]
  have hc := h.root.facts
  rw [T.nd_a, T.nd_b, T.nd_c, T.nd_d] at hc
  obtain ⟨c0, c1, c2, c3, _⟩ := hc
  have HH := Lib.hid HO
  have lt := h.root.lt
  have lt2 : S.ptr < w.heap.size + 1 := by omega
  have hne : S.ptr ≠ w.heap.size := by omega
  clear h HO hok hv hov
  go_enter Try.func28, Try.ntmps28
  go_wp2_with fail
  have hgA := (Grw.refl w).alloc (.cells #[.int .i64 a, .int .i64 b, .int .i64 c, .int .i64 d] 30)
  refine wp_region_flow (by kernel_rfl) (by kernel_rfl) ?_
  (repeat (refine wpQ_step (fun K hK => ?_); go_simp; first | (refine hK _ ?_; clear hK K) | (apply Exists.intro; refine ⟨fun _ => ?_, hK _ ?_⟩; (go_at_call 20; exact hO _); clear hK K)))
  refine wpQ_nil ?_
  intro w1 hg1
  go_wp2_with fail
  go_ret
  have hg := hgA.trans hg1
  exact ⟨v, rfl, by simpa using HH.out.grw hg, (OnlyChg.refl _ w).grw hg, .inl rfl⟩


end Go.Proofs.Ytbnfngelkaembaa
