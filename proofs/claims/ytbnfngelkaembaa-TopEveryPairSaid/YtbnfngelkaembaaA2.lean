/- Contracts of the node functions of package bvh: leaf, sibling, refresh, adopt, replace, rotate; their conditions: the nodes that they touch lie in memory. -/
import Derived.Test.YtbnfngelkaembaaA1
import Derived.LaidEqlPtr
import Derived.Laws.Rows
namespace Go.Proofs.Ytbnfngelkaembaa
open Go.RowKit Go.Sort
attribute [local go_sem] qAt qUpon cell_in_grow frozen_in_grow

structure Nd where
  a : Int
  b : Int
  c : Int
  d : Int
  par : Option Nat
  l : Option Nat
  r : Option Nat
  h : Int
  id : Int

def ptrV (p : Option Nat) : Value := .pointer (p.map fun b => ⟨b, 0, none⟩)
def Nd.cells (n : Nd) : Array Value := #[.int .i64 n.a, .int .i64 n.b, .int .i64 n.c, .int .i64 n.d, ptrV n.par, ptrV n.l, ptrV n.r, .int .i64 n.h, .int .i64 n.id]
/-- block p of w is the node n -/
def NodeAt (w : World) (p : Nat) (n : Nd) : Prop := w.heap[p]? = some (.cells n.cells 55 (0, 0))

theorem cell_of_block {w : World} {p : Nat} {cs : Array Value} {t : TypeId} (h : w.heap[p]? = some (.cells cs t (0, 0))) (o : Nat) : w.cell? ⟨p, o, none⟩ = cs[o]? := by
  unfold World.cell?; rw [h]; rfl
theorem frozen_of_block {w : World} {p : Nat} {cs : Array Value} {t : TypeId} (h : w.heap[p]? = some (.cells cs t (0, 0))) (o : Nat) : w.frozen? ⟨p, o, none⟩ = false := by
  unfold World.frozen?; rw [h]; simp
theorem NodeAt.lt {w : World} {p : Nat} {n : Nd} (h : NodeAt w p n) : p < w.heap.size := (Array.getElem?_eq_some_iff.1 h).1
theorem NodeAt.facts {w : World} {p : Nat} {n : Nd} (h : NodeAt w p n) :
    w.cell? ⟨p, 0, none⟩ = some (.int .i64 n.a) ∧ w.cell? ⟨p, 1, none⟩ = some (.int .i64 n.b) ∧ w.cell? ⟨p, 2, none⟩ = some (.int .i64 n.c) ∧ w.cell? ⟨p, 3, none⟩ = some (.int .i64 n.d) ∧
    w.cell? ⟨p, 4, none⟩ = some (ptrV n.par) ∧ w.cell? ⟨p, 5, none⟩ = some (ptrV n.l) ∧ w.cell? ⟨p, 6, none⟩ = some (ptrV n.r) ∧ w.cell? ⟨p, 7, none⟩ = some (.int .i64 n.h) ∧ w.cell? ⟨p, 8, none⟩ = some (.int .i64 n.id) := by
  refine ⟨?_, ?_, ?_, ?_, ?_, ?_, ?_, ?_, ?_⟩ <;> rw [cell_of_block h] <;> rfl
theorem NodeAt.free {w : World} {p : Nat} {n : Nd} (h : NodeAt w p n) (o : Nat) : w.frozen? ⟨p, o, none⟩ = false := frozen_of_block h o
theorem NodeAt.set {w : World} {p j : Nat} {n n' : Nd} {v : Value} (h : NodeAt w p n) (hc : n.cells.setIfInBounds j v = n'.cells) : NodeAt (w.setCell ⟨p, j, none⟩ v) p n' := by
  unfold NodeAt
  rw [heap_setCell_same w p j _ 55 v h, hc]
theorem NodeAt.other {w : World} {p q j : Nat} {n : Nd} {v : Value} (h : NodeAt w p n) (hne : p ≠ q) : NodeAt (w.setCell ⟨q, j, none⟩ v) p n := by
  unfold NodeAt
  rw [heap_setCell_other w ⟨q, j, none⟩ p v hne]; exact h
theorem NodeAt.grw {w w' : World} {p : Nat} {n : Nd} (h : NodeAt w p n) (hg : Grw w w') : NodeAt w' p n := (hg.heap h.lt).trans h

/-- Outside of S nothing that was there has turned. -/
structure OnlyChg (S : Nat → Prop) (w w' : World) : Prop where
  os : w'.os = w.os
  tape : w'.tape = w.tape
  output : w'.output = w.output
  size : w.heap.size ≤ w'.heap.size
  block : ∀ k, k < w.heap.size → ¬ S k → w'.heap[k]? = w.heap[k]?
theorem OnlyChg.refl (S : Nat → Prop) (w : World) : OnlyChg S w w := ⟨rfl, rfl, rfl, Nat.le_refl _, fun _ _ _ => rfl⟩
theorem OnlyChg.trans {S : Nat → Prop} {a b c : World} (h : OnlyChg S a b) (k : OnlyChg S b c) : OnlyChg S a c :=
  ⟨k.os.trans h.os, k.tape.trans h.tape, k.output.trans h.output, Nat.le_trans h.size k.size, fun i hi hs => (k.block i (Nat.lt_of_lt_of_le hi h.size) hs).trans (h.block i hi hs)⟩
theorem OnlyChg.mono {S S' : Nat → Prop} {a b : World} (h : OnlyChg S a b) (hs : ∀ k, k < a.heap.size → S k → S' k) : OnlyChg S' a b :=
  ⟨h.os, h.tape, h.output, h.size, fun i hi hn => h.block i hi fun hS => hn (hs i hi hS)⟩
theorem OnlyChg.grw {S : Nat → Prop} {a b c : World} (h : OnlyChg S a b) (k : Grw b c) : OnlyChg S a c :=
  h.trans ⟨k.below.os, k.below.tape, k.below.output, k.below.size, fun i hi _ => k.below.block i hi⟩
theorem OnlyChg.set {S : Nat → Prop} {a b : World} (h : OnlyChg S a b) {p j : Nat} (hp : S p) (v : Value) : OnlyChg S a (b.setCell ⟨p, j, none⟩ v) :=
  h.trans ⟨rfl, rfl, rfl, by simp [World.setCell], fun i hi hs => heap_setCell_other b ⟨p, j, none⟩ i v (fun e => hs (e ▸ hp))⟩
theorem OnlyChg.set1 {n : Nat} {a b : World} (h : OnlyChg (fun k => k = n) a b) {j : Nat} (v : Value) : OnlyChg (fun k => k = n) a (b.setCell ⟨n, j, none⟩ v) := h.set (S := fun k => k = n) rfl v
theorem OnlyChg.setNew {S : Nat → Prop} {a b : World} (h : OnlyChg S a b) {p j : Nat} (hp : a.heap.size ≤ p) (v : Value) : OnlyChg S a (b.setCell ⟨p, j, none⟩ v) :=
  ⟨h.os, h.tape, h.output, by have := h.size; simpa [World.setCell] using this, fun i hi hs => (heap_setCell_other b ⟨p, j, none⟩ i v (by show i ≠ p; omega)).trans (h.block i hi hs)⟩
theorem NodeAt.keep {S : Nat → Prop} {w w' : World} {p : Nat} {n : Nd} (h : NodeAt w p n) (hc : OnlyChg S w w') (hs : ¬ S p) : NodeAt w' p n := (hc.block p h.lt hs).trans h

theorem info55 : ∃ j, Try.prog.info? 55 = some j ∧ j.size ≠ 0 := by
  have h : (Try.prog.info? 55).map (fun i => i.size) = some 9 := by kernel_rfl
  obtain ⟨j, hj, hs⟩ := Option.map_eq_some_iff.1 h
  exact ⟨j, hj, by omega⟩
/-- two node pointers held against each other -/
theorem eql_node {w : World} {p q : Nat} {n m : Nd} (hp : NodeAt w p n) (hq : NodeAt w q m) :
    (binOp .eql 44 (.pointer (some ⟨p, 0, none⟩)) (.pointer (some ⟨q, 0, none⟩))).run Try.prog w = .ok (.bool (decide (p = q))) w := by
  obtain ⟨j, hj, hs⟩ := info55
  by_cases h : p = q
  · subst h
    rw [run_eql_ptr_same w _ Try.underlying44 hj]; simp
  · rw [run_eql_ptr_other (a := ⟨p, 0, none⟩) (b := ⟨q, 0, none⟩) w Try.underlying44 hj hs (by simp [h]) hp hq]; simp [h]

theorem ptrV_some (b : Nat) : ptrV (some b) = .pointer (some ⟨b, 0, none⟩) := rfl
theorem ptrV_none : ptrV none = .pointer none := rfl

set_option maxHeartbeats 400000 in
theorem leaf_any (p : Nat) (n : Nd) (w : World) (hn : NodeAt w p n) :
    Calls Try.prog 27 #[.pointer (some ⟨p, 0, none⟩)] w fun e w' => e = .returned (.bool n.l.isNone) ∧ w = w' := by
  obtain ⟨_, _, _, _, _, c5, _⟩ := hn.facts
  unfold ptrV at c5
  go_enter Try.func27, Try.ntmps27
  go_wp2_with fail
  go_ret
  exact ⟨by simp, rfl⟩

set_option maxHeartbeats 400000 in
theorem sibling_any (p q l r : Nat) (n m nl : Nd) (w : World) (hn : NodeAt w p n) (hm : NodeAt w q m) (hl : NodeAt w l nl) (h1 : n.par = some q) (h2 : m.l = some l) (h3 : m.r = some r) :
    Calls Try.prog 42 #[.pointer (some ⟨p, 0, none⟩)] w fun e w' => e = .returned (.pointer (some ⟨if l = p then r else l, 0, none⟩)) ∧ w = w' := by
  obtain ⟨_, _, _, _, c4, _, _⟩ := hn.facts
  obtain ⟨_, _, _, _, _, d5, d6, _⟩ := hm.facts
  rw [h1, ptrV_some] at c4
  rw [h2, ptrV_some] at d5
  rw [h3, ptrV_some] at d6
  have he := eql_node hl hn
  clear h1 h2 h3
  by_cases h : l = p
  · have hd : decide (l = p) = true := by simpa using h
    rw [hd] at he
    rw [if_pos h]
    clear h hd
    go_enter Try.func42, Try.ntmps42
    go_wp2_with fail
    go_ret
    exact ⟨rfl, rfl⟩
  · have hd : decide (l = p) = false := by simpa using h
    rw [hd] at he
    rw [if_neg h]
    clear h hd
    go_enter Try.func42, Try.ntmps42
    go_wp2_with fail
    go_ret
    exact ⟨rfl, rfl⟩


set_option maxHeartbeats 1000000 in
theorem refresh_any (n l r : Nat) (N L R : Nd) (w : World) (hn : NodeAt w n N) (hl : NodeAt w l L) (hr : NodeAt w r R) (h1 : N.l = some l) (h2 : N.r = some r)
    (hvL : validB L.a L.b L.c L.d = true) (hvR : validB R.a R.b R.c R.d = true) (hL1 : 0 ≤ L.h) (hL2 : L.h ≤ 1000000) (hR1 : 0 ≤ R.h) (hR2 : R.h ≤ 1000000) (hnl : n ≠ l) (hnr : n ≠ r) :
    Calls Try.prog 58 #[.pointer (some ⟨n, 0, none⟩)] w fun e w' => e = .returned (.tuple #[]) ∧
      NodeAt w' n { N with a := min L.a R.a, b := min L.b R.b, c := max L.c R.c, d := max L.d R.d, h := 1 + max L.h R.h } ∧ OnlyChg (fun k => k = n) w w' := by
  obtain ⟨_, _, _, _, _, n5, n6, _, _⟩ := hn.facts
  obtain ⟨l0, l1, l2, l3, _, _, _, l7, _⟩ := hl.facts
  obtain ⟨r0, r1, r2, r3, _, _, _, r7, _⟩ := hr.facts
  rw [h1, ptrV_some] at n5
  rw [h2, ptrV_some] at n6
  have ltn := hn.lt
  have ltl := hl.lt
  have ltr := hr.lt
  have HN := Lib.hid hn
  have HL := Lib.hid hl
  have HR := Lib.hid hr
  have e1 := Lib.hid h1
  have e2 := Lib.hid h2
  clear hn hl hr h1 h2
  go_enter Try.func58, Try.ntmps58
  go_wp2_with fail
  refine wp_region_flowA 16 (by kernel_rfl) (by kernel_rfl) ?_
  simp only [List.take_succ_cons, List.take_zero, List.drop_succ_cons, List.drop_zero]
  (repeat (refine wpQ_step (fun K hK => ?_); go_simp; first | (refine hK _ ?_; clear hK K) | (apply Exists.intro; refine ⟨fun _ => ?_, hK _ ?_⟩; (first | (go_at_call 57; exact (union_any _ _ _ _ _ _ _ _ _ hvL hvR))); clear hK K)))
  refine wpQ_nil ?_
  intro w1 hg1
  have m0 := (HN.out.grw hg1).facts
  have mf := (HN.out.grw hg1).free
  obtain ⟨m0, m1, m2, m3, _⟩ := m0
  go_wp2_with fail
  have O2 : OnlyChg (fun k => k = n) w ((((w1.setCell ⟨n, 0, none⟩ (.int .i64 (min L.a R.a))).setCell ⟨n, 1, none⟩ (.int .i64 (min L.b R.b))).setCell ⟨n, 2, none⟩ (.int .i64 (max L.c R.c))).setCell ⟨n, 3, none⟩ (.int .i64 (max L.d R.d))) :=
    ((((((OnlyChg.refl _ w).grw hg1).set1 _).set1 _).set1 _).set1 _)
  have H2 : NodeAt ((((w1.setCell ⟨n, 0, none⟩ (.int .i64 (min L.a R.a))).setCell ⟨n, 1, none⟩ (.int .i64 (min L.b R.b))).setCell ⟨n, 2, none⟩ (.int .i64 (max L.c R.c))).setCell ⟨n, 3, none⟩ (.int .i64 (max L.d R.d))) n
      { N with a := min L.a R.a, b := min L.b R.b, c := max L.c R.c, d := max L.d R.d } := by
    refine NodeAt.set (n := { N with a := min L.a R.a, b := min L.b R.b, c := max L.c R.c }) (NodeAt.set (n := { N with a := min L.a R.a, b := min L.b R.b }) (NodeAt.set (n := { N with a := min L.a R.a }) (NodeAt.set (HN.out.grw hg1) ?_) ?_) ?_) ?_ <;> rfl
  clear m0 m1 m2 m3 mf hg1
  generalize ((((w1.setCell ⟨n, 0, none⟩ (.int .i64 (min L.a R.a))).setCell ⟨n, 1, none⟩ (.int .i64 (min L.b R.b))).setCell ⟨n, 2, none⟩ (.int .i64 (max L.c R.c))).setCell ⟨n, 3, none⟩ (.int .i64 (max L.d R.d))) = w2 at H2 O2 ⊢
  clear n5 n6 l0 l1 l2 l3 l7 r0 r1 r2 r3 r7
  have G2 := Lib.hid H2
  obtain ⟨_, _, _, _, _, n5, n6, _, _⟩ := H2.facts
  obtain ⟨_, _, _, _, _, _, _, l7, _⟩ := (HL.out.keep O2 (fun e => hnl e.symm)).facts
  obtain ⟨_, _, _, _, _, _, _, r7, _⟩ := (HR.out.keep O2 (fun e => hnr e.symm)).facts
  have E1 := e1.out
  have E2 := e2.out
  rw [E1, ptrV_some] at n5
  rw [E2, ptrV_some] at n6
  clear E1 E2
  have hz := O2.size
  have k1 : n < w2.heap.size := by omega
  have k2 : l < w2.heap.size := by omega
  have k3 : r < w2.heap.size := by omega
  clear H2 hz
  refine wp_region_flowA 17 (by kernel_rfl) (by kernel_rfl) ?_
  simp only [List.take_succ_cons, List.take_zero, List.drop_succ_cons, List.drop_zero]
  (repeat (refine wpQ_step (fun K hK => ?_); go_simp; first | (refine hK _ ?_; clear hK K) | (apply Exists.intro; refine ⟨fun _ => ?_, hK _ ?_⟩; (fail); clear hK K)))
  refine wpQ_nil ?_
  intro w3 hg3
  have mf := (G2.out.grw hg3).free
  obtain ⟨_, _, _, _, _, _, _, m7, _⟩ := (G2.out.grw hg3).facts
  go_wp2_with fail
  all_goals
    go_end0
    refine ⟨rfl, ?_, (O2.grw hg3).set1 _⟩
    first
    | (rw [show 1 + max L.h R.h = 1 + L.h from by omega]; exact NodeAt.set (G2.out.grw hg3) rfl)
    | (rw [show 1 + max L.h R.h = 1 + R.h from by omega]; exact NodeAt.set (G2.out.grw hg3) rfl)


set_option maxHeartbeats 1000000 in
theorem adopt_any (n l r : Nat) (N L R : Nd) (w : World) (hn : NodeAt w n N) (hl : NodeAt w l L) (hr : NodeAt w r R)
    (hvL : validB L.a L.b L.c L.d = true) (hvR : validB R.a R.b R.c R.d = true) (hL1 : 0 ≤ L.h) (hL2 : L.h ≤ 1000000) (hR1 : 0 ≤ R.h) (hR2 : R.h ≤ 1000000) (hnl : n ≠ l) (hnr : n ≠ r) (hlr : l ≠ r) :
    Calls Try.prog 40 #[.pointer (some ⟨n, 0, none⟩), .pointer (some ⟨l, 0, none⟩), .pointer (some ⟨r, 0, none⟩)] w fun e w' => e = .returned (.tuple #[]) ∧
      NodeAt w' n { N with l := some l, r := some r, a := min L.a R.a, b := min L.b R.b, c := max L.c R.c, d := max L.d R.d, h := 1 + max L.h R.h } ∧
      NodeAt w' l { L with par := some n } ∧ NodeAt w' r { R with par := some n } ∧ OnlyChg (fun k => k = n ∨ k = l ∨ k = r) w w' := by
  obtain ⟨_, _, _, _, _, n5, n6, _, _⟩ := hn.facts
  obtain ⟨_, _, _, _, l4, _⟩ := hl.facts
  obtain ⟨_, _, _, _, r4, _⟩ := hr.facts
  have fn := hn.free
  have fl := hl.free
  have fr := hr.free
  have HN := Lib.hid hn
  have HL := Lib.hid hl
  have HR := Lib.hid hr
  clear hn hl hr
  go_enter Try.func40, Try.ntmps40
  go_wp2_with fail
  have A1 : NodeAt ((((w.setCell ⟨n, 5, none⟩ (.pointer (some ⟨l, 0, none⟩))).setCell ⟨n, 6, none⟩ (.pointer (some ⟨r, 0, none⟩))).setCell ⟨l, 4, none⟩ (.pointer (some ⟨n, 0, none⟩))).setCell ⟨r, 4, none⟩ (.pointer (some ⟨n, 0, none⟩))) n { N with l := some l, r := some r } :=
    NodeAt.other (NodeAt.other (NodeAt.set (n := { N with l := some l }) (NodeAt.set HN.out rfl) rfl) hnl) hnr
  have A2 : NodeAt ((((w.setCell ⟨n, 5, none⟩ (.pointer (some ⟨l, 0, none⟩))).setCell ⟨n, 6, none⟩ (.pointer (some ⟨r, 0, none⟩))).setCell ⟨l, 4, none⟩ (.pointer (some ⟨n, 0, none⟩))).setCell ⟨r, 4, none⟩ (.pointer (some ⟨n, 0, none⟩))) l { L with par := some n } :=
    NodeAt.other (NodeAt.set (NodeAt.other (NodeAt.other HL.out hnl.symm) hnl.symm) rfl) hlr
  have A3 : NodeAt ((((w.setCell ⟨n, 5, none⟩ (.pointer (some ⟨l, 0, none⟩))).setCell ⟨n, 6, none⟩ (.pointer (some ⟨r, 0, none⟩))).setCell ⟨l, 4, none⟩ (.pointer (some ⟨n, 0, none⟩))).setCell ⟨r, 4, none⟩ (.pointer (some ⟨n, 0, none⟩))) r { R with par := some n } :=
    NodeAt.set (NodeAt.other (NodeAt.other (NodeAt.other HR.out hnr.symm) hnr.symm) hlr.symm) rfl
  have O1 : OnlyChg (fun k => k = n ∨ k = l ∨ k = r) w ((((w.setCell ⟨n, 5, none⟩ (.pointer (some ⟨l, 0, none⟩))).setCell ⟨n, 6, none⟩ (.pointer (some ⟨r, 0, none⟩))).setCell ⟨l, 4, none⟩ (.pointer (some ⟨n, 0, none⟩))).setCell ⟨r, 4, none⟩ (.pointer (some ⟨n, 0, none⟩))) :=
    OnlyChg.set (OnlyChg.set (OnlyChg.set (OnlyChg.set (OnlyChg.refl _ w) (.inl rfl) _) (.inl rfl) _) (.inr (.inl rfl)) _) (.inr (.inr rfl)) _
  refine (refresh_any n l r _ _ _ _ A1 A2 A3 rfl rfl hvL hvR hL1 hL2 hR1 hR2 hnl hnr).mono ?_
  rintro e w1 ⟨rfl, B1, B2⟩
  have B3 := A2.keep B2 (fun e => hnl e.symm)
  have B4 := A3.keep B2 (fun e => hnr e.symm)
  have B5 := O1.trans (B2.mono fun k _ e => .inl e)
  go_wp2_with fail
  go_end0
  exact ⟨rfl, B1, B3, B4, B5⟩


/-- block t of w is the tree with this root and this map -/
def TreeAt (w : World) (t : Nat) (root : Option Nat) (m : Option Nat) : Prop := w.heap[t]? = some (.cells #[ptrV root, .map m] 46 (0, 0))
theorem TreeAt.lt {w : World} {t : Nat} {root m : Option Nat} (h : TreeAt w t root m) : t < w.heap.size := (Array.getElem?_eq_some_iff.1 h).1
theorem TreeAt.facts {w : World} {t : Nat} {root m : Option Nat} (h : TreeAt w t root m) :
    w.cell? ⟨t, 0, none⟩ = some (ptrV root) ∧ w.cell? ⟨t, 1, none⟩ = some (.map m) := by
  refine ⟨?_, ?_⟩ <;> rw [cell_of_block h] <;> rfl
theorem TreeAt.free {w : World} {t : Nat} {root m : Option Nat} (h : TreeAt w t root m) (o : Nat) : w.frozen? ⟨t, o, none⟩ = false := frozen_of_block h o
theorem TreeAt.set {w : World} {t : Nat} {root root' m : Option Nat} {v : Value} (h : TreeAt w t root m) (hv : v = ptrV root') : TreeAt (w.setCell ⟨t, 0, none⟩ v) t root' m := by
  unfold TreeAt
  rw [heap_setCell_same w t 0 _ 46 v h, hv]; rfl
theorem TreeAt.other {w : World} {t q j : Nat} {root m : Option Nat} {v : Value} (h : TreeAt w t root m) (hne : t ≠ q) : TreeAt (w.setCell ⟨q, j, none⟩ v) t root m := by
  unfold TreeAt
  rw [heap_setCell_other w ⟨q, j, none⟩ t v hne]; exact h
theorem TreeAt.grw {w w' : World} {t : Nat} {root m : Option Nat} (h : TreeAt w t root m) (hg : Grw w w') : TreeAt w' t root m := (hg.heap h.lt).trans h
theorem TreeAt.keep {S : Nat → Prop} {w w' : World} {t : Nat} {root m : Option Nat} (h : TreeAt w t root m) (hc : OnlyChg S w w') (hs : ¬ S t) : TreeAt w' t root m := (hc.block t h.lt hs).trans h

/-- replace at the root -/
theorem replace_root (t a b : Nat) (root m : Option Nat) (A B : Nd) (w : World) (ht : TreeAt w t root m) (ha : NodeAt w a A) (hb : NodeAt w b B) (h1 : A.par = none) (htb : t ≠ b) :
    Calls Try.prog 39 #[.pointer (some ⟨t, 0, none⟩), .pointer (some ⟨a, 0, none⟩), .pointer (some ⟨b, 0, none⟩)] w fun e w' => e = .returned (.tuple #[]) ∧
      TreeAt w' t (some b) m ∧ NodeAt w' b { B with par := none } ∧ OnlyChg (fun k => k = t ∨ k = b) w w' := by
  obtain ⟨_, _, _, _, a4, _⟩ := ha.facts
  obtain ⟨_, _, _, _, b4, _⟩ := hb.facts
  obtain ⟨t0, t1⟩ := ht.facts
  have ft := ht.free
  have fb := hb.free
  rw [h1, ptrV_none] at a4
  have HB := Lib.hid hb
  have HT := Lib.hid ht
  clear ha hb ht h1
  go_enter Try.func39, Try.ntmps39
  go_wp2_with fail
  go_end0
  refine ⟨rfl, TreeAt.set (TreeAt.other HT.out htb) rfl, NodeAt.other (NodeAt.set HB.out rfl) htb.symm, OnlyChg.set (OnlyChg.set (OnlyChg.refl _ w) (.inr rfl) _) (.inl rfl) _⟩

/-- replace at the left -/
theorem replace_left (t a b p : Nat) (A B P : Nd) (w : World) (ha : NodeAt w a A) (hb : NodeAt w b B) (hp : NodeAt w p P) (h1 : A.par = some p) (h2 : P.l = some a) (hpb : p ≠ b) (hpa : p ≠ a) :
    Calls Try.prog 39 #[.pointer (some ⟨t, 0, none⟩), .pointer (some ⟨a, 0, none⟩), .pointer (some ⟨b, 0, none⟩)] w fun e w' => e = .returned (.tuple #[]) ∧
      NodeAt w' b { B with par := some p } ∧ NodeAt w' p { P with l := some b } ∧ OnlyChg (fun k => k = b ∨ k = p) w w' := by
  have hb' : NodeAt (w.setCell ⟨b, 4, none⟩ (.pointer (some ⟨p, 0, none⟩))) b { B with par := some p } := NodeAt.set hb rfl
  have hp' : NodeAt (w.setCell ⟨b, 4, none⟩ (.pointer (some ⟨p, 0, none⟩))) p P := NodeAt.other hp hpb
  have hea : ∃ A', NodeAt (w.setCell ⟨b, 4, none⟩ (.pointer (some ⟨p, 0, none⟩))) a A' := by
    by_cases e : a = b
    · subst e; exact ⟨_, hb'⟩
    · exact ⟨A, NodeAt.other ha e⟩
  obtain ⟨A', ha'⟩ := hea
  have heq := eql_node ha' ha'
  rw [show decide (a = a) = true by simp] at heq
  obtain ⟨_, _, _, _, a4, _⟩ := ha.facts
  obtain ⟨_, _, _, _, b4, _⟩ := hb.facts
  obtain ⟨_, _, _, _, _, p5, _⟩ := hp.facts
  obtain ⟨_, _, _, _, _, q5, _⟩ := hp'.facts
  have fb := hb.free
  have fp := hp'.free
  rw [h1, ptrV_some] at a4
  rw [h2, ptrV_some] at p5 q5
  have HB := Lib.hid hb'
  have HP := Lib.hid hp'
  clear ha hb hp h1 h2 ha' hb' hp'
  go_enter Try.func39, Try.ntmps39
  go_wp2_with fail
  go_end0
  refine ⟨rfl, NodeAt.other HB.out hpb.symm, NodeAt.set HP.out rfl, OnlyChg.set (OnlyChg.set (OnlyChg.refl _ w) (.inl rfl) _) (.inr rfl) _⟩

/-- replace at the right -/
theorem replace_right (t a b p l : Nat) (A B P L : Nd) (w : World) (ha : NodeAt w a A) (hb : NodeAt w b B) (hp : NodeAt w p P) (hl : NodeAt w l L) (h1 : A.par = some p) (h2 : P.l = some l) (h3 : l ≠ a) (hpb : p ≠ b) (hlb : l ≠ b) :
    Calls Try.prog 39 #[.pointer (some ⟨t, 0, none⟩), .pointer (some ⟨a, 0, none⟩), .pointer (some ⟨b, 0, none⟩)] w fun e w' => e = .returned (.tuple #[]) ∧
      NodeAt w' b { B with par := some p } ∧ NodeAt w' p { P with r := some b } ∧ OnlyChg (fun k => k = b ∨ k = p) w w' := by
  have hb' : NodeAt (w.setCell ⟨b, 4, none⟩ (.pointer (some ⟨p, 0, none⟩))) b { B with par := some p } := NodeAt.set hb rfl
  have hp' : NodeAt (w.setCell ⟨b, 4, none⟩ (.pointer (some ⟨p, 0, none⟩))) p P := NodeAt.other hp hpb
  have hl' : NodeAt (w.setCell ⟨b, 4, none⟩ (.pointer (some ⟨p, 0, none⟩))) l L := NodeAt.other hl hlb
  have hea : ∃ A', NodeAt (w.setCell ⟨b, 4, none⟩ (.pointer (some ⟨p, 0, none⟩))) a A' := by
    by_cases e : a = b
    · subst e; exact ⟨_, hb'⟩
    · exact ⟨A, NodeAt.other ha e⟩
  obtain ⟨A', ha'⟩ := hea
  have heq := eql_node hl' ha'
  rw [show decide (l = a) = false by simp [h3]] at heq
  obtain ⟨_, _, _, _, a4, _⟩ := ha.facts
  obtain ⟨_, _, _, _, b4, _⟩ := hb.facts
  obtain ⟨_, _, _, _, _, p5, p6, _⟩ := hp.facts
  obtain ⟨_, _, _, _, _, q5, q6, _⟩ := hp'.facts
  have fb := hb.free
  have fp := hp'.free
  rw [h1, ptrV_some] at a4
  rw [h2, ptrV_some] at p5 q5
  have HB := Lib.hid hb'
  have HP := Lib.hid hp'
  clear ha hb hp h1 h2 h3 ha' hb' hp' hl hl' hlb
  go_enter Try.func39, Try.ntmps39
  go_wp2_with fail
  go_end0
  refine ⟨rfl, NodeAt.other HB.out hpb.symm, NodeAt.set HP.out rfl, OnlyChg.set (OnlyChg.set (OnlyChg.refl _ w) (.inl rfl) _) (.inr rfl) _⟩

end Go.Proofs.Ytbnfngelkaembaa
