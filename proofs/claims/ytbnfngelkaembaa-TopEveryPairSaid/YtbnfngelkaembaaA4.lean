/- The tree as a datum, and what it is for it to lie in memory, whole or below a place; no walk is made here. -/
import Derived.Test.YtbnfngelkaembaaA3
namespace Go.Proofs.Ytbnfngelkaembaa
open Go.RowKit Go.Sort

structure Lf where
  p : Nat
  id : Int
  a : Int
  b : Int
  c : Int
  d : Int
  deriving DecidableEq

inductive T where
  | leaf (x : Lf)
  | node (p : Nat) (l r : T)

namespace T
def ptr : T → Nat
  | .leaf x => x.p
  | .node p _ _ => p
def a : T → Int
  | .leaf x => x.a
  | .node _ l r => min l.a r.a
def b : T → Int
  | .leaf x => x.b
  | .node _ l r => min l.b r.b
def c : T → Int
  | .leaf x => x.c
  | .node _ l r => max l.c r.c
def d : T → Int
  | .leaf x => x.d
  | .node _ l r => max l.d r.d
def h : T → Int
  | .leaf _ => 1
  | .node _ l r => 1 + max l.h r.h
def nodes : T → List Nat
  | .leaf x => [x.p]
  | .node p l r => p :: (l.nodes ++ r.nodes)
def leaves : T → List Lf
  | .leaf x => [x]
  | .node _ l r => l.leaves ++ r.leaves
def nd (par : Option Nat) : T → Nd
  | .leaf x => ⟨x.a, x.b, x.c, x.d, par, none, none, 1, x.id⟩
  | .node p l r => ⟨min l.a r.a, min l.b r.b, max l.c r.c, max l.d r.d, par, some l.ptr, some r.ptr, 1 + max l.h r.h, 0⟩
theorem nd_a (par : Option Nat) (x : T) : (x.nd par).a = x.a := by cases x <;> rfl
theorem nd_b (par : Option Nat) (x : T) : (x.nd par).b = x.b := by cases x <;> rfl
theorem nd_c (par : Option Nat) (x : T) : (x.nd par).c = x.c := by cases x <;> rfl
theorem nd_d (par : Option Nat) (x : T) : (x.nd par).d = x.d := by cases x <;> rfl
theorem nd_h (par : Option Nat) (x : T) : (x.nd par).h = x.h := by cases x <;> rfl
theorem nd_par (par : Option Nat) (x : T) : (x.nd par).par = par := by cases x <;> rfl
theorem nd_set (par q : Option Nat) (x : T) : ({ x.nd par with par := q } : Nd) = x.nd q := by cases x <;> rfl
theorem ptr_mem (x : T) : x.ptr ∈ x.nodes := by cases x <;> simp [ptr, nodes]
def ok (x : T) : Prop := ∀ y ∈ x.leaves, validB y.a y.b y.c y.d = true
theorem valid_union {a b c d a' b' c' d' : Int} (h : validB a b c d = true) (h' : validB a' b' c' d' = true) : validB (min a a') (min b b') (max c c') (max d d') = true := by
  simp [validB] at *; omega
theorem ok.valid : ∀ {x : T}, x.ok → validB x.a x.b x.c x.d = true
  | .leaf x, h => h x (by simp [leaves])
  | .node _ l r, h => valid_union (ok.valid (x := l) fun y hy => h y (by simp [leaves, hy])) (ok.valid (x := r) fun y hy => h y (by simp [leaves, hy]))
theorem ok.left {p : Nat} {l r : T} (h : (T.node p l r).ok) : l.ok := fun y hy => h y (by simp [leaves, hy])
theorem ok.right {p : Nat} {l r : T} (h : (T.node p l r).ok) : r.ok := fun y hy => h y (by simp [leaves, hy])
theorem h_lo : ∀ x : T, 1 ≤ x.h
  | .leaf _ => by simp [h]
  | .node _ l r => by have := h_lo l; have := h_lo r; simp only [h]; omega
theorem h_hi : ∀ x : T, x.h ≤ x.nodes.length
  | .leaf _ => by simp [h, nodes]
  | .node _ l r => by have := h_hi l; have := h_hi r; simp only [h, nodes, List.length_cons, List.length_append]; omega
end T

/-- x lies in memory, its root's parent being par -/
def Rep (w : World) (par : Option Nat) : T → Prop
  | .leaf x => NodeAt w x.p ((T.leaf x).nd par)
  | .node p l r => NodeAt w p ((T.node p l r).nd par) ∧ Rep w (some p) l ∧ Rep w (some p) r

theorem Rep.root {w : World} {par : Option Nat} : ∀ {x : T}, Rep w par x → NodeAt w x.ptr (x.nd par)
  | .leaf _, h => h
  | .node _ _ _, h => h.1
theorem Rep.keep {S : Nat → Prop} {w w' : World} (hc : OnlyChg S w w') : ∀ {par : Option Nat} {x : T}, Rep w par x → (∀ p ∈ x.nodes, ¬ S p) → Rep w' par x
  | par, .leaf x, h, hs => NodeAt.keep (n := (T.leaf x).nd par) h hc (hs _ (by simp [T.nodes]))
  | par, .node p l r, h, hs => ⟨h.1.keep hc (hs _ (by simp [T.nodes])), Rep.keep hc h.2.1 (fun q hq => hs q (by simp [T.nodes, hq])), Rep.keep hc h.2.2 (fun q hq => hs q (by simp [T.nodes, hq]))⟩
theorem OnlyChg.of_grw {w w' : World} (hg : Grw w w') : OnlyChg (fun _ => False) w w' := (OnlyChg.refl _ w).grw hg
theorem Rep.grw {w w' : World} {par : Option Nat} {x : T} (h : Rep w par x) (hg : Grw w w') : Rep w' par x := h.keep (OnlyChg.of_grw hg) (by simp)
theorem Rep.lt {w : World} : ∀ {par : Option Nat} {x : T}, Rep w par x → ∀ p ∈ x.nodes, p < w.heap.size
  | par, .leaf x, h, p, hp => by
    simp [T.nodes] at hp; subst hp; exact NodeAt.lt (n := (T.leaf x).nd par) h
  | par, .node q l r, h, p, hp => by
    simp only [T.nodes, List.mem_cons, List.mem_append] at hp
    rcases hp with rfl | hp | hp
    · exact h.1.lt
    · exact Rep.lt h.2.1 p hp
    · exact Rep.lt h.2.2 p hp
/-- a subtree gets another parent -/
theorem Rep.repar {S : Nat → Prop} {w w' : World} (hc : OnlyChg S w w') {par q : Option Nat} {x : T} (h : Rep w par x) (hn : x.nodes.Nodup) (hr : NodeAt w' x.ptr (x.nd q)) (hs : ∀ p ∈ x.nodes, p ≠ x.ptr → ¬ S p) : Rep w' q x := by
  cases x with
  | leaf x => exact hr
  | node p l r =>
    simp only [T.nodes, List.nodup_cons, List.mem_append, not_or] at hn
    refine ⟨hr, Rep.keep hc h.2.1 (fun y hy => hs y (by simp [T.nodes, hy]) ?_), Rep.keep hc h.2.2 (fun y hy => hs y (by simp [T.nodes, hy]) ?_)⟩
    · rintro rfl; exact hn.1.1 hy
    · rintro rfl; exact hn.1.2 hy

/-- the way down to a place -/
inductive Cx where
  | top
  | L (p : Nat) (up : Cx) (r : T)
  | R (p : Nat) (l : T) (up : Cx)
namespace Cx
def par : Cx → Option Nat
  | .top => none
  | .L p _ _ => some p
  | .R p _ _ => some p
def blk (t : Nat) : Cx → Nat
  | .top => t
  | .L p _ _ => p
  | .R p _ _ => p
def nodes : Cx → List Nat
  | .top => []
  | .L p up r => p :: (r.nodes ++ up.nodes)
  | .R p l up => p :: (l.nodes ++ up.nodes)
/-- what lies in the context but for the block right above the place -/
def rest (t : Nat) : Cx → List Nat
  | .top => []
  | .L _ up r => t :: (r.nodes ++ up.nodes)
  | .R _ l up => t :: (l.nodes ++ up.nodes)
def leaves : Cx → List Lf
  | .top => []
  | .L _ up r => r.leaves ++ up.leaves
  | .R _ l up => l.leaves ++ up.leaves
def depth : Cx → Nat
  | .top => 0
  | .L _ up _ => up.depth + 1
  | .R _ _ up => up.depth + 1
end Cx

def RepC (w : World) (t : Nat) (m : Option Nat) : Nat → Cx → Prop
  | a, .top => TreeAt w t (some a) m
  | a, .L p up r => (∃ P : Nd, NodeAt w p P ∧ P.l = some a ∧ P.r = some r.ptr ∧ P.par = up.par ∧ P.id = 0) ∧ Rep w (some p) r ∧ RepC w t m p up
  | a, .R p l up => (∃ P : Nd, NodeAt w p P ∧ P.l = some l.ptr ∧ P.r = some a ∧ P.par = up.par ∧ P.id = 0) ∧ Rep w (some p) l ∧ RepC w t m p up

theorem RepC.keep {S : Nat → Prop} {w w' : World} {t : Nat} {m : Option Nat} (hc : OnlyChg S w w') (ht : ¬ S t) : ∀ {a : Nat} {C : Cx}, RepC w t m a C → (∀ p ∈ C.nodes, ¬ S p) → RepC w' t m a C
  | a, .top, h, _ => TreeAt.keep h hc ht
  | a, .L p up r, h, hs => by
    obtain ⟨⟨P, h1, h2⟩, h3, h4⟩ := h
    exact ⟨⟨P, h1.keep hc (hs _ (by simp [Cx.nodes])), h2⟩, h3.keep hc (fun q hq => hs q (by simp [Cx.nodes, hq])), RepC.keep hc ht h4 (fun q hq => hs q (by simp [Cx.nodes, hq]))⟩
  | a, .R p l up, h, hs => by
    obtain ⟨⟨P, h1, h2⟩, h3, h4⟩ := h
    exact ⟨⟨P, h1.keep hc (hs _ (by simp [Cx.nodes])), h2⟩, h3.keep hc (fun q hq => hs q (by simp [Cx.nodes, hq])), RepC.keep hc ht h4 (fun q hq => hs q (by simp [Cx.nodes, hq]))⟩
theorem RepC.grw {w w' : World} {t a : Nat} {m : Option Nat} {C : Cx} (h : RepC w t m a C) (hg : Grw w w') : RepC w' t m a C := h.keep (OnlyChg.of_grw hg) (by simp) (by simp)
theorem RepC.lt {w : World} {t : Nat} {m : Option Nat} : ∀ {a : Nat} {C : Cx}, RepC w t m a C → ∀ p ∈ C.nodes, p < w.heap.size
  | a, .top, _, p, hp => by simp [Cx.nodes] at hp
  | a, .L q up r, h, p, hp => by
    simp only [Cx.nodes, List.mem_cons, List.mem_append] at hp
    obtain ⟨⟨P, h1, _⟩, h3, h4⟩ := h
    rcases hp with rfl | hp | hp
    · exact h1.lt
    · exact h3.lt p hp
    · exact RepC.lt h4 p hp
  | a, .R q l up, h, p, hp => by
    simp only [Cx.nodes, List.mem_cons, List.mem_append] at hp
    obtain ⟨⟨P, h1, _⟩, h3, h4⟩ := h
    rcases hp with rfl | hp | hp
    · exact h1.lt
    · exact h3.lt p hp
    · exact RepC.lt h4 p hp
theorem RepC.tree {w : World} {t : Nat} {m : Option Nat} : ∀ {a : Nat} {C : Cx}, RepC w t m a C → ∃ r, TreeAt w t (some r) m
  | a, .top, h => ⟨a, h⟩
  | _, .L _ _ _, h => RepC.tree h.2.2
  | _, .R _ _ _, h => RepC.tree h.2.2

/-- the link above a place, and what it is good for -/
theorem RepC.link {w : World} {t a : Nat} {m : Option Nat} {C : Cx} (h : RepC w t m a C) (ha : a ∉ C.nodes) (b : Nat) (hb : b ∉ C.nodes) :
    ∃ k : Lk, LinkAt w t m a k ∧ k.par = C.par ∧ k.blk t = C.blk t ∧ k.apart b ∧ ∀ (S : Nat → Prop) (w' : World), LinkTo w' t m b k → OnlyChg S w w' → (∀ p ∈ C.rest t, ¬ S p) → RepC w' t m b C := by
  cases C with
  | top => exact ⟨.root, h, rfl, rfl, trivial, fun S w' hl _ _ => hl⟩
  | L p up r =>
    obtain ⟨⟨P, h1, h2, h3, h4, h5⟩, h6, h7⟩ := h
    exact ⟨.left p P, ⟨h1, h2⟩, rfl, rfl, trivial, fun S w' hl hc hs => ⟨⟨_, hl, rfl, h3, h4, h5⟩, h6.keep hc (fun q hq => hs q (by simp [Cx.rest, hq])), h7.keep hc (hs _ (by simp [Cx.rest])) (fun q hq => hs q (by simp [Cx.rest, hq]))⟩⟩
  | R p l up =>
    obtain ⟨⟨P, h1, h2, h3, h4, h5⟩, h6, h7⟩ := h
    refine ⟨.right p P, ⟨h1, h3, l.ptr, _, h2, ?_, h6.root⟩, rfl, rfl, ?_, fun S w' hl hc hs => ⟨⟨_, hl, h2, rfl, h4, h5⟩, h6.keep hc (fun q hq => hs q (by simp [Cx.rest, hq])), h7.keep hc (hs _ (by simp [Cx.rest])) (fun q hq => hs q (by simp [Cx.rest, hq]))⟩⟩
    · rintro rfl; exact ha (by simp [Cx.nodes, T.ptr_mem])
    · intro e; rw [h2] at e; cases e; exact hb (by simp [Cx.nodes, T.ptr_mem])

end Go.Proofs.Ytbnfngelkaembaa
