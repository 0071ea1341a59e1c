/- Contracts of the functions cost and rotate of package bvh; their conditions: the nodes that they touch lie in memory, their boxes are valid. -/
import Derived.Test.YtbnfngelkaembaaA2
namespace Go.Proofs.Ytbnfngelkaembaa
open Go.RowKit Go.Sort
attribute [local go_sem] qAt qUpon cell_in_grow frozen_in_grow

theorem hpF_lo (a b c d : Int) : -536870911 ≤ hpF a b c d := by
  unfold hpF; split
  · exact sat_lo _
  · omega
theorem hpF_hi (a b c d : Int) : hpF a b c d ≤ 536870911 := by
  unfold hpF; split
  · exact sat_hi _
  · omega

def costF (N : Nd) (a b c d : Int) : Int := IntKind.i64.wrap (hpF (min N.a a) (min N.b b) (max N.c c) (max N.d d) - hpF N.a N.b N.c N.d)

set_option maxHeartbeats 400000 in
theorem cost_any (p : Nat) (N : Nd) (a b c d : Int) (w : World) (hn : NodeAt w p N) (hv : validB N.a N.b N.c N.d = true) (hv' : validB a b c d = true) :
    Calls Try.prog 38 #[.pointer (some ⟨p, 0, none⟩), .agg #[.int .i64 a, .int .i64 b, .int .i64 c, .int .i64 d]] w fun e w' => e = .returned (.int .i64 (costF N a b c d)) ∧ Grw w w' := by
  have q1 := hpF_lo (min N.a a) (min N.b b) (max N.c c) (max N.d d)
  have q2 := hpF_hi (min N.a a) (min N.b b) (max N.c c) (max N.d d)
  have q3 := hpF_lo N.a N.b N.c N.d
  have q4 := hpF_hi N.a N.b N.c N.d
  obtain ⟨n0, n1, n2, n3, _⟩ := hn.facts
  have lt := hn.lt
  have lt2 : p < w.heap.size + 1 := by omega
  have hne : p ≠ w.heap.size := by omega
  go_enter Try.func38, Try.ntmps38
  go_wp2_with fail
  refine wp_region_flow (by kernel_rfl) (by kernel_rfl) ?_
  (repeat (refine wpQ_step (fun K hK => ?_); go_simp; first | (refine hK _ ?_; clear hK K) | (apply Exists.intro; refine ⟨fun _ => ?_, hK _ ?_⟩; (first | (go_at_call 57; exact (union_any _ _ _ _ _ _ _ _ _ hv hv')) | (go_at_call 56; exact hp_any _ _ _ _ _)); clear hK K)))
  refine wpQ_nil ?_
  intro w1 hg1
  go_wp2_with fail
  go_ret
  exact ⟨rfl, by (repeat (first | exact Grw.refl _ | assumption | refine Grw.trans ?_ (by assumption) | refine Grw.alloc ?_ _ | refine Grw.drewN ?_ _ | refine Grw.drew ?_ | refine Grw.setAt ?_ (by first | omega | (simp; omega) | (simp; done)) _))⟩


/-- how a node hangs in its tree -/
inductive Lk where
  | root
  | left (p : Nat) (P : Nd)
  | right (p : Nat) (P : Nd)
def Lk.par : Lk → Option Nat
  | .root => none
  | .left p _ => some p
  | .right p _ => some p
def Lk.blk (t : Nat) : Lk → Nat
  | .root => t
  | .left p _ => p
  | .right p _ => p
def LinkAt (w : World) (t : Nat) (m : Option Nat) (a : Nat) : Lk → Prop
  | .root => TreeAt w t (some a) m
  | .left p P => NodeAt w p P ∧ P.l = some a
  | .right p P => NodeAt w p P ∧ P.r = some a ∧ ∃ l L, P.l = some l ∧ l ≠ a ∧ NodeAt w l L
def LinkTo (w : World) (t : Nat) (m : Option Nat) (b : Nat) : Lk → Prop
  | .root => TreeAt w t (some b) m
  | .left p P => NodeAt w p { P with l := some b }
  | .right p P => NodeAt w p { P with r := some b }
def Lk.apart (b : Nat) : Lk → Prop
  | .root => True
  | .left _ _ => True
  | .right _ P => P.l ≠ some b
theorem LinkTo.keep {S : Nat → Prop} {w w' : World} {t b : Nat} {m : Option Nat} : ∀ {k : Lk}, LinkTo w t m b k → OnlyChg S w w' → ¬ S (k.blk t) → LinkTo w' t m b k
  | .root, h, hc, hs => TreeAt.keep h hc hs
  | .left _ _, h, hc, hs => NodeAt.keep h hc hs
  | .right _ _, h, hc, hs => NodeAt.keep h hc hs
theorem LinkAt.grw {w w' : World} {t a : Nat} {m : Option Nat} {k : Lk} (h : LinkAt w t m a k) (hg : Grw w w') : LinkAt w' t m a k := by
  cases k with
  | root => exact TreeAt.grw h hg
  | left p P => exact ⟨h.1.grw hg, h.2⟩
  | right p P => obtain ⟨h1, h2, l, L, h3, h4, h5⟩ := h; exact ⟨h1.grw hg, h2, l, L, h3, h4, h5.grw hg⟩

theorem replace_any (t a b : Nat) (m : Option Nat) (A B : Nd) (k : Lk) (w : World) (ha : NodeAt w a A) (hb : NodeAt w b B) (hk : LinkAt w t m a k) (h1 : A.par = k.par) (hab : k.blk t ≠ a) (hbb : k.blk t ≠ b) (hap : k.apart b) :
    Calls Try.prog 39 #[.pointer (some ⟨t, 0, none⟩), .pointer (some ⟨a, 0, none⟩), .pointer (some ⟨b, 0, none⟩)] w fun e w' => e = .returned (.tuple #[]) ∧
      LinkTo w' t m b k ∧ NodeAt w' b { B with par := k.par } ∧ OnlyChg (fun i => i = b ∨ i = k.blk t) w w' := by
  cases k with
  | root => exact (replace_root t a b _ m A B w hk ha hb h1 hbb).mono fun e w' ⟨h1, h2, h3, h4⟩ => ⟨h1, h2, h3, h4.mono fun i _ hi => hi.symm⟩
  | left p P => exact (replace_left t a b p A B P w ha hb hk.1 h1 hk.2 hbb hab).mono fun e w' ⟨h1, h2, h3, h4⟩ => ⟨h1, h3, h2, h4⟩
  | right p P =>
    obtain ⟨k1, k2, l, L, k3, k4, k5⟩ := hk
    exact (replace_right t a b p l A B P L w ha hb k1 k5 h1 k3 k4 hbb (fun e => hap (e ▸ k3))).mono fun e w' ⟨h1, h2, h3, h4⟩ => ⟨h1, h3, h2, h4⟩


set_option maxHeartbeats 2000000 in
theorem rotate_A (t n hi lo x y up dn : Nat) (m : Option Nat) (N H Lo U D : Nd) (k : Lk) (w : World) (hn : NodeAt w n N) (hh : NodeAt w hi H) (hlo : NodeAt w lo Lo) (hu : NodeAt w up U) (hd : NodeAt w dn D)
    (hk : LinkAt w t m n k) (h1 : N.par = k.par) (h2 : H.par = some n) (h3 : N.l = some x) (h4 : N.r = some y) (h5 : (if x = hi then y else x) = lo) (hx : x = hi ∨ x = lo) (h6 : H.l = some up) (h7 : H.r = some dn) (hc : D.h ≤ U.h)
    (hap : k.apart hi) (hkn : k.blk t ≠ n) (hkh : k.blk t ≠ hi) (hkl : k.blk t ≠ lo) (hku : k.blk t ≠ up) (hkd : k.blk t ≠ dn)
    (d1 : n ≠ hi) (d2 : n ≠ lo) (d3 : n ≠ up) (d4 : n ≠ dn) (d5 : hi ≠ lo) (d6 : hi ≠ up) (d7 : hi ≠ dn) (d8 : lo ≠ up) (d9 : lo ≠ dn) (d10 : up ≠ dn)
    (vL : validB Lo.a Lo.b Lo.c Lo.d = true) (vU : validB U.a U.b U.c U.d = true) (vD : validB D.a D.b D.c D.d = true)
    (vLD : validB (min Lo.a D.a) (min Lo.b D.b) (max Lo.c D.c) (max Lo.d D.d) = true)
    (l0 : 0 ≤ Lo.h) (l1 : Lo.h ≤ 500000) (u0 : 0 ≤ U.h) (u1 : U.h ≤ 500000) (w0 : 0 ≤ D.h) (w1 : D.h ≤ 500000) :
    Calls Try.prog 59 #[.pointer (some ⟨t, 0, none⟩), .pointer (some ⟨n, 0, none⟩), .pointer (some ⟨hi, 0, none⟩)] w fun e w' => e = .returned (.pointer (some ⟨hi, 0, none⟩)) ∧
      LinkTo w' t m hi k ∧
      NodeAt w' n { N with par := some hi, l := some lo, r := some dn, a := min Lo.a D.a, b := min Lo.b D.b, c := max Lo.c D.c, d := max Lo.d D.d, h := 1 + max Lo.h D.h } ∧
      NodeAt w' hi { H with par := k.par, l := some up, r := some n, a := min U.a (min Lo.a D.a), b := min U.b (min Lo.b D.b), c := max U.c (max Lo.c D.c), d := max U.d (max Lo.d D.d), h := 1 + max U.h (1 + max Lo.h D.h) } ∧
      NodeAt w' lo { Lo with par := some n } ∧ NodeAt w' dn { D with par := some n } ∧ NodeAt w' up { U with par := some hi } ∧
      OnlyChg (fun i => i = k.blk t ∨ i = n ∨ i = hi ∨ i = lo ∨ i = dn ∨ i = up) w w' := by
  have hsib : ∃ XL, NodeAt w x XL := by
    rcases hx with e | e
    · exact ⟨H, e ▸ hh⟩
    · exact ⟨Lo, e ▸ hlo⟩
  obtain ⟨XL, hXL⟩ := hsib
  have S1 := sibling_any hi n x y H N XL w hh hn hXL h2 h3 h4
  rw [h5] at S1
  have SS := Lib.hid S1
  obtain ⟨_, _, _, _, _, q5, q6, _⟩ := hh.facts
  obtain ⟨_, _, _, _, _, _, _, u7, _⟩ := hu.facts
  obtain ⟨_, _, _, _, _, _, _, v7, _⟩ := hd.facts
  rw [h6, ptrV_some] at q5
  rw [h7, ptrV_some] at q6
  have k1 := hh.lt
  have k2 := hu.lt
  have k3 := hd.lt
  have HN := Lib.hid hn
  have HH := Lib.hid hh
  have HL := Lib.hid hlo
  have HU := Lib.hid hu
  have HD := Lib.hid hd
  have HK := Lib.hid hk
  have E1 := Lib.hid h1
  have AP := Lib.hid hap
  clear hn hh hlo hu hd hk h1 h2 h3 h4 h5 hx h6 h7 S1 hXL hap
  go_enter Try.func59, Try.ntmps59
  go_wp2_with fail
  refine SS.out.mono ?_
  rintro e w' ⟨rfl, rfl⟩
  go_wp2_with fail
  refine wp_region_flow (by kernel_rfl) (by kernel_rfl) ?_
  (repeat (refine wpQ_step (fun K hK => ?_); go_simp; first | (refine hK _ ?_; clear hK K) | (apply Exists.intro; refine ⟨fun _ => ?_, hK _ ?_⟩; (fail); clear hK K)))
  refine wpQ_nil ?_
  intro W1 hg1
  obtain ⟨_, _, _, _, _, q5, q6, _⟩ := (HH.out.grw hg1).facts
  obtain ⟨_, _, _, _, _, _, _, u7, _⟩ := (HU.out.grw hg1).facts
  obtain ⟨_, _, _, _, _, _, _, v7, _⟩ := (HD.out.grw hg1).facts
  have k1 := (HH.out.grw hg1).lt
  have k2 := (HU.out.grw hg1).lt
  have k3 := (HD.out.grw hg1).lt
  go_wp2_with fail
  refine wp_region_flow (by kernel_rfl) (by kernel_rfl) ?_
  (repeat (refine wpQ_step (fun K hK => ?_); go_simp; first | (refine hK _ ?_; clear hK K) | (apply Exists.intro; refine ⟨fun _ => ?_, hK _ ?_⟩; (fail); clear hK K)))
  refine wpQ_nil ?_
  intro W2 hg2
  have hG := hg1.trans hg2
  clear q5 q6 u7 v7 k1 k2 k3 hg1 hg2
  go_wp2_with fail
  refine (replace_any t n hi m N H k W2 (HN.out.grw hG) (HH.out.grw hG) (HK.out.grw hG) E1.out hkn hkh AP.out).mono ?_
  rintro e W3 ⟨rfl, R1, R2, R3⟩
  have B1 := Lib.hid ((HN.out.grw hG).keep R3 (by simp [d1, hkn.symm]))
  have B2 := Lib.hid ((HL.out.grw hG).keep R3 (by simp [d5.symm, hkl.symm]))
  have B3 := Lib.hid ((HD.out.grw hG).keep R3 (by simp [d7.symm, hkd.symm]))
  have B4 := Lib.hid ((HU.out.grw hG).keep R3 (by simp [d6.symm, hku.symm]))
  have X1 := Lib.hid R1
  have X2 := Lib.hid R2
  have X3 := Lib.hid (((OnlyChg.refl (fun i => i = k.blk t ∨ i = n ∨ i = hi ∨ i = lo ∨ i = dn ∨ i = up) w).grw hG).trans (R3.mono (S' := fun i => i = k.blk t ∨ i = n ∨ i = hi ∨ i = lo ∨ i = dn ∨ i = up) fun i _ hi => by rcases hi with e | e <;> simp [e]))
  clear R1 R2 R3
  go_wp2_with fail
  refine (adopt_any n lo dn _ _ _ W3 B1.out B2.out B3.out vL vD l0 (by omega) w0 (by omega) d2 d4 d9).mono ?_
  rintro e W4 ⟨rfl, R1, R2, R3, R4⟩
  have Y1 := Lib.hid R1
  have Y2 := Lib.hid R2
  have Y3 := Lib.hid R3
  have Y4 := Lib.hid (X1.out.keep R4 (by simp [hkn, hkl, hkd]))
  have Y5 := Lib.hid (X2.out.keep R4 (by simp [d1.symm, d5, d7]))
  have Y6 := Lib.hid (B4.out.keep R4 (by simp [d3.symm, d8.symm, d10]))
  have Y7 := Lib.hid (X3.out.trans (R4.mono (S' := fun i => i = k.blk t ∨ i = n ∨ i = hi ∨ i = lo ∨ i = dn ∨ i = up) fun i _ hi => by rcases hi with e | e | e <;> simp [e]))
  clear R1 R2 R3 R4
  go_wp2_with fail
  refine (adopt_any hi up n _ _ _ W4 Y5.out Y6.out Y1.out vU vLD u0 (by omega) (by show 0 ≤ 1 + max Lo.h D.h; omega) (by show 1 + max Lo.h D.h ≤ 1000000; omega) d6 d1.symm d3.symm).mono ?_
  rintro e W5 ⟨rfl, R1, R2, R3, R4⟩
  have Z1 := Lib.hid R1
  have Z2 := Lib.hid R2
  have Z3 := Lib.hid R3
  have Z4 := Lib.hid (Y4.out.keep R4 (by simp [hkn, hkh, hku]))
  have Z5 := Lib.hid (Y2.out.keep R4 (by simp [d5.symm, d8, d2.symm]))
  have Z6 := Lib.hid (Y3.out.keep R4 (by simp [d7.symm, d10.symm, d4.symm]))
  have Z7 := Lib.hid (Y7.out.trans (R4.mono (S' := fun i => i = k.blk t ∨ i = n ∨ i = hi ∨ i = lo ∨ i = dn ∨ i = up) fun i _ hi => by rcases hi with e | e | e <;> simp [e]))
  clear R1 R2 R3 R4
  go_wp2_with fail
  go_ret
  exact ⟨rfl, Z4.out, Z3.out, Z1.out, Z5.out, Z6.out, Z2.out, Z7.out⟩


set_option maxHeartbeats 2000000 in
theorem rotate_B (t n hi lo x y up dn : Nat) (m : Option Nat) (N H Lo U D : Nd) (k : Lk) (w : World) (hn : NodeAt w n N) (hh : NodeAt w hi H) (hlo : NodeAt w lo Lo) (hu : NodeAt w up U) (hd : NodeAt w dn D)
    (hk : LinkAt w t m n k) (h1 : N.par = k.par) (h2 : H.par = some n) (h3 : N.l = some x) (h4 : N.r = some y) (h5 : (if x = hi then y else x) = lo) (hx : x = hi ∨ x = lo) (h6 : H.l = some dn) (h7 : H.r = some up) (hc : D.h < U.h)
    (hap : k.apart hi) (hkn : k.blk t ≠ n) (hkh : k.blk t ≠ hi) (hkl : k.blk t ≠ lo) (hku : k.blk t ≠ up) (hkd : k.blk t ≠ dn)
    (d1 : n ≠ hi) (d2 : n ≠ lo) (d3 : n ≠ up) (d4 : n ≠ dn) (d5 : hi ≠ lo) (d6 : hi ≠ up) (d7 : hi ≠ dn) (d8 : lo ≠ up) (d9 : lo ≠ dn) (d10 : up ≠ dn)
    (vL : validB Lo.a Lo.b Lo.c Lo.d = true) (vU : validB U.a U.b U.c U.d = true) (vD : validB D.a D.b D.c D.d = true)
    (vLD : validB (min Lo.a D.a) (min Lo.b D.b) (max Lo.c D.c) (max Lo.d D.d) = true)
    (l0 : 0 ≤ Lo.h) (l1 : Lo.h ≤ 500000) (u0 : 0 ≤ U.h) (u1 : U.h ≤ 500000) (w0 : 0 ≤ D.h) (w1 : D.h ≤ 500000) :
    Calls Try.prog 59 #[.pointer (some ⟨t, 0, none⟩), .pointer (some ⟨n, 0, none⟩), .pointer (some ⟨hi, 0, none⟩)] w fun e w' => e = .returned (.pointer (some ⟨hi, 0, none⟩)) ∧
      LinkTo w' t m hi k ∧
      NodeAt w' n { N with par := some hi, l := some lo, r := some dn, a := min Lo.a D.a, b := min Lo.b D.b, c := max Lo.c D.c, d := max Lo.d D.d, h := 1 + max Lo.h D.h } ∧
      NodeAt w' hi { H with par := k.par, l := some up, r := some n, a := min U.a (min Lo.a D.a), b := min U.b (min Lo.b D.b), c := max U.c (max Lo.c D.c), d := max U.d (max Lo.d D.d), h := 1 + max U.h (1 + max Lo.h D.h) } ∧
      NodeAt w' lo { Lo with par := some n } ∧ NodeAt w' dn { D with par := some n } ∧ NodeAt w' up { U with par := some hi } ∧
      OnlyChg (fun i => i = k.blk t ∨ i = n ∨ i = hi ∨ i = lo ∨ i = dn ∨ i = up) w w' := by
  have hsib : ∃ XL, NodeAt w x XL := by
    rcases hx with e | e
    · exact ⟨H, e ▸ hh⟩
    · exact ⟨Lo, e ▸ hlo⟩
  obtain ⟨XL, hXL⟩ := hsib
  have S1 := sibling_any hi n x y H N XL w hh hn hXL h2 h3 h4
  rw [h5] at S1
  have SS := Lib.hid S1
  obtain ⟨_, _, _, _, _, q5, q6, _⟩ := hh.facts
  obtain ⟨_, _, _, _, _, _, _, u7, _⟩ := hu.facts
  obtain ⟨_, _, _, _, _, _, _, v7, _⟩ := hd.facts
  rw [h6, ptrV_some] at q5
  rw [h7, ptrV_some] at q6
  have k1 := hh.lt
  have k2 := hu.lt
  have k3 := hd.lt
  have HN := Lib.hid hn
  have HH := Lib.hid hh
  have HL := Lib.hid hlo
  have HU := Lib.hid hu
  have HD := Lib.hid hd
  have HK := Lib.hid hk
  have E1 := Lib.hid h1
  have AP := Lib.hid hap
  clear hn hh hlo hu hd hk h1 h2 h3 h4 h5 hx h6 h7 S1 hXL hap
  go_enter Try.func59, Try.ntmps59
  go_wp2_with fail
  refine SS.out.mono ?_
  rintro e w' ⟨rfl, rfl⟩
  go_wp2_with fail
  refine wp_region_flow (by kernel_rfl) (by kernel_rfl) ?_
  (repeat (refine wpQ_step (fun K hK => ?_); go_simp; first | (refine hK _ ?_; clear hK K) | (apply Exists.intro; refine ⟨fun _ => ?_, hK _ ?_⟩; (fail); clear hK K)))
  refine wpQ_nil ?_
  intro W1 hg1
  obtain ⟨_, _, _, _, _, q5, q6, _⟩ := (HH.out.grw hg1).facts
  obtain ⟨_, _, _, _, _, _, _, u7, _⟩ := (HU.out.grw hg1).facts
  obtain ⟨_, _, _, _, _, _, _, v7, _⟩ := (HD.out.grw hg1).facts
  have k1 := (HH.out.grw hg1).lt
  have k2 := (HU.out.grw hg1).lt
  have k3 := (HD.out.grw hg1).lt
  go_wp2_with fail
  refine wp_region_flow (by kernel_rfl) (by kernel_rfl) ?_
  (repeat (refine wpQ_step (fun K hK => ?_); go_simp; first | (refine hK _ ?_; clear hK K) | (apply Exists.intro; refine ⟨fun _ => ?_, hK _ ?_⟩; (fail); clear hK K)))
  refine wpQ_nil ?_
  intro W2 hg2
  have hG := hg1.trans hg2
  clear q5 q6 u7 v7 k1 k2 k3 hg1 hg2
  go_wp2_with fail
  refine (replace_any t n hi m N H k W2 (HN.out.grw hG) (HH.out.grw hG) (HK.out.grw hG) E1.out hkn hkh AP.out).mono ?_
  rintro e W3 ⟨rfl, R1, R2, R3⟩
  have B1 := Lib.hid ((HN.out.grw hG).keep R3 (by simp [d1, hkn.symm]))
  have B2 := Lib.hid ((HL.out.grw hG).keep R3 (by simp [d5.symm, hkl.symm]))
  have B3 := Lib.hid ((HD.out.grw hG).keep R3 (by simp [d7.symm, hkd.symm]))
  have B4 := Lib.hid ((HU.out.grw hG).keep R3 (by simp [d6.symm, hku.symm]))
  have X1 := Lib.hid R1
  have X2 := Lib.hid R2
  have X3 := Lib.hid (((OnlyChg.refl (fun i => i = k.blk t ∨ i = n ∨ i = hi ∨ i = lo ∨ i = dn ∨ i = up) w).grw hG).trans (R3.mono (S' := fun i => i = k.blk t ∨ i = n ∨ i = hi ∨ i = lo ∨ i = dn ∨ i = up) fun i _ hi => by rcases hi with e | e <;> simp [e]))
  clear R1 R2 R3
  go_wp2_with fail
  refine (adopt_any n lo dn _ _ _ W3 B1.out B2.out B3.out vL vD l0 (by omega) w0 (by omega) d2 d4 d9).mono ?_
  rintro e W4 ⟨rfl, R1, R2, R3, R4⟩
  have Y1 := Lib.hid R1
  have Y2 := Lib.hid R2
  have Y3 := Lib.hid R3
  have Y4 := Lib.hid (X1.out.keep R4 (by simp [hkn, hkl, hkd]))
  have Y5 := Lib.hid (X2.out.keep R4 (by simp [d1.symm, d5, d7]))
  have Y6 := Lib.hid (B4.out.keep R4 (by simp [d3.symm, d8.symm, d10]))
  have Y7 := Lib.hid (X3.out.trans (R4.mono (S' := fun i => i = k.blk t ∨ i = n ∨ i = hi ∨ i = lo ∨ i = dn ∨ i = up) fun i _ hi => by rcases hi with e | e | e <;> simp [e]))
  clear R1 R2 R3 R4
  go_wp2_with fail
  refine (adopt_any hi up n _ _ _ W4 Y5.out Y6.out Y1.out vU vLD u0 (by omega) (by show 0 ≤ 1 + max Lo.h D.h; omega) (by show 1 + max Lo.h D.h ≤ 1000000; omega) d6 d1.symm d3.symm).mono ?_
  rintro e W5 ⟨rfl, R1, R2, R3, R4⟩
  have Z1 := Lib.hid R1
  have Z2 := Lib.hid R2
  have Z3 := Lib.hid R3
  have Z4 := Lib.hid (Y4.out.keep R4 (by simp [hkn, hkh, hku]))
  have Z5 := Lib.hid (Y2.out.keep R4 (by simp [d5.symm, d8, d2.symm]))
  have Z6 := Lib.hid (Y3.out.keep R4 (by simp [d7.symm, d10.symm, d4.symm]))
  have Z7 := Lib.hid (Y7.out.trans (R4.mono (S' := fun i => i = k.blk t ∨ i = n ∨ i = hi ∨ i = lo ∨ i = dn ∨ i = up) fun i _ hi => by rcases hi with e | e | e <;> simp [e]))
  clear R1 R2 R3 R4
  go_wp2_with fail
  go_ret
  exact ⟨rfl, Z4.out, Z3.out, Z1.out, Z5.out, Z6.out, Z2.out, Z7.out⟩

end Go.Proofs.Ytbnfngelkaembaa
