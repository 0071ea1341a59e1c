/- The contract of rebalance of package bvh: the walk of its loop; its conditions: all nodes are apart, all boxes are valid. -/
import Derived.Test.YtbnfngelkaembaaA6
namespace Go.Proofs.Ytbnfngelkaembaa
open Go.RowKit Go.Sort
attribute [local go_sem] qAt qUpon cell_in_grow frozen_in_grow

theorem OnWay.grw {w wr w' : World} {t : Nat} {m : Option Nat} {L : List Lf} {N : List Nat} {k p : Nat} {l r : T} {C : Cx} (h : OnWay w t m L N k p l r C wr) (hg : Grw wr w') : OnWay w t m L N k p l r C w' := by
  obtain ⟨h1, ⟨⟨P, p1, p2⟩, h3, h4, h5⟩, h6, h7, h8⟩ := h
  exact ⟨h1, ⟨⟨P, p1.grw hg, p2⟩, h3.grw hg, h4.grw hg, h5.grw hg⟩, h6, h7, h8.grw hg⟩

set_option maxHeartbeats 4000000 in
theorem rebalance_any (t : Nat) (m : Option Nat) (L : List Lf) (N : List Nat) (wb w : World) (hN : (t :: N).Nodup) (hL : ∀ y ∈ L, validB y.a y.b y.c y.d = true) (hb : N.length ≤ 400000) (k0 : Nat) (v : Value) (h : RB wb t m L N k0 v w) :
    Calls Try.prog 41 #[.pointer (some ⟨t, 0, none⟩), v] w fun e w' => e = .returned (.tuple #[]) ∧ Whole wb t m L N w' := by
  have HN := Lib.hid hN
  have HL := Lib.hid hL
  have HB := Lib.hid hb
  have H0 := Lib.hid h
  clear hN hL hb h
  go_enter Try.func41, Try.ntmps41
  go_wp2_with fail
  go_loopg [1] k0 (fun k v wr => RB wb t m L N k v wr)
  case atStart => exact H0.out
  case round =>
    rcases hrel with ⟨rfl, hW⟩ | ⟨p, l, r, C, rfl, hO⟩
    · have HW := Lib.hid hW
      clear hW
      go_wp2_with fail
      go_end0
      exact ⟨rfl, HW.out⟩
    · have hS := hO.2.1
      obtain ⟨P, p1, p2, p3, p4, p5⟩ := hS.own
      have p6 := hS.hl
      have p7 := hS.hr
      have c5 := p1.facts.2.2.2.2.2.1
      have c6 := p1.facts.2.2.2.2.2.2.1
      have c7 := p6.root.facts.2.2.2.2.2.2.2.1
      have c8 := p7.root.facts.2.2.2.2.2.2.2.1
      rw [p2, ptrV_some] at c5
      rw [p3, ptrV_some] at c6
      rw [T.nd_h] at c7 c8
      have j1 := p1.lt
      have j2 := p6.root.lt
      have j3 := p7.root.lt
      have i1 := T.h_lo l
      have i2 := T.h_hi l
      have i3 := T.h_lo r
      have i4 := T.h_hi r
      have i5 := hO.len HB.out
      have i6 : l.h ≤ 400000 := by omega
      have i7 : r.h ≤ 400000 := by omega
      have HO := Lib.hid hO
      have HK : Hid (gk = C.depth + 1) := hO.1
      clear hO hS p1 p2 p3 p4 p5 p6 p7 i2 i4 i5 P
      by_cases t1 : 1 < l.h - r.h
      · obtain ⟨hi, u, d, rfl⟩ : ∃ hi u d, l = T.node hi u d := by
          cases l with
          | leaf x => simp only [T.h] at t1; omega
          | node hi u d => exact ⟨hi, u, d, rfl⟩
        simp only [T.ptr] at c5 c7 j2
        go_wp2_with fail
        refine wp_region_flow (by kernel_rfl) (by kernel_rfl) ?_
        (repeat (refine wpQ_step (fun K hK => ?_); go_simp; first | (refine hK _ ?_; clear hK K) | (apply Exists.intro; refine ⟨fun _ => ?_, hK _ ?_⟩; (fail); clear hK K)))
        refine wpQ_nil ?_
        intro w1 hg1
        have HO1 := Lib.hid (HO.out.grw hg1)
        have c5' := hg1.cell c5
        clear c5 c6 c7 c8 hg1
        go_wp2_with fail
        refine (HO1.out.rotL HN.out HL.out HB.out).mono ?_
        rintro e w2 ⟨rfl, q1, q2⟩
        have Q2 := Lib.hid q2
        clear q2
        go_wp2_with fail
        go_roundg C.depth
        case rel => exact Q2.out
        case measure => have := HK.out; omega
      · by_cases t2 : l.h - r.h < -1
        · obtain ⟨hi, u, d, rfl⟩ : ∃ hi u d, r = T.node hi u d := by
            cases r with
            | leaf x => simp only [T.h] at t2; omega
            | node hi u d => exact ⟨hi, u, d, rfl⟩
          simp only [T.ptr] at c6 c8 j3
          go_wp2_with fail
          refine wp_region_flow (by kernel_rfl) (by kernel_rfl) ?_
          (repeat (refine wpQ_step (fun K hK => ?_); go_simp; first | (refine hK _ ?_; clear hK K) | (apply Exists.intro; refine ⟨fun _ => ?_, hK _ ?_⟩; (fail); clear hK K)))
          refine wpQ_nil ?_
          intro w1 hg1
          have HO1 := Lib.hid (HO.out.grw hg1)
          have c6' := hg1.cell c6
          clear c5 c6 c7 c8 hg1
          go_wp2_with fail
          refine (HO1.out.rotR HN.out HL.out HB.out).mono ?_
          rintro e w2 ⟨rfl, q1, q2⟩
          have Q2 := Lib.hid q2
          clear q2
          go_wp2_with fail
          go_roundg C.depth
          case rel => exact Q2.out
          case measure => have := HK.out; omega
        · go_wp2_with fail
          refine wp_region_flow (by kernel_rfl) (by kernel_rfl) ?_
          (repeat (refine wpQ_step (fun K hK => ?_); go_simp; first | (refine hK _ ?_; clear hK K) | (apply Exists.intro; refine ⟨fun _ => ?_, hK _ ?_⟩; (fail); clear hK K)))
          refine wpQ_nil ?_
          intro w1 hg1
          have HO1 := Lib.hid (HO.out.grw hg1)
          clear c5 c6 c7 c8 hg1
          go_wp2_with fail
          refine (HO1.out.ref HN.out HL.out HB.out).mono ?_
          rintro e w2 ⟨rfl, q1, q2⟩
          have Q2 := Lib.hid q2
          clear q2
          go_wp2_with fail
          go_roundg C.depth
          case rel => exact Q2.out
          case measure => have := HK.out; omega

end Go.Proofs.Ytbnfngelkaembaa
