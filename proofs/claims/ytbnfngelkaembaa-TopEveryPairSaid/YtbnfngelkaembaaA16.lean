/- The contracts of sift and ascending of package bvh: the list is permuted; nothing on the order is said. -/
import Derived.Test.YtbnfngelkaembaaA15
import Derived.WalkKit
import Derived.Sort.WalkB12
import Derived.Sort.WalkC
import Derived.Deep.LoopGhost
import Derived.Deep.QuietTactic
import Derived.BigRegion
import Derived.BigQuiet
namespace Go.Proofs.Ytbnfngelkaembaa
open Go.RowKit Go.Sort

theorem swap_world0 {α : Type} [Inhabited α] (enc : α → Value) (w : World) (blk off : Nat) (dk : Array α) (n i j : Nat) (hi : i < dk.size) (hj : j < dk.size) :
    (((putRow enc w blk off dk).drewN n).setCell ⟨blk, off + i, none⟩ (enc dk[j]!)).setCell ⟨blk, off + j, none⟩ (enc dk[i]!) = (putRow enc w blk off (swp dk i j)).drewN n := by
  rw [← putRow_swp enc w blk off dk i j hi hj]
  rfl
theorem swp_perm (d : Array Int) (i j : Nat) (hi : i < d.size) (hj : j < d.size) : (swp d i j).toList.Perm d.toList := by
  have : swp d i j = d.swap i j := by
    apply Array.ext
    · simp [swp]
    · intro k h1 h2
      have h3 : k < d.size := by simpa using h2
      rw [← getElem!_pos _ k h1, Array.getElem_swap]
      simp only [swp]
      by_cases e1 : k = j
      · subst e1
        rw [getElem!_set_same _ _ _ (by simpa using hj)]
        by_cases e2 : k = i
        · subst e2; simp [getElem!_pos d k h3]
        · simp [e2, getElem!_pos d i hi]
      · rw [getElem!_set_other _ _ _ _ e1]
        by_cases e2 : k = i
        · subst e2; rw [getElem!_set_same _ _ _ hi]; simp [getElem!_pos d j hj]
        · rw [getElem!_set_other _ _ _ _ e2]; simp [e1, e2, getElem!_pos d k h3]
  rw [this]
  exact Array.swap_perm hi hj |>.toList

set_option maxHeartbeats 16000000 in
set_option maxRecDepth 1000000 in
theorem sift_any (b m cap i0 : Nat) (d0 : Array Int) (w : World) (hH : Holds (Value.int .i64) w b 0 d0) (hm : m ≤ d0.size) (hmc : m ≤ cap) (hb : m ≤ 1000000) (hi : i0 ≤ m) :
    Calls Try.prog 26 #[.slice (some ⟨b, 0, none⟩) m cap, .int .i64 i0] w fun e w' => e = .returned (.tuple #[]) ∧ ∃ (dk : Array Int), dk.toList.Perm d0.toList ∧ dk.size = d0.size ∧ ∃ q, w' = (putRow (Value.int .i64) w b 0 dk).drewN q := by
  go_enter Try.func26, Try.ntmps26
  go_wp2_with fail
  go_loopg [1] (m - i0) (fun g si wr => ∃ (i : Nat) (dk : Array Int), si = .int .i64 i ∧ m - i ≤ g ∧ i ≤ m ∧ dk.toList.Perm d0.toList ∧ dk.size = d0.size ∧ ∃ q, wr = (putRow (Value.int .i64) w b 0 dk).drewN q)
  case atStart => exact ⟨i0, d0, rfl, Nat.le_refl _, hi, List.Perm.refl _, rfl, 0, by rw [putRow_self (Value.int .i64) _ b 0 d0 hH]; rfl⟩
  case round =>
    obtain ⟨i, dk, rfl, hg, him, hP, hds, q, rfl⟩ := hrel
    replace hP := Lib.hid hP
    have hHk : Holds (Value.int .i64) (putRow (Value.int .i64) w b 0 dk) b 0 dk := holds_putRow _ _ b 0 d0 dk hH hds
    clear hH hi
    by_cases c1 : 2 * i + 1 < m
    · by_cases c2 : 2 * i + 2 < m
      · by_cases t : dk[2 * i + 2]! > dk[2 * i + 1]!
        · obtain ⟨xi, hxi⟩ : ∃ x, dk[i]! = x := ⟨_, rfl⟩
          obtain ⟨ci, fi⟩ := hHk (i) (by omega)
          rw [hxi, Nat.zero_add] at ci
          rw [Nat.zero_add] at fi
          obtain ⟨xl, hxl⟩ : ∃ x, dk[2 * i + 1]! = x := ⟨_, rfl⟩
          obtain ⟨cl, fl⟩ := hHk (2 * i + 1) (by omega)
          rw [hxl, Nat.zero_add] at cl
          rw [Nat.zero_add] at fl
          obtain ⟨xr, hxr⟩ : ∃ x, dk[2 * i + 2]! = x := ⟨_, rfl⟩
          obtain ⟨cr, fr⟩ := hHk (2 * i + 2) (by omega)
          rw [hxr, Nat.zero_add] at cr
          rw [Nat.zero_add] at fr
          rw [hxr, hxl] at t
          clear hHk
          have p1 : (0 : Int) ≤ 2 * (i : Int) + 1 := by omega
          have p2 : (0 : Int) ≤ 2 * (i : Int) + 2 := by omega
          have e1 : (2 * (i : Int) + 1).toNat = 2 * i + 1 := by omega
          have e2 : (2 * (i : Int) + 2).toNat = 2 * i + 2 := by omega
          have im : (i : Int) < (m : Int) := by omega
          have c1' : 2 * (i : Int) + 1 < (m : Int) := by omega
          have c1n : ¬ (m : Int) ≤ 2 * (i : Int) + 1 := by omega
          have c2' : 2 * (i : Int) + 1 + 1 < (m : Int) := by omega
          have c2'' : 2 * (i : Int) + 2 < (m : Int) := by omega
          have t' : decide (xl < xr) = true := decide_eq_true (by omega)
          by_cases u : xr ≤ xi
          · have u' : decide (xr ≤ xi) = true := decide_eq_true u
            go_wp2_with fail
            go_quiet (fail)
            go_wp2_with fail
            go_quiet (fail)
            go_wp2_with fail
            refine bodyPost_ret (results_none rfl _ _ _) rfl ?_
            simp only [World.drewN_drewN]
            exact ⟨trivial, dk, hP.out, hds, _, rfl⟩
          · have u' : decide (xr ≤ xi) = false := decide_eq_false u
            go_wp2_with fail
            go_quiet (fail)
            go_wp2_with fail
            go_quiet (fail)
            go_wp2_with fail
            generalize hwq : (putRow (Value.int .i64) w b 0 dk).drewN _ = wq
            have ci' : wq.cell? ⟨b, i, none⟩ = some (.int .i64 xi) := by rw [← hwq]; exact ci
            have cc' : wq.cell? ⟨b, 2 * i + 2, none⟩ = some (.int .i64 xr) := by rw [← hwq]; exact cr
            have fi' : wq.frozen? ⟨b, i, none⟩ = false := by rw [← hwq]; exact fi
            have fc' : wq.frozen? ⟨b, 2 * i + 2, none⟩ = false := by rw [← hwq]; exact fr
            go_region
            go_wp2_with fail
            go_roundg (m - (2 * i + 2))
            case measure => omega
            case rel =>
              refine ⟨2 * i + 2, swp dk i (2 * i + 2), by go_num, Nat.le_refl _, by omega, (swp_perm dk i (2 * i + 2) (by omega) (by omega)).trans hP.out, by rw [size_swp]; exact hds, ?_⟩
              rw [← hwq, ← hxr, ← hxi]
              simp only [World.drewN_drewN]
              have := fun NN => swap_world0 (Value.int .i64) w b 0 dk NN i (2 * i + 2) (by omega) (by omega)
              simp only [Nat.zero_add] at this
              exact ⟨_, this _⟩
        · obtain ⟨xi, hxi⟩ : ∃ x, dk[i]! = x := ⟨_, rfl⟩
          obtain ⟨ci, fi⟩ := hHk (i) (by omega)
          rw [hxi, Nat.zero_add] at ci
          rw [Nat.zero_add] at fi
          obtain ⟨xl, hxl⟩ : ∃ x, dk[2 * i + 1]! = x := ⟨_, rfl⟩
          obtain ⟨cl, fl⟩ := hHk (2 * i + 1) (by omega)
          rw [hxl, Nat.zero_add] at cl
          rw [Nat.zero_add] at fl
          obtain ⟨xr, hxr⟩ : ∃ x, dk[2 * i + 2]! = x := ⟨_, rfl⟩
          obtain ⟨cr, fr⟩ := hHk (2 * i + 2) (by omega)
          rw [hxr, Nat.zero_add] at cr
          rw [Nat.zero_add] at fr
          rw [hxr, hxl] at t
          clear hHk
          have p1 : (0 : Int) ≤ 2 * (i : Int) + 1 := by omega
          have p2 : (0 : Int) ≤ 2 * (i : Int) + 2 := by omega
          have e1 : (2 * (i : Int) + 1).toNat = 2 * i + 1 := by omega
          have e2 : (2 * (i : Int) + 2).toNat = 2 * i + 2 := by omega
          have im : (i : Int) < (m : Int) := by omega
          have c1' : 2 * (i : Int) + 1 < (m : Int) := by omega
          have c1n : ¬ (m : Int) ≤ 2 * (i : Int) + 1 := by omega
          have c2' : 2 * (i : Int) + 1 + 1 < (m : Int) := by omega
          have c2'' : 2 * (i : Int) + 2 < (m : Int) := by omega
          have t' : decide (xl < xr) = false := decide_eq_false (by omega)
          by_cases u : xl ≤ xi
          · have u' : decide (xl ≤ xi) = true := decide_eq_true u
            go_wp2_with fail
            go_quiet (fail)
            go_wp2_with fail
            go_quiet (fail)
            go_wp2_with fail
            refine bodyPost_ret (results_none rfl _ _ _) rfl ?_
            simp only [World.drewN_drewN]
            exact ⟨trivial, dk, hP.out, hds, _, rfl⟩
          · have u' : decide (xl ≤ xi) = false := decide_eq_false u
            go_wp2_with fail
            go_quiet (fail)
            go_wp2_with fail
            go_quiet (fail)
            go_wp2_with fail
            generalize hwq : (putRow (Value.int .i64) w b 0 dk).drewN _ = wq
            have ci' : wq.cell? ⟨b, i, none⟩ = some (.int .i64 xi) := by rw [← hwq]; exact ci
            have cc' : wq.cell? ⟨b, 2 * i + 1, none⟩ = some (.int .i64 xl) := by rw [← hwq]; exact cl
            have fi' : wq.frozen? ⟨b, i, none⟩ = false := by rw [← hwq]; exact fi
            have fc' : wq.frozen? ⟨b, 2 * i + 1, none⟩ = false := by rw [← hwq]; exact fl
            go_region
            go_wp2_with fail
            go_roundg (m - (2 * i + 1))
            case measure => omega
            case rel =>
              refine ⟨2 * i + 1, swp dk i (2 * i + 1), by go_num, Nat.le_refl _, by omega, (swp_perm dk i (2 * i + 1) (by omega) (by omega)).trans hP.out, by rw [size_swp]; exact hds, ?_⟩
              rw [← hwq, ← hxl, ← hxi]
              simp only [World.drewN_drewN]
              have := fun NN => swap_world0 (Value.int .i64) w b 0 dk NN i (2 * i + 1) (by omega) (by omega)
              simp only [Nat.zero_add] at this
              exact ⟨_, this _⟩
      · obtain ⟨xi, hxi⟩ : ∃ x, dk[i]! = x := ⟨_, rfl⟩
        obtain ⟨ci, fi⟩ := hHk (i) (by omega)
        rw [hxi, Nat.zero_add] at ci
        rw [Nat.zero_add] at fi
        obtain ⟨xl, hxl⟩ : ∃ x, dk[2 * i + 1]! = x := ⟨_, rfl⟩
        obtain ⟨cl, fl⟩ := hHk (2 * i + 1) (by omega)
        rw [hxl, Nat.zero_add] at cl
        rw [Nat.zero_add] at fl
        clear hHk
        have p1 : (0 : Int) ≤ 2 * (i : Int) + 1 := by omega
        have p2 : (0 : Int) ≤ 2 * (i : Int) + 2 := by omega
        have e1 : (2 * (i : Int) + 1).toNat = 2 * i + 1 := by omega
        have e2 : (2 * (i : Int) + 2).toNat = 2 * i + 2 := by omega
        have im : (i : Int) < (m : Int) := by omega
        have c1' : 2 * (i : Int) + 1 < (m : Int) := by omega
        have c1n : ¬ (m : Int) ≤ 2 * (i : Int) + 1 := by omega
        have c2' : decide (2 * (i : Int) + 1 + 1 < (m : Int)) = false := decide_eq_false (by omega)
        have c2'' : decide (2 * (i : Int) + 2 < (m : Int)) = false := decide_eq_false (by omega)
        by_cases u : xl ≤ xi
        · have u' : decide (xl ≤ xi) = true := decide_eq_true u
          go_wp2_with fail
          go_quiet (fail)
          go_wp2_with fail
          go_quiet (fail)
          go_wp2_with fail
          refine bodyPost_ret (results_none rfl _ _ _) rfl ?_
          simp only [World.drewN_drewN]
          exact ⟨trivial, dk, hP.out, hds, _, rfl⟩
        · have u' : decide (xl ≤ xi) = false := decide_eq_false u
          go_wp2_with fail
          go_quiet (fail)
          go_wp2_with fail
          go_quiet (fail)
          go_wp2_with fail
          generalize hwq : (putRow (Value.int .i64) w b 0 dk).drewN _ = wq
          have ci' : wq.cell? ⟨b, i, none⟩ = some (.int .i64 xi) := by rw [← hwq]; exact ci
          have cc' : wq.cell? ⟨b, 2 * i + 1, none⟩ = some (.int .i64 xl) := by rw [← hwq]; exact cl
          have fi' : wq.frozen? ⟨b, i, none⟩ = false := by rw [← hwq]; exact fi
          have fc' : wq.frozen? ⟨b, 2 * i + 1, none⟩ = false := by rw [← hwq]; exact fl
          go_region
          go_wp2_with fail
          go_roundg (m - (2 * i + 1))
          case measure => omega
          case rel =>
            refine ⟨2 * i + 1, swp dk i (2 * i + 1), by go_num, Nat.le_refl _, by omega, (swp_perm dk i (2 * i + 1) (by omega) (by omega)).trans hP.out, by rw [size_swp]; exact hds, ?_⟩
            rw [← hwq, ← hxl, ← hxi]
            simp only [World.drewN_drewN]
            have := fun NN => swap_world0 (Value.int .i64) w b 0 dk NN i (2 * i + 1) (by omega) (by omega)
            simp only [Nat.zero_add] at this
            exact ⟨_, this _⟩
    · have c1' : (m : Int) ≤ 2 * (i : Int) + 1 := by omega
      have p1 : (0 : Int) ≤ 2 * (i : Int) + 1 := by omega
      go_wp2_with fail
      refine bodyPost_ret (results_none rfl _ _ _) rfl ?_
      exact ⟨rfl, dk, hP.out, hds, _, rfl⟩

theorem putRow_again {α : Type} [Inhabited α] (enc : α → Value) (w : World) (b : Nat) (dk dk' : Array α) (q q' : Nat) (h : dk'.size = dk.size) :
    (putRow enc ((putRow enc w b 0 dk).drewN q) b 0 dk').drewN q' = (putRow enc w b 0 dk').drewN (q + q') := by
  rw [show putRow enc ((putRow enc w b 0 dk).drewN q) b 0 dk' = (putRow enc (putRow enc w b 0 dk) b 0 dk').drewN q from rfl, putRow_putRow _ _ _ _ _ _ h, World.drewN_drewN]

set_option maxHeartbeats 4000000 in
theorem ascending_nil (a : Option Addr) (cap : Nat) (w : World) : Calls Try.prog 15 #[.slice a 0 cap] w fun e w' => e = .returned (.slice a 0 cap) ∧ w = w' := by
  go_enter Try.func15, Try.ntmps15
  go_wp2_with fail
  go_loopg [3] 0 (fun g si wr => si = .int .i64 (-1) ∧ wr = w)
  case atStart => exact ⟨rfl, rfl⟩
  case round =>
    obtain ⟨rfl, rfl⟩ := hrel
    go_wp2_with fail
    go_loopg [4] 0 (fun g si w2 => si = .int .i64 (-1) ∧ w2 = wr)
    case atStart => exact ⟨rfl, rfl⟩
    case round =>
      obtain ⟨rfl, rfl⟩ := hrel
      go_wp2_with fail
      go_ret
      exact ⟨rfl, rfl⟩

set_option maxHeartbeats 16000000 in
set_option maxRecDepth 1000000 in
theorem ascending_any (b m cap : Nat) (d0 : Array Int) (w : World) (hH : Holds (Value.int .i64) w b 0 d0) (hm : d0.size = m) (hmc : m ≤ cap) (hb : m ≤ 1000000) (h1 : 1 ≤ m) :
    Calls Try.prog 15 #[.slice (some ⟨b, 0, none⟩) m cap] w fun e w' => e = .returned (.slice (some ⟨b, 0, none⟩) m cap) ∧ ∃ (dk : Array Int), dk.toList.Perm d0.toList ∧ dk.size = d0.size ∧ ∃ q, w' = (putRow (Value.int .i64) w b 0 dk).drewN q := by
  obtain ⟨i0, hi0⟩ : ∃ i0 : Nat, m / 2 = i0 := ⟨_, rfl⟩
  have hdiv : ((m : Int).tdiv 2) = (i0 : Int) := by rw [← hi0]; rfl
  have hi0m : i0 ≤ m := by omega
  clear hi0
  go_enter Try.func15, Try.ntmps15
  go_wp2_with fail
  go_loopg [3] i0 (fun g si wr => ∃ (i : Nat) (dk : Array Int), si = .int .i64 ((i : Int) - 1) ∧ i ≤ g ∧ i ≤ m ∧ dk.toList.Perm d0.toList ∧ dk.size = d0.size ∧ ∃ q, wr = (putRow (Value.int .i64) w b 0 dk).drewN q)
  case atStart => exact ⟨i0, d0, by go_num, Nat.le_refl _, hi0m, List.Perm.refl _, rfl, 0, by rw [putRow_self (Value.int .i64) _ b 0 d0 hH]; rfl⟩
  case round =>
    obtain ⟨i, dk, rfl, hg, him, hP, hds, q, rfl⟩ := hrel
    have hHk : Holds (Value.int .i64) ((putRow (Value.int .i64) w b 0 dk).drewN q) b 0 dk := holds_putRow _ _ b 0 d0 dk hH hds
    replace hP := Lib.hid hP
    have HH := Lib.hid hH
    clear hH
    cases i with
    | zero =>
      have e : (((0 : Nat) : Int) - 1) = -1 := rfl
      rw [e]
      clear hHk
      go_wp2_with fail
      go_loopg [4] m (fun g si wr => ∃ (n : Nat) (dk : Array Int), si = .int .i64 ((n : Int) - 1) ∧ n ≤ g ∧ n ≤ m ∧ dk.toList.Perm d0.toList ∧ dk.size = d0.size ∧ ∃ q, wr = (putRow (Value.int .i64) w b 0 dk).drewN q)
      case atStart => exact ⟨m, dk, by go_num, Nat.le_refl _, Nat.le_refl _, hP.out, hds, q, rfl⟩
      case round =>
        clear hP hds hg him
        obtain ⟨n, dk, rfl, hg, hnm, hP, hds, q, rfl⟩ := hrel
        replace hP := Lib.hid hP
        match n, hg, hnm with
        | 0, _, _ =>
          have e : (((0 : Nat) : Int) - 1) = -1 := rfl
          rw [e]
          go_wp2_with fail
          go_ret
          exact ⟨rfl, dk, hP.out, hds, q, rfl⟩
        | 1, _, _ =>
          have e : (((1 : Nat) : Int) - 1) = 0 := rfl
          rw [e]
          go_wp2_with fail
          go_ret
          exact ⟨rfl, dk, hP.out, hds, q, rfl⟩
        | k + 2, hg, hnm =>
          have e : (((k + 2 : Nat) : Int) - 1) = ((k + 1 : Nat) : Int) := by omega
          rw [e]
          have hHk : Holds (Value.int .i64) (putRow (Value.int .i64) w b 0 dk) b 0 dk := holds_putRow _ _ b 0 d0 dk HH.out hds
          obtain ⟨x0, hx0⟩ : ∃ x, dk[0]! = x := ⟨_, rfl⟩
          obtain ⟨c0, f0⟩ := hHk 0 (by omega)
          rw [hx0, Nat.zero_add] at c0
          rw [Nat.zero_add] at f0
          obtain ⟨xk, hxk⟩ : ∃ x, dk[k + 1]! = x := ⟨_, rfl⟩
          obtain ⟨ck, fk⟩ := hHk (k + 1) (by omega)
          rw [hxk, Nat.zero_add] at ck
          rw [Nat.zero_add] at fk
          clear hHk
          have im : ((k + 1 : Nat) : Int) < (m : Int) := by omega
          have im0 : (0 : Int) < (m : Int) := by omega
          have im1 : (0 : Int) < ((k + 1 : Nat) : Int) := by omega
          have im2 : ((k + 1 : Nat) : Int) ≤ (cap : Int) := by omega
          have im3 : (0 : Int) ≤ ((k + 1 : Nat) : Int) := by omega
          have hPS : (swp dk 0 (k + 1)).toList.Perm d0.toList := (swp_perm dk 0 (k + 1) (by omega) (by omega)).trans hP.out
          have hSZ : (swp dk 0 (k + 1)).size = d0.size := by rw [size_swp]; exact hds
          have hHS : Holds (Value.int .i64) (putRow (Value.int .i64) w b 0 (swp dk 0 (k + 1))) b 0 (swp dk 0 (k + 1)) := holds_putRow _ _ b 0 d0 _ HH.out hSZ
          have hsw := fun NN => swap_world0 (Value.int .i64) w b 0 dk NN 0 (k + 1) (by omega) (by omega)
          rw [hx0, hxk] at hsw
          simp only [Nat.zero_add] at hsw
          generalize swp dk 0 (k + 1) = ds at hPS hSZ hHS hsw
          replace hPS := Lib.hid hPS
          have hs := fun q => sift_any b (k + 1) cap 0 ds ((putRow (Value.int .i64) w b 0 ds).drewN q) hHS (by omega) (by omega) (by omega) (by omega)
          clear hHS
          generalize hk1 : k + 1 = k1 at *
          go_wp2_with fail
          generalize hwq : (putRow (Value.int .i64) w b 0 dk).drewN q = wq
          have c0' : wq.cell? ⟨b, 0, none⟩ = some (.int .i64 x0) := by rw [← hwq]; exact c0
          have ck' : wq.cell? ⟨b, k1, none⟩ = some (.int .i64 xk) := by rw [← hwq]; exact ck
          have f0' : wq.frozen? ⟨b, 0, none⟩ = false := by rw [← hwq]; exact f0
          have fk' : wq.frozen? ⟨b, k1, none⟩ = false := by rw [← hwq]; exact fk
          clear c0 ck f0 fk
          go_region
          rw [← hwq, hsw]
          clear c0' ck' f0' fk' hsw hwq
          go_wp2_with fail
          refine (hs (q + 1)).mono ?_
          rintro e w' ⟨rfl, dk', hP', hs', q', rfl⟩
          clear hs
          go_wp2_with fail
          go_roundg k1
          case measure => omega
          case rel => exact ⟨k1, dk', by go_num, Nat.le_refl _, by omega, hP'.trans hPS.out, hs'.trans hSZ, _, putRow_again _ w b ds dk' (q + 1) q' hs'⟩
    | succ k =>
      have e : (((k + 1 : Nat) : Int) - 1) = (k : Int) := by omega
      rw [e]
      have hs := sift_any b m cap k dk _ hHk (by omega) hmc hb (by omega)
      go_wp2_with fail
      refine hs.mono ?_
      rintro e w' ⟨rfl, dk', hP', hs', q', rfl⟩
      clear hs
      go_wp2_with fail
      go_roundg k
      case measure => omega
      case rel => exact ⟨k, dk', by go_num, Nat.le_refl _, by omega, hP'.trans hP.out, hs'.trans hds, _, putRow_again _ w b dk dk' q q' hs'⟩

end Go.Proofs.Ytbnfngelkaembaa
