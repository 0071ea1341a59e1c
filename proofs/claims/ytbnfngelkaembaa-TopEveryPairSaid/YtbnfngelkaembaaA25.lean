/- The contracts of containsPair and of applied. -/
import Derived.Test.YtbnfngelkaembaaA24
namespace Go.Proofs.Ytbnfngelkaembaa
open Go.RowKit Go.Sort
attribute [local go_sem] qAt qUpon okOp okUpon cell_in_grow frozen_in_grow

theorem OwnP.read {w : World} {base n cap : Nat} {pa : Option Addr} {xs : List (Int × Int)} (h : OwnP w base (.slice pa n cap) xs) {j : Nat} {x : Int × Int} (hj : xs[j]? = some x) : ∃ g, pa = some ⟨g, 0, none⟩ ∧ g < w.heap.size ∧
    w.cell? ⟨g, j * 2, none⟩ = some (.int .i64 x.1) ∧ w.cell? ⟨g, j * 2 + 1, none⟩ = some (.int .i64 x.2) := by
  obtain ⟨g, h1, _, _, hg, h2⟩ := h.get (fun _ => rfl) hj
  exact ⟨g, h1, hg, h2 0 (by omega), h2 1 (by omega)⟩

set_option maxHeartbeats 1000000 in
theorem contains_any (w : World) (base : Nat) (v : Value) (ps : List (Int × Int)) (a b : Int) (h : OwnP w base v ps) (hl : ps.length ≤ 1000000000) :
    Calls Try.prog 10 #[v, .int .i64 a, .int .i64 b] w fun e w' => e = .returned (.bool (decide ((min a b, max a b) ∈ ps))) ∧ w = w' := by
  obtain ⟨pa, cap, rfl⟩ := h.slice
  have HO := Lib.hid h
  clear h
  go_enter Try.func10, Try.ntmps10
  go_wp2_with fail
  go_loopg [7] ps.length (fun g v7 wr => wr = w ∧ ∃ k : Nat, v7 = .int .i64 k ∧ k ≤ ps.length ∧ ps.length - k ≤ g ∧ (min a b, max a b) ∉ ps.take k)
  case atStart => exact ⟨rfl, 0, rfl, Nat.zero_le _, by omega, by simp⟩
  case round =>
    obtain ⟨rfl, k, rfl, hk, hg, hn⟩ := hrel
    have HN := Lib.hid hn
    clear hn
    rcases Nat.lt_or_ge k ps.length with hlt | hge
    · obtain ⟨x, hx⟩ : ∃ x, ps[k]? = some x := ⟨ps[k], List.getElem?_eq_getElem hlt⟩
      obtain ⟨gb, rfl, hgb, c0, c1⟩ := OwnP.read HO.out hx
      have him : (k : Int) < (ps.length : Int) := by omega
      have HX := Lib.hid hx
      have htk : ps.take (k + 1) = ps.take k ++ [x] := by rw [List.take_add_one, hx]; rfl
      have HTK := Lib.hid htk
      clear hx htk
      obtain ⟨x1, x2⟩ := x
      simp only at c0 c1
      by_cases e1 : x1 = min a b
      · subst e1
        by_cases e2 : x2 = max a b
        · subst e2
          have HIN : Hid ((min a b, max a b) ∈ ps) := List.mem_of_getElem? HX.out
          go_wp2_with fail
          go_ret
          exact ⟨ret_bool (decide_eq_true HIN.out).symm, rfl⟩
        · have HNN : Hid ((min a b, max a b) ∉ ps.take (k + 1)) := by
            show _ ∉ _
            rw [HTK.out]; simp only [List.mem_append, List.mem_singleton, Prod.mk.injEq, not_or]; exact ⟨HN.out, fun h => e2 h.2.symm⟩
          go_wp2_with fail
          go_roundg (ps.length - (k + 1))
          case measure => omega
          case rel => exact ⟨rfl, k + 1, by go_num, by omega, Nat.le_refl _, HNN.out⟩
      · have HNN : Hid ((min a b, max a b) ∉ ps.take (k + 1)) := by
          show _ ∉ _
          rw [HTK.out]; simp only [List.mem_append, List.mem_singleton, Prod.mk.injEq, not_or]; exact ⟨HN.out, fun h => e1 h.1.symm⟩
        go_wp2_with fail
        go_roundg (ps.length - (k + 1))
        case measure => omega
        case rel => exact ⟨rfl, k + 1, by go_num, by omega, Nat.le_refl _, HNN.out⟩
    · obtain rfl : k = ps.length := by omega
      have HNN : Hid ((min a b, max a b) ∉ ps) := by have := HN.out; rw [List.take_length] at this; exact this
      go_wp2_with fail
      go_ret
      exact ⟨ret_bool (decide_eq_false HNN.out).symm, rfl⟩

end Go.Proofs.Ytbnfngelkaembaa
