/- The contract of applied. -/
import Derived.Test.YtbnfngelkaembaaA25
namespace Go.Proofs.Ytbnfngelkaembaa
open Go.RowKit Go.Sort
attribute [local go_sem] qAt qUpon okOp okUpon cell_in_grow frozen_in_grow

def strike (en : List En) (id : Int) : List En := en.filter fun y => decide (y.id ≠ id)
def AppR (w : World) (en : List En) (id : Int) (g : Nat) (v5 v6 : Value) (wr : World) : Prop :=
  ∃ k : Nat, v6 = .int .i64 k ∧ k ≤ en.length ∧ en.length - k ≤ g ∧ OwnE wr (w.heap.size + 1) v5 (strike (en.take k) id) ∧ OnlyChg (fun _ => False) w wr ∧ KeepE w wr

set_option maxHeartbeats 4000000 in
set_option maxRecDepth 100000 in
theorem applied_any (w : World) (base : Nat) (v : Value) (en : List En) (op : Int) (x : En) (r : Int) (hr : Int.tmod op 3 = r) (hop : 0 ≤ op ∧ op < 256) (h : OwnE w base v en) (hl : en.length ≤ 30000) :
    Calls Try.prog 6 #[v, .agg #[.int .u8 op, .int .i64 x.id, .int .i64 x.a, .int .i64 x.b, .int .i64 x.c, .int .i64 x.d]] w fun e w' => ∃ v', e = .returned v' ∧ OwnE w' w.heap.size v' (strike en x.id ++ if r = 2 then [] else [x]) ∧ OnlyChg (fun _ => False) w w' := by
  obtain ⟨pa, cap, rfl⟩ := h.slice
  obtain ⟨id, a, b, c, d⟩ := x
  simp only
  obtain ⟨W0, hW0⟩ : ∃ W0, W0 = w.alloc (.cells #[.int .u8 op, .int .i64 id, .int .i64 a, .int .i64 b, .int .i64 c, .int .i64 d] 32) := ⟨_, rfl⟩
  have hgA : Grw w W0 := hW0 ▸ (Grw.refl w).alloc _
  have hbA : W0.heap[w.heap.size]? = some (.cells #[.int .u8 op, .int .i64 id, .int .i64 a, .int .i64 b, .int .i64 c, .int .i64 d] 32 (0, 0)) := hW0 ▸ heap_alloc_new w _
  have HO := Lib.hid (h.grw hgA)
  have HG := Lib.hid hgA
  have HB := Lib.hid hbA
  have hsz : w.heap.size + 1 ≤ W0.heap.size := (Array.getElem?_eq_some_iff.1 hbA).1
  clear h hgA hbA
  go_enter Try.func6, Try.ntmps6
  go_wp2_with fail
  rw [← hW0]
  clear hW0
  go_loopg [5, 6] en.length (fun g v5 v6 wr => ∃ k : Nat, v6 = .int .i64 k ∧ k ≤ en.length ∧ en.length - k ≤ g ∧ OwnE wr W0.heap.size v5 (strike (en.take k) id) ∧ OnlyChg (fun _ => False) W0 wr)
  case atStart => exact ⟨0, rfl, Nat.zero_le _, by omega, OwnL.nil _ _ _ _ _, OnlyChg.refl _ _⟩
  case round =>
    obtain ⟨k, rfl, hk, hg, hO3, hC3⟩ := hrel
    have HO3 := Lib.hid hO3
    have HC3 := Lib.hid hC3
    have hbx := (hC3.block _ (by omega) (by simp)).trans HB.out
    have hbl := (Array.getElem?_eq_some_iff.1 hbx).1
    have y0 := cell_of_block hbx 0
    have y1 := cell_of_block hbx 1
    have y2 := cell_of_block hbx 2
    have y3 := cell_of_block hbx 3
    have y4 := cell_of_block hbx 4
    have y5 := cell_of_block hbx 5
    simp only [Array.getElem?_eq_getElem, List.size_toArray, List.length_cons, List.length_nil, Nat.reduceAdd, Nat.reduceLT, List.getElem_toArray, List.getElem_cons_zero, List.getElem_cons_succ] at y0 y1 y2 y3 y4 y5
    have hlen : (strike (en.take k) id).length ≤ 30000 := by
      unfold strike
      have := List.length_filter_le (fun y : En => decide (y.id ≠ id)) (en.take k)
      rw [List.length_take] at this
      omega
    have hsr : W0.heap.size ≤ wr.heap.size := hC3.size
    clear hO3 hC3 hbx
    rcases Nat.lt_or_ge k en.length with hlt | hge
    · obtain ⟨y, hy⟩ : ∃ y, en[k]? = some y := ⟨en[k], List.getElem?_eq_getElem hlt⟩
      obtain ⟨gb, rfl, hgb, c0, c1, c2, c3, c4⟩ := OwnE.read (HO.out.keep HC3.out (by simp)) hy
      have him : (k : Int) < (en.length : Int) := by omega
      have HTK := Lib.hid (show en.take (k + 1) = en.take k ++ [y] by rw [List.take_add_one, hy]; rfl)
      clear hy
      by_cases hid : y.id = id
      · have HST : Hid (strike (en.take (k + 1)) id = strike (en.take k) id) := by
          show _ = _
          unfold strike
          rw [HTK.out, List.filter_append]; simp [hid]
        go_wp2_with fail
        refine wp_region_flow (by kernel_rfl) (by kernel_rfl) ?_
        (repeat (refine wpQ_step (fun K hK => ?_); go_simp; first | (refine hK _ ?_; clear hK K) | (apply Exists.intro; refine ⟨fun _ => ?_, hK _ ?_⟩; (fail); clear hK K)))
        refine wpQ_nil ?_
        intro w1 hg1
        have HC4 := Lib.hid (HC3.out.grw hg1)
        have HO4 := Lib.hid (HO3.out.grw hg1)
        go_wp2_with fail
        go_roundg (en.length - (k + 1))
        case measure => omega
        case rel => exact ⟨k + 1, by go_num, by omega, Nat.le_refl _, by rw [HST.out]; exact HO4.out, HC4.out⟩
      · have HST : Hid (strike (en.take k) id ++ [y] = strike (en.take (k + 1)) id) := by
          show _ = _
          unfold strike
          rw [HTK.out, List.filter_append]; simp [hid]
        go_wp2_with fail
        refine wp_region_flow (by kernel_rfl) (by kernel_rfl) ?_
        (repeat (refine wpQ_step (fun K hK => ?_); go_simp; first | (refine hK _ ?_; clear hK K) | (apply Exists.intro; refine ⟨fun _ => ?_, hK _ ?_⟩; (fail); clear hK K)))
        refine wpQ_nil ?_
        intro w1 hg1
        have HC4 := Lib.hid (HC3.out.grw hg1)
        have HO4 := Lib.hid (HO3.out.grw hg1)
        have hs1 : W0.heap.size ≤ w1.heap.size := Nat.le_trans hsr hg1.size
        have c0 := hg1.cell c0
        have c1 := hg1.cell c1
        have c2 := hg1.cell c2
        have c3 := hg1.cell c3
        have c4 := hg1.cell c4
        clear y0 y1 y2 y3 y4 y5 hg1
        go_wp2_with (at_builtin; refine wpList_push (enc := encE) (z := .agg #[.int .i64 0, .int .i64 0, .int .i64 0, .int .i64 0, .int .i64 0]) (size := 5) (bytes := 40) (fun _ => rfl) (by simp [encE, Value.oneCell']) W0.heap.size rfl _ _ rfl Try.underlying25 info39 rfl (by decide) (by decide) u5 _ y _ rfl rfl rfl HO4.out hs1 (by omega) ?_; intro v1 w7 hO7 hC7 hV7)
        have hC8 : OnlyChg (fun _ => False) W0 w7 := ((HC4.out.mono fun _ _ h => h.elim : OnlyChg (fun q => W0.heap.size ≤ q) W0 w1).trans (hC7.mono fun q _ hq => (HO4.out.base_le q hq).1)).none fun q hq => hq
        go_roundg (en.length - (k + 1))
        case measure => omega
        case rel => exact ⟨k + 1, by go_num, by omega, Nat.le_refl _, by rw [← HST.out]; exact hO7, hC8⟩
    · obtain rfl : k = en.length := by omega
      rw [List.take_length] at HO3 hlen
      have hbb := HG.out.size
      by_cases h2 : r = 2
      · subst h2
        go_wp2_with fail
        go_ret
        refine ⟨u5, rfl, ?_, (OnlyChg.of_grw HG.out).trans HC3.out⟩
        exact HO3.out.rebase hbb
      · go_wp2_with (at_builtin; refine wpList_push (enc := encE) (z := .agg #[.int .i64 0, .int .i64 0, .int .i64 0, .int .i64 0, .int .i64 0]) (size := 5) (bytes := 40) (fun _ => rfl) (by simp [encE, Value.oneCell']) W0.heap.size rfl _ _ rfl Try.underlying25 info39 rfl (by decide) (by decide) u5 _ (⟨id, a, b, c, d⟩ : En) _ rfl rfl rfl HO3.out hsr (by omega) ?_; intro v1 w7 hO7 hC7 hV7)
        go_ret
        have hC8 : OnlyChg (fun _ => False) W0 w7 := ((HC3.out.mono fun _ _ h => h.elim : OnlyChg (fun q => W0.heap.size ≤ q) W0 wr).trans (hC7.mono fun q _ hq => (HO3.out.base_le q hq).1)).none fun q hq => hq
        refine ⟨v1, rfl, ?_, (OnlyChg.of_grw HG.out).trans hC8⟩
        exact hO7.rebase hbb

end Go.Proofs.Ytbnfngelkaembaa
