/- The contract of Sort of package sap, at entries that count, no two of one ID. -/
import Derived.Test.YtbnfngelkaembaaA21
namespace Go.Proofs.Ytbnfngelkaembaa
open Go.RowKit Go.Sort

theorem info39 : (Try.prog.info? 39).map (fun i => (i.zero, i.size, i.bytes)) = some (some (.agg #[.int .i64 0, .int .i64 0, .int .i64 0, .int .i64 0, .int .i64 0]), 5, 40) := by kernel_rfl
def En.ok (x : En) : Prop := validB x.a x.b x.c x.d = true ∧ (Lit.int .i64 x.id).wf = true
theorem OwnE.read {w : World} {base n cap : Nat} {pa : Option Addr} {xs : List En} (h : OwnE w base (.slice pa n cap) xs) {j : Nat} {x : En} (hj : xs[j]? = some x) : ∃ g, pa = some ⟨g, 0, none⟩ ∧ g < w.heap.size ∧
    w.cell? ⟨g, j * 5, none⟩ = some (.int .i64 x.id) ∧ w.cell? ⟨g, j * 5 + 1, none⟩ = some (.int .i64 x.a) ∧ w.cell? ⟨g, j * 5 + 2, none⟩ = some (.int .i64 x.b) ∧ w.cell? ⟨g, j * 5 + 3, none⟩ = some (.int .i64 x.c) ∧ w.cell? ⟨g, j * 5 + 4, none⟩ = some (.int .i64 x.d) := by
  obtain ⟨g, h1, _, _, hg, h2⟩ := h.get (fun _ => rfl) hj
  exact ⟨g, h1, hg, h2 0 (by omega), h2 1 (by omega), h2 2 (by omega), h2 3 (by omega), h2 4 (by omega)⟩

/-- the loop -/
def SortR (w : World) (base mb : Nat) (en : List En) (g : Nat) (v3 v10 : Value) (wr : World) : Prop :=
  ∃ k : Nat, v10 = .int .i64 k ∧ k ≤ en.length ∧ en.length - k ≤ g ∧ OwnE wr base v3 (en.take k) ∧ MapIs Value.bool wr mb ((en.take k).map fun x => (x.id, true)) ∧ OnlyChg (fun _ => False) w wr

set_option maxHeartbeats 4000000 in
set_option maxRecDepth 100000 in
theorem sapSort_any (w : World) (base : Nat) (v : Value) (en : List En) (h : OwnE w base v en) (hok : ∀ x ∈ en, x.ok) (hnd : (en.map (·.id)).Nodup) (hl : en.length ≤ 100000) :
    Calls Try.prog 19 #[v] w fun e w' => ∃ v' ys, e = .returned v' ∧ OwnE w' w.heap.size v' ys ∧ ys.Perm en ∧ ys.Pairwise (fun x y => ltOf cmpE y x = false) ∧ OnlyChg (fun _ => False) w w' := by
  have hmm := @run_makeMap Try.prog
  obtain ⟨pa, cap, rfl⟩ := h.slice
  have HO := Lib.hid h
  have HOK := Lib.hid hok
  have HND := Lib.hid hnd
  clear h hok hnd
  go_enter Try.func19, Try.ntmps19
  go_wp2_with fail
  have hM := MapIs.made Value.bool w
  have HM := Lib.hid hM
  clear hM
  go_loopg [3, 10] en.length (SortR w (w.heap.size + 1) w.heap.size en)
  case atStart => exact ⟨0, rfl, Nat.zero_le _, by omega, OwnL.nil _ _ _ _ _, HM.out, OnlyChg.of_grw ((Grw.refl w).alloc _)⟩
  case round =>
    obtain ⟨k, rfl, hk, hg, hO3, hM3, hC3⟩ := hrel
    have HO3 := Lib.hid hO3
    have HM3 := Lib.hid hM3
    have HC3 := Lib.hid hC3
    clear hO3 hM3 hC3 HM hmm
    rcases Nat.lt_or_ge k en.length with hlt | hge
    · obtain ⟨x, hx⟩ : ∃ x, en[k]? = some x := ⟨en[k], List.getElem?_eq_getElem hlt⟩
      obtain ⟨gb, rfl, hgb, c0, c1, c2, c3, c4⟩ := OwnE.read (HO.out.keep HC3.out (by simp)) hx
      have him : (k : Int) < (en.length : Int) := by omega
      have hxm : x ∈ en := List.mem_of_getElem? hx
      have hv := (HOK.out x hxm).1
      have hwf := (HOK.out x hxm).2
      go_wp2_with fail
      have hv2 := valid_any x.a x.b x.c x.d (wr.alloc (.cells #[.int .i64 x.id, .int .i64 x.a, .int .i64 x.b, .int .i64 x.c, .int .i64 x.d] 39))
      rw [hv] at hv2
      refine hv2.mono ?_
      rintro e w1 ⟨rfl, hg1⟩
      have hgA : Grw wr (wr.alloc (.cells #[.int .i64 x.id, .int .i64 x.a, .int .i64 x.b, .int .i64 x.c, .int .i64 x.d] 39)) := (Grw.refl wr).alloc _
      have hG := hgA.trans hg1
      have hbx : w1.heap[wr.heap.size]? = some (.cells #[.int .i64 x.id, .int .i64 x.a, .int .i64 x.b, .int .i64 x.c, .int .i64 x.d] 39 (0, 0)) := hg1.block (heap_alloc_new wr _)
      have htk : en.take (k + 1) = en.take k ++ [x] := by rw [List.take_add_one, hx]; rfl
      have hni : ∀ y ∈ (en.take k).map (fun x => (x.id, true)), y.1 ≠ x.id := by
        intro y hy hye
        obtain ⟨z, hz, rfl⟩ := List.mem_map.1 hy
        have h1 : (en.map (·.id)).Nodup := HND.out
        rw [← List.take_append_drop (k + 1) en, htk] at h1
        simp only [List.map_append, List.map_cons, List.map_nil] at h1
        have h2 := (List.nodup_append.1 (List.nodup_append.1 h1).1).2.2
        exact h2 z.id (List.mem_map.2 ⟨z, hz, rfl⟩) x.id (by simp) hye
      have hM1 := HM3.out.grw hG
      have hlook := hM1.look_no Try.underlying70 (z := .bool false) (fun _ => by kernel_rfl) hwf hni false
      simp only [if_false, Bool.false_eq_true] at hlook
      obtain ⟨w2, hadd, hM2, hC2⟩ := hM1.add Try.underlying70 hwf hni true
      have hbne : ¬ wr.heap.size = w.heap.size := by have := HM3.out.lt; omega
      have d0 := hC2.cell hbx hbne 0
      have d1 := hC2.cell hbx hbne 1
      have d2 := hC2.cell hbx hbne 2
      have d3 := hC2.cell hbx hbne 3
      have d4 := hC2.cell hbx hbne 4
      have e0 := cell_of_block hbx 0
      have hO2 : OwnE w2 (w.heap.size + 1) u3 (en.take k) := (HO3.out.grw hG).keep hC2 (fun q hq hq' => by have := (HO3.out.base_le q hq).1; omega)
      have HO2 := Lib.hid hO2
      have HM2 := Lib.hid hM2
      have hC2' : OnlyChg (fun q => w.heap.size ≤ q) w w2 := ((HC3.out.grw hG).mono fun _ _ h => h.elim : OnlyChg (fun q => w.heap.size ≤ q) w w1).trans (hC2.mono fun q _ hq => by omega)
      have HC2 := Lib.hid hC2'
      have hsz2 : w.heap.size + 1 ≤ w2.heap.size := by have := HM3.out.lt; have := hG.size; have := hC2.size; omega
      have HTK := Lib.hid htk
      have htl : (en.take k).length ≤ 100000 := by rw [List.length_take]; omega
      clear hC2' hO2 hM2 hC2 hM1 hni htk hbx hG hgA hg1 hv2 c0 c1 c2 c3 c4 hxm hx hv hbne
      simp only [Array.getElem?_eq_getElem, List.size_toArray, List.length_cons, List.length_nil, Nat.reduceAdd, Nat.reduceLT, List.getElem_toArray, List.getElem_cons_zero, List.getElem_cons_succ] at d0 d1 d2 d3 d4 e0
      go_wp2_with (at_builtin; refine wpList_push (enc := encE) (z := .agg #[.int .i64 0, .int .i64 0, .int .i64 0, .int .i64 0, .int .i64 0]) (size := 5) (bytes := 40) (fun _ => rfl) (by simp [encE, Value.oneCell']) (w.heap.size + 1) rfl _ _ rfl Try.underlying25 info39 rfl (by decide) (by decide) u3 _ x _ rfl rfl rfl HO2.out hsz2 (by omega) ?_; intro v1 w7 hO7 hC7 hV7)
      have hC7' : OnlyChg (fun _ => False) w w7 := (HC2.out.trans (hC7.mono fun q _ hq => by have := (HO2.out.base_le q hq).1; omega)).none fun q hq => hq
      have hM7 := HM2.out.keep hC7 (fun hq => by have := (HO2.out.base_le _ hq).1; omega)
      have HO7 := Lib.hid hO7
      have HM7 := Lib.hid hM7
      have HC7 := Lib.hid hC7'
      clear hC7 hC7' hM7 hO7 hV7
      go_roundg (en.length - (k + 1))
      case measure => omega
      case rel => exact ⟨k + 1, by go_num, by omega, by omega, by rw [HTK.out]; exact HO7.out, by rw [HTK.out, List.map_append]; exact HM7.out, HC7.out⟩
    · obtain rfl : k = en.length := by omega
      go_wp2_with fail
      refine (sortE_any HO3.out (by rw [List.length_take]; omega)).mono ?_
      rintro e w4 ⟨rfl, ys, hp, hs, hO4, hC4⟩
      have hC5 : OnlyChg (fun _ => False) w w4 := ((HC3.out.mono fun _ _ h => h.elim : OnlyChg (fun q => w.heap.size ≤ q) w wr).trans (hC4.mono fun q _ hq => by have := (HO3.out.base_le q hq).1; omega)).none fun q hq => hq
      rw [List.take_length] at hp
      go_wp2_with fail
      go_ret
      exact ⟨u3, ys, rfl, hO4.rebase (by omega), hp, hs, hC5⟩

end Go.Proofs.Ytbnfngelkaembaa
