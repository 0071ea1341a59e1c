/- The contract of Pairs of package sap, at entries that count, no two of one ID. -/
import Derived.Test.YtbnfngelkaembaaA23
import Derived.Maps.OwnIn
namespace Go.Proofs.Ytbnfngelkaembaa
open Go.RowKit Go.Sort Go.Shelf
attribute [local go_sem] Oper.semAt_some

section
variable {α : Type} {ops : Array Oper} {rest : List Oper} {o : Oper} {a : Act} {Q : Exit → Act → World → Prop}
theorem wpListIn_push {F : Fence} {nF : Nat} {enc : α → List Value} {e size bytes t : Nat} {z : Value} (hk : ∀ x, (enc x).length = size) (h1 : ∀ x, ∀ u ∈ enc x, u.oneCell' = true) {W : World} (base : Nat) (hgd : o.guard = none) (s x : Operand)
    (ho : o.op = .call { callee := .builtin .append, args := #[s, x], argTypes := #[t, t] })
    (ht : Try.prog.underlying t = some (.slice e)) (hinfo : (Try.prog.info? e).map (fun i => (i.zero, i.size, i.bytes)) = some (some z, size, bytes)) (hz : z.cells.size = size) (hsz : 0 < size) (hb0 : 0 < bytes)
    (v : Value) (xs : List α) (y : α) (cs : Array Value) (hcs : cs = (enc y).toArray) (hs : a.eval s = v) (hx : a.eval x = .slice (some ⟨W.heap.size, 0, none⟩) 1 1)
    (HO : OwnL e size enc W base v xs) (hbase : base ≤ W.heap.size) (hl : (xs.length + 1) * bytes ≤ 140737488355328)
    (h : ∀ v1 w1, OwnL e size enc w1 base v1 (xs ++ [y]) → OnlyChg (fun k => v.ownBlock = some k) W w1 → (∃ g c, v1 = .slice (some ⟨g, 0, none⟩) (xs.length + 1) c) → wpListIn F nF Try.prog ops Q rest (a.put o.dst v1) w1) :
    wpListIn F nF Try.prog ops Q (o :: rest) a (W.alloc (.cells cs e)) := by
  subst hcs
  obtain ⟨i0, hi, hzz⟩ := Option.map_eq_some_iff.1 hinfo
  simp only [Prod.mk.injEq] at hzz
  obtain ⟨hz0, hz1, hz2⟩ := hzz
  have hlen : xs.length + 1 ≤ 140737488355328 := Nat.le_trans (Nat.le_mul_of_pos_right _ hb0) hl
  refine wpListIn_append_own_at (W.alloc (.cells (enc y).toArray e)) hgd s x t ho base e i0 z size bytes ht hi hz0 hz1 hz2 hz hsz v xs.length (xs.flatMap enc) hs (HO.grw ((Grw.refl W).alloc _)) ⟨W.heap.size, 0, none⟩ 1 1 (enc y) hx (by rw [hk]; omega)
    (fun j u hu => ?_) (h1 y) (by simp only [maxLen]; omega) hl (by simp; omega) ?_
  · have e1 : (⟨W.heap.size, 0, none⟩ : Addr).add j = ⟨W.heap.size, j, none⟩ := by unfold Addr.add; split <;> simp_all
    rw [e1, cell_of_block (heap_alloc_new W _)]
    simpa using hu
  · intro v1 w1 hown hg _ hat
    have hO1 : OwnL e size enc w1 base v1 (xs ++ [y]) := by unfold OwnL; simpa [List.flatMap_append] using hown
    refine h v1 w1 hO1 ?_ ?_
    · have k1 : OnlyChg (fun k => v.ownBlock = some k) W (W.alloc (.cells (enc y).toArray e)) := (OnlyChg.refl _ W).grw ((Grw.refl W).alloc _)
      exact k1.trans ⟨hg.os, hg.tape, hg.output, hg.size, fun i hi hs => hg.block i hi (fun e => hs e.symm)⟩
    · rcases hO1.form with ⟨_, e2⟩ | ⟨g, c, e2, _⟩
      · simp at e2
      · exact ⟨g, c, by simpa using e2⟩
end

theorem grownBy_cells {W W' : World} {row : Option Nat} (hg : W.grownBy W' row) (hr : ∀ r, row = some r → ∃ o : Obj, W.heap[r]? = some o ∧ o.isCells = false) {k : Nat} {cs : Array Value} {t : TypeId} {fr : Nat × Nat} (h : W.heap[k]? = some (.cells cs t fr)) : W'.heap[k]? = some (.cells cs t fr) := by
  refine (hg.block k (Array.getElem?_eq_some_iff.1 h).1 fun e => ?_).trans h
  obtain ⟨o, ho, hc⟩ := hr k e.symm
  rw [h] at ho; cases ho; simp [Obj.isCells] at hc
theorem OwnL.grownBy {α : Type} {e size : Nat} {enc : α → List Value} {W W' : World} {base : Nat} {v : Value} {xs : List α} (h : OwnL e size enc W base v xs) {row : Option Nat} (hg : W.grownBy W' row) (hr : ∀ r, row = some r → ∃ o : Obj, W.heap[r]? = some o ∧ o.isCells = false) : OwnL e size enc W' base v xs := by
  obtain ⟨h1, h2 | ⟨g, cap, cur, h3, h4, h5, h6⟩⟩ := h
  · exact ⟨h1, .inl h2⟩
  · exact ⟨h1, .inr ⟨g, cap, cur, h3, h4, grownBy_cells hg hr h5, h6⟩⟩

theorem OnlyChg.keepsFrom {S : Nat → Prop} {W W' : World} (h : OnlyChg S W W') (hs : ∀ k o, S k → W.heap[k]? = some o → o.isCells = true) (B : Nat) : KeepsFrom B W W' :=
  ⟨h.size, fun k o _ hk ho => (h.block k (Array.getElem?_eq_some_iff.1 hk).1 (fun e => by rw [hs k o e hk] at ho; cases ho)).trans hk⟩
theorem OnlyChg.keepE {S : Nat → Prop} {W W' : World} (h : OnlyChg S W W') (hs : ∀ k cs t fr, S k → W.heap[k]? = some (.cells cs t fr) → t ≠ 39 ∧ t ≠ 25) : KeepE W W' :=
  fun k cs t fr ht hk => (h.block k (Array.getElem?_eq_some_iff.1 hk).1 (fun e => ht.elim (hs k cs t fr e hk).1 (hs k cs t fr e hk).2)).trans hk
theorem OnlyChg.belowB {S : Nat → Prop} {W W' : World} (h : OnlyChg S W W') {n : Nat} (hn : n ≤ W.heap.size) (hs : ∀ k, S k → n ≤ k) : Below n W W' :=
  ⟨h.os, h.tape, h.output, h.size, fun k hk => h.block k (by omega) (fun e => by have := hs k e; omega)⟩
theorem OwnL.tag {α : Type} {e size : Nat} {enc : α → List Value} {w : World} {base : Nat} {v : Value} {xs : List α} (h : OwnL e size enc w base v xs) {k : Nat} (hk : v.ownBlock = some k) : ∃ cur, w.heap[k]? = some (.cells cur e (0, 0)) := by
  obtain ⟨h1, ⟨rfl, _⟩ | ⟨g, cap, cur, rfl, _, h5, _⟩⟩ := h
  · simp [Value.ownBlock] at hk
  · simp only [Value.ownBlock, Option.some.injEq] at hk
    subst hk
    exact ⟨cur, h5⟩

def sel (pre : List (En × En)) : List (Int × Int) := (pre.filter fun p => validB p.1.a p.1.b p.1.c p.1.d && validB p.2.a p.2.b p.2.c p.2.d && ovB p.1.a p.1.b p.1.c p.1.d p.2.a p.2.b p.2.c p.2.d).map fun p => (min p.1.id p.2.id, max p.1.id p.2.id)
theorem sel_snoc (pre : List (En × En)) (p : En × En) : sel (pre ++ [p]) = sel pre ++ if (validB p.1.a p.1.b p.1.c p.1.d && validB p.2.a p.2.b p.2.c p.2.d && ovB p.1.a p.1.b p.1.c p.1.d p.2.a p.2.b p.2.c p.2.d) then [(min p.1.id p.2.id, max p.1.id p.2.id)] else [] := by
  unfold sel
  rw [List.filter_append, List.map_append]
  congr 1
  by_cases h : (validB p.1.a p.1.b p.1.c p.1.d && validB p.2.a p.2.b p.2.c p.2.d && ovB p.1.a p.1.b p.1.c p.1.d p.2.a p.2.b p.2.c p.2.d) = true
  · rw [if_pos h]; simp [List.filter_cons, h]
  · rw [if_neg h]; simp [List.filter_cons, h]
theorem sel_len (pre : List (En × En)) : (sel pre).length ≤ pre.length := by
  unfold sel
  rw [List.length_map]; exact List.length_filter_le _ _
theorem nbr_len : ∀ ys : List En, (nbr ys).length ≤ ys.length * ys.length
  | [] => by simp [nbr]
  | x :: r => by
    have h1 := nbr_len r
    have h2 : ((r.takeWhile (fun y => decide (y.a ≤ x.c))).map (fun y => (x, y))).length ≤ r.length := by
      rw [List.length_map]
      exact (List.takeWhile_prefix _).length_le
    simp only [nbr, List.length_append, List.length_cons, Nat.add_mul, Nat.mul_add, Nat.one_mul, Nat.mul_one]
    omega

theorem neighbors_any (pa : Option Addr) (n cap : Nat) (w : World) : Calls Try.prog 18 #[.slice pa n cap] w fun e w' => e = .returned (.func (.func 29) #[] #[.pointer (some ⟨w.heap.size, 0, none⟩)]) ∧ w' = w.alloc (.cells #[.slice pa n cap] 25) := by
  go_enter Try.func18, Try.ntmps18
  go_wp2_with fail
  go_ret
  exact ⟨rfl, rfl⟩

set_option maxRecDepth 100000 in
set_option maxHeartbeats 4000000 in
theorem sapPairs_any (w : World) (base : Nat) (v : Value) (en : List En) (h : OwnE w base v en) (hok : ∀ x ∈ en, x.ok) (hnd : (en.map (·.id)).Nodup) (hl : en.length ≤ 30000) :
    Calls Try.prog 8 #[v] w fun e w' => ∃ v' ys ps, e = .returned v' ∧ OwnP w' w.heap.size v' ps ∧ ys.Perm en ∧ ys.Pairwise (fun x y => ltOf cmpE y x = false) ∧ ps.Perm (sel (nbr ys)) ∧ Below w.heap.size w w' := by
  refine (callsIn_wide (n := 9)).1 ?_
  refine callsIn_of_wp_marks Try.func8 rfl trivial ?_ rfl
  simp only [Try.ntmps8, List.size_toArray, List.length_cons, List.length_nil, Nat.reduceAdd, Nat.reduceSub, Array.replicate_succ, Array.replicate_zero, List.push_toArray, List.append_toArray, List.nil_append, List.cons_append]
  gi_wp2
  have hgB := (Grw.refl w).alloc (.cells #[.slice none 0 0] 34)
  have hbB := heap_alloc_new w (.cells #[.slice none 0 0] 34)
  refine ⟨trivial, (callsIn_wide.2 (sapSort_any _ base v en (h.grw hgB) hok hnd (by omega))).mono ?_⟩
  rintro e w4 ⟨v4, ys, rfl, hO4, hp, hs, hC4⟩
  obtain ⟨pa, cap, rfl⟩ := hO4.slice
  have hO5 : OwnE w4 w.heap.size (.slice pa ys.length cap) ys := hO4.rebase hgB.size
  have hC5 := (OnlyChg.of_grw hgB).trans hC4
  have hbx : w4.heap[w.heap.size]? = some (.cells #[.slice none 0 0] 34 (0, 0)) := (hC4.block _ (by simp) (by simp)).trans hbB
  have hyl : ys.length ≤ 30000 := by have := hp.length_eq; omega
  clear hO4 hC4 hbB hgB h hok hnd
  gi_wp2
  refine ⟨trivial, (callsIn_wide.2 (neighbors_any pa ys.length cap w4)).mono ?_⟩
  rintro e w5 ⟨rfl, rfl⟩
  gi_wp2
  obtain ⟨W0, hW0⟩ : ∃ W0, W0 = w4.alloc (.cells #[.slice pa ys.length cap] 25) := ⟨_, rfl⟩
  have hgW : Grw w4 W0 := hW0 ▸ (Grw.refl w4).alloc _
  have hsl : W0.heap[w4.heap.size]? = some (.cells #[.slice pa ys.length cap] 25 (0, 0)) := hW0 ▸ heap_alloc_new w4 _
  have hO6 := hO5.grw hgW
  have hbx6 := hgW.block hbx
  have hB6 : Below w.heap.size w W0 := by
    have h1 := hC5.grw hgW
    exact ⟨h1.os, h1.tape, h1.output, h1.size, fun k hk => h1.block k hk (by simp)⟩
  have hsz : w.heap.size + 1 ≤ W0.heap.size := (Array.getElem?_eq_some_iff.1 hbx6).1
  rw [← hW0]
  clear hW0 hgW hO5 hbx hC5
  refine wpIn_rangeFunc_ownH rfl (by omega) (gf := 29) (lb := #[.pointer (some ⟨w4.heap.size, 0, none⟩)]) rfl trivial (enters_of Try.func29 (by kernel_rfl) rfl)
    (encs := encEE) (Kp := KeepE) (S := fun zs => zs = nbr ys) (Sp := fun _ => True) (N := (nbr ys).length) (w0 := W0)
    (fun l J Jx W hW hJ _ hY h0 => nbr_in Fence.wide 8 trivial rfl (by omega) l w4.heap.size W.heap.size pa cap ys J Jx hY W hJ w.heap.size ((hW.block _ (Array.getElem?_eq_some_iff.1 hsl).1).trans hsl) (hO6.keep (S := fun _ => False) ⟨hW.os, hW.tape, hW.output, hW.size, fun k hk _ => hW.block k hk⟩ (by simp)) (by omega) h0)
    KeepE.trans (fun W l o o' _ hl hc _ => KeepE.putObj W l o o' hl hc) (Below.refl _ _) (fun _ => rfl)
    (fun pre W => (∃ v, Boxed W w.heap.size 34 v ∧ OwnP W (w.heap.size + 1) v (sel pre)) ∧ Below w.heap.size w W)
    (fun _ _ _ => False)
    (OwnFrom.and (fun pre A B row hs hg hr => by
      obtain ⟨v, h1, h2⟩ := hs
      exact ⟨v, grownBy_cells hg (fun r e => (hr r e).2) h1, h2.grownBy hg (fun r e => (hr r e).2)⟩) (ownFrom_below (Nat.le_refl _) (by omega)))
    (fun _ _ _ _ _ hs _ _ => hs)
    ⟨⟨_, hbx6, OwnL.nil _ _ _ _ _⟩, hB6⟩
    (fun x a' W => ∃ Ba Bb, W.heap[Ba]? = some (.cells #[.int .i64 x.1.id, .int .i64 x.1.a, .int .i64 x.1.b, .int .i64 x.1.c, .int .i64 x.1.d] 39 (0, 0)) ∧ W.heap[Bb]? = some (.cells #[.int .i64 x.2.id, .int .i64 x.2.a, .int .i64 x.2.b, .int .i64 x.2.c, .int .i64 x.2.d] 39 (0, 0)) ∧
      a' = { tmps := #[v, undef, .slice none 0 0, .pointer (some ⟨w.heap.size, 0, none⟩), .pointer (some ⟨Ba, 0, none⟩), .pointer (some ⟨Bb, 0, none⟩), v, .slice pa ys.length cap, .func (.func 29) #[] #[.pointer (some ⟨w4.heap.size, 0, none⟩)],
        .agg #[.int .i64 x.1.id, .int .i64 x.1.a, .int .i64 x.1.b, .int .i64 x.1.c, .int .i64 x.1.d], .agg #[.int .i64 x.2.id, .int .i64 x.2.a, .int .i64 x.2.b, .int .i64 x.2.c, .int .i64 x.2.d], undef, undef, undef, undef, undef, undef, undef, undef, undef, undef, undef, undef, undef, undef, undef, undef, undef, undef, undef, undef, undef, undef], defers := [] })
    (fun x a' _ A B row hs hg hr => by
      obtain ⟨Ba, Bb, h1, h2, h3⟩ := hs
      exact ⟨Ba, Bb, grownBy_cells hg (fun r e => (hr r e).2) h1, grownBy_cells hg (fun r e => (hr r e).2) h2, h3⟩)
    ?assign ?body ?done ?stop
  case assign =>
    rintro l pre ⟨⟨i1, a1, b1, c1, d1⟩, ⟨i2, a2, b2, c2, d2⟩⟩ W K ⟨⟨v, h1, h2⟩, h3⟩ hK
    simp only [encEE]
    have hg := ((Grw.refl W).alloc (.cells #[.int .i64 i1, .int .i64 a1, .int .i64 b1, .int .i64 c1, .int .i64 d1] 39)).alloc (.cells #[.int .i64 i2, .int .i64 a2, .int .i64 b2, .int .i64 c2, .int .i64 d2] 39)
    have hgA := OnlyChg.of_grw hg
    have hA2 := heap_alloc_new (W.alloc (.cells #[.int .i64 i1, .int .i64 a1, .int .i64 b1, .int .i64 c1, .int .i64 d1] 39)) (.cells #[.int .i64 i2, .int .i64 a2, .int .i64 b2, .int .i64 c2, .int .i64 d2] 39)
    have hA1 := ((Grw.refl (W.alloc (.cells #[.int .i64 i1, .int .i64 a1, .int .i64 b1, .int .i64 c1, .int .i64 d1] 39))).alloc (.cells #[.int .i64 i2, .int .i64 a2, .int .i64 b2, .int .i64 c2, .int .i64 d2] 39)).block (heap_alloc_new W (.cells #[.int .i64 i1, .int .i64 a1, .int .i64 b1, .int .i64 c1, .int .i64 d1] 39))
    rw [World.size_alloc] at hA2
    gi_wp2
    exact hK _ _ (hgA.keepsFrom (by simp) _) (hgA.keepE (by simp)) ⟨⟨v, hg.block h1, h2.grw hg⟩, h3.trans (hgA.belowB h3.size (by simp))⟩ ⟨W.heap.size, W.heap.size + 1, hA1, hA2, rfl⟩
  case body =>
    rintro l pre ⟨⟨i1, a1, b1, c1, d1⟩, ⟨i2, a2, b2, c2, d2⟩⟩ a' W hl ⟨r, hr⟩ ⟨⟨v, h1, h2⟩, h3⟩ ⟨Ba, Bb, ha, hb, rfl⟩ hlt
    have x0 := cell_of_block ha 0
    have x1 := cell_of_block ha 1
    have x2 := cell_of_block ha 2
    have x3 := cell_of_block ha 3
    have x4 := cell_of_block ha 4
    have y0 := cell_of_block hb 0
    have y1 := cell_of_block hb 1
    have y2 := cell_of_block hb 2
    have y3 := cell_of_block hb 3
    have y4 := cell_of_block hb 4
    simp only [Array.getElem?_eq_getElem, List.size_toArray, List.length_cons, List.length_nil, Nat.reduceAdd, Nat.reduceLT, List.getElem_toArray, List.getElem_cons_zero, List.getElem_cons_succ] at x0 x1 x2 x3 x4 y0 y1 y2 y3 y4
    have hbl := h1.cell
    have hbf := h1.frozen
    have hov := Overlaps_any a1 b1 c1 d1 a2 b2 c2 d2 W
    have hsel := sel_snoc pre (⟨i1, a1, b1, c1, d1⟩, ⟨i2, a2, b2, c2, d2⟩)
    gi_wp2
    refine ⟨trivial, (CallsIn.inRound l (callsIn_wide.2 hov)).mono ?_⟩
    rintro e w2 ⟨rfl, hg2⟩
    have ha2 := hg2.block ha
    have hb2 := hg2.block hb
    have x0 := hg2.cell x0
    have y0 := hg2.cell y0
    have h1' : Boxed w2 w.heap.size 34 v := hg2.block h1
    have h2' := h2.grw hg2
    have hbl := h1'.cell
    have hbf := h1'.frozen
    have hG := OnlyChg.of_grw hg2
    have hB2 := h3.trans (hG.belowB h3.size (by simp))
    have HB2 := Lib.hid hB2
    have HG := Lib.hid hG
    have HO := Lib.hid h2'
    have HX := Lib.hid h1'
    have hplen : (sel pre).length ≤ 20000000000 := by
      have h4 := sel_len pre
      have h5 := nbr_len ys
      have h6 : ys.length * ys.length ≤ 30000 * 30000 := Nat.mul_le_mul hyl hyl
      omega
    have hs2 : w.heap.size + 1 ≤ w2.heap.size := h1'.lt
    have HS := Lib.hid hsel
    clear hov h1 h2 h3 ha hb ha2 hb2 hsel h1' h2' hG hB2 hg2 x1 x2 x3 x4 y1 y2 y3 y4
    cases hβ : (validB a1 b1 c1 d1 && validB a2 b2 c2 d2 && ovB a1 b1 c1 d1 a2 b2 c2 d2)
    · have HS2 : Hid (sel (pre ++ [(⟨i1, a1, b1, c1, d1⟩, ⟨i2, a2, b2, c2, d2⟩)]) = sel pre) := by
        have := HS.out
        simp only [hβ, if_false, Bool.false_eq_true, List.append_nil] at this
        exact this
      gi_wp2
      exact ⟨HG.out.keepsFrom (by simp) _, HG.out.keepE (by simp), ⟨v, HX.out, by rw [HS2.out]; exact HO.out⟩, HB2.out⟩
    · have HS2 : Hid (sel pre ++ [(min i1 i2, max i1 i2)] = sel (pre ++ [(⟨i1, a1, b1, c1, d1⟩, ⟨i2, a2, b2, c2, d2⟩)])) := by
        have := HS.out
        simp only [hβ, if_true] at this
        exact this.symm
      gi_wp2_with (gi_at_builtin; refine wpListIn_push (enc := encP) (z := .agg #[.int .i64 0, .int .i64 0]) (size := 2) (bytes := 16) (fun _ => rfl) (by simp [encP, Value.oneCell']) (w.heap.size + 1) rfl _ _ rfl Try.underlying34 info56 rfl (by decide) (by decide) v _ (min i1 i2, max i1 i2) _ rfl rfl rfl HO.out hs2 (by omega) ?_; rintro v1 w7 hO7 hC7 ⟨g7, k7, rfl⟩; have hx7 : Boxed w7 w.heap.size 34 v := (hC7.block _ (by omega) (fun e => by have := (HO.out.base_le _ e).1; omega)).trans HX.out; have hb7 := hx7.cell; have hf7 := hx7.frozen)
      have O2 : OnlyChg (fun k => k = w.heap.size ∨ v.ownBlock = some k) w2 (w7.setCell ⟨w.heap.size, 0, none⟩ (.slice (some ⟨g7, 0, none⟩) ((sel pre).length + 1) k7)) := (hC7.mono fun _ _ h => .inr h).set (.inl rfl) _
      have tagS : ∀ k o, (k = w.heap.size ∨ v.ownBlock = some k) → w2.heap[k]? = some o → ∃ cs t, o = .cells cs t (0, 0) ∧ (t = 34 ∨ t = 56) := by
        rintro k o (rfl | hk) ho
        · have := HX.out; unfold Boxed at this; rw [this] at ho; cases ho; exact ⟨_, _, rfl, .inl rfl⟩
        · obtain ⟨cur, hcur⟩ := HO.out.tag hk; rw [hcur] at ho; cases ho; exact ⟨_, _, rfl, .inr rfl⟩
      refine ⟨(HG.out.keepsFrom (by simp) _).trans (O2.keepsFrom (fun k o hk ho => by obtain ⟨cs, t, rfl, _⟩ := tagS k o hk ho; rfl) _), (HG.out.keepE (by simp)).trans (O2.keepE (fun k cs t fr hk ho => by obtain ⟨cs', t', e, ht⟩ := tagS k _ hk ho; cases e; rcases ht with rfl | rfl <;> decide)), ⟨.slice (some ⟨g7, 0, none⟩) ((sel pre).length + 1) k7, ?_, ?_⟩, HB2.out.trans (O2.belowB (by omega) ?_)⟩
      · unfold Boxed
        rw [heap_setCell_same w7 w.heap.size 0 _ 34 _ hx7]; rfl
      · rw [← HS2.out]
        exact hO7.keep (OnlyChg.set (OnlyChg.refl (fun k => k = w.heap.size) w7) rfl _) (fun q hq e => by have := (hO7.base_le q hq).1; omega)
      · rintro k (rfl | hk)
        · exact Nat.le_refl _
        · have := (HO.out.base_le k hk).1; omega
  case done =>
    rintro D zs W hD rfl ⟨⟨v, h1, h2⟩, h3⟩ hK
    have hbl := h1.cell
    have hbf := h1.frozen
    gi_wp2
    have hzl : (sel (nbr ys)).length ≤ 1000000000 := by
      have h4 := sel_len (nbr ys)
      have h5 := nbr_len ys
      have h6 : ys.length * ys.length ≤ 30000 * 30000 := Nat.mul_le_mul hyl hyl
      omega
    refine ⟨trivial, (callsIn_wide.2 (sortP_any h2 (by omega))).mono ?_⟩
    rintro e w8 ⟨rfl, zs, hp8, hs8, hO8, hC8⟩
    have hD8 : w8.heap[D]? = some (.deferred (some [])) := (hC8.block D (Array.getElem?_eq_some_iff.1 hK).1 (fun e => by obtain ⟨cur, hcur⟩ := h2.tag e; rw [hK] at hcur; cases hcur)).trans hK
    have hx8 : Boxed w8 w.heap.size 34 v := (hC8.block _ h1.lt (fun e => by have := (h2.base_le _ e).1; omega)).trans h1
    have hbl := hx8.cell
    have hbf := hx8.frozen
    gi_wp2
    have hB8 := h3.trans (hC8.belowB h3.size (fun k hk => by have := (h2.base_le k hk).1; omega))
    refine ⟨by simp, .inl ⟨_, _, rfl, run_takeDeferred hD8, ?_⟩⟩
    exact ⟨_, results_tmp rfl _ _ _, v, ys, zs, rfl, (hO8.rebase (by omega)).grownBy (grownBy_putObj' w8 D _) (fun r e => by cases e; exact ⟨_, hD8, rfl⟩), hp, hs, hp8, hB8.trans (belowK_b (w := w) (Nat.le_refl _) w8 D _ _ (by omega) hD8 rfl rfl)⟩
  case stop =>
    rintro D c pre W _ _ h _
    exact h.elim

end Go.Proofs.Ytbnfngelkaembaa
