/- The contracts of Update and Remove of package bvh; their conditions: the keys are 64-bit integers. -/
import Derived.Test.YtbnfngelkaembaaA11
namespace Go.Proofs.Ytbnfngelkaembaa
open Go.RowKit Go.Sort

set_option maxRecDepth 100000 in
set_option maxHeartbeats 1000000 in
theorem upd_bad (t mb : Nat) (o : Option T) (l : List (Int × Nat)) (id a b c d : Int) (w : World) (H : Bvh w t mb o l) (hwf : (Lit.int .i64 id).wf = true) (hv : validB a b c d = false) :
    Calls Try.prog 13 #[.pointer (some ⟨t, 0, none⟩), .int .i64 id, .agg #[.int .i64 a, .int .i64 b, .int .i64 c, .int .i64 d]] w fun e w' => e = .returned (.int .i64 2) ∧ Grw w w' := by
  clear H hwf
  go_enter Try.func13, Try.ntmps13
  go_wp2_with (go_at_call 23; refine (valid_any _ _ _ _ _).mono ?_; rintro e w1 ⟨rfl, hg⟩; (try replace hg := Grw.trans (by assumption) hg); obtain ⟨hc, hf⟩ := hg.cells; have hz := hg.size)
  go_ret
  exact ⟨rfl, by (repeat (first | exact Grw.refl _ | assumption | refine Grw.trans ?_ (by assumption) | refine Grw.alloc ?_ _ | refine Grw.drewN ?_ _ | refine Grw.drew ?_ | refine Grw.setAt ?_ (by first | omega | (simp; omega) | (simp; done)) _))⟩

set_option maxRecDepth 100000 in
set_option maxHeartbeats 1000000 in
theorem upd_miss (t mb : Nat) (o : Option T) (l : List (Int × Nat)) (id a b c d : Int) (w : World) (H : Bvh w t mb o l) (hwf : (Lit.int .i64 id).wf = true) (hv : validB a b c d = true) (hp : ∀ x ∈ l, x.1 ≠ id) :
    Calls Try.prog 13 #[.pointer (some ⟨t, 0, none⟩), .int .i64 id, .agg #[.int .i64 a, .int .i64 b, .int .i64 c, .int .i64 d]] w fun e w' => e = .returned (.int .i64 8) ∧ Grw w w' := by
  have HH := Lib.hid H
  have HP := Lib.hid hp
  obtain ⟨r, hr⟩ := H.tree.at
  have t1 := hr.facts.2
  clear H hp hr
  have HW := Lib.hid hwf
  clear hwf
  go_enter Try.func13, Try.ntmps13
  go_wp2_with fail
  refine (valid_any _ _ _ _ _).mono ?_
  rintro e w1 ⟨rfl, hg⟩
  have hg' := ((Grw.refl w).alloc _).trans hg
  have hlook := (HH.out.map.grw hg').look_no Try.underlying43 (z := .pointer none) (fun _ => by kernel_rfl) HW.out HP.out true
  have t1' := hg'.cell t1
  simp only [if_true] at hlook
  clear t1 hg
  go_wp2_with fail
  go_ret
  exact ⟨rfl, hg'⟩

set_option maxRecDepth 100000 in
set_option maxHeartbeats 1000000 in
theorem rem_miss (t mb : Nat) (o : Option T) (l : List (Int × Nat)) (id : Int) (w : World) (H : Bvh w t mb o l) (hwf : (Lit.int .i64 id).wf = true) (hp : ∀ x ∈ l, x.1 ≠ id) :
    Calls Try.prog 14 #[.pointer (some ⟨t, 0, none⟩), .int .i64 id] w fun e w' => e = .returned (.bool false) ∧ w = w' := by
  obtain ⟨r, hr⟩ := H.tree.at
  have t1 := hr.facts.2
  have hlook := H.map.look_no Try.underlying43 (z := .pointer none) (fun _ => by kernel_rfl) hwf hp true
  simp only [if_true] at hlook
  clear H hp hr hwf
  go_enter Try.func14, Try.ntmps14
  go_wp2_with fail
  go_ret
  exact ⟨rfl, rfl⟩

theorem Bvh.leafOf {w : World} {t mb : Nat} {o : Option T} {l : List (Int × Nat)} (h : Bvh w t mb o l) {id : Int} {p : Nat} (hp : (id, p) ∈ l) : ∃ S x, o = some S ∧ x ∈ S.leaves ∧ x.id = id ∧ x.p = p := by
  have := h.same.mem_iff.1 hp
  obtain ⟨y, hy, he⟩ := List.mem_map.1 this
  simp only [Prod.mk.injEq] at he
  cases o with
  | none => simp [oLeaves] at hy
  | some S => exact ⟨S, y, rfl, hy, he.1, he.2⟩
theorem T.leaf_mem {x : Lf} : ∀ {S : T}, x ∈ S.leaves → x.p ∈ S.nodes
  | .leaf y, h => by simp only [T.leaves, List.mem_singleton] at h; subst h; simp [T.nodes]
  | .node p l r, h => by
    simp only [T.leaves, List.mem_append] at h
    simp only [T.nodes, List.mem_cons, List.mem_append]
    rcases h with h | h
    · exact .inr (.inl (T.leaf_mem h))
    · exact .inr (.inr (T.leaf_mem h))

set_option maxRecDepth 100000 in
set_option maxHeartbeats 1000000 in
theorem upd_ok (t mb : Nat) (o : Option T) (l : List (Int × Nat)) (id a b c d : Int) (w : World) (H : Bvh w t mb o l) (hwf : (Lit.int .i64 id).wf = true) (hv : validB a b c d = true) (p : Nat) (hp : (id, p) ∈ l) :
    Calls Try.prog 13 #[.pointer (some ⟨t, 0, none⟩), .int .i64 id, .agg #[.int .i64 a, .int .i64 b, .int .i64 c, .int .i64 d]] w fun e w' => e = .returned (.int .i64 0) ∧ ∃ (o' : Option T) (x : Lf) (Rm : List Lf), Bvh w' t mb o' l ∧ x.id = id ∧
      (oLeaves o).Perm (x :: Rm) ∧ (oLeaves o').Perm (⟨p, id, a, b, c, d⟩ :: Rm) ∧ (∀ q ∈ oNodes o', q ∈ oNodes o ∨ w.heap.size ≤ q) ∧ OnlyChg (fun i => i ∈ t :: mb :: oNodes o) w w' := by
  obtain ⟨S, x, rfl, hx, hxi, hxp⟩ := H.leafOf hp
  have HH := Lib.hid H
  have HP := Lib.hid hp
  have HV := Lib.hid hv
  obtain ⟨r, hr⟩ := H.tree.at
  have t1 := hr.facts.2
  have lt := hr.lt
  clear H hp hr hwf
  go_enter Try.func13, Try.ntmps13
  go_wp2_with fail
  refine (valid_any _ _ _ _ _).mono ?_
  rintro e w1 ⟨rfl, hg⟩
  have hg' := ((Grw.refl w).alloc _).trans hg
  have b0 : w1.cell? ⟨w.heap.size, 0, none⟩ = some (.int .i64 a) := hg.cell (cell_of_block (heap_alloc_new w _) 0)
  have b1 : w1.cell? ⟨w.heap.size, 1, none⟩ = some (.int .i64 b) := hg.cell (cell_of_block (heap_alloc_new w _) 1)
  have b2 : w1.cell? ⟨w.heap.size, 2, none⟩ = some (.int .i64 c) := hg.cell (cell_of_block (heap_alloc_new w _) 2)
  have b3 : w1.cell? ⟨w.heap.size, 3, none⟩ = some (.int .i64 d) := hg.cell (cell_of_block (heap_alloc_new w _) 3)
  have hlook := (HH.out.map.grw hg').look_yes Try.underlying43 HH.out.ids HP.out
  unfold ptrE at hlook
  have t1' := hg'.cell t1
  have hlt := HH.out.lt
  have hnd := HH.out.nd
  have hnd2 := hnd
  simp only [oNodes, List.nodup_cons, List.mem_cons, not_or] at hnd2
  obtain ⟨⟨n1, n2⟩, n3, n4⟩ := hnd2
  have B1 := HH.out.grw hg'
  have D := detach_any t (some mb) S x w1 B1.tree.1 B1.tree.2 hx (List.nodup_cons.2 ⟨n2, n4⟩) HH.out.ok (by have := HH.out.nlen; simp only [oNodes] at this; omega)
  rw [hxp] at D
  have HB := Lib.hid B1
  have HG := Lib.hid hg'
  have HX := Lib.hid (And.intro hx (And.intro hxi hxp))
  have HN := Lib.hid (And.intro n1 (And.intro n2 (And.intro n3 n4)))
  have HLT := Lib.hid hlt
  have wsz : w.heap.size < w1.heap.size := by have := hg.size; simp at this; omega
  have pne : p ≠ w.heap.size := by have := hlt p (by simp only [oNodes, List.mem_cons]; exact .inr (.inr (hxp ▸ T.leaf_mem hx))); omega
  clear t1 hg hg' hlt hnd B1 hx hxi hxp n1 n2 n3 n4
  go_wp2_with fail
  refine D.mono ?_
  rintro e w2 ⟨rfl, e1, o2, E, e2, e3, e4, e5⟩
  obtain ⟨hx, hxi, hxp⟩ := HX.out
  obtain ⟨n1, n2, n3, n4⟩ := HN.out
  have hlt := HLT.out
  have wnot : ∀ q, (q = t ∨ q ∈ S.nodes) → q < w.heap.size := fun q hq => hlt q (by simp only [oNodes, List.mem_cons]; rcases hq with h | h; exact .inl h; exact .inr (.inr h))
  have wn : ¬ (w.heap.size = t ∨ w.heap.size ∈ S.nodes) := fun h => by have := wnot _ h; omega
  have c0 := (World.cell?_of_block (a := ⟨w.heap.size, 0, none⟩) (e5.block w.heap.size wsz wn)).trans b0
  have c1 := (World.cell?_of_block (a := ⟨w.heap.size, 1, none⟩) (e5.block w.heap.size wsz wn)).trans b1
  have c2 := (World.cell?_of_block (a := ⟨w.heap.size, 2, none⟩) (e5.block w.heap.size wsz wn)).trans b2
  have c3 := (World.cell?_of_block (a := ⟨w.heap.size, 3, none⟩) (e5.block w.heap.size wsz wn)).trans b3
  have ndS : (p :: (E ++ oNodes o2)).Nodup := (e4.nodup_iff).2 n4
  have e1' : NodeAt w2 p ((T.leaf x).nd none) := hxp ▸ e1
  have xf := e1'.facts
  have x0 := xf.1
  have x1 := xf.2.1
  have x2 := xf.2.2.1
  have x3 := xf.2.2.2.1
  have xfr := e1'.free
  have L3 : LeafAt ((((w2.setCell ⟨p, 0, none⟩ (.int .i64 a)).setCell ⟨p, 1, none⟩ (.int .i64 b)).setCell ⟨p, 2, none⟩ (.int .i64 c)).setCell ⟨p, 3, none⟩ (.int .i64 d)) ⟨p, id, a, b, c, d⟩ none := by
    have q1 : NodeAt ((((w2.setCell ⟨p, 0, none⟩ (.int .i64 a)).setCell ⟨p, 1, none⟩ (.int .i64 b)).setCell ⟨p, 2, none⟩ (.int .i64 c)).setCell ⟨p, 3, none⟩ (.int .i64 d)) p ⟨a, b, c, d, none, none, none, 1, x.id⟩ :=
      NodeAt.set (n := ⟨a, b, c, x.d, none, none, none, 1, x.id⟩) (NodeAt.set (n := ⟨a, b, x.c, x.d, none, none, none, 1, x.id⟩) (NodeAt.set (n := ⟨a, x.b, x.c, x.d, none, none, none, 1, x.id⟩) (NodeAt.set e1' rfl) rfl) rfl) rfl
    rw [hxi] at q1
    exact q1
  have C3 : OnlyChg (fun i => i = p) w2 ((((w2.setCell ⟨p, 0, none⟩ (.int .i64 a)).setCell ⟨p, 1, none⟩ (.int .i64 b)).setCell ⟨p, 2, none⟩ (.int .i64 c)).setCell ⟨p, 3, none⟩ (.int .i64 d)) := ((((OnlyChg.refl _ w2).set1 _).set1 _).set1 _).set1 _
  have nd2 := ndS
  simp only [List.nodup_cons, List.mem_append, not_or, List.nodup_append] at nd2
  have hpS : p ∈ S.nodes := hxp ▸ T.leaf_mem hx
  have htp : t ≠ p := by rintro rfl; exact n2 hpS
  have T3 : TreeIs ((((w2.setCell ⟨p, 0, none⟩ (.int .i64 a)).setCell ⟨p, 1, none⟩ (.int .i64 b)).setCell ⟨p, 2, none⟩ (.int .i64 c)).setCell ⟨p, 3, none⟩ (.int .i64 d)) t (some mb) o2 := e2.keep C3 htp (fun q hq e => nd2.1.2 (e ▸ hq))
  have hsub : ∀ q ∈ oNodes o2, q ∈ S.nodes := fun q hq => e4.mem_iff.1 (by simp [hq])
  have F := attach_any t mb o2 ⟨p, id, a, b, c, d⟩ none _ T3 L3 (List.nodup_cons.2 ⟨by simp only [List.mem_cons, not_or]; exact ⟨htp, fun h => n2 (hsub _ h)⟩, List.nodup_cons.2 ⟨nd2.1.2, nd2.2.2.1⟩⟩)
    (fun y hy => HH.out.ok y (e3.mem_iff.1 (by simp [hy]))) HV.out (by have h1 := e4.length_eq; have h2 := HH.out.nlen; simp only [List.length_cons, List.length_append] at h1; have h3 : S.nodes.length ≤ 8192 := h2; omega)
  have M3 : Hid (MapIs ptrE ((((w2.setCell ⟨p, 0, none⟩ (.int .i64 a)).setCell ⟨p, 1, none⟩ (.int .i64 b)).setCell ⟨p, 2, none⟩ (.int .i64 c)).setCell ⟨p, 3, none⟩ (.int .i64 d)) mb l) := (HB.out.map.keep e5 (fun h => h.elim (fun e => n1 e.symm) (fun h => n3 h))).keep C3 (fun e => n3 (e ▸ hpS))
  have HE3 := Lib.hid e3
  have HE4 := Lib.hid e4
  have HE5 := Lib.hid (e5.trans (C3.mono (S' := fun i => i = t ∨ i ∈ S.nodes) fun i _ hi => .inr (by have e' : i = p := hi; exact e' ▸ hpS)))
  have HND := Lib.hid nd2
  have HPS := Lib.hid hpS
  have HSUB := Lib.hid hsub
  have HE1 : Hid (x.id = id) := hxi
  clear b0 b1 b2 b3 t1' hlook D e1 e2 e3 e4 e5 hx hxi hxp n1 n2 n3 n4 hlt wnot wn ndS e1' xf L3 T3 nd2 hpS hsub C3 htp
  go_wp2_with fail
  refine F.mono ?_
  rintro e w4 ⟨rfl, o', E2, f1, f2, f3, f4, f5, f6⟩
  have FIN : Hid (∃ (o' : Option T) (x : Lf) (Rm : List Lf), Bvh w4 t mb o' l ∧ x.id = id ∧ (oLeaves (some S)).Perm (x :: Rm) ∧ (oLeaves o').Perm (⟨p, id, a, b, c, d⟩ :: Rm) ∧ (∀ q ∈ oNodes o', q ∈ oNodes (some S) ∨ w.heap.size ≤ q) ∧ OnlyChg (fun i => i ∈ t :: mb :: oNodes (some S)) w w4) := by
    obtain ⟨hx, hxi, hxp⟩ := HX.out
    obtain ⟨n1, n2, n3, n4⟩ := HN.out
    have hlt := HLT.out
    have hpS := HPS.out
    have hsub := HSUB.out
    obtain ⟨⟨m1, m2⟩, m3, m4, m5⟩ := HND.out
    have s1 := HG.out.size
    have s2 := HE5.out.size
    have big : ∀ q ∈ E2, w.heap.size ≤ q := fun q hq => by have := f1 q hq; omega
    have small : ∀ q ∈ S.nodes, q < w.heap.size := fun q hq => hlt q (by simp only [oNodes, List.mem_cons]; exact .inr (.inr hq))
    have lt1 := hlt t (by simp)
    have lt2 := hlt mb (by simp)
    refine ⟨o', x, oLeaves o2, ⟨f2, M3.out.keep f6 ?_, ?_, ?_, HH.out.ids, ?_, HH.out.len⟩, hxi, HE3.out.symm, f3, ?_, ?_⟩
    · rintro (e | e | e)
      · exact n1 e.symm
      · exact n3 (show mb ∈ S.nodes from (show mb = p from e) ▸ hpS)
      · exact n3 (hsub _ e)
    · refine HH.out.same.trans ?_
      refine List.Perm.trans ?_ (f3.map fun y => (y.id, y.p)).symm
      refine (HE3.out.map fun y => (y.id, y.p)).symm.trans ?_
      simp only [List.map_cons, hxi, hxp]
      exact .refl _
    · refine ((List.Perm.cons t (List.Perm.cons mb f4)).nodup_iff).2 ?_
      refine List.nodup_cons.2 ⟨?_, List.nodup_cons.2 ⟨?_, List.nodup_append.2 ⟨f5, List.nodup_cons.2 ⟨m2, m4⟩, ?_⟩⟩⟩
      · intro hq
        simp only [List.mem_cons, List.mem_append] at hq
        rcases hq with h | h | h | h
        · exact n1 h
        · have := big _ h; omega
        · exact n2 (h ▸ hpS)
        · exact n2 (hsub _ h)
      · intro hq
        simp only [List.mem_cons, List.mem_append] at hq
        rcases hq with h | h | h
        · have := big _ h; omega
        · exact n3 (h ▸ hpS)
        · exact n3 (hsub _ h)
      · intro q hq z hz e
        subst e
        have h1 := big _ hq
        simp only [List.mem_cons] at hz
        rcases hz with h | h
        · have := small _ hpS; omega
        · have := small _ (hsub _ h); omega
    · intro y hy
      have := f3.mem_iff.1 hy
      simp only [List.mem_cons] at this
      rcases this with rfl | this
      · exact HV.out
      · exact HH.out.ok y (HE3.out.mem_iff.1 (by simp [this]))
    · intro q hq
      have := f4.mem_iff.1 hq
      simp only [List.mem_append, List.mem_cons] at this
      rcases this with h | h | h
      · exact .inr (big _ h)
      · exact .inl (show q ∈ S.nodes from h ▸ hpS)
      · exact .inl (hsub _ h)
    · refine (((OnlyChg.refl (fun i => i ∈ t :: mb :: oNodes (some S)) w).grw HG.out).trans (HE5.out.mono fun i _ hi => ?_)).trans (f6.mono fun i _ hi => ?_)
      · rcases hi with e | e
        · simp [e]
        · simp [oNodes, e]
      · rcases hi with e | e | e
        · simp [e]
        · have e' : i = p := e
          simp [oNodes, e', hpS]
        · have := hsub _ e
          simp [oNodes, this]
  clear f1 f2 f3 f4 f5 f6 F
  go_wp2_with fail
  go_ret
  exact ⟨rfl, FIN.out⟩

set_option maxRecDepth 100000 in
set_option maxHeartbeats 1000000 in
theorem rem_ok (t mb : Nat) (o : Option T) (l : List (Int × Nat)) (id : Int) (w : World) (H : Bvh w t mb o l) (hwf : (Lit.int .i64 id).wf = true) (p : Nat) (hp : (id, p) ∈ l) :
    Calls Try.prog 14 #[.pointer (some ⟨t, 0, none⟩), .int .i64 id] w fun e w' => e = .returned (.bool true) ∧ ∃ (o' : Option T) (x : Lf), Bvh w' t mb o' (l.filter (fun x => x.1 != id)) ∧ x.id = id ∧
      (oLeaves o).Perm (x :: oLeaves o') ∧ (∀ q ∈ oNodes o', q ∈ oNodes o) ∧ OnlyChg (fun i => i ∈ t :: mb :: oNodes o) w w' := by
  obtain ⟨S, x, rfl, hx, hxi, hxp⟩ := H.leafOf hp
  have HH := Lib.hid H
  have HP := Lib.hid hp
  obtain ⟨r, hr⟩ := H.tree.at
  have t1 := hr.facts.2
  have lt := hr.lt
  have hlook := H.map.look_yes Try.underlying43 H.ids hp
  unfold ptrE at hlook
  have hlt := H.lt
  have hnd := H.nd
  simp only [oNodes, List.nodup_cons, List.mem_cons, not_or] at hnd
  obtain ⟨⟨n1, n2⟩, n3, n4⟩ := hnd
  have D := detach_any t (some mb) S x w H.tree.1 H.tree.2 hx (List.nodup_cons.2 ⟨n2, n4⟩) H.ok (by have := H.nlen; simp only [oNodes] at this; omega)
  rw [hxp] at D
  have HX := Lib.hid (And.intro hx (And.intro hxi hxp))
  have HN := Lib.hid (And.intro n1 (And.intro n2 (And.intro n3 n4)))
  clear H hp hr hwf hlt hx hxi hxp n1 n2 n3 n4
  go_enter Try.func14, Try.ntmps14
  go_wp2_with fail
  refine D.mono ?_
  rintro e w2 ⟨rfl, _, o2, E, e2, e3, e4, e5⟩
  obtain ⟨hx, hxi, hxp⟩ := HX.out
  obtain ⟨n1, n2, n3, n4⟩ := HN.out
  have M2 := HH.out.map.keep e5 (fun h => h.elim (fun e => n1 e.symm) (fun h => n3 h))
  obtain ⟨r2, hr2⟩ := e2.at
  have t2 := hr2.facts.2
  have hdel : ∃ w3, (∀ ty, (Builtin.delete_ #[43, 3] ty #[.map (some mb), .int .i64 id]).run Try.prog w2 = .ok (.tuple #[]) w3) ∧ MapIs ptrE w3 mb (l.filter (fun x => x.1 != id)) ∧ OnlyChg (fun k => k = mb) w2 w3 := by
    obtain ⟨w3, h1, h2, h3⟩ := M2.del Try.underlying43 0 HH.out.ids HP.out
    exact ⟨w3, fun ty => h1, h2, h3⟩
  obtain ⟨w3, hd, hm3, hc3⟩ := hdel
  have ndS : (p :: (E ++ oNodes o2)).Nodup := (e4.nodup_iff).2 n4
  have nd2 := ndS
  simp only [List.nodup_cons, List.mem_append, not_or, List.nodup_append] at nd2
  have hsub : ∀ q ∈ oNodes o2, q ∈ S.nodes := fun q hq => e4.mem_iff.1 (by simp [hq])
  have FIN : Hid (∃ (o' : Option T) (x : Lf), Bvh w3 t mb o' (l.filter (fun x => x.1 != id)) ∧ x.id = id ∧ (oLeaves (some S)).Perm (x :: oLeaves o') ∧ (∀ q ∈ oNodes o', q ∈ oNodes (some S)) ∧ OnlyChg (fun i => i ∈ t :: mb :: oNodes (some S)) w w3) := by
    refine ⟨o2, x, ⟨e2.keep hc3 n1 (fun q hq e => n3 ((show q = mb from e) ▸ hsub q hq)), hm3, ?_, ?_, ?_, ?_, ?_⟩, hxi, e3.symm, hsub, ?_⟩
    · have h1 := (HH.out.same.trans (e3.map fun y => (y.id, y.p)).symm).filter (fun x => x.1 != id)
      simp only [List.map_cons, hxi, List.filter_cons, bne_self_eq_false, Bool.false_eq_true, if_false] at h1
      refine h1.trans ?_
      rw [List.filter_eq_self.2]
      intro z hz
      obtain ⟨y, hy, rfl⟩ := List.mem_map.1 hz
      have h2 : ((x :: oLeaves o2).map fun y => y.id).Nodup := by
        have h3 : ((l.map (·.1)).Perm ((x :: oLeaves o2).map fun y => y.id)) := by
          refine (HH.out.same.map (·.1)).trans ?_
          rw [List.map_map]
          exact (e3.map fun y => y.id).symm
        exact (h3.nodup_iff).1 HH.out.ids
      simp only [List.map_cons, List.nodup_cons, List.mem_map, not_exists, not_and] at h2
      have h4 := h2.1 y hy
      simp only [bne_iff_ne, ne_eq]
      rw [← hxi]; exact h4
    · refine List.nodup_cons.2 ⟨?_, List.nodup_cons.2 ⟨fun h => n3 (hsub _ h), nd2.2.2.1⟩⟩
      simp only [List.mem_cons, not_or]
      exact ⟨n1, fun h => n2 (hsub _ h)⟩
    · exact List.Nodup.sublist ((List.filter_sublist).map _) HH.out.ids
    · intro y hy; exact HH.out.ok y (e3.mem_iff.1 (by simp [hy]))
    · exact Nat.le_trans (List.length_filter_le _ _) HH.out.len
    · refine (e5.mono fun i _ hi => ?_).trans (hc3.mono fun i _ hi => by simp [show i = mb from hi])
      rcases hi with e | e
      · simp [e]
      · simp [oNodes, e]
  clear D e2 e3 e4 e5 hx hxi hxp n1 n2 n3 n4 M2 hr2 hm3 hc3 ndS nd2 hsub hlook t1
  go_wp2_with fail
  go_ret
  exact ⟨rfl, FIN.out⟩

end Go.Proofs.Ytbnfngelkaembaa
