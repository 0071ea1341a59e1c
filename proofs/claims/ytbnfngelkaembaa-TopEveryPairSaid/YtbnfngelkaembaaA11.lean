/- The contracts of New, Insert, Update, Remove and Len of package bvh over the tree and its map; their conditions: the keys are 64-bit integers. -/
import Derived.Test.YtbnfngelkaembaaA10
namespace Go.Proofs.Ytbnfngelkaembaa
open Go.RowKit Go.Sort

def ptrE (p : Nat) : Value := .pointer (some ⟨p, 0, none⟩)

/-- a hierarchy: the tree at block t, its map at block mb, the leaves being l's -/
structure Bvh (w : World) (t mb : Nat) (o : Option T) (l : List (Int × Nat)) : Prop where
  tree : TreeIs w t (some mb) o
  map : MapIs ptrE w mb l
  same : l.Perm ((oLeaves o).map fun y => (y.id, y.p))
  nd : (t :: mb :: oNodes o).Nodup
  ids : (l.map (·.1)).Nodup
  ok : ∀ y ∈ oLeaves o, validB y.a y.b y.c y.d = true
  len : l.length ≤ 4096

theorem T.len : ∀ S : T, S.nodes.length + 1 = 2 * S.leaves.length
  | .leaf _ => rfl
  | .node _ l r => by have := T.len l; have := T.len r; simp only [T.nodes, T.leaves, List.length_cons, List.length_append]; omega
theorem TreeIs.at {w : World} {t : Nat} {m : Option Nat} : ∀ {o : Option T}, TreeIs w t m o → ∃ r, TreeAt w t r m
  | none, h => ⟨none, h⟩
  | some _, h => ⟨_, h.2⟩
theorem TreeIs.keep {S : Nat → Prop} {w w' : World} {t : Nat} {m : Option Nat} (hc : OnlyChg S w w') (ht : ¬ S t) : ∀ {o : Option T}, TreeIs w t m o → (∀ p ∈ oNodes o, ¬ S p) → TreeIs w' t m o
  | none, h, _ => TreeAt.keep h hc ht
  | some _, h, hs => ⟨h.1.keep hc hs, h.2.keep hc ht⟩
theorem TreeIs.grw {w w' : World} {t : Nat} {m : Option Nat} {o : Option T} (h : TreeIs w t m o) (hg : Grw w w') : TreeIs w' t m o := h.keep (OnlyChg.of_grw hg) (by simp) (by simp)
theorem Bvh.grw {w w' : World} {t mb : Nat} {o : Option T} {l : List (Int × Nat)} (h : Bvh w t mb o l) (hg : Grw w w') : Bvh w' t mb o l :=
  ⟨h.tree.grw hg, h.map.grw hg, h.same, h.nd, h.ids, h.ok, h.len⟩
theorem Bvh.keep {S : Nat → Prop} {w w' : World} {t mb : Nat} {o : Option T} {l : List (Int × Nat)} (h : Bvh w t mb o l) (hc : OnlyChg S w w') (hs : ∀ p ∈ t :: mb :: oNodes o, ¬ S p) : Bvh w' t mb o l :=
  ⟨h.tree.keep hc (hs _ (by simp)) (fun p hp => hs p (by simp [hp])), h.map.keep hc (hs _ (by simp)), h.same, h.nd, h.ids, h.ok, h.len⟩
theorem Bvh.nlen {w : World} {t mb : Nat} {o : Option T} {l : List (Int × Nat)} (h : Bvh w t mb o l) : (oNodes o).length ≤ 8192 := by
  have h1 := h.same.length_eq
  have h2 := h.len
  cases o with
  | none => simp [oNodes]
  | some S => have := T.len S; simp only [oLeaves, oNodes, List.length_map] at h1 ⊢; omega
theorem Bvh.lt {w : World} {t mb : Nat} {o : Option T} {l : List (Int × Nat)} (h : Bvh w t mb o l) : ∀ p ∈ t :: mb :: oNodes o, p < w.heap.size := by
  intro p hp
  simp only [List.mem_cons] at hp
  obtain ⟨r, hr⟩ := h.tree.at
  rcases hp with rfl | rfl | hp
  · exact hr.lt
  · exact h.map.lt
  · cases o with
    | none => simp [oNodes] at hp
    | some S => exact h.tree.1.lt p hp

set_option maxHeartbeats 400000 in
theorem new_any (w : World) : Calls Try.prog 4 #[] w fun e w' => ∃ t mb, e = .returned (.pointer (some ⟨t, 0, none⟩)) ∧ w.heap.size ≤ t ∧ w.heap.size ≤ mb ∧ Bvh w' t mb none [] ∧ Grw w w' := by
  have hmm := @run_makeMap Try.prog
  go_enter Try.func4, Try.ntmps4
  go_wp2_with fail
  go_ret
  have h1 := (MapIs.made ptrE w).grw ((Grw.refl _).alloc (.cells #[.pointer none, .map (some w.heap.size)] 46))
  refine ⟨w.heap.size + 1, w.heap.size, rfl, by omega, by omega, ⟨?_, h1, by simp [oLeaves], by simp [oNodes], by simp, by simp [oLeaves], by simp⟩, ((Grw.refl _).alloc _).alloc _⟩
  show TreeAt _ _ none _
  have := heap_alloc_new (w.alloc (.map #[] 0)) (.cells #[.pointer none, .map (some w.heap.size)] 46)
  simpa [TreeAt, ptrV] using this

set_option maxHeartbeats 400000 in
theorem len_any (t mb : Nat) (o : Option T) (l : List (Int × Nat)) (w : World) (h : Bvh w t mb o l) : Calls Try.prog 9 #[.pointer (some ⟨t, 0, none⟩)] w fun e w' => e = .returned (.int .i64 l.length) ∧ w = w' := by
  obtain ⟨r, hr⟩ := h.tree.at
  have t1 := hr.facts.2
  have hlen := fun ty => h.map.len Try.underlying43 ty
  clear h hr
  go_enter Try.func9, Try.ntmps9
  go_wp2_with fail
  go_ret
  exact ⟨rfl, rfl⟩

set_option maxHeartbeats 1000000 in
theorem ins_bad (t mb : Nat) (o : Option T) (l : List (Int × Nat)) (id a b c d : Int) (w : World) (H : Bvh w t mb o l) (hwf : (Lit.int .i64 id).wf = true) (hv : validB a b c d = false) :
    Calls Try.prog 12 #[.pointer (some ⟨t, 0, none⟩), .int .i64 id, .agg #[.int .i64 a, .int .i64 b, .int .i64 c, .int .i64 d]] w fun e w' => e = .returned (.int .i64 2) ∧ Grw w w' := by
  clear H hwf
  go_enter Try.func12, Try.ntmps12
  go_wp2_with (go_at_call 23; refine (valid_any _ _ _ _ _).mono ?_; rintro e w1 ⟨rfl, hg⟩; (try replace hg := Grw.trans (by assumption) hg); obtain ⟨hc, hf⟩ := hg.cells; have hz := hg.size)
  go_ret
  exact ⟨rfl, by (repeat (first | exact Grw.refl _ | assumption | refine Grw.trans ?_ (by assumption) | refine Grw.alloc ?_ _ | refine Grw.drewN ?_ _ | refine Grw.drew ?_ | refine Grw.setAt ?_ (by first | omega | (simp; omega) | (simp; done)) _))⟩

set_option maxHeartbeats 1000000 in
theorem ins_dup (t mb : Nat) (o : Option T) (l : List (Int × Nat)) (id a b c d : Int) (w : World) (H : Bvh w t mb o l) (hwf : (Lit.int .i64 id).wf = true) (hv : validB a b c d = true) (p : Nat) (hp : (id, p) ∈ l) :
    Calls Try.prog 12 #[.pointer (some ⟨t, 0, none⟩), .int .i64 id, .agg #[.int .i64 a, .int .i64 b, .int .i64 c, .int .i64 d]] w fun e w' => e = .returned (.int .i64 7) ∧ Grw w w' := by
  have HH := Lib.hid H
  have HP := Lib.hid hp
  obtain ⟨r, hr⟩ := H.tree.at
  have t1 := hr.facts.2
  have lt := hr.lt
  have ltz : t < w.heap.size + 1 := by omega
  have tne : t ≠ w.heap.size := by omega
  clear H hwf hp hr
  go_enter Try.func12, Try.ntmps12
  go_wp2_with fail
  refine (valid_any _ _ _ _ _).mono ?_
  rintro e w1 ⟨rfl, hg⟩
  have hg' := ((Grw.refl w).alloc _).trans hg
  have hlook := (HH.out.map.grw hg').look_yes Try.underlying43 HH.out.ids HP.out
  have t1' := hg'.cell t1
  unfold ptrE at hlook
  clear t1 hg
  go_wp2_with fail
  go_ret
  exact ⟨rfl, hg'⟩

set_option maxHeartbeats 1000000 in
theorem ins_full (t mb : Nat) (o : Option T) (l : List (Int × Nat)) (id a b c d : Int) (w : World) (H : Bvh w t mb o l) (hwf : (Lit.int .i64 id).wf = true) (hv : validB a b c d = true) (hp : ∀ x ∈ l, x.1 ≠ id) (hf : 4096 ≤ l.length) :
    Calls Try.prog 12 #[.pointer (some ⟨t, 0, none⟩), .int .i64 id, .agg #[.int .i64 a, .int .i64 b, .int .i64 c, .int .i64 d]] w fun e w' => e = .returned (.int .i64 9) ∧ Grw w w' := by
  have HH := Lib.hid H
  have HP := Lib.hid hp
  obtain ⟨r, hr⟩ := H.tree.at
  have t1 := hr.facts.2
  have lt := hr.lt
  have hf' : (4096 : Int) ≤ (l.length : Int) := by omega
  clear H hp hr hf
  have HW := Lib.hid hwf
  clear hwf
  go_enter Try.func12, Try.ntmps12
  go_wp2_with fail
  refine (valid_any _ _ _ _ _).mono ?_
  rintro e w1 ⟨rfl, hg⟩
  have hg' := ((Grw.refl w).alloc _).trans hg
  have hlook := (HH.out.map.grw hg').look_no Try.underlying43 (z := .pointer none) (fun _ => by kernel_rfl) HW.out HP.out true
  have hlen := fun ty => (HH.out.map.grw hg').len Try.underlying43 ty
  have t1' := hg'.cell t1
  simp only [if_true] at hlook
  clear t1 hg
  go_wp2_with fail
  go_ret
  exact ⟨rfl, hg'⟩


/-- attach, whether the tree is empty or not -/
theorem attach_any (t mb : Nat) (o : Option T) (x : Lf) (par : Option Nat) (w : World) (h : TreeIs w t (some mb) o) (hx : LeafAt w x par) (nd : (t :: x.p :: oNodes o).Nodup) (hok : ∀ y ∈ oLeaves o, validB y.a y.b y.c y.d = true) (hvx : validB x.a x.b x.c x.d = true) (hb : (oNodes o).length ≤ 300000) :
    Calls Try.prog 24 #[.pointer (some ⟨t, 0, none⟩), .pointer (some ⟨x.p, 0, none⟩)] w fun e w' => e = .returned (.tuple #[]) ∧ ∃ (o' : Option T) (E : List Nat), (∀ q ∈ E, w.heap.size ≤ q) ∧ TreeIs w' t (some mb) o' ∧
      (oLeaves o').Perm (x :: oLeaves o) ∧ (oNodes o').Perm (E ++ x.p :: oNodes o) ∧ E.Nodup ∧ OnlyChg (fun i => i = t ∨ i = x.p ∨ i ∈ oNodes o) w w' := by
  cases o with
  | none =>
    refine (attach_none t (some mb) x par w h hx (by simp only [List.nodup_cons, List.mem_cons, not_or] at nd; exact nd.1.1)).mono ?_
    rintro e w' ⟨h1, h2, h3, h4⟩
    exact ⟨h1, some (.leaf x), [], by simp, ⟨h2, h3⟩, by simp [oLeaves, T.leaves], by simp [oNodes, T.nodes], by simp, h4.mono fun i _ hi => hi.elim .inl (fun e => .inr (.inl e))⟩
  | some S =>
    refine (attach_some t (some mb) S x par w h.1 h.2 hx nd hok hvx hb).mono ?_
    rintro e w' ⟨h1, S', n, h2, h3, h4, h5, h6, h7⟩
    exact ⟨h1, some S', [n], by simpa using h2, ⟨h3, h4⟩, h5, by simpa [oNodes] using h6, by simp, h7⟩

set_option maxRecDepth 100000 in
set_option maxHeartbeats 1000000 in
theorem ins_ok (t mb : Nat) (o : Option T) (l : List (Int × Nat)) (id a b c d : Int) (w : World) (H : Bvh w t mb o l) (hwf : (Lit.int .i64 id).wf = true) (hv : validB a b c d = true) (hp : ∀ x ∈ l, x.1 ≠ id) (hf : l.length < 4096) :
    Calls Try.prog 12 #[.pointer (some ⟨t, 0, none⟩), .int .i64 id, .agg #[.int .i64 a, .int .i64 b, .int .i64 c, .int .i64 d]] w fun e w' => e = .returned (.int .i64 0) ∧ ∃ (o' : Option T) (p : Nat), Bvh w' t mb o' (l ++ [(id, p)]) ∧
      (oLeaves o').Perm (⟨p, id, a, b, c, d⟩ :: oLeaves o) ∧ (∀ q ∈ oNodes o', q ∈ oNodes o ∨ w.heap.size ≤ q) ∧ OnlyChg (fun i => i ∈ t :: mb :: oNodes o) w w' := by
  have HH := Lib.hid H
  have HP := Lib.hid hp
  have HV := Lib.hid hv
  obtain ⟨r, hr⟩ := H.tree.at
  have t1 := hr.facts.2
  have lt := hr.lt
  have hf' : (l.length : Int) < 4096 := by omega
  have HF := Lib.hid hf
  clear H hp hr hf
  have HW := Lib.hid hwf
  clear hwf
  have heqm := fun (x : Option Nat) (W : World) => run_eql_map_nil (P := Try.prog) W 43 3 44 x Try.underlying43
  go_enter Try.func12, Try.ntmps12
  go_wp2_with fail
  refine (valid_any _ _ _ _ _).mono ?_
  rintro e w1 ⟨rfl, hg⟩
  have hg' := ((Grw.refl w).alloc _).trans hg
  have b0 : w1.cell? ⟨w.heap.size, 0, none⟩ = some (.int .i64 a) := hg.cell (cell_of_block (heap_alloc_new w _) 0)
  have b1 : w1.cell? ⟨w.heap.size, 1, none⟩ = some (.int .i64 b) := hg.cell (cell_of_block (heap_alloc_new w _) 1)
  have b2 : w1.cell? ⟨w.heap.size, 2, none⟩ = some (.int .i64 c) := hg.cell (cell_of_block (heap_alloc_new w _) 2)
  have b3 : w1.cell? ⟨w.heap.size, 3, none⟩ = some (.int .i64 d) := hg.cell (cell_of_block (heap_alloc_new w _) 3)
  have hlook := (HH.out.map.grw hg').look_no Try.underlying43 (z := .pointer none) (fun _ => by kernel_rfl) HW.out HP.out true
  have hlen := fun ty => (HH.out.map.grw hg').len Try.underlying43 ty
  have t1' := hg'.cell t1
  simp only [if_true] at hlook
  have hgl : Grw w1 (w1.alloc (.cells #[.int .i64 a, .int .i64 b, .int .i64 c, .int .i64 d, .pointer none, .pointer none, .pointer none, .int .i64 1, .int .i64 id] 55)) := (Grw.refl w1).alloc _
  have f0 : LeafAt (w1.alloc (.cells #[.int .i64 a, .int .i64 b, .int .i64 c, .int .i64 d, .pointer none, .pointer none, .pointer none, .int .i64 1, .int .i64 id] 55)) ⟨w1.heap.size, id, a, b, c, d⟩ none := heap_alloc_new w1 _
  obtain ⟨w2, hadd, hm2, hc2⟩ := ((HH.out.map.grw hg').grw hgl).add Try.underlying43 HW.out HP.out w1.heap.size
  have hsz := hg'.size
  have hlt := HH.out.lt
  have hnd := HH.out.nd
  have B1 := HH.out.grw (hg'.trans hgl)
  have hnd2 := hnd
  simp only [List.nodup_cons, List.mem_cons, not_or] at hnd2
  obtain ⟨⟨n1, n2⟩, n3, n4⟩ := hnd2
  have ht2 : TreeIs w2 t (some mb) o := B1.tree.keep hc2 n1 (fun q hq e => n3 (e ▸ hq))
  have hx2 : LeafAt w2 ⟨w1.heap.size, id, a, b, c, d⟩ none := NodeAt.keep f0 hc2 (fun e => by have e' : w1.heap.size = mb := e; have := hlt mb (by simp); omega)
  have nd3 : (t :: w1.heap.size :: oNodes o).Nodup := by
    refine List.nodup_cons.2 ⟨?_, List.nodup_cons.2 ⟨?_, n4⟩⟩
    · simp only [List.mem_cons, not_or]; exact ⟨by have := hlt t (by simp); omega, n2⟩
    · intro hq; have := hlt _ (List.mem_cons_of_mem _ (List.mem_cons_of_mem _ hq)); omega
  have F := attach_any t mb o ⟨w1.heap.size, id, a, b, c, d⟩ none w2 ht2 hx2 nd3 HH.out.ok HV.out (by have := HH.out.nlen; omega)
  have HM := Lib.hid hm2
  have HC := Lib.hid hc2
  have HGL := Lib.hid hgl
  have HSZ := Lib.hid hsz
  have HG := Lib.hid hg'
  unfold ptrE at hadd
  have t2 : w2.cell? ⟨t, 1, none⟩ = some (.map (some mb)) := by
    rw [World.cell?_of_block (w := w1.alloc (.cells #[.int .i64 a, .int .i64 b, .int .i64 c, .int .i64 d, .pointer none, .pointer none, .pointer none, .int .i64 1, .int .i64 id] 55)) (hc2.block t (by have := hlt t (by simp); simp; omega) n1)]
    exact hgl.cell t1'
  have tlt : t < w1.heap.size := by have := hlt t (by simp); omega
  have tne : t ≠ w1.heap.size := by omega
  clear t1 hm2 hc2 hgl hsz hlt hnd B1 n1 n2 n3 n4 ht2 hx2 nd3 hg f0 hg'
  go_wp2_with fail
  refine F.mono ?_
  rintro e w3 ⟨rfl, o', E, e1, e2, e3, e4, e5, e6⟩
  have FIN : Hid (∃ (o' : Option T) (p : Nat), Bvh w3 t mb o' (l ++ [(id, p)]) ∧ (oLeaves o').Perm (⟨p, id, a, b, c, d⟩ :: oLeaves o) ∧ (∀ q ∈ oNodes o', q ∈ oNodes o ∨ w.heap.size ≤ q) ∧ OnlyChg (fun i => i ∈ t :: mb :: oNodes o) w w3) := by
    have hsz := HSZ.out
    have hsz2 := HC.out.size
    have hlt := HH.out.lt
    have hnd := HH.out.nd
    have hb2 : w1.heap.size < w2.heap.size := by simp at hsz2; omega
    simp only [List.nodup_cons, List.mem_cons, not_or] at hnd
    obtain ⟨⟨n1, n2⟩, n3, n4⟩ := hnd
    have hmt := hlt mb (by simp)
    have htt := hlt t (by simp)
    have hE : ∀ q ∈ E ++ w1.heap.size :: oNodes o, q ∈ oNodes o ∨ w1.heap.size ≤ q := fun q hq => by
      simp only [List.mem_append, List.mem_cons] at hq
      rcases hq with hq | hq | hq
      · have := e1 q hq; exact .inr (by omega)
      · exact .inr (by omega)
      · exact .inl hq
    refine ⟨o', w1.heap.size, ⟨e2, HM.out.keep e6 ?_, ?_, ?_, ?_, ?_, ?_⟩, e3, fun q hq => ?_, ?_⟩
    · rintro (e | e | e)
      · exact n1 e.symm
      · show False; have : mb = w1.heap.size := e; omega
      · exact n3 e
    · refine ((List.Perm.append_right _ HH.out.same).trans ?_).trans (e3.map fun y => (y.id, y.p)).symm
      simp only [List.map_cons]
      exact List.perm_append_singleton _ _
    · have hN : (t :: mb :: (E ++ w1.heap.size :: oNodes o)).Nodup := by
        refine List.nodup_cons.2 ⟨?_, List.nodup_cons.2 ⟨?_, List.nodup_append.2 ⟨e5, List.nodup_cons.2 ⟨?_, n4⟩, ?_⟩⟩⟩
        · intro hq
          simp only [List.mem_cons] at hq
          rcases hq with hq | hq
          · exact n1 hq
          · rcases hE t hq with h | h
            · exact n2 h
            · omega
        · intro hq
          rcases hE mb hq with h | h
          · exact n3 h
          · omega
        · intro hq; have := hlt _ (List.mem_cons_of_mem _ (List.mem_cons_of_mem _ hq)); omega
        · intro q hq z hz e
          subst e
          have h1 := e1 q hq
          simp only [List.mem_cons] at hz
          rcases hz with hz | hz
          · omega
          · have := hlt _ (List.mem_cons_of_mem _ (List.mem_cons_of_mem _ hz)); omega
      exact ((List.Perm.cons t (List.Perm.cons mb e4)).nodup_iff).2 hN
    · rw [List.map_append, List.nodup_append]
      refine ⟨HH.out.ids, by simp, ?_⟩
      intro z hz z' hz' e
      subst e
      obtain ⟨x, hx, rfl⟩ := List.mem_map.1 hz
      simp only [List.map_cons, List.map_nil, List.mem_singleton] at hz'
      exact HP.out x hx hz'
    · intro y hy
      have := e3.mem_iff.1 hy
      simp only [List.mem_cons] at this
      rcases this with rfl | this
      · exact HV.out
      · exact HH.out.ok y this
    · have := HF.out; simp; omega
    · rcases hE q (e4.mem_iff.1 hq) with h | h
      · exact .inl h
      · exact .inr (by omega)
    · have k1 : OnlyChg (fun i => i ∈ t :: mb :: oNodes o ∨ w.heap.size ≤ i) w (w1.alloc (.cells #[.int .i64 a, .int .i64 b, .int .i64 c, .int .i64 d, .pointer none, .pointer none, .pointer none, .int .i64 1, .int .i64 id] 55)) := (OnlyChg.refl _ w).grw (HG.out.trans HGL.out)
      have k2 : OnlyChg (fun i => i ∈ t :: mb :: oNodes o ∨ w.heap.size ≤ i) (w1.alloc (.cells #[.int .i64 a, .int .i64 b, .int .i64 c, .int .i64 d, .pointer none, .pointer none, .pointer none, .int .i64 1, .int .i64 id] 55)) w2 := HC.out.mono fun i _ hi => .inl (by simp [hi])
      have k3 : OnlyChg (fun i => i ∈ t :: mb :: oNodes o ∨ w.heap.size ≤ i) w2 w3 := e6.mono fun i _ hi => by
        rcases hi with e | e | e
        · exact .inl (by simp [e])
        · exact .inr (by have e' : i = w1.heap.size := e; omega)
        · exact .inl (by simp [e])
      exact ((k1.trans k2).trans k3).mono fun i hi hh => hh.elim (fun h => h) (fun h => absurd hi (by omega))
  clear e1 e2 e3 e4 e5 e6
  go_wp2_with fail
  go_ret
  exact ⟨rfl, FIN.out⟩

end Go.Proofs.Ytbnfngelkaembaa
