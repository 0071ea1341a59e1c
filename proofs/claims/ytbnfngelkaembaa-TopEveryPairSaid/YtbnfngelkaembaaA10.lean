/- Maps with int keys as association lists: what a look-up, a store, a delete and len do; its conditions: the keys are 64-bit integers. -/
import Derived.Test.YtbnfngelkaembaaA9
import Derived.Maps.OwnSet
namespace Go.Proofs.Ytbnfngelkaembaa
open Go.RowKit Go.Sort Go.ChangeMaps

section
variable {α : Type}
/-- block b of w is a map that holds l, in the order of the entries -/
def MapIs (enc : α → Value) (w : World) (b : Nat) (l : List (Int × α)) : Prop :=
  ∃ es clock, w.heap[b]? = some (.map es clock) ∧ es.toList.map (fun e => (e.key, e.val)) = l.map (fun x => (Value.int .i64 x.1, enc x.2)) ∧ ∀ x ∈ l, (Lit.int .i64 x.1).wf = true

theorem MapIs.lt {enc : α → Value} {w : World} {b : Nat} {l : List (Int × α)} (h : MapIs enc w b l) : b < w.heap.size := by
  obtain ⟨es, c, hb, _⟩ := h; exact (Array.getElem?_eq_some_iff.1 hb).1
theorem MapIs.grw {enc : α → Value} {w w' : World} {b : Nat} {l : List (Int × α)} (h : MapIs enc w b l) (hg : Grw w w') : MapIs enc w' b l := by
  have hl := h.lt
  obtain ⟨es, c, hb, h2⟩ := h
  exact ⟨es, c, (hg.heap hl).trans hb, h2⟩
theorem MapIs.keep {enc : α → Value} {S : Nat → Prop} {w w' : World} {b : Nat} {l : List (Int × α)} (h : MapIs enc w b l) (hc : OnlyChg S w w') (hs : ¬ S b) : MapIs enc w' b l := by
  have hl := h.lt
  obtain ⟨es, c, hb, h2⟩ := h
  exact ⟨es, c, (hc.block b hl hs).trans hb, h2⟩

theorem key3 : Go.Maps.Keyed Try.prog 3 := Go.Maps.int_keyed Try.underlying3

theorem MapIs.find {enc : α → Value} {w : World} {l : List (Int × α)} {es : Array MapEntry} {i : Int} (hi : (Lit.int .i64 i).wf = true)
    (he : es.toList.map (fun e => (e.key, e.val)) = l.map (fun x => (Value.int .i64 x.1, enc x.2))) (hw : ∀ x ∈ l, (Lit.int .i64 x.1).wf = true) :
    ((Instr.findKey 3 (.int .i64 i) es.toList).run Try.prog w = .ok none w ∧ ∀ x ∈ l, x.1 ≠ i) ∨ ∃ (j : Nat) (v : α), (Instr.findKey 3 (.int .i64 i) es.toList).run Try.prog w = .ok (some (j, enc v)) w ∧ l[j]? = some (i, v) := by
  have hk : ∀ e ∈ es.toList, ∃ k, keyOf Try.prog 3 e.key = some k := fun e h => by
    have h1 : (e.key, e.val) ∈ es.toList.map (fun e => (e.key, e.val)) := List.mem_map.2 ⟨e, h, rfl⟩
    rw [he] at h1
    obtain ⟨x, hx, hxe⟩ := List.mem_map.1 h1
    simp only [Prod.mk.injEq] at hxe
    rw [← hxe.1]
    exact ⟨_, Go.Maps.keyOf_int_mk Try.underlying3 (hw x hx)⟩
  rcases key3.find w (Go.Maps.keyOf_int_mk Try.underlying3 hi) es.toList hk with ⟨h1, h2⟩ | ⟨j, e, h1, h2, h3⟩
  · refine .inl ⟨h1, fun x hx hxi => ?_⟩
    have h4 : (Value.int .i64 x.1, enc x.2) ∈ es.toList.map (fun e => (e.key, e.val)) := by rw [he]; exact List.mem_map.2 ⟨x, hx, rfl⟩
    obtain ⟨e, he1, he2⟩ := List.mem_map.1 h4
    simp only [Prod.mk.injEq] at he2
    exact h2 e he1 (by rw [he2.1, hxi])
  · have h4 : (es.toList.map (fun e => (e.key, e.val)))[j]? = some (e.key, e.val) := by rw [List.getElem?_map, h2]; rfl
    rw [he, List.getElem?_map] at h4
    cases hl : l[j]? with
    | none => rw [hl] at h4; simp at h4
    | some x =>
      rw [hl] at h4
      simp only [Option.map_some, Option.some.injEq, Prod.mk.injEq] at h4
      obtain ⟨x1, x2⟩ := x
      have e1 : x1 = i := by
        have := h4.1.trans h3
        injection this
      subst e1
      refine .inr ⟨j, x2, ?_, hl.trans rfl⟩
      rw [h1, ← h4.2]

theorem key_of_nodup {l : List (Int × α)} (nd : (l.map (·.1)).Nodup) {i : Int} {v v' : α} (h : (i, v) ∈ l) (h' : (i, v') ∈ l) : v = v' := by
  induction l with
  | nil => cases h
  | cons x r ih =>
    simp only [List.map_cons, List.nodup_cons, List.mem_map, not_exists, not_and] at nd
    simp only [List.mem_cons] at h h'
    rcases h with h | h <;> rcases h' with h' | h'
    · rw [← h] at h'; simpa using h'.symm
    · exact absurd (show (i, v').1 = x.1 by rw [← h]) (nd.1 _ h')
    · exact absurd (show (i, v).1 = x.1 by rw [← h']) (nd.1 _ h)
    · exact ih nd.2 h h'

theorem MapIs.look_yes {enc : α → Value} {t e : TypeId} (ht : Try.prog.underlying t = some (.map 3 e)) {w : World} {b : Nat} {l : List (Int × α)} (h : MapIs enc w b l) (nd : (l.map (·.1)).Nodup) {i : Int} {v : α} (hi : (i, v) ∈ l) :
    (Instr.lookup t (.map (some b)) (.int .i64 i) true).run Try.prog w = .ok (.tuple #[enc v, .bool true]) w := by
  obtain ⟨es, c, hb, he, hw⟩ := h
  have hwf : (Lit.int .i64 i).wf = true := hw _ hi
  rcases MapIs.find (w := w) hwf he hw with ⟨_, h2⟩ | ⟨j, v', h1, h2⟩
  · exact absurd rfl (h2 _ hi)
  · have : v = v' := key_of_nodup nd hi (List.mem_of_getElem? h2)
    subst this
    simp [Instr.lookup, run_underlying ht, MapKept.run_getObj_map hb, key3.check w _ (Go.Maps.keyOf_int_mk Try.underlying3 hwf), h1, Result.andThen]
theorem MapIs.look_no {enc : α → Value} {t e : TypeId} (ht : Try.prog.underlying t = some (.map 3 e)) {z : Value} (hz : ∀ w : World, (zeroValue e).run Try.prog w = .ok z w) {w : World} {b : Nat} {l : List (Int × α)} (h : MapIs enc w b l) {i : Int} (hwf : (Lit.int .i64 i).wf = true) (hi : ∀ x ∈ l, x.1 ≠ i) (cm : Bool) :
    (Instr.lookup t (.map (some b)) (.int .i64 i) cm).run Try.prog w = .ok (if cm then .tuple #[z, .bool false] else z) w := by
  obtain ⟨es, c, hb, he, hw⟩ := h
  rcases MapIs.find (w := w) hwf he hw with ⟨h1, _⟩ | ⟨j, v', _, h2⟩
  · simp [Instr.lookup, run_underlying ht, MapKept.run_getObj_map hb, key3.check w _ (Go.Maps.keyOf_int_mk Try.underlying3 hwf), h1, hz, Result.andThen]
  · exact absurd rfl (hi _ (List.mem_of_getElem? h2))
theorem MapIs.look_yes1 {enc : α → Value} {t e : TypeId} (ht : Try.prog.underlying t = some (.map 3 e)) {w : World} {b : Nat} {l : List (Int × α)} (h : MapIs enc w b l) (nd : (l.map (·.1)).Nodup) {i : Int} {v : α} (hi : (i, v) ∈ l) :
    (Instr.lookup t (.map (some b)) (.int .i64 i) false).run Try.prog w = .ok (enc v) w := by
  obtain ⟨es, c, hb, he, hw⟩ := h
  have hwf : (Lit.int .i64 i).wf = true := hw _ hi
  rcases MapIs.find (w := w) hwf he hw with ⟨_, h2⟩ | ⟨j, v', h1, h2⟩
  · exact absurd rfl (h2 _ hi)
  · have : v = v' := key_of_nodup nd hi (List.mem_of_getElem? h2)
    subst this
    simp [Instr.lookup, run_underlying ht, MapKept.run_getObj_map hb, key3.check w _ (Go.Maps.keyOf_int_mk Try.underlying3 hwf), h1, Result.andThen]

theorem onlyChg_setBlock (w : World) (b : Nat) (o : Obj) {es : Array MapEntry} {c : Nat} (hb : w.heap[b]? = some (.map es c)) : OnlyChg (fun k => k = b) w (setBlock w b o) :=
  ⟨rfl, rfl, rfl, by simp [setBlock], fun i _ hi => heap_setBlock_other hb _ (fun e => hi e)⟩
theorem eraseIdx_map' {β γ : Type} (f : β → γ) : ∀ (l : List β) (j : Nat), (l.eraseIdx j).map f = (l.map f).eraseIdx j
  | [], _ => rfl
  | _ :: _, 0 => rfl
  | x :: r, j + 1 => by simp only [List.eraseIdx_cons_succ, List.map_cons, eraseIdx_map' f r j]

theorem MapIs.add {enc : α → Value} {t e : TypeId} (ht : Try.prog.underlying t = some (.map 3 e)) {w : World} {b : Nat} {l : List (Int × α)} (h : MapIs enc w b l) {i : Int} (hwf : (Lit.int .i64 i).wf = true) (hi : ∀ x ∈ l, x.1 ≠ i) (v : α) :
    ∃ w', (Instr.mapUpdate t (.map (some b)) (.int .i64 i) (enc v)).run Try.prog w = .ok () w' ∧ MapIs enc w' b (l ++ [(i, v)]) ∧ OnlyChg (fun k => k = b) w w' := by
  have hl := h.lt
  obtain ⟨es, c, hb, he, hw⟩ := h
  rcases MapIs.find (w := w) hwf he hw with ⟨h1, _⟩ | ⟨j, v', _, h2⟩
  · refine ⟨setBlock w b (.map (es.push { key := .int .i64 i, val := enc v, born := c }) (c + 1)), ?_, ⟨_, _, heap_setBlock_same hb _, ?_, ?_⟩, onlyChg_setBlock w b _ hb⟩
    · simp [Instr.mapUpdate, run_underlying ht, MapKept.run_getObj_map hb, key3.check w false (Go.Maps.keyOf_int_mk Try.underlying3 hwf), h1, MapKept.run_setObj_map _ hb, Result.andThen, setBlock]
    · simp [he]
    · intro x hx
      simp only [List.mem_append, List.mem_singleton] at hx
      rcases hx with hx | rfl
      · exact hw x hx
      · exact hwf
  · exact absurd rfl (hi _ (List.mem_of_getElem? h2))

theorem filter_erase {l : List (Int × α)} (nd : (l.map (·.1)).Nodup) {i : Int} {v : α} : ∀ {j : Nat}, l[j]? = some (i, v) → l.eraseIdx j = l.filter (fun x => x.1 != i) := by
  induction l with
  | nil => intro j h; simp at h
  | cons x r ih =>
    simp only [List.map_cons, List.nodup_cons, List.mem_map, not_exists, not_and] at nd
    intro j h
    cases j with
    | zero =>
      simp only [List.getElem?_cons_zero, Option.some.injEq] at h
      subst h
      simp only [List.eraseIdx_cons_zero, List.filter_cons, bne_self_eq_false, Bool.false_eq_true, if_false]
      refine (List.filter_eq_self.2 fun y hy => ?_).symm
      have := nd.1 y hy
      simpa using this
    | succ j =>
      simp only [List.getElem?_cons_succ] at h
      have hne : x.1 ≠ i := fun e => nd.1 (i, v) (List.mem_of_getElem? h) e.symm
      simp only [List.eraseIdx_cons_succ, List.filter_cons]
      rw [if_pos (by simpa using hne), ih nd.2 h]

theorem MapIs.del {enc : α → Value} {t e : TypeId} (ht : Try.prog.underlying t = some (.map 3 e)) (ty : TypeId) {w : World} {b : Nat} {l : List (Int × α)} (h : MapIs enc w b l) (nd : (l.map (·.1)).Nodup) {i : Int} {v : α} (hi : (i, v) ∈ l) :
    ∃ w', (Builtin.delete_ #[t, 3] ty #[.map (some b), .int .i64 i]).run Try.prog w = .ok (.tuple #[]) w' ∧ MapIs enc w' b (l.filter (fun x => x.1 != i)) ∧ OnlyChg (fun k => k = b) w w' := by
  have hl := h.lt
  obtain ⟨es, c, hb, he, hw⟩ := h
  have hwf : (Lit.int .i64 i).wf = true := hw _ hi
  rcases MapIs.find (w := w) hwf he hw with ⟨_, h2⟩ | ⟨j, v', h1, h2⟩
  · exact absurd rfl (h2 _ hi)
  · have hjs : j < es.size := by
      have h3 : j < l.length := (List.getElem?_eq_some_iff.1 h2).1
      have h4 := congrArg List.length he
      simp at h4
      omega
    have hsub : (es.eraseIdxIfInBounds j).toList = es.toList.eraseIdx j := by
      unfold Array.eraseIdxIfInBounds
      rw [dif_pos hjs]
      simp
    refine ⟨setBlock w b (.map (es.eraseIdxIfInBounds j) c), ?_, ⟨_, _, heap_setBlock_same hb _, ?_, ?_⟩, onlyChg_setBlock w b _ hb⟩
    · simp [Builtin.delete_, run_underlying ht, MapKept.run_getObj_map hb, key3.check w _ (Go.Maps.keyOf_int_mk Try.underlying3 hwf), h1, MapKept.run_setObj_map _ hb, Result.andThen, setBlock]
    · rw [hsub, eraseIdx_map', he, ← eraseIdx_map', filter_erase nd h2]
    · intro x hx
      exact hw x (List.mem_filter.1 hx).1

theorem MapIs.len {enc : α → Value} {t e : TypeId} (ht : Try.prog.underlying t = some (.map 3 e)) (ty : TypeId) {w : World} {b : Nat} {l : List (Int × α)} (h : MapIs enc w b l) :
    (Builtin.len_ #[t] ty #[.map (some b)]).run Try.prog w = .ok (.int .i64 l.length) w := by
  obtain ⟨es, c, hb, he, hw⟩ := h
  have h4 := congrArg List.length he
  simp at h4
  simp [Builtin.len_, run_underlying ht, MapKept.run_getObj_map hb, goInt, h4, Result.andThen]

theorem MapIs.made (enc : α → Value) (w : World) : MapIs enc (w.alloc (.map #[] 0)) w.heap.size [] := ⟨#[], 0, heap_alloc_new w _, by simp, by simp⟩
end

end Go.Proofs.Ytbnfngelkaembaa
