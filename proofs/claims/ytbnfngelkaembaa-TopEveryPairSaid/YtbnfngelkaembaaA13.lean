/- Slices that a call itself appends to, as lists; the contract of ids of package bvh; its conditions: the slice's own memory is no node. -/
import Derived.Test.YtbnfngelkaembaaA12
import Derived.Test.YtbnfngelkaembaaB1
import Derived.Maps.AppendAt
namespace Go.Proofs.Ytbnfngelkaembaa
open Go.RowKit Go.Sort
attribute [local go_sem] qAt qUpon okOp okUpon cell_in_grow frozen_in_grow

/-- the slice v is the call's own, from block base on, and holds xs -/
def OwnL {α : Type} (e size : Nat) (enc : α → List Value) (w : World) (base : Nat) (v : Value) (xs : List α) : Prop := w.ownsRow base e size v xs.length (xs.flatMap enc)
theorem OwnL.nil {α : Type} (e size : Nat) (enc : α → List Value) (w : World) (base : Nat) : OwnL e size enc w base (.slice none 0 0) ([] : List α) := World.ownsRow_nil w base e size
theorem OnlyChg.grownBy {S : Nat → Prop} {w w' : World} (h : OnlyChg S w w') {row : Option Nat} (hr : ∀ k, k < w.heap.size → S k → row = some k) : w.grownBy w' row :=
  ⟨h.os, h.tape, h.output, h.size, fun k hk hne => h.block k hk fun hS => hne (hr k hk hS).symm⟩
theorem OwnL.keep {α : Type} {e size : Nat} {enc : α → List Value} {w w' : World} {base : Nat} {v : Value} {xs : List α} {S : Nat → Prop} (h : OwnL e size enc w base v xs) (hc : OnlyChg S w w') (hs : ∀ b, v.ownBlock = some b → ¬ S b) : OwnL e size enc w' base v xs := by
  obtain ⟨h1, h2 | ⟨g, cap, cur, rfl, h3, h4, h5⟩⟩ := h
  · exact ⟨h1, .inl h2⟩
  · exact ⟨h1, .inr ⟨g, cap, cur, rfl, h3, (hc.block g (Array.getElem?_eq_some_iff.1 h4).1 (hs g rfl)).trans h4, h5⟩⟩
theorem OwnL.grw {α : Type} {e size : Nat} {enc : α → List Value} {w w' : World} {base : Nat} {v : Value} {xs : List α} (h : OwnL e size enc w base v xs) (hg : Grw w w') : OwnL e size enc w' base v xs := h.keep (OnlyChg.of_grw hg) (by simp)
theorem OwnL.base_le {α : Type} {e size : Nat} {enc : α → List Value} {w : World} {base : Nat} {v : Value} {xs : List α} (h : OwnL e size enc w base v xs) (b : Nat) (hb : v.ownBlock = some b) : base ≤ b ∧ b < w.heap.size := by
  obtain ⟨h1, ⟨rfl, _⟩ | ⟨g, cap, cur, rfl, h3, h4, h5⟩⟩ := h
  · simp [Value.ownBlock] at hb
  · simp only [Value.ownBlock, Option.some.injEq] at hb
    subst hb
    exact ⟨h3, (Array.getElem?_eq_some_iff.1 h4).1⟩
theorem OwnL.form {α : Type} {e size : Nat} {enc : α → List Value} {w : World} {base : Nat} {v : Value} {xs : List α} (h : OwnL e size enc w base v xs) : (v = .slice none 0 0 ∧ xs = []) ∨ ∃ g cap, v = .slice (some ⟨g, 0, none⟩) xs.length cap ∧ base ≤ g ∧ g < w.heap.size ∧ xs.length ≤ cap ∧ cap ≤ maxLen := by
  obtain ⟨h1, ⟨rfl, h2⟩ | ⟨g, cap, cur, rfl, h3, h4, h5, h6, _⟩⟩ := h
  · exact .inl ⟨rfl, List.length_eq_zero_iff.1 h2⟩
  · exact .inr ⟨g, cap, rfl, h3, (Array.getElem?_eq_some_iff.1 h4).1, h5, h6⟩

section
variable {α : Type} {ops : Array Oper} {rest : List Oper} {o : Oper} {a : Act} {Q : Exit → Act → World → Prop}
theorem wpList_push {enc : α → List Value} {e size bytes t : Nat} {z : Value} (hk : ∀ x, (enc x).length = size) (h1 : ∀ x, ∀ u ∈ enc x, u.oneCell' = true) {W : World} (base : Nat) (hgd : o.guard = none) (s x : Operand)
    (ho : o.op = .call { callee := .builtin .append, args := #[s, x], argTypes := #[t, t] })
    (ht : Try.prog.underlying t = some (.slice e)) (hinfo : (Try.prog.info? e).map (fun i => (i.zero, i.size, i.bytes)) = some (some z, size, bytes)) (hz : z.cells.size = size) (hsz : 0 < size) (hb0 : 0 < bytes)
    (v : Value) (xs : List α) (y : α) (cs : Array Value) (hcs : cs = (enc y).toArray) (hs : a.eval s = v) (hx : a.eval x = .slice (some ⟨W.heap.size, 0, none⟩) 1 1)
    (HO : OwnL e size enc W base v xs) (hbase : base ≤ W.heap.size) (hl : (xs.length + 1) * bytes ≤ 140737488355328)
    (h : ∀ v1 w1, OwnL e size enc w1 base v1 (xs ++ [y]) → OnlyChg (fun k => v.ownBlock = some k) W w1 → (v1.ownBlock = v.ownBlock ∨ ∃ b, v1.ownBlock = some b ∧ W.heap.size ≤ b) → wpList Try.prog ops Q rest (a.put o.dst v1) w1) :
    wpList Try.prog ops Q (o :: rest) a (W.alloc (.cells cs e)) := by
  subst hcs
  obtain ⟨i0, hi, hzz⟩ := Option.map_eq_some_iff.1 hinfo
  simp only [Prod.mk.injEq] at hzz
  obtain ⟨hz0, hz1, hz2⟩ := hzz
  have hlen : xs.length + 1 ≤ 140737488355328 := Nat.le_trans (Nat.le_mul_of_pos_right _ hb0) hl
  refine wpList_append_own_at (W.alloc (.cells (enc y).toArray e)) hgd s x t ho base e i0 z size bytes ht hi hz0 hz1 hz2 hz hsz v xs.length (xs.flatMap enc) hs (HO.grw ((Grw.refl W).alloc _)) ⟨W.heap.size, 0, none⟩ 1 1 (enc y) hx (by rw [hk]; omega)
    (fun j u hu => ?_) (h1 y) (by simp only [maxLen]; omega) hl (by simp; omega) ?_
  · have e1 : (⟨W.heap.size, 0, none⟩ : Addr).add j = ⟨W.heap.size, j, none⟩ := by unfold Addr.add; split <;> simp_all
    rw [e1, cell_of_block (heap_alloc_new W _)]
    simpa using hu
  · intro v1 w1 hown hg _ hat
    refine h v1 w1 ?_ ?_ ?_
    · unfold OwnL; simpa [List.flatMap_append] using hown
    · have k1 : OnlyChg (fun k => v.ownBlock = some k) W (W.alloc (.cells (enc y).toArray e)) := (OnlyChg.refl _ W).grw ((Grw.refl W).alloc _)
      exact k1.trans ⟨hg.os, hg.tape, hg.output, hg.size, fun i hi hs => hg.block i hi (fun e => hs e.symm)⟩
    · rcases hat with hat | hat
      · exact .inl hat
      · exact .inr ⟨_, hat, by simp⟩
end

def encI (x : Int) : List Value := [.int .i64 x]
theorem info3 : (Try.prog.info? 3).map (fun i => (i.zero, i.size, i.bytes)) = some (some (.int .i64 0), 1, 8) := by kernel_rfl
abbrev OwnI (w : World) (base : Nat) (v : Value) (xs : List Int) : Prop := OwnL 3 1 encI w base v xs

set_option maxHeartbeats 1000000 in
theorem ids_leaf (x : Lf) (par : Option Nat) (w : World) (base : Nat) (v : Value) (xs : List Int) (h : LeafAt w x par) (HO : OwnI w base v xs) (hb : base ≤ w.heap.size) (hl : xs.length ≤ 1000000) :
    Calls Try.prog 16 #[.pointer (some ⟨x.p, 0, none⟩), v] w fun e w' => ∃ v', e = .returned v' ∧ OwnI w' base v' (xs ++ [x.id]) ∧ OnlyChg (fun k => base ≤ k) w w' := by
  have hlf := leaf_any x.p _ w h
  have hnil : ((T.leaf x).nd par).l.isNone = true := rfl
  rw [hnil] at hlf
  have c8 := (NodeAt.facts h).2.2.2.2.2.2.2.2
  change w.cell? ⟨x.p, 8, none⟩ = some (.int .i64 x.id) at c8
  have HH := Lib.hid HO
  clear h hnil HO
  go_enter Try.func16, Try.ntmps16
  go_wp2_with fail
  refine hlf.mono ?_
  rintro e w' ⟨rfl, rfl⟩
  clear hlf
  go_wp2_with (at_builtin; refine wpList_push (enc := encI) (z := .int .i64 0) (bytes := 8) (fun _ => rfl) (by simp [encI, Value.oneCell']) base rfl _ _ rfl Try.underlying50 info3 rfl (by decide) (by decide) v xs x.id _ rfl rfl rfl HH.out hb (by omega) ?_; intro v1 w1 hO1 hC1 _)
  go_ret
  exact ⟨v1, rfl, hO1, hC1.mono fun i _ hi => (HH.out.base_le i hi).1⟩

set_option maxHeartbeats 1000000 in
theorem ids_any : ∀ (S : T) (par : Option Nat) (w : World) (base : Nat) (v : Value) (xs : List Int), Rep w par S → OwnI w base v xs → (∀ p ∈ S.nodes, p < base) → base ≤ w.heap.size → xs.length + S.leaves.length ≤ 1000000 →
    Calls Try.prog 16 #[.pointer (some ⟨S.ptr, 0, none⟩), v] w fun e w' => ∃ v', e = .returned v' ∧ OwnI w' base v' (xs ++ S.leaves.map (·.id)) ∧ OnlyChg (fun k => base ≤ k) w w' := by
  intro S
  induction S with
  | leaf x =>
    intro par w base v xs h HO _ hb hl
    exact ids_leaf x par w base v xs h HO hb (by omega)
  | node p l r ihl ihr =>
    intro par w base v xs h HO hlt hb hl
    have hlf := leaf_any p _ w h.1
    have hnil : ((T.node p l r).nd par).l.isNone = false := rfl
    rw [hnil] at hlf
    have hp : ¬ base ≤ p := by have := hlt p (by simp [T.nodes]); omega
    have c5 : ∀ w', OnlyChg (fun k => base ≤ k) w w' → w'.cell? ⟨p, 5, none⟩ = some (.pointer (some ⟨l.ptr, 0, none⟩)) := fun w' hR => (h.1.keep hR hp).facts.2.2.2.2.2.1
    have c6 : ∀ w', OnlyChg (fun k => base ≤ k) w w' → w'.cell? ⟨p, 6, none⟩ = some (.pointer (some ⟨r.ptr, 0, none⟩)) := fun w' hR => (h.1.keep hR hp).facts.2.2.2.2.2.2.1
    have HH := Lib.hid HO
    have HRP := Lib.hid h
    have HLT := Lib.hid hlt
    have HL := Lib.hid hl
    have IL := Lib.hid ihl
    have IR := Lib.hid ihr
    clear h hnil HO hlt hl ihl ihr hp
    rw [T.ptr_node]
    go_enter Try.func16, Try.ntmps16
    go_wp2_with fail
    refine hlf.mono ?_
    rintro e w' ⟨rfl, rfl⟩
    clear hlf
    go_wp2_with fail
    refine wp_region_flowS (S := fun k => base ≤ k) 9 (by kernel_rfl) (by kernel_rfl) ?_
    simp only [List.take_succ_cons, List.take_zero, List.drop_succ_cons, List.drop_zero]
    (repeat (refine wpS_want rfl (fun K hK => ?_); apply Exists.intro; refine ⟨fun w1 hR => ?_, ?_⟩; (go_simp; rfl); go_simp; refine hK _ ?_; clear hK K))
    refine wpS_nil ?_
    intro w1 hR
    refine okS_want rfl (fun w2 hC2 K hK => ?_)
    have hg := hR.trans hC2
    clear hR hC2
    go_simp
    refine (IL.out (some p) w2 base v xs (HRP.out.2.1.grw hg) (HH.out.grw hg) (fun q hq => HLT.out q (by simp [T.nodes, hq])) (Nat.le_trans hb hg.size) (by have := HL.out; simp only [T.leaves, List.length_append] at this; omega)).mono ?_
    rintro e w3 ⟨v3, rfl, HO3, hC3⟩
    refine ⟨v3, rfl, hK _ _ hC3 ?_⟩
    clear hK K
    have hC3' := ((OnlyChg.refl (fun k => base ≤ k) w).grw hg).trans hC3
    refine okS_want rfl (fun w4 hg4 K hK => ?_)
    have hC4 := hC3'.grw hg4
    have HO4 := Lib.hid (HO3.grw hg4)
    clear hC3' hC3 HO3 hg4 hg
    go_simp
    refine (IR.out (some p) w4 base v3 _ (HRP.out.2.2.keep hC4 (fun q hq => by have := HLT.out q (by simp [T.nodes, hq]); omega)) HO4.out (fun q hq => HLT.out q (by simp [T.nodes, hq])) (Nat.le_trans hb hC4.size) (by have := HL.out; simp only [T.leaves, List.length_append, List.length_map] at this ⊢; omega)).mono ?_
    rintro e w5 ⟨v5, rfl, HO5, hC5⟩
    refine ⟨v5, rfl, hK _ _ hC5 ?_⟩
    clear hK K
    have hC6 := hC4.trans hC5
    have HO6 := Lib.hid HO5
    clear hC4 hC5 HO5 HO4
    refine okS_want rfl (fun w7 hg7 K hK => ?_)
    have hC7 := hC6.grw hg7
    have HO7 := Lib.hid (HO6.out.grw hg7)
    clear hC6 hg7 HO6
    go_simp
    refine hK _ _ (OnlyChg.refl _ _) ?_
    clear hK K
    refine okS_nil (fun w8 hg8 => ?_)
    have hC8 := hC7.grw hg8
    have HO8 := Lib.hid (HO7.out.grw hg8)
    clear hC7 hg8 HO7
    go_wp2_with fail
    go_ret
    exact ⟨v5, rfl, by simpa [T.leaves] using HO8.out, hC8⟩


end Go.Proofs.Ytbnfngelkaembaa
