/- The row TopEveryRay of the program holds; part 1 of the proof. No condition. -/
import Derived.Still
import Derived.StillTail
import Derived.Below
import Derived.Deep.Draws
import Derived.Deep.QuietTactic
import Derived.Shelf.SlSortCmp.QuietGrown
import Derived.Test.YtokkghhmliplfaaGreatProg
import Derived.WalkKit
import Derived.WalkSpells
import Derived.WalkLawsBesides
import Derived.BigQuiet
import Derived.Lib.Hide
import Derived.Outline
import Derived.IntWalk
import Derived.Laws.BitsAllLaws
import Derived.Laws.BitsLemmas
import Derived.Deep.LoopGhost
import Derived.Deep.Cut
set_option maxRecDepth 100000
set_option maxHeartbeats 12800000
set_option linter.all false
namespace Go.Proofs.YtokkghhmliplfaaGreat
section
open Go.RowKit Go.Sort
theorem gL : (∀ {α : Type} (l : List α) (i : Nat), l.toArray[i]? = l[i]?) ∧ (∀ {α : Type} (a : α) (l : List α), (a :: l)[0]? = some a) ∧ ∀ {α : Type} (a : α) (l : List α) (i : Nat), (a :: l)[i + 1]? = l[i]? := ⟨fun _ _ => List.getElem?_toArray .., fun _ _ => rfl, fun _ _ _ => rfl⟩
theorem tD : (∀ {α : Type} (n : Nat) (a : α) (l : List α), (a :: l).take (n + 1) = a :: l.take n) ∧ (∀ {α : Type} (l : List α), l.take 0 = []) ∧ (∀ {α : Type} (n : Nat) (a : α) (l : List α), (a :: l).drop (n + 1) = l.drop n) ∧ ∀ {α : Type} (l : List α), l.drop 0 = l := ⟨fun _ _ _ => rfl, fun _ => rfl, fun _ _ _ => rfl, fun _ => rfl⟩
def wd (w : World) (d : Nat) : World := { w with drawn := d }
@[simp] theorem wd_heap (w : World) (d : Nat) : (wd w d).heap = w.heap := rfl
def Grw (w w' : World) : Prop := ∃ p : GrownBy, w' = grow (wd w p.n) p.os
theorem Grw.mk (w : World) (p : GrownBy) : Grw w (grow (wd w p.n) p.os) := ⟨p, rfl⟩
theorem Grw.refl (w : World) : Grw w w := ⟨⟨w.drawn, #[]⟩, by rw [grow_empty]; rfl⟩
theorem Grw.trans {a b c : World} (h : Grw a b) (k : Grw b c) : Grw a c := by
 obtain ⟨p, rfl⟩ := h; obtain ⟨q, rfl⟩ := k
 exact ⟨⟨q.n, p.os ++ q.os⟩, by show grow (grow (wd a q.n) p.os) q.os = _; rw [grow_grow]⟩
theorem Grw.alloc {a b : World} (h : Grw a b) (o : Obj) : Grw a (b.alloc o) := h.trans ⟨⟨b.drawn, #[o]⟩, by rw [alloc_eq_grow]; rfl⟩
theorem Grw.drewN {a b : World} (h : Grw a b) (n : Nat) : Grw a (b.drewN n) := h.trans ⟨⟨(b.drewN n).drawn, #[]⟩, by rw [grow_empty]; rfl⟩
theorem Grw.drew {a b : World} (h : Grw a b) : Grw a b.drew := h.drewN 1
theorem Grw.size {a b : World} (h : Grw a b) : a.heap.size ≤ b.heap.size := by obtain ⟨p, rfl⟩ := h; simp
theorem Grw.heap {a b : World} (h : Grw a b) {k : Nat} (hk : k < a.heap.size) : b.heap[k]? = a.heap[k]? := by
 obtain ⟨p, rfl⟩ := h; exact heap_grow_old _ _ hk
theorem Grw.below {a b : World} (h : Grw a b) : Below a.heap.size a b := by
 have hs := h.size; have hh := fun k => h.heap (k := k); obtain ⟨p, rfl⟩ := h
 exact ⟨rfl, rfl, rfl, hs, fun k hk => hh k hk⟩
theorem Grw.setNew {a b : World} (h : Grw a b) {p : Addr} (hp : a.heap.size ≤ p.block) (v : Value) : Grw a (b.setCell p v) := by
 obtain ⟨q, rfl⟩ := h
 refine ⟨⟨q.n, q.os.modify (p.block - a.heap.size) fun | .cells c elem frozen => .cells (if p.spot.isSome then c else c.setIfInBounds p.off v) elem frozen | o => o⟩, ?_⟩
 simp only [World.setCell, grow]
 congr 1
 exact modify_append_right _ _ _ _ hp
theorem Grw.setAt {a b : World} (h : Grw a b) {k o : Nat} (hp : a.heap.size ≤ k) (v : Value) : Grw a (b.setCell ⟨k, o, none⟩ v) := h.setNew hp v
theorem Grw.cells {W w1 : World} (h : Grw W w1) : (∀ b o, b < W.heap.size → w1.cell? ⟨b, o, none⟩ = W.cell? ⟨b, o, none⟩) ∧ (∀ b o, b < W.heap.size → w1.frozen? ⟨b, o, none⟩ = W.frozen? ⟨b, o, none⟩) :=
 ⟨fun b o hb => h.below.cell (p := ⟨b, o, none⟩) hb, fun b o hb => h.below.frozen (p := ⟨b, o, none⟩) hb⟩
theorem Grw.cell {a b : World} (h : Grw a b) {p : Addr} {v : Value} (hc : a.cell? p = some v) : b.cell? p = some v :=
 (h.below.cell (World.block_lt_of_cell? a p hc)).trans hc
theorem cell_in_grow (w : World) (n : Nat) (os : Array Obj) (b o : Nat) (h : b < w.heap.size) : (grow (wd w n) os).cell? ⟨b, o, none⟩ = w.cell? ⟨b, o, none⟩ := cell?_grow (wd w n) os _ h
theorem frozen_in_grow (w : World) (n : Nat) (os : Array Obj) (b o : Nat) (h : b < w.heap.size) : (grow (wd w n) os).frozen? ⟨b, o, none⟩ = w.frozen? ⟨b, o, none⟩ := frozen?_grow (wd w n) os _ h
section flow
variable {P : Program} {ops : Array Oper} {w0 : World}
def qUpon (P : Program) (w : World) (v : Value) : Result Next → Prop
 | .ok (.value u) w' => w' = w ∧ u = v
 | .ok .skip w' => w' = w ∧ v = undef
 | .ok (.enter f args) w' => w' = w ∧ Calls P f args w (fun e w'' => e = .returned v ∧ Grw w w'')
 | _ => False
def qAt (P : Program) (o : Oper) (a : Act) (w : World) (v : Value) : Prop := qUpon P w v ((execOp a.eval o).run P w)
def YieldsG (P : Program) (ops : Array Oper) (w0 : World) (o : Oper) (v : Value) (a : Act) : Prop :=
 (Region.wanted o (yielded ops a.tmps) = true ∧ ∀ w, Grw w0 w → qAt P o a w v) ∨ (Region.wanted o (yielded ops a.tmps) = false ∧ v = undef)
def okUpon (P : Program) (K : Value → World → Prop) : Result Next → Prop
 | .ok (.value u) w' => K u w'
 | .ok .skip w' => K undef w'
 | .ok (.enter f args) w' => Calls P f args w' (fun e w'' => ∃ v, e = .returned v ∧ K v w'')
 | _ => False
theorem okUpon_mono {K K' : Value → World → Prop} (h : ∀ v w, K v w → K' v w) {r : Result Next} (hr : okUpon P K r) : okUpon P K' r := by
 cases r with
 | ok n w' =>
   cases n <;> simp only [okUpon] at hr ⊢
   case value u => exact h _ _ hr
   case skip => exact h _ _ hr
   case enter f args => exact hr.mono fun e w'' ⟨v, he, hk⟩ => ⟨v, he, h _ _ hk⟩
 | halt x w' => exact hr
def okOp (P : Program) (ops : Array Oper) (o : Oper) (K : Value → World → Prop) (a : Act) (w : World) : Prop :=
 if Region.wanted o (yielded ops a.tmps) then okUpon P K ((execOp a.eval o).run P w) else K undef w
theorem okOp_mono {o : Oper} {K K' : Value → World → Prop} (h : ∀ v w, K v w → K' v w) {a : Act} {w : World} (hr : okOp P ops o K a w) : okOp P ops o K' a w := by
 unfold okOp at *
 split
 · rename_i hw; rw [if_pos hw] at hr; exact okUpon_mono h hr
 · rename_i hw; rw [if_neg hw] at hr; exact h _ _ hr
def anyA (P : Program) (ops : Array Oper) (w0 : World) (n : Nat) (L : Array Bool → Act → World → Prop) : Nat → Array Bool → Act → World → Prop
 | 0, listed, a, w => (∀ j ∈ Region.ready .any ops listed, n ≤ j) ∧ ∀ w1, Grw w w1 → L listed a w1
 | f + 1, listed, a, w => ∀ w1, Grw w w1 → Region.ready .any ops listed ≠ [] ∧ ∀ j ∈ Region.ready .any ops listed, j < n ∧ ∀ o, ops[j]? = some o →
     okOp P ops o (fun v w2 => Grw w0 w2 ∧ anyA P ops w0 n L f (listed.setIfInBounds j true) (a.put o.dst v) w2) a w1
theorem anyA_stab {n : Nat} {L : Array Bool → Act → World → Prop} {f : Nat} {listed : Array Bool} {a : Act} {w w1 : World} (h : anyA P ops w0 n L f listed a w) (hw : Grw w w1) : anyA P ops w0 n L f listed a w1 := by
 cases f with
 | zero => exact ⟨h.1, fun w2 h2 => h.2 w2 (hw.trans h2)⟩
 | succ f => exact fun w2 h2 => h w2 (hw.trans h2)
theorem YieldsG.put {o o' : Oper} {v : Value} {a : Act} (hs : ∀ cs b, o.op ≠ .select cs b) (hap : ∀ d, o'.dst = some d → d ∉ o.looksAt ops) (u : Value)
   (hy : YieldsG P ops w0 o v a) : YieldsG P ops w0 o v (a.put o'.dst u) := by
 unfold YieldsG qAt at *
 rw [execOp_put o hs a o'.dst u hap, wanted_put o a o'.dst u hap]
 exact hy
theorem YieldsG.okOp {o : Oper} {v : Value} {a : Act} {w : World} (hy : YieldsG P ops w0 o v a) (hw : Grw w0 w) {K : Value → World → Prop} (h : ∀ w1, Grw w w1 → K v w1) : okOp P ops o K a w := by
 unfold YtokkghhmliplfaaGreat.okOp
 rcases hy with ⟨h1, h2⟩ | ⟨h1, rfl⟩
 · rw [if_pos h1]
   have h3 := h2 w hw
   unfold qAt at h3
   generalize (execOp a.eval o).run P w = r at h3 ⊢
   cases r with
   | ok x w' =>
     cases x <;> simp only [qUpon, okUpon] at h3 ⊢
     case value u => obtain ⟨rfl, rfl⟩ := h3; exact h _ (Grw.refl _)
     case skip => obtain ⟨rfl, rfl⟩ := h3; exact h _ (Grw.refl _)
     case enter f args => obtain ⟨rfl, h4⟩ := h3; exact h4.mono fun e w'' ⟨he, hg⟩ => ⟨v, he, h _ hg⟩
   | halt x w' => simp only [qUpon] at h3
 · rw [if_neg (by rw [h1]; exact Bool.false_ne_true)]
   exact h _ (Grw.refl _)
def Clo (ops : Array Oper) (listed : Array Bool) : Prop := ∀ (j : Nat) (o : Oper), ops[j]? = some o → listed.getD j false = true → ∀ e ∈ o.after, Region.binds .any e = true → listed.getD e.on false = true
theorem Clo.add {listed : Array Bool} (h : Clo ops listed) {j : Nat} (hj : j ∈ Region.ready .any ops listed) : Clo ops (listed.setIfInBounds j true) := fun k o ho hk e he hb => by
 obtain ⟨hun, oj, hoj, hall⟩ := mem_ready.1 hj
 have key : listed.getD e.on false = true := by
   by_cases hkj : k = j
   · subst hkj
     obtain rfl : oj = o := Option.some.inj (hoj.symm.trans ho)
     exact hall e he hb
   · rw [getD_set_ne false (Ne.symm hkj)] at hk
     exact h k o ho hk e he hb
 by_cases hej : e.on = j
 · rw [hej, getD_both hun] at key; cases key
 · rw [getD_set_ne false (Ne.symm hej)]; exact key
def waitsT (ops : Array Oper) : Nat → Nat → Nat → Bool
 | 0, _, _ => false
 | f + 1, t, k => match ops[t]? with
   | some o => o.after.any fun e => Region.binds .any e && (decide (e.on = k) || waitsT ops f e.on k)
   | none => false
theorem waitsT_listed {listed : Array Bool} (hc : Clo ops listed) {k : Nat} : ∀ (f t : Nat), waitsT ops f t k = true → listed.getD t false = true → listed.getD k false = true
 | 0, _, h, _ => by simp [waitsT] at h
 | f + 1, t, h, hl => by
   unfold waitsT at h
   split at h
   · rename_i o ho
     obtain ⟨i, hi, hx⟩ := Array.any_eq_true.1 h
     simp only [Bool.and_eq_true, Bool.or_eq_true, decide_eq_true_eq] at hx
     have h1 := hc t o ho hl _ (Array.getElem_mem hi) hx.1
     rcases hx.2 with h2 | h2
     · rw [← h2]; exact h1
     · exact waitsT_listed hc f _ h2 h1
   · cases h
theorem waitsT_ready {listed : Array Bool} (hc : Clo ops listed) {k : Nat} (hk : listed.getD k false = false) : ∀ (f t : Nat), waitsT ops f t k = true → t ∉ Region.ready .any ops listed
 | 0, _, h => by simp [waitsT] at h
 | f + 1, t, h => fun hr => by
   obtain ⟨hun, oj, hoj, hall⟩ := mem_ready.1 hr
   unfold waitsT at h
   rw [hoj] at h
   obtain ⟨i, hi, hx⟩ := Array.any_eq_true.1 h
   simp only [Bool.and_eq_true, Bool.or_eq_true, decide_eq_true_eq] at hx
   have h1 := hall _ (Array.getElem_mem hi) hx.1
   rcases hx.2 with h2 | h2
   · rw [h2, hk] at h1; cases h1
   · rw [waitsT_listed hc f _ h2 h1] at hk; cases hk
theorem anyA_first {n i : Nat} {oi : Oper} {v : Value} {L : Array Bool → Act → World → Prop} (hi : ops[i]? = some oi) (hsel : ∀ (j : Nat) (o : Oper) cs b, ops[j]? = some o → o.op ≠ .select cs b)
   (hT : ∀ t, n ≤ t → t < ops.size → ∃ f, waitsT ops f t i = true) (hin : i < n) :
   ∀ (f : Nat) (listed : Array Bool) (a : Act) (w : World), Grw w0 w → Clo ops listed →
     (∀ j oj, ops[j]? = some oj → j ≠ i → listed.getD j true = false → (∀ e ∈ oj.after, Region.binds .any e = true → e.on ≠ i) → oi.apart ops oj = true) →
     i ∈ Region.ready .any ops listed → YieldsG P ops w0 oi v a →
     anyA P ops w0 n L f (listed.setIfInBounds i true) (a.put oi.dst v) w → anyA P ops w0 n L (f + 1) listed a w := by
 intro f
 induction f with
 | zero =>
   intro listed a w hw hclo hfree hr hy H w1 hw1
   have hun := (mem_ready.1 hr).1
   refine ⟨fun h => (by rw [h] at hr; cases hr), fun j hj => ?_⟩
   have hjn : j < n := by
     rcases Nat.lt_or_ge j n with h | h
     · exact h
     · obtain ⟨_, oj, hoj, hall⟩ := mem_ready.1 hj
       obtain ⟨ff, hff⟩ := hT j h (Array.getElem?_eq_some_iff.1 hoj).1
       exact absurd hj (waitsT_ready hclo (getD_both hun) ff j hff)
   refine ⟨hjn, fun o ho => ?_⟩
   by_cases hji : j = i
   · subst hji
     obtain rfl : oi = o := Option.some.inj (hi.symm.trans ho)
     exact hy.okOp (hw.trans hw1) fun w2 h2 => ⟨(hw.trans hw1).trans h2, anyA_stab H (hw1.trans h2)⟩
   · have := H.1 j (ready_mono hj hji)
     omega
 | succ f ih =>
   intro listed a w hw hclo hfree hr hy H w1 hw1
   have hun := (mem_ready.1 hr).1
   refine ⟨fun h => (by rw [h] at hr; cases hr), fun j hj => ?_⟩
   have hjn : j < n := by
     rcases Nat.lt_or_ge j n with h | h
     · exact h
     · obtain ⟨_, oj, hoj, hall⟩ := mem_ready.1 hj
       obtain ⟨ff, hff⟩ := hT j h (Array.getElem?_eq_some_iff.1 hoj).1
       exact absurd hj (waitsT_ready hclo (getD_both hun) ff j hff)
   refine ⟨hjn, fun oj hoj => ?_⟩
   by_cases hji : j = i
   · subst hji
     obtain rfl : oi = oj := Option.some.inj (hi.symm.trans hoj)
     exact hy.okOp (hw.trans hw1) fun w2 h2 => ⟨(hw.trans hw1).trans h2, anyA_stab H (hw1.trans h2)⟩
   · obtain ⟨hjun, oj', hoj', hall⟩ := mem_ready.1 hj
     obtain rfl : oj' = oj := Option.some.inj (hoj'.symm.trans hoj)
     have hnot : ∀ e ∈ oj'.after, Region.binds .any e = true → e.on ≠ i := fun e he hb heq => by
       have h1 := hall e he hb
       rw [heq, getD_both hun] at h1; cases h1
     obtain ⟨a1, a2, a3⟩ := Oper.apart_spec (hfree j oj' hoj hji hjun hnot)
     have h1 := ((H w1 hw1).2 j (ready_mono hj hji)).2 oj' hoj
     have h2 : okOp P ops oj' (fun u w2 => Grw w0 w2 ∧ anyA P ops w0 n L f ((listed.setIfInBounds i true).setIfInBounds j true) ((a.put oi.dst v).put oj'.dst u) w2) a w1 := by
       unfold okOp at h1 ⊢
       rw [wanted_put oj' a oi.dst v a1, execOp_put oj' (fun cs b => hsel j oj' cs b hoj) a oi.dst v a1] at h1
       exact h1
     refine okOp_mono (fun u w2 ⟨hg, hA⟩ => ⟨hg, ?_⟩) h2
     refine ih (listed.setIfInBounds j true) (a.put oj'.dst u) w2 hg (hclo.add hj) (fun k ok hk hki hunk hno => ?_) (ready_mono hr (Ne.symm hji)) (hy.put (fun cs b => hsel i oi cs b hi) a3 u) ?_
     · refine hfree k ok hk hki ?_ hno
       by_cases hjk : j = k
       · subst hjk; exact hjun
       · rw [getD_set_ne true hjk] at hunk; exact hunk
     · rw [Array.setIfInBounds_comm _ _ hji, ← Act.put_comm a v u a2]
       exact hA
def wpQ (P : Program) (ops : Array Oper) (w0 : World) (Q : Act → Prop) : List Oper → Act → Prop
 | [], a => Q a
 | o :: rest, a => if Region.wanted o (yielded ops a.tmps) then ∃ v, (∀ p : GrownBy, qAt P o a (grow (wd w0 p.n) p.os) v) ∧ wpQ P ops w0 Q rest (a.put o.dst v) else wpQ P ops w0 Q rest (a.put o.dst undef)
termination_by l => l.length
theorem wpQ_nil {Q : Act → Prop} {a : Act} (h : Q a) : wpQ P ops w0 Q [] a := by unfold wpQ; exact h
theorem wpQ_step {Q : Act → Prop} {a : Act} {o : Oper} {rest : List Oper}
   (h : ∀ K : Act → Prop, (∀ a, wpQ P ops w0 Q rest a → K a) → if Region.wanted o (yielded ops a.tmps) then ∃ v, (∀ p : GrownBy, qAt P o a (grow (wd w0 p.n) p.os) v) ∧ K (a.put o.dst v) else K (a.put o.dst undef)) : wpQ P ops w0 Q (o :: rest) a := by
 unfold wpQ; exact h _ (fun _ h => h)
def flowFrom (ops : Array Oper) (n : Nat) : Nat → Nat → Array Bool → Bool
 | 0, _, _ => true
 | f + 1, k, listed => decide (k < n) && (Region.ready .any ops listed).contains k && Region.free .any ops listed k &&
     ((List.range ops.size).all fun t => decide (t < n) || waitsT ops ops.size t k) && flowFrom ops n f (k + 1) (listed.setIfInBounds k true)
def listedTo (m k : Nat) : Array Bool := (List.range k).foldl (fun l i => l.setIfInBounds i true) (Array.replicate m false)
def flowB (ops : Array Oper) (np n : Nat) : Bool := Region.noSelect ops && decide (np ≤ ops.size) && flowFrom ops n np 0 (Array.replicate ops.size false)
theorem listedTo_succ (m k : Nat) : listedTo m (k + 1) = (listedTo m k).setIfInBounds k true := by
 simp [listedTo, List.range_succ]
theorem clo_none (m : Nat) (hm : ops.size = m) : Clo ops (Array.replicate m false) := fun j o ho hl => by
 have := (Array.getElem?_eq_some_iff.1 ho).1
 subst hm
 simp [Array.getD, this] at hl
theorem anyA_lex {n g : Nat} {L : Array Bool → Act → World → Prop} (hsel : Region.noSelect ops = true) : ∀ (l : List Oper) (k : Nat) (a : Act) (w : World), Grw w0 w → Clo ops (listedTo ops.size k) → (∀ j, j < l.length → l[j]? = ops[k + j]?) →
   flowFrom ops n l.length k (listedTo ops.size k) = true →
   wpQ P ops w0 (fun a' => ∀ w1, Grw w0 w1 → anyA P ops w0 n L g (listedTo ops.size (k + l.length)) a' w1) l a →
   anyA P ops w0 n L (l.length + g) (listedTo ops.size k) a w
 | [], k, a, w, hw, _, _, _, h => by unfold wpQ at h; simpa using h w hw
 | o :: l, k, a, w, hw, hclo, hl, hB, h => by
   have h0 : ops[k]? = some o := by simpa using (hl 0 (by simp)).symm
   simp only [List.length_cons, flowFrom, Bool.and_eq_true, decide_eq_true_eq] at hB
   obtain ⟨⟨⟨⟨hkn, hr⟩, hf⟩, ht⟩, hB'⟩ := hB
   have hT : ∀ t, n ≤ t → t < ops.size → ∃ f, waitsT ops f t k = true := fun t hnt hot => by
     have h1 := List.all_eq_true.1 ht t (List.mem_range.2 hot)
     simp only [Bool.or_eq_true, decide_eq_true_eq] at h1
     rcases h1 with h1 | h1
     · omega
     · exact ⟨_, h1⟩
   have step : ∃ v, YieldsG P ops w0 o v a ∧ wpQ P ops w0 (fun a' => ∀ w1, Grw w0 w1 → anyA P ops w0 n L g (listedTo ops.size (k + (l.length + 1))) a' w1) l (a.put o.dst v) := by
     unfold wpQ at h
     split at h
     · rename_i hw'
       obtain ⟨v, h1, h2⟩ := h
       exact ⟨v, .inl ⟨hw', fun w2 ⟨p, hp⟩ => hp ▸ h1 p⟩, h2⟩
     · rename_i hw'
       exact ⟨undef, .inr ⟨by simpa using hw', rfl⟩, h⟩
   obtain ⟨v, hy, hK⟩ := step
   have e : (o :: l).length + g = (l.length + g) + 1 := by simp; omega
   rw [e]
   have hr' : k ∈ Region.ready .any ops (listedTo ops.size k) := by simpa using hr
   refine anyA_first h0 (Region.noSelect_spec hsel) hT hkn (l.length + g) _ a w hw hclo (Region.free_spec h0 hf) hr' hy ?_
   have hclo' := hclo.add hr'
   rw [← listedTo_succ] at hclo' ⊢
   refine anyA_lex hsel l (k + 1) _ w hw hclo' (fun j hj => ?_) (by rw [listedTo_succ]; exact hB') ?_
   · have := hl (j + 1) (by simp; omega)
     simpa [Nat.add_assoc, Nat.add_comm 1 j] using this
   · rw [show k + 1 + l.length = k + (l.length + 1) by omega]; exact hK
theorem wpOp_of_okOp {i : Nat} {o : Oper} (ho : ops[i]? = some o) {K : Value → World → Prop} {K' : Act → World → Prop} {Q : Exit → Act → World → Prop} {a : Act} {w : World} (h : ∀ v w', K v w' → K' (a.put o.dst v) w')
   (hk : okOp P ops o K a w) : wpOp P ops Q i K' a w := by
 unfold okOp at hk
 unfold wpOp
 simp only [ho]
 split
 · rename_i hw
   rw [if_pos hw] at hk
   refine .inl ?_
   unfold Oper.wp
   generalize (execOp a.eval o).run P w = r at hk ⊢
   cases r with
   | ok x w' =>
     cases x <;> simp only [okUpon] at hk <;> simp only [Oper.upon]
     case value u => exact h _ _ hk
     case skip => exact h _ _ hk
     case enter f args => exact hk.mono fun e w'' ⟨v, he, hv⟩ => by subst he; exact h _ _ hv
   | halt x w' => simp only [okUpon] at hk
 · rename_i hw
   rw [if_neg hw] at hk
   exact h _ _ hk
theorem wpAny_of_anyA {n g : Nat} {L : Array Bool → Act → World → Prop} {Q : Exit → Act → World → Prop} (hL : ∀ listed a w, L listed a w → wpAny P .any ops Q g listed a w) :
   ∀ (f : Nat) (listed : Array Bool) (a : Act) (w : World), anyA P ops w0 n L f listed a w → wpAny P .any ops Q (f + g) listed a w
 | 0, listed, a, w, h => by rw [Nat.zero_add]; exact hL _ _ _ (h.2 w (Grw.refl w))
 | f + 1, listed, a, w, h => by
   rw [show f + 1 + g = (f + g) + 1 by omega]
   obtain ⟨h1, h2⟩ := h w (Grw.refl w)
   refine ⟨fun h0 => absurd h0 h1, fun i hi => ?_⟩
   obtain ⟨_, o, ho, _⟩ := mem_ready.1 hi
   exact wpOp_of_okOp ho (fun v w' hv => wpAny_of_anyA hL f _ _ _ hv.2) ((h2 i hi).2 o ho)
theorem wpQ_mono {Q Q' : Act → Prop} (h : ∀ a, Q a → Q' a) : ∀ (l : List Oper) (a : Act), wpQ P ops w0 Q l a → wpQ P ops w0 Q' l a
 | [], a, hh => by unfold wpQ at hh ⊢; exact h a hh
 | o :: l, a, hh => by
   unfold wpQ at hh ⊢
   split
   · rename_i hw
     rw [if_pos hw] at hh
     obtain ⟨v, h1, h2⟩ := hh
     exact ⟨v, h1, wpQ_mono h l _ h2⟩
   · rename_i hw
     rw [if_neg hw] at hh
     exact wpQ_mono h l _ hh
theorem wp_region_flowA {id : Nat} {Q : Exit → Act → World → Prop} {a : Act} {w : World} {l : List Oper} (n : Nat) (hm : P.follows .mixedOrders = true)
   (hB : (flowB l.toArray n n && (Region.ready .any l.toArray (listedTo l.length n)).all (fun j => decide (n ≤ j)) && Region.seqB .any l.toArray (l.length - n) n (listedTo l.length n)) = true)
   (h : wpQ P l.toArray w (fun a' => ∀ w1, Grw w w1 → wpList P l.toArray Q (l.drop n) a' w1) (l.take n) a) : (Code.region id l.toArray true).wp P Q a w := by
 simp only [Bool.and_eq_true, flowB, decide_eq_true_eq] at hB
 obtain ⟨⟨⟨⟨hsel, hn⟩, hfl⟩, hrd⟩, hseq⟩ := hB
 have hn' : n ≤ l.length := by simpa using hn
 have htl : (l.take n).length = n := by simp; omega
 have hsz : l.toArray.size = l.length := by simp
 refine wp_region_any hm ?_
 have H := anyA_lex (P := P) (w0 := w) (n := n) (g := 0) (L := fun listed a' w' => listed = listedTo l.length n ∧ wpList P l.toArray Q (l.drop n) a' w') hsel (l.take n) 0 a ({ w with drawn := w.drawn + 1 }) ((Grw.refl w).drewN 1) (clo_none _ rfl)
   (fun j hj => by simp only [Nat.zero_add]; rw [htl] at hj; simp [hj]) (by rw [htl]; exact hfl) (by
     have e : 0 + (l.take n).length = n := by omega
     rw [e, hsz]
     exact wpQ_mono (fun a' ha' w1 hw1 => ⟨fun j hj => by simpa using List.all_eq_true.1 hrd j hj, fun w2 hw2 => ⟨rfl, ha' w2 (hw1.trans hw2)⟩⟩) _ _ h)
 have H2 := wpAny_of_anyA (w0 := w) (Q := Q) (g := l.length - n) (fun listed a' w' ⟨e, hL⟩ => by
   subst e
   have := wpAny_of_seq (md := .any) (Q' := Q) (l.drop n) n (listedTo l.length n) a' w' (fun j => by simp [List.getElem?_drop]) (by simpa using hseq) hL
   simpa using this) _ _ _ _ H
 rw [htl] at H2
 have e1 : n + 0 + (l.length - n) = l.toArray.size := by omega
 rw [e1] at H2
 exact H2
def okList (P : Program) (ops : Array Oper) (w0 : World) (Q : Act → World → Prop) : List Oper → Act → World → Prop
 | [], a, w => ∀ w1, Grw w w1 → Q a w1
 | o :: rest, a, w => ∀ w1, Grw w w1 → okOp P ops o (fun v w2 => Grw w0 w2 ∧ okList P ops w0 Q rest (a.put o.dst v) w2) a w1
theorem okList_nil {Q : Act → World → Prop} {a : Act} {w : World} (h : ∀ w1, Grw w w1 → Q a w1) : okList P ops w0 Q [] a w := h
theorem okList_step {Q : Act → World → Prop} {a : Act} {w : World} {o : Oper} {rest : List Oper}
   (h : ∀ w1, Grw w w1 → ∀ K : Value → World → Prop, (∀ v w2, Grw w0 w2 → okList P ops w0 Q rest (a.put o.dst v) w2 → K v w2) → okOp P ops o K a w1) : okList P ops w0 Q (o :: rest) a w :=
 fun w1 hw => h w1 hw _ fun _ _ hg hk => ⟨hg, hk⟩
theorem anyA_seq {Q : Act → World → Prop} : ∀ (l : List Oper) (k : Nat) (listed : Array Bool) (a : Act) (w : World), (∀ j, l[j]? = ops[k + j]?) → Region.seqB .any ops l.length k listed = true → okList P ops w0 Q l a w →
   anyA P ops w0 ops.size (fun listed' a' w' => Region.ready .any ops listed' = [] ∧ Q a' w') l.length listed a w
 | [], k, listed, a, w, _, hB, h => by
   have e : Region.ready .any ops listed = [] := by simpa [Region.seqB] using hB
   exact ⟨by simp [e], fun w1 hw => ⟨e, h w1 hw⟩⟩
 | o :: l, k, listed, a, w, hl, hB, h => by
   have h0 : ops[k]? = some o := by simpa using (hl 0).symm
   simp only [List.length_cons, Region.seqB, Bool.and_eq_true, decide_eq_true_eq] at hB
   intro w1 hw
   refine ⟨by rw [hB.1]; simp, fun j hj => ?_⟩
   rw [hB.1] at hj
   obtain rfl : j = k := by simpa using hj
   refine ⟨(Array.getElem?_eq_some_iff.1 h0).1, fun o' ho' => ?_⟩
   obtain rfl : o' = o := Option.some.inj (ho'.symm.trans h0)
   exact okOp_mono (fun v w2 ⟨hg, hk⟩ => ⟨hg, anyA_seq l (j + 1) _ _ _ (fun i => by have := hl (i + 1); simpa [Nat.add_assoc, Nat.add_comm 1 i] using this) hB.2 hk⟩) (h w1 hw)
theorem wp_region_flowB {id : Nat} {Q : Exit → Act → World → Prop} {a : Act} {w : World} {l : List Oper} (n : Nat) (hm : P.follows .mixedOrders = true)
   (hB : (flowB l.toArray n l.length && Region.seqB .any l.toArray (l.length - n) n (listedTo l.length n)) = true)
   (h : wpQ P l.toArray w (fun a' => ∀ w1, Grw w w1 → okList P l.toArray w (Q .normal) (l.drop n) a' w1) (l.take n) a) : (Code.region id l.toArray true).wp P Q a w := by
 simp only [Bool.and_eq_true, flowB, decide_eq_true_eq] at hB
 obtain ⟨⟨⟨hsel, hn⟩, hfl⟩, hseq⟩ := hB
 have hn' : n ≤ l.length := by simpa using hn
 have htl : (l.take n).length = n := by simp; omega
 have hsz : l.toArray.size = l.length := by simp
 refine wp_region_any hm ?_
 have H := anyA_lex (P := P) (w0 := w) (n := l.toArray.size) (g := l.length - n) (L := fun listed a' w' => Region.ready .any l.toArray listed = [] ∧ Q .normal a' w') hsel (l.take n) 0 a ({ w with drawn := w.drawn + 1 }) ((Grw.refl w).drewN 1) (clo_none _ rfl)
   (fun j hj => by simp only [Nat.zero_add]; rw [htl] at hj; simp [hj]) (by rw [htl, hsz]; exact hfl) (by
     have e : 0 + (l.take n).length = n := by omega
     rw [e, hsz]
     refine wpQ_mono (fun a' ha' w1 hw1 => ?_) _ _ h
     have := anyA_seq (P := P) (w0 := w) (Q := Q .normal) (l.drop n) n (listedTo l.length n) a' w1 (fun j => by simp [List.getElem?_drop]) (by simpa using hseq) (ha' w1 hw1)
     simpa using this)
 have H2 := wpAny_of_anyA (w0 := w) (Q := Q) (g := 0) (fun listed a' w' hL => hL) _ _ _ _ H
 rw [htl] at H2
 have e1 : n + (l.length - n) + 0 = l.toArray.size := by omega
 rw [e1] at H2
 exact H2
theorem wp_region_flow {id : Nat} {Q : Exit → Act → World → Prop} {a : Act} {w : World} {l : List Oper} (hm : P.follows .mixedOrders = true)
   (hB : (flowB l.toArray l.length l.length && (Region.ready .any l.toArray (listedTo l.length l.length)).isEmpty) = true)
   (h : wpQ P l.toArray w (fun a' => ∀ w1, Grw w w1 → Q .normal a' w1) l a) : (Code.region id l.toArray true).wp P Q a w := by
 refine wp_region_flowB l.length hm (by simpa [Region.seqB] using hB) ?_
 simp only [List.take_length, List.drop_length]
 exact wpQ_mono (fun a' ha' w1 hw1 => okList_nil fun w2 hw2 => ha' w2 (hw1.trans hw2)) _ _ h
end flow
end
section
open Go.RowKit Go.Sort
attribute [local go_sem] qAt qUpon cell_in_grow frozen_in_grow
theorem ret_int {k : IntKind} {a b : Int} (h : a = b) : Ending.returned (.int k a) = .returned (.int k b) := by rw [h]
theorem ret_bool {a b : Bool} (h : a = b) : Ending.returned (.bool a) = .returned (.bool b) := by rw [h]
def sat (x : Int) : Int := if x < -536870911 then -536870911 else if 536870911 < x then 536870911 else x
theorem sat_lo (a : Int) : -536870911 ≤ sat a := by unfold sat; (repeat' split) <;> omega
theorem sat_hi (a : Int) : sat a ≤ 536870911 := by unfold sat; (repeat' split) <;> omega
theorem sat_eq (a : Int) : (sat a = a) ↔ (-536870911 ≤ a ∧ a ≤ 536870911) := by unfold sat; (repeat' split) <;> constructor <;> intro h <;> (try constructor) <;> omega
theorem mul_bd {a b m n : Int} (h1 : -m ≤ a) (h2 : a ≤ m) (h3 : -n ≤ b) (h4 : b ≤ n) : -(m * n) ≤ a * b ∧ a * b ≤ m * n := by
 have hm : 0 ≤ m := by omega
 have hn : 0 ≤ n := by omega
 rcases Int.le_total 0 a with ha | ha <;> rcases Int.le_total 0 b with hb | hb
 · have := Int.mul_le_mul h2 h4 hb hm; have := Int.mul_nonneg ha hb; omega
 · have := Int.mul_le_mul h2 (show -b ≤ n by omega) (by omega) hm; have := Int.mul_nonneg ha (show 0 ≤ -b by omega); rw [Int.mul_neg] at *; omega
 · have := Int.mul_le_mul (show -a ≤ m by omega) h4 hb hm; have := Int.mul_nonneg (show 0 ≤ -a by omega) hb; rw [Int.neg_mul] at *; omega
 · have := Int.mul_le_mul (show -a ≤ m by omega) (show -b ≤ n by omega) (by omega) hm; have := Int.mul_nonneg (show 0 ≤ -a by omega) (show 0 ≤ -b by omega); rw [Int.neg_mul_neg] at *; omega
theorem sat_mul (a b : Int) : -288230375077969921 ≤ sat a * sat b ∧ sat a * sat b ≤ 288230375077969921 := by
 have := mul_bd (sat_lo a) (sat_hi a) (sat_lo b) (sat_hi b); omega
def rdiv (n d : Int) : Int :=
 if d < 1 ∨ 4611686018427387904 < d ∨ n < -4611686018427387904 ∨ 4611686018427387904 < n then 0
 else if d - n.tmod d ≤ n.tmod d then n.tdiv d + 1 else if d + n.tmod d ≤ -n.tmod d then n.tdiv d - 1 else n.tdiv d
def clampI (x lo hi : Int) : Int := if hi < lo ∨ x < lo then lo else if hi < x then hi else x
def addI (a b : Int) : Int := sat (sat a + sat b)
def subI (a b : Int) : Int := sat (sat a - sat b)
def mulI (a b : Int) : Int := sat (rdiv (sat a * sat b) 65536)
def lerpI (a b t : Int) : Int := addI a (mulI (subI b a) t)
theorem saturate_any (x : Int) (w : World) :
   Calls Tryz.prog 83 #[.int .i64 x] w fun e w' => e = .returned (.int .i64 (sat x)) ∧ w = w' := by
 go_enter Tryz.func83, Tryz.ntmps83
 go_wp2
 all_goals
   go_ret
   exact ⟨ret_int (by unfold sat; (repeat' split) <;> omega), rfl⟩
theorem add_any (a b : Int) (w : World) :
   Calls Tryz.prog 79 #[.int .i64 a, .int .i64 b] w fun e w' => e = .returned (.int .i64 (addI a b)) ∧ w = w' := by
 have h1 := sat_lo a; have h2 := sat_hi a; have h3 := sat_lo b; have h4 := sat_hi b
 go_enter Tryz.func79, Tryz.ntmps79
 go_wp2_with (go_at_call 83; refine (saturate_any _ _).mono ?_; rintro e w1 ⟨rfl, rfl⟩)
 go_ret
 exact ⟨rfl, rfl⟩
theorem sub_any (a b : Int) (w : World) :
   Calls Tryz.prog 70 #[.int .i64 a, .int .i64 b] w fun e w' => e = .returned (.int .i64 (subI a b)) ∧ w = w' := by
 have h1 := sat_lo a; have h2 := sat_hi a; have h3 := sat_lo b; have h4 := sat_hi b
 go_enter Tryz.func70, Tryz.ntmps70
 go_wp2_with (go_at_call 83; refine (saturate_any _ _).mono ?_; rintro e w1 ⟨rfl, rfl⟩)
 go_ret
 exact ⟨rfl, rfl⟩
theorem rdiv_out {n d : Int} (h : d < 1 ∨ 4611686018427387904 < d ∨ n < -4611686018427387904 ∨ 4611686018427387904 < n) : rdiv n d = 0 := if_pos h
theorem rdiv_in {n d : Int} (h0 : 1 ≤ d) (h1 : d ≤ 4611686018427387904) (h2 : -4611686018427387904 ≤ n) (h3 : n ≤ 4611686018427387904) :
   rdiv n d = if d - n.tmod d ≤ n.tmod d then n.tdiv d + 1 else if d + n.tmod d ≤ -n.tmod d then n.tdiv d - 1 else n.tdiv d := if_neg (by omega)
theorem tdiv_bd {n d : Int} (h0 : 1 ≤ d) (h2 : -4611686018427387904 ≤ n) (h3 : n ≤ 4611686018427387904) : -4611686018427387904 ≤ n.tdiv d ∧ n.tdiv d ≤ 4611686018427387904 := by
 have h := Int.natAbs_tdiv_le_natAbs n d
 omega
theorem tmod_bd {n d : Int} (h0 : 1 ≤ d) : -d < n.tmod d ∧ n.tmod d < d := by
 have h1 := Int.lt_tmod_of_pos n (show 0 < d by omega); have h2 := Int.tmod_lt_of_pos n (show 0 < d by omega); exact ⟨h1, h2⟩
theorem rdiv_any (n d : Int) (w : World) :
   Calls Tryz.prog 147 #[.int .i64 n, .int .i64 d] w fun e w' => e = .returned (.int .i64 (rdiv n d)) ∧ Grw w w' := by
 by_cases h : d < 1 ∨ 4611686018427387904 < d ∨ n < -4611686018427387904 ∨ 4611686018427387904 < n
 · rw [rdiv_out h]
   go_enter Tryz.func147, Tryz.ntmps147
   go_wp2_with fail
   all_goals first
     | (exfalso; omega)
     | (go_ret; exact ⟨rfl, Grw.refl _⟩)
 · have h0 : 1 ≤ d := by omega
   have h1 : d ≤ 4611686018427387904 := by omega
   have h2 : -4611686018427387904 ≤ n := by omega
   have h3 : n ≤ 4611686018427387904 := by omega
   obtain ⟨b1, b2⟩ := tdiv_bd h0 h2 h3
   obtain ⟨b3, b4⟩ := tmod_bd (n := n) h0
   have HR := Lib.hid (rdiv_in h0 h1 h2 h3)
   clear h
   go_enter Tryz.func147, Tryz.ntmps147
   go_wp2_with fail
   have hd0 : d ≠ 0 := by omega
   have hw1 : IntKind.i64.wrap (n.tdiv d) = n.tdiv d := IntWalk.i64_in _ (by omega)
   refine wp_region_flow (by kernel_rfl) (by kernel_rfl) ?_
   (repeat (refine wpQ_step (fun K hK => ?_); go_simp; refine hK _ ?_; clear hK K))
   refine wpQ_nil ?_
   intro w1 hg1
   clear hw1
   go_wp2_with fail
   all_goals
     go_ret
     exact ⟨ret_int (by rw [HR.out]; (repeat' split) <;> omega), hg1⟩
theorem mul_any (a b : Int) (w : World) :
   Calls Tryz.prog 80 #[.int .i64 a, .int .i64 b] w fun e w' => e = .returned (.int .i64 (mulI a b)) ∧ Grw w w' := by
 have h1 := sat_lo a; have h2 := sat_hi a; have h3 := sat_lo b; have h4 := sat_hi b
 obtain ⟨h5, h6⟩ := sat_mul a b
 go_enter Tryz.func80, Tryz.ntmps80
 go_wp2_with (first | (go_at_call 83; refine (saturate_any _ _).mono ?_; rintro e w1 ⟨rfl, rfl⟩) | (go_at_call 147; refine (rdiv_any _ _ _).mono ?_; rintro e w1 ⟨rfl, hg⟩))
 go_ret
 exact ⟨rfl, by assumption⟩
theorem clamp_any (x lo hi : Int) (w : World) :
   Calls Tryz.prog 149 #[.int .i64 x, .int .i64 lo, .int .i64 hi] w fun e w' => e = .returned (.int .i64 (clampI x lo hi)) ∧ w = w' := by
 go_enter Tryz.func149, Tryz.ntmps149
 go_wp2_with fail
 all_goals
   go_ret
   exact ⟨ret_int (by unfold clampI; (repeat' split) <;> omega), rfl⟩
theorem lerp_any (a b t : Int) (w : World) :
   Calls Tryz.prog 34 #[.int .i64 a, .int .i64 b, .int .i64 t] w fun e w' => e = .returned (.int .i64 (lerpI a b t)) ∧ Grw w w' := by
 go_enter Tryz.func34, Tryz.ntmps34
 go_wp2_with (first | (go_at_call 70; refine (sub_any _ _ _).mono ?_; rintro e w1 ⟨rfl, rfl⟩) | (go_at_call 79; refine (add_any _ _ _).mono ?_; rintro e w1 ⟨rfl, rfl⟩) | (go_at_call 80; refine (mul_any _ _ _).mono ?_; rintro e w1 ⟨rfl, hg⟩))
 go_ret
 exact ⟨rfl, by assumption⟩
def isqN (n : Nat) : Nat → Nat → Nat
 | 0, r => r
 | j + 1, r => if (r ||| 2 ^ j) * (r ||| 2 ^ j) ≤ n then isqN n j (r ||| 2 ^ j) else isqN n j r
def isqI (n : Int) : Int := if n < 0 ∨ 4611686018427387904 < n then 0 else (isqN n.toNat 32 0 : Nat)
theorem isqN_lt (n : Nat) : ∀ (j r : Nat), j ≤ 32 → r < 4294967296 → isqN n j r < 4294967296
 | 0, r, _, h => h
 | j + 1, r, hj, h => by
   unfold isqN
   have h2 : (2 : Nat) ^ j < 2 ^ 32 := Nat.pow_lt_pow_right (by omega) (by omega)
   have h3 : r ||| 2 ^ j < 2 ^ 32 := Nat.or_lt_two_pow (by omega) h2
   split
   · exact isqN_lt n j _ (by omega) (by omega)
   · exact isqN_lt n j _ (by omega) h
theorem isqI_bd (n : Int) : 0 ≤ isqI n ∧ isqI n < 4294967296 := by
 unfold isqI
 split
 · omega
 · have := isqN_lt n.toNat 32 0 (by omega) (by omega); omega
theorem ofInt_i64 (a : Nat) (ha : a < 9223372036854775808) : (BitVec.ofInt 64 (a : Int)).toNat = a := by
 rw [BitVec.ofInt_natCast, BitVec.toNat_ofNat]; exact Nat.mod_eq_of_lt (by omega)
theorem i64_or_nat (a b : Nat) (ha : a < 9223372036854775808) (hb : b < 9223372036854775808) : bits .or .i64 (a : Int) (b : Int) = ((a ||| b : Nat) : Int) := by
 have hx : a ||| b < 2 ^ 63 := Nat.or_lt_two_pow (by omega) (by omega)
 show IntKind.i64.wrap ((BitVec.ofInt 64 (a : Int) ||| BitVec.ofInt 64 (b : Int)).toNat : Int) = _
 rw [BitVec.toNat_or, ofInt_i64 a ha, ofInt_i64 b hb, IntKind.wrap_i64]
 omega
theorem isqrt_any (n : Int) (w : World) :
   Calls Tryz.prog 72 #[.int .i64 n] w fun e w' => e = .returned (.int .i64 (isqI n)) ∧ w = w' := by
 by_cases h : n < 0 ∨ 4611686018427387904 < n
 · have hz : isqI n = 0 := if_pos h
   rw [hz]
   go_enter Tryz.func72, Tryz.ntmps72
   by_cases hn : n < 0
   · go_wp2_with fail
     go_ret
     exact ⟨rfl, rfl⟩
   · have hn2 : 4611686018427387904 < n := by omega
     go_wp2_with fail
     go_ret
     exact ⟨rfl, rfl⟩
 · have hn1 : 0 ≤ n := by omega
   have hn2 : n ≤ 4611686018427387904 := by omega
   obtain ⟨m, rfl⟩ := Int.eq_ofNat_of_zero_le hn1
   have hz : isqI (m : Int) = (isqN m 32 0 : Nat) := by unfold isqI; rw [if_neg h]; simp
   rw [hz]
   clear hz h
   have hm : m ≤ 4611686018427387904 := by omega
   go_enter Tryz.func72, Tryz.ntmps72
   go_wp2_with fail
   all_goals try (exfalso; omega)
   go_loopg [3, 4, 5] 32 (fun g r b x wr => ∃ j k : Nat, r = .int .i64 (k : Nat) ∧ b = .int .i64 ((2 ^ j / 2 : Nat) : Int) ∧ j ≤ g ∧ j ≤ 32 ∧ k < 4294967296 ∧ isqN m j k = isqN m 32 0 ∧ wr = w)
   case atStart => exact ⟨32, 0, rfl, rfl, Nat.le_refl _, Nat.le_refl _, by omega, rfl, rfl⟩
   case round =>
     obtain ⟨j, k, rfl, rfl, hg, hj, hk, hI, rfl⟩ := hrel
     rcases j with _ | j
     · have HI := Lib.hid hI
       clear hI
       go_wp2_with fail
       go_ret
       exact ⟨ret_int (by rw [← HI.out]; rfl), rfl⟩
     · obtain ⟨b, hb⟩ : ∃ b, b = 2 ^ j := ⟨_, rfl⟩
       have hb2 : 2 ^ (j + 1) / 2 = b := by rw [hb, Nat.pow_succ]; omega
       have hb1 : b < 4294967296 := by
         have : (2 : Nat) ^ j < 2 ^ 32 := Nat.pow_lt_pow_right (by omega) (by omega)
         omega
       have hb0 : 0 < b := by rw [hb]; exact Nat.two_pow_pos j
       rw [hb2]
       have hor := i64_or_nat k b (by omega) (by omega)
       obtain ⟨x, hx⟩ : ∃ x, x = k ||| b := ⟨_, rfl⟩
       have hx1 : x < 4294967296 := by rw [hx]; exact Nat.or_lt_two_pow (n := 32) (by omega) (by omega)
       have hxx : x * x ≤ 18446744065119617025 := Nat.mul_le_mul (show x ≤ 4294967295 by omega) (show x ≤ 4294967295 by omega)
       rw [← hx] at hor
       have HX := Lib.hid hx
       have HB := Lib.hid hb
       have HI := Lib.hid hI
       clear hb2 hx hb hI
       have hdv : ((b : Int) / 2) = ((2 ^ j / 2 : Nat) : Int) := by rw [← HB.out]; simp
       have HD := Lib.hid hdv
       clear hdv
       by_cases hle : x * x ≤ m
       · go_wp2_with fail
         go_roundg j
         case measure => omega
         case rel => exact ⟨j, x, rfl, by rw [HD.out], Nat.le_refl _, by omega, hx1, by rw [← HI.out]; show _ = if _ then _ else _; rw [← HB.out, ← HX.out, if_pos hle], rfl⟩
       · have hlt : m < x * x := by omega
         clear hle
         go_wp2_with fail
         go_roundg j
         case measure => omega
         case rel => exact ⟨j, k, rfl, by rw [HD.out], Nat.le_refl _, by omega, hk, by rw [← HI.out]; show _ = if _ then _ else _; rw [← HB.out, ← HX.out, if_neg (by omega)], rfl⟩
def divI (a b : Int) : Int := if sat b = 0 then clampI (sat a * 65536) (-1) 1 * 536870911 else if sat b < 0 then sat (rdiv (-(sat a * 65536)) (-sat b)) else sat (rdiv (sat a * 65536) (sat b))
def ratioI (n d : Int) : Int := if d < 1 ∨ 4611686018427387904 < d ∨ n < 1 then 0 else if d ≤ n then 65536 else if d < 70368744177664 then rdiv (n * 65536) d else min (rdiv n (rdiv d 65536)) 65536
theorem clampI_bd (x lo hi : Int) (h : lo ≤ hi) : lo ≤ clampI x lo hi ∧ clampI x lo hi ≤ hi := by unfold clampI; (repeat' split) <;> omega
theorem div_any (a b : Int) (w : World) :
   Calls Tryz.prog 78 #[.int .i64 a, .int .i64 b] w fun e w' => e = .returned (.int .i64 (divI a b)) ∧ Grw w w' := by
 have h1 := sat_lo a; have h2 := sat_hi a; have h3 := sat_lo b; have h4 := sat_hi b
 obtain ⟨h5, h6⟩ := clampI_bd (sat a * 65536) (-1) 1 (by omega)
 go_enter Tryz.func78, Tryz.ntmps78
 go_wp2_with (first | (go_at_call 83; refine (saturate_any _ _).mono ?_; rintro e w1 ⟨rfl, rfl⟩) | (go_at_call 149; refine (clamp_any _ _ _ _).mono ?_; rintro e w1 ⟨rfl, rfl⟩) | (go_at_call 147; refine (rdiv_any _ _ _).mono ?_; rintro e w1 ⟨rfl, hg⟩))
 all_goals
   go_ret
   refine ⟨ret_int (by unfold divI; (repeat' split) <;> (first | rfl | (exfalso; omega) | (simp only [beq_iff_eq, beq_eq_false_iff_ne] at *; omega))), by first | assumption | exact Grw.refl _⟩
theorem ratio_any (n d : Int) (w : World) :
   Calls Tryz.prog 73 #[.int .i64 n, .int .i64 d] w fun e w' => e = .returned (.int .i64 (ratioI n d)) ∧ Grw w w' := by
 by_cases h : d < 1 ∨ 4611686018427387904 < d ∨ n < 1
 · have hz : ratioI n d = 0 := if_pos h
   rw [hz]
   go_enter Tryz.func73, Tryz.ntmps73
   go_wp2_with fail
   all_goals first
     | (exfalso; omega)
     | (go_ret; exact ⟨rfl, Grw.refl _⟩)
 · have h0 : 1 ≤ d := by omega
   have h1 : d ≤ 4611686018427387904 := by omega
   have h2 : 1 ≤ n := by omega
   have HR := Lib.hid (show ratioI n d = _ from if_neg h)
   clear h
   go_enter Tryz.func73, Tryz.ntmps73
   go_wp2_with (go_at_call 147; refine (rdiv_any _ _ _).mono ?_; rintro e w1 ⟨rfl, hg⟩; (try replace hg := Grw.trans (by assumption) hg))
   all_goals
     go_ret
     exact ⟨ret_int (by rw [HR.out]; (repeat' split) <;> (first | rfl | (exfalso; omega) | omega)), by first | assumption | exact Grw.refl _⟩
def prodI (n : Int) : Int := sat (rdiv n 65536)
def dotI (a b c d : Int) : Int := prodI (sat a * sat c + sat b * sat d)
def crossI (a b c d : Int) : Int := prodI (sat a * sat d - sat b * sat c)
def dsqI (a b c d : Int) : Int := (sat c - sat a) * (sat c - sat a) + (sat d - sat b) * (sat d - sat b)
def lenI (a b : Int) : Int := isqI (dsqI 0 0 a b)
def orientI (a b c d e f : Int) : Int := min 1 (max (-1) ((sat c - sat a) * (sat f - sat b) - (sat d - sat b) * (sat e - sat a)))
theorem vsat_any (a b : Int) (w : World) :
   Calls Tryz.prog 85 #[.agg #[.int .i64 (a), .int .i64 (b)]] w fun e w' => e = .returned (.agg #[.int .i64 (sat a), .int .i64 (sat b)]) ∧ Grw w w' := by
 go_enter Tryz.func85, Tryz.ntmps85
 go_wp2_with fail
 (refine wp_region_flowA 7 (by kernel_rfl) (by kernel_rfl) ?_; simp only [tD]; (repeat (refine wpQ_step (fun K hK => ?_); go_simp; first | (refine hK _ ?_; clear hK K) | (apply Exists.intro; refine ⟨fun _ => ?_, hK _ ?_⟩; (first | (go_at_call 83; exact (saturate_any _ _).mono fun _ _ h => ⟨h.1, h.2 ▸ Grw.refl _⟩)); clear hK K))); refine wpQ_nil ?_)
 intro w2 hg2
 obtain ⟨hc2, hf2⟩ := hg2.cells
 go_wp2_with fail
 refine bodyPost_ret (v := .agg #[.int .i64 (sat a), .int .i64 (sat b)]) (by simp [results, Tryz.results85, go_sem, hc2]) rfl ⟨rfl, ?_⟩
 (repeat with_reducible first | exact .refl _ | assumption | refine .setAt ?_ (by first | omega | simp <;> omega) _ | refine .alloc ?_ _ | refine .drewN ?_ _ | refine .drew ?_ | refine .trans ?_ (by assumption))
theorem product_any (n : Int) (w : World) :
   Calls Tryz.prog 146 #[.int .i64 n] w fun e w' => e = .returned (.int .i64 (prodI n)) ∧ Grw w w' := by
 go_enter Tryz.func146, Tryz.ntmps146
 go_wp2_with (first | (go_at_call 83; refine (saturate_any _ _).mono ?_; rintro e w1 ⟨rfl, rfl⟩) | (go_at_call 147; refine (rdiv_any _ _ _).mono ?_; rintro e w1 ⟨rfl, hg⟩))
 go_ret
 exact ⟨rfl, by assumption⟩
theorem vadd_any (a b c d : Int) (w : World) :
   Calls Tryz.prog 76 #[.agg #[.int .i64 (a), .int .i64 (b)], .agg #[.int .i64 (c), .int .i64 (d)]] w fun e w' => e = .returned (.agg #[.int .i64 (addI a c), .int .i64 (addI b d)]) ∧ Grw w w' := by
 go_enter Tryz.func76, Tryz.ntmps76
 go_wp2_with fail
 (refine wp_region_flowA 11 (by kernel_rfl) (by kernel_rfl) ?_; simp only [tD]; (repeat (refine wpQ_step (fun K hK => ?_); go_simp; first | (refine hK _ ?_; clear hK K) | (apply Exists.intro; refine ⟨fun _ => ?_, hK _ ?_⟩; (first | (go_at_call 79; exact (add_any _ _ _).mono fun _ _ h => ⟨h.1, h.2 ▸ Grw.refl _⟩)); clear hK K))); refine wpQ_nil ?_)
 intro w2 hg2
 obtain ⟨hc2, hf2⟩ := hg2.cells
 go_wp2_with fail
 refine bodyPost_ret (v := .agg #[.int .i64 (addI a c), .int .i64 (addI b d)]) (by simp [results, Tryz.results76, go_sem, hc2]) rfl ⟨rfl, ?_⟩
 (repeat with_reducible first | exact .refl _ | assumption | refine .setAt ?_ (by first | omega | simp <;> omega) _ | refine .alloc ?_ _ | refine .drewN ?_ _ | refine .drew ?_ | refine .trans ?_ (by assumption))
theorem vsub_any (a b c d : Int) (w : World) :
   Calls Tryz.prog 36 #[.agg #[.int .i64 (a), .int .i64 (b)], .agg #[.int .i64 (c), .int .i64 (d)]] w fun e w' => e = .returned (.agg #[.int .i64 (subI a c), .int .i64 (subI b d)]) ∧ Grw w w' := by
 go_enter Tryz.func36, Tryz.ntmps36
 go_wp2_with fail
 (refine wp_region_flowA 11 (by kernel_rfl) (by kernel_rfl) ?_; simp only [tD]; (repeat (refine wpQ_step (fun K hK => ?_); go_simp; first | (refine hK _ ?_; clear hK K) | (apply Exists.intro; refine ⟨fun _ => ?_, hK _ ?_⟩; (first | (go_at_call 70; exact (sub_any _ _ _).mono fun _ _ h => ⟨h.1, h.2 ▸ Grw.refl _⟩)); clear hK K))); refine wpQ_nil ?_)
 intro w2 hg2
 obtain ⟨hc2, hf2⟩ := hg2.cells
 go_wp2_with fail
 refine bodyPost_ret (v := .agg #[.int .i64 (subI a c), .int .i64 (subI b d)]) (by simp [results, Tryz.results36, go_sem, hc2]) rfl ⟨rfl, ?_⟩
 (repeat with_reducible first | exact .refl _ | assumption | refine .setAt ?_ (by first | omega | simp <;> omega) _ | refine .alloc ?_ _ | refine .drewN ?_ _ | refine .drew ?_ | refine .trans ?_ (by assumption))
theorem vscale_any (a b k : Int) (w : World) :
   Calls Tryz.prog 74 #[.agg #[.int .i64 (a), .int .i64 (b)], .int .i64 k] w fun e w' => e = .returned (.agg #[.int .i64 (mulI a k), .int .i64 (mulI b k)]) ∧ Grw w w' := by
 go_enter Tryz.func74, Tryz.ntmps74
 go_wp2_with fail
 (refine wp_region_flowA 9 (by kernel_rfl) (by kernel_rfl) ?_; simp only [tD]; (repeat (refine wpQ_step (fun K hK => ?_); go_simp; first | (refine hK _ ?_; clear hK K) | (apply Exists.intro; refine ⟨fun _ => ?_, hK _ ?_⟩; (first | (go_at_call 80; exact (mul_any _ _ _))); clear hK K))); refine wpQ_nil ?_)
 intro w2 hg2
 obtain ⟨hc2, hf2⟩ := hg2.cells
 go_wp2_with fail
 refine bodyPost_ret (v := .agg #[.int .i64 (mulI a k), .int .i64 (mulI b k)]) (by simp [results, Tryz.results74, go_sem, hc2]) rfl ⟨rfl, ?_⟩
 (repeat with_reducible first | exact .refl _ | assumption | refine .setAt ?_ (by first | omega | simp <;> omega) _ | refine .alloc ?_ _ | refine .drewN ?_ _ | refine .drew ?_ | refine .trans ?_ (by assumption))
theorem vlerp_any (a b c d k : Int) (w : World) :
   Calls Tryz.prog 14 #[.agg #[.int .i64 (a), .int .i64 (b)], .agg #[.int .i64 (c), .int .i64 (d)], .int .i64 k] w fun e w' => e = .returned (.agg #[.int .i64 (lerpI a c k), .int .i64 (lerpI b d k)]) ∧ Grw w w' := by
 go_enter Tryz.func14, Tryz.ntmps14
 go_wp2_with fail
 (refine wp_region_flowA 13 (by kernel_rfl) (by kernel_rfl) ?_; simp only [tD]; (repeat (refine wpQ_step (fun K hK => ?_); go_simp; first | (refine hK _ ?_; clear hK K) | (apply Exists.intro; refine ⟨fun _ => ?_, hK _ ?_⟩; (first | (go_at_call 34; exact (lerp_any _ _ _ _))); clear hK K))); refine wpQ_nil ?_)
 intro w2 hg2
 obtain ⟨hc2, hf2⟩ := hg2.cells
 go_wp2_with fail
 refine bodyPost_ret (v := .agg #[.int .i64 (lerpI a c k), .int .i64 (lerpI b d k)]) (by simp [results, Tryz.results14, go_sem, hc2]) rfl ⟨rfl, ?_⟩
 (repeat with_reducible first | exact .refl _ | assumption | refine .setAt ?_ (by first | omega | simp <;> omega) _ | refine .alloc ?_ _ | refine .drewN ?_ _ | refine .drew ?_ | refine .trans ?_ (by assumption))
theorem dot_any (a b c d : Int) (w : World) :
   Calls Tryz.prog 71 #[.agg #[.int .i64 (a), .int .i64 (b)], .agg #[.int .i64 (c), .int .i64 (d)]] w fun e w' => e = .returned (.int .i64 (dotI a b c d)) ∧ Grw w w' := by
 obtain ⟨h1, h2⟩ := sat_mul a c
 obtain ⟨h3, h4⟩ := sat_mul b d
 go_enter Tryz.func71, Tryz.ntmps71
 go_wp2_with fail
 (refine wp_region_flowA 4 (by kernel_rfl) (by kernel_rfl) ?_; simp only [tD]; (repeat (refine wpQ_step (fun K hK => ?_); go_simp; first | (refine hK _ ?_; clear hK K) | (apply Exists.intro; refine ⟨fun _ => ?_, hK _ ?_⟩; (first | (go_at_call 85; exact (vsat_any _ _ _))); clear hK K))); refine wpQ_nil ?_)
 intro w2 hg2
 obtain ⟨hc2, hf2⟩ := hg2.cells; have hz2 := hg2.size; (have hl2_0 : w.heap.size < w2.heap.size := by (try simp at hz2); omega); (have c2_0_0 := hc2 (w.heap.size) 0 (by first | omega | simp <;> omega); simp [go_sem] at c2_0_0); (have c2_0_1 := hc2 (w.heap.size) 1 (by first | omega | simp <;> omega); simp [go_sem] at c2_0_1); (have f2_0 := fun o => hf2 (w.heap.size) o (by first | omega | simp <;> omega); simp [go_sem] at f2_0); (have hl2_1 : w.heap.size + 1 < w2.heap.size := by (try simp at hz2); omega); (have c2_1_0 := hc2 (w.heap.size + 1) 0 (by first | omega | simp <;> omega); simp [go_sem] at c2_1_0); (have c2_1_1 := hc2 (w.heap.size + 1) 1 (by first | omega | simp <;> omega); simp [go_sem] at c2_1_1); (have f2_1 := fun o => hf2 (w.heap.size + 1) o (by first | omega | simp <;> omega); simp [go_sem] at f2_1); clear hc2 hf2
 go_wp2_with (go_at_call 146; refine (product_any _ _).mono ?_; rintro e w1 ⟨rfl, hg⟩)
 go_ret
 exact ⟨rfl, by (repeat with_reducible first | exact .refl _ | assumption | refine .setAt ?_ (by first | omega | simp <;> omega) _ | refine .alloc ?_ _ | refine .drewN ?_ _ | refine .drew ?_ | refine .trans ?_ (by assumption))⟩
theorem cross_any (a b c d : Int) (w : World) :
   Calls Tryz.prog 69 #[.agg #[.int .i64 (a), .int .i64 (b)], .agg #[.int .i64 (c), .int .i64 (d)]] w fun e w' => e = .returned (.int .i64 (crossI a b c d)) ∧ Grw w w' := by
 obtain ⟨h1, h2⟩ := sat_mul a d
 obtain ⟨h3, h4⟩ := sat_mul b c
 go_enter Tryz.func69, Tryz.ntmps69
 go_wp2_with fail
 (refine wp_region_flowA 4 (by kernel_rfl) (by kernel_rfl) ?_; simp only [tD]; (repeat (refine wpQ_step (fun K hK => ?_); go_simp; first | (refine hK _ ?_; clear hK K) | (apply Exists.intro; refine ⟨fun _ => ?_, hK _ ?_⟩; (first | (go_at_call 85; exact (vsat_any _ _ _))); clear hK K))); refine wpQ_nil ?_)
 intro w2 hg2
 obtain ⟨hc2, hf2⟩ := hg2.cells; have hz2 := hg2.size; (have hl2_0 : w.heap.size < w2.heap.size := by (try simp at hz2); omega); (have c2_0_0 := hc2 (w.heap.size) 0 (by first | omega | simp <;> omega); simp [go_sem] at c2_0_0); (have c2_0_1 := hc2 (w.heap.size) 1 (by first | omega | simp <;> omega); simp [go_sem] at c2_0_1); (have f2_0 := fun o => hf2 (w.heap.size) o (by first | omega | simp <;> omega); simp [go_sem] at f2_0); (have hl2_1 : w.heap.size + 1 < w2.heap.size := by (try simp at hz2); omega); (have c2_1_0 := hc2 (w.heap.size + 1) 0 (by first | omega | simp <;> omega); simp [go_sem] at c2_1_0); (have c2_1_1 := hc2 (w.heap.size + 1) 1 (by first | omega | simp <;> omega); simp [go_sem] at c2_1_1); (have f2_1 := fun o => hf2 (w.heap.size + 1) o (by first | omega | simp <;> omega); simp [go_sem] at f2_1); clear hc2 hf2
 go_wp2_with (go_at_call 146; refine (product_any _ _).mono ?_; rintro e w1 ⟨rfl, hg⟩)
 go_ret
 exact ⟨rfl, by (repeat with_reducible first | exact .refl _ | assumption | refine .setAt ?_ (by first | omega | simp <;> omega) _ | refine .alloc ?_ _ | refine .drewN ?_ _ | refine .drew ?_ | refine .trans ?_ (by assumption))⟩
theorem dsq_bd (a b c d : Int) : 0 ≤ dsqI a b c d ∧ dsqI a b c d ≤ 2305843000623759368 := by
 have h1 := sat_lo a; have h2 := sat_hi a; have h3 := sat_lo b; have h4 := sat_hi b
 have h5 := sat_lo c; have h6 := sat_hi c; have h7 := sat_lo d; have h8 := sat_hi d
 have k1 := mul_bd (a := sat c - sat a) (b := sat c - sat a) (m := 1073741822) (n := 1073741822) (by omega) (by omega) (by omega) (by omega)
 have k2 := mul_bd (a := sat d - sat b) (b := sat d - sat b) (m := 1073741822) (n := 1073741822) (by omega) (by omega) (by omega) (by omega)
 have k3 : 0 ≤ (sat c - sat a) * (sat c - sat a) := by rcases Int.le_total 0 (sat c - sat a) with h | h; exact Int.mul_nonneg h h; exact Int.mul_nonneg_of_nonpos_of_nonpos h h
 have k4 : 0 ≤ (sat d - sat b) * (sat d - sat b) := by rcases Int.le_total 0 (sat d - sat b) with h | h; exact Int.mul_nonneg h h; exact Int.mul_nonneg_of_nonpos_of_nonpos h h
 unfold dsqI; omega
theorem dsq_any (a b c d : Int) (w : World) :
   Calls Tryz.prog 81 #[.agg #[.int .i64 (a), .int .i64 (b)], .agg #[.int .i64 (c), .int .i64 (d)]] w fun e w' => e = .returned (.int .i64 (dsqI a b c d)) ∧ Grw w w' := by
 have h1 := sat_lo a; have h2 := sat_hi a; have h3 := sat_lo b; have h4 := sat_hi b
 have h5 := sat_lo c; have h6 := sat_hi c; have h7 := sat_lo d; have h8 := sat_hi d
 obtain ⟨k1, k2⟩ := mul_bd (a := sat c - sat a) (b := sat c - sat a) (m := 1073741822) (n := 1073741822) (by omega) (by omega) (by omega) (by omega)
 obtain ⟨k3, k4⟩ := mul_bd (a := sat d - sat b) (b := sat d - sat b) (m := 1073741822) (n := 1073741822) (by omega) (by omega) (by omega) (by omega)
 go_enter Tryz.func81, Tryz.ntmps81
 go_wp2_with fail
 (refine wp_region_flowA 4 (by kernel_rfl) (by kernel_rfl) ?_; simp only [tD]; (repeat (refine wpQ_step (fun K hK => ?_); go_simp; first | (refine hK _ ?_; clear hK K) | (apply Exists.intro; refine ⟨fun _ => ?_, hK _ ?_⟩; (first | (go_at_call 85; exact (vsat_any _ _ _))); clear hK K))); refine wpQ_nil ?_)
 intro w2 hg2
 obtain ⟨hc2, hf2⟩ := hg2.cells; have hz2 := hg2.size; (have hl2_0 : w.heap.size < w2.heap.size := by (try simp at hz2); omega); (have c2_0_0 := hc2 (w.heap.size) 0 (by first | omega | simp <;> omega); simp [go_sem] at c2_0_0); (have c2_0_1 := hc2 (w.heap.size) 1 (by first | omega | simp <;> omega); simp [go_sem] at c2_0_1); (have f2_0 := fun o => hf2 (w.heap.size) o (by first | omega | simp <;> omega); simp [go_sem] at f2_0); (have hl2_1 : w.heap.size + 1 < w2.heap.size := by (try simp at hz2); omega); (have c2_1_0 := hc2 (w.heap.size + 1) 0 (by first | omega | simp <;> omega); simp [go_sem] at c2_1_0); (have c2_1_1 := hc2 (w.heap.size + 1) 1 (by first | omega | simp <;> omega); simp [go_sem] at c2_1_1); (have f2_1 := fun o => hf2 (w.heap.size + 1) o (by first | omega | simp <;> omega); simp [go_sem] at f2_1); clear hc2 hf2
 go_wp2_with fail
 (refine wp_region_flow (by kernel_rfl) (by kernel_rfl) ?_; (repeat (refine wpQ_step (fun K hK => ?_); go_simp; refine hK _ ?_; clear hK K)); refine wpQ_nil ?_)
 intro w3 hg3
 go_wp2_with fail
 go_ret
 exact ⟨rfl, by (repeat with_reducible first | exact .refl _ | assumption | refine .setAt ?_ (by first | omega | simp <;> omega) _ | refine .alloc ?_ _ | refine .drewN ?_ _ | refine .drew ?_ | refine .trans ?_ (by assumption))⟩
theorem length_any (a b : Int) (w : World) :
   Calls Tryz.prog 35 #[.agg #[.int .i64 (a), .int .i64 (b)]] w fun e w' => e = .returned (.int .i64 (lenI a b)) ∧ Grw w w' := by
 go_enter Tryz.func35, Tryz.ntmps35
 go_wp2_with (first | (go_at_call 72; refine (isqrt_any _ _).mono ?_; rintro e w1 ⟨rfl, rfl⟩) | (go_at_call 81; refine (dsq_any _ _ _ _ _).mono ?_; rintro e w1 ⟨rfl, hg⟩))
 go_ret
 exact ⟨rfl, by (repeat with_reducible first | exact .refl _ | assumption | refine .setAt ?_ (by first | omega | simp <;> omega) _ | refine .alloc ?_ _ | refine .drewN ?_ _ | refine .drew ?_ | refine .trans ?_ (by assumption))⟩
def normX (a b : Int) : Int := if lenI a b = 0 then 0 else divI a (lenI a b)
def normY (a b : Int) : Int := if lenI a b = 0 then 0 else divI b (lenI a b)
theorem normalize_any (a b : Int) (w : World) :
   Calls Tryz.prog 68 #[.agg #[.int .i64 (a), .int .i64 (b)]] w fun e w' => e = .returned (.agg #[.int .i64 (normX a b), .int .i64 (normY a b)]) ∧ Grw w w' := by
 by_cases h : lenI a b = 0
 · have HX := Lib.hid (show normX a b = 0 from if_pos h)
   have HY := Lib.hid (show normY a b = 0 from if_pos h)
   have hb : (lenI a b == 0) = true := by simp [h]
   clear h
   go_enter Tryz.func68, Tryz.ntmps68
   go_wp2_with (go_at_call 35; refine (length_any _ _ _).mono ?_; rintro e w1 ⟨rfl, hg1⟩; (try replace hg1 := Grw.trans (by assumption) hg1); obtain ⟨hc1, hf1⟩ := hg1.cells; have hz1 := hg1.size; (have hl1_0 : w.heap.size < w1.heap.size := by (try simp at hz1); omega); (have c1_0_0 := hc1 (w.heap.size) 0 (by first | omega | simp <;> omega); simp [go_sem] at c1_0_0); (have c1_0_1 := hc1 (w.heap.size) 1 (by first | omega | simp <;> omega); simp [go_sem] at c1_0_1); (have f1_0 := fun o => hf1 (w.heap.size) o (by first | omega | simp <;> omega); simp [go_sem] at f1_0); (have hl1_1 : w.heap.size + 1 < w1.heap.size := by (try simp at hz1); omega); (have c1_1_0 := hc1 (w.heap.size + 1) 0 (by first | omega | simp <;> omega); simp [go_sem] at c1_1_0); (have c1_1_1 := hc1 (w.heap.size + 1) 1 (by first | omega | simp <;> omega); simp [go_sem] at c1_1_1); (have f1_1 := fun o => hf1 (w.heap.size + 1) o (by first | omega | simp <;> omega); simp [go_sem] at f1_1); clear hc1 hf1)
   rw [HX.out, HY.out]
   refine bodyPost_ret (v := .agg #[.int .i64 (0), .int .i64 (0)]) (by simp [results, Tryz.results68, go_sem, c1_1_0, c1_1_1]) rfl ⟨rfl, ?_⟩
   (repeat with_reducible first | exact .refl _ | assumption | refine .setAt ?_ (by first | omega | simp <;> omega) _ | refine .alloc ?_ _ | refine .drewN ?_ _ | refine .drew ?_ | refine .trans ?_ (by assumption))
 · have HX := Lib.hid (show normX a b = _ from if_neg h)
   have HY := Lib.hid (show normY a b = _ from if_neg h)
   have hb : (lenI a b == 0) = false := by simp [h]
   clear h
   go_enter Tryz.func68, Tryz.ntmps68
   go_wp2_with (go_at_call 35; refine (length_any _ _ _).mono ?_; rintro e w1 ⟨rfl, hg1⟩; (try replace hg1 := Grw.trans (by assumption) hg1); obtain ⟨hc1, hf1⟩ := hg1.cells; have hz1 := hg1.size; (have hl1_0 : w.heap.size < w1.heap.size := by (try simp at hz1); omega); (have c1_0_0 := hc1 (w.heap.size) 0 (by first | omega | simp <;> omega); simp [go_sem] at c1_0_0); (have c1_0_1 := hc1 (w.heap.size) 1 (by first | omega | simp <;> omega); simp [go_sem] at c1_0_1); (have f1_0 := fun o => hf1 (w.heap.size) o (by first | omega | simp <;> omega); simp [go_sem] at f1_0); (have hl1_1 : w.heap.size + 1 < w1.heap.size := by (try simp at hz1); omega); (have c1_1_0 := hc1 (w.heap.size + 1) 0 (by first | omega | simp <;> omega); simp [go_sem] at c1_1_0); (have c1_1_1 := hc1 (w.heap.size + 1) 1 (by first | omega | simp <;> omega); simp [go_sem] at c1_1_1); (have f1_1 := fun o => hf1 (w.heap.size + 1) o (by first | omega | simp <;> omega); simp [go_sem] at f1_1); clear hc1 hf1)
   (refine wp_region_flowA 9 (by kernel_rfl) (by kernel_rfl) ?_; simp only [tD]; (repeat (refine wpQ_step (fun K hK => ?_); go_simp; first | (refine hK _ ?_; clear hK K) | (apply Exists.intro; refine ⟨fun _ => ?_, hK _ ?_⟩; (first | (go_at_call 78; exact (div_any _ _ _))); clear hK K))); refine wpQ_nil ?_)
   intro w2 hg2
   replace hg2 := hg1.trans hg2
   obtain ⟨hc2, hf2⟩ := hg2.cells; have hz2 := hg2.size; (have hl2_0 : w.heap.size < w2.heap.size := by (try simp at hz2); omega); (have c2_0_0 := hc2 (w.heap.size) 0 (by first | omega | simp <;> omega); simp [go_sem] at c2_0_0); (have c2_0_1 := hc2 (w.heap.size) 1 (by first | omega | simp <;> omega); simp [go_sem] at c2_0_1); (have f2_0 := fun o => hf2 (w.heap.size) o (by first | omega | simp <;> omega); simp [go_sem] at f2_0); (have hl2_1 : w.heap.size + 1 < w2.heap.size := by (try simp at hz2); omega); (have c2_1_0 := hc2 (w.heap.size + 1) 0 (by first | omega | simp <;> omega); simp [go_sem] at c2_1_0); (have c2_1_1 := hc2 (w.heap.size + 1) 1 (by first | omega | simp <;> omega); simp [go_sem] at c2_1_1); (have f2_1 := fun o => hf2 (w.heap.size + 1) o (by first | omega | simp <;> omega); simp [go_sem] at f2_1); clear hc2 hf2
   go_wp2_with fail
   rw [HX.out, HY.out]
   refine bodyPost_ret (v := .agg #[.int .i64 (divI a (lenI a b)), .int .i64 (divI b (lenI a b))]) (by simp [results, Tryz.results68, go_sem, c2_1_0, c2_1_1]) rfl ⟨rfl, ?_⟩
   (repeat with_reducible first | exact .refl _ | assumption | refine .setAt ?_ (by first | omega | simp <;> omega) _ | refine .alloc ?_ _ | refine .drewN ?_ _ | refine .drew ?_ | refine .trans ?_ (by assumption))
theorem perp_any (a b : Int) (w : World) :
   Calls Tryz.prog 75 #[.agg #[.int .i64 (a), .int .i64 (b)]] w fun e w' => e = .returned (.agg #[.int .i64 (-sat b), .int .i64 (sat a)]) ∧ Grw w w' := by
 have h3 := sat_lo b; have h4 := sat_hi b
 go_enter Tryz.func75, Tryz.ntmps75
 go_wp2_with (go_at_call 85; refine (vsat_any _ _ _).mono ?_; rintro e w1 ⟨rfl, hg1⟩; (try replace hg1 := Grw.trans (by assumption) hg1); obtain ⟨hc1, hf1⟩ := hg1.cells; have hz1 := hg1.size; (have hl1_0 : w.heap.size < w1.heap.size := by (try simp at hz1); omega); (have c1_0_0 := hc1 (w.heap.size) 0 (by first | omega | simp <;> omega); simp [go_sem] at c1_0_0); (have c1_0_1 := hc1 (w.heap.size) 1 (by first | omega | simp <;> omega); simp [go_sem] at c1_0_1); (have f1_0 := fun o => hf1 (w.heap.size) o (by first | omega | simp <;> omega); simp [go_sem] at f1_0); (have hl1_1 : w.heap.size + 1 < w1.heap.size := by (try simp at hz1); omega); (have c1_1_0 := hc1 (w.heap.size + 1) 0 (by first | omega | simp <;> omega); simp [go_sem] at c1_1_0); (have c1_1_1 := hc1 (w.heap.size + 1) 1 (by first | omega | simp <;> omega); simp [go_sem] at c1_1_1); (have f1_1 := fun o => hf1 (w.heap.size + 1) o (by first | omega | simp <;> omega); simp [go_sem] at f1_1); clear hc1 hf1)
 refine bodyPost_ret (v := .agg #[.int .i64 (-sat b), .int .i64 (sat a)]) (by simp [results, Tryz.results75, go_sem, c1_1_0, c1_1_1]) rfl ⟨rfl, ?_⟩
 (repeat with_reducible first | exact .refl _ | assumption | refine .setAt ?_ (by first | omega | simp <;> omega) _ | refine .alloc ?_ _ | refine .drewN ?_ _ | refine .drew ?_ | refine .trans ?_ (by assumption))
theorem rotate_any (c s a b : Int) (w : World) :
   Calls Tryz.prog 144 #[.agg #[.int .i64 (c), .int .i64 (s)], .agg #[.int .i64 (a), .int .i64 (b)]] w fun e w' => e = .returned (.agg #[.int .i64 (prodI (sat c * sat a - sat s * sat b)), .int .i64 (prodI (sat s * sat a + sat c * sat b))]) ∧ Grw w w' := by
 obtain ⟨h1, h2⟩ := sat_mul c a
 obtain ⟨h3, h4⟩ := sat_mul s b
 obtain ⟨h5, h6⟩ := sat_mul s a
 obtain ⟨h7, h8⟩ := sat_mul c b
 go_enter Tryz.func144, Tryz.ntmps144
 go_wp2_with fail
 (refine wp_region_flowA 10 (by kernel_rfl) (by kernel_rfl) ?_; simp only [tD]; (repeat (refine wpQ_step (fun K hK => ?_); go_simp; first | (refine hK _ ?_; clear hK K) | (apply Exists.intro; refine ⟨fun _ => ?_, hK _ ?_⟩; (first | (go_at_call 83; exact (saturate_any _ _).mono fun _ _ h => ⟨h.1, h.2 ▸ Grw.refl _⟩) | (go_at_call 85; exact (vsat_any _ _ _))); clear hK K))); refine wpQ_nil ?_)
 intro w2 hg2
 obtain ⟨hc2, hf2⟩ := hg2.cells; have hz2 := hg2.size; (have hl2_0 : w.heap.size < w2.heap.size := by (try simp at hz2); omega); (have c2_0_0 := hc2 (w.heap.size) 0 (by first | omega | simp <;> omega); simp [go_sem] at c2_0_0); (have c2_0_1 := hc2 (w.heap.size) 1 (by first | omega | simp <;> omega); simp [go_sem] at c2_0_1); (have f2_0 := fun o => hf2 (w.heap.size) o (by first | omega | simp <;> omega); simp [go_sem] at f2_0); (have hl2_1 : w.heap.size + 1 < w2.heap.size := by (try simp at hz2); omega); (have c2_1_0 := hc2 (w.heap.size + 1) 0 (by first | omega | simp <;> omega); simp [go_sem] at c2_1_0); (have c2_1_1 := hc2 (w.heap.size + 1) 1 (by first | omega | simp <;> omega); simp [go_sem] at c2_1_1); (have f2_1 := fun o => hf2 (w.heap.size + 1) o (by first | omega | simp <;> omega); simp [go_sem] at f2_1); (have hl2_2 : w.heap.size + 2 < w2.heap.size := by (try simp at hz2); omega); (have c2_2_0 := hc2 (w.heap.size + 2) 0 (by first | omega | simp <;> omega); simp [go_sem] at c2_2_0); (have c2_2_1 := hc2 (w.heap.size + 2) 1 (by first | omega | simp <;> omega); simp [go_sem] at c2_2_1); (have f2_2 := fun o => hf2 (w.heap.size + 2) o (by first | omega | simp <;> omega); simp [go_sem] at f2_2); clear hc2 hf2
 go_wp2_with fail
 (refine wp_region_flowA 21 (by kernel_rfl) (by kernel_rfl) ?_; simp only [tD]; (repeat (refine wpQ_step (fun K hK => ?_); go_simp; first | (refine hK _ ?_; clear hK K) | (apply Exists.intro; refine ⟨fun _ => ?_, hK _ ?_⟩; (first | (go_at_call 146; exact (product_any _ _))); clear hK K))); refine wpQ_nil ?_)
 intro w3 hg3
 obtain ⟨hc3, hf3⟩ := hg3.cells
 go_wp2_with fail
 refine bodyPost_ret (v := .agg #[.int .i64 (prodI (sat c * sat a - sat s * sat b)), .int .i64 (prodI (sat s * sat a + sat c * sat b))]) (by simp [results, Tryz.results144, go_sem, hc3, c2_2_0, c2_2_1, hl2_2]) rfl ⟨rfl, ?_⟩
 (repeat with_reducible first | exact .refl _ | assumption | refine .setAt ?_ (by first | omega | simp <;> omega) _ | refine .alloc ?_ _ | refine .drewN ?_ _ | refine .drew ?_ | refine .trans ?_ (by assumption))
theorem orient_bd (a b c d e f : Int) : -1152921500311879681 * 2 ≤ (sat c - sat a) * (sat f - sat b) ∧ (sat c - sat a) * (sat f - sat b) ≤ 1152921500311879681 * 2 ∧ -1152921500311879681 * 2 ≤ (sat d - sat b) * (sat e - sat a) ∧ (sat d - sat b) * (sat e - sat a) ≤ 1152921500311879681 * 2 := by
 have h1 := sat_lo a; have h2 := sat_hi a; have h3 := sat_lo b; have h4 := sat_hi b
 have h5 := sat_lo c; have h6 := sat_hi c; have h7 := sat_lo d; have h8 := sat_hi d
 have h9 := sat_lo e; have h10 := sat_hi e; have h11 := sat_lo f; have h12 := sat_hi f
 have k1 := mul_bd (a := sat c - sat a) (b := sat f - sat b) (m := 1073741822) (n := 1073741822) (by omega) (by omega) (by omega) (by omega)
 have k2 := mul_bd (a := sat d - sat b) (b := sat e - sat a) (m := 1073741822) (n := 1073741822) (by omega) (by omega) (by omega) (by omega)
 omega
theorem wp_gen {P : Program} {c : Code} {Q : Exit → Act → World → Prop} {a : Act} {W : World} (F : World → Prop) (hF : F W) (h : ∀ w3, F w3 → c.wp P Q a w3) : c.wp P Q a W := h W hF
theorem orient_any (a b c d e f : Int) (w : World) :
   Calls Tryz.prog 38 #[.agg #[.int .i64 (a), .int .i64 (b)], .agg #[.int .i64 (c), .int .i64 (d)], .agg #[.int .i64 (e), .int .i64 (f)]] w fun e' w' => e' = .returned (.int .i64 (orientI a b c d e f)) ∧ Grw w w' := by
 have h1 := sat_lo a; have h2 := sat_hi a; have h3 := sat_lo b; have h4 := sat_hi b
 have h5 := sat_lo c; have h6 := sat_hi c; have h7 := sat_lo d; have h8 := sat_hi d
 have h9 := sat_lo e; have h10 := sat_hi e; have h11 := sat_lo f; have h12 := sat_hi f
 obtain ⟨k1, k2, k3, k4⟩ := orient_bd a b c d e f
 go_enter Tryz.func38, Tryz.ntmps38
 go_wp2_with fail
 (refine wp_region_flowA 6 (by kernel_rfl) (by kernel_rfl) ?_; simp only [tD]; (repeat (refine wpQ_step (fun K hK => ?_); go_simp; first | (refine hK _ ?_; clear hK K) | (apply Exists.intro; refine ⟨fun _ => ?_, hK _ ?_⟩; (first | (go_at_call 85; exact (vsat_any _ _ _))); clear hK K))); refine wpQ_nil ?_)
 intro w2 hg2
 obtain ⟨hc2, hf2⟩ := hg2.cells; have hz2 := hg2.size; (have hl2_0 : w.heap.size < w2.heap.size := by (try simp at hz2); omega); (have c2_0_0 := hc2 (w.heap.size) 0 (by first | omega | simp <;> omega); simp [go_sem] at c2_0_0); (have c2_0_1 := hc2 (w.heap.size) 1 (by first | omega | simp <;> omega); simp [go_sem] at c2_0_1); (have f2_0 := fun o => hf2 (w.heap.size) o (by first | omega | simp <;> omega); simp [go_sem] at f2_0); (have hl2_1 : w.heap.size + 1 < w2.heap.size := by (try simp at hz2); omega); (have c2_1_0 := hc2 (w.heap.size + 1) 0 (by first | omega | simp <;> omega); simp [go_sem] at c2_1_0); (have c2_1_1 := hc2 (w.heap.size + 1) 1 (by first | omega | simp <;> omega); simp [go_sem] at c2_1_1); (have f2_1 := fun o => hf2 (w.heap.size + 1) o (by first | omega | simp <;> omega); simp [go_sem] at f2_1); (have hl2_2 : w.heap.size + 2 < w2.heap.size := by (try simp at hz2); omega); (have c2_2_0 := hc2 (w.heap.size + 2) 0 (by first | omega | simp <;> omega); simp [go_sem] at c2_2_0); (have c2_2_1 := hc2 (w.heap.size + 2) 1 (by first | omega | simp <;> omega); simp [go_sem] at c2_2_1); (have f2_2 := fun o => hf2 (w.heap.size + 2) o (by first | omega | simp <;> omega); simp [go_sem] at f2_2); clear hc2 hf2
 go_upto_region 2 with (fail); refine wp_gen (fun x => Grw w x ∧ x.cell? ⟨w.heap.size, 0, none⟩ = some (.int .i64 (sat a)) ∧ x.cell? ⟨w.heap.size, 1, none⟩ = some (.int .i64 (sat b)) ∧ (∀ o, x.frozen? ⟨w.heap.size, o, none⟩ = false) ∧ w.heap.size < x.heap.size ∧ x.cell? ⟨w.heap.size + 1, 0, none⟩ = some (.int .i64 (sat c)) ∧ x.cell? ⟨w.heap.size + 1, 1, none⟩ = some (.int .i64 (sat d)) ∧ (∀ o, x.frozen? ⟨w.heap.size + 1, o, none⟩ = false) ∧ w.heap.size + 1 < x.heap.size ∧ x.cell? ⟨w.heap.size + 2, 0, none⟩ = some (.int .i64 (sat e)) ∧ x.cell? ⟨w.heap.size + 2, 1, none⟩ = some (.int .i64 (sat f)) ∧ (∀ o, x.frozen? ⟨w.heap.size + 2, o, none⟩ = false) ∧ w.heap.size + 2 < x.heap.size) ⟨by (repeat with_reducible first | exact .refl _ | assumption | refine .setAt ?_ (by first | omega | simp <;> omega) _ | refine .alloc ?_ _ | refine .drewN ?_ _ | refine .drew ?_ | refine .trans ?_ (by assumption)), by simp [go_sem, c2_0_0, c2_0_1, c2_1_0, c2_1_1, c2_2_0, c2_2_1, f2_0, f2_1, f2_2], by simp [go_sem, c2_0_0, c2_0_1, c2_1_0, c2_1_1, c2_2_0, c2_2_1, f2_0, f2_1, f2_2], by intro o; simp [go_sem, c2_0_0, c2_0_1, c2_1_0, c2_1_1, c2_2_0, c2_2_1, f2_0, f2_1, f2_2], by simp [go_sem]; omega, by simp [go_sem, c2_0_0, c2_0_1, c2_1_0, c2_1_1, c2_2_0, c2_2_1, f2_0, f2_1, f2_2], by simp [go_sem, c2_0_0, c2_0_1, c2_1_0, c2_1_1, c2_2_0, c2_2_1, f2_0, f2_1, f2_2], by intro o; simp [go_sem, c2_0_0, c2_0_1, c2_1_0, c2_1_1, c2_2_0, c2_2_1, f2_0, f2_1, f2_2], by simp [go_sem]; omega, by simp [go_sem, c2_0_0, c2_0_1, c2_1_0, c2_1_1, c2_2_0, c2_2_1, f2_0, f2_1, f2_2], by simp [go_sem, c2_0_0, c2_0_1, c2_1_0, c2_1_1, c2_2_0, c2_2_1, f2_0, f2_1, f2_2], by intro o; simp [go_sem, c2_0_0, c2_0_1, c2_1_0, c2_1_1, c2_2_0, c2_2_1, f2_0, f2_1, f2_2], by simp [go_sem]; omega⟩ ?_; rintro w3 ⟨hg3, g3_0_0, g3_0_1, fg3_0, lg3_0, g3_1_0, g3_1_1, fg3_1, lg3_1, g3_2_0, g3_2_1, fg3_2, lg3_2⟩
 clear c2_0_0 c2_0_1 c2_1_0 c2_1_1 c2_2_0 c2_2_1 f2_0 f2_1 f2_2 hg2 hz2
 go_wp2_with fail
 all_goals
   go_ret
   exact ⟨ret_int (by unfold orientI; omega), by (repeat with_reducible first | exact .refl _ | assumption | refine .setAt ?_ (by first | omega | simp <;> omega) _ | refine .alloc ?_ _ | refine .drewN ?_ _ | refine .drew ?_ | refine .trans ?_ (by assumption))⟩
def absI (x : Int) : Int := if x < 0 then -x else x
def normA (a : Int) : Int := if 205888 ≤ a.tmod 411776 then a.tmod 411776 - 411776 else if a.tmod 411776 < -205888 then a.tmod 411776 + 411776 else a.tmod 411776
theorem normA_bd (a : Int) : -205888 ≤ normA a ∧ normA a < 205888 := by
 have h1 := Int.lt_tmod_of_pos a (show (0 : Int) < 411776 by omega)
 have h2 := Int.tmod_lt_of_pos a (show (0 : Int) < 411776 by omega)
 unfold normA; (repeat' split) <;> omega
def sinX (n : Int) : Int := if 102944 < absI n then 205888 - absI n else absI n
def sinP (x : Int) : Int := mulI (divI x 102944) (subI 102873 (mulI (mulI (divI x 102944) (divI x 102944)) (subI 41906 (mulI (mulI (divI x 102944) (divI x 102944)) 4569))))
def sinI (a : Int) : Int := if normA a < 0 then -sinP (sinX (normA a)) else sinP (sinX (normA a))
def cosI (a : Int) : Int := sinI (102944 - absI (normA a))
theorem mulI_bd (a b : Int) : -536870911 ≤ mulI a b ∧ mulI a b ≤ 536870911 := ⟨sat_lo _, sat_hi _⟩
theorem sinI_bd (a : Int) : -536870911 ≤ sinI a ∧ sinI a ≤ 536870911 := by
 have h : ∀ x, -536870911 ≤ sinP x ∧ sinP x ≤ 536870911 := fun x => mulI_bd _ _
 have := h (sinX (normA a))
 unfold sinI; split <;> omega
theorem cosI_bd (a : Int) : -536870911 ≤ cosI a ∧ cosI a ≤ 536870911 := sinI_bd _
def rotL (a : Int) : Int := isqI (cosI a * cosI a + sinI a * sinI a)
def rotC (a : Int) : Int := divI (cosI a) (rotL a)
def rotS (a : Int) : Int := divI (sinI a) (rotL a)
theorem abs_any (a : Int) (w : World) (h1 : -536870911 ≤ a) (h2 : a ≤ 536870911) :
   Calls Tryz.prog 279 #[.int .i64 a] w fun e w' => e = .returned (.int .i64 (absI a)) ∧ w = w' := by
 go_enter Tryz.func279, Tryz.ntmps279
 go_wp2_with fail
 all_goals
   go_ret
   exact ⟨ret_int (by unfold absI; (repeat' split) <;> omega), rfl⟩
theorem normA_any (a : Int) (w : World) :
   Calls Tryz.prog 280 #[.int .i64 a] w fun e w' => e = .returned (.int .i64 (normA a)) ∧ w = w' := by
 have h1 := Int.lt_tmod_of_pos a (show (0 : Int) < 411776 by omega)
 have h2 := Int.tmod_lt_of_pos a (show (0 : Int) < 411776 by omega)
 go_enter Tryz.func280, Tryz.ntmps280
 go_wp2_with fail
 all_goals
   go_ret
   exact ⟨ret_int (by unfold normA; (repeat' split) <;> omega), rfl⟩
theorem wrap_neg (x : Int) (h : -536870911 ≤ x ∧ x ≤ 536870911) : wrap64 (-x) = -x := by unfold wrap64; omega
theorem absn_bd (a : Int) : 0 ≤ absI (normA a) ∧ absI (normA a) ≤ 205888 := by
 have := normA_bd a
 unfold absI; split <;> omega
theorem sin_any (a : Int) (w : World) :
   Calls Tryz.prog 220 #[.int .i64 a] w fun e w' => e = .returned (.int .i64 (sinI a)) ∧ Grw w w' := by
 obtain ⟨h1, h2⟩ := normA_bd a
 obtain ⟨h3, h4⟩ := absn_bd a
 go_enter Tryz.func220, Tryz.ntmps220
 go_wp2_with (first | (go_at_call 280; refine (normA_any _ _).mono ?_; rintro e w1 ⟨rfl, rfl⟩) | (go_at_call 279; refine (abs_any _ _ (by omega) (by omega)).mono ?_; rintro e w1 ⟨rfl, rfl⟩) | (go_at_call 70; refine (sub_any _ _ _).mono ?_; rintro e w1 ⟨rfl, rfl⟩) | (go_at_call 78; refine (div_any _ _ _).mono ?_; rintro e w1 ⟨rfl, hg1⟩; (try replace hg1 := Grw.trans (by assumption) hg1)) | (go_at_call 80; refine (mul_any _ _ _).mono ?_; rintro e w1 ⟨rfl, hg1⟩; (try replace hg1 := Grw.trans (by assumption) hg1)))
 all_goals
   go_ret
   exact ⟨ret_int (by unfold sinI sinX sinP; (repeat' split) <;> first | (with_reducible rfl) | (with_reducible exact wrap_neg _ (mulI_bd _ _)) | (exfalso; omega)), by (repeat with_reducible first | exact .refl _ | assumption | refine .setAt ?_ (by first | omega | simp <;> omega) _ | refine .alloc ?_ _ | refine .drewN ?_ _ | refine .drew ?_ | refine .trans ?_ (by assumption))⟩
theorem cos_any (a : Int) (w : World) :
   Calls Tryz.prog 219 #[.int .i64 a] w fun e w' => e = .returned (.int .i64 (cosI a)) ∧ Grw w w' := by
 obtain ⟨h1, h2⟩ := normA_bd a
 obtain ⟨h3, h4⟩ := absn_bd a
 go_enter Tryz.func219, Tryz.ntmps219
 go_wp2_with (first | (go_at_call 280; refine (normA_any _ _).mono ?_; rintro e w1 ⟨rfl, rfl⟩) | (go_at_call 279; refine (abs_any _ _ (by omega) (by omega)).mono ?_; rintro e w1 ⟨rfl, rfl⟩) | (go_at_call 220; refine (sin_any _ _).mono ?_; rintro e w1 ⟨rfl, hg1⟩; (try replace hg1 := Grw.trans (by assumption) hg1)))
 go_ret
 exact ⟨rfl, by (repeat with_reducible first | exact .refl _ | assumption | refine .setAt ?_ (by first | omega | simp <;> omega) _ | refine .alloc ?_ _ | refine .drewN ?_ _ | refine .drew ?_ | refine .trans ?_ (by assumption))⟩
theorem rot_any (a : Int) (w : World) :
   Calls Tryz.prog 145 #[.int .i64 a] w fun e w' => e = .returned (.agg #[.int .i64 (rotC a), .int .i64 (rotS a)]) ∧ Grw w w' := by
 obtain ⟨h1, h2⟩ := cosI_bd a
 obtain ⟨h3, h4⟩ := sinI_bd a
 obtain ⟨h5, h6⟩ := mul_bd h1 h2 h1 h2
 obtain ⟨h7, h8⟩ := mul_bd h3 h4 h3 h4
 go_enter Tryz.func145, Tryz.ntmps145
 go_wp2_with (first | (go_at_call 219; refine (cos_any _ _).mono ?_; rintro e w1 ⟨rfl, hg1⟩; (try replace hg1 := Grw.trans (by assumption) hg1); obtain ⟨hc1, hf1⟩ := hg1.cells; have hz1 := hg1.size; (have hl1_0 : w.heap.size < w1.heap.size := by (try simp at hz1); omega); (have c1_0_0 := hc1 (w.heap.size) 0 (by first | omega | simp <;> omega); simp [go_sem] at c1_0_0); (have c1_0_1 := hc1 (w.heap.size) 1 (by first | omega | simp <;> omega); simp [go_sem] at c1_0_1); (have f1_0 := fun o => hf1 (w.heap.size) o (by first | omega | simp <;> omega); simp [go_sem] at f1_0); clear hc1 hf1) | (go_at_call 220; refine (sin_any _ _).mono ?_; rintro e w1 ⟨rfl, hg1⟩; (try replace hg1 := Grw.trans (by assumption) hg1); obtain ⟨hc1, hf1⟩ := hg1.cells; have hz1 := hg1.size; (have hl1_0 : w.heap.size < w1.heap.size := by (try simp at hz1); omega); (have c1_0_0 := hc1 (w.heap.size) 0 (by first | omega | simp <;> omega); simp [go_sem] at c1_0_0); (have c1_0_1 := hc1 (w.heap.size) 1 (by first | omega | simp <;> omega); simp [go_sem] at c1_0_1); (have f1_0 := fun o => hf1 (w.heap.size) o (by first | omega | simp <;> omega); simp [go_sem] at f1_0); clear hc1 hf1) | (go_at_call 72; refine (isqrt_any _ _).mono ?_; rintro e w1 ⟨rfl, rfl⟩) | (go_at_call 78; refine (div_any _ _ _).mono ?_; rintro e w1 ⟨rfl, hg1⟩; (try replace hg1 := Grw.trans (by assumption) hg1); obtain ⟨hc1, hf1⟩ := hg1.cells; have hz1 := hg1.size; (have hl1_0 : w.heap.size < w1.heap.size := by (try simp at hz1); omega); (have c1_0_0 := hc1 (w.heap.size) 0 (by first | omega | simp <;> omega); simp [go_sem] at c1_0_0); (have c1_0_1 := hc1 (w.heap.size) 1 (by first | omega | simp <;> omega); simp [go_sem] at c1_0_1); (have f1_0 := fun o => hf1 (w.heap.size) o (by first | omega | simp <;> omega); simp [go_sem] at f1_0); clear hc1 hf1))
 refine bodyPost_ret (v := .agg #[.int .i64 (rotC a), .int .i64 (rotS a)]) (by simp [results, Tryz.results145, go_sem, rotC, rotS, rotL, c1_0_0, c1_0_1]) rfl ⟨rfl, ?_⟩
 (repeat with_reducible first | exact .refl _ | assumption | refine .setAt ?_ (by first | omega | simp <;> omega) _ | refine .alloc ?_ _ | refine .drewN ?_ _ | refine .drew ?_ | refine .trans ?_ (by assumption))
def rotVX (an x y : Int) : Int := prodI (sat (rotC an) * sat x - sat (rotS an) * sat y)
def rotVY (an x y : Int) : Int := prodI (sat (rotS an) * sat x + sat (rotC an) * sat y)
def appX (px an x y : Int) : Int := addI (rotVX an x y) px
def appY (py an x y : Int) : Int := addI (rotVY an x y) py
theorem apply_any (px py an x y : Int) (w : World) :
   Calls Tryz.prog 66 #[.agg #[.int .i64 px, .int .i64 py, .int .i64 an], .agg #[.int .i64 (x), .int .i64 (y)]] w fun e w' => e = .returned (.agg #[.int .i64 (appX px an x y), .int .i64 (appY py an x y)]) ∧ Grw w w' := by
 go_enter Tryz.func66, Tryz.ntmps66
 go_wp2_with fail
 (refine wp_region_flowA 8 (by kernel_rfl) (by kernel_rfl) ?_; simp only [tD]; (repeat (refine wpQ_step (fun K hK => ?_); go_simp; first | (refine hK _ ?_; clear hK K) | (apply Exists.intro; refine ⟨fun _ => ?_, hK _ ?_⟩; (first | (go_at_call 145; exact (rot_any _ _)) | (go_at_call 144; exact (rotate_any _ _ _ _ _)) | (go_at_call 76; exact (vadd_any _ _ _ _ _))); clear hK K))); refine wpQ_nil ?_)
 intro w2 hg2
 obtain ⟨hc2, hf2⟩ := hg2.cells; have hz2 := hg2.size; (have hl2_0 : w.heap.size < w2.heap.size := by (try simp at hz2); omega); (have c2_0_0 := hc2 (w.heap.size) 0 (by first | omega | simp <;> omega); simp [go_sem] at c2_0_0); (have c2_0_1 := hc2 (w.heap.size) 1 (by first | omega | simp <;> omega); simp [go_sem] at c2_0_1); (have c2_0_2 := hc2 (w.heap.size) 2 (by first | omega | simp <;> omega); simp [go_sem] at c2_0_2); (have f2_0 := fun o => hf2 (w.heap.size) o (by first | omega | simp <;> omega); simp [go_sem] at f2_0); (have hl2_1 : w.heap.size + 1 < w2.heap.size := by (try simp at hz2); omega); (have c2_1_0 := hc2 (w.heap.size + 1) 0 (by first | omega | simp <;> omega); simp [go_sem] at c2_1_0); (have c2_1_1 := hc2 (w.heap.size + 1) 1 (by first | omega | simp <;> omega); simp [go_sem] at c2_1_1); (have f2_1 := fun o => hf2 (w.heap.size + 1) o (by first | omega | simp <;> omega); simp [go_sem] at f2_1); (have hl2_2 : w.heap.size + 2 < w2.heap.size := by (try simp at hz2); omega); (have c2_2_0 := hc2 (w.heap.size + 2) 0 (by first | omega | simp <;> omega); simp [go_sem] at c2_2_0); (have c2_2_1 := hc2 (w.heap.size + 2) 1 (by first | omega | simp <;> omega); simp [go_sem] at c2_2_1); (have f2_2 := fun o => hf2 (w.heap.size + 2) o (by first | omega | simp <;> omega); simp [go_sem] at f2_2); clear hc2 hf2
 go_wp2_with fail
 refine bodyPost_ret (v := .agg #[.int .i64 (appX px an x y), .int .i64 (appY py an x y)]) (by simp [results, Tryz.results66, go_sem, appX, appY, rotVX, rotVY, c2_2_0, c2_2_1]) rfl ⟨rfl, ?_⟩
 (repeat with_reducible first | exact .refl _ | assumption | refine .setAt ?_ (by first | omega | simp <;> omega) _ | refine .alloc ?_ _ | refine .drewN ?_ _ | refine .drew ?_ | refine .trans ?_ (by assumption))
theorem asat_any (a b : Int) (w : World) :
   Calls Tryz.prog 221 #[.agg #[.int .i64 (a), .int .i64 (b)]] w fun e w' => e = .returned (.agg #[.int .i64 (sat a), .int .i64 (sat b)]) ∧ Grw w w' := by
 go_enter Tryz.func221, Tryz.ntmps221
 go_wp2_with fail
 (refine wp_region_flowA 7 (by kernel_rfl) (by kernel_rfl) ?_; simp only [tD]; (repeat (refine wpQ_step (fun K hK => ?_); go_simp; first | (refine hK _ ?_; clear hK K) | (apply Exists.intro; refine ⟨fun _ => ?_, hK _ ?_⟩; (first | (go_at_call 83; exact (saturate_any _ _).mono fun _ _ h => ⟨h.1, h.2 ▸ Grw.refl _⟩)); clear hK K))); refine wpQ_nil ?_)
 intro w2 hg2
 obtain ⟨hc2, hf2⟩ := hg2.cells; have hz2 := hg2.size; (have hl2_0 : w.heap.size < w2.heap.size := by (try simp at hz2); omega); (have c2_0_0 := hc2 (w.heap.size) 0 (by first | omega | simp <;> omega); simp [go_sem] at c2_0_0); (have c2_0_1 := hc2 (w.heap.size) 1 (by first | omega | simp <;> omega); simp [go_sem] at c2_0_1); (have f2_0 := fun o => hf2 (w.heap.size) o (by first | omega | simp <;> omega); simp [go_sem] at f2_0); (have hl2_1 : w.heap.size + 1 < w2.heap.size := by (try simp at hz2); omega); (have c2_1_0 := hc2 (w.heap.size + 1) 0 (by first | omega | simp <;> omega); simp [go_sem] at c2_1_0); (have c2_1_1 := hc2 (w.heap.size + 1) 1 (by first | omega | simp <;> omega); simp [go_sem] at c2_1_1); (have f2_1 := fun o => hf2 (w.heap.size + 1) o (by first | omega | simp <;> omega); simp [go_sem] at f2_1); clear hc2 hf2
 go_wp2_with fail
 refine bodyPost_ret (v := .agg #[.int .i64 (sat a), .int .i64 (sat b)]) (by simp [results, Tryz.results221, go_sem, c2_1_0, c2_1_1]) rfl ⟨rfl, ?_⟩
 (repeat with_reducible first | exact .refl _ | assumption | refine .setAt ?_ (by first | omega | simp <;> omega) _ | refine .alloc ?_ _ | refine .drewN ?_ _ | refine .drew ?_ | refine .trans ?_ (by assumption))
theorem ssat_any (a b : Int) (w : World) :
   Calls Tryz.prog 152 #[.agg #[.int .i64 (a), .int .i64 (b)]] w fun e w' => e = .returned (.agg #[.int .i64 (sat a), .int .i64 (sat b)]) ∧ Grw w w' := by
 go_enter Tryz.func152, Tryz.ntmps152
 go_wp2_with fail
 (refine wp_region_flowA 7 (by kernel_rfl) (by kernel_rfl) ?_; simp only [tD]; (repeat (refine wpQ_step (fun K hK => ?_); go_simp; first | (refine hK _ ?_; clear hK K) | (apply Exists.intro; refine ⟨fun _ => ?_, hK _ ?_⟩; (first | (go_at_call 83; exact (saturate_any _ _).mono fun _ _ h => ⟨h.1, h.2 ▸ Grw.refl _⟩)); clear hK K))); refine wpQ_nil ?_)
 intro w2 hg2
 obtain ⟨hc2, hf2⟩ := hg2.cells; have hz2 := hg2.size; (have hl2_0 : w.heap.size < w2.heap.size := by (try simp at hz2); omega); (have c2_0_0 := hc2 (w.heap.size) 0 (by first | omega | simp <;> omega); simp [go_sem] at c2_0_0); (have c2_0_1 := hc2 (w.heap.size) 1 (by first | omega | simp <;> omega); simp [go_sem] at c2_0_1); (have f2_0 := fun o => hf2 (w.heap.size) o (by first | omega | simp <;> omega); simp [go_sem] at f2_0); (have hl2_1 : w.heap.size + 1 < w2.heap.size := by (try simp at hz2); omega); (have c2_1_0 := hc2 (w.heap.size + 1) 0 (by first | omega | simp <;> omega); simp [go_sem] at c2_1_0); (have c2_1_1 := hc2 (w.heap.size + 1) 1 (by first | omega | simp <;> omega); simp [go_sem] at c2_1_1); (have f2_1 := fun o => hf2 (w.heap.size + 1) o (by first | omega | simp <;> omega); simp [go_sem] at f2_1); clear hc2 hf2
 go_wp2_with fail
 refine bodyPost_ret (v := .agg #[.int .i64 (sat a), .int .i64 (sat b)]) (by simp [results, Tryz.results152, go_sem, c2_1_0, c2_1_1]) rfl ⟨rfl, ?_⟩
 (repeat with_reducible first | exact .refl _ | assumption | refine .setAt ?_ (by first | omega | simp <;> omega) _ | refine .alloc ?_ _ | refine .drewN ?_ _ | refine .drew ?_ | refine .trans ?_ (by assumption))
theorem rsat_any (a b : Int) (w : World) :
   Calls Tryz.prog 67 #[.agg #[.int .i64 (a), .int .i64 (b)]] w fun e w' => e = .returned (.agg #[.int .i64 (sat a), .int .i64 (sat b)]) ∧ Grw w w' := by
 go_enter Tryz.func67, Tryz.ntmps67
 go_wp2_with fail
 (refine wp_region_flowA 7 (by kernel_rfl) (by kernel_rfl) ?_; simp only [tD]; (repeat (refine wpQ_step (fun K hK => ?_); go_simp; first | (refine hK _ ?_; clear hK K) | (apply Exists.intro; refine ⟨fun _ => ?_, hK _ ?_⟩; (first | (go_at_call 83; exact (saturate_any _ _).mono fun _ _ h => ⟨h.1, h.2 ▸ Grw.refl _⟩)); clear hK K))); refine wpQ_nil ?_)
 intro w2 hg2
 obtain ⟨hc2, hf2⟩ := hg2.cells; have hz2 := hg2.size; (have hl2_0 : w.heap.size < w2.heap.size := by (try simp at hz2); omega); (have c2_0_0 := hc2 (w.heap.size) 0 (by first | omega | simp <;> omega); simp [go_sem] at c2_0_0); (have c2_0_1 := hc2 (w.heap.size) 1 (by first | omega | simp <;> omega); simp [go_sem] at c2_0_1); (have f2_0 := fun o => hf2 (w.heap.size) o (by first | omega | simp <;> omega); simp [go_sem] at f2_0); (have hl2_1 : w.heap.size + 1 < w2.heap.size := by (try simp at hz2); omega); (have c2_1_0 := hc2 (w.heap.size + 1) 0 (by first | omega | simp <;> omega); simp [go_sem] at c2_1_0); (have c2_1_1 := hc2 (w.heap.size + 1) 1 (by first | omega | simp <;> omega); simp [go_sem] at c2_1_1); (have f2_1 := fun o => hf2 (w.heap.size + 1) o (by first | omega | simp <;> omega); simp [go_sem] at f2_1); clear hc2 hf2
 go_wp2_with fail
 refine bodyPost_ret (v := .agg #[.int .i64 (sat a), .int .i64 (sat b)]) (by simp [results, Tryz.results67, go_sem, c2_1_0, c2_1_1]) rfl ⟨rfl, ?_⟩
 (repeat with_reducible first | exact .refl _ | assumption | refine .setAt ?_ (by first | omega | simp <;> omega) _ | refine .alloc ?_ _ | refine .drewN ?_ _ | refine .drew ?_ | refine .trans ?_ (by assumption))
theorem lower_any (a b a' b' : Int) (w : World) :
   Calls Tryz.prog 222 #[.agg #[.int .i64 (a), .int .i64 (b)], .agg #[.int .i64 (a'), .int .i64 (b')]] w fun e w' => e = .returned (.agg #[.int .i64 (min a a'), .int .i64 (min b b')]) ∧ Grw w w' := by
 go_enter Tryz.func222, Tryz.ntmps222
 go_wp2_with fail
 all_goals
   refine bodyPost_ret (v := .agg #[.int .i64 (min a a'), .int .i64 (min b b')]) (by simp [results, Tryz.results222, go_sem]; omega) rfl ⟨rfl, ?_⟩
   (repeat with_reducible first | exact .refl _ | assumption | refine .setAt ?_ (by first | omega | simp <;> omega) _ | refine .alloc ?_ _ | refine .drewN ?_ _ | refine .drew ?_ | refine .trans ?_ (by assumption))
theorem upper_any (a b a' b' : Int) (w : World) :
   Calls Tryz.prog 223 #[.agg #[.int .i64 (a), .int .i64 (b)], .agg #[.int .i64 (a'), .int .i64 (b')]] w fun e w' => e = .returned (.agg #[.int .i64 (max a a'), .int .i64 (max b b')]) ∧ Grw w w' := by
 go_enter Tryz.func223, Tryz.ntmps223
 go_wp2_with fail
 all_goals
   refine bodyPost_ret (v := .agg #[.int .i64 (max a a'), .int .i64 (max b b')]) (by simp [results, Tryz.results223, go_sem]; omega) rfl ⟨rfl, ?_⟩
   (repeat with_reducible first | exact .refl _ | assumption | refine .setAt ?_ (by first | omega | simp <;> omega) _ | refine .alloc ?_ _ | refine .drewN ?_ _ | refine .drew ?_ | refine .trans ?_ (by assumption))
def satd (a b : Int) : Bool := decide (-536870911 ≤ a ∧ a ≤ 536870911 ∧ -536870911 ≤ b ∧ b ≤ 536870911)
theorem saturated_any (a b : Int) (w : World) :
   Calls Tryz.prog 281 #[.agg #[.int .i64 (a), .int .i64 (b)]] w fun e w' => e = .returned (.bool (satd a b)) ∧ Grw w w' := by
 by_cases h1 : sat a = a
 · have hd : satd a b = (sat b == b) := by have := (sat_eq a).1 h1; rw [Bool.eq_iff_iff]; simp [satd, sat_eq]; omega
   have hb : (sat a == a) = true := by simp [h1]
   have HD := Lib.hid hd
   clear hd h1
   go_enter Tryz.func281, Tryz.ntmps281
   go_wp2_with fail
   go_quiet ((go_at_call 83; exact Calls.quiet_of_same ((saturate_any _ _).mono fun _ _ h => ⟨h.1, h.2.symm⟩)))
   go_wp2_with fail
   go_ret
   exact ⟨ret_bool HD.out.symm, ((Grw.refl w).alloc _).drewN _⟩
 · have hd : satd a b = false := by simp [satd]; rw [sat_eq] at h1; omega
   have hb : (sat a == a) = false := by simp [h1]
   have HD := Lib.hid hd
   clear hd h1
   go_enter Tryz.func281, Tryz.ntmps281
   go_wp2_with fail
   go_quiet ((go_at_call 83; exact Calls.quiet_of_same ((saturate_any _ _).mono fun _ _ h => ⟨h.1, h.2.symm⟩)))
   go_wp2_with fail
   go_ret
   exact ⟨ret_bool HD.out.symm, ((Grw.refl w).alloc _).drewN _⟩
def validB (a b c d : Int) : Bool := decide (a ≤ c ∧ b ≤ d ∧ -536870911 ≤ a ∧ c ≤ 536870911 ∧ -536870911 ≤ b ∧ d ≤ 536870911)
theorem validB_any (a b c d : Int) (w : World) :
   Calls Tryz.prog 224 #[.agg #[.int .i64 a, .int .i64 b, .int .i64 c, .int .i64 d]] w fun e w' => e = .returned (.bool (validB a b c d)) ∧ Grw w w' := by
 go_enter Tryz.func224, Tryz.ntmps224
 go_wp2_with (first | (go_at_call 281; refine (saturated_any _ _ _).mono ?_; rintro e w1 ⟨rfl, hg1⟩; (try replace hg1 := Grw.trans (by assumption) hg1); obtain ⟨hc1, hf1⟩ := hg1.cells; have hz1 := hg1.size; (have hl1_0 : w.heap.size < w1.heap.size := by (try simp at hz1); omega); (have c1_0_0 := hc1 (w.heap.size) 0 (by first | omega | simp <;> omega); simp [go_sem] at c1_0_0); (have c1_0_1 := hc1 (w.heap.size) 1 (by first | omega | simp <;> omega); simp [go_sem] at c1_0_1); (have c1_0_2 := hc1 (w.heap.size) 2 (by first | omega | simp <;> omega); simp [go_sem] at c1_0_2); (have c1_0_3 := hc1 (w.heap.size) 3 (by first | omega | simp <;> omega); simp [go_sem] at c1_0_3); (have f1_0 := fun o => hf1 (w.heap.size) o (by first | omega | simp <;> omega); simp [go_sem] at f1_0); clear hc1 hf1))
 all_goals
   go_ret
   exact ⟨ret_bool (by rw [Bool.eq_iff_iff]; simp [satd, validB] at *; omega), by (repeat with_reducible first | exact .refl _ | assumption | refine .setAt ?_ (by first | omega | simp <;> omega) _ | refine .alloc ?_ _ | refine .drewN ?_ _ | refine .drew ?_ | refine .trans ?_ (by assumption))⟩
def ovB (a b c d a' b' c' d' : Int) : Bool := decide (a ≤ c' ∧ a' ≤ c ∧ b ≤ d' ∧ b' ≤ d)
theorem overlaps_any (a b c d a' b' c' d' : Int) (w : World) :
   Calls Tryz.prog 225 #[.agg #[.int .i64 a, .int .i64 b, .int .i64 c, .int .i64 d], .agg #[.int .i64 a', .int .i64 b', .int .i64 c', .int .i64 d']] w fun e w' => e = .returned (.bool (ovB a b c d a' b' c' d')) ∧ Grw w w' := by
 go_enter Tryz.func225, Tryz.ntmps225
 go_wp2_with fail
 all_goals
   go_ret
   exact ⟨ret_bool (by rw [Bool.eq_iff_iff]; simp [ovB] at *; omega), by (repeat with_reducible first | exact .refl _ | assumption | refine .setAt ?_ (by first | omega | simp <;> omega) _ | refine .alloc ?_ _ | refine .drewN ?_ _ | refine .drew ?_ | refine .trans ?_ (by assumption))⟩
theorem Overlaps_any (a b c d a' b' c' d' : Int) (w : World) :
   Calls Tryz.prog 151 #[.agg #[.int .i64 a, .int .i64 b, .int .i64 c, .int .i64 d], .agg #[.int .i64 a', .int .i64 b', .int .i64 c', .int .i64 d']] w fun e w' =>
     e = .returned (.bool (validB a b c d && validB a' b' c' d' && ovB a b c d a' b' c' d')) ∧ Grw w w' := by
 go_enter Tryz.func151, Tryz.ntmps151
 go_wp2_with (first | (go_at_call 224; refine (validB_any _ _ _ _ _).mono ?_; rintro e w1 ⟨rfl, hg1⟩; (try replace hg1 := Grw.trans (by assumption) hg1); obtain ⟨hc1, hf1⟩ := hg1.cells; have hz1 := hg1.size; (have hl1_0 : w.heap.size < w1.heap.size := by (try simp at hz1); omega); (have c1_0_0 := hc1 (w.heap.size) 0 (by first | omega | simp <;> omega); simp [go_sem] at c1_0_0); (have c1_0_1 := hc1 (w.heap.size) 1 (by first | omega | simp <;> omega); simp [go_sem] at c1_0_1); (have c1_0_2 := hc1 (w.heap.size) 2 (by first | omega | simp <;> omega); simp [go_sem] at c1_0_2); (have c1_0_3 := hc1 (w.heap.size) 3 (by first | omega | simp <;> omega); simp [go_sem] at c1_0_3); (have f1_0 := fun o => hf1 (w.heap.size) o (by first | omega | simp <;> omega); simp [go_sem] at f1_0); (have hl1_1 : w.heap.size + 1 < w1.heap.size := by (try simp at hz1); omega); (have c1_1_0 := hc1 (w.heap.size + 1) 0 (by first | omega | simp <;> omega); simp [go_sem] at c1_1_0); (have c1_1_1 := hc1 (w.heap.size + 1) 1 (by first | omega | simp <;> omega); simp [go_sem] at c1_1_1); (have c1_1_2 := hc1 (w.heap.size + 1) 2 (by first | omega | simp <;> omega); simp [go_sem] at c1_1_2); (have c1_1_3 := hc1 (w.heap.size + 1) 3 (by first | omega | simp <;> omega); simp [go_sem] at c1_1_3); (have f1_1 := fun o => hf1 (w.heap.size + 1) o (by first | omega | simp <;> omega); simp [go_sem] at f1_1); clear hc1 hf1) | (go_at_call 225; refine (overlaps_any _ _ _ _ _ _ _ _ _).mono ?_; rintro e w1 ⟨rfl, hg1⟩; (try replace hg1 := Grw.trans (by assumption) hg1); obtain ⟨hc1, hf1⟩ := hg1.cells; have hz1 := hg1.size; (have hl1_0 : w.heap.size < w1.heap.size := by (try simp at hz1); omega); (have c1_0_0 := hc1 (w.heap.size) 0 (by first | omega | simp <;> omega); simp [go_sem] at c1_0_0); (have c1_0_1 := hc1 (w.heap.size) 1 (by first | omega | simp <;> omega); simp [go_sem] at c1_0_1); (have c1_0_2 := hc1 (w.heap.size) 2 (by first | omega | simp <;> omega); simp [go_sem] at c1_0_2); (have c1_0_3 := hc1 (w.heap.size) 3 (by first | omega | simp <;> omega); simp [go_sem] at c1_0_3); (have f1_0 := fun o => hf1 (w.heap.size) o (by first | omega | simp <;> omega); simp [go_sem] at f1_0); (have hl1_1 : w.heap.size + 1 < w1.heap.size := by (try simp at hz1); omega); (have c1_1_0 := hc1 (w.heap.size + 1) 0 (by first | omega | simp <;> omega); simp [go_sem] at c1_1_0); (have c1_1_1 := hc1 (w.heap.size + 1) 1 (by first | omega | simp <;> omega); simp [go_sem] at c1_1_1); (have c1_1_2 := hc1 (w.heap.size + 1) 2 (by first | omega | simp <;> omega); simp [go_sem] at c1_1_2); (have c1_1_3 := hc1 (w.heap.size + 1) 3 (by first | omega | simp <;> omega); simp [go_sem] at c1_1_3); (have f1_1 := fun o => hf1 (w.heap.size + 1) o (by first | omega | simp <;> omega); simp [go_sem] at f1_1); clear hc1 hf1))
 all_goals
   go_ret
   exact ⟨ret_bool (by simp_all), by (repeat with_reducible first | exact .refl _ | assumption | refine .setAt ?_ (by first | omega | simp <;> omega) _ | refine .alloc ?_ _ | refine .drewN ?_ _ | refine .drew ?_ | refine .trans ?_ (by assumption))⟩
end
end Go.Proofs.YtokkghhmliplfaaGreat
