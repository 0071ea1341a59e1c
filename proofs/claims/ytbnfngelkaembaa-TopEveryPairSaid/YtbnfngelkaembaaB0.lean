/- Regions whose order is drawn: one walk in the order of the text serves every order, where what comes first only reads, calls what only reads and lays new blocks; the last operations wait for all others, or lay new blocks alone. No program is named here. -/
import Derived.Still
import Derived.StillTail
import Derived.Below
import Derived.Deep.Draws
import Derived.Deep.QuietTactic
import Derived.Shelf.SlSortCmp.QuietGrown
namespace Go.Proofs.Ytbnfngelkaembaa
open Go.RowKit Go.Sort

/-- w' is w after some draws, with some blocks laid behind it. -/
def Grw (w w' : World) : Prop := ∃ p : GrownBy, w' = grow (w.drewN p.n) p.os
theorem Grw.mk (w : World) (p : GrownBy) : Grw w (grow (w.drewN p.n) p.os) := ⟨p, rfl⟩
theorem Grw.refl (w : World) : Grw w w := ⟨⟨0, #[]⟩, by rw [grow_empty]; rfl⟩
theorem Grw.trans {a b c : World} (h : Grw a b) (k : Grw b c) : Grw a c := by
  obtain ⟨p, rfl⟩ := h; obtain ⟨q, rfl⟩ := k
  exact ⟨⟨p.n + q.n, p.os ++ q.os⟩, by show grow (grow ((a.drewN p.n).drewN q.n) p.os) q.os = _; rw [grow_grow, World.drewN_drewN]⟩
theorem Grw.alloc {a b : World} (h : Grw a b) (o : Obj) : Grw a (b.alloc o) := h.trans ⟨⟨0, #[o]⟩, by rw [alloc_eq_grow]; rfl⟩
theorem Grw.drewN {a b : World} (h : Grw a b) (n : Nat) : Grw a (b.drewN n) := h.trans ⟨⟨n, #[]⟩, by rw [grow_empty]⟩
theorem Grw.drew {a b : World} (h : Grw a b) : Grw a b.drew := h.drewN 1
theorem Grw.size {a b : World} (h : Grw a b) : a.heap.size ≤ b.heap.size := by obtain ⟨p, rfl⟩ := h; simp
theorem Grw.heap {a b : World} (h : Grw a b) {k : Nat} (hk : k < a.heap.size) : b.heap[k]? = a.heap[k]? := by
  obtain ⟨p, rfl⟩ := h; exact heap_grow_old _ _ hk
theorem Grw.below {a b : World} (h : Grw a b) : Below a.heap.size a b := by
  have hs := h.size; have hh := fun k => h.heap (k := k); obtain ⟨p, rfl⟩ := h
  exact ⟨rfl, rfl, rfl, hs, fun k hk => hh k hk⟩
theorem Grw.setNew {a b : World} (h : Grw a b) {p : Addr} (hp : a.heap.size ≤ p.block) (v : Value) : Grw a (b.setCell p v) := by
  obtain ⟨q, rfl⟩ := h
  refine ⟨⟨q.n, q.os.modify (p.block - a.heap.size) fun | .cells c elem frozen => .cells (if p.spot.isSome then c else c.setIfInBounds p.off v) elem frozen | o => o⟩, ?_⟩
  simp only [World.setCell, grow]
  congr 1
  exact modify_append_right _ _ _ _ hp
theorem Grw.setAt {a b : World} (h : Grw a b) {k o : Nat} (hp : a.heap.size ≤ k) (v : Value) : Grw a (b.setCell ⟨k, o, none⟩ v) := h.setNew hp v
theorem Grw.cells {W w1 : World} (h : Grw W w1) : (∀ b o, b < W.heap.size → w1.cell? ⟨b, o, none⟩ = W.cell? ⟨b, o, none⟩) ∧ (∀ b o, b < W.heap.size → w1.frozen? ⟨b, o, none⟩ = W.frozen? ⟨b, o, none⟩) :=
  ⟨fun b o hb => h.below.cell (p := ⟨b, o, none⟩) hb, fun b o hb => h.below.frozen (p := ⟨b, o, none⟩) hb⟩
theorem Grw.cell {a b : World} (h : Grw a b) {p : Addr} {v : Value} (hc : a.cell? p = some v) : b.cell? p = some v :=
  (h.below.cell (World.block_lt_of_cell? a p hc)).trans hc

theorem cell_in_grow (w : World) (n : Nat) (os : Array Obj) (b o : Nat) (h : b < w.heap.size) : (grow (w.drewN n) os).cell? ⟨b, o, none⟩ = w.cell? ⟨b, o, none⟩ := cell?_grow (w.drewN n) os _ h
theorem frozen_in_grow (w : World) (n : Nat) (os : Array Obj) (b o : Nat) (h : b < w.heap.size) : (grow (w.drewN n) os).frozen? ⟨b, o, none⟩ = w.frozen? ⟨b, o, none⟩ := frozen?_grow (w.drewN n) os _ h

section flow
variable {P : Program} {ops : Array Oper} {w0 : World}

/-- One fixed value, the world at most grown. -/
def qUpon (P : Program) (w : World) (v : Value) : Result Next → Prop
  | .ok (.value u) w' => w' = w ∧ u = v
  | .ok .skip w' => w' = w ∧ v = undef
  | .ok (.enter f args) w' => w' = w ∧ Calls P f args w (fun e w'' => e = .returned v ∧ Grw w w'')
  | _ => False
def qAt (P : Program) (o : Oper) (a : Act) (w : World) (v : Value) : Prop := qUpon P w v ((execOp a.eval o).run P w)

def YieldsG (P : Program) (ops : Array Oper) (w0 : World) (o : Oper) (v : Value) (a : Act) : Prop :=
  (Region.wanted o (yielded ops a.tmps) = true ∧ ∀ w, Grw w0 w → qAt P o a w v) ∨ (Region.wanted o (yielded ops a.tmps) = false ∧ v = undef)

/-- It yields some value and goes on. -/
def okUpon (P : Program) (K : Value → World → Prop) : Result Next → Prop
  | .ok (.value u) w' => K u w'
  | .ok .skip w' => K undef w'
  | .ok (.enter f args) w' => Calls P f args w' (fun e w'' => ∃ v, e = .returned v ∧ K v w'')
  | _ => False
theorem okUpon_mono {K K' : Value → World → Prop} (h : ∀ v w, K v w → K' v w) {r : Result Next} (hr : okUpon P K r) : okUpon P K' r := by
  cases r with
  | ok n w' =>
    cases n <;> simp only [okUpon] at hr ⊢
    case value u => exact h _ _ hr
    case skip => exact h _ _ hr
    case enter f args => exact hr.mono fun e w'' ⟨v, he, hk⟩ => ⟨v, he, h _ _ hk⟩
  | halt x w' => exact hr
def okOp (P : Program) (ops : Array Oper) (o : Oper) (K : Value → World → Prop) (a : Act) (w : World) : Prop :=
  if Region.wanted o (yielded ops a.tmps) then okUpon P K ((execOp a.eval o).run P w) else K undef w
theorem okOp_mono {o : Oper} {K K' : Value → World → Prop} (h : ∀ v w, K v w → K' v w) {a : Act} {w : World} (hr : okOp P ops o K a w) : okOp P ops o K' a w := by
  unfold okOp at *
  split
  · rename_i hw; rw [if_pos hw] at hr; exact okUpon_mono h hr
  · rename_i hw; rw [if_neg hw] at hr; exact h _ _ hr

def anyA (P : Program) (ops : Array Oper) (n : Nat) (L : Array Bool → Act → World → Prop) : Nat → Array Bool → Act → World → Prop
  | 0, listed, a, w => (∀ j ∈ Region.ready .any ops listed, n ≤ j) ∧ ∀ w1, Grw w w1 → L listed a w1
  | f + 1, listed, a, w => ∀ w1, Grw w w1 → Region.ready .any ops listed ≠ [] ∧ ∀ j ∈ Region.ready .any ops listed, j < n ∧ ∀ o, ops[j]? = some o →
      okOp P ops o (fun v w2 => Grw w1 w2 ∧ anyA P ops n L f (listed.setIfInBounds j true) (a.put o.dst v) w2) a w1

theorem anyA_stab {n : Nat} {L : Array Bool → Act → World → Prop} {f : Nat} {listed : Array Bool} {a : Act} {w w1 : World} (h : anyA P ops n L f listed a w) (hw : Grw w w1) : anyA P ops n L f listed a w1 := by
  cases f with
  | zero => exact ⟨h.1, fun w2 h2 => h.2 w2 (hw.trans h2)⟩
  | succ f => exact fun w2 h2 => h w2 (hw.trans h2)

theorem YieldsG.put {o o' : Oper} {v : Value} {a : Act} (hs : ∀ cs b, o.op ≠ .select cs b) (hap : ∀ d, o'.dst = some d → d ∉ o.looksAt ops) (u : Value)
    (hy : YieldsG P ops w0 o v a) : YieldsG P ops w0 o v (a.put o'.dst u) := by
  unfold YieldsG qAt at *
  rw [execOp_put o hs a o'.dst u hap, wanted_put o a o'.dst u hap]
  exact hy

theorem YieldsG.okOp {o : Oper} {v : Value} {a : Act} {w : World} (hy : YieldsG P ops w0 o v a) (hw : Grw w0 w) {K : Value → World → Prop} (h : ∀ w1, Grw w w1 → K v w1) : okOp P ops o K a w := by
  unfold Ytbnfngelkaembaa.okOp
  rcases hy with ⟨h1, h2⟩ | ⟨h1, rfl⟩
  · rw [if_pos h1]
    have h3 := h2 w hw
    unfold qAt at h3
    generalize (execOp a.eval o).run P w = r at h3 ⊢
    cases r with
    | ok x w' =>
      cases x <;> simp only [qUpon, okUpon] at h3 ⊢
      case value u => obtain ⟨rfl, rfl⟩ := h3; exact h _ (Grw.refl _)
      case skip => obtain ⟨rfl, rfl⟩ := h3; exact h _ (Grw.refl _)
      case enter f args => obtain ⟨rfl, h4⟩ := h3; exact h4.mono fun e w'' ⟨he, hg⟩ => ⟨v, he, h _ hg⟩
    | halt x w' => simp only [qUpon] at h3
  · rw [if_neg (by rw [h1]; exact Bool.false_ne_true)]
    exact h _ (Grw.refl _)

theorem anyA_first {n i : Nat} {oi : Oper} {v : Value} {L : Array Bool → Act → World → Prop} (hi : ops[i]? = some oi) (hsel : ∀ (j : Nat) (o : Oper) cs b, ops[j]? = some o → o.op ≠ .select cs b)
    (hT : ∀ t ot, n ≤ t → ops[t]? = some ot → ∃ e ∈ ot.after, Region.binds .any e = true ∧ e.on = i) (hin : i < n) :
    ∀ (f : Nat) (listed : Array Bool) (a : Act) (w : World), Grw w0 w →
      (∀ j oj, ops[j]? = some oj → j ≠ i → listed.getD j true = false → (∀ e ∈ oj.after, Region.binds .any e = true → e.on ≠ i) → oi.apart ops oj = true) →
      i ∈ Region.ready .any ops listed → YieldsG P ops w0 oi v a →
      anyA P ops n L f (listed.setIfInBounds i true) (a.put oi.dst v) w → anyA P ops n L (f + 1) listed a w := by
  intro f
  induction f with
  | zero =>
    intro listed a w hw hfree hr hy H w1 hw1
    have hun := (mem_ready.1 hr).1
    refine ⟨fun h => (by rw [h] at hr; cases hr), fun j hj => ?_⟩
    have hjn : j < n := by
      rcases Nat.lt_or_ge j n with h | h
      · exact h
      · obtain ⟨_, oj, hoj, hall⟩ := mem_ready.1 hj
        obtain ⟨e, he, hb, hon⟩ := hT j oj h hoj
        have := hall e he hb
        rw [hon, getD_both hun] at this; cases this
    refine ⟨hjn, fun o ho => ?_⟩
    by_cases hji : j = i
    · subst hji
      obtain rfl : oi = o := Option.some.inj (hi.symm.trans ho)
      exact hy.okOp (hw.trans hw1) fun w2 h2 => ⟨h2, anyA_stab H (hw1.trans h2)⟩
    · have := H.1 j (ready_mono hj hji)
      omega
  | succ f ih =>
    intro listed a w hw hfree hr hy H w1 hw1
    have hun := (mem_ready.1 hr).1
    refine ⟨fun h => (by rw [h] at hr; cases hr), fun j hj => ?_⟩
    have hjn : j < n := by
      rcases Nat.lt_or_ge j n with h | h
      · exact h
      · obtain ⟨_, oj, hoj, hall⟩ := mem_ready.1 hj
        obtain ⟨e, he, hb, hon⟩ := hT j oj h hoj
        have := hall e he hb
        rw [hon, getD_both hun] at this; cases this
    refine ⟨hjn, fun oj hoj => ?_⟩
    by_cases hji : j = i
    · subst hji
      obtain rfl : oi = oj := Option.some.inj (hi.symm.trans hoj)
      exact hy.okOp (hw.trans hw1) fun w2 h2 => ⟨h2, anyA_stab H (hw1.trans h2)⟩
    · obtain ⟨hjun, oj', hoj', hall⟩ := mem_ready.1 hj
      obtain rfl : oj' = oj := Option.some.inj (hoj'.symm.trans hoj)
      have hnot : ∀ e ∈ oj'.after, Region.binds .any e = true → e.on ≠ i := fun e he hb heq => by
        have h1 := hall e he hb
        rw [heq, getD_both hun] at h1; cases h1
      obtain ⟨a1, a2, a3⟩ := Oper.apart_spec (hfree j oj' hoj hji hjun hnot)
      have h1 := ((H w1 hw1).2 j (ready_mono hj hji)).2 oj' hoj
      have h2 : okOp P ops oj' (fun u w2 => Grw w1 w2 ∧ anyA P ops n L f ((listed.setIfInBounds i true).setIfInBounds j true) ((a.put oi.dst v).put oj'.dst u) w2) a w1 := by
        unfold okOp at h1 ⊢
        rw [wanted_put oj' a oi.dst v a1, execOp_put oj' (fun cs b => hsel j oj' cs b hoj) a oi.dst v a1] at h1
        exact h1
      refine okOp_mono (fun u w2 ⟨hg, hA⟩ => ⟨hg, ?_⟩) h2
      refine ih (listed.setIfInBounds j true) (a.put oj'.dst u) w2 ((hw.trans hw1).trans hg) (fun k ok hk hki hunk hno => ?_) (ready_mono hr (Ne.symm hji)) (hy.put (fun cs b => hsel i oi cs b hi) a3 u) ?_
      · refine hfree k ok hk hki ?_ hno
        by_cases hjk : j = k
        · subst hjk; exact hjun
        · rw [getD_set_ne true hjk] at hunk; exact hunk
      · rw [Array.setIfInBounds_comm _ _ hji, ← Act.put_comm a v u a2]
        exact hA

/-- The walk in the order of the text. -/
def wpQ (P : Program) (ops : Array Oper) (w0 : World) (Q : Act → Prop) : List Oper → Act → Prop
  | [], a => Q a
  | o :: rest, a => if Region.wanted o (yielded ops a.tmps) then ∃ v, (∀ p : GrownBy, qAt P o a (grow (w0.drewN p.n) p.os) v) ∧ wpQ P ops w0 Q rest (a.put o.dst v) else wpQ P ops w0 Q rest (a.put o.dst undef)
theorem wpQ_nil {Q : Act → Prop} {a : Act} (h : Q a) : wpQ P ops w0 Q [] a := h
theorem wpQ_step {Q : Act → Prop} {a : Act} {o : Oper} {rest : List Oper}
    (h : ∀ K : Act → Prop, (∀ a, wpQ P ops w0 Q rest a → K a) → if Region.wanted o (yielded ops a.tmps) then ∃ v, (∀ p : GrownBy, qAt P o a (grow (w0.drewN p.n) p.os) v) ∧ K (a.put o.dst v) else K (a.put o.dst undef)) : wpQ P ops w0 Q (o :: rest) a :=
  h _ (fun _ h => h)

/-- Each operation from k on may be taken in turn, and is apart from whatever may come before it; those from n on wait for it. -/
def flowFrom (ops : Array Oper) (n : Nat) : Nat → Nat → Array Bool → Bool
  | 0, _, _ => true
  | f + 1, k, listed => decide (k < n) && (Region.ready .any ops listed).contains k && Region.free .any ops listed k &&
      ((List.range ops.size).all fun t => decide (t < n) || Region.waitsFor .any ops t k) && flowFrom ops n f (k + 1) (listed.setIfInBounds k true)
def listedTo (m k : Nat) : Array Bool := (List.range k).foldl (fun l i => l.setIfInBounds i true) (Array.replicate m false)
def flowB (ops : Array Oper) (np n : Nat) : Bool := Region.noSelect ops && decide (np ≤ ops.size) && flowFrom ops n np 0 (Array.replicate ops.size false)

theorem listedTo_succ (m k : Nat) : listedTo m (k + 1) = (listedTo m k).setIfInBounds k true := by
  simp [listedTo, List.range_succ]

theorem anyA_lex {n g : Nat} {L : Array Bool → Act → World → Prop} (hsel : Region.noSelect ops = true) : ∀ (l : List Oper) (k : Nat) (a : Act) (w : World), Grw w0 w → (∀ j, j < l.length → l[j]? = ops[k + j]?) →
    flowFrom ops n l.length k (listedTo ops.size k) = true →
    wpQ P ops w0 (fun a' => ∀ w1, Grw w0 w1 → anyA P ops n L g (listedTo ops.size (k + l.length)) a' w1) l a →
    anyA P ops n L (l.length + g) (listedTo ops.size k) a w
  | [], k, a, w, hw, _, _, h => by simpa using h w hw
  | o :: l, k, a, w, hw, hl, hB, h => by
    have h0 : ops[k]? = some o := by simpa using (hl 0 (by simp)).symm
    simp only [List.length_cons, flowFrom, Bool.and_eq_true, decide_eq_true_eq] at hB
    obtain ⟨⟨⟨⟨hkn, hr⟩, hf⟩, ht⟩, hB'⟩ := hB
    have hT : ∀ t ot, n ≤ t → ops[t]? = some ot → ∃ e ∈ ot.after, Region.binds .any e = true ∧ e.on = k := fun t ot hnt hot => by
      have h1 := List.all_eq_true.1 ht t (List.mem_range.2 (Array.getElem?_eq_some_iff.1 hot).1)
      simp only [Bool.or_eq_true, decide_eq_true_eq] at h1
      rcases h1 with h1 | h1
      · omega
      · obtain ⟨o', ho', hh⟩ := Region.waitsFor_spec h1
        obtain rfl : o' = ot := Option.some.inj (ho'.symm.trans hot)
        exact hh
    have step : ∃ v, YieldsG P ops w0 o v a ∧ wpQ P ops w0 (fun a' => ∀ w1, Grw w0 w1 → anyA P ops n L g (listedTo ops.size (k + (l.length + 1))) a' w1) l (a.put o.dst v) := by
      unfold wpQ at h
      split at h
      · rename_i hw'
        obtain ⟨v, h1, h2⟩ := h
        exact ⟨v, .inl ⟨hw', fun w2 ⟨p, hp⟩ => hp ▸ h1 p⟩, h2⟩
      · rename_i hw'
        exact ⟨undef, .inr ⟨by simpa using hw', rfl⟩, h⟩
    obtain ⟨v, hy, hK⟩ := step
    have e : (o :: l).length + g = (l.length + g) + 1 := by simp; omega
    rw [e]
    refine anyA_first h0 (Region.noSelect_spec hsel) hT hkn (l.length + g) _ a w hw (Region.free_spec h0 hf) (by simpa using hr) hy ?_
    rw [← listedTo_succ]
    refine anyA_lex hsel l (k + 1) _ w hw (fun j hj => ?_) (by rw [listedTo_succ]; exact hB') ?_
    · have := hl (j + 1) (by simp; omega)
      simpa [Nat.add_assoc, Nat.add_comm 1 j] using this
    · rw [show k + 1 + l.length = k + (l.length + 1) by omega]; exact hK

theorem wpOp_of_okOp {i : Nat} {o : Oper} (ho : ops[i]? = some o) {K : Value → World → Prop} {K' : Act → World → Prop} {Q : Exit → Act → World → Prop} {a : Act} {w : World} (h : ∀ v w', K v w' → K' (a.put o.dst v) w')
    (hk : okOp P ops o K a w) : wpOp P ops Q i K' a w := by
  unfold okOp at hk
  unfold wpOp
  simp only [ho]
  split
  · rename_i hw
    rw [if_pos hw] at hk
    refine .inl ?_
    unfold Oper.wp
    generalize (execOp a.eval o).run P w = r at hk ⊢
    cases r with
    | ok x w' =>
      cases x <;> simp only [okUpon] at hk <;> simp only [Oper.upon]
      case value u => exact h _ _ hk
      case skip => exact h _ _ hk
      case enter f args => exact hk.mono fun e w'' ⟨v, he, hv⟩ => by subst he; exact h _ _ hv
    | halt x w' => simp only [okUpon] at hk
  · rename_i hw
    rw [if_neg hw] at hk
    exact h _ _ hk

theorem wpAny_of_anyA {n g : Nat} {L : Array Bool → Act → World → Prop} {Q : Exit → Act → World → Prop} (hL : ∀ listed a w, L listed a w → wpAny P .any ops Q g listed a w) :
    ∀ (f : Nat) (listed : Array Bool) (a : Act) (w : World), anyA P ops n L f listed a w → wpAny P .any ops Q (f + g) listed a w
  | 0, listed, a, w, h => by rw [Nat.zero_add]; exact hL _ _ _ (h.2 w (Grw.refl w))
  | f + 1, listed, a, w, h => by
    rw [show f + 1 + g = (f + g) + 1 by omega]
    obtain ⟨h1, h2⟩ := h w (Grw.refl w)
    refine ⟨fun h0 => absurd h0 h1, fun i hi => ?_⟩
    obtain ⟨_, o, ho, _⟩ := mem_ready.1 hi
    exact wpOp_of_okOp ho (fun v w' hv => wpAny_of_anyA hL f _ _ _ hv.2) ((h2 i hi).2 o ho)

theorem wpQ_mono {Q Q' : Act → Prop} (h : ∀ a, Q a → Q' a) : ∀ (l : List Oper) (a : Act), wpQ P ops w0 Q l a → wpQ P ops w0 Q' l a
  | [], a, hh => h a hh
  | o :: l, a, hh => by
    unfold wpQ at hh ⊢
    split
    · rename_i hw
      rw [if_pos hw] at hh
      obtain ⟨v, h1, h2⟩ := hh
      exact ⟨v, h1, wpQ_mono h l _ h2⟩
    · rename_i hw
      rw [if_neg hw] at hh
      exact wpQ_mono h l _ hh

/-- A: the last operations, from n on, wait for all others and come one behind the other. -/
theorem wp_region_flowA {id : Nat} {Q : Exit → Act → World → Prop} {a : Act} {w : World} {l : List Oper} (n : Nat) (hm : P.follows .mixedOrders = true)
    (hB : (flowB l.toArray n n && (Region.ready .any l.toArray (listedTo l.length n)).all (fun j => decide (n ≤ j)) && Region.seqB .any l.toArray (l.length - n) n (listedTo l.length n)) = true)
    (h : wpQ P l.toArray w (fun a' => ∀ w1, Grw w w1 → wpList P l.toArray Q (l.drop n) a' w1) (l.take n) a) : (Code.region id l.toArray true).wp P Q a w := by
  simp only [Bool.and_eq_true, flowB, decide_eq_true_eq] at hB
  obtain ⟨⟨⟨⟨hsel, hn⟩, hfl⟩, hrd⟩, hseq⟩ := hB
  have hn' : n ≤ l.length := by simpa using hn
  have htl : (l.take n).length = n := by simp; omega
  have hsz : l.toArray.size = l.length := by simp
  refine wp_region_any hm ?_
  have H := anyA_lex (P := P) (w0 := w) (n := n) (g := 0) (L := fun listed a' w' => listed = listedTo l.length n ∧ wpList P l.toArray Q (l.drop n) a' w') hsel (l.take n) 0 a ({ w with drawn := w.drawn + 1 }) ((Grw.refl w).drewN 1)
    (fun j hj => by simp only [Nat.zero_add]; rw [htl] at hj; simp [hj]) (by rw [htl]; exact hfl) (by
      have e : 0 + (l.take n).length = n := by omega
      rw [e, hsz]
      exact wpQ_mono (fun a' ha' w1 hw1 => ⟨fun j hj => by simpa using List.all_eq_true.1 hrd j hj, fun w2 hw2 => ⟨rfl, ha' w2 (hw1.trans hw2)⟩⟩) _ _ h)
  have H2 := wpAny_of_anyA (Q := Q) (g := l.length - n) (fun listed a' w' ⟨e, hL⟩ => by
    subst e
    have := wpAny_of_seq (md := .any) (Q' := Q) (l.drop n) n (listedTo l.length n) a' w' (fun j => by simp [List.getElem?_drop]) (by simpa using hseq) hL
    simpa using this) _ _ _ _ H
  rw [htl] at H2
  have e1 : n + 0 + (l.length - n) = l.toArray.size := by omega
  rw [e1] at H2
  exact H2

/-- The rest of a region, each operation at most growing the world, met in whatever grown world. -/
def okList (P : Program) (ops : Array Oper) (Q : Act → World → Prop) : List Oper → Act → World → Prop
  | [], a, w => ∀ w1, Grw w w1 → Q a w1
  | o :: rest, a, w => ∀ w1, Grw w w1 → okOp P ops o (fun v w2 => Grw w1 w2 ∧ okList P ops Q rest (a.put o.dst v) w2) a w1
theorem okList_nil {Q : Act → World → Prop} {a : Act} {w : World} (h : ∀ w1, Grw w w1 → Q a w1) : okList P ops Q [] a w := h
theorem okList_step {Q : Act → World → Prop} {a : Act} {w : World} {o : Oper} {rest : List Oper}
    (h : ∀ w1, Grw w w1 → ∀ K : Value → World → Prop, (∀ v w2, Grw w1 w2 → okList P ops Q rest (a.put o.dst v) w2 → K v w2) → okOp P ops o K a w1) : okList P ops Q (o :: rest) a w :=
  fun w1 hw => h w1 hw _ fun _ _ hg hk => ⟨hg, hk⟩

theorem anyA_seq {Q : Act → World → Prop} : ∀ (l : List Oper) (k : Nat) (listed : Array Bool) (a : Act) (w : World), (∀ j, l[j]? = ops[k + j]?) → Region.seqB .any ops l.length k listed = true → okList P ops Q l a w →
    anyA P ops ops.size (fun listed' a' w' => Region.ready .any ops listed' = [] ∧ Q a' w') l.length listed a w
  | [], k, listed, a, w, _, hB, h => by
    have e : Region.ready .any ops listed = [] := by simpa [Region.seqB] using hB
    exact ⟨by simp [e], fun w1 hw => ⟨e, h w1 hw⟩⟩
  | o :: l, k, listed, a, w, hl, hB, h => by
    have h0 : ops[k]? = some o := by simpa using (hl 0).symm
    simp only [List.length_cons, Region.seqB, Bool.and_eq_true, decide_eq_true_eq] at hB
    intro w1 hw
    refine ⟨by rw [hB.1]; simp, fun j hj => ?_⟩
    rw [hB.1] at hj
    obtain rfl : j = k := by simpa using hj
    refine ⟨(Array.getElem?_eq_some_iff.1 h0).1, fun o' ho' => ?_⟩
    obtain rfl : o' = o := Option.some.inj (ho'.symm.trans h0)
    exact okOp_mono (fun v w2 ⟨hg, hk⟩ => ⟨hg, anyA_seq l (j + 1) _ _ _ (fun i => by have := hl (i + 1); simpa [Nat.add_assoc, Nat.add_comm 1 i] using this) hB.2 hk⟩) (h w1 hw)

/-- B: from n on the operations come one behind the other; they may come ahead of what stands before n, and at most grow the world. -/
theorem wp_region_flowB {id : Nat} {Q : Exit → Act → World → Prop} {a : Act} {w : World} {l : List Oper} (n : Nat) (hm : P.follows .mixedOrders = true)
    (hB : (flowB l.toArray n l.length && Region.seqB .any l.toArray (l.length - n) n (listedTo l.length n)) = true)
    (h : wpQ P l.toArray w (fun a' => ∀ w1, Grw w w1 → okList P l.toArray (Q .normal) (l.drop n) a' w1) (l.take n) a) : (Code.region id l.toArray true).wp P Q a w := by
  simp only [Bool.and_eq_true, flowB, decide_eq_true_eq] at hB
  obtain ⟨⟨⟨hsel, hn⟩, hfl⟩, hseq⟩ := hB
  have hn' : n ≤ l.length := by simpa using hn
  have htl : (l.take n).length = n := by simp; omega
  have hsz : l.toArray.size = l.length := by simp
  refine wp_region_any hm ?_
  have H := anyA_lex (P := P) (w0 := w) (n := l.toArray.size) (g := l.length - n) (L := fun listed a' w' => Region.ready .any l.toArray listed = [] ∧ Q .normal a' w') hsel (l.take n) 0 a ({ w with drawn := w.drawn + 1 }) ((Grw.refl w).drewN 1)
    (fun j hj => by simp only [Nat.zero_add]; rw [htl] at hj; simp [hj]) (by rw [htl, hsz]; exact hfl) (by
      have e : 0 + (l.take n).length = n := by omega
      rw [e, hsz]
      refine wpQ_mono (fun a' ha' w1 hw1 => ?_) _ _ h
      have := anyA_seq (P := P) (Q := Q .normal) (l.drop n) n (listedTo l.length n) a' w1 (fun j => by simp [List.getElem?_drop]) (by simpa using hseq) (ha' w1 hw1)
      simpa using this)
  have H2 := wpAny_of_anyA (Q := Q) (g := 0) (fun listed a' w' hL => hL) _ _ _ _ H
  rw [htl] at H2
  have e1 : n + (l.length - n) + 0 = l.toArray.size := by omega
  rw [e1] at H2
  exact H2

/-- All of it in one walk. -/
theorem wp_region_flow {id : Nat} {Q : Exit → Act → World → Prop} {a : Act} {w : World} {l : List Oper} (hm : P.follows .mixedOrders = true)
    (hB : (flowB l.toArray l.length l.length && (Region.ready .any l.toArray (listedTo l.length l.length)).isEmpty) = true)
    (h : wpQ P l.toArray w (fun a' => ∀ w1, Grw w w1 → Q .normal a' w1) l a) : (Code.region id l.toArray true).wp P Q a w := by
  refine wp_region_flowB l.length hm (by simpa [Region.seqB] using hB) ?_
  simp only [List.take_length, List.drop_length]
  exact wpQ_mono (fun a' ha' w1 hw1 => okList_nil fun w2 hw2 => ha' w2 (hw1.trans hw2)) _ _ h

end flow
#print axioms wp_region_flowA
#print axioms wp_region_flowB
#print axioms wp_region_flow
end Go.Proofs.Ytbnfngelkaembaa
