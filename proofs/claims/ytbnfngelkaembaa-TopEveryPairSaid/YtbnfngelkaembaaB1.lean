/- Regions whose order is drawn, where what comes first only reads and what comes behind it writes blocks that are not read there. No program is named here. -/
import Derived.Test.YtbnfngelkaembaaA2
namespace Go.Proofs.Ytbnfngelkaembaa
open Go.RowKit Go.Sort

section flow
variable {P : Program} {ops : Array Oper} {w0 : World} {S : Nat → Prop}

def YieldsS (S : Nat → Prop) (P : Program) (ops : Array Oper) (w0 : World) (o : Oper) (v : Value) (a : Act) : Prop :=
  (Region.wanted o (yielded ops a.tmps) = true ∧ ∀ w, OnlyChg S w0 w → qAt P o a w v) ∨ (Region.wanted o (yielded ops a.tmps) = false ∧ v = undef)

def anyS (S : Nat → Prop) (P : Program) (ops : Array Oper) (n : Nat) (L : Array Bool → Act → World → Prop) : Nat → Array Bool → Act → World → Prop
  | 0, listed, a, w => (∀ j ∈ Region.ready .any ops listed, n ≤ j) ∧ ∀ w1, Grw w w1 → L listed a w1
  | f + 1, listed, a, w => ∀ w1, Grw w w1 → Region.ready .any ops listed ≠ [] ∧ ∀ j ∈ Region.ready .any ops listed, j < n ∧ ∀ o, ops[j]? = some o →
      okOp P ops o (fun v w2 => OnlyChg S w1 w2 ∧ anyS S P ops n L f (listed.setIfInBounds j true) (a.put o.dst v) w2) a w1

theorem anyS_stab {n : Nat} {L : Array Bool → Act → World → Prop} {f : Nat} {listed : Array Bool} {a : Act} {w w1 : World} (h : anyS S P ops n L f listed a w) (hw : Grw w w1) : anyS S P ops n L f listed a w1 := by
  cases f with
  | zero => exact ⟨h.1, fun w2 h2 => h.2 w2 (hw.trans h2)⟩
  | succ f => exact fun w2 h2 => h w2 (hw.trans h2)

theorem YieldsS.put {o o' : Oper} {v : Value} {a : Act} (hs : ∀ cs b, o.op ≠ .select cs b) (hap : ∀ d, o'.dst = some d → d ∉ o.looksAt ops) (u : Value)
    (hy : YieldsS S P ops w0 o v a) : YieldsS S P ops w0 o v (a.put o'.dst u) := by
  unfold YieldsS qAt at *
  rw [execOp_put o hs a o'.dst u hap, wanted_put o a o'.dst u hap]
  exact hy

theorem YieldsS.okOp {o : Oper} {v : Value} {a : Act} {w : World} (hy : YieldsS S P ops w0 o v a) (hw : OnlyChg S w0 w) {K : Value → World → Prop} (h : ∀ w1, Grw w w1 → K v w1) : okOp P ops o K a w := by
  unfold Ytbnfngelkaembaa.okOp
  rcases hy with ⟨h1, h2⟩ | ⟨h1, rfl⟩
  · rw [if_pos h1]
    have h3 := h2 w hw
    unfold qAt at h3
    generalize (execOp a.eval o).run P w = r at h3 ⊢
    cases r with
    | ok x w' =>
      cases x <;> simp only [qUpon, okUpon] at h3 ⊢
      case value u => obtain ⟨rfl, rfl⟩ := h3; exact h _ (Grw.refl _)
      case skip => obtain ⟨rfl, rfl⟩ := h3; exact h _ (Grw.refl _)
      case enter f args => obtain ⟨rfl, h4⟩ := h3; exact h4.mono fun e w'' ⟨he, hg⟩ => ⟨v, he, h _ hg⟩
    | halt x w' => simp only [qUpon] at h3
  · rw [if_neg (by rw [h1]; exact Bool.false_ne_true)]
    exact h _ (Grw.refl _)

theorem anyS_first {n i : Nat} {oi : Oper} {v : Value} {L : Array Bool → Act → World → Prop} (hi : ops[i]? = some oi) (hsel : ∀ (j : Nat) (o : Oper) cs b, ops[j]? = some o → o.op ≠ .select cs b)
    (hT : ∀ t ot, n ≤ t → ops[t]? = some ot → ∃ e ∈ ot.after, Region.binds .any e = true ∧ e.on = i) (hin : i < n) :
    ∀ (f : Nat) (listed : Array Bool) (a : Act) (w : World), OnlyChg S w0 w →
      (∀ j oj, ops[j]? = some oj → j ≠ i → listed.getD j true = false → (∀ e ∈ oj.after, Region.binds .any e = true → e.on ≠ i) → oi.apart ops oj = true) →
      i ∈ Region.ready .any ops listed → YieldsS S P ops w0 oi v a →
      anyS S P ops n L f (listed.setIfInBounds i true) (a.put oi.dst v) w → anyS S P ops n L (f + 1) listed a w := by
  intro f
  induction f with
  | zero =>
    intro listed a w hw hfree hr hy H w1 hw1
    have hun := (mem_ready.1 hr).1
    refine ⟨fun h => (by rw [h] at hr; cases hr), fun j hj => ?_⟩
    have hjn : j < n := by
      rcases Nat.lt_or_ge j n with h | h
      · exact h
      · obtain ⟨_, oj, hoj, hall⟩ := mem_ready.1 hj
        obtain ⟨e, he, hb, hon⟩ := hT j oj h hoj
        have := hall e he hb
        rw [hon, getD_both hun] at this; cases this
    refine ⟨hjn, fun o ho => ?_⟩
    by_cases hji : j = i
    · subst hji
      obtain rfl : oi = o := Option.some.inj (hi.symm.trans ho)
      exact hy.okOp (hw.grw hw1) fun w2 h2 => ⟨(OnlyChg.refl _ _).grw h2, anyS_stab H (hw1.trans h2)⟩
    · have := H.1 j (ready_mono hj hji)
      omega
  | succ f ih =>
    intro listed a w hw hfree hr hy H w1 hw1
    have hun := (mem_ready.1 hr).1
    refine ⟨fun h => (by rw [h] at hr; cases hr), fun j hj => ?_⟩
    have hjn : j < n := by
      rcases Nat.lt_or_ge j n with h | h
      · exact h
      · obtain ⟨_, oj, hoj, hall⟩ := mem_ready.1 hj
        obtain ⟨e, he, hb, hon⟩ := hT j oj h hoj
        have := hall e he hb
        rw [hon, getD_both hun] at this; cases this
    refine ⟨hjn, fun oj hoj => ?_⟩
    by_cases hji : j = i
    · subst hji
      obtain rfl : oi = oj := Option.some.inj (hi.symm.trans hoj)
      exact hy.okOp (hw.grw hw1) fun w2 h2 => ⟨(OnlyChg.refl _ _).grw h2, anyS_stab H (hw1.trans h2)⟩
    · obtain ⟨hjun, oj', hoj', hall⟩ := mem_ready.1 hj
      obtain rfl : oj' = oj := Option.some.inj (hoj'.symm.trans hoj)
      have hnot : ∀ e ∈ oj'.after, Region.binds .any e = true → e.on ≠ i := fun e he hb heq => by
        have h1 := hall e he hb
        rw [heq, getD_both hun] at h1; cases h1
      obtain ⟨a1, a2, a3⟩ := Oper.apart_spec (hfree j oj' hoj hji hjun hnot)
      have h1 := ((H w1 hw1).2 j (ready_mono hj hji)).2 oj' hoj
      have h2 : okOp P ops oj' (fun u w2 => OnlyChg S w1 w2 ∧ anyS S P ops n L f ((listed.setIfInBounds i true).setIfInBounds j true) ((a.put oi.dst v).put oj'.dst u) w2) a w1 := by
        unfold okOp at h1 ⊢
        rw [wanted_put oj' a oi.dst v a1, execOp_put oj' (fun cs b => hsel j oj' cs b hoj) a oi.dst v a1] at h1
        exact h1
      refine okOp_mono (fun u w2 ⟨hg, hA⟩ => ⟨hg, ?_⟩) h2
      refine ih (listed.setIfInBounds j true) (a.put oj'.dst u) w2 ((hw.grw hw1).trans hg) (fun k ok hk hki hunk hno => ?_) (ready_mono hr (Ne.symm hji)) (hy.put (fun cs b => hsel i oi cs b hi) a3 u) ?_
      · refine hfree k ok hk hki ?_ hno
        by_cases hjk : j = k
        · subst hjk; exact hjun
        · rw [getD_set_ne true hjk] at hunk; exact hunk
      · rw [Array.setIfInBounds_comm _ _ hji, ← Act.put_comm a v u a2]
        exact hA

/-- The walk in the order of the text. -/
def wpS (S : Nat → Prop) (P : Program) (ops : Array Oper) (w0 : World) (Q : Act → Prop) : List Oper → Act → Prop
  | [], a => Q a
  | o :: rest, a => if Region.wanted o (yielded ops a.tmps) then ∃ v, (∀ w', OnlyChg S w0 w' → qAt P o a w' v) ∧ wpS S P ops w0 Q rest (a.put o.dst v) else wpS S P ops w0 Q rest (a.put o.dst undef)
theorem wpS_nil {Q : Act → Prop} {a : Act} (h : Q a) : wpS S P ops w0 Q [] a := h
theorem wpS_step {Q : Act → Prop} {a : Act} {o : Oper} {rest : List Oper}
    (h : ∀ K : Act → Prop, (∀ a, wpS S P ops w0 Q rest a → K a) → if Region.wanted o (yielded ops a.tmps) then ∃ v, (∀ w', OnlyChg S w0 w' → qAt P o a w' v) ∧ K (a.put o.dst v) else K (a.put o.dst undef)) : wpS S P ops w0 Q (o :: rest) a :=
  h _ (fun _ h => h)

theorem anyS_lex {n g : Nat} {L : Array Bool → Act → World → Prop} (hsel : Region.noSelect ops = true) : ∀ (l : List Oper) (k : Nat) (a : Act) (w : World), Grw w0 w → (∀ j, j < l.length → l[j]? = ops[k + j]?) →
    flowFrom ops n l.length k (listedTo ops.size k) = true →
    wpS S P ops w0 (fun a' => ∀ w1, Grw w0 w1 → anyS S P ops n L g (listedTo ops.size (k + l.length)) a' w1) l a →
    anyS S P ops n L (l.length + g) (listedTo ops.size k) a w
  | [], k, a, w, hw, _, _, h => by simpa using h w hw
  | o :: l, k, a, w, hw, hl, hB, h => by
    have h0 : ops[k]? = some o := by simpa using (hl 0 (by simp)).symm
    simp only [List.length_cons, flowFrom, Bool.and_eq_true, decide_eq_true_eq] at hB
    obtain ⟨⟨⟨⟨hkn, hr⟩, hf⟩, ht⟩, hB'⟩ := hB
    have hT : ∀ t ot, n ≤ t → ops[t]? = some ot → ∃ e ∈ ot.after, Region.binds .any e = true ∧ e.on = k := fun t ot hnt hot => by
      have h1 := List.all_eq_true.1 ht t (List.mem_range.2 (Array.getElem?_eq_some_iff.1 hot).1)
      simp only [Bool.or_eq_true, decide_eq_true_eq] at h1
      rcases h1 with h1 | h1
      · omega
      · obtain ⟨o', ho', hh⟩ := Region.waitsFor_spec h1
        obtain rfl : o' = ot := Option.some.inj (ho'.symm.trans hot)
        exact hh
    have step : ∃ v, YieldsS S P ops w0 o v a ∧ wpS S P ops w0 (fun a' => ∀ w1, Grw w0 w1 → anyS S P ops n L g (listedTo ops.size (k + (l.length + 1))) a' w1) l (a.put o.dst v) := by
      unfold wpS at h
      split at h
      · rename_i hw'
        obtain ⟨v, h1, h2⟩ := h
        exact ⟨v, .inl ⟨hw', fun w2 hp => h1 w2 hp⟩, h2⟩
      · rename_i hw'
        exact ⟨undef, .inr ⟨by simpa using hw', rfl⟩, h⟩
    obtain ⟨v, hy, hK⟩ := step
    have e : (o :: l).length + g = (l.length + g) + 1 := by simp; omega
    rw [e]
    refine anyS_first h0 (Region.noSelect_spec hsel) hT hkn (l.length + g) _ a w ((OnlyChg.refl _ _).grw hw) (Region.free_spec h0 hf) (by simpa using hr) hy ?_
    rw [← listedTo_succ]
    refine anyS_lex hsel l (k + 1) _ w hw (fun j hj => ?_) (by rw [listedTo_succ]; exact hB') ?_
    · have := hl (j + 1) (by simp; omega)
      simpa [Nat.add_assoc, Nat.add_comm 1 j] using this
    · rw [show k + 1 + l.length = k + (l.length + 1) by omega]; exact hK

theorem wpAny_of_anyS {n g : Nat} {L : Array Bool → Act → World → Prop} {Q : Exit → Act → World → Prop} (hL : ∀ listed a w, L listed a w → wpAny P .any ops Q g listed a w) :
    ∀ (f : Nat) (listed : Array Bool) (a : Act) (w : World), anyS S P ops n L f listed a w → wpAny P .any ops Q (f + g) listed a w
  | 0, listed, a, w, h => by rw [Nat.zero_add]; exact hL _ _ _ (h.2 w (Grw.refl w))
  | f + 1, listed, a, w, h => by
    rw [show f + 1 + g = (f + g) + 1 by omega]
    obtain ⟨h1, h2⟩ := h w (Grw.refl w)
    refine ⟨fun h0 => absurd h0 h1, fun i hi => ?_⟩
    obtain ⟨_, o, ho, _⟩ := mem_ready.1 hi
    exact wpOp_of_okOp ho (fun v w' hv => wpAny_of_anyS hL f _ _ _ hv.2) ((h2 i hi).2 o ho)

theorem wpS_mono {Q Q' : Act → Prop} (h : ∀ a, Q a → Q' a) : ∀ (l : List Oper) (a : Act), wpS S P ops w0 Q l a → wpS S P ops w0 Q' l a
  | [], a, hh => h a hh
  | o :: l, a, hh => by
    unfold wpS at hh ⊢
    split
    · rename_i hw
      rw [if_pos hw] at hh
      obtain ⟨v, h1, h2⟩ := hh
      exact ⟨v, h1, wpS_mono h l _ h2⟩
    · rename_i hw
      rw [if_neg hw] at hh
      exact wpS_mono h l _ hh

/-- The rest of a region, each operation at most growing the world, met in whatever grown world. -/
def okS (S : Nat → Prop) (P : Program) (ops : Array Oper) (Q : Act → World → Prop) : List Oper → Act → World → Prop
  | [], a, w => ∀ w1, Grw w w1 → Q a w1
  | o :: rest, a, w => ∀ w1, Grw w w1 → okOp P ops o (fun v w2 => OnlyChg S w1 w2 ∧ okS S P ops Q rest (a.put o.dst v) w2) a w1
theorem okS_nil {Q : Act → World → Prop} {a : Act} {w : World} (h : ∀ w1, Grw w w1 → Q a w1) : okS S P ops Q [] a w := h
theorem okS_step {Q : Act → World → Prop} {a : Act} {w : World} {o : Oper} {rest : List Oper}
    (h : ∀ w1, Grw w w1 → ∀ K : Value → World → Prop, (∀ v w2, OnlyChg S w1 w2 → okS S P ops Q rest (a.put o.dst v) w2 → K v w2) → okOp P ops o K a w1) : okS S P ops Q (o :: rest) a w :=
  fun w1 hw => h w1 hw _ fun _ _ hg hk => ⟨hg, hk⟩

theorem anyS_seq {Q : Act → World → Prop} : ∀ (l : List Oper) (k : Nat) (listed : Array Bool) (a : Act) (w : World), (∀ j, l[j]? = ops[k + j]?) → Region.seqB .any ops l.length k listed = true → okS S P ops Q l a w →
    anyS S P ops ops.size (fun listed' a' w' => Region.ready .any ops listed' = [] ∧ Q a' w') l.length listed a w
  | [], k, listed, a, w, _, hB, h => by
    have e : Region.ready .any ops listed = [] := by simpa [Region.seqB] using hB
    exact ⟨by simp [e], fun w1 hw => ⟨e, h w1 hw⟩⟩
  | o :: l, k, listed, a, w, hl, hB, h => by
    have h0 : ops[k]? = some o := by simpa using (hl 0).symm
    simp only [List.length_cons, Region.seqB, Bool.and_eq_true, decide_eq_true_eq] at hB
    intro w1 hw
    refine ⟨by rw [hB.1]; simp, fun j hj => ?_⟩
    rw [hB.1] at hj
    obtain rfl : j = k := by simpa using hj
    refine ⟨(Array.getElem?_eq_some_iff.1 h0).1, fun o' ho' => ?_⟩
    obtain rfl : o' = o := Option.some.inj (ho'.symm.trans h0)
    exact okOp_mono (fun v w2 ⟨hg, hk⟩ => ⟨hg, anyS_seq l (j + 1) _ _ _ (fun i => by have := hl (i + 1); simpa [Nat.add_assoc, Nat.add_comm 1 i] using this) hB.2 hk⟩) (h w1 hw)

/-- B: from n on the operations come one behind the other; they may come ahead of what stands before n, and at most grow the world. -/
theorem wp_region_flowS {id : Nat} {Q : Exit → Act → World → Prop} {a : Act} {w : World} {l : List Oper} (n : Nat) (hm : P.follows .mixedOrders = true)
    (hB : (flowB l.toArray n l.length && Region.seqB .any l.toArray (l.length - n) n (listedTo l.length n)) = true)
    (h : wpS S P l.toArray w (fun a' => ∀ w1, Grw w w1 → okS S P l.toArray (Q .normal) (l.drop n) a' w1) (l.take n) a) : (Code.region id l.toArray true).wp P Q a w := by
  simp only [Bool.and_eq_true, flowB, decide_eq_true_eq] at hB
  obtain ⟨⟨⟨hsel, hn⟩, hfl⟩, hseq⟩ := hB
  have hn' : n ≤ l.length := by simpa using hn
  have htl : (l.take n).length = n := by simp; omega
  have hsz : l.toArray.size = l.length := by simp
  refine wp_region_any hm ?_
  have H := anyS_lex (P := P) (w0 := w) (n := l.toArray.size) (g := l.length - n) (L := fun listed a' w' => Region.ready .any l.toArray listed = [] ∧ Q .normal a' w') hsel (l.take n) 0 a ({ w with drawn := w.drawn + 1 }) ((Grw.refl w).drewN 1)
    (fun j hj => by simp only [Nat.zero_add]; rw [htl] at hj; simp [hj]) (by rw [htl, hsz]; exact hfl) (by
      have e : 0 + (l.take n).length = n := by omega
      rw [e, hsz]
      refine wpS_mono (fun a' ha' w1 hw1 => ?_) _ _ h
      have := anyS_seq (P := P) (Q := Q .normal) (l.drop n) n (listedTo l.length n) a' w1 (fun j => by simp [List.getElem?_drop]) (by simpa using hseq) (ha' w1 hw1)
      simpa using this)
  have H2 := wpAny_of_anyS (Q := Q) (g := 0) (fun listed a' w' hL => hL) _ _ _ _ H
  rw [htl] at H2
  have e1 : n + (l.length - n) + 0 = l.toArray.size := by omega
  rw [e1] at H2
  exact H2


theorem wpS_want {Q : Act → Prop} {a : Act} {o : Oper} {rest : List Oper} (hw : Region.wanted o (yielded ops a.tmps) = true)
    (h : ∀ K : Act → Prop, (∀ a, wpS S P ops w0 Q rest a → K a) → ∃ v, (∀ w', OnlyChg S w0 w' → qAt P o a w' v) ∧ K (a.put o.dst v)) : wpS S P ops w0 Q (o :: rest) a :=
  wpS_step fun K hK => by rw [if_pos hw]; exact h K hK
theorem wpS_skip {Q : Act → Prop} {a : Act} {o : Oper} {rest : List Oper} (hw : Region.wanted o (yielded ops a.tmps) = false)
    (h : ∀ K : Act → Prop, (∀ a, wpS S P ops w0 Q rest a → K a) → K (a.put o.dst undef)) : wpS S P ops w0 Q (o :: rest) a :=
  wpS_step fun K hK => by rw [if_neg (by rw [hw]; exact Bool.false_ne_true)]; exact h K hK
theorem okS_want {Q : Act → World → Prop} {a : Act} {w : World} {o : Oper} {rest : List Oper} (hw : Region.wanted o (yielded ops a.tmps) = true)
    (h : ∀ w1, Grw w w1 → ∀ K : Act → World → Prop, (∀ a' w2, OnlyChg S w1 w2 → okS S P ops Q rest a' w2 → K a' w2) → okUpon P (fun v w2 => K (a.put o.dst v) w2) ((execOp a.eval o).run P w1)) : okS S P ops Q (o :: rest) a w := by
  intro w1 hw1
  unfold okOp
  rw [if_pos hw]
  exact okUpon_mono (fun v w2 hk => hk) (h w1 hw1 (fun a' w2 => OnlyChg S w1 w2 ∧ okS S P ops Q rest a' w2) fun a' w2 h1 h2 => ⟨h1, h2⟩)
#print axioms wp_region_flowS
end flow
end Go.Proofs.Ytbnfngelkaembaa
