/- The row TopEveryRay of the program holds; part 3 of the proof. No condition. -/
import Derived.Test.YtokkghhmliplfaaGreatK1
set_option maxRecDepth 100000
set_option maxHeartbeats 12800000
set_option linter.all false
namespace Go.Proofs.YtokkghhmliplfaaGreat
section
open Go.RowKit Go.Sort
section flow
variable {P : Program} {ops : Array Oper} {w0 : World} {S : Nat → Prop}
def YieldsS (S : Nat → Prop) (P : Program) (ops : Array Oper) (w0 : World) (o : Oper) (v : Value) (a : Act) : Prop :=
 (Region.wanted o (yielded ops a.tmps) = true ∧ ∀ w, OnlyChg S w0 w → qAt P o a w v) ∨ (Region.wanted o (yielded ops a.tmps) = false ∧ v = undef)
def anyS (S : Nat → Prop) (P : Program) (ops : Array Oper) (w0 : World) (n : Nat) (L : Array Bool → Act → World → Prop) : Nat → Array Bool → Act → World → Prop
 | 0, listed, a, w => (∀ j ∈ Region.ready .any ops listed, n ≤ j) ∧ ∀ w1, Grw w w1 → L listed a w1
 | f + 1, listed, a, w => ∀ w1, Grw w w1 → Region.ready .any ops listed ≠ [] ∧ ∀ j ∈ Region.ready .any ops listed, j < n ∧ ∀ o, ops[j]? = some o →
     okOp P ops o (fun v w2 => OnlyChg S w0 w2 ∧ anyS S P ops w0 n L f (listed.setIfInBounds j true) (a.put o.dst v) w2) a w1
theorem anyS_stab {n : Nat} {L : Array Bool → Act → World → Prop} {f : Nat} {listed : Array Bool} {a : Act} {w w1 : World} (h : anyS S P ops w0 n L f listed a w) (hw : Grw w w1) : anyS S P ops w0 n L f listed a w1 := by
 cases f with
 | zero => exact ⟨h.1, fun w2 h2 => h.2 w2 (hw.trans h2)⟩
 | succ f => exact fun w2 h2 => h w2 (hw.trans h2)
theorem YieldsS.put {o o' : Oper} {v : Value} {a : Act} (hs : ∀ cs b, o.op ≠ .select cs b) (hap : ∀ d, o'.dst = some d → d ∉ o.looksAt ops) (u : Value)
   (hy : YieldsS S P ops w0 o v a) : YieldsS S P ops w0 o v (a.put o'.dst u) := by
 unfold YieldsS qAt at *
 rw [execOp_put o hs a o'.dst u hap, wanted_put o a o'.dst u hap]
 exact hy
theorem YieldsS.okOp {o : Oper} {v : Value} {a : Act} {w : World} (hy : YieldsS S P ops w0 o v a) (hw : OnlyChg S w0 w) {K : Value → World → Prop} (h : ∀ w1, Grw w w1 → K v w1) : okOp P ops o K a w := by
 unfold YtokkghhmliplfaaGreat.okOp
 rcases hy with ⟨h1, h2⟩ | ⟨h1, rfl⟩
 · rw [if_pos h1]
   have h3 := h2 w hw
   unfold qAt at h3
   generalize (execOp a.eval o).run P w = r at h3 ⊢
   cases r with
   | ok x w' =>
     cases x <;> simp only [qUpon, okUpon] at h3 ⊢
     case value u => obtain ⟨rfl, rfl⟩ := h3; exact h _ (Grw.refl _)
     case skip => obtain ⟨rfl, rfl⟩ := h3; exact h _ (Grw.refl _)
     case enter f args => obtain ⟨rfl, h4⟩ := h3; exact h4.mono fun e w'' ⟨he, hg⟩ => ⟨v, he, h _ hg⟩
   | halt x w' => simp only [qUpon] at h3
 · rw [if_neg (by rw [h1]; exact Bool.false_ne_true)]
   exact h _ (Grw.refl _)
theorem anyS_first {n i : Nat} {oi : Oper} {v : Value} {L : Array Bool → Act → World → Prop} (hi : ops[i]? = some oi) (hsel : ∀ (j : Nat) (o : Oper) cs b, ops[j]? = some o → o.op ≠ .select cs b)
   (hT : ∀ t, n ≤ t → t < ops.size → ∃ f, waitsT ops f t i = true) (hin : i < n) :
   ∀ (f : Nat) (listed : Array Bool) (a : Act) (w : World), OnlyChg S w0 w → Clo ops listed →
     (∀ j oj, ops[j]? = some oj → j ≠ i → listed.getD j true = false → (∀ e ∈ oj.after, Region.binds .any e = true → e.on ≠ i) → oi.apart ops oj = true) →
     i ∈ Region.ready .any ops listed → YieldsS S P ops w0 oi v a →
     anyS S P ops w0 n L f (listed.setIfInBounds i true) (a.put oi.dst v) w → anyS S P ops w0 n L (f + 1) listed a w := by
 intro f
 induction f with
 | zero =>
   intro listed a w hw hclo hfree hr hy H w1 hw1
   have hun := (mem_ready.1 hr).1
   refine ⟨fun h => (by rw [h] at hr; cases hr), fun j hj => ?_⟩
   have hjn : j < n := by
     rcases Nat.lt_or_ge j n with h | h
     · exact h
     · obtain ⟨_, oj, hoj, hall⟩ := mem_ready.1 hj
       obtain ⟨ff, hff⟩ := hT j h (Array.getElem?_eq_some_iff.1 hoj).1
       exact absurd hj (waitsT_ready hclo (getD_both hun) ff j hff)
   refine ⟨hjn, fun o ho => ?_⟩
   by_cases hji : j = i
   · subst hji
     obtain rfl : oi = o := Option.some.inj (hi.symm.trans ho)
     exact hy.okOp (hw.grw hw1) fun w2 h2 => ⟨(hw.grw hw1).grw h2, anyS_stab H (hw1.trans h2)⟩
   · have := H.1 j (ready_mono hj hji)
     omega
 | succ f ih =>
   intro listed a w hw hclo hfree hr hy H w1 hw1
   have hun := (mem_ready.1 hr).1
   refine ⟨fun h => (by rw [h] at hr; cases hr), fun j hj => ?_⟩
   have hjn : j < n := by
     rcases Nat.lt_or_ge j n with h | h
     · exact h
     · obtain ⟨_, oj, hoj, hall⟩ := mem_ready.1 hj
       obtain ⟨ff, hff⟩ := hT j h (Array.getElem?_eq_some_iff.1 hoj).1
       exact absurd hj (waitsT_ready hclo (getD_both hun) ff j hff)
   refine ⟨hjn, fun oj hoj => ?_⟩
   by_cases hji : j = i
   · subst hji
     obtain rfl : oi = oj := Option.some.inj (hi.symm.trans hoj)
     exact hy.okOp (hw.grw hw1) fun w2 h2 => ⟨(hw.grw hw1).grw h2, anyS_stab H (hw1.trans h2)⟩
   · obtain ⟨hjun, oj', hoj', hall⟩ := mem_ready.1 hj
     obtain rfl : oj' = oj := Option.some.inj (hoj'.symm.trans hoj)
     have hnot : ∀ e ∈ oj'.after, Region.binds .any e = true → e.on ≠ i := fun e he hb heq => by
       have h1 := hall e he hb
       rw [heq, getD_both hun] at h1; cases h1
     obtain ⟨a1, a2, a3⟩ := Oper.apart_spec (hfree j oj' hoj hji hjun hnot)
     have h1 := ((H w1 hw1).2 j (ready_mono hj hji)).2 oj' hoj
     have h2 : okOp P ops oj' (fun u w2 => OnlyChg S w0 w2 ∧ anyS S P ops w0 n L f ((listed.setIfInBounds i true).setIfInBounds j true) ((a.put oi.dst v).put oj'.dst u) w2) a w1 := by
       unfold okOp at h1 ⊢
       rw [wanted_put oj' a oi.dst v a1, execOp_put oj' (fun cs b => hsel j oj' cs b hoj) a oi.dst v a1] at h1
       exact h1
     refine okOp_mono (fun u w2 ⟨hg, hA⟩ => ⟨hg, ?_⟩) h2
     refine ih (listed.setIfInBounds j true) (a.put oj'.dst u) w2 hg (hclo.add hj) (fun k ok hk hki hunk hno => ?_) (ready_mono hr (Ne.symm hji)) (hy.put (fun cs b => hsel i oi cs b hi) a3 u) ?_
     · refine hfree k ok hk hki ?_ hno
       by_cases hjk : j = k
       · subst hjk; exact hjun
       · rw [getD_set_ne true hjk] at hunk; exact hunk
     · rw [Array.setIfInBounds_comm _ _ hji, ← Act.put_comm a v u a2]
       exact hA
def wpS (S : Nat → Prop) (P : Program) (ops : Array Oper) (w0 : World) (Q : Act → Prop) : List Oper → Act → Prop
 | [], a => Q a
 | o :: rest, a => if Region.wanted o (yielded ops a.tmps) then ∃ v, (∀ w', OnlyChg S w0 w' → qAt P o a w' v) ∧ wpS S P ops w0 Q rest (a.put o.dst v) else wpS S P ops w0 Q rest (a.put o.dst undef)
termination_by l => l.length
theorem wpS_nil {Q : Act → Prop} {a : Act} (h : Q a) : wpS S P ops w0 Q [] a := by unfold wpS; exact h
theorem wpS_step {Q : Act → Prop} {a : Act} {o : Oper} {rest : List Oper}
   (h : ∀ K : Act → Prop, (∀ a, wpS S P ops w0 Q rest a → K a) → if Region.wanted o (yielded ops a.tmps) then ∃ v, (∀ w', OnlyChg S w0 w' → qAt P o a w' v) ∧ K (a.put o.dst v) else K (a.put o.dst undef)) : wpS S P ops w0 Q (o :: rest) a := by
 unfold wpS; exact h _ (fun _ h => h)
theorem anyS_lex {n g : Nat} {L : Array Bool → Act → World → Prop} (hsel : Region.noSelect ops = true) : ∀ (l : List Oper) (k : Nat) (a : Act) (w : World), Grw w0 w → Clo ops (listedTo ops.size k) → (∀ j, j < l.length → l[j]? = ops[k + j]?) →
   flowFrom ops n l.length k (listedTo ops.size k) = true →
   wpS S P ops w0 (fun a' => ∀ w1, Grw w0 w1 → anyS S P ops w0 n L g (listedTo ops.size (k + l.length)) a' w1) l a →
   anyS S P ops w0 n L (l.length + g) (listedTo ops.size k) a w
 | [], k, a, w, hw, _, _, _, h => by unfold wpS at h; simpa using h w hw
 | o :: l, k, a, w, hw, hclo, hl, hB, h => by
   have h0 : ops[k]? = some o := by simpa using (hl 0 (by simp)).symm
   simp only [List.length_cons, flowFrom, Bool.and_eq_true, decide_eq_true_eq] at hB
   obtain ⟨⟨⟨⟨hkn, hr⟩, hf⟩, ht⟩, hB'⟩ := hB
   have hT : ∀ t, n ≤ t → t < ops.size → ∃ f, waitsT ops f t k = true := fun t hnt hot => by
     have h1 := List.all_eq_true.1 ht t (List.mem_range.2 hot)
     simp only [Bool.or_eq_true, decide_eq_true_eq] at h1
     rcases h1 with h1 | h1
     · omega
     · exact ⟨_, h1⟩
   have step : ∃ v, YieldsS S P ops w0 o v a ∧ wpS S P ops w0 (fun a' => ∀ w1, Grw w0 w1 → anyS S P ops w0 n L g (listedTo ops.size (k + (l.length + 1))) a' w1) l (a.put o.dst v) := by
     unfold wpS at h
     split at h
     · rename_i hw'
       obtain ⟨v, h1, h2⟩ := h
       exact ⟨v, .inl ⟨hw', fun w2 hp => h1 w2 hp⟩, h2⟩
     · rename_i hw'
       exact ⟨undef, .inr ⟨by simpa using hw', rfl⟩, h⟩
   obtain ⟨v, hy, hK⟩ := step
   have e : (o :: l).length + g = (l.length + g) + 1 := by simp; omega
   rw [e]
   have hr' : k ∈ Region.ready .any ops (listedTo ops.size k) := by simpa using hr
   refine anyS_first h0 (Region.noSelect_spec hsel) hT hkn (l.length + g) _ a w (OnlyChg.of_grw hw) hclo (Region.free_spec h0 hf) hr' hy ?_
   have hclo' := hclo.add hr'
   rw [← listedTo_succ] at hclo' ⊢
   refine anyS_lex hsel l (k + 1) _ w hw hclo' (fun j hj => ?_) (by rw [listedTo_succ]; exact hB') ?_
   · have := hl (j + 1) (by simp; omega)
     simpa [Nat.add_assoc, Nat.add_comm 1 j] using this
   · rw [show k + 1 + l.length = k + (l.length + 1) by omega]; exact hK
theorem wpAny_of_anyS {n g : Nat} {L : Array Bool → Act → World → Prop} {Q : Exit → Act → World → Prop} (hL : ∀ listed a w, L listed a w → wpAny P .any ops Q g listed a w) :
   ∀ (f : Nat) (listed : Array Bool) (a : Act) (w : World), anyS S P ops w0 n L f listed a w → wpAny P .any ops Q (f + g) listed a w
 | 0, listed, a, w, h => by rw [Nat.zero_add]; exact hL _ _ _ (h.2 w (Grw.refl w))
 | f + 1, listed, a, w, h => by
   rw [show f + 1 + g = (f + g) + 1 by omega]
   obtain ⟨h1, h2⟩ := h w (Grw.refl w)
   refine ⟨fun h0 => absurd h0 h1, fun i hi => ?_⟩
   obtain ⟨_, o, ho, _⟩ := mem_ready.1 hi
   exact wpOp_of_okOp ho (fun v w' hv => wpAny_of_anyS hL f _ _ _ hv.2) ((h2 i hi).2 o ho)
theorem wpS_mono {Q Q' : Act → Prop} (h : ∀ a, Q a → Q' a) : ∀ (l : List Oper) (a : Act), wpS S P ops w0 Q l a → wpS S P ops w0 Q' l a
 | [], a, hh => by unfold wpS at hh ⊢; exact h a hh
 | o :: l, a, hh => by
   unfold wpS at hh ⊢
   split
   · rename_i hw
     rw [if_pos hw] at hh
     obtain ⟨v, h1, h2⟩ := hh
     exact ⟨v, h1, wpS_mono h l _ h2⟩
   · rename_i hw
     rw [if_neg hw] at hh
     exact wpS_mono h l _ hh
def okS (S : Nat → Prop) (P : Program) (ops : Array Oper) (w0 : World) (Q : Act → World → Prop) : List Oper → Act → World → Prop
 | [], a, w => ∀ w1, Grw w w1 → Q a w1
 | o :: rest, a, w => ∀ w1, Grw w w1 → okOp P ops o (fun v w2 => OnlyChg S w0 w2 ∧ okS S P ops w0 Q rest (a.put o.dst v) w2) a w1
theorem okS_nil {Q : Act → World → Prop} {a : Act} {w : World} (h : ∀ w1, Grw w w1 → Q a w1) : okS S P ops w0 Q [] a w := h
theorem okS_step {Q : Act → World → Prop} {a : Act} {w : World} {o : Oper} {rest : List Oper}
   (h : ∀ w1, Grw w w1 → ∀ K : Value → World → Prop, (∀ v w2, OnlyChg S w0 w2 → okS S P ops w0 Q rest (a.put o.dst v) w2 → K v w2) → okOp P ops o K a w1) : okS S P ops w0 Q (o :: rest) a w :=
 fun w1 hw => h w1 hw _ fun _ _ hg hk => ⟨hg, hk⟩
theorem anyS_seq {Q : Act → World → Prop} : ∀ (l : List Oper) (k : Nat) (listed : Array Bool) (a : Act) (w : World), (∀ j, l[j]? = ops[k + j]?) → Region.seqB .any ops l.length k listed = true → okS S P ops w0 Q l a w →
   anyS S P ops w0 ops.size (fun listed' a' w' => Region.ready .any ops listed' = [] ∧ Q a' w') l.length listed a w
 | [], k, listed, a, w, _, hB, h => by
   have e : Region.ready .any ops listed = [] := by simpa [Region.seqB] using hB
   exact ⟨by simp [e], fun w1 hw => ⟨e, h w1 hw⟩⟩
 | o :: l, k, listed, a, w, hl, hB, h => by
   have h0 : ops[k]? = some o := by simpa using (hl 0).symm
   simp only [List.length_cons, Region.seqB, Bool.and_eq_true, decide_eq_true_eq] at hB
   intro w1 hw
   refine ⟨by rw [hB.1]; simp, fun j hj => ?_⟩
   rw [hB.1] at hj
   obtain rfl : j = k := by simpa using hj
   refine ⟨(Array.getElem?_eq_some_iff.1 h0).1, fun o' ho' => ?_⟩
   obtain rfl : o' = o := Option.some.inj (ho'.symm.trans h0)
   exact okOp_mono (fun v w2 ⟨hg, hk⟩ => ⟨hg, anyS_seq l (j + 1) _ _ _ (fun i => by have := hl (i + 1); simpa [Nat.add_assoc, Nat.add_comm 1 i] using this) hB.2 hk⟩) (h w1 hw)
theorem wp_region_flowS {id : Nat} {Q : Exit → Act → World → Prop} {a : Act} {w : World} {l : List Oper} (n : Nat) (hm : P.follows .mixedOrders = true)
   (hB : (flowB l.toArray n l.length && Region.seqB .any l.toArray (l.length - n) n (listedTo l.length n)) = true)
   (h : wpS S P l.toArray w (fun a' => ∀ w1, Grw w w1 → okS S P l.toArray w (Q .normal) (l.drop n) a' w1) (l.take n) a) : (Code.region id l.toArray true).wp P Q a w := by
 simp only [Bool.and_eq_true, flowB, decide_eq_true_eq] at hB
 obtain ⟨⟨⟨hsel, hn⟩, hfl⟩, hseq⟩ := hB
 have hn' : n ≤ l.length := by simpa using hn
 have htl : (l.take n).length = n := by simp; omega
 have hsz : l.toArray.size = l.length := by simp
 refine wp_region_any hm ?_
 have H := anyS_lex (S := S) (P := P) (w0 := w) (n := l.toArray.size) (g := l.length - n) (L := fun listed a' w' => Region.ready .any l.toArray listed = [] ∧ Q .normal a' w') hsel (l.take n) 0 a ({ w with drawn := w.drawn + 1 }) ((Grw.refl w).drewN 1) (clo_none _ rfl)
   (fun j hj => by simp only [Nat.zero_add]; rw [htl] at hj; simp [hj]) (by rw [htl, hsz]; exact hfl) (by
     have e : 0 + (l.take n).length = n := by omega
     rw [e, hsz]
     refine wpS_mono (fun a' ha' w1 hw1 => ?_) _ _ h
     have := anyS_seq (S := S) (P := P) (w0 := w) (Q := Q .normal) (l.drop n) n (listedTo l.length n) a' w1 (fun j => by simp [List.getElem?_drop]) (by simpa using hseq) (ha' w1 hw1)
     simpa using this)
 have H2 := wpAny_of_anyS (S := S) (w0 := w) (Q := Q) (g := 0) (fun listed a' w' hL => hL) _ _ _ _ H
 rw [htl] at H2
 have e1 : n + (l.length - n) + 0 = l.toArray.size := by omega
 rw [e1] at H2
 exact H2
theorem wpS_want {Q : Act → Prop} {a : Act} {o : Oper} {rest : List Oper} (hw : Region.wanted o (yielded ops a.tmps) = true)
   (h : ∀ K : Act → Prop, (∀ a, wpS S P ops w0 Q rest a → K a) → ∃ v, (∀ w', OnlyChg S w0 w' → qAt P o a w' v) ∧ K (a.put o.dst v)) : wpS S P ops w0 Q (o :: rest) a :=
 wpS_step fun K hK => by rw [if_pos hw]; exact h K hK
end flow
theorem Bk.keep {w w' : World} {b t : Nat} {cs : Array Value} {S : Nat → Prop} (h : Bk w b t cs) (hc : OnlyChg S w w') (hs : ¬ S b) : Bk w' b t cs := (hc.block b h.lt hs).trans h
end
section
open Go.RowKit Go.Sort
attribute [local go_sem] qAt qUpon cell_in_grow frozen_in_grow
theorem convex_len {l : List (Int × Int)} (h : convexB l = true) : 3 ≤ l.length ∧ l.length ≤ 8 := by
 unfold convexB at h; simp at h; exact h.1.1
theorem convex_reach {l : List (Int × Int)} (h : convexB l = true) {x : Int × Int} (hx : x ∈ l) : (-1048576 ≤ x.1 ∧ x.1 ≤ 1048576) ∧ -1048576 ≤ x.2 ∧ x.2 ≤ 1048576 := by
 unfold convexB at h; simp only [Bool.and_eq_true] at h
 have := List.all_eq_true.1 h.1.2 x hx
 simp [inReachB] at this; omega
def edgeLen (l : List (Int × Int)) (i : Nat) : Int := lenI (subI (ptL l ((i + 1) % l.length)).1 (ptL l i).1) (subI (ptL l ((i + 1) % l.length)).2 (ptL l i).2)
def seTo (l : List (Int × Int)) (k : Nat) : Int := (List.range k).foldl (fun m i => min m (edgeLen l i)) 536870911
theorem seTo_succ (l : List (Int × Int)) (k : Nat) : seTo l (k + 1) = min (seTo l k) (edgeLen l k) := by unfold seTo; rw [List.range_succ, List.foldl_append]; rfl
def shortestI (l : List (Int × Int)) : Int := if convexB l then seTo l l.length else 0
theorem shortest_any (a : Option Addr) (cap : Nat) (l : List (Int × Int)) (w : World) (hs : Sl 2 encV w a l) (hl : l.length < 4611686018427387904) :
   Calls Tryz.prog 141 #[.slice a l.length cap] w fun e w' => e = .returned (.int .i64 (shortestI l)) ∧ Grw w w' := by
 have HS := Lib.hid hs
 cases hr : convexB l
 · have HC := Lib.hid (show shortestI l = 0 by unfold shortestI; rw [hr]; rfl)
   clear hs
   go_enter Tryz.func141, Tryz.ntmps141
   go_wp2_with (first | (go_at_call 140; refine (isConvex_any _ _ _ _ HS.out hl).mono ?_; rintro e w1 ⟨rfl, hg1⟩))
   go_ret
   exact ⟨ret_int HC.out.symm, by (repeat with_reducible first | exact .refl _ | assumption | refine .setAt ?_ (by first | omega | simp <;> omega) _ | refine .alloc ?_ _ | refine .drewN ?_ _ | refine .drew ?_ | refine .trans ?_ (by assumption))⟩
 have HC := Lib.hid (show shortestI l = seTo l l.length by unfold shortestI; rw [hr]; rfl)
 obtain ⟨h3, h8⟩ := convex_len hr
 clear hs
 go_enter Tryz.func141, Tryz.ntmps141
 go_wp2_with (first | (go_at_call 140; refine (isConvex_any _ _ _ _ HS.out hl).mono ?_; rintro e w1 ⟨rfl, hg1⟩))
 go_loopg [11, 3, 4, 5] l.length (fun g v v3 v4 v5 wr => ∃ i : Nat, v = .int .i64 i ∧ i ≤ l.length ∧ l.length - i ≤ g ∧ Grw w wr ∧ v3 = .int .i64 (seTo l i))
 case atStart => exact ⟨0, rfl, Nat.zero_le _, Nat.le_refl _, hg1, rfl⟩
 case round =>
   obtain ⟨i, rfl, hi, hg, hgr, rfl⟩ := hrel
   rcases Nat.lt_or_ge i l.length with hlt | hge
   · obtain ⟨x, hx⟩ : ∃ x, l[i]? = some x := ⟨l[i], List.getElem?_eq_getElem hlt⟩
     obtain ⟨b, off, rfl, hb2, x0, x1⟩ := (HS.out.grw hgr).vec hx
     obtain ⟨j, hj⟩ : ∃ j : Nat, j = (i + 1) % l.length := ⟨_, rfl⟩
     have hjl : j < l.length := by rw [hj]; exact Nat.mod_lt _ (by omega)
     obtain ⟨z, hz⟩ : ∃ z, l[j]? = some z := ⟨l[j], List.getElem?_eq_getElem hjl⟩
     have HE := Lib.hid (show seTo l (i + 1) = min (seTo l i) (lenI (subI z.1 x.1) (subI z.2 x.2)) by rw [seTo_succ]; unfold edgeLen; rw [← hj, ptL_of hx, ptL_of hz])
     have HJ := Lib.hid (show ((i : Int) + 1).tmod (l.length : Int) = (j : Int) by rw [hj]; rfl)
     have HZ0 := Lib.hid hz
     clear hx hj hz
     obtain ⟨s, hse⟩ : ∃ s, s = seTo l i := ⟨_, rfl⟩
     rw [← hse] at HE ⊢
     clear hse
     go_upto_region 7 with (fail)
     refine wp_gen (fun x' => Grw wr x' ∧ Bk x' wr.heap.size 23 #[.int .i64 x.1, .int .i64 x.2]) ⟨(Grw.refl wr).alloc _, Bk.new' rfl⟩ ?_
     rintro w3 ⟨hg3, hB3⟩
     obtain ⟨_, _, e1, hb4, z0, z1⟩ := (HS.out.grw (hgr.trans hg3)).vec HZ0.out
     cases e1
     (have p0 := (hB3).cell 0; simp only [gL] at p0); (have p1 := (hB3).cell 1; simp only [gL] at p1); have pf := (hB3).frozen; have pl := (hB3).lt
     clear hB3 x0 x1
     have hn0 : (l.length : Int) ≠ 0 := by omega
     have hne : l ≠ [] := by rintro rfl; simp at h3
     have hj0 : (0 : Int) ≤ j := by omega
     have hj1 : (j : Int) < l.length := by omega
     (have hwr0 : IntKind.i64.wrap ((i : Int) + 1) = (i : Int) + 1 := IntWalk.i64_in _ (by omega)); (have hwr1 : IntKind.i64.wrap ((j : Int)) = (j : Int) := IntWalk.i64_in _ (by omega))
     have hjm := HJ.out
     (refine wp_region_flow (by kernel_rfl) (by kernel_rfl) ?_; (repeat (refine wpQ_step (fun K hK => ?_); go_simp; first | (refine hK _ ?_; clear hK K) | (apply Exists.intro; refine ⟨fun _ => ?_, hK _ ?_⟩; (first | (go_at_call 36; exact (vsub_any _ _ _ _ _)) | (go_at_call 35; exact (length_any _ _ _))); clear hK K))); refine wpQ_nil ?_)
     intro w4 hg4
     clear hwr0 hwr1
     clear hjm
     go_wp2_with fail
     all_goals
       go_roundg (l.length - (i + 1))
       case measure => omega
       case rel => exact ⟨i + 1, by go_num, by omega, Nat.le_refl _, by (repeat with_reducible first | exact .refl _ | assumption | refine .setAt ?_ (by first | omega | simp <;> omega) _ | refine .alloc ?_ _ | refine .drewN ?_ _ | refine .drew ?_ | refine .trans ?_ (by assumption)), by rw [HE.out]; congr 1; omega⟩
   · obtain rfl : i = l.length := by omega
     go_wp2_with fail
     go_ret
     exact ⟨ret_int HC.out.symm, by (repeat with_reducible first | exact .refl _ | assumption | refine .setAt ?_ (by first | omega | simp <;> omega) _ | refine .alloc ?_ _ | refine .drewN ?_ _ | refine .drew ?_ | refine .trans ?_ (by assumption))⟩
def fanCross (l : List (Int × Int)) (i : Nat) : Int := rdiv (((ptL l i).1 - (ptL l 0).1) * ((ptL l (i + 1)).2 - (ptL l 0).2) - ((ptL l i).2 - (ptL l 0).2) * ((ptL l (i + 1)).1 - (ptL l 0).1)) 65536
structure Tri where
 ex : Int
 ey : Int
 fx : Int
 fy : Int
 cross : Int
def fanTri (l : List (Int × Int)) (i : Nat) : Tri := ⟨(ptL l i).1 - (ptL l 0).1, (ptL l i).2 - (ptL l 0).2, (ptL l (i + 1)).1 - (ptL l 0).1, (ptL l (i + 1)).2 - (ptL l 0).2, fanCross l i⟩
def encTri (t : Tri) : List Value := [.int .i64 t.ex, .int .i64 t.ey, .int .i64 t.fx, .int .i64 t.fy, .int .i64 t.cross]
def fanL (l : List (Int × Int)) (m : Nat) : List Tri := (List.range m).map fun i => fanTri l (i + 1)
def fanS (l : List (Int × Int)) (m : Nat) : Int := (List.range m).foldl (fun s i => s + fanCross l (i + 1)) 0
theorem fanL_succ (l : List (Int × Int)) (m : Nat) : fanL l (m + 1) = fanL l m ++ [fanTri l (m + 1)] := by unfold fanL; rw [List.range_succ, List.map_append]; rfl
theorem fanS_succ (l : List (Int × Int)) (m : Nat) : fanS l (m + 1) = fanS l m + fanCross l (m + 1) := by unfold fanS; rw [List.range_succ, List.foldl_append]; rfl
theorem rdiv_bd {n : Int} {m : Int} (h1 : -m ≤ n) (h2 : n ≤ m) (hm : m ≤ 4611686018427387904) : -(m / 65536 + 1) ≤ rdiv n 65536 ∧ rdiv n 65536 ≤ m / 65536 + 1 := by
 rw [rdiv_in (by omega) (by omega) (by omega) (by omega)]
 have h3 := Int.mul_tdiv_add_tmod n 65536
 have h4 := tmod_bd (n := n) (d := 65536) (by omega)
 rcases Int.le_total 0 n with h | h
 · have h5 := Int.tmod_nonneg 65536 h
   (repeat' split) <;> omega
 · have h5 : n.tmod 65536 ≤ 0 := by
     have := Int.tmod_nonneg 65536 (show 0 ≤ -n by omega)
     rw [Int.neg_tmod] at this; omega
   (repeat' split) <;> omega
def areaI (l : List (Int × Int)) : Int := if convexB l then rdiv (fanS l (l.length - 2)) 2 else 0
theorem infoTri : (Tryz.prog.info? 340).map (fun i => (i.zero, i.size, i.bytes)) = some (some (.agg #[.int .i64 0, .int .i64 0, .int .i64 0, .int .i64 0, .int .i64 0]), 5, 40) := by kernel_rfl
end
section
open Go.RowKit Go.Sort
attribute [local go_sem] qAt qUpon okOp okUpon cell_in_grow frozen_in_grow
theorem fan_bd (l : List (Int × Int)) (h : ∀ x ∈ l, (-1048576 ≤ x.1 ∧ x.1 ≤ 1048576) ∧ -1048576 ≤ x.2 ∧ x.2 ≤ 1048576) (i : Nat) : (-1048576 ≤ (ptL l i).1 ∧ (ptL l i).1 ≤ 1048576) ∧ -1048576 ≤ (ptL l i).2 ∧ (ptL l i).2 ≤ 1048576 := by
 rcases Nat.lt_or_ge i l.length with hi | hi
 · rw [ptL_of (List.getElem?_eq_getElem hi)]; exact h _ (List.getElem_mem hi)
 · have : ptL l i = (0, 0) := by simp [ptL, List.getD, List.getElem?_eq_none hi]
   rw [this]; simp
theorem fanCross_pre (a b c d e f : Int) (ha : -1048576 ≤ a ∧ a ≤ 1048576) (hb : -1048576 ≤ b ∧ b ≤ 1048576) (hc : -1048576 ≤ c ∧ c ≤ 1048576) (hd : -1048576 ≤ d ∧ d ≤ 1048576) (he : -1048576 ≤ e ∧ e ≤ 1048576) (hf : -1048576 ≤ f ∧ f ≤ 1048576) :
   -4398046511104 ≤ (a - b) * (c - d) ∧ (a - b) * (c - d) ≤ 4398046511104 ∧ -4398046511104 ≤ (e - d) * (f - b) ∧ (e - d) * (f - b) ≤ 4398046511104 := by
 have k1 := mul_bd (a := a - b) (b := c - d) (m := 2097152) (n := 2097152) (by omega) (by omega) (by omega) (by omega)
 have k2 := mul_bd (a := e - d) (b := f - b) (m := 2097152) (n := 2097152) (by omega) (by omega) (by omega) (by omega)
 omega
theorem fanCross_bd (l : List (Int × Int)) (h : ∀ x ∈ l, (-1048576 ≤ x.1 ∧ x.1 ≤ 1048576) ∧ -1048576 ≤ x.2 ∧ x.2 ≤ 1048576) (i : Nat) : -134217729 ≤ fanCross l i ∧ fanCross l i ≤ 134217729 := by
 have h0 := fan_bd l h 0
 have h1 := fan_bd l h i
 have h2 := fan_bd l h (i + 1)
 have k := fanCross_pre _ _ _ _ _ _ h1.1 h0.1 h2.2 h0.2 h1.2 h2.1
 have := rdiv_bd (n := ((ptL l i).1 - (ptL l 0).1) * ((ptL l (i + 1)).2 - (ptL l 0).2) - ((ptL l i).2 - (ptL l 0).2) * ((ptL l (i + 1)).1 - (ptL l 0).1)) (m := 8796093022208) (by omega) (by omega) (by omega)
 unfold fanCross; omega
theorem fanS_bd (l : List (Int × Int)) (h : ∀ x ∈ l, (-1048576 ≤ x.1 ∧ x.1 ≤ 1048576) ∧ -1048576 ≤ x.2 ∧ x.2 ≤ 1048576) : ∀ m : Nat, -(134217729 * m) ≤ fanS l m ∧ fanS l m ≤ 134217729 * m
 | 0 => by simp [fanS]
 | m + 1 => by
   have := fanS_bd l h m
   have := fanCross_bd l h (m + 1)
   rw [fanS_succ]; omega
theorem fan_any (a : Option Addr) (cap : Nat) (l : List (Int × Int)) (w : World) (hs : Sl 2 encV w a l) (hr : convexB l = true) :
   Calls Tryz.prog 218 #[.slice a l.length cap] w fun e w' => ∃ v, e = .returned (.tuple #[v, .int .i64 (fanS l (l.length - 2))]) ∧ Grw w w' ∧ OwnL 340 5 encTri w' w.heap.size v (fanL l (l.length - 2)) := by
 have HS := Lib.hid hs
 obtain ⟨h3, h8⟩ := convex_len hr
 have HI := Lib.hid (show ∀ x ∈ l, (-1048576 ≤ x.1 ∧ x.1 ≤ 1048576) ∧ -1048576 ≤ x.2 ∧ x.2 ≤ 1048576 from fun x hx => convex_reach hr hx)
 obtain ⟨z, hz⟩ : ∃ z, l[0]? = some z := ⟨l[0], List.getElem?_eq_getElem (by omega)⟩
 obtain ⟨b, off, rfl, hb, z0, z1⟩ := hs.vec hz
 have HZ := Lib.hid (ptL_of hz)
 have HZ0 := Lib.hid hz
 simp only [Nat.zero_mul, Nat.add_zero] at z0 z1
 clear hs hr hz
 go_enter Tryz.func218, Tryz.ntmps218
 go_wp2_with fail
 go_loopg [4, 5, 7, 8, 9, 10] l.length (fun g v4 v5 v7 v8 v9 v10 wr => ∃ i : Nat, v7 = .int .i64 i ∧ 1 ≤ i ∧ i + 1 ≤ l.length ∧ l.length - i ≤ g ∧ v5 = .int .i64 (fanS l (i - 1)) ∧ Grw w wr ∧ Bk wr w.heap.size 23 #[.int .i64 z.1, .int .i64 z.2] ∧ OwnL 340 5 encTri wr (w.heap.size + 1) v4 (fanL l (i - 1)))
 case atStart => exact ⟨1, rfl, Nat.le_refl _, by omega, by omega, rfl, (Grw.refl w).alloc _, Bk.new' rfl, OwnL.nil _ _ _ _ _⟩
 case round =>
   obtain ⟨i, rfl, hi1, hi2, hg, rfl, hgr, hB, hO⟩ := hrel
   have HO := Lib.hid hO
   clear hO z0 z1
   rcases Nat.lt_or_ge (i + 1) l.length with hlt | hge
   · obtain ⟨x, hx⟩ : ∃ x, l[i]? = some x := ⟨l[i], List.getElem?_eq_getElem (by omega)⟩
     obtain ⟨y, hy⟩ : ∃ y, l[i + 1]? = some y := ⟨l[i + 1], List.getElem?_eq_getElem hlt⟩
     obtain ⟨_, _, e1, hb2, x0, x1⟩ := (HS.out.grw hgr).vec hx
     cases e1
     (have o0 := (hB).cell 0; simp only [gL] at o0); (have o1 := (hB).cell 1; simp only [gL] at o1); have of := (hB).frozen; have ol := (hB).lt
     have HB := Lib.hid hB
     have hxr := HI.out x (List.mem_of_getElem? hx)
     have hyr := HI.out y (List.mem_of_getElem? hy)
     have hzr := HI.out z (List.mem_of_getElem? HZ0.out)
     have HX := Lib.hid (ptL_of hx)
     have HY := Lib.hid (ptL_of hy)
     have HY0 := Lib.hid hy
     obtain ⟨q1, q2, q3, q4⟩ := fanCross_pre _ _ _ _ _ _ hxr.1 hzr.1 hyr.2 hzr.2 hxr.2 hyr.1
     obtain ⟨⟨xa, xb⟩, xc, xd⟩ := hxr
     obtain ⟨⟨ya, yb⟩, yc, yd⟩ := hyr
     obtain ⟨⟨za, zb⟩, zc, zd⟩ := hzr
     have hsb := fanS_bd l HI.out (i - 1)
     have hfc := fanCross_bd l HI.out i
     obtain ⟨S, hS⟩ : ∃ S, S = fanS l (i - 1) := ⟨_, rfl⟩
     rw [← hS] at hsb ⊢
     have hF : fanCross l i = rdiv ((x.1 - z.1) * (y.2 - z.2) - (x.2 - z.2) * (y.1 - z.1)) 65536 := by unfold fanCross; rw [HX.out, HY.out, HZ.out]
     have HF := Lib.hid hF
     rw [hF] at hfc
     have HSS := Lib.hid hS
     have hi8 : i ≤ 7 := by omega
     have hsb' : -1073741832 ≤ S ∧ S ≤ 1073741832 := by omega
     obtain ⟨s1, s2⟩ := hsb'
     clear hsb
     obtain ⟨r1, r2⟩ := hfc
     clear hx hy hB hS hF
     have hi0 : (0 : Int) ≤ i := by omega
     have hil : (i : Int) < l.length := by omega
     go_wp2_with fail
     (have hwr0 : IntKind.i64.wrap (x.1 - z.1) = x.1 - z.1 := IntWalk.i64_in _ (by omega)); (have hwr1 : IntKind.i64.wrap (x.2 - z.2) = x.2 - z.2 := IntWalk.i64_in _ (by omega))
     (refine wp_region_flowB 17 (by kernel_rfl) (by kernel_rfl) ?_; simp only [tD]; (repeat (refine wpQ_step (fun K hK => ?_); go_simp; refine hK _ ?_; clear hK K)); refine wpQ_nil ?_)
     intro w1 hg1
     clear hwr0 hwr1
     refine okList_step (fun wa4 hwa4 K hK => ?_); (have hA4 : wr.heap.size ≤ wa4.heap.size := (show Grw wr wa4 by (repeat with_reducible first | exact .refl _ | assumption | refine .setAt ?_ (by first | omega | simp <;> omega) _ | refine .alloc ?_ _ | refine .drewN ?_ _ | refine .drew ?_ | refine .trans ?_ (by assumption))).size); go_simp; refine hK _ _ (by (repeat with_reducible first | exact .refl _ | assumption | refine .setAt ?_ (by first | omega | simp <;> omega) _ | refine .alloc ?_ _ | refine .drewN ?_ _ | refine .drew ?_ | refine .trans ?_ (by assumption))) ?_; clear hK K; (have hN := Bk.new wa4 23 #[.int .i64 0, .int .i64  0]); refine okList_step (fun wb4 hwb4 K hK => ?_); replace hN := hN.grw hwb4; (have nn0 := (hN).cell 0; simp only [gL] at nn0); (have nn1 := (hN).cell 1; simp only [gL] at nn1); have nnf := (hN).frozen; have nnl := (hN).lt; go_simp; refine hK _ _ (by (repeat with_reducible first | exact .refl _ | assumption | refine .setAt ?_ (by first | omega | simp <;> omega) _ | refine .alloc ?_ _ | refine .drewN ?_ _ | refine .drew ?_ | refine .trans ?_ (by assumption))) ?_; clear hK K; refine okList_nil (fun w4 hw4 => ?_); go_simp; (have hN4 : Bk w4 wa4.heap.size 23 #[.int .i64 (x.1 - z.1), .int .i64 (x.2 - z.2)] := (((hN).set 0 (.int .i64 (x.1 - z.1))).set 1 (.int .i64 (x.2 - z.2))).grw hw4); (have hG4 : Grw wr w4 := by (repeat with_reducible first | exact .refl _ | assumption | refine .setAt ?_ (by first | omega | simp <;> omega) _ | refine .alloc ?_ _ | refine .drewN ?_ _ | refine .drew ?_ | refine .trans ?_ (by assumption))); clear hN nn0 nn1 nnf; clear hw4 hwb4 hwa4 nnl
     clear hg1 x0 x1 o0 o1 of ol
     have HO4 := Lib.hid (HO.out.grw hG4)
     have hB4 := HB.out.grw hG4
     (have o0 := (hB4).cell 0; simp only [gL] at o0); (have o1 := (hB4).cell 1; simp only [gL] at o1); have of := (hB4).frozen; have ol := (hB4).lt
     have HB4 := Lib.hid hB4
     have HN4 := Lib.hid hN4
     clear hB4 hN4
     obtain ⟨_, _, e1, hb4, y0, y1⟩ := (HS.out.grw (hgr.trans hG4)).vec HY0.out
     cases e1
     go_wp2_with fail
     have hjl : (i : Int) + 1 < l.length := by omega
     have hj0 : (0 : Int) ≤ (i : Int) + 1 := by omega
     have htn : ((i : Int) + 1).toNat = i + 1 := by omega
     (have hwr0 : IntKind.i64.wrap ((i : Int) + 1) = (i : Int) + 1 := IntWalk.i64_in _ (by omega)); (have hwr1 : IntKind.i64.wrap (y.1 - z.1) = y.1 - z.1 := IntWalk.i64_in _ (by omega)); (have hwr2 : IntKind.i64.wrap (y.2 - z.2) = y.2 - z.2 := IntWalk.i64_in _ (by omega))
     (refine wp_region_flowB 19 (by kernel_rfl) (by kernel_rfl) ?_; simp only [tD]; (repeat (refine wpQ_step (fun K hK => ?_); go_simp; refine hK _ ?_; clear hK K)); refine wpQ_nil ?_)
     intro w5 hg5
     clear hwr0 hwr1 hwr2
     clear hjl hj0 htn
     refine okList_step (fun wa6 hwa6 K hK => ?_); (have hA6 : w4.heap.size ≤ wa6.heap.size := (show Grw w4 wa6 by (repeat with_reducible first | exact .refl _ | assumption | refine .setAt ?_ (by first | omega | simp <;> omega) _ | refine .alloc ?_ _ | refine .drewN ?_ _ | refine .drew ?_ | refine .trans ?_ (by assumption))).size); go_simp; refine hK _ _ (by (repeat with_reducible first | exact .refl _ | assumption | refine .setAt ?_ (by first | omega | simp <;> omega) _ | refine .alloc ?_ _ | refine .drewN ?_ _ | refine .drew ?_ | refine .trans ?_ (by assumption))) ?_; clear hK K; (have hN := Bk.new wa6 23 #[.int .i64 0, .int .i64  0]); refine okList_step (fun wb6 hwb6 K hK => ?_); replace hN := hN.grw hwb6; (have nn0 := (hN).cell 0; simp only [gL] at nn0); (have nn1 := (hN).cell 1; simp only [gL] at nn1); have nnf := (hN).frozen; have nnl := (hN).lt; go_simp; refine hK _ _ (by (repeat with_reducible first | exact .refl _ | assumption | refine .setAt ?_ (by first | omega | simp <;> omega) _ | refine .alloc ?_ _ | refine .drewN ?_ _ | refine .drew ?_ | refine .trans ?_ (by assumption))) ?_; clear hK K; refine okList_nil (fun w6 hw6 => ?_); go_simp; (have hN6 : Bk w6 wa6.heap.size 23 #[.int .i64 (y.1 - z.1), .int .i64 (y.2 - z.2)] := (((hN).set 0 (.int .i64 (y.1 - z.1))).set 1 (.int .i64 (y.2 - z.2))).grw hw6); (have hG6 : Grw w4 w6 := by (repeat with_reducible first | exact .refl _ | assumption | refine .setAt ?_ (by first | omega | simp <;> omega) _ | refine .alloc ?_ _ | refine .drewN ?_ _ | refine .drew ?_ | refine .trans ?_ (by assumption))); clear hN nn0 nn1 nnf; clear hw6 hwb6 hwa6 nnl
     clear hg5 y0 y1 o0 o1 of ol
     have HO6 := Lib.hid (HO4.out.grw hG6)
     have HB6 := Lib.hid (HB4.out.grw hG6)
     have hN4 := HN4.out.grw hG6
     (have e0 := (hN4).cell 0; simp only [gL] at e0); (have e1 := (hN4).cell 1; simp only [gL] at e1); have ef := (hN4).frozen; have el := (hN4).lt
     (have f0 := (hN6).cell 0; simp only [gL] at f0); (have f1 := (hN6).cell 1; simp only [gL] at f1); have ff := (hN6).frozen; have fl := (hN6).lt
     have HN4' := Lib.hid hN4
     have HN6 := Lib.hid hN6
     clear hN4 hN6
     go_wp2_with fail
     (go_at_call 147; refine (rdiv_any _ _ _).mono ?_; rintro e' w7 ⟨rfl, hg7⟩)
     have hN4 := HN4'.out.grw hg7
     have hN6 := HN6.out.grw hg7
     clear e0 e1 ef f0 f1 ff
     (have e0 := (hN4).cell 0; simp only [gL] at e0); (have e1 := (hN4).cell 1; simp only [gL] at e1); have ef := (hN4).frozen; have el := (hN4).lt
     (have f0 := (hN6).cell 0; simp only [gL] at f0); (have f1 := (hN6).cell 1; simp only [gL] at f1); have ff := (hN6).frozen; have fl := (hN6).lt
     have HO7 := Lib.hid (HO6.out.grw hg7)
     have HB7 := Lib.hid (HB6.out.grw hg7)
     have hw7 : Grw w w7 := by (repeat with_reducible first | exact .refl _ | assumption | refine .setAt ?_ (by first | omega | simp <;> omega) _ | refine .alloc ?_ _ | refine .drewN ?_ _ | refine .drew ?_ | refine .trans ?_ (by assumption))
     have hbs := hw7.size
     have hbl := HB7.out.lt
     clear hN4 hN6
     obtain ⟨R, hR⟩ : ∃ R, R = rdiv ((x.1 - z.1) * (y.2 - z.2) - (x.2 - z.2) * (y.1 - z.1)) 65536 := ⟨_, rfl⟩
     rw [← hR] at r1 r2 ⊢
     have HR := Lib.hid hR
     clear hR
     have hll : ((fanL l (i - 1)).length + 1) * 40 ≤ 140737488355328 := by simp [fanL]; omega
     go_wp2_with (at_builtin; refine wpList_push (enc := encTri) (z := .agg #[.int .i64 0, .int .i64 0, .int .i64 0, .int .i64 0, .int .i64 0]) (bytes := 40) (fun _ => rfl) (by simp [encTri, Value.oneCell']) (w.heap.size + 1) rfl _ _ rfl Tryz.underlying288 infoTri rfl (by decide) (by decide) u4 (fanL l (i - 1)) ⟨x.1 - z.1, x.2 - z.2, y.1 - z.1, y.2 - z.2, R⟩ _ rfl rfl rfl HO7.out (by omega) hll ?_; intro v1 w8 hO8 hC8 _)
     have hbz : ∀ k, u4.ownBlock = some k → w.heap.size + 1 ≤ k := fun k hk => (HO7.out.base_le k hk).1
     have hw8 : Grw w w8 := OnlyChg.near (S := fun k => w.heap.size ≤ k) ((OnlyChg.of_grw hw7).trans (hC8.mono fun k _ hk => by have := hbz k hk; omega)) fun k h => h
     have hB8 : Bk w8 w.heap.size 23 #[.int .i64 z.1, .int .i64 z.2] := (hC8.block _ HB7.out.lt (fun hk => by have := hbz _ hk; omega)).trans HB7.out
     have hO9 : OwnL 340 5 encTri w8 (w.heap.size + 1) v1 (fanL l (i + 1 - 1)) := by
       have e1 : fanL l (i + 1 - 1) = fanL l (i - 1) ++ [fanTri l i] := by
         have := fanL_succ l (i - 1)
         rw [show i - 1 + 1 = i by omega] at this
         rw [show i + 1 - 1 = i by omega]; exact this
       have e2 : fanTri l i = ⟨x.1 - z.1, x.2 - z.2, y.1 - z.1, y.2 - z.2, R⟩ := by unfold fanTri; rw [HF.out, HX.out, HY.out, HZ.out, HR.out]
       rw [e1, e2]; exact hO8
     have hS9 : fanS l (i + 1 - 1) = S + R := by
       have := fanS_succ l (i - 1)
       rw [show i - 1 + 1 = i by omega, HF.out, ← HR.out, ← HSS.out] at this
       rw [show i + 1 - 1 = i by omega]; exact this
     have HO9 := Lib.hid hO9
     have HS9 := Lib.hid hS9
     have HB8 := Lib.hid hB8
     clear hO8 hC8 hO9 hS9 hB8
     go_wp2_with fail
     go_roundg (l.length - (i + 1))
     case measure => omega
     case rel => exact ⟨i + 1, by go_num, by omega, by omega, Nat.le_refl _, by rw [HS9.out], hw8, HB8.out, HO9.out⟩
   · have HM := Lib.hid (show l.length - 2 = i - 1 by omega)
     have hw9 : OwnL 340 5 encTri wr w.heap.size u4 (fanL l (i - 1)) := by
       obtain ⟨h1, h2 | ⟨g, cap, cur, h3, h4, h5⟩⟩ := HO.out
       · exact ⟨h1, .inl h2⟩
       · exact ⟨h1, .inr ⟨g, cap, cur, h3, by omega, h5⟩⟩
     have HO9 := Lib.hid hw9
     clear hB hw9
     go_wp2_with fail
     go_ret2
     exact ⟨u4, by rw [HM.out]; rfl, hgr, by rw [HM.out]; exact HO9.out⟩
theorem area_any (a : Option Addr) (cap : Nat) (l : List (Int × Int)) (w : World) (hs : Sl 2 encV w a l) (hl : l.length < 4611686018427387904) :
   Calls Tryz.prog 142 #[.slice a l.length cap] w fun e w' => e = .returned (.int .i64 (areaI l)) ∧ Grw w w' := by
 have HS := Lib.hid hs
 clear hs
 cases hr : convexB l
 · have HC := Lib.hid (show areaI l = 0 by unfold areaI; rw [hr]; rfl)
   go_enter Tryz.func142, Tryz.ntmps142
   go_wp2_with (first | (go_at_call 140; refine (isConvex_any _ _ _ _ HS.out hl).mono ?_; rintro e w1 ⟨rfl, hg1⟩))
   go_ret
   exact ⟨ret_int HC.out.symm, by (repeat with_reducible first | exact .refl _ | assumption | refine .setAt ?_ (by first | omega | simp <;> omega) _ | refine .alloc ?_ _ | refine .drewN ?_ _ | refine .drew ?_ | refine .trans ?_ (by assumption))⟩
 · have HC := Lib.hid (show areaI l = rdiv (fanS l (l.length - 2)) 2 by unfold areaI; rw [hr]; rfl)
   have HR := Lib.hid hr
   go_enter Tryz.func142, Tryz.ntmps142
   go_wp2_with (first | (go_at_call 140; refine (isConvex_any _ _ _ _ HS.out hl).mono ?_; rintro e w1 ⟨rfl, hg1⟩))
   (go_at_call 218; refine (fan_any _ _ _ _ (HS.out.grw hg1) HR.out).mono ?_; rintro e w2 ⟨v, rfl, hg2, _⟩)
   go_wp2_with (go_at_call 147; refine (rdiv_any _ _ _).mono ?_; rintro e' w3 ⟨rfl, hg3⟩)
   go_ret
   exact ⟨ret_int HC.out.symm, by (repeat with_reducible first | exact .refl _ | assumption | refine .setAt ?_ (by first | omega | simp <;> omega) _ | refine .alloc ?_ _ | refine .drewN ?_ _ | refine .drew ?_ | refine .trans ?_ (by assumption))⟩
def blunt1 (e f : Int × Int) : Bool := decide (e.1 * f.2 - e.2 * f.1 < 2 * (lenI e.1 e.2 + lenI f.1 f.2))
def vsubP (p q : Int × Int) : Int × Int := (subI p.1 q.1, subI p.2 q.2)
def blGo : List (Int × Int) → Int × Int → Int × Int → Bool
 | [], _, _ => false
 | v :: r, last, e => blunt1 e (vsubP v last) || blGo r v (vsubP v last)
def bluntB (l : List (Int × Int)) : Bool := blGo l (ptL l (l.length - 1)) (vsubP (ptL l (l.length - 1)) (ptL l (l.length - 2)))
theorem vsubP_bd (p q : Int × Int) : (-536870911 ≤ (vsubP p q).1 ∧ (vsubP p q).1 ≤ 536870911) ∧ -536870911 ≤ (vsubP p q).2 ∧ (vsubP p q).2 ≤ 536870911 := ⟨sat_bd _, sat_bd _⟩
theorem blunt_any (a : Option Addr) (cap : Nat) (l : List (Int × Int)) (w : World) (hs : Sl 2 encV w a l) (h2 : 2 ≤ l.length) (hl : l.length < 4611686018427387904) :
   Calls Tryz.prog 143 #[.slice a l.length cap] w fun e w' => e = .returned (.bool (bluntB l)) ∧ Grw w w' := by
 have HS := Lib.hid hs
 obtain ⟨n1, hn1⟩ : ∃ n1, l.length = n1 + 1 := ⟨l.length - 1, by omega⟩
 obtain ⟨n2, hn2⟩ : ∃ n2, l.length = n2 + 2 := ⟨l.length - 2, by omega⟩
 obtain ⟨p, hp⟩ : ∃ p, l[n1]? = some p := ⟨l[n1], List.getElem?_eq_getElem (by omega)⟩
 obtain ⟨q, hq⟩ : ∃ q, l[n2]? = some q := ⟨l[n2], List.getElem?_eq_getElem (by omega)⟩
 obtain ⟨b, off, rfl, hb, p0, p1⟩ := hs.vec hp
 have HQ0 := Lib.hid hq
 have HBL := Lib.hid (show bluntB l = blGo l p (vsubP p q) by
   have e1 : ptL l (l.length - 1) = p := by rw [hn1]; exact ptL_of hp
   have e2 : ptL l (l.length - 2) = q := by rw [hn2]; exact ptL_of hq
   unfold bluntB; rw [e1, e2])
 have i1 : (l.length : Int) - 1 = (n1 : Int) := by omega
 have i2 : (l.length : Int) - 2 = (n2 : Int) := by omega
 have I1 := Lib.hid i1
 have I2 := Lib.hid i2
 have hn1l : n1 < l.length := by omega
 have hn2l : n2 < l.length := by omega
 clear hs hp hq i2 hn1 hn2
 go_enter Tryz.func143, Tryz.ntmps143
 go_wp2_with fail
 have hW : IntKind.i64.wrap ((l.length : Int) - 2) = (n2 : Int) := by rw [I2.out]; exact IntWalk.i64_in _ (by omega)
 have k1 : (0 : Int) ≤ n2 := by omega
 have k2 : (n2 : Int) < l.length := by omega
 refine wp_gen (fun x' => Grw w x' ∧ Bk x' w.heap.size 23 #[.int .i64 p.1, .int .i64 p.2]) ⟨(Grw.refl w).alloc _, Bk.new' rfl⟩ ?_
 rintro w3 ⟨hg3, hB3⟩
 obtain ⟨_, _, e1, hb2, q0, q1⟩ := (HS.out.grw hg3).vec HQ0.out
 cases e1
 (have o0 := (hB3).cell 0; simp only [gL] at o0); (have o1 := (hB3).cell 1; simp only [gL] at o1); have of := (hB3).frozen; have ol := (hB3).lt
 have HB3 := Lib.hid hB3
 clear hB3 i1 p0 p1
 (refine wp_region_flowB 8 (by kernel_rfl) (by kernel_rfl) ?_; simp only [tD]; (repeat (refine wpQ_step (fun K hK => ?_); go_simp; first | (refine hK _ ?_; clear hK K) | (apply Exists.intro; refine ⟨fun _ => ?_, hK _ ?_⟩; (first | (go_at_call 36; exact (vsub_any _ _ _ _ _))); clear hK K))); refine wpQ_nil ?_)
 intro w5 hg5
 clear hW k1 k2 q0 q1 o0 o1 of
 refine okList_step (fun wa6 hwa6 K hK => ?_); (have hA6 : w3.heap.size ≤ wa6.heap.size := (show Grw w3 wa6 by (repeat with_reducible first | exact .refl _ | assumption | refine .setAt ?_ (by first | omega | simp <;> omega) _ | refine .alloc ?_ _ | refine .drewN ?_ _ | refine .drew ?_ | refine .trans ?_ (by assumption))).size); go_simp; refine hK _ _ (by (repeat with_reducible first | exact .refl _ | assumption | refine .setAt ?_ (by first | omega | simp <;> omega) _ | refine .alloc ?_ _ | refine .drewN ?_ _ | refine .drew ?_ | refine .trans ?_ (by assumption))) ?_; clear hK K; (have hN := Bk.new wa6 23 #[.int .i64 0, .int .i64  0]); refine okList_step (fun wb6 hwb6 K hK => ?_); replace hN := hN.grw hwb6; (have nn0 := (hN).cell 0; simp only [gL] at nn0); (have nn1 := (hN).cell 1; simp only [gL] at nn1); have nnf := (hN).frozen; have nnl := (hN).lt; go_simp; refine hK _ _ (by (repeat with_reducible first | exact .refl _ | assumption | refine .setAt ?_ (by first | omega | simp <;> omega) _ | refine .alloc ?_ _ | refine .drewN ?_ _ | refine .drew ?_ | refine .trans ?_ (by assumption))) ?_; clear hK K; refine okList_nil (fun w6 hw6 => ?_); go_simp; (have hN6 : Bk w6 wa6.heap.size 23 #[.int .i64 (subI p.1 q.1), .int .i64 (subI p.2 q.2)] := (((hN).set 0 (.int .i64 (subI p.1 q.1))).set 1 (.int .i64 (subI p.2 q.2))).grw hw6); (have hG6 : Grw w3 w6 := by (repeat with_reducible first | exact .refl _ | assumption | refine .setAt ?_ (by first | omega | simp <;> omega) _ | refine .alloc ?_ _ | refine .drewN ?_ _ | refine .drew ?_ | refine .trans ?_ (by assumption))); clear hN nn0 nn1 nnf; clear hw6 hwb6 hwa6 nnl
 have hB6 := HB3.out.grw hG6
 have hw6 := hg3.trans hG6
 clear hg5 hG6
 have hA7 : w.heap.size < wa6.heap.size := by omega
 have HBL2 := Lib.hid (show bluntB l = blGo (l.drop 0) p (vsubP p q) from HBL.out)
 go_wp2_with fail
 go_loopg [24, 6, 7] l.length (fun g v v6 v7 wr => ∃ (k : Nat) (la e : Int × Int), v = .int .i64 k ∧ k ≤ l.length ∧ l.length - k ≤ g ∧ Grw w wr ∧ wa6.heap.size < wr.heap.size ∧ Bk wr w.heap.size 23 #[.int .i64 la.1, .int .i64 la.2] ∧ Bk wr wa6.heap.size 23 #[.int .i64 e.1, .int .i64 e.2] ∧ ((-536870911 ≤ e.1 ∧ e.1 ≤ 536870911) ∧ -536870911 ≤ e.2 ∧ e.2 ≤ 536870911) ∧ bluntB l = blGo (l.drop k) la e)
 case atStart => exact ⟨0, p, vsubP p q, rfl, Nat.zero_le _, Nat.le_refl _, hw6, hN6.lt, hB6, hN6, vsubP_bd p q, HBL2.out⟩
 case round =>
   obtain ⟨k, la, e, rfl, hk, hg, hgr, hlt6, hL, hE, heb, hI⟩ := hrel
   have HI := Lib.hid hI
   clear hI hN6 hB6 hw6
   rcases Nat.lt_or_ge k l.length with hlt | hge
   · obtain ⟨x, hx⟩ : ∃ x, l[k]? = some x := ⟨l[k], List.getElem?_eq_getElem hlt⟩
     obtain ⟨_, _, e1, hb7, x0, x1⟩ := (HS.out.grw hgr).vec hx
     cases e1
     have hd : l.drop k = x :: l.drop (k + 1) := by
       rw [List.drop_eq_getElem_cons hlt]; congr 1; exact Option.some.inj ((List.getElem?_eq_getElem hlt).symm.trans hx)
     have HD := Lib.hid (show bluntB l = (blunt1 e (vsubP x la) || blGo (l.drop (k + 1)) x (vsubP x la)) by rw [HI.out, hd]; rfl)
     (have o0 := (hL).cell 0; simp only [gL] at o0); (have o1 := (hL).cell 1; simp only [gL] at o1); have of := (hL).frozen; have ol := (hL).lt
     (have u0 := (hE).cell 0; simp only [gL] at u0); (have u1 := (hE).cell 1; simp only [gL] at u1); have uf := (hE).frozen; have ul := (hE).lt
     have HL := Lib.hid hL
     have HE := Lib.hid hE
     clear hx hd hL hE
     go_wp2_with fail
     (go_at_call 36; refine (vsub_any _ _ _ _ _).mono ?_; rintro e' w7 ⟨rfl, hg7⟩)
     have hX7 := (Bk.new wr 23 #[.int .i64 x.1, .int .i64 x.2]).grw hg7
     have hG7 : Grw wr w7 := ((Grw.refl wr).alloc _).trans hg7
     clear hg7 x0 x1 o0 o1 of u0 u1 uf
     have HX7 := Lib.hid hX7
     clear hX7
     obtain ⟨f, hf⟩ : ∃ f, f = vsubP x la := ⟨_, rfl⟩
     have f1 : subI x.1 la.1 = f.1 := by rw [hf]; rfl
     have f2 : subI x.2 la.2 = f.2 := by rw [hf]; rfl
     have hfb := vsubP_bd x la
     rw [← hf] at hfb
     have HF := Lib.hid hf
     rw [f1, f2]
     clear f1 f2 hf
     go_upto_region 7 with (fail)
     refine wp_gen (fun x' => Grw wr x' ∧ Bk x' w.heap.size 23 #[.int .i64 la.1, .int .i64 la.2] ∧ Bk x' wa6.heap.size 23 #[.int .i64 e.1, .int .i64 e.2] ∧ Bk x' wr.heap.size 23 #[.int .i64 x.1, .int .i64 x.2] ∧ Bk x' w7.heap.size 23 #[.int .i64 f.1, .int .i64 f.2]) ⟨hG7.alloc _, (HL.out.grw hG7).alloc _, (HE.out.grw hG7).alloc _, HX7.out.alloc _, Bk.new' rfl⟩ ?_
     rintro w8 ⟨hG8, hL8, hE8, hX8, hF8⟩
     (have o0 := (hL8).cell 0; simp only [gL] at o0); (have o1 := (hL8).cell 1; simp only [gL] at o1); have of := (hL8).frozen; have ol := (hL8).lt
     (have u0 := (hE8).cell 0; simp only [gL] at u0); (have u1 := (hE8).cell 1; simp only [gL] at u1); have uf := (hE8).frozen; have ul := (hE8).lt
     (have s0 := (hX8).cell 0; simp only [gL] at s0); (have s1 := (hX8).cell 1; simp only [gL] at s1); have sf := (hX8).frozen; have sl := (hX8).lt
     (have y0 := (hF8).cell 0; simp only [gL] at y0); (have y1 := (hF8).cell 1; simp only [gL] at y1); have yf := (hF8).frozen; have yl := (hF8).lt
     have H8 := Lib.hid (show _ ∧ _ ∧ _ ∧ _ from ⟨hL8, hE8, hX8, hF8⟩)
     clear hL8 hE8 hX8 hF8 HX7 HL HE
     obtain ⟨⟨a1, a2⟩, a3, a4⟩ := heb
     obtain ⟨⟨b1, b2⟩, b3, b4⟩ := hfb
     obtain ⟨m1, m2⟩ := mul_bd a1 a2 b3 b4
     obtain ⟨m3, m4⟩ := mul_bd a3 a4 b1 b2
     obtain ⟨l1, l2⟩ := isqI_bd (dsqI 0 0 e.1 e.2)
     obtain ⟨l3, l4⟩ := isqI_bd (dsqI 0 0 f.1 f.2)
     have hb1 : (e.1 * f.2 - e.2 * f.1 < 2 * (lenI e.1 e.2 + lenI f.1 f.2)) ↔ blunt1 e f = true := by simp [blunt1]
     have l1' : 0 ≤ lenI e.1 e.2 ∧ lenI e.1 e.2 < 4294967296 := ⟨l1, l2⟩
     have l3' : 0 ≤ lenI f.1 f.2 ∧ lenI f.1 f.2 < 4294967296 := ⟨l3, l4⟩
     have HFB := Lib.hid (show (-536870911 ≤ f.1 ∧ f.1 ≤ 536870911) ∧ -536870911 ≤ f.2 ∧ f.2 ≤ 536870911 from ⟨⟨b1, b2⟩, b3, b4⟩)
     clear l1 l2 l3 l4
     cases hbl : blunt1 e f
     · have hdec : decide (e.1 * f.2 - e.2 * f.1 < 2 * (lenI e.1 e.2 + lenI f.1 f.2)) = false := by rw [decide_eq_false_iff_not, hb1, hbl]; simp
       have HD2 := Lib.hid (show bluntB l = blGo (l.drop (k + 1)) x f by rw [HD.out, ← HF.out, hbl]; rfl)
       clear hb1 hbl
       (have hwr0 : IntKind.i64.wrap (e.1 * f.2) = e.1 * f.2 := IntWalk.i64_in _ (by omega)); (have hwr1 : IntKind.i64.wrap (e.2 * f.1) = e.2 * f.1 := IntWalk.i64_in _ (by omega)); (have hwr2 : IntKind.i64.wrap (e.1 * f.2 - e.2 * f.1) = e.1 * f.2 - e.2 * f.1 := IntWalk.i64_in _ (by omega)); (have hwr3 : IntKind.i64.wrap (lenI e.1 e.2 + lenI f.1 f.2) = lenI e.1 e.2 + lenI f.1 f.2 := IntWalk.i64_in _ (by omega)); (have hwr4 : IntKind.i64.wrap (2 * (lenI e.1 e.2 + lenI f.1 f.2)) = 2 * (lenI e.1 e.2 + lenI f.1 f.2) := IntWalk.i64_in _ (by omega))
       (refine wp_region_flow (by kernel_rfl) (by kernel_rfl) ?_; (repeat (refine wpQ_step (fun K hK => ?_); go_simp; first | (refine hK _ ?_; clear hK K) | (apply Exists.intro; refine ⟨fun _ => ?_, hK _ ?_⟩; (first | (go_at_call 35; exact (length_any _ _ _))); clear hK K))); refine wpQ_nil ?_)
       intro w9 hg9
       clear hwr0 hwr1 hwr2 hwr3 hwr4
       have hL9 := H8.out.1.grw hg9
       have hE9 := H8.out.2.1.grw hg9
       have hX9 := H8.out.2.2.1.grw hg9
       have hF9 := H8.out.2.2.2.grw hg9
       have hG9 := hG8.trans hg9
       clear o0 o1 of ol u0 u1 uf ul s0 s1 sf sl y0 y1 yf yl hg9
       (have o0 := (hL9).cell 0; simp only [gL] at o0); (have o1 := (hL9).cell 1; simp only [gL] at o1); have of := (hL9).frozen; have ol := (hL9).lt
       (have u0 := (hE9).cell 0; simp only [gL] at u0); (have u1 := (hE9).cell 1; simp only [gL] at u1); have uf := (hE9).frozen; have ul := (hE9).lt
       (have s0 := (hX9).cell 0; simp only [gL] at s0); (have s1 := (hX9).cell 1; simp only [gL] at s1); have sf := (hX9).frozen; have sl := (hX9).lt
       (have y0 := (hF9).cell 0; simp only [gL] at y0); (have y1 := (hF9).cell 1; simp only [gL] at y1); have yf := (hF9).frozen; have yl := (hF9).lt
       have H9 := Lib.hid (show _ ∧ _ ∧ _ ∧ _ from ⟨hL9, hE9, hX9, hF9⟩)
       have hX9l := hX9.lt
       have hF9l := hF9.lt
       have hxx : wr.heap.size ≤ w7.heap.size := hG7.size
       clear hL9 hE9 hX9 hF9
       go_wp2_with fail
       refine wp_region_flowS (S := fun k => k = w.heap.size ∨ k = wa6.heap.size) 2 (by kernel_rfl) (by kernel_rfl) ?_
       simp only [tD]
       refine wpS_want rfl (fun K hK => ?_)
       apply Exists.intro
       refine ⟨fun w' hS => ?_, ?_⟩
       · have hX' := H9.out.2.2.1.keep hS (by omega)
         (have c0 := (hX').cell 0; simp only [gL] at c0); (have c1 := (hX').cell 1; simp only [gL] at c1); have cf := (hX').frozen; have cl := (hX').lt
         clear hX'
         go_simp
         rfl
       go_simp
       refine hK _ ?_
       clear hK K
       refine wpS_want rfl (fun K hK => ?_)
       apply Exists.intro
       refine ⟨fun w' hS => ?_, ?_⟩
       · have hX' := H9.out.2.2.2.keep hS (by omega)
         (have c0 := (hX').cell 0; simp only [gL] at c0); (have c1 := (hX').cell 1; simp only [gL] at c1); have cf := (hX').frozen; have cl := (hX').lt
         clear hX'
         go_simp
         rfl
       go_simp
       refine hK _ ?_
       clear hK K
       refine wpS_nil ?_
       intro w10 hg10
       clear o0 o1 of ol u0 u1 uf ul s0 s1 sf sl y0 y1 yf yl
       refine okS_step (fun w11 hg11 K hK => ?_)
       have hL11 := H9.out.1.grw (hg10.trans hg11)
       (have o0 := (hL11).cell 0; simp only [gL] at o0); (have o1 := (hL11).cell 1; simp only [gL] at o1); have of := (hL11).frozen; have ol := (hL11).lt
       go_simp
       have hO11 : OnlyChg (fun k => k = w.heap.size ∨ k = wa6.heap.size) w9 ((w11.setCell ⟨w.heap.size, 0, none⟩ (.int .i64 x.1)).setCell ⟨w.heap.size, 1, none⟩ (.int .i64 x.2)) := ((OnlyChg.of_grw (hg10.trans hg11)).set (.inl rfl) _).set (.inl rfl) _
       refine hK _ _ hO11 ?_
       clear hK K
       have hL12 : Bk _ w.heap.size 23 #[.int .i64 x.1, .int .i64 x.2] := ((hL11.set 0 (.int .i64 x.1)).set 1 (.int .i64 x.2))
       have hE12 := ((H9.out.2.1.grw (hg10.trans hg11)).far (p := w.heap.size) (i := 0) (by omega) (.int .i64 x.1)).far (p := w.heap.size) (i := 1) (by omega) (.int .i64 x.2)
       clear hL11 o0 o1 of ol
       refine okS_step (fun w13 hg13 K hK => ?_)
       have hE13 := hE12.grw hg13
       have hL13 := hL12.grw hg13
       have hO13 := hO11.grw hg13
       (have u0 := (hE13).cell 0; simp only [gL] at u0); (have u1 := (hE13).cell 1; simp only [gL] at u1); have uf := (hE13).frozen; have ul := (hE13).lt
       go_simp
       refine hK _ _ ((hO13.set (.inr rfl) _).set (.inr rfl) _) ?_
       clear hK K
       have hE14 : Bk _ wa6.heap.size 23 #[.int .i64 f.1, .int .i64 f.2] := ((hE13.set 0 (.int .i64 f.1)).set 1 (.int .i64 f.2))
       have hL14 := (hL13.far (p := wa6.heap.size) (i := 0) (by omega) (.int .i64 f.1)).far (p := wa6.heap.size) (i := 1) (by omega) (.int .i64 f.2)
       have hO14 : OnlyChg (fun k => k = w.heap.size ∨ k = wa6.heap.size) w9 _ := (hO13.set (.inr rfl) (p := wa6.heap.size) (j := 0) (.int .i64 f.1)).set (.inr rfl) (p := wa6.heap.size) (j := 1) (.int .i64 f.2)
       refine okS_nil (fun w10 hg15 => ?_)
       go_simp
       have hL15 := hL14.grw hg15
       have hE15 := hE14.grw hg15
       have hw10 : Grw w w10 := ((OnlyChg.of_grw (S := fun k => w.heap.size ≤ k) (hgr.trans hG9)).trans ((hO14.grw hg15).mono fun k _ hk => by omega)).near fun k h => h
       have hsz := hE15.lt
       have H15 := Lib.hid (show _ ∧ _ from ⟨hL15, hE15⟩)
       clear hL12 hE12 hE13 hL13 hO13 hO11 hE14 hL14 hO14 hL15 hE15 u0 u1 uf ul hg15 hg13 hg11 hg10
       go_wp2_with fail
       go_roundg (l.length - (k + 1))
       case measure => omega
       case rel => exact ⟨k + 1, x, f, by go_num, by omega, Nat.le_refl _, hw10, hsz, H15.out.1, H15.out.2, HFB.out, HD2.out⟩
     · have hdec : decide (e.1 * f.2 - e.2 * f.1 < 2 * (lenI e.1 e.2 + lenI f.1 f.2)) = true := by rw [decide_eq_true_iff, hb1, hbl]
       have HD2 := Lib.hid (show bluntB l = true by rw [HD.out, ← HF.out, hbl]; rfl)
       clear hb1 hbl
       (have hwr0 : IntKind.i64.wrap (e.1 * f.2) = e.1 * f.2 := IntWalk.i64_in _ (by omega)); (have hwr1 : IntKind.i64.wrap (e.2 * f.1) = e.2 * f.1 := IntWalk.i64_in _ (by omega)); (have hwr2 : IntKind.i64.wrap (e.1 * f.2 - e.2 * f.1) = e.1 * f.2 - e.2 * f.1 := IntWalk.i64_in _ (by omega)); (have hwr3 : IntKind.i64.wrap (lenI e.1 e.2 + lenI f.1 f.2) = lenI e.1 e.2 + lenI f.1 f.2 := IntWalk.i64_in _ (by omega)); (have hwr4 : IntKind.i64.wrap (2 * (lenI e.1 e.2 + lenI f.1 f.2)) = 2 * (lenI e.1 e.2 + lenI f.1 f.2) := IntWalk.i64_in _ (by omega))
       (refine wp_region_flow (by kernel_rfl) (by kernel_rfl) ?_; (repeat (refine wpQ_step (fun K hK => ?_); go_simp; first | (refine hK _ ?_; clear hK K) | (apply Exists.intro; refine ⟨fun _ => ?_, hK _ ?_⟩; (first | (go_at_call 35; exact (length_any _ _ _))); clear hK K))); refine wpQ_nil ?_)
       intro w9 hg9
       clear hwr0 hwr1 hwr2 hwr3 hwr4
       go_wp2_with fail
       go_ret
       exact ⟨ret_bool HD2.out.symm, by (repeat with_reducible first | exact .refl _ | assumption | refine .setAt ?_ (by first | omega | simp <;> omega) _ | refine .alloc ?_ _ | refine .drewN ?_ _ | refine .drew ?_ | refine .trans ?_ (by assumption))⟩
   · obtain rfl : k = l.length := by omega
     have HI2 := Lib.hid (show bluntB l = false by rw [HI.out, List.drop_length]; rfl)
     clear hL hE
     go_wp2_with fail
     go_ret
     exact ⟨ret_bool HI2.out.symm, by (repeat with_reducible first | exact .refl _ | assumption | refine .setAt ?_ (by first | omega | simp <;> omega) _ | refine .alloc ?_ _ | refine .drewN ?_ _ | refine .drew ?_ | refine .trans ?_ (by assumption))⟩
end
section
open Go.RowKit Go.Sort
attribute [local go_sem] qAt qUpon cell_in_grow frozen_in_grow
def outB (n : Int) : Bool := decide (n < -1048576 ∨ 1048576 < n)
theorem outOfRange_any (n : Int) (w : World) :
   Calls Tryz.prog 139 #[.int .i64 n] w fun e w' => e = .returned (.bool (outB n)) ∧ w = w' := by
 go_enter Tryz.func139, Tryz.ntmps139
 go_wp2_with fail
 all_goals
   go_ret
   exact ⟨ret_bool (by rw [Bool.eq_iff_iff]; simp [outB] at *; try omega), rfl⟩
def outV (p : Int × Int) : Bool := outB p.1 || outB p.2
theorem outV_any (a b : Int) (w : World) :
   Calls Tryz.prog 138 #[.agg #[.int .i64 (a), .int .i64 (b)]] w fun e w' => e = .returned (.bool (outV (a, b))) ∧ Grw w w' := by
 go_enter Tryz.func138, Tryz.ntmps138
 go_wp2_with (go_at_call 139; refine (outOfRange_any _ _).mono ?_; rintro e w1 ⟨rfl, rfl⟩)
 all_goals
   go_ret
   exact ⟨ret_bool (by simp_all [outV]), by (repeat with_reducible first | exact .refl _ | assumption | refine .setAt ?_ (by first | omega | simp <;> omega) _ | refine .alloc ?_ _ | refine .drewN ?_ _ | refine .drew ?_ | refine .trans ?_ (by assumption))⟩
def firstIx {α : Type} (p : α → Bool) (l : List α) : Int := match l.findIdx? p with | some i => i | none => -1
theorem firstIx_at {α : Type} (p : α → Bool) (l : List α) (k : Nat) (x : α) (hx : l[k]? = some x) (hp : p x = true) (hn : ∀ (j : Nat) (y : α), j < k → l[j]? = some y → p y = false) : firstIx p l = k := by
 have h : l.findIdx? p = some k := by
   rw [List.findIdx?_eq_some_iff_getElem]
   obtain ⟨hk, hxk⟩ := List.getElem?_eq_some_iff.1 hx
   refine ⟨hk, by rw [hxk]; exact hp, fun j hj => ?_⟩
   have := hn j l[j] hj (List.getElem?_eq_getElem (by omega))
   simp [this]
 unfold firstIx; rw [h]
theorem firstIx_none {α : Type} (p : α → Bool) (l : List α) (hn : ∀ (j : Nat) (y : α), l[j]? = some y → p y = false) : firstIx p l = -1 := by
 have h : l.findIdx? p = none := by
   rw [List.findIdx?_eq_none_iff]
   intro x hx
   obtain ⟨j, hj, rfl⟩ := List.mem_iff_getElem.1 hx
   exact hn j _ (List.getElem?_eq_getElem hj)
 unfold firstIx; rw [h]
theorem indexFuncV_any (a : Option Addr) (cap : Nat) (l : List (Int × Int)) (w : World) (f : FuncId) (p : Int × Int → Bool) (hs : Sl 2 encV w a l) (hl : l.length < 4611686018427387904)
   (hcf : ∀ (args : Array Value) (W : World), (callFunc f args).run Tryz.prog W = .ok (.enter f args) W)
   (hp : ∀ (x : Int × Int) (W : World), Grw w W → Calls Tryz.prog f #[.agg #[.int .i64 (x.1), .int .i64 (x.2)]] W fun e w' => e = .returned (.bool (p x)) ∧ Grw W w') :
   Calls Tryz.prog 216 #[.slice a l.length cap, .func (.func f) #[] #[]] w fun e w' => e = .returned (.int .i64 (firstIx p l)) ∧ Grw w w' := by
 have HS := Lib.hid hs
 have HP := Lib.hid hp
 have HCF := Lib.hid hcf
 clear hs hp hcf
 go_enter Tryz.func216, Tryz.ntmps216
 go_wp2_with fail
 go_loopg [8, 5] l.length (fun g v v5 wr => ∃ k : Nat, v = .int .i64 k ∧ k ≤ l.length ∧ l.length - k ≤ g ∧ Grw w wr ∧ ∀ j y, j < k → l[j]? = some y → p y = false)
 case atStart => exact ⟨0, rfl, Nat.zero_le _, Nat.le_refl _, Grw.refl _, fun j y hj => absurd hj (Nat.not_lt_zero _)⟩
 case round =>
   obtain ⟨k, rfl, hk, hg, hgr, hN⟩ := hrel
   have HN := Lib.hid hN
   clear hN
   rcases Nat.lt_or_ge k l.length with hlt | hge
   · obtain ⟨x, hx⟩ : ∃ x, l[k]? = some x := ⟨l[k], List.getElem?_eq_getElem hlt⟩
     obtain ⟨b, off, rfl, hb2, x0, x1⟩ := (HS.out.grw hgr).vec hx
     have HX := Lib.hid hx
     clear hx
     have hc1 := HCF.out #[.agg #[.int .i64 (x.1), .int .i64 (x.2)]] wr
     cases hr : p x
     · have HR := Lib.hid hr
       go_wp2_with fail
       refine (HP.out x _ hgr).mono ?_
       rintro e w2 ⟨rfl, hg2⟩
       rw [HR.out]
       go_wp2_with fail
       go_roundg (l.length - (k + 1))
       case measure => omega
       case rel =>
         refine ⟨k + 1, by go_num, by omega, Nat.le_refl _, by (repeat with_reducible first | exact .refl _ | assumption | refine .setAt ?_ (by first | omega | simp <;> omega) _ | refine .alloc ?_ _ | refine .drewN ?_ _ | refine .drew ?_ | refine .trans ?_ (by assumption)), fun j y hj hy => ?_⟩
         rcases Nat.lt_or_ge j k with hjk | hjk
         · exact HN.out j y hjk hy
         · obtain rfl : j = k := by omega
           rw [HX.out] at hy; cases hy; exact HR.out
     · have HR := Lib.hid hr
       have HF := Lib.hid (firstIx_at p l k x HX.out hr HN.out)
       go_wp2_with fail
       refine (HP.out x _ hgr).mono ?_
       rintro e w2 ⟨rfl, hg2⟩
       rw [HR.out]
       go_wp2_with fail
       go_ret
       exact ⟨ret_int HF.out.symm, by (repeat with_reducible first | exact .refl _ | assumption | refine .setAt ?_ (by first | omega | simp <;> omega) _ | refine .alloc ?_ _ | refine .drewN ?_ _ | refine .drew ?_ | refine .trans ?_ (by assumption))⟩
   · obtain rfl : k = l.length := by omega
     have HF := Lib.hid (firstIx_none p l fun j y hy => HN.out j y (List.getElem?_eq_some_iff.1 hy).1 hy)
     go_wp2_with fail
     go_ret
     exact ⟨ret_int HF.out.symm, by (repeat with_reducible first | exact .refl _ | assumption | refine .setAt ?_ (by first | omega | simp <;> omega) _ | refine .alloc ?_ _ | refine .drewN ?_ _ | refine .drew ?_ | refine .trans ?_ (by assumption))⟩
theorem firstIx_nonneg {α : Type} (p : α → Bool) (l : List α) : decide (0 ≤ firstIx p l) = l.any p := by
 unfold firstIx
 split
 · rename_i i h
   have := (List.findIdx?_eq_some_iff_getElem.1 h)
   obtain ⟨hi, hpi, _⟩ := this
   rw [List.any_eq_true.2 ⟨_, List.getElem_mem hi, hpi⟩]; simp
 · rename_i h
   rw [List.findIdx?_eq_none_iff] at h
   have : l.any p = false := by rw [Bool.eq_false_iff]; intro ha; obtain ⟨x, hx, hpx⟩ := List.any_eq_true.1 ha; rw [h x hx] at hpx; cases hpx
   rw [this]; rfl
theorem call_outV (args : Array Value) (W : World) : (callFunc 138 args).run Tryz.prog W = .ok (.enter 138 args) W := by simp [go_sem, callFunc, Tryz.func138]; rfl
theorem containsOutV_any (a : Option Addr) (cap : Nat) (l : List (Int × Int)) (w : World) (hs : Sl 2 encV w a l) (hl : l.length < 4611686018427387904) :
   Calls Tryz.prog 137 #[.slice a l.length cap, .func (.func 138) #[] #[]] w fun e w' => e = .returned (.bool (l.any outV)) ∧ Grw w w' := by
 have HC := Lib.hid (indexFuncV_any a cap l w 138 outV hs hl call_outV fun x W _ => outV_any x.1 x.2 W)
 have HN := Lib.hid (firstIx_nonneg outV l)
 clear hs
 go_enter Tryz.func137, Tryz.ntmps137
 go_wp2_with fail
 refine HC.out.mono ?_
 rintro e w1 ⟨rfl, hg1⟩
 go_wp2_with fail
 go_ret
 exact ⟨ret_bool HN.out, hg1⟩
def vcB (k : Int) (n : Nat) : Bool := if k = 1 then decide (n = 1) else if k = 2 then decide (n = 2) else decide (3 ≤ n ∧ n ≤ 8)
theorem validCount_any (k r : Int) (a : Option Addr) (n cap : Nat) (w : World) (hn : n < 4611686018427387904) :
   Calls Tryz.prog 136 #[.agg #[.int .i64 k, .int .i64 r, .slice a n cap]] w fun e w' => e = .returned (.bool (vcB k n)) ∧ Grw w w' := by
 by_cases h1 : k = 1
 · have HV := Lib.hid (show vcB k n = decide (n = 1) from if_pos h1)
   subst h1
   go_enter Tryz.func136, Tryz.ntmps136
   go_wp2_with fail
   all_goals
     go_ret
     exact ⟨ret_bool (by rw [HV.out, Bool.eq_iff_iff]; simp at *; try omega), by (repeat with_reducible first | exact .refl _ | assumption | refine .setAt ?_ (by first | omega | simp <;> omega) _ | refine .alloc ?_ _ | refine .drewN ?_ _ | refine .drew ?_ | refine .trans ?_ (by assumption))⟩
 by_cases h2 : k = 2
 · have HV := Lib.hid (show vcB k n = decide (n = 2) from (if_neg h1).trans (if_pos h2))
   subst h2
   clear h1
   go_enter Tryz.func136, Tryz.ntmps136
   go_wp2_with fail
   all_goals
     go_ret
     exact ⟨ret_bool (by rw [HV.out, Bool.eq_iff_iff]; simp at *; try omega), by (repeat with_reducible first | exact .refl _ | assumption | refine .setAt ?_ (by first | omega | simp <;> omega) _ | refine .alloc ?_ _ | refine .drewN ?_ _ | refine .drew ?_ | refine .trans ?_ (by assumption))⟩
 · have HV := Lib.hid (show vcB k n = decide (3 ≤ n ∧ n ≤ 8) from (if_neg h1).trans (if_neg h2))
   have b1 : (k == 1) = false := by simp [h1]
   have b2 : (k == 2) = false := by simp [h2]
   clear h1 h2
   go_enter Tryz.func136, Tryz.ntmps136
   go_wp2_with fail
   all_goals
     go_ret
     exact ⟨ret_bool (by rw [HV.out, Bool.eq_iff_iff]; simp at *; try omega), by (repeat with_reducible first | exact .refl _ | assumption | refine .setAt ?_ (by first | omega | simp <;> omega) _ | refine .alloc ?_ _ | refine .drewN ?_ _ | refine .drew ?_ | refine .trans ?_ (by assumption))⟩
def shE (k r : Int) (l : List (Int × Int)) : Int :=
 if k < 1 ∨ 3 < k then 10 else if vcB k l.length = false then 11 else if l.any outV = true then 6
 else if (k = 3 ∧ r ≠ 0) ∨ (k ≠ 3 ∧ (r < 2048 ∨ 524288 < r)) then 6
 else if k = 2 ∧ lenI (subI (ptL l 1).1 (ptL l 0).1) (subI (ptL l 1).2 (ptL l 0).2) < 4096 then 12
 else if k = 3 ∧ (convexB l = false ∨ shortestI l < 4096 ∨ areaI l < 256 ∨ bluntB l = true) then 12 else 0
theorem shapeV_kind (k r : Int) (a : Option Addr) (cap : Nat) (l : List (Int × Int)) (w : World) (hs : Sl 2 encV w a l) (hl : l.length < 4611686018427387904) (h : k < 1 ∨ 3 < k) :
   Calls Tryz.prog 65 #[.agg #[.int .i64 k, .int .i64 r, .slice a l.length cap]] w fun e w' => e = .returned (.int .i64 (shE k r l)) ∧ Grw w w' := by
 have HS := Lib.hid hs
 clear hs
 have HV := Lib.hid (show shE k r l = 10 from if_pos h)
 go_enter Tryz.func65, Tryz.ntmps65
 go_wp2_with fail
 all_goals first
   | (exfalso; omega)
   | (go_ret; exact ⟨ret_int HV.out.symm, by (repeat with_reducible first | exact .refl _ | assumption | refine .setAt ?_ (by first | omega | simp <;> omega) _ | refine .alloc ?_ _ | refine .drewN ?_ _ | refine .drew ?_ | refine .trans ?_ (by assumption))⟩)
theorem shapeV_count (k r : Int) (a : Option Addr) (cap : Nat) (l : List (Int × Int)) (w : World) (hs : Sl 2 encV w a l) (hl : l.length < 4611686018427387904) (h0 : 1 ≤ k) (h3 : k ≤ 3) (hc : vcB k l.length = false) :
   Calls Tryz.prog 65 #[.agg #[.int .i64 k, .int .i64 r, .slice a l.length cap]] w fun e w' => e = .returned (.int .i64 (shE k r l)) ∧ Grw w w' := by
 have HS := Lib.hid hs
 clear hs
 have HV := Lib.hid (show shE k r l = 11 from (if_neg (by omega)).trans (if_pos hc))
 have HC := Lib.hid hc
 go_enter Tryz.func65, Tryz.ntmps65
 go_wp2_with (go_at_call 136; refine (validCount_any _ _ _ _ _ _ hl).mono ?_; rintro e w1 ⟨rfl, hg1⟩)
 go_ret
 exact ⟨ret_int HV.out.symm, by (repeat with_reducible first | exact .refl _ | assumption | refine .setAt ?_ (by first | omega | simp <;> omega) _ | refine .alloc ?_ _ | refine .drewN ?_ _ | refine .drew ?_ | refine .trans ?_ (by assumption))⟩
theorem shapeV_out (k r : Int) (a : Option Addr) (cap : Nat) (l : List (Int × Int)) (w : World) (hs : Sl 2 encV w a l) (hl : l.length < 4611686018427387904) (h0 : 1 ≤ k) (h3 : k ≤ 3) (hc : vcB k l.length = true) (ho : l.any outV = true) :
   Calls Tryz.prog 65 #[.agg #[.int .i64 k, .int .i64 r, .slice a l.length cap]] w fun e w' => e = .returned (.int .i64 (shE k r l)) ∧ Grw w w' := by
 have HS := Lib.hid hs
 clear hs
 have HV := Lib.hid (show shE k r l = 6 from ((if_neg (by omega)).trans (if_neg (by rw [hc]; simp))).trans (if_pos ho))
 go_enter Tryz.func65, Tryz.ntmps65
 go_wp2_with (first | (go_at_call 136; refine (validCount_any _ _ _ _ _ _ hl).mono ?_; rintro e w1 ⟨rfl, hg1⟩; obtain ⟨hc1, hf1⟩ := hg1.cells; have hz1 := hg1.size; (have hl1_0 : w.heap.size < w1.heap.size := by (try simp at hz1); omega); (have c1_0_0 := hc1 (w.heap.size) 0 (by first | omega | simp <;> omega); simp [go_sem] at c1_0_0); (have c1_0_1 := hc1 (w.heap.size) 1 (by first | omega | simp <;> omega); simp [go_sem] at c1_0_1); (have c1_0_2 := hc1 (w.heap.size) 2 (by first | omega | simp <;> omega); simp [go_sem] at c1_0_2); (have f1_0 := fun o => hf1 (w.heap.size) o (by first | omega | simp <;> omega); simp [go_sem] at f1_0); clear hc1 hf1) | (go_at_call 137; refine (containsOutV_any _ _ _ _ (HS.out.grw (by (repeat with_reducible first | exact .refl _ | assumption | refine .setAt ?_ (by first | omega | simp <;> omega) _ | refine .alloc ?_ _ | refine .drewN ?_ _ | refine .drew ?_ | refine .trans ?_ (by assumption)))) hl).mono ?_; rintro e w1 ⟨rfl, hg2⟩; replace hg1 := Grw.trans hg1 hg2; clear hg2; obtain ⟨hc1, hf1⟩ := hg1.cells; have hz1 := hg1.size; (have hl1_0 : w.heap.size < w1.heap.size := by (try simp at hz1); omega); (have c1_0_0 := hc1 (w.heap.size) 0 (by first | omega | simp <;> omega); simp [go_sem] at c1_0_0); (have c1_0_1 := hc1 (w.heap.size) 1 (by first | omega | simp <;> omega); simp [go_sem] at c1_0_1); (have c1_0_2 := hc1 (w.heap.size) 2 (by first | omega | simp <;> omega); simp [go_sem] at c1_0_2); (have f1_0 := fun o => hf1 (w.heap.size) o (by first | omega | simp <;> omega); simp [go_sem] at f1_0); clear hc1 hf1))
 go_ret
 exact ⟨ret_int HV.out.symm, by (repeat with_reducible first | exact .refl _ | assumption | refine .setAt ?_ (by first | omega | simp <;> omega) _ | refine .alloc ?_ _ | refine .drewN ?_ _ | refine .drew ?_ | refine .trans ?_ (by assumption))⟩
theorem shapeV_radius (k r : Int) (a : Option Addr) (cap : Nat) (l : List (Int × Int)) (w : World) (hs : Sl 2 encV w a l) (hl : l.length < 4611686018427387904) (h0 : 1 ≤ k) (h3 : k ≤ 3) (hc : vcB k l.length = true) (ho : l.any outV = false) (hr : (k = 3 ∧ r ≠ 0) ∨ (k ≠ 3 ∧ (r < 2048 ∨ 524288 < r))) :
   Calls Tryz.prog 65 #[.agg #[.int .i64 k, .int .i64 r, .slice a l.length cap]] w fun e w' => e = .returned (.int .i64 (shE k r l)) ∧ Grw w w' := by
 have HS := Lib.hid hs
 clear hs
 have HV := Lib.hid (show shE k r l = 6 from (((if_neg (by omega)).trans (if_neg (by rw [hc]; simp))).trans (if_neg (by rw [ho]; simp))).trans (if_pos hr))
 have HR := Lib.hid hr
 clear hr
 go_enter Tryz.func65, Tryz.ntmps65
 by_cases hk : k = 3
 · have hr0 : (r != 0) = true := by rcases HR.out with h | h; simpa using h.2; exact absurd hk h.1
   subst hk
   go_wp2_with (first | (go_at_call 136; refine (validCount_any _ _ _ _ _ _ hl).mono ?_; rintro e w1 ⟨rfl, hg1⟩; obtain ⟨hc1, hf1⟩ := hg1.cells; have hz1 := hg1.size; (have hl1_0 : w.heap.size < w1.heap.size := by (try simp at hz1); omega); (have c1_0_0 := hc1 (w.heap.size) 0 (by first | omega | simp <;> omega); simp [go_sem] at c1_0_0); (have c1_0_1 := hc1 (w.heap.size) 1 (by first | omega | simp <;> omega); simp [go_sem] at c1_0_1); (have c1_0_2 := hc1 (w.heap.size) 2 (by first | omega | simp <;> omega); simp [go_sem] at c1_0_2); (have f1_0 := fun o => hf1 (w.heap.size) o (by first | omega | simp <;> omega); simp [go_sem] at f1_0); clear hc1 hf1) | (go_at_call 137; refine (containsOutV_any _ _ _ _ (HS.out.grw (by (repeat with_reducible first | exact .refl _ | assumption | refine .setAt ?_ (by first | omega | simp <;> omega) _ | refine .alloc ?_ _ | refine .drewN ?_ _ | refine .drew ?_ | refine .trans ?_ (by assumption)))) hl).mono ?_; rintro e w1 ⟨rfl, hg2⟩; replace hg1 := Grw.trans hg1 hg2; clear hg2; obtain ⟨hc1, hf1⟩ := hg1.cells; have hz1 := hg1.size; (have hl1_0 : w.heap.size < w1.heap.size := by (try simp at hz1); omega); (have c1_0_0 := hc1 (w.heap.size) 0 (by first | omega | simp <;> omega); simp [go_sem] at c1_0_0); (have c1_0_1 := hc1 (w.heap.size) 1 (by first | omega | simp <;> omega); simp [go_sem] at c1_0_1); (have c1_0_2 := hc1 (w.heap.size) 2 (by first | omega | simp <;> omega); simp [go_sem] at c1_0_2); (have f1_0 := fun o => hf1 (w.heap.size) o (by first | omega | simp <;> omega); simp [go_sem] at f1_0); clear hc1 hf1))
   go_ret
   exact ⟨ret_int HV.out.symm, by (repeat with_reducible first | exact .refl _ | assumption | refine .setAt ?_ (by first | omega | simp <;> omega) _ | refine .alloc ?_ _ | refine .drewN ?_ _ | refine .drew ?_ | refine .trans ?_ (by assumption))⟩
 · have hk1 : (k == 3) = false := by simp [hk]
   have hk2 : (k != 3) = true := by simp [hk]
   have hr2 : r < 2048 ∨ 524288 < r := by rcases HR.out with h | h; exact absurd h.1 hk; exact h.2
   rcases hr2 with hr2 | hr2
   · go_wp2_with (first | (go_at_call 136; refine (validCount_any _ _ _ _ _ _ hl).mono ?_; rintro e w1 ⟨rfl, hg1⟩; obtain ⟨hc1, hf1⟩ := hg1.cells; have hz1 := hg1.size; (have hl1_0 : w.heap.size < w1.heap.size := by (try simp at hz1); omega); (have c1_0_0 := hc1 (w.heap.size) 0 (by first | omega | simp <;> omega); simp [go_sem] at c1_0_0); (have c1_0_1 := hc1 (w.heap.size) 1 (by first | omega | simp <;> omega); simp [go_sem] at c1_0_1); (have c1_0_2 := hc1 (w.heap.size) 2 (by first | omega | simp <;> omega); simp [go_sem] at c1_0_2); (have f1_0 := fun o => hf1 (w.heap.size) o (by first | omega | simp <;> omega); simp [go_sem] at f1_0); clear hc1 hf1) | (go_at_call 137; refine (containsOutV_any _ _ _ _ (HS.out.grw (by (repeat with_reducible first | exact .refl _ | assumption | refine .setAt ?_ (by first | omega | simp <;> omega) _ | refine .alloc ?_ _ | refine .drewN ?_ _ | refine .drew ?_ | refine .trans ?_ (by assumption)))) hl).mono ?_; rintro e w1 ⟨rfl, hg2⟩; replace hg1 := Grw.trans hg1 hg2; clear hg2; obtain ⟨hc1, hf1⟩ := hg1.cells; have hz1 := hg1.size; (have hl1_0 : w.heap.size < w1.heap.size := by (try simp at hz1); omega); (have c1_0_0 := hc1 (w.heap.size) 0 (by first | omega | simp <;> omega); simp [go_sem] at c1_0_0); (have c1_0_1 := hc1 (w.heap.size) 1 (by first | omega | simp <;> omega); simp [go_sem] at c1_0_1); (have c1_0_2 := hc1 (w.heap.size) 2 (by first | omega | simp <;> omega); simp [go_sem] at c1_0_2); (have f1_0 := fun o => hf1 (w.heap.size) o (by first | omega | simp <;> omega); simp [go_sem] at f1_0); clear hc1 hf1))
     go_ret
     exact ⟨ret_int HV.out.symm, by (repeat with_reducible first | exact .refl _ | assumption | refine .setAt ?_ (by first | omega | simp <;> omega) _ | refine .alloc ?_ _ | refine .drewN ?_ _ | refine .drew ?_ | refine .trans ?_ (by assumption))⟩
   · have hr3 : ¬ r < 2048 := by omega
     go_wp2_with (first | (go_at_call 136; refine (validCount_any _ _ _ _ _ _ hl).mono ?_; rintro e w1 ⟨rfl, hg1⟩; obtain ⟨hc1, hf1⟩ := hg1.cells; have hz1 := hg1.size; (have hl1_0 : w.heap.size < w1.heap.size := by (try simp at hz1); omega); (have c1_0_0 := hc1 (w.heap.size) 0 (by first | omega | simp <;> omega); simp [go_sem] at c1_0_0); (have c1_0_1 := hc1 (w.heap.size) 1 (by first | omega | simp <;> omega); simp [go_sem] at c1_0_1); (have c1_0_2 := hc1 (w.heap.size) 2 (by first | omega | simp <;> omega); simp [go_sem] at c1_0_2); (have f1_0 := fun o => hf1 (w.heap.size) o (by first | omega | simp <;> omega); simp [go_sem] at f1_0); clear hc1 hf1) | (go_at_call 137; refine (containsOutV_any _ _ _ _ (HS.out.grw (by (repeat with_reducible first | exact .refl _ | assumption | refine .setAt ?_ (by first | omega | simp <;> omega) _ | refine .alloc ?_ _ | refine .drewN ?_ _ | refine .drew ?_ | refine .trans ?_ (by assumption)))) hl).mono ?_; rintro e w1 ⟨rfl, hg2⟩; replace hg1 := Grw.trans hg1 hg2; clear hg2; obtain ⟨hc1, hf1⟩ := hg1.cells; have hz1 := hg1.size; (have hl1_0 : w.heap.size < w1.heap.size := by (try simp at hz1); omega); (have c1_0_0 := hc1 (w.heap.size) 0 (by first | omega | simp <;> omega); simp [go_sem] at c1_0_0); (have c1_0_1 := hc1 (w.heap.size) 1 (by first | omega | simp <;> omega); simp [go_sem] at c1_0_1); (have c1_0_2 := hc1 (w.heap.size) 2 (by first | omega | simp <;> omega); simp [go_sem] at c1_0_2); (have f1_0 := fun o => hf1 (w.heap.size) o (by first | omega | simp <;> omega); simp [go_sem] at f1_0); clear hc1 hf1))
     go_ret
     exact ⟨ret_int HV.out.symm, by (repeat with_reducible first | exact .refl _ | assumption | refine .setAt ?_ (by first | omega | simp <;> omega) _ | refine .alloc ?_ _ | refine .drewN ?_ _ | refine .drew ?_ | refine .trans ?_ (by assumption))⟩
theorem shapeV_circle (k r : Int) (a : Option Addr) (cap : Nat) (l : List (Int × Int)) (w : World) (hs : Sl 2 encV w a l) (hl : l.length < 4611686018427387904) (hk : k = 1) (hc : vcB k l.length = true) (ho : l.any outV = false) (h1 : 2048 ≤ r) (h2 : r ≤ 524288) :
   Calls Tryz.prog 65 #[.agg #[.int .i64 k, .int .i64 r, .slice a l.length cap]] w fun e w' => e = .returned (.int .i64 (shE k r l)) ∧ Grw w w' := by
 have HS := Lib.hid hs
 clear hs
 have HV := Lib.hid (show shE k r l = 0 from ((((if_neg (by omega)).trans (if_neg (by rw [hc]; simp))).trans (if_neg (by rw [ho]; simp))).trans (if_neg (by omega))).trans ((if_neg (by omega)).trans (if_neg (by omega))))
 subst hk
 go_enter Tryz.func65, Tryz.ntmps65
 go_upto_region 10 with ((first | (go_at_call 136; refine (validCount_any _ _ _ _ _ _ hl).mono ?_; rintro e w1 ⟨rfl, hg1⟩; obtain ⟨hc1, hf1⟩ := hg1.cells; have hz1 := hg1.size; (have hl1_0 : w.heap.size < w1.heap.size := by (try simp at hz1); omega); (have c1_0_0 := hc1 (w.heap.size) 0 (by first | omega | simp <;> omega); simp [go_sem] at c1_0_0); (have c1_0_1 := hc1 (w.heap.size) 1 (by first | omega | simp <;> omega); simp [go_sem] at c1_0_1); (have c1_0_2 := hc1 (w.heap.size) 2 (by first | omega | simp <;> omega); simp [go_sem] at c1_0_2); (have f1_0 := fun o => hf1 (w.heap.size) o (by first | omega | simp <;> omega); simp [go_sem] at f1_0); clear hc1 hf1) | (go_at_call 137; refine (containsOutV_any _ _ _ _ (HS.out.grw (by (repeat with_reducible first | exact .refl _ | assumption | refine .setAt ?_ (by first | omega | simp <;> omega) _ | refine .alloc ?_ _ | refine .drewN ?_ _ | refine .drew ?_ | refine .trans ?_ (by assumption)))) hl).mono ?_; rintro e w1 ⟨rfl, hg2⟩; replace hg1 := Grw.trans hg1 hg2; clear hg2; obtain ⟨hc1, hf1⟩ := hg1.cells; have hz1 := hg1.size; (have hl1_0 : w.heap.size < w1.heap.size := by (try simp at hz1); omega); (have c1_0_0 := hc1 (w.heap.size) 0 (by first | omega | simp <;> omega); simp [go_sem] at c1_0_0); (have c1_0_1 := hc1 (w.heap.size) 1 (by first | omega | simp <;> omega); simp [go_sem] at c1_0_1); (have c1_0_2 := hc1 (w.heap.size) 2 (by first | omega | simp <;> omega); simp [go_sem] at c1_0_2); (have f1_0 := fun o => hf1 (w.heap.size) o (by first | omega | simp <;> omega); simp [go_sem] at f1_0); clear hc1 hf1)))
 (refine wp_region_flow (by kernel_rfl) (by kernel_rfl) ?_; (repeat (refine wpQ_step (fun K hK => ?_); go_simp; refine hK _ ?_; clear hK K)); refine wpQ_nil ?_)
 intro w2 hg2
 have hg3 := hg1.trans hg2
 clear hg1 c1_0_0 c1_0_1 c1_0_2 f1_0 hz1 hl1_0
 obtain ⟨hc3, hf3⟩ := hg3.cells
 (have c1_0_0 := hc3 (w.heap.size) 0 (by first | omega | simp <;> omega); simp [go_sem] at c1_0_0)
 clear hc3 hf3
 go_wp2_with fail
 go_ret
 exact ⟨ret_int HV.out.symm, by (repeat with_reducible first | exact .refl _ | assumption | refine .setAt ?_ (by first | omega | simp <;> omega) _ | refine .alloc ?_ _ | refine .drewN ?_ _ | refine .drew ?_ | refine .trans ?_ (by assumption))⟩
theorem shapeV_short (k r : Int) (a : Option Addr) (cap : Nat) (l : List (Int × Int)) (w : World) (hs : Sl 2 encV w a l) (hl : l.length < 4611686018427387904) (hk : k = 2) (hc : vcB k l.length = true) (ho : l.any outV = false) (h1 : 2048 ≤ r) (h2 : r ≤ 524288) (hq : lenI (subI (ptL l 1).1 (ptL l 0).1) (subI (ptL l 1).2 (ptL l 0).2) < 4096) :
   Calls Tryz.prog 65 #[.agg #[.int .i64 k, .int .i64 r, .slice a l.length cap]] w fun e w' => e = .returned (.int .i64 (shE k r l)) ∧ Grw w w' := by
 have HS := Lib.hid hs
 clear hs
 have HV := Lib.hid (show shE k r l = 12 from ((((if_neg (by omega)).trans (if_neg (by rw [hc]; simp))).trans (if_neg (by rw [ho]; simp))).trans (if_neg (by omega))).trans (if_pos ⟨hk, hq⟩))
 have hn : l.length = 2 := by rw [hk] at hc; simpa [vcB] using hc
 obtain ⟨p, hp⟩ : ∃ p, l[0]? = some p := ⟨l[0], List.getElem?_eq_getElem (by omega)⟩
 obtain ⟨q, hq0⟩ : ∃ q, l[1]? = some q := ⟨l[1], List.getElem?_eq_getElem (by omega)⟩
 rw [ptL_of hp, ptL_of hq0] at hq
 obtain ⟨b, off, rfl, hb, _, _⟩ := HS.out.vec hp
 have HP := Lib.hid hp
 have HQ := Lib.hid hq0
 have HN := Lib.hid hn
 have hn1 : 2 ≤ l.length := by omega
 clear hp hq0 hn
 subst hk
 go_enter Tryz.func65, Tryz.ntmps65
 go_upto_region 10 with ((first | (go_at_call 136; refine (validCount_any _ _ _ _ _ _ hl).mono ?_; rintro e w1 ⟨rfl, hg1⟩; obtain ⟨hc1, hf1⟩ := hg1.cells; have hz1 := hg1.size; (have hl1_0 : w.heap.size < w1.heap.size := by (try simp at hz1); omega); (have c1_0_0 := hc1 (w.heap.size) 0 (by first | omega | simp <;> omega); simp [go_sem] at c1_0_0); (have c1_0_1 := hc1 (w.heap.size) 1 (by first | omega | simp <;> omega); simp [go_sem] at c1_0_1); (have c1_0_2 := hc1 (w.heap.size) 2 (by first | omega | simp <;> omega); simp [go_sem] at c1_0_2); (have f1_0 := fun o => hf1 (w.heap.size) o (by first | omega | simp <;> omega); simp [go_sem] at f1_0); clear hc1 hf1) | (go_at_call 137; refine (containsOutV_any _ _ _ _ (HS.out.grw (by (repeat with_reducible first | exact .refl _ | assumption | refine .setAt ?_ (by first | omega | simp <;> omega) _ | refine .alloc ?_ _ | refine .drewN ?_ _ | refine .drew ?_ | refine .trans ?_ (by assumption)))) hl).mono ?_; rintro e w1 ⟨rfl, hg2⟩; replace hg1 := Grw.trans hg1 hg2; clear hg2; obtain ⟨hc1, hf1⟩ := hg1.cells; have hz1 := hg1.size; (have hl1_0 : w.heap.size < w1.heap.size := by (try simp at hz1); omega); (have c1_0_0 := hc1 (w.heap.size) 0 (by first | omega | simp <;> omega); simp [go_sem] at c1_0_0); (have c1_0_1 := hc1 (w.heap.size) 1 (by first | omega | simp <;> omega); simp [go_sem] at c1_0_1); (have c1_0_2 := hc1 (w.heap.size) 2 (by first | omega | simp <;> omega); simp [go_sem] at c1_0_2); (have f1_0 := fun o => hf1 (w.heap.size) o (by first | omega | simp <;> omega); simp [go_sem] at f1_0); clear hc1 hf1)))
 have hg0 : Grw w w1 := by (repeat with_reducible first | exact .refl _ | assumption | refine .setAt ?_ (by first | omega | simp <;> omega) _ | refine .alloc ?_ _ | refine .drewN ?_ _ | refine .drew ?_ | refine .trans ?_ (by assumption))
 obtain ⟨_, _, e1, hb1, x0, x1⟩ := (HS.out.grw hg0).vec HP.out
 cases e1
 obtain ⟨_, _, e1, hb2, y0, y1⟩ := (HS.out.grw hg0).vec HQ.out
 cases e1
 clear hg0
 simp only [Nat.zero_mul, Nat.add_zero, Nat.one_mul] at x0 x1 y0 y1
 have hi1 : (1 : Int) < l.length := by omega
 have hi0 : (0 : Int) < l.length := by omega
 have hdec : decide (lenI (subI q.1 p.1) (subI q.2 p.2) < 4096) = true := by simpa using hq
 have hn2 : 1 < l.length := by omega
 have hn3 : 0 < l.length := by omega
 (refine wp_region_flow (by kernel_rfl) (by kernel_rfl) ?_; (repeat (refine wpQ_step (fun K hK => ?_); go_simp; first | (refine hK _ ?_; clear hK K) | (apply Exists.intro; refine ⟨fun _ => ?_, hK _ ?_⟩; (first | (go_at_call 36; exact (vsub_any _ _ _ _ _)) | (go_at_call 35; exact (length_any _ _ _))); clear hK K))); refine wpQ_nil ?_)
 intro w2 hg2
 have hg3 := hg1.trans hg2
 clear hg1 c1_0_0 c1_0_1 c1_0_2 f1_0 hz1 hl1_0 hg2
 obtain ⟨hc3, hf3⟩ := hg3.cells
 (have c1_0_0 := hc3 (w.heap.size) 0 (by first | omega | simp <;> omega); simp [go_sem] at c1_0_0)
 (have c1_0_2 := hc3 (w.heap.size) 2 (by first | omega | simp <;> omega); simp [go_sem] at c1_0_2)
 clear hc3 hf3
 go_wp2_with fail
 go_ret
 exact ⟨ret_int HV.out.symm, by (repeat with_reducible first | exact .refl _ | assumption | refine .setAt ?_ (by first | omega | simp <;> omega) _ | refine .alloc ?_ _ | refine .drewN ?_ _ | refine .drew ?_ | refine .trans ?_ (by assumption))⟩
theorem shapeV_capsule (k r : Int) (a : Option Addr) (cap : Nat) (l : List (Int × Int)) (w : World) (hs : Sl 2 encV w a l) (hl : l.length < 4611686018427387904) (hk : k = 2) (hc : vcB k l.length = true) (ho : l.any outV = false) (h1 : 2048 ≤ r) (h2 : r ≤ 524288) (hq : ¬ lenI (subI (ptL l 1).1 (ptL l 0).1) (subI (ptL l 1).2 (ptL l 0).2) < 4096) :
   Calls Tryz.prog 65 #[.agg #[.int .i64 k, .int .i64 r, .slice a l.length cap]] w fun e w' => e = .returned (.int .i64 (shE k r l)) ∧ Grw w w' := by
 have HS := Lib.hid hs
 clear hs
 have HV := Lib.hid (show shE k r l = 0 from ((((if_neg (by omega)).trans (if_neg (by rw [hc]; simp))).trans (if_neg (by rw [ho]; simp))).trans (if_neg (by omega))).trans ((if_neg (by intro h; exact hq h.2)).trans (if_neg (by omega))))
 have hn : l.length = 2 := by rw [hk] at hc; simpa [vcB] using hc
 obtain ⟨p, hp⟩ : ∃ p, l[0]? = some p := ⟨l[0], List.getElem?_eq_getElem (by omega)⟩
 obtain ⟨q, hq0⟩ : ∃ q, l[1]? = some q := ⟨l[1], List.getElem?_eq_getElem (by omega)⟩
 rw [ptL_of hp, ptL_of hq0] at hq
 obtain ⟨b, off, rfl, hb, _, _⟩ := HS.out.vec hp
 have HP := Lib.hid hp
 have HQ := Lib.hid hq0
 have HN := Lib.hid hn
 have hn1 : 2 ≤ l.length := by omega
 clear hp hq0 hn
 subst hk
 go_enter Tryz.func65, Tryz.ntmps65
 go_upto_region 10 with ((first | (go_at_call 136; refine (validCount_any _ _ _ _ _ _ hl).mono ?_; rintro e w1 ⟨rfl, hg1⟩; obtain ⟨hc1, hf1⟩ := hg1.cells; have hz1 := hg1.size; (have hl1_0 : w.heap.size < w1.heap.size := by (try simp at hz1); omega); (have c1_0_0 := hc1 (w.heap.size) 0 (by first | omega | simp <;> omega); simp [go_sem] at c1_0_0); (have c1_0_1 := hc1 (w.heap.size) 1 (by first | omega | simp <;> omega); simp [go_sem] at c1_0_1); (have c1_0_2 := hc1 (w.heap.size) 2 (by first | omega | simp <;> omega); simp [go_sem] at c1_0_2); (have f1_0 := fun o => hf1 (w.heap.size) o (by first | omega | simp <;> omega); simp [go_sem] at f1_0); clear hc1 hf1) | (go_at_call 137; refine (containsOutV_any _ _ _ _ (HS.out.grw (by (repeat with_reducible first | exact .refl _ | assumption | refine .setAt ?_ (by first | omega | simp <;> omega) _ | refine .alloc ?_ _ | refine .drewN ?_ _ | refine .drew ?_ | refine .trans ?_ (by assumption)))) hl).mono ?_; rintro e w1 ⟨rfl, hg2⟩; replace hg1 := Grw.trans hg1 hg2; clear hg2; obtain ⟨hc1, hf1⟩ := hg1.cells; have hz1 := hg1.size; (have hl1_0 : w.heap.size < w1.heap.size := by (try simp at hz1); omega); (have c1_0_0 := hc1 (w.heap.size) 0 (by first | omega | simp <;> omega); simp [go_sem] at c1_0_0); (have c1_0_1 := hc1 (w.heap.size) 1 (by first | omega | simp <;> omega); simp [go_sem] at c1_0_1); (have c1_0_2 := hc1 (w.heap.size) 2 (by first | omega | simp <;> omega); simp [go_sem] at c1_0_2); (have f1_0 := fun o => hf1 (w.heap.size) o (by first | omega | simp <;> omega); simp [go_sem] at f1_0); clear hc1 hf1)))
 have hg0 : Grw w w1 := by (repeat with_reducible first | exact .refl _ | assumption | refine .setAt ?_ (by first | omega | simp <;> omega) _ | refine .alloc ?_ _ | refine .drewN ?_ _ | refine .drew ?_ | refine .trans ?_ (by assumption))
 obtain ⟨_, _, e1, hb1, x0, x1⟩ := (HS.out.grw hg0).vec HP.out
 cases e1
 obtain ⟨_, _, e1, hb2, y0, y1⟩ := (HS.out.grw hg0).vec HQ.out
 cases e1
 clear hg0
 simp only [Nat.zero_mul, Nat.add_zero, Nat.one_mul] at x0 x1 y0 y1
 have hi1 : (1 : Int) < l.length := by omega
 have hi0 : (0 : Int) < l.length := by omega
 have hdec : decide (lenI (subI q.1 p.1) (subI q.2 p.2) < 4096) = false := by simpa using hq
 have hn2 : 1 < l.length := by omega
 have hn3 : 0 < l.length := by omega
 (refine wp_region_flow (by kernel_rfl) (by kernel_rfl) ?_; (repeat (refine wpQ_step (fun K hK => ?_); go_simp; first | (refine hK _ ?_; clear hK K) | (apply Exists.intro; refine ⟨fun _ => ?_, hK _ ?_⟩; (first | (go_at_call 36; exact (vsub_any _ _ _ _ _)) | (go_at_call 35; exact (length_any _ _ _))); clear hK K))); refine wpQ_nil ?_)
 intro w2 hg2
 have hg3 := hg1.trans hg2
 clear hg1 c1_0_0 c1_0_1 c1_0_2 f1_0 hz1 hl1_0 hg2
 obtain ⟨hc3, hf3⟩ := hg3.cells
 (have c1_0_0 := hc3 (w.heap.size) 0 (by first | omega | simp <;> omega); simp [go_sem] at c1_0_0)
 (have c1_0_2 := hc3 (w.heap.size) 2 (by first | omega | simp <;> omega); simp [go_sem] at c1_0_2)
 clear hc3 hf3
 go_wp2_with fail
 go_ret
 exact ⟨ret_int HV.out.symm, by (repeat with_reducible first | exact .refl _ | assumption | refine .setAt ?_ (by first | omega | simp <;> omega) _ | refine .alloc ?_ _ | refine .drewN ?_ _ | refine .drew ?_ | refine .trans ?_ (by assumption))⟩
end
end Go.Proofs.YtokkghhmliplfaaGreat
