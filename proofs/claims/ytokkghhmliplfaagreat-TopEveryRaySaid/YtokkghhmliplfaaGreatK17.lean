/- The row TopEveryRay of the program holds; part 18 of the proof. No condition. -/
import Derived.Test.YtokkghhmliplfaaGreatK16
import Derived.Carry
set_option maxRecDepth 100000
set_option maxHeartbeats 12800000
set_option linter.all false
namespace Go.Proofs.YtokkghhmliplfaaGreat
section
open Go.RowKit Go.Sort
section flow
variable {P : Program} {ops : Array Oper} {w0 : World} {S : Nat → Prop}
def relM (S : Nat → Prop) (w0 : World) (b : Bool) (w : World) : Prop := if b then OnlyChg S w0 w else Grw w0 w
theorem relM.grw {b : Bool} {w w1 : World} (h : relM S w0 b w) (k : Grw w w1) : relM S w0 b w1 := by
 cases b
 · exact Grw.trans h k
 · exact OnlyChg.grw h k
theorem relM.chg {b : Bool} {w : World} (h : relM S w0 b w) : OnlyChg S w0 w := by
 cases b
 · exact OnlyChg.of_grw h
 · exact h
def YieldsM (S : Nat → Prop) (P : Program) (ops : Array Oper) (w0 : World) (m i : Nat) (o : Oper) (v : Value) (a : Act) : Prop :=
 ((∃ f, waitsT ops f m i = true) ∧ YieldsG P ops w0 o v a) ∨ YieldsS S P ops w0 o v a
theorem YieldsM.put {m i : Nat} {o o' : Oper} {v : Value} {a : Act} (hs : ∀ cs b, o.op ≠ .select cs b) (hap : ∀ d, o'.dst = some d → d ∉ o.looksAt ops) (u : Value)
   (hy : YieldsM S P ops w0 m i o v a) : YieldsM S P ops w0 m i o v (a.put o'.dst u) := by
 rcases hy with ⟨h1, h2⟩ | h
 · exact .inl ⟨h1, h2.put hs hap u⟩
 · exact .inr (h.put hs hap u)
def anyM (S : Nat → Prop) (P : Program) (ops : Array Oper) (w0 : World) (m : Nat) (L : Array Bool → Act → World → Prop) : Nat → Array Bool → Act → World → Prop
 | 0, listed, a, w => Region.ready .any ops listed = [] ∧ ∀ w1, Grw w w1 → L listed a w1
 | f + 1, listed, a, w => ∀ w1, Grw w w1 → Region.ready .any ops listed ≠ [] ∧ ∀ j ∈ Region.ready .any ops listed, ∀ o, ops[j]? = some o →
     okOp P ops o (fun v w2 => relM S w0 ((listed.setIfInBounds j true).getD m false) w2 ∧ anyM S P ops w0 m L f (listed.setIfInBounds j true) (a.put o.dst v) w2) a w1
theorem anyM_stab {m : Nat} {L : Array Bool → Act → World → Prop} {f : Nat} {listed : Array Bool} {a : Act} {w w1 : World} (h : anyM S P ops w0 m L f listed a w) (hw : Grw w w1) : anyM S P ops w0 m L f listed a w1 := by
 cases f with
 | zero => exact ⟨h.1, fun w2 h2 => h.2 w2 (hw.trans h2)⟩
 | succ f => exact fun w2 h2 => h w2 (hw.trans h2)
theorem anyM_first {m i : Nat} {oi : Oper} {v : Value} {L : Array Bool → Act → World → Prop} (hi : ops[i]? = some oi) (hsel : ∀ (j : Nat) (o : Oper) cs b, ops[j]? = some o → o.op ≠ .select cs b) (him : i ≠ m) :
   ∀ (f : Nat) (listed : Array Bool) (a : Act) (w : World), relM S w0 (listed.getD m false) w → Clo ops listed →
     (∀ j oj, ops[j]? = some oj → j ≠ i → listed.getD j true = false → (∀ e ∈ oj.after, Region.binds .any e = true → e.on ≠ i) → oi.apart ops oj = true) →
     i ∈ Region.ready .any ops listed → YieldsM S P ops w0 m i oi v a →
     anyM S P ops w0 m L f (listed.setIfInBounds i true) (a.put oi.dst v) w → anyM S P ops w0 m L (f + 1) listed a w := by
 have key : ∀ (listed : Array Bool) (a : Act) (w w1 : World) (K : Value → World → Prop), relM S w0 (listed.getD m false) w → Clo ops listed → i ∈ Region.ready .any ops listed → YieldsM S P ops w0 m i oi v a → Grw w w1 → (∀ w2, Grw w1 w2 → K v w2) → okOp P ops oi K a w1 := by
   intro listed a w w1 K hw hclo hr hy hw1 hK
   rcases hy with ⟨⟨ff, hff⟩, hy⟩ | hy
   · have hb : listed.getD m false = false := by
       rcases Bool.eq_false_or_eq_true (listed.getD m false) with h | h
       · have h1 := waitsT_listed hclo ff m hff h
         have h2 := getD_both (mem_ready.1 hr).1
         rw [h2] at h1; cases h1
       · exact h
     rw [hb] at hw
     exact hy.okOp (Grw.trans hw hw1) hK
   · exact hy.okOp (hw.chg.grw hw1) hK
 intro f
 induction f with
 | zero =>
   intro listed a w hw hclo hfree hr hy H w1 hw1
   refine ⟨fun h => (by rw [h] at hr; cases hr), fun j hj o ho => ?_⟩
   by_cases hji : j = i
   · subst hji
     obtain rfl : oi = o := Option.some.inj (hi.symm.trans ho)
     refine key listed a w w1 _ hw hclo hr hy hw1 fun w2 h2 => ⟨?_, anyM_stab H (hw1.trans h2)⟩
     rw [getD_set_ne false him]
     exact (hw.grw hw1).grw h2
   · have := ready_mono hj hji
     rw [H.1] at this; cases this
 | succ f ih =>
   intro listed a w hw hclo hfree hr hy H w1 hw1
   refine ⟨fun h => (by rw [h] at hr; cases hr), fun j hj oj hoj => ?_⟩
   by_cases hji : j = i
   · subst hji
     obtain rfl : oi = oj := Option.some.inj (hi.symm.trans hoj)
     refine key listed a w w1 _ hw hclo hr hy hw1 fun w2 h2 => ⟨?_, anyM_stab H (hw1.trans h2)⟩
     rw [getD_set_ne false him]
     exact (hw.grw hw1).grw h2
   · obtain ⟨hjun, oj', hoj', hall⟩ := mem_ready.1 hj
     obtain rfl : oj' = oj := Option.some.inj (hoj'.symm.trans hoj)
     have hnot : ∀ e ∈ oj'.after, Region.binds .any e = true → e.on ≠ i := fun e he hb heq => by
       have h1 := hall e he hb
       rw [heq, getD_both (mem_ready.1 hr).1] at h1; cases h1
     obtain ⟨a1, a2, a3⟩ := Oper.apart_spec (hfree j oj' hoj hji hjun hnot)
     have h1 := (H w1 hw1).2 j (ready_mono hj hji) oj' hoj
     have h2 : okOp P ops oj' (fun u w2 => relM S w0 (((listed.setIfInBounds i true).setIfInBounds j true).getD m false) w2 ∧ anyM S P ops w0 m L f ((listed.setIfInBounds i true).setIfInBounds j true) ((a.put oi.dst v).put oj'.dst u) w2) a w1 := by
       unfold okOp at h1 ⊢
       rw [wanted_put oj' a oi.dst v a1, execOp_put oj' (fun cs b => hsel j oj' cs b hoj) a oi.dst v a1] at h1
       exact h1
     refine okOp_mono (fun u w2 ⟨hg, hA⟩ => ?_) h2
     have hg' : relM S w0 ((listed.setIfInBounds j true).getD m false) w2 := by
       rw [Array.setIfInBounds_comm _ _ (Ne.symm hji), getD_set_ne false him] at hg
       exact hg
     refine ⟨hg', ?_⟩
     refine ih (listed.setIfInBounds j true) (a.put oj'.dst u) w2 hg' (hclo.add hj) (fun k ok hk hki hunk hno => ?_) (ready_mono hr (Ne.symm hji)) (hy.put (fun cs b => hsel i oi cs b hi) a3 u) ?_
     · refine hfree k ok hk hki ?_ hno
       by_cases hjk : j = k
       · subst hjk; exact hjun
       · rw [getD_set_ne true hjk] at hunk; exact hunk
     · rw [Array.setIfInBounds_comm _ _ hji, ← Act.put_comm a v u a2]
       exact hA
theorem wpAny_of_anyM {m : Nat} {L : Array Bool → Act → World → Prop} {Q : Exit → Act → World → Prop} (hL : ∀ listed a w, L listed a w → Q .normal a w) :
   ∀ (f : Nat) (listed : Array Bool) (a : Act) (w : World), anyM S P ops w0 m L f listed a w → wpAny P .any ops Q f listed a w
 | 0, listed, a, w, h => ⟨h.1, hL _ _ _ (h.2 w (Grw.refl w))⟩
 | f + 1, listed, a, w, h => by
   obtain ⟨h1, h2⟩ := h w (Grw.refl w)
   refine ⟨fun h0 => absurd h0 h1, fun i hi => ?_⟩
   obtain ⟨_, o, ho, _⟩ := mem_ready.1 hi
   exact wpOp_of_okOp ho (fun v w' hv => wpAny_of_anyM hL f _ _ _ hv.2) (h2 i hi o ho)
def seqML (S : Nat → Prop) (P : Program) (l : List Oper) (w0 : World) (m : Nat) (Q : Act → World → Prop) : List Nat → Bool → Act → World → Prop
 | [], _, a, w => ∀ w1, Grw w w1 → Q a w1
 | k :: ks, b, a, w => ∃ o, l[k]? = some o ∧ ∀ w1, Grw w w1 → okOp P l.toArray o (fun v w2 => relM S w0 (b || k == m) w2 ∧ seqML S P l w0 m Q ks (b || k == m) (a.put o.dst v) w2) a w1
theorem sq_nil {l : List Oper} {m : Nat} {Q : Act → World → Prop} {b : Bool} {a : Act} {w : World} (h : ∀ w1, Grw w w1 → Q a w1) : seqML S P l w0 m Q [] b a w := h
theorem sq_step {l : List Oper} {m k : Nat} {ks : List Nat} {Q : Act → World → Prop} {b : Bool} {a : Act} {w : World} {o : Oper} (b' : Bool) (ho : l[k]? = some o) (hb : (b || k == m) = b')
   (h : ∀ w1, Grw w w1 → ∀ K : Value → World → Prop, (∀ v w2, relM S w0 b' w2 → seqML S P l w0 m Q ks b' (a.put o.dst v) w2 → K v w2) → okOp P l.toArray o K a w1) : seqML S P l w0 m Q (k :: ks) b a w := by
 subst hb
 exact ⟨o, ho, fun w1 h1 => h w1 h1 _ fun v w2 h2 h3 => ⟨h2, h3⟩⟩
theorem getD_set_self {listed : Array Bool} {k : Nat} (h : k < listed.size) : (listed.setIfInBounds k true).getD k false = true := by
 simp [Array.getD, h]
theorem anyM_seq {l : List Oper} {m : Nat} {Q : Act → World → Prop} : ∀ (ks : List Nat) (listed : Array Bool) (a : Act) (w : World), listed.size = l.length → (∀ k ∈ ks, k < l.length) → seqO l.toArray ks listed = true →
   seqML S P l w0 m Q ks (listed.getD m false) a w → anyM S P l.toArray w0 m (fun _ a' w' => Q a' w') ks.length listed a w
 | [], listed, a, w, _, _, hB, h => ⟨by simpa [seqO] using hB, h⟩
 | k :: ks, listed, a, w, hsz, hl, hB, ⟨o, ho, h⟩ => by
   have hk : k < l.length := hl k (List.mem_cons_self ..)
   simp only [seqO, Bool.and_eq_true, decide_eq_true_eq] at hB
   intro w1 hw1
   refine ⟨fun h1 => (by rw [hB.1] at h1; cases h1), fun i hi o' ho' => ?_⟩
   rw [hB.1] at hi
   obtain rfl : i = k := by simpa using hi
   obtain rfl : o' = o := by
     have : l[i]? = some o' := by simpa using ho'
     exact Option.some.inj (this.symm.trans ho)
   have e : (listed.setIfInBounds i true).getD m false = (listed.getD m false || i == m) := by
     by_cases him : i = m
     · subst him
       rw [getD_set_self (by omega)]; simp
     · rw [getD_set_ne false him]
       have : (i == m) = false := by simpa using him
       rw [this, Bool.or_false]
   refine okOp_mono (fun v w2 ⟨h2, h3⟩ => ⟨by rw [e]; exact h2, ?_⟩) (h w1 hw1)
   rw [← e] at h3
   exact anyM_seq ks _ _ _ (by simpa using hsz) (fun q hq => hl q (List.mem_cons_of_mem _ hq)) hB.2 h3
def stepsMB (ops : Array Oper) (m : Nat) : List (Bool × Nat) → Array Bool → Bool
 | [], _ => true
 | (b, k) :: s, listed => decide (k ≠ m) && (Region.ready .any ops listed).contains k && Region.free .any ops listed k && (!b || waitsT ops ops.size m k) && stepsMB ops m s (listed.setIfInBounds k true)
def stepsML (S : Nat → Prop) (P : Program) (l : List Oper) (w0 : World) (m : Nat) (Q : Act → World → Prop) (tl : List Nat) : List (Bool × Nat) → Act → Prop
 | [], a => ∀ w1, Grw w0 w1 → seqML S P l w0 m Q tl false a w1
 | (true, k) :: s, a => ∃ o, l[k]? = some o ∧ (if Region.wanted o (yielded l.toArray a.tmps) then ∃ v, (∀ p : GrownBy, qAt P o a (grow (wd w0 p.n) p.os) v) ∧ stepsML S P l w0 m Q tl s (a.put o.dst v) else stepsML S P l w0 m Q tl s (a.put o.dst undef))
 | (false, k) :: s, a => ∃ o, l[k]? = some o ∧ (if Region.wanted o (yielded l.toArray a.tmps) then ∃ v, (∀ w, OnlyChg S w0 w → qAt P o a w v) ∧ stepsML S P l w0 m Q tl s (a.put o.dst v) else stepsML S P l w0 m Q tl s (a.put o.dst undef))
theorem sm_nil {l : List Oper} {m : Nat} {Q : Act → World → Prop} {tl : List Nat} {a : Act} (h : ∀ w1, Grw w0 w1 → seqML S P l w0 m Q tl false a w1) : stepsML S P l w0 m Q tl [] a := h
theorem sm_g {l : List Oper} {m k : Nat} {Q : Act → World → Prop} {tl : List Nat} {s : List (Bool × Nat)} {a : Act} {o : Oper} (ho : l[k]? = some o)
   (h : ∀ K : Act → Prop, (∀ a, stepsML S P l w0 m Q tl s a → K a) → if Region.wanted o (yielded l.toArray a.tmps) then ∃ v, (∀ p : GrownBy, qAt P o a (grow (wd w0 p.n) p.os) v) ∧ K (a.put o.dst v) else K (a.put o.dst undef)) : stepsML S P l w0 m Q tl ((true, k) :: s) a := ⟨o, ho, h _ fun _ h => h⟩
theorem sm_s {l : List Oper} {m k : Nat} {Q : Act → World → Prop} {tl : List Nat} {s : List (Bool × Nat)} {a : Act} {o : Oper} (ho : l[k]? = some o) (hw : Region.wanted o (yielded l.toArray a.tmps) = true)
   (h : ∀ K : Act → Prop, (∀ a, stepsML S P l w0 m Q tl s a → K a) → ∃ v, (∀ w, OnlyChg S w0 w → qAt P o a w v) ∧ K (a.put o.dst v)) : stepsML S P l w0 m Q tl ((false, k) :: s) a :=
 ⟨o, ho, by rw [if_pos hw]; exact h _ fun _ h => h⟩
theorem anyM_steps {l : List Oper} {m : Nat} {Q : Act → World → Prop} {tl : List Nat} (hsel : Region.noSelect l.toArray = true) (htl : ∀ k ∈ tl, k < l.length) : ∀ (s : List (Bool × Nat)) (listed : Array Bool) (a : Act) (w1 : World), Grw w0 w1 → listed.size = l.length → listed.getD m false = false → Clo l.toArray listed →
   stepsMB l.toArray m s listed = true → seqO l.toArray tl (setAllB listed (s.map (·.2))) = true → stepsML S P l w0 m Q tl s a →
   anyM S P l.toArray w0 m (fun _ a' w' => Q a' w') (s.length + tl.length) listed a w1
 | [], listed, a, w1, hw, hsz, hm, _, _, hT, h => by
   have h1 := h w1 hw
   rw [← hm] at h1
   simpa using anyM_seq tl listed a w1 hsz htl hT h1
 | (b, k) :: s, listed, a, w1, hw, hsz, hm, hclo, hB, hT, h => by
   simp only [stepsMB, Bool.and_eq_true, decide_eq_true_eq] at hB
   obtain ⟨⟨⟨⟨hkm, hr⟩, hfr⟩, hwt⟩, hB'⟩ := hB
   have hr' : k ∈ Region.ready .any l.toArray listed := by simpa using hr
   have step : ∃ o, l[k]? = some o ∧ ∃ v, YieldsM S P l.toArray w0 m k o v a ∧ stepsML S P l w0 m Q tl s (a.put o.dst v) := by
     cases b with
     | true =>
       obtain ⟨o, ho, h⟩ := h
       refine ⟨o, ho, ?_⟩
       have hw' : waitsT l.toArray l.toArray.size m k = true := by simpa using hwt
       split at h
       · rename_i hwa
         obtain ⟨v, h1, h2⟩ := h
         exact ⟨v, .inl ⟨⟨_, hw'⟩, .inl ⟨hwa, fun w2 ⟨p, hp⟩ => hp ▸ h1 p⟩⟩, h2⟩
       · rename_i hwa
         exact ⟨undef, .inl ⟨⟨_, hw'⟩, .inr ⟨by simpa using hwa, rfl⟩⟩, h⟩
     | false =>
       obtain ⟨o, ho, h⟩ := h
       refine ⟨o, ho, ?_⟩
       split at h
       · rename_i hwa
         obtain ⟨v, h1, h2⟩ := h
         exact ⟨v, .inr (.inl ⟨hwa, h1⟩), h2⟩
       · rename_i hwa
         exact ⟨undef, .inr (.inr ⟨by simpa using hwa, rfl⟩), h⟩
   obtain ⟨o, ho, v, hy, hK⟩ := step
   have h0 : l.toArray[k]? = some o := by simpa using ho
   rw [show ((b, k) :: s).length + tl.length = (s.length + tl.length) + 1 by simp; omega]
   refine anyM_first h0 (Region.noSelect_spec hsel) hkm _ _ a w1 (by rw [hm]; exact hw) hclo (Region.free_spec h0 hfr) hr' hy ?_
   exact anyM_steps hsel htl s _ _ w1 hw (by simpa using hsz) (by rw [getD_set_ne false hkm]; exact hm) (hclo.add hr') hB' hT hK
theorem wp_region_late {id : Nat} {Q : Exit → Act → World → Prop} {a : Act} {w : World} {l : List Oper} (m : Nat) (s : List (Bool × Nat)) (tl : List Nat) (hm : P.follows .mixedOrders = true)
   (hB : (Region.noSelect l.toArray && stepsMB l.toArray m s (Array.replicate l.toArray.size false) &&
     seqO l.toArray tl (setAllB (Array.replicate l.toArray.size false) (s.map (·.2))) && (s.length + tl.length == l.length) && tl.all (fun k => decide (k < l.length))) = true)
   (h : stepsML S P l w m (Q .normal) tl s a) :
   (Code.region id l.toArray true).wp P Q a w := by
 simp only [Bool.and_eq_true, beq_iff_eq] at hB
 obtain ⟨⟨⟨⟨hsel, hst⟩, hseq⟩, hlen⟩, htl⟩ := hB
 have hsz : l.toArray.size = l.length := by simp
 refine wp_region_any hm ?_
 have hg := (Grw.refl w).drewN 1
 have hfl : (Array.replicate l.toArray.size false).getD m false = false := by
   by_cases h : m < l.length <;> simp [Array.getD, h]
 have H := anyM_steps (S := S) (P := P) (w0 := w) (l := l) (m := m) (Q := Q .normal) (tl := tl) hsel (fun k hk => by simpa using List.all_eq_true.1 htl k hk) s (Array.replicate l.toArray.size false) a ({ w with drawn := w.drawn + 1 }) hg (by simp) hfl (clo_none _ rfl) hst hseq h
 have H2 := wpAny_of_anyM (w0 := w) (Q := Q) (fun _ a' w' h => h) _ _ _ _ H
 rw [hlen, ← hsz] at H2
 exact H2
end flow
end
section
open Go.RowKit Go.Sort
attribute [local go_sem] qAt qUpon okOp okUpon cell_in_grow frozen_in_grow encFixV_eq encBodyV_eq encJointV_eq encPkV_eq encPtV_eq encCtV_eq encMfV_eq encWorldV_eq encObV_eq
attribute [local go_sem ↓] loadAt31 storeAt31 loadAt99 storeAt99 loadAt44 storeAt44 loadAt58 storeAt58 loadAt70 storeAt70 loadAt25 storeAt25 loadAt94 storeAt94 loadAt143 storeAt143
attribute [local go_sem] run_bl31 run_bs31 run_bl99 run_bs99 run_bl44 run_bs44 run_bl58 run_bs58 run_bl70 run_bs70 run_bl25 run_bs25 run_bl94 run_bs94 run_bl143 run_bs143 there_new there_alloc have_in_grow cells_in_grow oc_int oc_bool oc_slice oc_all oc_cons oc_nil List.size_toArray List.length_cons List.length_nil
attribute [local go_sem high] eqR23 eqR94
def integrateF (px py an cx cy vx vy av dt : Int) : Int × Int × Int := let r3 : Int := appX px an cx cy; let r4 : Int := appY py an cx cy; let r5 : Int := mulI vx dt; let r6 : Int := mulI vy dt; let r7 : Int := addI r3 r5; let r8 : Int := addI r4 r6; let r11 : Int := mulI av dt; let r12 : Int := trotateF an r11; let r14 : Int := rotC r12; let r15 : Int := rotS r12; let r16 : Int := prodI (sat r14 * sat cx - sat r15 * sat cy); let r17 : Int := prodI (sat r15 * sat cx + sat r14 * sat cy); let r18 : Int := subI r7 r16; let r19 : Int := subI r8 r17; (r18, r19, r12)
theorem integrate_any (px py an cx cy vx vy av dt : Int) (w : World) :
   Calls Tryz.prog 194 #[.agg #[.int .i64 (px), .int .i64 (py), .int .i64 (an)], .agg #[.int .i64 (cx), .int .i64 (cy)], .agg #[.int .i64 (vx), .int .i64 (vy)], .int .i64 (av), .int .i64 (dt)] w fun e w' => e = .returned (.agg #[.int .i64 ((integrateF px py an cx cy vx vy av dt).1), .int .i64 ((integrateF px py an cx cy vx vy av dt).2.1), .int .i64 ((integrateF px py an cx cy vx vy av dt).2.2)]) ∧ Grw w w' := by
 go_enter Tryz.func194, Tryz.ntmps194
 go_upto_region 1 with (fail)
 refine wp_gen (fun xw => Grw w xw ∧ Bk xw (w.heap.size) 41 #[.int .i64 (px), .int .i64 (py), .int .i64 (an)] ∧ Bk xw (w.heap.size + 1) 23 #[.int .i64 (cx), .int .i64 (cy)] ∧ Bk xw (w.heap.size + 1 + 1) 23 #[.int .i64 (vx), .int .i64 (vy)] ∧ Bk xw (w.heap.size + 1 + 1 + 1) 41 #[.int .i64 (0), .int .i64 (0), .int .i64 (0)]) ⟨(((((Grw.refl w)).alloc _).alloc _).alloc _).alloc _, ((((Bk.new' (by simp))).alloc _).alloc _).alloc _, (((Bk.new' (by simp))).alloc _).alloc _, ((Bk.new' (by simp))).alloc _, (Bk.new' (by simp))⟩ ?_
 rintro w1 ⟨hw1, hB1_0, hB1_1, hB1_2, hB1_3⟩
 have g1_0_0 : w1.cell? ⟨w.heap.size, 0, none⟩ = some (.int .i64 (px)) := hB1_0.cell 0
 have g1_0_1 : w1.cell? ⟨w.heap.size, 1, none⟩ = some (.int .i64 (py)) := hB1_0.cell 1
 have g1_0_2 : w1.cell? ⟨w.heap.size, 2, none⟩ = some (.int .i64 (an)) := hB1_0.cell 2
 have g1_0_l := hB1_0.lt
 have g1_1_0 : w1.cell? ⟨w.heap.size + 1, 0, none⟩ = some (.int .i64 (cx)) := hB1_1.cell 0
 have g1_1_1 : w1.cell? ⟨w.heap.size + 1, 1, none⟩ = some (.int .i64 (cy)) := hB1_1.cell 1
 have g1_1_l := hB1_1.lt
 have g1_2_0 : w1.cell? ⟨w.heap.size + 1 + 1, 0, none⟩ = some (.int .i64 (vx)) := hB1_2.cell 0
 have g1_2_1 : w1.cell? ⟨w.heap.size + 1 + 1, 1, none⟩ = some (.int .i64 (vy)) := hB1_2.cell 1
 have g1_2_l := hB1_2.lt
 have g1_3_l := hB1_3.lt
 have HB1 := Lib.hid (show _ ∧ _ ∧ _ ∧ _ from ⟨hB1_0, hB1_1, hB1_2, hB1_3⟩); clear hB1_0 hB1_1 hB1_2 hB1_3
 refine wp_region_flowB 7 (by kernel_rfl) (by kernel_rfl) ?_
 simp only [tD]
 iterate 2 (refine wpQ_step (fun K hK => ?_); go_simp; refine hK _ ?_; clear hK K)
 refine wpQ_step (fun K hK => ?_); go_simp; apply Exists.intro; refine ⟨fun _ => ?_, hK _ ?_⟩; (go_at_call 66; exact (apply_any _ _ _ _ _ _)); clear hK K
 iterate 2 (refine wpQ_step (fun K hK => ?_); go_simp; refine hK _ ?_; clear hK K)
 refine wpQ_step (fun K hK => ?_); go_simp; apply Exists.intro; refine ⟨fun _ => ?_, hK _ ?_⟩; (go_at_call 74; exact (vscale_any _ _ _ _)); clear hK K
 refine wpQ_step (fun K hK => ?_); go_simp; apply Exists.intro; refine ⟨fun _ => ?_, hK _ ?_⟩; (go_at_call 76; exact (vadd_any _ _ _ _ _)); clear hK K
 refine wpQ_nil ?_
 intro w2 hg2
 obtain ⟨r3, hr3⟩ : ∃ r : Int, r = appX px an cx cy := ⟨_, rfl⟩
 obtain ⟨r4, hr4⟩ : ∃ r : Int, r = appY py an cx cy := ⟨_, rfl⟩
 (try simp only [← hr3, ← hr4])
 have R3 := Lib.hid hr3; clear hr3
 have R4 := Lib.hid hr4; clear hr4
 obtain ⟨r5, hr5⟩ : ∃ r : Int, r = mulI vx dt := ⟨_, rfl⟩
 obtain ⟨r6, hr6⟩ : ∃ r : Int, r = mulI vy dt := ⟨_, rfl⟩
 (try simp only [← hr5, ← hr6])
 have R5 := Lib.hid hr5; clear hr5
 have R6 := Lib.hid hr6; clear hr6
 obtain ⟨r7, hr7⟩ : ∃ r : Int, r = addI r3 r5 := ⟨_, rfl⟩
 obtain ⟨r8, hr8⟩ : ∃ r : Int, r = addI r4 r6 := ⟨_, rfl⟩
 (try simp only [← hr7, ← hr8])
 have R7 := Lib.hid hr7; clear hr7
 have R8 := Lib.hid hr8; clear hr8
 refine okList_step (fun w2_0 hw2_0 K hK => ?_)
 have hAw2_0 : w1.heap.size ≤ w2_0.heap.size := (show Grw w1 w2_0 by (repeat with_reducible first | exact .refl _ | assumption | refine .setAt ?_ (by first | omega | simp <;> omega) _ | refine .setCells ?_ (by first | omega | simp <;> omega) _ | refine .alloc ?_ _ | refine .drewN ?_ _ | refine .drew ?_ | refine .trans ?_ (by assumption))).size
 go_simp; refine hK _ _ (by (repeat with_reducible first | exact .refl _ | assumption | refine .setAt ?_ (by first | omega | simp <;> omega) _ | refine .setCells ?_ (by first | omega | simp <;> omega) _ | refine .alloc ?_ _ | refine .drewN ?_ _ | refine .drew ?_ | refine .trans ?_ (by assumption))) ?_; clear hK K
 have hN2_0 := Bk.new w2_0 23 #[.int .i64 (0), .int .i64 (0)]
 refine okList_step (fun w2_1 hw2_1 K hK => ?_)
 replace hN2_0 := hN2_0.grw hw2_1
 have gn_0 : w2_1.cell? ⟨w2_0.heap.size, 0, none⟩ = some (.int .i64 (0)) := hN2_0.cell 0
 have gn_1 : w2_1.cell? ⟨w2_0.heap.size, 1, none⟩ = some (.int .i64 (0)) := hN2_0.cell 1
 have gn_f := hN2_0.frozen
 go_simp; refine hK _ _ (by (repeat with_reducible first | exact .refl _ | assumption | refine .setAt ?_ (by first | omega | simp <;> omega) _ | refine .setCells ?_ (by first | omega | simp <;> omega) _ | refine .alloc ?_ _ | refine .drewN ?_ _ | refine .drew ?_ | refine .trans ?_ (by assumption))) ?_; clear hK K gn_f gn_0 gn_1
 replace hN2_0 := hN2_0.set 0 (.int .i64 (r7))
 replace hN2_0 := hN2_0.set 1 (.int .i64 (r8))
 refine okList_nil (fun w9 h9 => ?_); go_simp
 have hN2_0 : Bk w9 (w2_0.heap.size) 23 #[.int .i64 (r7), .int .i64 (r8)] := hN2_0.grw h9
 have hg9 : Grw w1 w9 := by (repeat with_reducible first | exact .refl _ | assumption | refine .setAt ?_ (by first | omega | simp <;> omega) _ | refine .setCells ?_ (by first | omega | simp <;> omega) _ | refine .alloc ?_ _ | refine .drewN ?_ _ | refine .drew ?_ | refine .trans ?_ (by assumption))
 have hsz2_0 : w.heap.size + 1 + 1 + 1 < w2_0.heap.size := by (have h1 : Grw w1 w2_0 := by (repeat with_reducible first | exact .refl _ | assumption | refine .setAt ?_ (by first | omega | simp <;> omega) _ | refine .setCells ?_ (by first | omega | simp <;> omega) _ | refine .alloc ?_ _ | refine .drewN ?_ _ | refine .drew ?_ | refine .trans ?_ (by assumption))); (have h2 := h1.size); (have h3 := g1_3_l); omega
 obtain ⟨b0, b1, b2, b3⟩ := HB1.out
 have hB9_0 : Bk w9 (w.heap.size) 41 #[.int .i64 (px), .int .i64 (py), .int .i64 (an)] := (b0).grw hg9
 have hB9_1 : Bk w9 (w.heap.size + 1) 23 #[.int .i64 (cx), .int .i64 (cy)] := (b1).grw hg9
 have hB9_2 : Bk w9 (w.heap.size + 1 + 1) 23 #[.int .i64 (vx), .int .i64 (vy)] := (b2).grw hg9
 have hB9_3 : Bk w9 (w.heap.size + 1 + 1 + 1) 41 #[.int .i64 (0), .int .i64 (0), .int .i64 (0)] := (b3).grw hg9
 have hB9_4 : Bk w9 (w2_0.heap.size) 23 #[.int .i64 (r7), .int .i64 (r8)] := hN2_0
 have hw9 : Grw w w9 := (hw1).trans hg9
 have hs9 : w.heap.size + 1 + 1 + 1 < w9.heap.size := by have h1 := hg9.size; have h2 := g1_3_l; (try simp at h1); omega
 have g9_0_2 : w9.cell? ⟨w.heap.size, 2, none⟩ = some (.int .i64 (an)) := hB9_0.cell 2
 have g9_0_l := hB9_0.lt
 have g9_1_l := hB9_1.lt
 have g9_2_l := hB9_2.lt
 have g9_3_l := hB9_3.lt
 have g9_4_l := hB9_4.lt
 have HB9 := Lib.hid (show _ ∧ _ ∧ _ ∧ _ ∧ _ from ⟨hB9_0, hB9_1, hB9_2, hB9_3, hB9_4⟩); clear hB9_0 hB9_1 hB9_2 hB9_3 hB9_4
 clear g1_0_0 g1_0_1 g1_0_2 g1_0_l g1_1_0 g1_1_1 g1_1_l g1_2_0 g1_2_1 g1_2_l g1_3_l b0 b1 b2 b3 HB1 hw1 hg9
 clear hN2_0 hw2_1 hw2_0 h9 hg2
 go_upto_region 2 with (fail)
 refine wp_region_flow (by kernel_rfl) (by kernel_rfl) ?_
 iterate 4 (refine wpQ_step (fun K hK => ?_); go_simp; refine hK _ ?_; clear hK K)
 refine wpQ_step (fun K hK => ?_); go_simp; apply Exists.intro; refine ⟨fun _ => ?_, hK _ ?_⟩; (go_at_call 80; exact (mul_any _ _ _)); clear hK K
 refine wpQ_step (fun K hK => ?_); go_simp; apply Exists.intro; refine ⟨fun _ => ?_, hK _ ?_⟩; (go_at_call 264; exact (trotate_any _ _ _)); clear hK K
 iterate 1 (refine wpQ_step (fun K hK => ?_); go_simp; refine hK _ ?_; clear hK K)
 refine wpQ_nil ?_
 intro w10 hg10
 obtain ⟨r11, hr11⟩ : ∃ r : Int, r = mulI av dt := ⟨_, rfl⟩
 (try simp only [← hr11])
 have R11 := Lib.hid hr11; clear hr11
 obtain ⟨r12, hr12⟩ : ∃ r : Int, r = trotateF an r11 := ⟨_, rfl⟩
 (try simp only [← hr12])
 have R12 := Lib.hid hr12; clear hr12
 obtain ⟨b0, b1, b2, b3, b4⟩ := HB9.out
 have hB10_0 : Bk w10 (w.heap.size) 41 #[.int .i64 (px), .int .i64 (py), .int .i64 (an)] := (b0).grw hg10
 have hB10_1 : Bk w10 (w.heap.size + 1) 23 #[.int .i64 (cx), .int .i64 (cy)] := (b1).grw hg10
 have hB10_2 : Bk w10 (w.heap.size + 1 + 1 + 1) 41 #[.int .i64 (0), .int .i64 (0), .int .i64 (0)] := (b3).grw hg10
 have hB10_3 : Bk w10 (w2_0.heap.size) 23 #[.int .i64 (r7), .int .i64 (r8)] := (b4).grw hg10
 have hw10 : Grw w w10 := (hw9).trans hg10
 have hs10 : w2_0.heap.size < w10.heap.size := by have h1 := hg10.size; have h2 := g9_4_l; (try simp at h1); omega
 have g10_0_l := hB10_0.lt
 have g10_1_0 : w10.cell? ⟨w.heap.size + 1, 0, none⟩ = some (.int .i64 (cx)) := hB10_1.cell 0
 have g10_1_1 : w10.cell? ⟨w.heap.size + 1, 1, none⟩ = some (.int .i64 (cy)) := hB10_1.cell 1
 have g10_1_l := hB10_1.lt
 have g10_2_l := hB10_2.lt
 have g10_3_0 : w10.cell? ⟨w2_0.heap.size, 0, none⟩ = some (.int .i64 (r7)) := hB10_3.cell 0
 have g10_3_1 : w10.cell? ⟨w2_0.heap.size, 1, none⟩ = some (.int .i64 (r8)) := hB10_3.cell 1
 have g10_3_l := hB10_3.lt
 have HB10 := Lib.hid (show _ ∧ _ ∧ _ ∧ _ from ⟨hB10_0, hB10_1, hB10_2, hB10_3⟩); clear hB10_0 hB10_1 hB10_2 hB10_3
 clear g9_0_2 g9_0_l g9_1_l g9_2_l g9_3_l g9_4_l b0 b1 b2 b3 b4 HB9 hw9 hg10
 go_upto_region 3 with (fail)
 refine wp_region_flowA 8 (by kernel_rfl) (by kernel_rfl) ?_
 simp only [tD]
 iterate 2 (refine wpQ_step (fun K hK => ?_); go_simp; refine hK _ ?_; clear hK K)
 refine wpQ_step (fun K hK => ?_); go_simp; apply Exists.intro; refine ⟨fun _ => ?_, hK _ ?_⟩; (go_at_call 145; exact (rot_any _ _)); clear hK K
 iterate 1 (refine wpQ_step (fun K hK => ?_); go_simp; refine hK _ ?_; clear hK K)
 refine wpQ_step (fun K hK => ?_); go_simp; apply Exists.intro; refine ⟨fun _ => ?_, hK _ ?_⟩; (go_at_call 144; exact (rotate_any _ _ _ _ _)); clear hK K
 refine wpQ_step (fun K hK => ?_); go_simp; apply Exists.intro; refine ⟨fun _ => ?_, hK _ ?_⟩; (go_at_call 36; exact (vsub_any _ _ _ _ _)); clear hK K
 iterate 2 (refine wpQ_step (fun K hK => ?_); go_simp; refine hK _ ?_; clear hK K)
 refine wpQ_nil ?_
 intro w13 hg13
 obtain ⟨r14, hr14⟩ : ∃ r : Int, r = rotC r12 := ⟨_, rfl⟩
 obtain ⟨r15, hr15⟩ : ∃ r : Int, r = rotS r12 := ⟨_, rfl⟩
 (try simp only [← hr14, ← hr15])
 have R14 := Lib.hid hr14; clear hr14
 have R15 := Lib.hid hr15; clear hr15
 obtain ⟨r16, hr16⟩ : ∃ r : Int, r = prodI (sat r14 * sat cx - sat r15 * sat cy) := ⟨_, rfl⟩
 obtain ⟨r17, hr17⟩ : ∃ r : Int, r = prodI (sat r15 * sat cx + sat r14 * sat cy) := ⟨_, rfl⟩
 (try simp only [← hr16, ← hr17])
 have R16 := Lib.hid hr16; clear hr16
 have R17 := Lib.hid hr17; clear hr17
 obtain ⟨r18, hr18⟩ : ∃ r : Int, r = subI r7 r16 := ⟨_, rfl⟩
 obtain ⟨r19, hr19⟩ : ∃ r : Int, r = subI r8 r17 := ⟨_, rfl⟩
 (try simp only [← hr18, ← hr19])
 have R18 := Lib.hid hr18; clear hr18
 have R19 := Lib.hid hr19; clear hr19
 obtain ⟨b0, b1, b2, b3⟩ := HB10.out
 have hB13_0 : Bk w13 (w.heap.size + 1) 23 #[.int .i64 (cx), .int .i64 (cy)] := (b1).grw hg13
 have hB13_1 : Bk w13 (w.heap.size + 1 + 1 + 1) 41 #[.int .i64 (0), .int .i64 (0), .int .i64 (0)] := (b2).grw hg13
 have hB13_2 : Bk w13 (w2_0.heap.size) 23 #[.int .i64 (r7), .int .i64 (r8)] := (b3).grw hg13
 have hw13 : Grw w w13 := (hw10).trans hg13
 have hs13 : w2_0.heap.size < w13.heap.size := by have h1 := hg13.size; have h2 := g10_3_l; (try simp at h1); omega
 have g13_0_l := hB13_0.lt
 have g13_1_0 : w13.cell? ⟨w.heap.size + 1 + 1 + 1, 0, none⟩ = some (.int .i64 (0)) := hB13_1.cell 0
 have g13_1_1 : w13.cell? ⟨w.heap.size + 1 + 1 + 1, 1, none⟩ = some (.int .i64 (0)) := hB13_1.cell 1
 have g13_1_2 : w13.cell? ⟨w.heap.size + 1 + 1 + 1, 2, none⟩ = some (.int .i64 (0)) := hB13_1.cell 2
 have g13_1_f := hB13_1.frozen
 have g13_1_l := hB13_1.lt
 have g13_2_l := hB13_2.lt
 have HB13 := Lib.hid (show _ ∧ _ ∧ _ from ⟨hB13_0, hB13_1, hB13_2⟩); clear hB13_0 hB13_1 hB13_2
 clear g10_0_l g10_1_0 g10_1_1 g10_1_l g10_2_l g10_3_0 g10_3_1 g10_3_l b0 b1 b2 b3 HB10 hw10 hg13
 go_wp2_with fail
 have hF : integrateF px py an cx cy vx vy av dt = (r18, r19, r12) := by unfold integrateF; first | rfl | (simp only [← R19.out, ← R18.out, ← R17.out, ← R16.out, ← R15.out, ← R14.out, ← R12.out, ← R11.out, ← R8.out, ← R7.out, ← R6.out, ← R5.out, ← R4.out, ← R3.out, cond_true, cond_false]; done) | (simp only [← R19.out, ← R18.out, ← R17.out, ← R16.out, ← R15.out, ← R14.out, ← R12.out, ← R11.out, ← R8.out, ← R7.out, ← R6.out, ← R5.out, ← R4.out, ← R3.out, cond_true, cond_false]; rfl) | simp [← R19.out, ← R18.out, ← R17.out, ← R16.out, ← R15.out, ← R14.out, ← R12.out, ← R11.out, ← R8.out, ← R7.out, ← R6.out, ← R5.out, ← R4.out, ← R3.out]
 refine bodyPost_ret (v := .agg #[.int .i64 (r18), .int .i64 (r19), .int .i64 (r12)]) (by simp [results, Tryz.results194, go_sem, g13_0_l, g13_1_0, g13_1_1, g13_1_2, g13_1_f, g13_1_l, g13_2_l]) rfl ⟨by rw [hF], ?_⟩
 exact (((hw13).setAt (by omega) _).setAt (by omega) _).setAt (by omega) _
end
section
open Go.RowKit Go.Sort
attribute [local go_sem] qAt qUpon okOp okUpon cell_in_grow frozen_in_grow encFixV_eq encBodyV_eq encJointV_eq encPkV_eq encPtV_eq encCtV_eq encMfV_eq encWorldV_eq
attribute [local go_sem ↓] loadAt31 storeAt31 loadAt99 storeAt99 loadAt44 storeAt44 loadAt58 storeAt58 loadAt70 storeAt70 loadAt25 storeAt25 loadAt94 storeAt94 loadAt143 storeAt143
attribute [local go_sem] run_bl31 run_bs31 run_bl99 run_bs99 run_bl44 run_bs44 run_bl58 run_bs58 run_bl70 run_bs70 run_bl25 run_bs25 run_bl94 run_bs94 run_bl143 run_bs143 there_new there_alloc have_in_grow cells_in_grow oc_int oc_bool oc_slice oc_all oc_cons oc_nil List.size_toArray List.length_cons List.length_nil
attribute [local go_sem high] eqR23 eqR94
attribute [local go_sem] encObV_eq
theorem OnlyChg.setCells1 {n : Nat} {a : World} (l : List Value) : ∀ {b : World} {o : Nat}, OnlyChg (fun k => k = n) a b → OnlyChg (fun k => k = n) a (b.setCells n o l) := by
 induction l with
 | nil => exact fun h => h
 | cons v l ih => exact fun h => ih (h.set1 v)
theorem massData0' (b : ObV) (w : World) : Calls Tryz.prog 193 #[.agg (encObV b).toArray] w fun e w' => e = .returned (.agg #[.int .i64 0, .int .i64 0, .int .i64 0, .int .i64 0]) ∧ Grw w w' := massData0 b w
theorem fld261 (W : World) : (Instr.field 261 (.agg #[.int .i64 0, .int .i64 0, .int .i64 0, .int .i64 0]) 1).run Tryz.prog W = .ok (.agg #[.int .i64 0, .int .i64 0]) W := by kernel_rfl
theorem position1 {b : ObV} {dt px py an : Int} {w : World} (hk : b.kd = 3) (hs : b.sl = false)
   (hI : ∀ W, Calls Tryz.prog 194 #[.agg #[.int .i64 b.px, .int .i64 b.py, .int .i64 b.an], .agg #[.int .i64 0, .int .i64 0], .agg #[.int .i64 b.vx, .int .i64 b.vy], .int .i64 b.av, .int .i64 dt] W fun e w' => e = .returned (.agg #[.int .i64 px, .int .i64 py, .int .i64 an]) ∧ Grw W w')
   (hx : ∀ W, Calls Tryz.prog 195 #[.int .i64 px, .int .i64 b.vx] W fun e w' => e = .returned (.tuple #[.int .i64 px, .int .i64 b.vx]) ∧ Grw W w')
   (hy : ∀ W, Calls Tryz.prog 195 #[.int .i64 py, .int .i64 b.vy] W fun e w' => e = .returned (.tuple #[.int .i64 py, .int .i64 b.vy]) ∧ Grw W w') :
   Calls Tryz.prog 115 #[.agg (encObV b).toArray, .int .i64 dt] w fun e w' => e = .returned (.agg (encObV { b with px := px, py := py, an := an }).toArray) ∧ Grw w w' := by
 have HK := Lib.hid hk; have HS := Lib.hid hs; have HI := Lib.hid hI; have HCx := Lib.hid hx; have HCy := Lib.hid hy
 clear hk hs hI hx hy
 have hfd := fld261
 go_enter Tryz.func115, Tryz.ntmps115
 go_upto_region 1 with (fail)
 refine wp_gen (fun xw => Grw w xw ∧ Bk xw w.heap.size 44 (encObV b).toArray ∧ Bk xw (w.heap.size + 1) 44 (encBodyV BodyV.d).toArray) ⟨((Grw.refl w).alloc _).alloc _, (Bk.new' (by simp)).alloc _, Bk.new' (by simp)⟩ ?_
 rintro w1 ⟨hw1, hB1, hR1⟩
 have c1 : w1.cell? ⟨w.heap.size, 1, none⟩ = some (.int .i64 b.kd) := hB1.cell 1
 rw [HK.out] at c1
 have c17 : w1.cell? ⟨w.heap.size, 17, none⟩ = some (.bool b.sl) := hB1.cell 17
 rw [HS.out] at c17
 have gA : HaveAll w1 w.heap.size 0 20 := hB1.have 0 20 (Nat.le_of_ble_eq_true rfl)
 have gC : cellsAt w1 w.heap.size 0 20 = (encObV b).toArray := hB1.cells' 0 20 _ rfl rfl
 have HB1 := Lib.hid hB1; have HR1 := Lib.hid hR1; clear hB1 hR1
 go_upto_region 4 with (go_at_call 193; refine (massData0' b _).mono ?_; rintro e w2 ⟨rfl, hg2⟩)
 --A
 refine wp_gen (fun xw => Grw w xw ∧ Bk xw w.heap.size 44 (encObV b).toArray ∧ Bk xw (w.heap.size + 1) 44 (encBodyV BodyV.d).toArray ∧ Bk xw w2.heap.size 23 #[.int .i64 0, .int .i64 0]) ⟨(hw1.trans hg2).alloc _, (HB1.out.grw hg2).alloc _, (HR1.out.grw hg2).alloc _, Bk.new' (by simp)⟩ ?_
 clear c1 c17 gA gC HB1 HR1 hg2 hw1
 rintro w3 ⟨hw3, hB3, hR3, hV3⟩
 have hsz3 := hw3.size
 have v0 : w3.cell? ⟨w2.heap.size, 0, none⟩ = some (.int .i64 0) := hV3.cell 0
 have v1 : w3.cell? ⟨w2.heap.size, 1, none⟩ = some (.int .i64 0) := hV3.cell 1
 have c2 : w3.cell? ⟨w.heap.size, 2, none⟩ = some (.int .i64 b.px) := hB3.cell 2
 have c3 : w3.cell? ⟨w.heap.size, 3, none⟩ = some (.int .i64 b.py) := hB3.cell 3
 have c4 : w3.cell? ⟨w.heap.size, 4, none⟩ = some (.int .i64 b.an) := hB3.cell 4
 have c5 : w3.cell? ⟨w.heap.size, 5, none⟩ = some (.int .i64 b.vx) := hB3.cell 5
 have c6 : w3.cell? ⟨w.heap.size, 6, none⟩ = some (.int .i64 b.vy) := hB3.cell 6
 have c7 : w3.cell? ⟨w.heap.size, 7, none⟩ = some (.int .i64 b.av) := hB3.cell 7
 have HB3 := Lib.hid hB3; have HR3 := Lib.hid hR3; clear hB3 hR3 hV3
 go_upto_region 5 with (go_at_call 194; refine (HI.out _).mono ?_; rintro e w4 ⟨rfl, hg4⟩; have hB4 := HB3.out.grw hg4; have c2 : w4.cell? ⟨w.heap.size, 2, none⟩ = some (.int .i64 b.px) := hB4.cell 2; have c3 : w4.cell? ⟨w.heap.size, 3, none⟩ = some (.int .i64 b.py) := hB4.cell 3; have c4 : w4.cell? ⟨w.heap.size, 4, none⟩ = some (.int .i64 b.an) := hB4.cell 4; have cf := hB4.frozen; have HB4 := Lib.hid hB4; clear hB4)
 --B
 refine wp_gen (fun xw => Grw w xw ∧ Bk xw w.heap.size 44 (encObV { b with px := px, py := py, an := an }).toArray ∧ Bk xw (w.heap.size + 1) 44 (encBodyV BodyV.d).toArray) ⟨(((hw3.trans hg4).setAt (by omega) _).setAt (by omega) _).setAt (by omega) _, ((HB4.out.set 2 (.int .i64 px)).set 3 (.int .i64 py)).set 4 (.int .i64 an), (((HR3.out.grw hg4).far (by omega) _).far (by omega) _).far (by omega) _⟩ ?_
 clear c2 c3 c4 cf HB4 HB3 HR3 hg4 hw3 v0 v1 c5 c6 c7
 rintro w5 ⟨hw5, hB5, hR5⟩
 go_upto_region 6 with (fail)
 --C
 have hlb5 := hB5.lt
 have p0 : w5.cell? ⟨w.heap.size, 2, none⟩ = some (.int .i64 px) := hB5.cell 2
 have q0 : w5.cell? ⟨w.heap.size, 5, none⟩ = some (.int .i64 b.vx) := hB5.cell 5
 have HB5 := Lib.hid hB5; have HR5 := Lib.hid hR5; clear hB5 hR5
 refine wp_region_late (S := fun k => k = w.heap.size) 16 [(true, 0), (false, 1), (true, 2), (true, 3), (true, 4), (true, 5), (true, 6), (true, 7), (true, 8), (true, 9), (true, 10), (true, 11), (true, 12), (false, 13)] [14, 15, 16, 17, 18, 19] (by kernel_rfl) (by kernel_rfl) ?_
 (refine sm_g rfl (fun K hK => ?_); go_simp; refine hK _ ?_; clear hK K)
 (refine sm_s rfl rfl (fun K hK => ?_); apply Exists.intro; refine ⟨fun w' hS => (by go_simp; rfl), ?_⟩; go_simp; refine hK _ ?_; clear hK K)
 iterate 8 (refine sm_g rfl (fun K hK => ?_); go_simp; refine hK _ ?_; clear hK K)
 (refine sm_g rfl (fun K hK => ?_); go_simp; apply Exists.intro; refine ⟨fun _ => ?_, hK _ ?_⟩; (go_at_call 195; exact HCx.out _); clear hK K)
 iterate 2 (refine sm_g rfl (fun K hK => ?_); go_simp; refine hK _ ?_; clear hK K)
 (refine sm_s rfl rfl (fun K hK => ?_); apply Exists.intro; refine ⟨fun w' hS => (by go_simp; rfl), ?_⟩; go_simp; refine hK _ ?_; clear hK K)
 refine sm_nil (fun wa5 hga5 => ?_)
 iterate 2 (refine sq_step false rfl rfl (fun wb5 hgb5 K hK => ?_); go_simp; refine hK _ _ (Grw.trans hga5 hgb5) ?_; replace hga5 := Grw.trans hga5 hgb5; clear hK K hgb5)
 clear p0 q0
 refine sq_step true rfl rfl (fun wc5 hgc5 K hK => ?_)
 have hBc5 := HB5.out.grw (Grw.trans hga5 hgc5); have hRc5 := HR5.out.grw (Grw.trans hga5 hgc5)
 have p0 : wc5.cell? ⟨w.heap.size, 2, none⟩ = some (.int .i64 px) := hBc5.cell 2
 have pf := hBc5.frozen
 go_simp
 have hOd5 : OnlyChg (fun k => k = w.heap.size) w5 (wc5.setCell ⟨w.heap.size, 2, none⟩ (.int .i64 px)) := (OnlyChg.of_grw (Grw.trans hga5 hgc5)).set1 _
 have hBd5 : Bk (wc5.setCell ⟨w.heap.size, 2, none⟩ (.int .i64 px)) w.heap.size 44 (encObV { b with px := px, py := py, an := an }).toArray := hBc5.set 2 (.int .i64 px)
 have hRd5 : Bk (wc5.setCell ⟨w.heap.size, 2, none⟩ (.int .i64 px)) (w.heap.size + 1) 44 (encBodyV BodyV.d).toArray := hRc5.far (by omega) _
 refine hK _ _ hOd5 ?_; clear hK K
 clear p0 pf hBc5 hRc5 hga5 hgc5 HB5 HR5
 generalize wc5.setCell ⟨w.heap.size, 2, none⟩ (.int .i64 px) = wd5 at hOd5 hBd5 hRd5 ⊢
 iterate 2 (refine sq_step true rfl rfl (fun wb5 hgb5 K hK => ?_); go_simp; refine hK _ _ (OnlyChg.grw hOd5 hgb5) ?_; replace hOd5 := OnlyChg.grw hOd5 hgb5; replace hBd5 := hBd5.grw hgb5; replace hRd5 := hRd5.grw hgb5; clear hK K hgb5)
 refine sq_step true rfl rfl (fun we5 hge5 K hK => ?_)
 have hBe5 := hBd5.grw hge5; have hRe5 := hRd5.grw hge5
 have q0 : we5.cell? ⟨w.heap.size, 5, none⟩ = some (.int .i64 b.vx) := hBe5.cell 5
 have pf := hBe5.frozen
 go_simp
 have hOf5 : OnlyChg (fun k => k = w.heap.size) w5 (we5.setCell ⟨w.heap.size, 5, none⟩ (.int .i64 b.vx)) := (hOd5.grw hge5).set1 _
 have hBf5 : Bk (we5.setCell ⟨w.heap.size, 5, none⟩ (.int .i64 b.vx)) w.heap.size 44 (encObV { b with px := px, py := py, an := an }).toArray := hBe5.set 5 (.int .i64 b.vx)
 have hRf5 : Bk (we5.setCell ⟨w.heap.size, 5, none⟩ (.int .i64 b.vx)) (w.heap.size + 1) 44 (encBodyV BodyV.d).toArray := hRe5.far (by omega) _
 refine hK _ _ hOf5 ?_; clear hK K
 refine sq_nil (fun wg5 hgg5 => ?_)
 have hw6 : Grw w wg5 := OnlyChg.near (S := fun k => w.heap.size ≤ k) ((OnlyChg.of_grw hw5).trans ((hOf5.grw hgg5).mono fun k _ hk => by omega)) fun k h => h
 have hB6 := hBf5.grw hgg5; have hR6 := hRf5.grw hgg5
 clear q0 pf hBd5 hRd5 hOd5 hge5 hBe5 hRe5 hOf5 hBf5 hRf5 hgg5 hw5
 generalize wg5 = w6 at hw6 hB6 hR6 ⊢
 go_upto_region 7 with (fail)
 --D
 have hlb6 := hB6.lt
 have p0 : w6.cell? ⟨w.heap.size, 3, none⟩ = some (.int .i64 py) := hB6.cell 3
 have q0 : w6.cell? ⟨w.heap.size, 6, none⟩ = some (.int .i64 b.vy) := hB6.cell 6
 have HB6 := Lib.hid hB6; have HR6 := Lib.hid hR6; clear hB6 hR6
 refine wp_region_late (S := fun k => k = w.heap.size) 16 [(true, 0), (false, 1), (true, 2), (true, 3), (true, 4), (true, 5), (true, 6), (true, 7), (true, 8), (true, 9), (true, 10), (true, 11), (true, 12), (false, 13)] [14, 15, 16, 17, 18, 19] (by kernel_rfl) (by kernel_rfl) ?_
 (refine sm_g rfl (fun K hK => ?_); go_simp; refine hK _ ?_; clear hK K)
 (refine sm_s rfl rfl (fun K hK => ?_); apply Exists.intro; refine ⟨fun w' hS => (by go_simp; rfl), ?_⟩; go_simp; refine hK _ ?_; clear hK K)
 iterate 8 (refine sm_g rfl (fun K hK => ?_); go_simp; refine hK _ ?_; clear hK K)
 (refine sm_g rfl (fun K hK => ?_); go_simp; apply Exists.intro; refine ⟨fun _ => ?_, hK _ ?_⟩; (go_at_call 195; exact HCy.out _); clear hK K)
 iterate 2 (refine sm_g rfl (fun K hK => ?_); go_simp; refine hK _ ?_; clear hK K)
 (refine sm_s rfl rfl (fun K hK => ?_); apply Exists.intro; refine ⟨fun w' hS => (by go_simp; rfl), ?_⟩; go_simp; refine hK _ ?_; clear hK K)
 refine sm_nil (fun wa6 hga6 => ?_)
 iterate 2 (refine sq_step false rfl rfl (fun wb6 hgb6 K hK => ?_); go_simp; refine hK _ _ (Grw.trans hga6 hgb6) ?_; replace hga6 := Grw.trans hga6 hgb6; clear hK K hgb6)
 clear p0 q0
 refine sq_step true rfl rfl (fun wc6 hgc6 K hK => ?_)
 have hBc6 := HB6.out.grw (Grw.trans hga6 hgc6); have hRc6 := HR6.out.grw (Grw.trans hga6 hgc6)
 have p0 : wc6.cell? ⟨w.heap.size, 3, none⟩ = some (.int .i64 py) := hBc6.cell 3
 have pf := hBc6.frozen
 go_simp
 have hOd6 : OnlyChg (fun k => k = w.heap.size) w6 (wc6.setCell ⟨w.heap.size, 3, none⟩ (.int .i64 py)) := (OnlyChg.of_grw (Grw.trans hga6 hgc6)).set1 _
 have hBd6 : Bk (wc6.setCell ⟨w.heap.size, 3, none⟩ (.int .i64 py)) w.heap.size 44 (encObV { b with px := px, py := py, an := an }).toArray := hBc6.set 3 (.int .i64 py)
 have hRd6 : Bk (wc6.setCell ⟨w.heap.size, 3, none⟩ (.int .i64 py)) (w.heap.size + 1) 44 (encBodyV BodyV.d).toArray := hRc6.far (by omega) _
 refine hK _ _ hOd6 ?_; clear hK K
 clear p0 pf hBc6 hRc6 hga6 hgc6 HB6 HR6
 generalize wc6.setCell ⟨w.heap.size, 3, none⟩ (.int .i64 py) = wd6 at hOd6 hBd6 hRd6 ⊢
 iterate 2 (refine sq_step true rfl rfl (fun wb6 hgb6 K hK => ?_); go_simp; refine hK _ _ (OnlyChg.grw hOd6 hgb6) ?_; replace hOd6 := OnlyChg.grw hOd6 hgb6; replace hBd6 := hBd6.grw hgb6; replace hRd6 := hRd6.grw hgb6; clear hK K hgb6)
 refine sq_step true rfl rfl (fun we6 hge6 K hK => ?_)
 have hBe6 := hBd6.grw hge6; have hRe6 := hRd6.grw hge6
 have q0 : we6.cell? ⟨w.heap.size, 6, none⟩ = some (.int .i64 b.vy) := hBe6.cell 6
 have pf := hBe6.frozen
 go_simp
 have hOf6 : OnlyChg (fun k => k = w.heap.size) w6 (we6.setCell ⟨w.heap.size, 6, none⟩ (.int .i64 b.vy)) := (hOd6.grw hge6).set1 _
 have hBf6 : Bk (we6.setCell ⟨w.heap.size, 6, none⟩ (.int .i64 b.vy)) w.heap.size 44 (encObV { b with px := px, py := py, an := an }).toArray := hBe6.set 6 (.int .i64 b.vy)
 have hRf6 : Bk (we6.setCell ⟨w.heap.size, 6, none⟩ (.int .i64 b.vy)) (w.heap.size + 1) 44 (encBodyV BodyV.d).toArray := hRe6.far (by omega) _
 refine hK _ _ hOf6 ?_; clear hK K
 refine sq_nil (fun wg6 hgg6 => ?_)
 have hw7 : Grw w wg6 := OnlyChg.near (S := fun k => w.heap.size ≤ k) ((OnlyChg.of_grw hw6).trans ((hOf6.grw hgg6).mono fun k _ hk => by omega)) fun k h => h
 have hB7 := hBf6.grw hgg6; have hR7 := hRf6.grw hgg6
 clear q0 pf hBd6 hRd6 hOd6 hge6 hBe6 hRe6 hOf6 hBf6 hRf6 hgg6 hw6
 generalize wg6 = w7 at hw7 hB7 hR7 ⊢
 --E
 have gA : HaveAll w7 w.heap.size 0 20 := hB7.have 0 20 (Nat.le_of_ble_eq_true rfl)
 have gC : cellsAt w7 w.heap.size 0 20 = (encObV { b with px := px, py := py, an := an }).toArray := hB7.cells' 0 20 _ rfl rfl
 have gT : There w7 (w.heap.size + 1) 0 20 := hR7.there 0 20 (Nat.le_of_ble_eq_true rfl)
 have HR7 := Lib.hid hR7; clear hB7 hR7
 go_wp2_with fail
 have hK : Bk (w7.setCells (w.heap.size + 1) 0 (encObV { b with px := px, py := py, an := an })) (w.heap.size + 1) 44 (encObV { b with px := px, py := py, an := an }).toArray := HR7.out.setAll' rfl rfl
 refine bodyPost_ret (v := .agg (encObV { b with px := px, py := py, an := an }).toArray) (results_cell_row Tryz.results115 _ _ _ _ _ _ _ rfl hK Tryz.underlying44 rfl (by kernel_rfl)) rfl ?_
 exact ⟨rfl, hw7.setCells (by omega) _⟩
end
section
open Go.RowKit Go.Sort
attribute [local go_sem] qAt qUpon okOp okUpon cell_in_grow frozen_in_grow encFixV_eq encBodyV_eq encJointV_eq encPkV_eq encPtV_eq encCtV_eq encMfV_eq encWorldV_eq
attribute [local go_sem ↓] loadAt31 storeAt31 loadAt99 storeAt99 loadAt44 storeAt44 loadAt58 storeAt58 loadAt70 storeAt70 loadAt25 storeAt25 loadAt94 storeAt94 loadAt143 storeAt143
attribute [local go_sem] run_bl31 run_bs31 run_bl99 run_bs99 run_bl44 run_bs44 run_bl58 run_bs58 run_bl70 run_bs70 run_bl25 run_bs25 run_bl94 run_bs94 run_bl143 run_bs143 there_new there_alloc have_in_grow cells_in_grow oc_int oc_bool oc_slice oc_all oc_cons oc_nil List.size_toArray List.length_cons List.length_nil
attribute [local go_sem high] eqR23 eqR94
attribute [local go_sem] encObV_eq encW1_eq encI_eq
theorem endCl1 {b b' : ObV} {wb g c : Nat} {fr : Int} {w : World} (hB : Bk w wb 31 (encW1 g c fr).toArray) (hP : ∀ W, Calls Tryz.prog 115 #[.agg (encObV b).toArray, .int .i64 8192] W fun e w' => e = .returned (.agg (encObV b').toArray) ∧ Grw W w') :
   Calls Tryz.prog 114 #[.agg (encObV b).toArray, .pointer (some ⟨wb, 0, none⟩)] w fun e w' => e = .returned (.agg (encObV b').toArray) ∧ Grw w w' := by
 have HP := Lib.hid hP; clear hP
 have hlb := hB.lt
 have HB := Lib.hid hB; clear hB
 go_enter Tryz.func114, Tryz.ntmps114
 go_upto_region 1 with (fail)
 refine wp_gen (fun xw => Grw w xw ∧ Bk xw w.heap.size 44 (encObV b).toArray ∧ Bk xw (w.heap.size + 1) 44 (encBodyV BodyV.d).toArray ∧ Bk xw wb 31 (encW1 g c fr).toArray) ⟨((Grw.refl w).alloc _).alloc _, (Bk.new' (by simp)).alloc _, Bk.new' (by simp), (HB.out.alloc _).alloc _⟩ ?_
 clear HB
 rintro w1 ⟨hw1, hB1, hR1, hW1⟩
 have gA : HaveAll w1 w.heap.size 0 20 := hB1.have 0 20 (Nat.le_of_ble_eq_true rfl)
 have gC : cellsAt w1 w.heap.size 0 20 = (encObV b).toArray := hB1.cells' 0 20 _ rfl rfl
 have c0 : w1.cell? ⟨wb, 0, none⟩ = some (.int .i64 8192) := hW1.cell 0
 have HR1 := Lib.hid hR1; clear hB1 hR1 hW1
 go_wp2_with (go_at_call 115; refine (HP.out _).mono ?_; rintro e w2 ⟨rfl, hg2⟩; have hR2 := HR1.out.grw hg2; have gT : There w2 (w.heap.size + 1) 0 20 := hR2.there 0 20 (Nat.le_of_ble_eq_true rfl); have HR2 := Lib.hid hR2; clear hR2)
 have hK : Bk (w2.setCells (w.heap.size + 1) 0 (encObV b')) (w.heap.size + 1) 44 (encObV b').toArray := HR2.out.setAll' rfl rfl
 refine bodyPost_ret (v := .agg (encObV b').toArray) (results_cell_row Tryz.results114 _ _ _ _ _ _ _ rfl hK Tryz.underlying44 rfl (by kernel_rfl)) rfl ?_
 exact ⟨rfl, (hw1.trans hg2).setCells (by omega) _⟩
theorem first1 {b : ObV} {g c h d : Nat} {w : World} (hB : O1 w g b) (hb : b.bu = false) :
   Calls Tryz.prog 265 #[.slice (some ⟨h, 0, none⟩) 1 d, .slice (some ⟨g, 0, none⟩) 1 c, .slice none 0 0, .int .i64 0] w fun e w' => e = .returned (.tuple #[.int .i64 0, .bool false]) ∧ Grw w w' := by
 have HBU := Lib.hid hb; clear hb
 have gC : cellsAt w g 0 20 = (encObV b).toArray := Pk.cells hB rfl
 have gA : HaveAll w g 0 20 := Pk.have hB (Nat.le_refl _)
 clear hB
 go_enter Tryz.func265, Tryz.ntmps265
 go_upto_region 4 with (fail)
 refine wp_gen (fun xw => Grw w xw ∧ Bk xw w.heap.size 44 (encObV b).toArray) ⟨((Grw.refl w).alloc _).setCells (Nat.le_refl _) _, (Bk.new' (by simp)).setAll' rfl rfl⟩ ?_
 clear gA gC
 rintro w1 ⟨hw1, hB1⟩
 have c14 : w1.cell? ⟨w.heap.size, 14, none⟩ = some (.bool b.bu) := hB1.cell 14
 rw [HBU.out] at c14
 clear hB1
 go_wp2_with fail
 refine bodyPost_ret (v := .tuple #[.int .i64 0, .bool false]) (by simp [results, Tryz.results265, go_sem]) rfl ?_
 exact ⟨rfl, hw1⟩
theorem stop1 {b : ObV} {g c h d : Nat} {w : World} (hB : O1 w g b) (hb : b.bu = false) :
   Calls Tryz.prog 196 #[.slice (some ⟨h, 0, none⟩) 1 d, .slice (some ⟨g, 0, none⟩) 1 c, .slice none 0 0, .int .i64 0] w fun e w' => e = .returned (.tuple #[.agg (encObV b).toArray, .bool false]) ∧ Grw w w' := by
 have HBU := Lib.hid hb; clear hb
 have HB := Lib.hid hB
 go_enter Tryz.func196, Tryz.ntmps196
 go_upto_region 1 with (fail)
 refine wp_gen (fun xw => Grw w xw ∧ Bk xw w.heap.size 44 (encBodyV BodyV.d).toArray) ⟨(Grw.refl w).alloc _, Bk.new' (by simp)⟩ ?_
 rintro w1 ⟨hw1, hR1⟩
 have hB1 : O1 w1 g b := O1.grw hB hw1
 have gC : cellsAt w1 g 0 20 = (encObV b).toArray := Pk.cells hB1 rfl
 have gA : HaveAll w1 g 0 20 := Pk.have hB1 (Nat.le_refl _)
 have HR1 := Lib.hid hR1; clear hB hR1 hB1
 go_upto_region 4 with (go_at_call 57; refine (bodyClone0_x b _).mono ?_; rintro e w2 ⟨rfl, hg2⟩)
 refine wp_gen (fun xw => Grw w xw ∧ Bk xw w.heap.size 44 (encBodyV BodyV.d).toArray ∧ Bk xw w2.heap.size 44 (encObV b).toArray) ⟨((hw1.trans hg2).alloc _).setCells (by have := (hw1.trans hg2).size; omega) _, ((HR1.out.grw hg2).alloc _).farCells (by have := (HR1.out.grw hg2).lt; omega) _, (Bk.new' (by simp)).setAll' rfl rfl⟩ ?_
 have hsz2 := hg2.size
 clear gC gA HR1 hw1 hg2
 rintro w3 ⟨hw3, hR3, hT3⟩
 have HR3 := Lib.hid hR3; have HT3 := Lib.hid hT3; clear hR3 hT3
 go_upto_region 7 with (go_at_call 265; refine (first1 (O1.grw HB.out hw3) HBU.out).mono ?_; rintro e w4 ⟨rfl, hg4⟩)
 have hT4 := HT3.out.grw hg4; have hR4 := HR3.out.grw hg4
 have gA : HaveAll w4 w2.heap.size 0 20 := hT4.have 0 20 (Nat.le_of_ble_eq_true rfl)
 have gC : cellsAt w4 w2.heap.size 0 20 = (encObV b).toArray := hT4.cells' 0 20 _ rfl rfl
 have gT : There w4 w.heap.size 0 20 := hR4.there 0 20 (Nat.le_of_ble_eq_true rfl)
 have hw4 := hw3.trans hg4
 have HR4 := Lib.hid hR4; clear hT4 hR4 HR3 HT3 hw3 hg4 hsz2
 go_wp2_with fail
 have hK : Bk (w4.setCells w.heap.size 0 (encObV b)) w.heap.size 44 (encObV b).toArray := HR4.out.setAll' rfl rfl
 refine bodyPost_ret (v := .tuple #[.agg (encObV b).toArray, .bool false]) (results_cell2 Tryz.results196 _ _ _ _ _ _ _ rfl hK Tryz.underlying44 rfl (by kernel_rfl)) rfl ?_
 exact ⟨rfl, hw4.setCells (by omega) _⟩
theorem stopAll1 {b : ObV} {g c h d : Nat} {w : World} (hB : O1 w g b) (hb : b.bu = false) :
   Calls Tryz.prog 116 #[.slice (some ⟨h, 0, none⟩) 1 d, .slice (some ⟨g, 0, none⟩) 1 c, .slice none 0 0] w fun e w' => ∃ g' c', e = .returned (.tuple #[.slice (some ⟨g', 0, none⟩) 1 c', .slice none 0 0]) ∧ Grw w w' ∧ w.heap.size ≤ g' ∧ O1 w' g' b := by
 have HBU := Lib.hid hb; clear hb
 have HB := Lib.hid hB; clear hB
 go_enter Tryz.func116, Tryz.ntmps116
 go_wp2_with fail
 refine wp_loop_rounds 2 ?_
 rw [rounds_succ]
 go_wp2_with fail
 (go_at_call 196; refine (stop1 HB.out HBU.out).mono ?_; rintro e w1 ⟨rfl, hg1⟩)
 go_upto_region 7 with (fail)
 --A
 refine wp_gen (fun xw => Grw w xw ∧ Bk xw w1.heap.size 44 (encObV b).toArray) ⟨(hg1.alloc _).setCells hg1.size _, (Bk.new' (by simp)).setAll' rfl rfl⟩ ?_
 have hsz1 := hg1.size
 clear hg1
 rintro w2 ⟨hw2, hT2⟩
 have hsz2 := hw2.size
 have gA : HaveAll w2 w1.heap.size 0 20 := hT2.have 0 20 (Nat.le_of_ble_eq_true rfl)
 have gC : cellsAt w2 w1.heap.size 0 20 = (encObV b).toArray := hT2.cells' 0 20 _ rfl rfl
 have hO0 : OwnL 44 20 encBodyV w2 w.heap.size (.slice none 0 0) ([] : List BodyV) := OwnL.nil _ _ _ _ _
 have HO0 := Lib.hid hO0; clear hO0 hT2
 go_upto_region 8 with (at_builtin; refine wpList_push (enc := encBodyV) (z := .agg (encBodyV BodyV.d).toArray) (bytes := 152) (fun _ => rfl) encBody_one w.heap.size rfl _ _ rfl Tryz.underlying26 infoBody rfl (by decide) (by decide) (.slice none 0 0) [] b.body _ rfl rfl rfl HO0.out hsz2 (by simp) ?_; intro v1 w7 hO7 hC7 _; have hg27 : Grw w2 w7 := (hC7.mono (S' := fun _ => False) (by simp [Value.ownBlock])).toGrw; obtain ⟨gk, ck, rfl, hgk, hPb⟩ := OwnL.pk (enc := encBodyV) (size := 20) (fun _ => rfl) hO7 (by simp); have hO8 : O1 w7 gk b := (by simpa [O1, encOb_body] using hPb); have HO8 := Lib.hid hO8; clear hPb hO7 hC7 HO0 gA gC hO8; rw [show ([] ++ [b.body] : List BodyV).length = 1 from rfl])
 --B
 go_wp2_with fail
 rw [rounds_succ]
 go_wp2_with fail
 refine bodyPost_ret (v := .tuple #[.slice (some ⟨gk, 0, none⟩) 1 ck, .slice none 0 0]) (by simp [results, Tryz.results116, go_sem]) rfl ?_
 exact ⟨gk, ck, rfl, hw2.trans hg27, hgk, HO8.out⟩
theorem call_114 (args : Array Value) (W : World) : (callFunc 114 args).run Tryz.prog W = .ok (.enter 114 args) W := by simp [go_sem, callFunc, Tryz.func114]; rfl
theorem eachEnd1 {g c wb : Nat} {b b' : ObV} {fr : Int} {w : World} (h : B1 w g b) (hc : ∀ W, Grw w W → Calls Tryz.prog 114 #[.agg (encObV b).toArray, .pointer (some ⟨wb, 0, none⟩)] W fun e w' => e = .returned (.agg (encObV b').toArray) ∧ Grw W w') :
   Calls Tryz.prog 113 #[.agg (encW1 g c fr).toArray, .func (.func 114) #[] #[.pointer (some ⟨wb, 0, none⟩)]] w fun e w' => ∃ g' c', e = .returned (.agg (encW1 g' c' fr).toArray) ∧ Grw w w' ∧ w.heap.size ≤ g' ∧ O1 w' g' b' := by
 have H := Lib.hid h; clear h
 have HC := Lib.hid hc; clear hc
 have hc1 := call_114 #[.agg (encObV b).toArray, .pointer (some ⟨wb, 0, none⟩)]
 simp only [encObV_eq] at hc1
 have HC1 := Lib.hid hc1; clear hc1
 go_enter Tryz.func113, Tryz.ntmps113
 go_upto_region 1 with (fail)
 refine wp_gen (fun xw => Grw w xw ∧ Bk xw w.heap.size 31 (encW1 g c fr).toArray ∧ Bk xw (w.heap.size + 1) 31 (encWorldV WorldV.d).toArray) ⟨((Grw.refl w).alloc _).alloc _, (Bk.new' (by simp)).alloc _, Bk.new' (by simp)⟩ ?_
 rintro w1 ⟨hw1, hB1, hR1⟩
 have gA : HaveAll w1 (w.heap.size) 0 11 := hB1.have 0 11 (Nat.le_of_ble_eq_true rfl)
 have gC : cellsAt w1 (w.heap.size) 0 11 = (encW1 g c fr).toArray := hB1.cells' 0 11 _ rfl rfl
 have HB1 := Lib.hid hB1; have HR1 := Lib.hid hR1; clear hB1 hR1
 go_upto_region 2 with (go_at_call 24; refine (clone1 (Sl.grw H.out hw1)).mono ?_; rintro e w3 ⟨g1, c1, rfl, hg3, hgg, hO3⟩; have hB3 := HB1.out.grw hg3; have hT3 : There w3 w.heap.size 0 11 := hB3.there 0 11 (Nat.le_of_ble_eq_true rfl); have HB3 := Lib.hid hB3; clear hB3)
 have hw3 := hw1.trans hg3
 have hn0 := Pk.apart hO3 HB3.out.pk (by decide); have hsz1 := hw1.size; have hsz3 := hg3.size; have hR3' := HR1.out.grw hg3; have hl2 := hR3'.lt
 refine wp_gen (fun xw => Grw w xw ∧ Bk xw w.heap.size 31 (encW1 g1 c1 fr).toArray ∧ Bk xw (w.heap.size + 1) 31 (encWorldV WorldV.d).toArray ∧ O1 xw g1 b) ⟨hw3.setCells (by omega) _, HB3.out.setAll' rfl rfl, hR3'.farCells (by omega) _, Pk.farCells hO3 (by omega) _⟩ ?_
 clear gA gC HB1 HR1 HB3 hT3 hO3 hR3' hg3 hw3
 rintro w4 ⟨hw4, hB4, hR4, hO4⟩
 have hgw : w.heap.size ≤ g1 := by omega
 have c5 : w4.cell? ⟨w.heap.size, 5, none⟩ = some (.slice (some ⟨g1, 0, none⟩) 1 c1) := hB4.cell 5
 have gA : HaveAll w4 g1 0 20 := Pk.have hO4 (Nat.le_refl _)
 have gC : cellsAt w4 g1 0 20 = (encObV b).toArray := Pk.cells hO4 rfl
 have HB4 := Lib.hid hB4; have HR4 := Lib.hid hR4; have HO4 := Lib.hid hO4; clear hB4 hR4 hO4
 go_wp2_with fail
 refine wp_loop_rounds 2 ?_
 rw [rounds_succ]
 go_upto_region 5 with (fail)
 --A
 refine wp_gen (fun xw => Grw w xw ∧ Bk xw w.heap.size 31 (encW1 g1 c1 fr).toArray ∧ Bk xw (w.heap.size + 1) 31 (encWorldV WorldV.d).toArray ∧ O1 xw g1 b ∧ Bk xw w4.heap.size 44 (encObV b).toArray) ⟨(hw4.alloc _).setCells hw4.size _, (HB4.out.alloc _).farCells (by have := HB4.out.lt; omega) _, (HR4.out.alloc _).farCells (by have := HR4.out.lt; omega) _, Pk.farCells (O1.grw HO4.out ((Grw.refl w4).alloc _)) (by have := Pk.lt HO4.out; omega) _, (Bk.new' (by simp)).setAll' rfl rfl⟩ ?_
 clear c5 gA gC HB4 HR4 HO4 hw4
 rintro w5 ⟨hw5, hB5, hR5, hO5, hT5⟩
 have c5 : w5.cell? ⟨w.heap.size, 5, none⟩ = some (.slice (some ⟨g1, 0, none⟩) 1 c1) := hB5.cell 5
 have gA : HaveAll w5 w4.heap.size 0 20 := hT5.have 0 20 (Nat.le_of_ble_eq_true rfl)
 have gC : cellsAt w5 w4.heap.size 0 20 = (encObV b).toArray := hT5.cells' 0 20 _ rfl rfl
 have hlB5 := hB5.lt; have hlT5 := hT5.lt; have hlO5 := Pk.lt hO5
 have HB5 := Lib.hid hB5; have HR5 := Lib.hid hR5; have HO5 := Lib.hid hO5; clear hB5 hR5 hO5 hT5
 refine wp_region_flowA 7 (by kernel_rfl) (by kernel_rfl) ?_
 simp only [tD]
 have hc1 := HC1.out
 iterate 5 (refine wpQ_step (fun K hK => ?_); go_simp; refine hK _ ?_; clear hK K)
 refine wpQ_step (fun K hK => ?_); go_simp; apply Exists.intro; refine ⟨fun _ => ?_, hK _ ?_⟩
 · exact HC.out _ (hw5.trans (Grw.mk _ _))
 clear hK K
 refine wpQ_step (fun K hK => ?_); go_simp; refine hK _ ?_; clear hK K
 refine wpQ_nil ?_
 clear hc1
 intro w6 hg6
 --B
 have hO6 := O1.grw HO5.out hg6; have hB6 := HB5.out.grw hg6; have hR6 := HR5.out.grw hg6; have hw6 := hw5.trans hg6
 have gT : There w6 g1 0 20 := Pk.there hO6 (Nat.le_refl _)
 have hn1 := Pk.apart hO6 hB6.pk (by decide); have hn2 := Pk.apart hO6 hR6.pk (by decide)
 clear c5 gA gC HB5 HR5 HO5 hg6 hw5
 go_upto_region 6 with (fail)
 refine wp_gen (fun xw => Grw w xw ∧ Bk xw w.heap.size 31 (encW1 g1 c1 fr).toArray ∧ Bk xw (w.heap.size + 1) 31 (encWorldV WorldV.d).toArray ∧ O1 xw g1 b') ⟨hw6.setCells (by omega) _, hB6.farCells (by omega) _, hR6.farCells (by omega) _, Pk.setAll hO6 rfl rfl⟩ ?_
 clear gT hO6 hB6 hR6 hw6
 rintro w7 ⟨hw7, hB7, hR7, hO7⟩
 have gA : HaveAll w7 w.heap.size 0 11 := hB7.have 0 11 (Nat.le_of_ble_eq_true rfl)
 have gC : cellsAt w7 w.heap.size 0 11 = (encW1 g1 c1 fr).toArray := hB7.cells' 0 11 _ rfl rfl
 have gT : There w7 (w.heap.size + 1) 0 11 := hR7.there 0 11 (Nat.le_of_ble_eq_true rfl)
 have HR7 := Lib.hid hR7; have HO7 := Lib.hid hO7; clear hB7 hR7 hO7
 go_wp2_with fail
 rw [rounds_succ]
 go_wp2_with fail
 have hK : Bk (w7.setCells (w.heap.size + 1) 0 (wl g1 c1 fr)) (w.heap.size + 1) 31 (wl g1 c1 fr).toArray := HR7.out.setAll' rfl rfl
 refine bodyPost_ret (v := .agg (wl g1 c1 fr).toArray) (results_cell_row Tryz.results113 _ _ _ _ _ _ _ rfl hK Tryz.underlying31 rfl (by kernel_rfl)) rfl ?_
 exact ⟨g1, c1, rfl, hw7.setCells (by omega) _, by omega, Pk.farCells HO7.out (by omega) _⟩
theorem call_10 (args : Array Value) (W : World) : (callFunc 10 args).run Tryz.prog W = .ok (.enter 10 args) W := by simp [go_sem, callFunc, Tryz.func10]; rfl
theorem eachClear1 {g c : Nat} {b b' : ObV} {fr : Int} {w : World} (h : B1 w g b) (hc : ∀ W, Grw w W → Calls Tryz.prog 10 #[.agg (encObV b).toArray] W fun e w' => e = .returned (.agg (encObV b').toArray) ∧ Grw W w') :
   Calls Tryz.prog 113 #[.agg (encW1 g c fr).toArray, .func (.func 10) #[] #[]] w fun e w' => ∃ g' c', e = .returned (.agg (encW1 g' c' fr).toArray) ∧ Grw w w' ∧ w.heap.size ≤ g' ∧ O1 w' g' b' := by
 have H := Lib.hid h; clear h
 have HC := Lib.hid hc; clear hc
 have hc1 := call_10 #[.agg (encObV b).toArray]
 simp only [encObV_eq] at hc1
 have HC1 := Lib.hid hc1; clear hc1
 go_enter Tryz.func113, Tryz.ntmps113
 go_upto_region 1 with (fail)
 refine wp_gen (fun xw => Grw w xw ∧ Bk xw w.heap.size 31 (encW1 g c fr).toArray ∧ Bk xw (w.heap.size + 1) 31 (encWorldV WorldV.d).toArray) ⟨((Grw.refl w).alloc _).alloc _, (Bk.new' (by simp)).alloc _, Bk.new' (by simp)⟩ ?_
 rintro w1 ⟨hw1, hB1, hR1⟩
 have gA : HaveAll w1 (w.heap.size) 0 11 := hB1.have 0 11 (Nat.le_of_ble_eq_true rfl)
 have gC : cellsAt w1 (w.heap.size) 0 11 = (encW1 g c fr).toArray := hB1.cells' 0 11 _ rfl rfl
 have HB1 := Lib.hid hB1; have HR1 := Lib.hid hR1; clear hB1 hR1
 go_upto_region 2 with (go_at_call 24; refine (clone1 (Sl.grw H.out hw1)).mono ?_; rintro e w3 ⟨g1, c1, rfl, hg3, hgg, hO3⟩; have hB3 := HB1.out.grw hg3; have hT3 : There w3 w.heap.size 0 11 := hB3.there 0 11 (Nat.le_of_ble_eq_true rfl); have HB3 := Lib.hid hB3; clear hB3)
 have hw3 := hw1.trans hg3
 have hn0 := Pk.apart hO3 HB3.out.pk (by decide); have hsz1 := hw1.size; have hsz3 := hg3.size; have hR3' := HR1.out.grw hg3; have hl2 := hR3'.lt
 refine wp_gen (fun xw => Grw w xw ∧ Bk xw w.heap.size 31 (encW1 g1 c1 fr).toArray ∧ Bk xw (w.heap.size + 1) 31 (encWorldV WorldV.d).toArray ∧ O1 xw g1 b) ⟨hw3.setCells (by omega) _, HB3.out.setAll' rfl rfl, hR3'.farCells (by omega) _, Pk.farCells hO3 (by omega) _⟩ ?_
 clear gA gC HB1 HR1 HB3 hT3 hO3 hR3' hg3 hw3
 rintro w4 ⟨hw4, hB4, hR4, hO4⟩
 have hgw : w.heap.size ≤ g1 := by omega
 have c5 : w4.cell? ⟨w.heap.size, 5, none⟩ = some (.slice (some ⟨g1, 0, none⟩) 1 c1) := hB4.cell 5
 have gA : HaveAll w4 g1 0 20 := Pk.have hO4 (Nat.le_refl _)
 have gC : cellsAt w4 g1 0 20 = (encObV b).toArray := Pk.cells hO4 rfl
 have HB4 := Lib.hid hB4; have HR4 := Lib.hid hR4; have HO4 := Lib.hid hO4; clear hB4 hR4 hO4
 go_wp2_with fail
 refine wp_loop_rounds 2 ?_
 rw [rounds_succ]
 go_upto_region 5 with (fail)
 --A
 refine wp_gen (fun xw => Grw w xw ∧ Bk xw w.heap.size 31 (encW1 g1 c1 fr).toArray ∧ Bk xw (w.heap.size + 1) 31 (encWorldV WorldV.d).toArray ∧ O1 xw g1 b ∧ Bk xw w4.heap.size 44 (encObV b).toArray) ⟨(hw4.alloc _).setCells hw4.size _, (HB4.out.alloc _).farCells (by have := HB4.out.lt; omega) _, (HR4.out.alloc _).farCells (by have := HR4.out.lt; omega) _, Pk.farCells (O1.grw HO4.out ((Grw.refl w4).alloc _)) (by have := Pk.lt HO4.out; omega) _, (Bk.new' (by simp)).setAll' rfl rfl⟩ ?_
 clear c5 gA gC HB4 HR4 HO4 hw4
 rintro w5 ⟨hw5, hB5, hR5, hO5, hT5⟩
 have c5 : w5.cell? ⟨w.heap.size, 5, none⟩ = some (.slice (some ⟨g1, 0, none⟩) 1 c1) := hB5.cell 5
 have gA : HaveAll w5 w4.heap.size 0 20 := hT5.have 0 20 (Nat.le_of_ble_eq_true rfl)
 have gC : cellsAt w5 w4.heap.size 0 20 = (encObV b).toArray := hT5.cells' 0 20 _ rfl rfl
 have hlB5 := hB5.lt; have hlT5 := hT5.lt; have hlO5 := Pk.lt hO5
 have HB5 := Lib.hid hB5; have HR5 := Lib.hid hR5; have HO5 := Lib.hid hO5; clear hB5 hR5 hO5 hT5
 refine wp_region_flowA 7 (by kernel_rfl) (by kernel_rfl) ?_
 simp only [tD]
 have hc1 := HC1.out
 iterate 5 (refine wpQ_step (fun K hK => ?_); go_simp; refine hK _ ?_; clear hK K)
 refine wpQ_step (fun K hK => ?_); go_simp; apply Exists.intro; refine ⟨fun _ => ?_, hK _ ?_⟩
 · exact HC.out _ (hw5.trans (Grw.mk _ _))
 clear hK K
 refine wpQ_step (fun K hK => ?_); go_simp; refine hK _ ?_; clear hK K
 refine wpQ_nil ?_
 clear hc1
 intro w6 hg6
 --B
 have hO6 := O1.grw HO5.out hg6; have hB6 := HB5.out.grw hg6; have hR6 := HR5.out.grw hg6; have hw6 := hw5.trans hg6
 have gT : There w6 g1 0 20 := Pk.there hO6 (Nat.le_refl _)
 have hn1 := Pk.apart hO6 hB6.pk (by decide); have hn2 := Pk.apart hO6 hR6.pk (by decide)
 clear c5 gA gC HB5 HR5 HO5 hg6 hw5
 go_upto_region 6 with (fail)
 refine wp_gen (fun xw => Grw w xw ∧ Bk xw w.heap.size 31 (encW1 g1 c1 fr).toArray ∧ Bk xw (w.heap.size + 1) 31 (encWorldV WorldV.d).toArray ∧ O1 xw g1 b') ⟨hw6.setCells (by omega) _, hB6.farCells (by omega) _, hR6.farCells (by omega) _, Pk.setAll hO6 rfl rfl⟩ ?_
 clear gT hO6 hB6 hR6 hw6
 rintro w7 ⟨hw7, hB7, hR7, hO7⟩
 have gA : HaveAll w7 w.heap.size 0 11 := hB7.have 0 11 (Nat.le_of_ble_eq_true rfl)
 have gC : cellsAt w7 w.heap.size 0 11 = (encW1 g1 c1 fr).toArray := hB7.cells' 0 11 _ rfl rfl
 have gT : There w7 (w.heap.size + 1) 0 11 := hR7.there 0 11 (Nat.le_of_ble_eq_true rfl)
 have HR7 := Lib.hid hR7; have HO7 := Lib.hid hO7; clear hB7 hR7 hO7
 go_wp2_with fail
 rw [rounds_succ]
 go_wp2_with fail
 have hK : Bk (w7.setCells (w.heap.size + 1) 0 (wl g1 c1 fr)) (w.heap.size + 1) 31 (wl g1 c1 fr).toArray := HR7.out.setAll' rfl rfl
 refine bodyPost_ret (v := .agg (wl g1 c1 fr).toArray) (results_cell_row Tryz.results113 _ _ _ _ _ _ _ rfl hK Tryz.underlying31 rfl (by kernel_rfl)) rfl ?_
 exact ⟨g1, c1, rfl, hw7.setCells (by omega) _, by omega, Pk.farCells HO7.out (by omega) _⟩
theorem deleteNil (fv : Value) (w : World) : Calls Tryz.prog 201 #[.slice none 0 0, fv] w fun e w' => e = .returned (.slice none 0 0) ∧ w = w' := by
 have h272 : ∀ W, Calls Tryz.prog 272 #[.slice none 0 0, fv] W fun e w' => e = .returned (.int .i64 (-1)) ∧ W = w' := by
   intro W
   go_enter Tryz.func272, Tryz.ntmps272
   go_wp2_with fail
   refine wp_loop_rounds 1 ?_
   rw [rounds_succ]
   go_wp2_with fail
   go_ret
   exact ⟨rfl, rfl⟩
 go_enter Tryz.func201, Tryz.ntmps201
 go_wp2_with (go_at_call 272; refine (h272 _).mono ?_; rintro e w1 ⟨rfl, rfl⟩)
 go_ret
 exact ⟨rfl, rfl⟩
theorem breakJoints1 {g c : Nat} {fr : Int} {w : World} :
   Calls Tryz.prog 118 #[.agg (encW1 g c fr).toArray] w fun e w' => e = .returned (.tuple #[.agg (encW1 g c fr).toArray, .slice none 0 0]) ∧ Grw w w' := by
 go_enter Tryz.func118, Tryz.ntmps118
 go_upto_region 2 with (fail)
 refine wp_gen (fun xw => Grw w xw ∧ Bk xw w.heap.size 31 (encW1 g c fr).toArray ∧ Bk xw (w.heap.size + 1) 31 (encWorldV WorldV.d).toArray ∧ Bk xw (w.heap.size + 2) 71 #[.slice none 0 0]) ⟨(((Grw.refl w).alloc _).alloc _).alloc _, ((Bk.new' (by simp)).alloc _).alloc _, (Bk.new' (by simp)).alloc _, Bk.new' (by simp)⟩ ?_
 rintro w1 ⟨hw1, hB1, hR1, hL1⟩
 have c6 : w1.cell? ⟨w.heap.size, 6, none⟩ = some (.slice none 0 0) := hB1.cell 6
 have cf := hB1.frozen
 have hlb := hB1.lt
 have HB1 := Lib.hid hB1; have HR1 := Lib.hid hR1; have HL1 := Lib.hid hL1; clear hB1 hR1 hL1
 go_upto_region 3 with (first
   | (go_at_call 54; refine (cloneNil_54 _).mono ?_; rintro e w2 ⟨rfl, rfl⟩)
   | (go_at_call 201; refine (deleteNil _ _).mono ?_; rintro e w2 ⟨rfl, rfl⟩))
 refine wp_gen (fun xw => Grw w xw ∧ Bk xw w.heap.size 31 (encW1 g c fr).toArray ∧ Bk xw (w.heap.size + 1) 31 (encWorldV WorldV.d).toArray ∧ Bk xw (w.heap.size + 2) 71 #[.slice none 0 0]) ⟨hw1.setAt (by omega) _, HB1.out.set 6 (.slice none 0 0), HR1.out.far (by omega) _, HL1.out.far (by omega) _⟩ ?_
 clear c6 cf HB1 HR1 HL1 hw1 hlb
 rintro w2 ⟨hw2, hB2, hR2, hL2⟩
 have hlr := hR2.lt; have hlb := hB2.lt
 have HB2 := Lib.hid hB2; have HR2 := Lib.hid hR2; have HL2 := Lib.hid hL2; clear hB2 hR2 hL2
 refine wp_region_flowS (S := fun k => k = w.heap.size + 1) 2 (by kernel_rfl) (by kernel_rfl) ?_
 simp only [tD]
 refine wpS_want rfl (fun K hK => ?_); apply Exists.intro; refine ⟨fun w' hS => ?_, ?_⟩
 · have hX' := HB2.out.keep hS (by omega)
   have gA : HaveAll w' (w.heap.size) 0 11 := hX'.have 0 11 (Nat.le_of_ble_eq_true rfl)
   have gC : cellsAt w' (w.heap.size) 0 11 = (encW1 g c fr).toArray := hX'.cells' 0 11 _ rfl rfl
   clear hX'
   go_simp
   rfl
 go_simp; refine hK _ ?_; clear hK K
 refine wpS_want rfl (fun K hK => ?_); apply Exists.intro; refine ⟨fun w' hS => ?_, ?_⟩
 · have hX' := HL2.out.keep hS (by omega)
   have l0 : w'.cell? ⟨w.heap.size + 2, 0, none⟩ = some (.slice none 0 0) := hX'.cell 0
   clear hX'
   go_simp
   rfl
 go_simp; refine hK _ ?_; clear hK K
 refine wpS_nil ?_
 intro w3 hg3
 refine okS_step (fun w4 hg4 K hK => ?_)
 have hR4 := HR2.out.grw (hg3.trans hg4)
 have gT : There w4 (w.heap.size + 1) 0 11 := hR4.there 0 11 (Nat.le_of_ble_eq_true rfl)
 go_simp
 --A
 have hO5 : OnlyChg (fun k => k = w.heap.size + 1) w2 (w4.setCells (w.heap.size + 1) 0 (wl g c fr)) := OnlyChg.setCells1 _ (OnlyChg.of_grw (hg3.trans hg4))
 have hR5 : Bk (w4.setCells (w.heap.size + 1) 0 (wl g c fr)) (w.heap.size + 1) 31 (wl g c fr).toArray := hR4.setAll' rfl rfl
 refine hK _ _ hO5 ?_; clear hK K
 clear gT hR4 hg3 hg4
 refine okS_step (fun w6 hg6 K hK => ?_)
 go_simp
 refine hK _ _ (hO5.grw hg6) ?_; clear hK K
 refine okS_nil (fun w7 hg7 => ?_)
 have hO7 := (hO5.grw hg6).grw hg7
 have hK := (hR5.grw hg6).grw hg7
 have hw7 : Grw w w7 := OnlyChg.near (S := fun k => w.heap.size ≤ k) ((OnlyChg.of_grw hw2).trans (hO7.mono fun k _ hk => by omega)) fun k h => h
 clear hO5 hR5 hO7 hg6 hg7
 go_wp2_with fail
 refine bodyPost_ret (v := .tuple #[.agg (wl g c fr).toArray, .slice none 0 0]) (results_cell2 Tryz.results118 _ _ _ _ _ _ _ rfl hK Tryz.underlying31 rfl (by kernel_rfl)) rfl ?_
 exact ⟨rfl, hw7⟩
theorem overlaps1 {g c : Nat} {b : ObV} {fr : Int} {w : World} (h : B1 w g b) (hv : validateE (W1 g c b fr) = 0) (hid : (Lit.int .i64 b.id).wf = true) :
   Calls Tryz.prog 119 #[.agg (encW1 g c fr).toArray] w fun e w' => e = .returned (.slice none 0 0) ∧ Grw w w' := by
 have H := Lib.hid h; clear h
 have HV := Lib.hid hv; clear hv
 have HID := Lib.hid hid; clear hid
 go_enter Tryz.func119, Tryz.ntmps119
 go_upto_region 1 with (fail)
 refine wp_gen (fun xw => Grw w xw ∧ Bk xw w.heap.size 31 (encW1 g c fr).toArray) ⟨(Grw.refl w).alloc _, Bk.new' (by simp)⟩ ?_
 rintro w1 ⟨hw1, hB1⟩
 have gA : HaveAll w1 (w.heap.size) 0 11 := hB1.have 0 11 (Nat.le_of_ble_eq_true rfl)
 have gC : cellsAt w1 (w.heap.size) 0 11 = (encW1 g c fr).toArray := hB1.cells' 0 11 _ rfl rfl
 have HB1 := Lib.hid hB1; clear hB1
 go_upto_region 4 with (go_at_call 5; refine (validate1 (b := b) (Sl.grw H.out hw1) HV.out).mono ?_; rintro e w2 ⟨rfl, hg2⟩)
 have hB2 := HB1.out.grw hg2; have hw2 := hw1.trans hg2
 have c5 : w2.cell? ⟨w.heap.size, 5, none⟩ = some (.slice (some ⟨g, 0, none⟩) 1 c) := hB2.cell 5
 have c6 : w2.cell? ⟨w.heap.size, 6, none⟩ = some (.slice none 0 0) := hB2.cell 6
 clear gA gC HB1 hw1 hg2 hB2
 go_wp2_with (go_at_call 167; refine (findPairs0 _ c b _ (Sl.grw H.out hw2) HID.out).mono ?_; rintro e w3 ⟨rfl, hg3⟩)
 have hw3 := hw2.trans hg3
 clear c5 c6 hw2 hg3
 refine wp_loop_rounds 1 ?_
 rw [rounds_succ]
 go_wp2_with fail
 go_ret
 exact ⟨rfl, hw3⟩
theorem setNil (w : World) : Calls Tryz.prog 209 #[.slice none 0 0] w fun e w' => ∃ v, e = .returned v ∧ Grw w w' := by
 have hmm := @run_makeMap Tryz.prog
 go_enter Tryz.func209, Tryz.ntmps209
 go_wp2_with fail
 refine wp_loop_rounds 1 ?_
 rw [rounds_succ]
 go_wp2_with fail
 go_ret
 exact ⟨_, rfl, by (repeat with_reducible first | exact .refl _ | assumption | refine .setAt ?_ (by first | omega | simp <;> omega) _ | refine .setCells ?_ (by first | omega | simp <;> omega) _ | refine .alloc ?_ _ | refine .drewN ?_ _ | refine .drew ?_ | refine .trans ?_ (by assumption))⟩
theorem addedNil (v : Value) (k : Int) (w : World) : Calls Tryz.prog 208 #[.slice none 0 0, v, .int .i64 k] w fun e w' => e = .returned (.slice none 0 0) ∧ w = w' := by
 go_enter Tryz.func208, Tryz.ntmps208
 go_wp2_with fail
 refine wp_loop_rounds 1 ?_
 rw [rounds_succ]
 go_wp2_with fail
 go_ret
 exact ⟨rfl, rfl⟩
theorem sEventsNil (w : World) : Calls Tryz.prog 121 #[.slice none 0 0, .slice none 0 0] w fun e w' => e = .returned (.slice none 0 0) ∧ Grw w w' := by
 go_enter Tryz.func121, Tryz.ntmps121
 go_wp2_with fail
 (go_at_call 209; refine (setNil _).mono ?_; rintro e w1 ⟨v, rfl, hg1⟩)
 go_wp2_with fail
 (go_at_call 208; refine (addedNil _ _ _).mono ?_; rintro e w2 ⟨rfl, rfl⟩)
 go_wp2_with fail
 (go_at_call 209; refine (setNil _).mono ?_; rintro e w3 ⟨v3, rfl, hg3⟩)
 go_wp2_with fail
 (go_at_call 208; refine (addedNil _ _ _).mono ?_; rintro e w4 ⟨rfl, rfl⟩)
 go_wp2_with (at_builtin; refine wpList_nilnil rfl _ _ rfl Tryz.underlying71 (by kernel_rfl) rfl rfl ?_)
 go_ret
 exact ⟨rfl, hg1.trans hg3⟩
theorem growEv0 (w : World) : Calls Tryz.prog 207 #[.slice none 0 0, .int .i64 0] w fun e w' => e = .returned (.slice none 0 0) ∧ w = w' := by
 go_enter Tryz.func207, Tryz.ntmps207
 go_wp2_with fail
 go_ret
 exact ⟨rfl, rfl⟩
theorem concatNil {g : Nat} {w : World} (h : Bk w g 71 #[.slice none 0 0, .slice none 0 0, .slice none 0 0]) : Calls Tryz.prog 120 #[.slice (some ⟨g, 0, none⟩) 3 3] w fun e w' => e = .returned (.slice none 0 0) ∧ w = w' := by
 have h0 : w.cell? ⟨g, 0, none⟩ = some (.slice none 0 0) := h.cell 0
 have h1 : w.cell? ⟨g, 1, none⟩ = some (.slice none 0 0) := h.cell 1
 have h2 : w.cell? ⟨g, 2, none⟩ = some (.slice none 0 0) := h.cell 2
 clear h
 go_enter Tryz.func120, Tryz.ntmps120
 go_wp2_with fail
 refine wp_loop_rounds 4 ?_
 iterate 4 (rw [rounds_succ]; go_wp2_with fail)
 (go_at_call 207; refine (growEv0 _).mono ?_; rintro e w1 ⟨rfl, rfl⟩)
 go_wp2_with fail
 refine wp_loop_rounds 4 ?_
 iterate 3 (rw [rounds_succ]; go_wp2_with (at_builtin; refine wpList_nilnil rfl _ _ rfl Tryz.underlying71 (by kernel_rfl) rfl rfl ?_))
 rw [rounds_succ]
 go_wp2_with fail
 go_ret
 exact ⟨rfl, rfl⟩
theorem end1 {g c : Nat} {b b1 : ObV} {w : World} (h : B1 w g b) (hv : ∀ g c, validateE (W1 g c b 0) = 0) (hv1 : ∀ g c, validateE (W1 g c b1 0) = 0) (hk : b.kd = 3) (hid : (Lit.int .i64 b1.id).wf = true)
   (hP : ∀ W, Calls Tryz.prog 115 #[.agg (encObV b).toArray, .int .i64 8192] W fun e w' => e = .returned (.agg (encObV b1).toArray) ∧ Grw W w')
   (hbu : b1.bu = false) (hsl : b1.sl = false) (hslow : isSlow0B b1 = false) (hidl : b1.idl = 0)
   (hC : ∀ W, Calls Tryz.prog 10 #[.agg (encObV b1).toArray] W fun e w' => e = .returned (.agg (encObV b1).toArray) ∧ Grw W w') :
   Calls Tryz.prog 52 #[.agg (encW1 g c 0).toArray] w fun e w' => ∃ g' c', e = .returned (.tuple #[.agg (encW1 g' c' 1).toArray, .slice none 0 0]) ∧ Grw w w' ∧ O1 w' g' b1 := by
 have H := Lib.hid h; have HV := Lib.hid hv; have HV1 := Lib.hid hv1; have HK := Lib.hid hk; have HID := Lib.hid hid; have HP := Lib.hid hP; have HBU := Lib.hid hbu; have HSL := Lib.hid hsl; have HLOW := Lib.hid hslow; have HIDL := Lib.hid hidl; have HCF := Lib.hid hC
 clear h hv hv1 hk hid hP hbu hsl hslow hidl hC
 go_enter Tryz.func52, Tryz.ntmps52
 go_upto_region 1 with (fail)
 refine wp_gen (fun xw => Grw w xw ∧ Bk xw w.heap.size 31 (encW1 g c 0).toArray ∧ Bk xw (w.heap.size + 1) 31 (encWorldV WorldV.d).toArray) ⟨((Grw.refl w).alloc _).alloc _, (Bk.new' (by simp)).alloc _, Bk.new' (by simp)⟩ ?_
 rintro w1 ⟨hw1, hB1, hR1⟩
 have gA : HaveAll w1 (w.heap.size) 0 11 := hB1.have 0 11 (Nat.le_of_ble_eq_true rfl)
 have gC : cellsAt w1 (w.heap.size) 0 11 = (encW1 g c 0).toArray := hB1.cells' 0 11 _ rfl rfl
 have HB1 := Lib.hid hB1; have HR1 := Lib.hid hR1; clear hB1 hR1
 go_upto_region 3 with (go_at_call 5; refine (validate1 (b := b) (Sl.grw H.out hw1) (HV.out _ _)).mono ?_; rintro e w2 ⟨rfl, hg2⟩)
 have hw2 := hw1.trans hg2
 have hB2 := HB1.out.grw hg2; have hR2 := HR1.out.grw hg2
 clear gA gC HB1 HR1 hg2 hw1
 have gA : HaveAll w2 (w.heap.size) 0 11 := hB2.have 0 11 (Nat.le_of_ble_eq_true rfl)
 have gC : cellsAt w2 (w.heap.size) 0 11 = (encW1 g c 0).toArray := hB2.cells' 0 11 _ rfl rfl
 have HB2 := Lib.hid hB2; have HR2 := Lib.hid hR2; clear hB2 hR2
 go_upto_region 4 with (go_at_call 103; refine (build1 (Sl.grw H.out hw2) (HV.out _ _) HK.out).mono ?_; rintro e w3 ⟨gi, ci, gb, cb, rfl, hg3, hI3⟩)
 --A
 have hw3 := hw2.trans hg3
 have hB3 := HB2.out.grw hg3; have hR3 := HR2.out.grw hg3
 clear gA gC HB2 HR2 hg3 hw2
 have gA : HaveAll w3 (w.heap.size) 0 11 := hB3.have 0 11 (Nat.le_of_ble_eq_true rfl)
 have gC : cellsAt w3 (w.heap.size) 0 11 = (encW1 g c 0).toArray := hB3.cells' 0 11 _ rfl rfl
 have HB3 := Lib.hid hB3; have HR3 := Lib.hid hR3; have HI3 := Lib.hid hI3; clear hB3 hR3 hI3
 go_upto_region 5 with (go_at_call 113; refine (eachEnd1 (b := b) (b' := b1) (wb := w.heap.size) (Sl.grw H.out hw3) fun W hW => endCl1 (HB3.out.grw hW) HP.out).mono ?_; rintro e w4 ⟨g1, c1, rfl, hg4, hgg4, hO4⟩)
 have hw4 := hw3.trans hg4
 refine wp_gen (fun xw => Grw w xw ∧ Bk xw w.heap.size 31 (encW1 g c 0).toArray ∧ Bk xw (w.heap.size + 1) 31 (encWorldV WorldV.d).toArray ∧ I1 xw gi gb cb ∧ O1 xw g1 b1 ∧ Bk xw w4.heap.size 31 (encW1 g1 c1 0).toArray) ⟨(hw4.alloc _).setCells hw4.size _, ((HB3.out.grw hg4).alloc _).farCells (by have := (HB3.out.grw hg4).lt; omega) _, ((HR3.out.grw hg4).alloc _).farCells (by have := (HR3.out.grw hg4).lt; omega) _, ⟨Pk.farCells (HI3.out.1.grw (hg4.trans ((Grw.refl w4).alloc _))) (by have := Pk.lt (HI3.out.1.grw hg4); omega) _, Pk.farCells (HI3.out.2.grw (hg4.trans ((Grw.refl w4).alloc _))) (by have := Pk.lt (HI3.out.2.grw hg4); omega) _⟩, Pk.farCells (O1.grw hO4 ((Grw.refl w4).alloc _)) (by have := Pk.lt hO4; omega) _, (Bk.new' (by simp)).setAll' rfl rfl⟩ ?_
 have hsz4 := hw4.size
 have hm4 := (HR3.out.grw hg4).lt
 clear gA gC HB3 HR3 HI3 hg4 hO4 hw4 hw3 hgg4
 rintro w5 ⟨hw5, hB5, hR5, hI5, hO5, hX5⟩
 have b5 : w5.cell? ⟨w.heap.size, 5, none⟩ = some (.slice (some ⟨g, 0, none⟩) 1 c) := hB5.cell 5
 have b6 : w5.cell? ⟨w.heap.size, 6, none⟩ = some (.slice none 0 0) := hB5.cell 6
 have x5 : w5.cell? ⟨w4.heap.size, 5, none⟩ = some (.slice (some ⟨g1, 0, none⟩) 1 c1) := hX5.cell 5
 have HB5 := Lib.hid hB5; have HR5 := Lib.hid hR5; have HI5 := Lib.hid hI5; have HO5 := Lib.hid hO5; have HX5 := Lib.hid hX5; clear hB5 hR5 hI5 hO5 hX5
 go_upto_region 6 with (go_at_call 116; refine (stopAll1 HO5.out HBU.out).mono ?_; rintro e w6 ⟨g2, c2, rfl, hg6, hgg6, hO6⟩)
 --B
 have hw6 := hw5.trans hg6
 have hB6 := HB5.out.grw hg6; have hR6 := HR5.out.grw hg6; have hI6 := HI5.out.grw hg6; have hX6 := HX5.out.grw hg6
 have xf := hX6.frozen
 have x5 : w6.cell? ⟨w4.heap.size, 5, none⟩ = some (.slice (some ⟨g1, 0, none⟩) 1 c1) := hX6.cell 5
 have hn1 := Pk.apart hO6 hX6.pk (by decide); have hn2 := Pk.apart hI6.1 hX6.pk (by decide); have hn3 := Pk.apart hI6.2 hX6.pk (by decide)
 have hlx := hX6.lt; have hlb := hB6.lt; have hlr := hR6.lt
 clear b5 b6 HB5 HR5 HI5 HO5 HX5 hg6 hw5 hgg6
 have HB6 := Lib.hid hB6; have HR6 := Lib.hid hR6; have HI6 := Lib.hid hI6; have HO6 := Lib.hid hO6; have HX6 := Lib.hid hX6; clear hB6 hR6 hI6 hO6 hX6
 go_upto_region 7 with (fail)
 refine wp_gen (fun xw => Grw w xw ∧ Bk xw w.heap.size 31 (encW1 g c 0).toArray ∧ Bk xw (w.heap.size + 1) 31 (encWorldV WorldV.d).toArray ∧ I1 xw gi gb cb ∧ O1 xw g2 b1 ∧ Bk xw w4.heap.size 31 (encW1 g2 c2 0).toArray) ⟨hw6.setAt (by omega) _, HB6.out.far (by omega) _, HR6.out.far (by omega) _, ⟨Pk.far HI6.out.1 (by omega) _, Pk.far HI6.out.2 (by omega) _⟩, Pk.far HO6.out (by omega) _, HX6.out.set 5 (.slice (some ⟨g2, 0, none⟩) 1 c2)⟩ ?_
 clear x5 xf HB6 HR6 HI6 HO6 HX6 hw6 hn1 hn2 hn3 hlx hlb hlr
 rintro w7 ⟨hw7, hB7, hR7, hI7, hO7, hX7⟩
 have j0 : w7.cell? ⟨gi, 0, none⟩ = some (.slice (some ⟨gb, 0, none⟩) 1 cb) := Pk.cell hI7.1 rfl
 have j1 : w7.cell? ⟨gi, 1, none⟩ = some (.slice none 0 0) := Pk.cell hI7.1 rfl
 have j2 : w7.cell? ⟨gi, 2, none⟩ = some (.slice none 0 0) := Pk.cell hI7.1 rfl
 have hli := Pk.lt hI7.1
 have HB7 := Lib.hid hB7; have HR7 := Lib.hid hR7; have HI7 := Lib.hid hI7; have HO7 := Lib.hid hO7; have HX7 := Lib.hid hX7; clear hB7 hR7 hI7 hO7 hX7
 go_wp2_with fail
 refine wp_loop_rounds 2 ?_
 rw [rounds_succ]
 go_upto_region 10 with (fail)
 --C
 refine wp_gen (fun xw => Grw w xw ∧ Bk xw w.heap.size 31 (encW1 g c 0).toArray ∧ Bk xw (w.heap.size + 1) 31 (encWorldV WorldV.d).toArray ∧ I1 xw gi gb cb ∧ O1 xw g2 b1 ∧ Bk xw w4.heap.size 31 (encW1 g2 c2 0).toArray ∧ Bk xw w7.heap.size 113 (encI gb cb).toArray) ⟨hw7.alloc _, HB7.out.alloc _, HR7.out.alloc _, HI7.out.grw ((Grw.refl w7).alloc _), O1.grw HO7.out ((Grw.refl w7).alloc _), HX7.out.alloc _, Bk.new' (by simp)⟩ ?_
 clear j0 j1 j2 hli HB7 HR7 HI7 HO7 HX7 hw7
 rintro w8 ⟨hw8, hB8, hR8, hI8, hO8, hX8, hY8⟩
 have gA : HaveAll w8 w4.heap.size 0 11 := hX8.have 0 11 (Nat.le_of_ble_eq_true rfl)
 have gC : cellsAt w8 w4.heap.size 0 11 = (encW1 g2 c2 0).toArray := hX8.cells' 0 11 _ rfl rfl
 have y0 : w8.cell? ⟨w7.heap.size, 0, none⟩ = some (.slice (some ⟨gb, 0, none⟩) 1 cb) := hY8.cell 0
 have y1 : w8.cell? ⟨w7.heap.size, 1, none⟩ = some (.slice none 0 0) := hY8.cell 1
 have y2 : w8.cell? ⟨w7.heap.size, 2, none⟩ = some (.slice none 0 0) := hY8.cell 2
 have HB8 := Lib.hid hB8; have HR8 := Lib.hid hR8; have HI8 := Lib.hid hI8; have HO8 := Lib.hid hO8; have HX8 := Lib.hid hX8; clear hB8 hR8 hI8 hO8 hX8 hY8
 go_upto_region 11 with (go_at_call 117; refine (supdate1 (O1.b1 HO8.out) HI8.out.2 HSL.out HLOW.out HIDL.out).mono ?_; rintro e w9 ⟨g3, c3, rfl, hg9, hgg9, hO9⟩)
 --D
 have hw9 := hw8.trans hg9
 have hB9 := HB8.out.grw hg9; have hR9 := HR8.out.grw hg9; have hX9 := HX8.out.grw hg9
 refine wp_gen (fun xw => Grw w xw ∧ Bk xw w.heap.size 31 (encW1 g c 0).toArray ∧ Bk xw (w.heap.size + 1) 31 (encWorldV WorldV.d).toArray ∧ O1 xw g3 b1 ∧ Bk xw w4.heap.size 31 (encW1 g2 c2 0).toArray ∧ Bk xw w9.heap.size 31 (encW1 g3 c3 0).toArray) ⟨(hw9.alloc _).setCells hw9.size _, (hB9.alloc _).farCells (by have := hB9.lt; omega) _, (hR9.alloc _).farCells (by have := hR9.lt; omega) _, Pk.farCells (O1.grw hO9 ((Grw.refl w9).alloc _)) (by have := Pk.lt hO9; omega) _, (hX9.alloc _).farCells (by have := hX9.lt; omega) _, (Bk.new' (by simp)).setAll' rfl rfl⟩ ?_
 clear gA gC y0 y1 y2 HB8 HR8 HI8 HO8 HX8 hB9 hR9 hX9 hO9 hw8 hw9 hg9 hgg9
 rintro w10 ⟨hw10, hB10, hR10, hO10, hX10, hZ10⟩
 have gA : HaveAll w10 w9.heap.size 0 11 := hZ10.have 0 11 (Nat.le_of_ble_eq_true rfl)
 have gC : cellsAt w10 w9.heap.size 0 11 = (encW1 g3 c3 0).toArray := hZ10.cells' 0 11 _ rfl rfl
 have hlz := hZ10.lt; have hlx := hX10.lt; have hlb := hB10.lt; have hlr := hR10.lt
 have hn1 := Pk.apart hO10 hX10.pk (by decide)
 have HB10 := Lib.hid hB10; have HR10 := Lib.hid hR10; have HO10 := Lib.hid hO10; have HX10 := Lib.hid hX10; clear hB10 hR10 hO10 hX10 hZ10
 refine wp_region_steps [(true, 0), (true, 1), (true, 2), (false, 3)] [4, 5] (by kernel_rfl) (by kernel_rfl) ?_
 intro w11 hw11
 iterate 3 (refine st_det rfl (fun K hK => ?_); go_simp; refine hK _ ?_; clear hK K)
 refine st_mid rfl (fun w12 hw12 K hK => ?_)
 refine okOp_nilnil rfl _ _ rfl Tryz.underlying71 (by kernel_rfl) rfl rfl (hK _ _ (by (repeat with_reducible first | exact .refl _ | assumption | refine .setAt ?_ (by first | omega | simp <;> omega) _ | refine .setCells ?_ (by first | omega | simp <;> omega) _ | refine .alloc ?_ _ | refine .drewN ?_ _ | refine .drew ?_ | refine .trans ?_ (by assumption))) ?_); clear hK K
 refine st_nil (fun w13 hw13 => ?_)
 simp only [pickO, List.getElem?_cons_succ, List.getElem?_cons_zero]
 --E
 have hg := (hw11.trans hw12).trans hw13
 have hw13' := hw10.trans hg
 have hB13 := HB10.out.grw hg; have hR13 := HR10.out.grw hg; have hO13 := O1.grw HO10.out hg; have hX13 := HX10.out.grw hg
 have hT : There w13 w4.heap.size 0 11 := hX13.there 0 11 (Nat.le_of_ble_eq_true rfl)
 clear gA gC HB10 HR10 HO10 HX10 hg hw11 hw12 hw13 hw10
 go_upto_region 12 with (fail)
 refine wp_gen (fun xw => Grw w xw ∧ Bk xw w.heap.size 31 (encW1 g c 0).toArray ∧ Bk xw (w.heap.size + 1) 31 (encWorldV WorldV.d).toArray ∧ O1 xw g3 b1 ∧ Bk xw w4.heap.size 31 (encW1 g3 c3 0).toArray) ⟨hw13'.setCells (by omega) _, hB13.farCells (by omega) _, hR13.farCells (by omega) _, Pk.farCells hO13 (by omega) _, hX13.setAll' rfl rfl⟩ ?_
 clear hT hB13 hR13 hO13 hX13 hw13' hlz hlx hlb hlr hn1
 rintro w14 ⟨hw14, hB14, hR14, hO14, hX14⟩
 have gA : HaveAll w14 w4.heap.size 0 11 := hX14.have 0 11 (Nat.le_of_ble_eq_true rfl)
 have gC : cellsAt w14 w4.heap.size 0 11 = (encW1 g3 c3 0).toArray := hX14.cells' 0 11 _ rfl rfl
 have HB14 := Lib.hid hB14; have HR14 := Lib.hid hR14; have HO14 := Lib.hid hO14; have HX14 := Lib.hid hX14; clear hB14 hR14 hO14 hX14
 go_wp2_with fail
 rw [rounds_succ]
 go_upto_region 14 with (go_at_call 118; refine breakJoints1.mono ?_; rintro e w15 ⟨rfl, hg15⟩; have hX15 := HX14.out.grw hg15; have hT : There w15 w4.heap.size 0 11 := hX15.there 0 11 (Nat.le_of_ble_eq_true rfl); have HX15 := Lib.hid hX15; clear hX15)
 --F
 have hw15 := hw14.trans hg15
 have hB15 := HB14.out.grw hg15; have hR15 := HR14.out.grw hg15; have hO15 := O1.grw HO14.out hg15
 have hlx := HX15.out.lt; have hlb := hB15.lt; have hlr := hR15.lt
 have hn1 := Pk.apart hO15 HX15.out.pk (by decide)
 refine wp_gen (fun xw => Grw w xw ∧ Bk xw w.heap.size 31 (encW1 g c 0).toArray ∧ Bk xw (w.heap.size + 1) 31 (encWorldV WorldV.d).toArray ∧ O1 xw g3 b1 ∧ Bk xw w4.heap.size 31 (encW1 g3 c3 0).toArray) ⟨hw15.setCells (by omega) _, hB15.farCells (by omega) _, hR15.farCells (by omega) _, Pk.farCells hO15 (by omega) _, HX15.out.setAll' rfl rfl⟩ ?_
 clear gA gC hT HB14 HR14 HO14 HX14 HX15 hB15 hR15 hO15 hw14 hw15 hg15 hlx hlb hlr hn1
 rintro w16 ⟨hw16, hB16, hR16, hO16, hX16⟩
 have gA : HaveAll w16 w4.heap.size 0 11 := hX16.have 0 11 (Nat.le_of_ble_eq_true rfl)
 have gC : cellsAt w16 w4.heap.size 0 11 = (encW1 g3 c3 0).toArray := hX16.cells' 0 11 _ rfl rfl
 have HB16 := Lib.hid hB16; have HR16 := Lib.hid hR16; have HO16 := Lib.hid hO16; have HX16 := Lib.hid hX16; clear hB16 hR16 hO16 hX16
 go_upto_region 15 with (go_at_call 113; refine (eachClear1 (b := b1) (b' := b1) (O1.b1 HO16.out) fun W _ => HCF.out W).mono ?_; rintro e w17 ⟨g4, c4, rfl, hg17, hgg17, hO17⟩; have hX17 := HX16.out.grw hg17; have hT : There w17 w4.heap.size 0 11 := hX17.there 0 11 (Nat.le_of_ble_eq_true rfl); have HX17 := Lib.hid hX17; clear hX17)
 --G
 have hw17 := hw16.trans hg17
 have hB17 := HB16.out.grw hg17; have hR17 := HR16.out.grw hg17
 have hlx := HX17.out.lt; have hlb := hB17.lt; have hlr := hR17.lt
 have hn1 := Pk.apart hO17 HX17.out.pk (by decide)
 refine wp_gen (fun xw => Grw w xw ∧ Bk xw w.heap.size 31 (encW1 g c 0).toArray ∧ Bk xw (w.heap.size + 1) 31 (encWorldV WorldV.d).toArray ∧ O1 xw g4 b1 ∧ Bk xw w4.heap.size 31 (encW1 g4 c4 0).toArray) ⟨hw17.setCells (by omega) _, hB17.farCells (by omega) _, hR17.farCells (by omega) _, Pk.farCells hO17 (by omega) _, HX17.out.setAll' rfl rfl⟩ ?_
 clear gA gC hT HB16 HR16 HO16 HX16 HX17 hB17 hR17 hO17 hw16 hw17 hg17 hlx hlb hlr hn1 hgg17
 rintro w18 ⟨hw18, hB18, hR18, hO18, hX18⟩
 have gA : HaveAll w18 w4.heap.size 0 11 := hX18.have 0 11 (Nat.le_of_ble_eq_true rfl)
 have gC : cellsAt w18 w4.heap.size 0 11 = (encW1 g4 c4 0).toArray := hX18.cells' 0 11 _ rfl rfl
 have HB18 := Lib.hid hB18; have HR18 := Lib.hid hR18; have HO18 := Lib.hid hO18; have HX18 := Lib.hid hX18; clear hB18 hR18 hO18 hX18
 go_upto_region 16 with (go_at_call 119; refine (overlaps1 (O1.b1 HO18.out) (HV1.out _ _) HID.out).mono ?_; rintro e w19 ⟨rfl, hg19⟩)
 --H
 have hw19 := hw18.trans hg19
 have hB19 := HB18.out.grw hg19; have hR19 := HR18.out.grw hg19; have hO19 := O1.grw HO18.out hg19; have hX19 := HX18.out.grw hg19
 have b8 : w19.cell? ⟨w.heap.size, 8, none⟩ = some (.slice none 0 0) := hB19.cell 8
 clear gA gC HB18 HR18 HO18 HX18 hw18 hg19
 have HR19 := Lib.hid hR19; have HO19 := Lib.hid hO19; have HX19 := Lib.hid hX19; clear hB19 hR19 hO19 hX19
 go_upto_region 17 with (first
   | (go_at_call 121; refine (sEventsNil _).mono ?_; rintro e w20 ⟨rfl, hg20⟩)
   | (go_at_call 120; refine (concatNil (Bk.new' (by simp))).mono ?_; rintro e w21 ⟨rfl, rfl⟩))
 --I
 have hw20 := (hw19.trans hg20).alloc (.cells #[.slice none 0 0, .slice none 0 0, .slice none 0 0] 71)
 have hgA := hg20.alloc (.cells #[.slice none 0 0, .slice none 0 0, .slice none 0 0] 71)
 have hR20 := HR19.out.grw hgA; have hO20 := O1.grw HO19.out hgA; have hX20 := HX19.out.grw hgA
 refine wp_gen (fun xw => Grw w xw ∧ Bk xw (w.heap.size + 1) 31 (encWorldV WorldV.d).toArray ∧ O1 xw g4 b1 ∧ Bk xw w4.heap.size 31 (encW1 g4 c4 0).toArray) ⟨hw20, hR20, hO20, hX20⟩ ?_
 clear b8 HR19 HO19 HX19 hR20 hO20 hX20 hgA hw20 hg20 hw19
 rintro w21 ⟨hw21, hR21, hO21, hX21⟩
 have x8 : w21.cell? ⟨w4.heap.size, 8, none⟩ = some (.slice none 0 0) := hX21.cell 8
 have x10 : w21.cell? ⟨w4.heap.size, 10, none⟩ = some (.int .i64 0) := hX21.cell 10
 have xf := hX21.frozen
 have hlx := hX21.lt; have hlr := hR21.lt
 have hn1 := Pk.apart hO21 hX21.pk (by decide)
 have HR21 := Lib.hid hR21; have HO21 := Lib.hid hO21; have HX21 := Lib.hid hX21; clear hR21 hO21 hX21
 go_upto_region 19 with (fail)
 refine wp_gen (fun xw => Grw w xw ∧ Bk xw (w.heap.size + 1) 31 (encWorldV WorldV.d).toArray ∧ O1 xw g4 b1 ∧ Bk xw w4.heap.size 31 (encW1 g4 c4 1).toArray) ⟨(hw21.setAt (by omega) _).setAt (by omega) _, (HR21.out.far (by omega) _).far (by omega) _, Pk.far (Pk.far HO21.out (by omega) _) (by omega) _, (HX21.out.set 8 (.slice none 0 0)).set 10 (.int .i64 1)⟩ ?_
 --J
 clear x8 x10 xf HR21 HO21 HX21 hw21 hlx hn1
 rintro w22 ⟨hw22, hR22, hO22, hX22⟩
 have gA : HaveAll w22 w4.heap.size 0 11 := hX22.have 0 11 (Nat.le_of_ble_eq_true rfl)
 have gC : cellsAt w22 w4.heap.size 0 11 = (encW1 g4 c4 1).toArray := hX22.cells' 0 11 _ rfl rfl
 have gT : There w22 (w.heap.size + 1) 0 11 := hR22.there 0 11 (Nat.le_of_ble_eq_true rfl)
 have hn1 := Pk.apart hO22 hR22.pk (by decide)
 have HR22 := Lib.hid hR22; have HO22 := Lib.hid hO22; clear hR22 hO22 hX22
 go_wp2_with fail
 have hK : Bk (w22.setCells (w.heap.size + 1) 0 (wl g4 c4 1)) (w.heap.size + 1) 31 (wl g4 c4 1).toArray := HR22.out.setAll' rfl rfl
 refine bodyPost_ret (v := .tuple #[.agg (wl g4 c4 1).toArray, .slice none 0 0]) (results_cell2 Tryz.results52 _ _ _ _ _ _ _ rfl hK Tryz.underlying31 rfl (by kernel_rfl)) rfl ?_
 exact ⟨g4, c4, rfl, hw22.setCells (by omega) _, Pk.farCells HO22.out (by omega) _⟩
end
end Go.Proofs.YtokkghhmliplfaaGreat
