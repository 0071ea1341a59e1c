/- Regions whose order is drawn: quiet operations picked ahead by their places, then the ready ones taken one by one. No program is named here. -/
import Derived.Test.YtbnfngelkaembaaB1
namespace Go.Proofs.Ytbnfngelkaembaa
open Go.RowKit Go.Sort

section flow
variable {P : Program} {ops : Array Oper} {w0 : World} {S : Nat → Prop}

def pickFrom (ops : Array Oper) : List Nat → Array Bool → Bool
  | [], _ => true
  | k :: ks, listed => decide (k < ops.size) && (Region.ready .any ops listed).contains k && Region.free .any ops listed k && pickFrom ops ks (listed.setIfInBounds k true)
def listedBy : List Nat → Array Bool → Array Bool
  | [], l => l
  | k :: ks, l => listedBy ks (l.setIfInBounds k true)

theorem anyS_pick {g : Nat} {L : Array Bool → Act → World → Prop} (hsel : Region.noSelect ops = true) : ∀ (is : List Nat) (l : List Oper) (listed : Array Bool) (a : Act) (w : World), Grw w0 w → is.map (fun i => ops[i]?) = l.map some →
    pickFrom ops is listed = true →
    wpS S P ops w0 (fun a' => ∀ w1, Grw w0 w1 → anyS S P ops ops.size L g (listedBy is listed) a' w1) l a →
    anyS S P ops ops.size L (is.length + g) listed a w
  | [], l, listed, a, w, hw, hl, _, h => by
    have : l = [] := by simpa using hl.symm
    subst this
    simpa [listedBy] using h w hw
  | k :: ks, [], listed, a, w, hw, hl, _, h => by simp at hl
  | k :: ks, o :: l, listed, a, w, hw, hl, hB, h => by
    simp only [List.map_cons, List.cons.injEq] at hl
    obtain ⟨h0, hl'⟩ := hl
    simp only [pickFrom, Bool.and_eq_true, decide_eq_true_eq] at hB
    obtain ⟨⟨⟨hkn, hr⟩, hf⟩, hB'⟩ := hB
    have hT : ∀ t ot, ops.size ≤ t → ops[t]? = some ot → ∃ e ∈ ot.after, Region.binds .any e = true ∧ e.on = k := fun t ot hnt hot => by
      have := (Array.getElem?_eq_some_iff.1 hot).1
      omega
    have step : ∃ v, YieldsS S P ops w0 o v a ∧ wpS S P ops w0 (fun a' => ∀ w1, Grw w0 w1 → anyS S P ops ops.size L g (listedBy (k :: ks) listed) a' w1) l (a.put o.dst v) := by
      unfold wpS at h
      split at h
      · rename_i hw'
        obtain ⟨v, h1, h2⟩ := h
        exact ⟨v, .inl ⟨hw', fun w2 hp => h1 w2 hp⟩, h2⟩
      · rename_i hw'
        exact ⟨undef, .inr ⟨by simpa using hw', rfl⟩, h⟩
    obtain ⟨v, hy, hK⟩ := step
    have e : (k :: ks).length + g = (ks.length + g) + 1 := by simp; omega
    rw [e]
    refine anyS_first h0 (Region.noSelect_spec hsel) hT hkn (ks.length + g) _ a w ((OnlyChg.refl _ _).grw hw) (Region.free_spec h0 hf) (by simpa using hr) hy ?_
    exact anyS_pick hsel ks l _ _ w hw hl' hB' hK

theorem anyS_want {n f : Nat} {L : Array Bool → Act → World → Prop} {listed : Array Bool} {a : Act} {w : World} (rs : List Nat) (hr : Region.ready .any ops listed = rs) (hne : rs.isEmpty = false) (hlt : (rs.all fun j => decide (j < n)) = true)
    (h : ∀ w1, Grw w w1 → ∀ j ∈ rs, ∃ o, ops[j]? = some o ∧ Region.wanted o (yielded ops a.tmps) = true ∧ ∀ K : Act → World → Prop, (∀ a' w2, OnlyChg S w1 w2 → anyS S P ops n L f (listed.setIfInBounds j true) a' w2 → K a' w2) →
      okUpon P (fun v w2 => K (a.put o.dst v) w2) ((execOp a.eval o).run P w1)) : anyS S P ops n L (f + 1) listed a w := by
  intro w1 hw1
  refine ⟨(by rw [hr]; intro e; rw [e] at hne; cases hne), fun j hj => ?_⟩
  rw [hr] at hj
  refine ⟨by simpa using List.all_eq_true.1 hlt j hj, fun o ho => ?_⟩
  obtain ⟨o', ho', hw, hk⟩ := h w1 hw1 j hj
  obtain rfl : o' = o := Option.some.inj (ho'.symm.trans ho)
  unfold okOp
  rw [if_pos hw]
  exact okUpon_mono (fun v w2 hk => hk) (hk (fun a' w2 => OnlyChg S w1 w2 ∧ anyS S P ops n L f (listed.setIfInBounds j true) a' w2) fun a' w2 h1 h2 => ⟨h1, h2⟩)
theorem anyS_end {n : Nat} {Q : Act → World → Prop} {listed : Array Bool} {a : Act} {w : World} (hr : Region.ready .any ops listed = []) (h : ∀ w1, Grw w w1 → Q a w1) :
    anyS S P ops n (fun listed' a' w' => Region.ready .any ops listed' = [] ∧ Q a' w') 0 listed a w :=
  ⟨by simp [hr], fun w1 hw => ⟨hr, h w1 hw⟩⟩

/-- Quiet operations first, by their places; then what is left, whatever is ready. -/
theorem pick_ops {l : List Oper} : ∀ (is : List Nat) (listed : Array Bool), pickFrom l.toArray is listed = true → is.map (fun i => l.toArray[i]?) = (is.filterMap (fun i => l[i]?)).map some
  | [], _, _ => rfl
  | k :: ks, listed, h => by
    simp only [pickFrom, Bool.and_eq_true, decide_eq_true_eq] at h
    obtain ⟨⟨⟨hk, _⟩, _⟩, h'⟩ := h
    have hk' : k < l.length := by simpa using hk
    have e : l[k]? = some l[k] := List.getElem?_eq_getElem hk'
    rw [List.map_cons, List.filterMap_cons_some e, List.map_cons, pick_ops ks _ h']
    congr 1
    simp [hk']
theorem wp_region_pick {id : Nat} {Q : Exit → Act → World → Prop} {a : Act} {w : World} {l : List Oper} (is : List Nat) (g : Nat) (hm : P.follows .mixedOrders = true)
    (hB : (Region.noSelect l.toArray && pickFrom l.toArray is (Array.replicate l.length false)) = true) (hg : is.length + g = l.length)
    (h : wpS S P l.toArray w (fun a' => ∀ w1, Grw w w1 → anyS S P l.toArray l.length (fun listed a' w' => Region.ready .any l.toArray listed = [] ∧ Q .normal a' w') g (listedBy is (Array.replicate l.length false)) a' w1) (is.filterMap fun i => l[i]?) a) :
    (Code.region id l.toArray true).wp P Q a w := by
  simp only [Bool.and_eq_true] at hB
  have hsz : l.toArray.size = l.length := by simp
  refine wp_region_any hm ?_
  have H := anyS_pick (P := P) (S := S) (w0 := w) (g := g) (L := fun listed a' w' => Region.ready .any l.toArray listed = [] ∧ Q .normal a' w') hB.1 is _ (Array.replicate l.length false) a ({ w with drawn := w.drawn + 1 }) ((Grw.refl w).drewN 1) (pick_ops is _ hB.2) hB.2 (by rw [hsz]; exact h)
  have H2 := wpAny_of_anyS (Q := Q) (g := 0) (fun listed a' w' hL => hL) _ _ _ _ H
  rw [hg] at H2
  simpa using H2
#print axioms wp_region_pick
end flow

end Go.Proofs.Ytbnfngelkaembaa
