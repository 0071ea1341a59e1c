/- The plain law: three ways to list the overlapping pairs come to one list, in some order. No program is walked here. -/
import Derived.Test.YtbnfngelkaembaaA27
namespace Go.Proofs.Ytbnfngelkaembaa
open Go.RowKit Go.Sort

def ovE (x y : En) : Bool := ovB x.a x.b x.c x.d y.a y.b y.c y.d
theorem ovE_comm (x y : En) : ovE x y = ovE y x := by unfold ovE ovB; rw [decide_eq_decide]; omega
def mm (x y : En) : Int × Int := (min x.id y.id, max x.id y.id)
theorem mm_comm (x y : En) : mm x y = mm y x := by unfold mm; rw [Int.min_comm, Int.max_comm]
def row (x : En) (r : List En) : List (Int × Int) := (r.filter (ovE x)).map (mm x)
def pairsOf : List En → List (Int × Int)
  | [] => []
  | x :: r => row x r ++ pairsOf r
theorem row_cons (x y : En) (r : List En) : row x (y :: r) = (if ovE x y then [mm x y] else []) ++ row x r := by
  unfold row
  by_cases h : ovE x y = true <;> simp [List.filter_cons, h]
theorem row_perm (x : En) {r r' : List En} (h : r.Perm r') : (row x r).Perm (row x r') := (h.filter _).map _
theorem pairsOf_perm {l l' : List En} (h : l.Perm l') : (pairsOf l).Perm (pairsOf l') := by
  induction h with
  | nil => exact List.Perm.refl _
  | cons x h ih => exact List.Perm.append (row_perm x h) ih
  | swap x y r =>
    simp only [pairsOf, row_cons, ovE_comm y x, mm_comm y x]
    rw [List.perm_iff_count]
    intro z
    simp only [List.count_append]
    omega
  | trans _ _ h1 h2 => exact h1.trans h2

theorem flat_append {α β : Type} [DecidableEq β] (f g : α → List β) : ∀ l : List α, (l.flatMap fun z => f z ++ g z).Perm (l.flatMap f ++ l.flatMap g)
  | [] => by simp
  | x :: l => by
    have := flat_append f g l
    rw [List.perm_iff_count] at this ⊢
    intro z
    have h := this z
    simp only [List.flatMap_cons, List.count_append] at h ⊢
    omega
theorem prs_cons (x : Lf) (R : List Lf) (z : Lf) : prs (x :: R) z = (if Lf.ov z.a z.b z.c z.d x && decide (z.id < x.id) then [(z.id, x.id)] else []) ++ prs R z := by
  unfold prs
  by_cases h1 : Lf.ov z.a z.b z.c z.d x = true
  · by_cases h2 : z.id < x.id
    · simp [List.filter_cons, h1, h2]
    · simp [List.filter_cons, h1, h2]
  · simp [List.filter_cons, h1]
theorem prs_self (x : Lf) (R : List Lf) : prs (x :: R) x = prs R x := by
  rw [prs_cons]; simp
theorem prs_row (x : Lf) : ∀ R : List Lf, x.id ∉ R.map (·.id) → (prs R x ++ R.flatMap (fun z => if Lf.ov z.a z.b z.c z.d x && decide (z.id < x.id) then [(z.id, x.id)] else [])).Perm (row (toEn x) (R.map toEn))
  | [], _ => by simp [prs, row]
  | y :: R, h => by
    simp only [List.map_cons, List.mem_cons, not_or] at h
    have ih := prs_row x R h.2
    rw [List.map_cons, row_cons, prs_cons, List.flatMap_cons]
    have e : Lf.ov y.a y.b y.c y.d x = ovE (toEn x) (toEn y) := rfl
    have e2 : Lf.ov x.a x.b x.c x.d y = ovE (toEn y) (toEn x) := rfl
    rw [e, e2, ovE_comm (toEn y) (toEn x)]
    have key : ((if ovE (toEn x) (toEn y) && decide (x.id < y.id) then [(x.id, y.id)] else []) ++ (if ovE (toEn x) (toEn y) && decide (y.id < x.id) then [(y.id, x.id)] else [])) = if ovE (toEn x) (toEn y) then [mm (toEn x) (toEn y)] else [] := by
      by_cases ho : ovE (toEn x) (toEn y) = true
      · rcases Int.lt_or_gt_of_ne h.1 with hl | hl
        · have h2 : ¬ y.id < x.id := by omega
          have e3 : mm (toEn x) (toEn y) = (x.id, y.id) := by
            unfold mm toEn
            exact Prod.ext (by show min x.id y.id = x.id; omega) (by show max x.id y.id = y.id; omega)
          rw [e3]
          simp [ho, hl, h2]
        · have h2 : ¬ x.id < y.id := by omega
          have h3 : y.id < x.id := hl
          have e3 : mm (toEn x) (toEn y) = (y.id, x.id) := by
            unfold mm toEn
            exact Prod.ext (by show min x.id y.id = y.id; omega) (by show max x.id y.id = x.id; omega)
          rw [e3]
          simp [ho, h3, h2]
      · simp [ho]
    rw [← key]
    rw [List.perm_iff_count] at ih ⊢
    intro z
    have := ih z
    simp only [List.count_append] at this ⊢
    omega
theorem prs_all : ∀ L : List Lf, (L.map (·.id)).Nodup → (L.flatMap (prs L)).Perm (pairsOf (L.map toEn))
  | [], _ => by simp [pairsOf]
  | x :: R, nd => by
    simp only [List.map_cons, List.nodup_cons] at nd
    have ih := prs_all R nd.2
    have hr := prs_row x R nd.1
    rw [List.flatMap_cons, List.map_cons, pairsOf, prs_self]
    have hf : R.flatMap (prs (x :: R)) = R.flatMap (fun z => (if Lf.ov z.a z.b z.c z.d x && decide (z.id < x.id) then [(z.id, x.id)] else []) ++ prs R z) := by
      congr 1
      funext z
      exact prs_cons x R z
    rw [hf]
    have h2 := flat_append (fun z : Lf => if Lf.ov z.a z.b z.c z.d x && decide (z.id < x.id) then [(z.id, x.id)] else []) (prs R) R
    rw [List.perm_iff_count] at ih hr h2 ⊢
    intro z
    have a1 := ih z
    have a2 := hr z
    have a3 := h2 z
    simp only [List.count_append] at a1 a2 a3 ⊢
    omega

theorem takeW (x : En) : ∀ r : List En, r.Pairwise (fun x y => ltOf cmpE y x = false) → ((r.takeWhile (fun y => decide (y.a ≤ x.c))).filter (ovE x)) = r.filter (ovE x)
  | [], _ => rfl
  | y :: r, h => by
    rw [List.pairwise_cons] at h
    by_cases hy : y.a ≤ x.c
    · rw [List.takeWhile_cons_of_pos (by simpa using hy)]
      simp only [List.filter_cons, takeW x r h.2]
    · rw [List.takeWhile_cons_of_neg (by simpa using hy)]
      have : (y :: r).filter (ovE x) = [] := by
        rw [List.filter_eq_nil_iff]
        intro z hz
        have hza : y.a ≤ z.a := by
          rcases List.mem_cons.1 hz with rfl | hz
          · exact Int.le_refl _
          · have := h.1 z hz
            simp only [ltOf, cmpE, decide_eq_false_iff_not, lex_neg] at this
            omega
        simp only [ovE, ovB, decide_eq_true_eq]
        omega
      rw [this]; rfl
theorem sel_nbr : ∀ ys : List En, (∀ x ∈ ys, validB x.a x.b x.c x.d = true) → ys.Pairwise (fun x y => ltOf cmpE y x = false) → sel (nbr ys) = pairsOf ys
  | [], _, _ => rfl
  | x :: r, hv, hs => by
    have hs' := List.pairwise_cons.1 hs
    have ih := sel_nbr r (fun y hy => hv y (List.mem_cons_of_mem _ hy)) hs'.2
    rw [nbr, pairsOf, ← ih]
    unfold sel
    rw [List.filter_append, List.map_append]
    congr 1
    rw [row, ← takeW x r hs'.2, List.filter_map, List.map_map]
    have hvx := hv x (by simp)
    have hf : (r.takeWhile (fun y => decide (y.a ≤ x.c))).filter ((fun p : En × En => validB p.1.a p.1.b p.1.c p.1.d && validB p.2.a p.2.b p.2.c p.2.d && ovB p.1.a p.1.b p.1.c p.1.d p.2.a p.2.b p.2.c p.2.d) ∘ fun y => (x, y)) = (r.takeWhile (fun y => decide (y.a ≤ x.c))).filter (ovE x) := by
      refine List.filter_congr fun y hy => ?_
      have hvy := hv y (List.mem_cons_of_mem _ ((List.takeWhile_prefix _).subset hy))
      simp [hvx, hvy, ovE]
    rw [hf]
    rfl

theorem pairsOf_mem (x y : En) (ho : ovE y x = true) (en : List En) : ∀ (k i : Nat), en[k]? = some x → en[i]? = some y → k < i → mm y x ∈ pairsOf en := by
  induction en with
  | nil => intro k i hk; simp at hk
  | cons z r ih =>
    intro k i hk hi hlt
    obtain ⟨i, rfl⟩ : ∃ i', i = i' + 1 := ⟨i - 1, by omega⟩
    rw [List.getElem?_cons_succ] at hi
    rw [pairsOf, List.mem_append]
    rcases Nat.eq_zero_or_pos k with h0 | h0
    · subst h0
      rw [List.getElem?_cons_zero, Option.some.injEq] at hk
      subst hk
      rw [mm_comm]
      refine .inl (List.mem_map.2 ⟨y, List.mem_filter.2 ⟨List.mem_of_getElem? hi, ?_⟩, rfl⟩)
      rw [ovE_comm]; exact ho
    · obtain ⟨k, rfl⟩ : ∃ k', k = k' + 1 := ⟨k - 1, by omega⟩
      rw [List.getElem?_cons_succ] at hk
      exact .inr (ih k i hk hi (by omega))
/-- the pairs counted up to place k -/
def cntN (en : List En) (k : Nat) : Nat := (pairsOf (en.take k).reverse).length
theorem cntN_succ {en : List En} {k : Nat} {x : En} (h : en[k]? = some x) : cntN en (k + 1) = cntN en k + ((en.take k).filter (ovE x)).length := by
  have e : (en.take (k + 1)).reverse = x :: (en.take k).reverse := by rw [List.take_add_one, h]; simp
  unfold cntN
  rw [e]
  show (row x (en.take k).reverse ++ pairsOf (en.take k).reverse).length = _
  rw [List.length_append, row, List.length_map, List.filter_reverse, List.length_reverse, Nat.add_comm]
theorem cntN_all (en : List En) : cntN en en.length = (pairsOf en).length := by
  unfold cntN
  rw [List.take_length]
  exact (pairsOf_perm (List.reverse_perm en)).length_eq

end Go.Proofs.Ytbnfngelkaembaa
