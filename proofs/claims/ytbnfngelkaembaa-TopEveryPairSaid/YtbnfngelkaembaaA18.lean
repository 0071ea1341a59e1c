/- The contract of Pairs of package bvh: all overlapping pairs of leaves, in whatever order. -/
import Derived.Test.YtbnfngelkaembaaA17
namespace Go.Proofs.Ytbnfngelkaembaa
open Go.RowKit Go.Sort

theorem flat_get {α : Type} (enc : α → List Value) (size : Nat) (hk : ∀ x, (enc x).length = size) : ∀ (xs : List α) (j i : Nat) (x : α), xs[j]? = some x → i < size → (xs.flatMap enc)[j * size + i]? = (enc x)[i]?
  | [], j, i, x, h, _ => by simp at h
  | y :: ys, 0, i, x, h, hi => by
    simp only [List.getElem?_cons_zero, Option.some.injEq] at h
    subst h
    rw [List.flatMap_cons, List.getElem?_append_left (by rw [hk]; omega)]
    simp
  | y :: ys, j + 1, i, x, h, hi => by
    simp only [List.getElem?_cons_succ] at h
    rw [List.flatMap_cons, List.getElem?_append_right (by rw [hk, Nat.add_mul]; omega), hk]
    have e : (j + 1) * size + i - size = j * size + i := by rw [Nat.add_mul]; omega
    rw [e]
    exact flat_get enc size hk ys j i x h hi
theorem OwnL.get {α : Type} {e size : Nat} {enc : α → List Value} {w : World} {base n cap : Nat} {pa : Option Addr} {xs : List α} (h : OwnL e size enc w base (.slice pa n cap) xs) (hk : ∀ x, (enc x).length = size) {j : Nat} {x : α} (hj : xs[j]? = some x) :
    ∃ g, pa = some ⟨g, 0, none⟩ ∧ n = xs.length ∧ base ≤ g ∧ g < w.heap.size ∧ ∀ i, i < size → w.cell? ⟨g, j * size + i, none⟩ = (enc x)[i]? := by
  obtain ⟨h1, ⟨h2, h0⟩ | ⟨g', cap', cur, h2, h3, h4, h5, h6, h7, h8⟩⟩ := h
  · rw [List.length_eq_zero_iff.1 h0] at hj; simp at hj
  · cases h2
    refine ⟨g', rfl, rfl, h3, (Array.getElem?_eq_some_iff.1 h4).1, fun i hi => ?_⟩
    have hjl : j < xs.length := (List.getElem?_eq_some_iff.1 hj).1
    have hlt : j * size + i < xs.length * size := Nat.lt_of_lt_of_le (by rw [Nat.add_mul]; omega : j * size + i < (j + 1) * size) (Nat.mul_le_mul_right _ hjl)
    rw [cell_of_block h4, ← Array.getElem?_toList, ← flat_get enc size hk xs j i x hj hi, ← h8, List.getElem?_take, if_pos hlt]
theorem OwnL.slice {α : Type} {e size : Nat} {enc : α → List Value} {w : World} {base : Nat} {v : Value} {xs : List α} (h : OwnL e size enc w base v xs) : ∃ pa cap, v = .slice pa xs.length cap := by
  rcases h.form with ⟨rfl, rfl⟩ | ⟨g, cap, rfl, _⟩
  · exact ⟨none, 0, rfl⟩
  · exact ⟨_, cap, rfl⟩
theorem OwnI.read {w : World} {base n cap : Nat} {pa : Option Addr} {xs : List Int} (h : OwnI w base (.slice pa n cap) xs) {j : Nat} {x : Int} (hj : xs[j]? = some x) : ∃ g, pa = some ⟨g, 0, none⟩ ∧ w.cell? ⟨g, j, none⟩ = some (.int .i64 x) := by
  obtain ⟨g, h1, _, _, _, h2⟩ := h.get (fun _ => rfl) hj
  have := h2 0 (by omega)
  rw [Nat.mul_one, Nat.add_zero] at this
  exact ⟨g, h1, this⟩

def encP (p : Int × Int) : List Value := [.int .i64 p.1, .int .i64 p.2]
theorem info56 : (Try.prog.info? 56).map (fun i => (i.zero, i.size, i.bytes)) = some (some (.agg #[.int .i64 0, .int .i64 0]), 2, 16) := by kernel_rfl
abbrev OwnP (w : World) (base : Nat) (v : Value) (xs : List (Int × Int)) : Prop := OwnL 56 2 encP w base v xs

def prs (L : List Lf) (x : Lf) : List (Int × Int) := (((L.filter (Lf.ov x.a x.b x.c x.d)).map (·.id)).filter (fun b => decide (x.id < b))).map (fun b => (x.id, b))
def prAt (L M : List Lf) (a : Int) : List (Int × Int) := M.flatMap fun x => if x.id = a then prs L x else []
theorem prAt_no {L : List Lf} {a : Int} : ∀ {M : List Lf}, a ∉ M.map (·.id) → prAt L M a = []
  | [], _ => rfl
  | y :: M, h => by
    simp only [List.map_cons, List.mem_cons, not_or] at h
    simp only [prAt, List.flatMap_cons, if_neg (fun e => h.1 (Eq.symm e)), List.nil_append]
    exact prAt_no (M := M) h.2
theorem prAt_one {L : List Lf} {x : Lf} : ∀ {M : List Lf}, (M.map (·.id)).Nodup → x ∈ M → prAt L M x.id = prs L x
  | y :: M, nd, hx => by
    simp only [List.map_cons, List.nodup_cons] at nd
    rcases List.mem_cons.1 hx with rfl | hx
    · simp only [prAt, List.flatMap_cons, if_pos]
      have := prAt_no (L := L) nd.1
      simp only [prAt] at this
      rw [this, List.append_nil]
    · have hne : y.id ≠ x.id := fun e => nd.1 (by rw [e]; exact List.mem_map.2 ⟨x, hx, rfl⟩)
      simp only [prAt, List.flatMap_cons, if_neg hne, List.nil_append]
      exact prAt_one (M := M) nd.2 hx
theorem prAt_all {L : List Lf} (nd : (L.map (·.id)).Nodup) : (L.map (·.id)).flatMap (prAt L L) = L.flatMap (prs L) := by
  rw [List.flatMap_map]
  have : ∀ M : List Lf, (∀ x ∈ M, x ∈ L) → M.flatMap (fun a => prAt L L a.id) = M.flatMap (prs L) := fun M => by
    induction M with
    | nil => intro _; rfl
    | cons y M ih =>
      intro h
      simp only [List.flatMap_cons]
      rw [ih fun x hx => h x (List.mem_cons_of_mem _ hx), prAt_one nd (h y (by simp))]
  exact this L fun _ h => h
theorem prs_len (L : List Lf) (x : Lf) : (prs L x).length ≤ L.length := by
  unfold prs
  rw [List.length_map]
  exact Nat.le_trans (List.length_filter_le _ _) (by rw [List.length_map]; exact List.length_filter_le _ _)
theorem prAt_len (L : List Lf) (nd : (L.map (·.id)).Nodup) (a : Int) : (prAt L L a).length ≤ L.length := by
  by_cases h : a ∈ L.map (·.id)
  · obtain ⟨x, hx, rfl⟩ := List.mem_map.1 h
    rw [prAt_one nd hx]; exact prs_len L x
  · rw [prAt_no h]; simp
theorem flat_len {α β : Type} (f : α → List β) (n : Nat) (h : ∀ a, (f a).length ≤ n) : ∀ xs : List α, (xs.flatMap f).length ≤ xs.length * n
  | [] => by simp
  | x :: xs => by
    rw [List.flatMap_cons, List.length_append, List.length_cons, Nat.add_mul]
    have := flat_len f n h xs
    have := h x
    omega

end Go.Proofs.Ytbnfngelkaembaa
