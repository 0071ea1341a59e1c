/- The library's sort at the two element types of package sap, on slices of the caller's own. -/
import Derived.Test.YtbnfngelkaembaaS2
import Derived.Shelf.SlSortCmp.NoneTotal
namespace Go.Proofs.Ytbnfngelkaembaa
open Go.Shelf Go.RowKit Go.Sort
section
variable {α : Type} [Inhabited α]

theorem flatK_eq (enc : α → List Value) (k : Nat) (hk : ∀ x, (enc x).length = k) (d : Array α) : flatK enc k d = (d.toList.flatMap enc).toArray := by
  have hl : (d.toList.flatMap enc).length = d.size * k := by
    have : ∀ l : List α, (l.flatMap enc).length = l.length * k := fun l => by induction l with
      | nil => simp
      | cons x l ih => rw [List.flatMap_cons, List.length_append, ih, hk, List.length_cons, Nat.add_mul]; omega
    rw [this]; simp
  refine ext_get! (by simp [hl]) fun t ht => ?_
  have ht' : t < d.size * k := by simpa using ht
  have k0 : 0 < k := by rcases Nat.eq_zero_or_pos k with h | h; · subst h; simp at ht'
                        · exact h
  rw [get_flatK enc k d t ht']
  have hj : t / k < d.size := Nat.div_lt_of_lt_mul (by rwa [Nat.mul_comm] at ht')
  have hi : t % k < k := Nat.mod_lt _ k0
  have h := flat_get enc k hk d.toList (t / k) (t % k) d[t / k]! (by rw [getElem!_pos d _ hj]; simp [hj]) hi
  rw [Nat.div_add_mod' t k] at h
  have h2 : (d.toList.flatMap enc).toArray[t]! = ((d.toList.flatMap enc)[t]?).getD default := by simp [List.getElem!_eq_getElem?_getD, Array.getElem!_eq_getD, Array.getD_eq_getD_getElem?]
  rw [h2, h, List.getElem!_eq_getElem?_getD]

theorem OwnL.holdsK {e k : Nat} {enc : α → List Value} (hk : ∀ x, (enc x).length = k) {w : World} {base g n cap : Nat} {xs : List α} (h : OwnL e k enc w base (.slice (some ⟨g, 0, none⟩) n cap) xs) : HoldsK enc k w g 0 xs.toArray := by
  obtain ⟨h1, ⟨h2, _⟩ | ⟨g', cap', cur, h2, h3, h4, h5, h6, h7, h8⟩⟩ := h
  · cases h2
  · cases h2
    unfold HoldsK
    rw [flatK_eq enc k hk]
    intro j hj
    have hj' : j < (xs.flatMap enc).length := by simpa using hj
    refine ⟨?_, by simp [World.frozen?, h4]⟩
    rw [cell_of_block h4, Nat.zero_add]
    have h9 : (cur.toList.take (xs.length * k))[j]? = (xs.flatMap enc)[j]? := by rw [h8]
    rw [List.getElem?_take, if_pos (by omega)] at h9
    rw [← Array.getElem?_toList, h9, List.getElem?_eq_getElem hj', getElem!_pos _ j hj]
    simp
theorem OwnL.putK {e k : Nat} {enc : α → List Value} (hk : ∀ x, (enc x).length = k) {w : World} {base g n cap : Nat} {xs : List α} (h : OwnL e k enc w base (.slice (some ⟨g, 0, none⟩) n cap) xs) (d : Array α) (hs : d.size = xs.length) (q : Nat) (os : Array Obj) :
    OwnL e k enc (sortWorldK enc k w g 0 q d os) base (.slice (some ⟨g, 0, none⟩) n cap) d.toList := by
  obtain ⟨h1, ⟨h2, _⟩ | ⟨g', cap', cur, h2, h3, h4, h5, h6, h7, h8⟩⟩ := h
  · cases h2
  · cases h2
    have hl : d.toList.length = xs.length := by simpa using hs
    have hfl : (d.toList.flatMap enc).length = xs.length * k := by
      have := size_flatK enc k d
      rw [flatK_eq enc k hk] at this
      simpa [hs] using this
    have hb : (sortWorldK enc k w g 0 q d os).heap[g]? = some (.cells (putCells id 0 (flatK enc k d) cur) e (0, 0)) := by
      have hg : g < (w.heap.modify g (onCells (putCells id 0 (flatK enc k d)))).size := by simpa using (Array.getElem?_eq_some_iff.1 h4).1
      show ((w.heap.modify g (onCells (putCells id 0 (flatK enc k d)))) ++ os)[g]? = _
      rw [Array.getElem?_append_left hg, Array.getElem?_modify, if_pos rfl, h4]
      rfl
    refine ⟨by rw [hl]; exact hfl, .inr ⟨g, cap, _, by rw [hl], h3, hb, by omega, h6, by simpa [putCells] using h7, ?_⟩⟩
    rw [flatK_eq enc k hk]
    have hle : xs.length * k ≤ cap * k := Nat.mul_le_mul_right _ h5
    apply List.ext_getElem?
    intro j
    rw [List.getElem?_take, hl]
    by_cases hj : j < xs.length * k
    · have hk2 : j < cur.size := by omega
      rw [if_pos hj, Array.getElem?_toList]
      simp only [putCells, Array.getElem?_mapIdx]
      rw [Array.getElem?_eq_getElem hk2, Option.map_some, if_pos ⟨by omega, by rw [List.size_toArray, hfl]; omega⟩, Nat.sub_zero, getElem!_pos _ j (by rw [List.size_toArray, hfl]; omega)]
      simp [List.getElem?_eq_getElem, hfl, hj]
    · rw [if_neg hj, List.getElem?_eq_none (by omega)]
theorem onlyChg_sort (enc : α → List Value) (k : Nat) (w : World) (g : Nat) (d : Array α) (q : Nat) (os : Array Obj) : OnlyChg (fun j => j = g) w (sortWorldK enc k w g 0 q d os) := by
  refine ⟨rfl, rfl, rfl, ?_, fun j hj hs => ?_⟩
  · show w.heap.size ≤ ((w.heap.modify _ _) ++ os).size
    simp
  · show ((w.heap.modify _ _) ++ os)[j]? = _
    rw [Array.getElem?_append_left (by simpa using hj), Array.getElem?_modify, if_neg (fun e => hs e.symm)]

theorem sort_own {f : Nat} {fv : Value} {e k : Nat} {enc : α → List Value} (hk : ∀ x, (enc x).length = k) {cf : α → α → Int}
    (hs : ∀ (blk cap : Nat) (d : Array α) (w : World), HoldsK enc k w blk 0 d → blk < w.heap.size → d.size < 4611686018427387904 → Calls Try.prog f #[.slice (some ⟨blk, 0, none⟩) d.size cap, fv] w fun e w' =>
      e = .returned (.tuple #[]) ∧ ∃ d' n os, PermIn 0 d.size d d' ∧ SortedIn (ltOf cf) 0 d.size d' ∧ w' = sortWorldK enc k w blk 0 n d' os)
    (hn : ∀ (p : Option Addr) (cap : Nat) (w : World), Calls Try.prog f #[.slice p 0 cap, fv] w fun e w' => e = .returned (.tuple #[]) ∧ w' = w)
    {w : World} {base : Nat} {v : Value} {xs : List α} (h : OwnL e k enc w base v xs) (hl : xs.length ≤ 1000000000) :
    Calls Try.prog f #[v, fv] w fun r w' => r = .returned (.tuple #[]) ∧ ∃ ys : List α, ys.Perm xs ∧ ys.Pairwise (fun x y => ltOf cf y x = false) ∧ OwnL e k enc w' base v ys ∧ OnlyChg (fun q => v.ownBlock = some q) w w' := by
  rcases h.form with ⟨rfl, rfl⟩ | ⟨g, cap, rfl, h1, h2, h3, h4⟩
  · refine (hn none 0 w).mono ?_
    rintro r w' ⟨rfl, rfl⟩
    exact ⟨rfl, [], List.Perm.refl _, .nil, h, OnlyChg.refl _ _⟩
  · have hc := hs g cap xs.toArray w (h.holdsK hk) h2 (by simp; omega)
    rw [show xs.toArray.size = xs.length by simp] at hc
    refine hc.mono ?_
    rintro r w' ⟨rfl, d', n, os, hp, hso, rfl⟩
    have hsz : d'.size = xs.length := by have := hp.1; simpa using this
    refine ⟨rfl, d'.toList, ?_, ?_, h.putK hk d' hsz n os, (onlyChg_sort enc k w g d' n os).mono fun q _ hq => by simp [Value.ownBlock, hq]⟩
    · have h5 := hp.2.2
      rw [show d'.extract 0 xs.length = d' by rw [← hsz]; simp, show xs.toArray.extract 0 xs.length = xs.toArray by simp] at h5
      simpa using h5
    · rw [List.pairwise_iff_getElem]
      intro i j hi hj hij
      have := hso i j (Nat.zero_le _) hij (by simpa [hsz] using hj)
      rw [getElem!_pos d' i (by simpa using hi), getElem!_pos d' j (by simpa using hj)] at this
      simpa using this
end

abbrev OwnE (w : World) (base : Nat) (v : Value) (xs : List En) : Prop := OwnL 39 5 encE w base v xs
theorem cmpLaysE (blk size : Nat) (w : World) : CmpLays Try.prog 31 #[] encE 5 cmpE blk 0 size w := by
  intro m os dk _ x y
  rw [Array.append_empty]
  refine (cmpE_any x y _).mono ?_
  rintro e w' ⟨he, p, hp⟩
  exact ⟨he, p.n, p.os, hp⟩
theorem entersE : ∀ args w, (callFunc 31 args).run Try.prog w = .ok (.enter 31 args) w := enters_of Try.func31 (by kernel_rfl) rfl
theorem oneE : ∀ (x : En), ∀ v ∈ encE x, v.oneCell' = true := fun x v hv => by simp [encE] at hv; rcases hv with rfl | rfl | rfl | rfl | rfl <;> rfl
theorem sortsE (blk cap : Nat) (d : Array (En)) (w : World) (hH : HoldsK encE 5 w blk 0 d) (hb : blk < w.heap.size) (hsz : d.size < 4611686018427387904) :
    Calls Try.prog 30 #[.slice (some ⟨blk, 0, none⟩) d.size cap, .func (.func 31) #[] #[]] w fun e w' =>
      e = .returned (.tuple #[]) ∧ ∃ d' n os, PermIn 0 d.size d d' ∧ SortedIn (ltOf cmpE) 0 d.size d' ∧ w' = sortWorldK encE 5 w blk 0 n d' os := by
  have hcon := AnyQ.slices_SortFunc Try.sortE 5 Try.isAgg39 Try.sizeOf39 encE (fun _ => rfl) oneE cmpE swoE 31 #[] blk 0 cap d w entersE (cmpLaysE blk d.size w) hH hb hsz
  change Calls Try.prog 30 _ _ _ at hcon
  exact hcon
theorem noneE (p : Option Addr) (cap : Nat) (w : World) : Calls Try.prog 30 #[.slice p 0 cap, .func (.func 31) #[] #[]] w fun e w' => e = .returned (.tuple #[]) ∧ w' = w := by
  have hcon := AnyF.slices_SortFunc_none Try.sortE p cap (.func (.func 31) #[] #[]) w
  change Calls Try.prog 30 _ _ _ at hcon
  exact hcon
theorem sortE_any {w : World} {base : Nat} {v : Value} {xs : List (En)} (h : OwnE w base v xs) (hl : xs.length ≤ 1000000000) :
    Calls Try.prog 30 #[v, .func (.func 31) #[] #[]] w fun r w' => r = .returned (.tuple #[]) ∧ ∃ ys : List (En), ys.Perm xs ∧ ys.Pairwise (fun x y => ltOf cmpE y x = false) ∧ OwnE w' base v ys ∧ OnlyChg (fun q => v.ownBlock = some q) w w' :=
  sort_own (e := 39) (k := 5) (enc := encE) (cf := cmpE) (fun _ => rfl) sortsE noneE h hl
theorem cmpLaysP (blk size : Nat) (w : World) : CmpLays Try.prog 22 #[] encP 2 cmpP blk 0 size w := by
  intro m os dk _ x y
  rw [Array.append_empty]
  refine (cmpP_any x y _).mono ?_
  rintro e w' ⟨he, p, hp⟩
  exact ⟨he, p.n, p.os, hp⟩
theorem entersP : ∀ args w, (callFunc 22 args).run Try.prog w = .ok (.enter 22 args) w := enters_of Try.func22 (by kernel_rfl) rfl
theorem oneP : ∀ (x : Int × Int), ∀ v ∈ encP x, v.oneCell' = true := fun x v hv => by simp [encP] at hv; rcases hv with rfl | rfl <;> rfl
theorem sortsP (blk cap : Nat) (d : Array (Int × Int)) (w : World) (hH : HoldsK encP 2 w blk 0 d) (hb : blk < w.heap.size) (hsz : d.size < 4611686018427387904) :
    Calls Try.prog 21 #[.slice (some ⟨blk, 0, none⟩) d.size cap, .func (.func 22) #[] #[]] w fun e w' =>
      e = .returned (.tuple #[]) ∧ ∃ d' n os, PermIn 0 d.size d d' ∧ SortedIn (ltOf cmpP) 0 d.size d' ∧ w' = sortWorldK encP 2 w blk 0 n d' os := by
  have hcon := AnyQ.slices_SortFunc Try.sortP 2 Try.isAgg56 Try.sizeOf56 encP (fun _ => rfl) oneP cmpP swoP 22 #[] blk 0 cap d w entersP (cmpLaysP blk d.size w) hH hb hsz
  change Calls Try.prog 21 _ _ _ at hcon
  exact hcon
theorem noneP (p : Option Addr) (cap : Nat) (w : World) : Calls Try.prog 21 #[.slice p 0 cap, .func (.func 22) #[] #[]] w fun e w' => e = .returned (.tuple #[]) ∧ w' = w := by
  have hcon := AnyF.slices_SortFunc_none Try.sortP p cap (.func (.func 22) #[] #[]) w
  change Calls Try.prog 21 _ _ _ at hcon
  exact hcon
theorem sortP_any {w : World} {base : Nat} {v : Value} {xs : List (Int × Int)} (h : OwnP w base v xs) (hl : xs.length ≤ 1000000000) :
    Calls Try.prog 21 #[v, .func (.func 22) #[] #[]] w fun r w' => r = .returned (.tuple #[]) ∧ ∃ ys : List (Int × Int), ys.Perm xs ∧ ys.Pairwise (fun x y => ltOf cmpP y x = false) ∧ OwnP w' base v ys ∧ OnlyChg (fun q => v.ownBlock = some q) w w' :=
  sort_own (e := 56) (k := 2) (enc := encP) (cf := cmpP) (fun _ => rfl) sortsP noneP h hl
#print axioms sortE_any

end Go.Proofs.Ytbnfngelkaembaa
