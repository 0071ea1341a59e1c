/- The contract of applyOp: the hierarchy's leaves against a list of entries. -/
import Derived.Test.YtbnfngelkaembaaA26
namespace Go.Proofs.Ytbnfngelkaembaa
open Go.RowKit Go.Sort

def toEn (y : Lf) : En := ⟨y.id, y.a, y.b, y.c, y.d⟩
def Ents (o : Option T) (en : List En) : Prop := ((oLeaves o).map toEn).Perm en
theorem Bvh.idsL {w : World} {t mb : Nat} {o : Option T} {l : List (Int × Nat)} (h : Bvh w t mb o l) : ((oLeaves o).map (·.id)).Nodup := by
  have h1 := h.same.map (·.1)
  rw [List.map_map] at h1
  exact (h1.nodup_iff).1 h.ids
theorem Ents.ids {o : Option T} {en : List En} (h : Ents o en) : (en.map (·.id)).Perm ((oLeaves o).map (·.id)) := by
  have := h.symm.map (·.id)
  rwa [List.map_map] at this
theorem strike_all {en : List En} {id : Int} (h : ∀ y ∈ en, y.id ≠ id) : strike en id = en := by
  unfold strike
  exact List.filter_eq_self.2 fun y hy => decide_eq_true (h y hy)
theorem strike_perm {en en' : List En} (id : Int) (h : en.Perm en') : (strike en id).Perm (strike en' id) := h.filter _

/-- what a call on the hierarchy leaves -/
structure Res (w w' : World) (t mb : Nat) (o : Option T) (en' : List En) : Prop where
  ex : ∃ (o' : Option T) (l' : List (Int × Nat)), Bvh w' t mb o' l' ∧ Ents o' en' ∧ (∀ q ∈ oNodes o', q ∈ oNodes o ∨ w.heap.size ≤ q) ∧ OnlyChg (fun i => i ∈ t :: mb :: oNodes o) w w'
theorem Res.same {w w' : World} {t mb : Nat} {o : Option T} {l : List (Int × Nat)} {en : List En} (H : Bvh w t mb o l) (E : Ents o en) (hg : Grw w w') : Res w w' t mb o en :=
  ⟨o, l, H.grw hg, E, fun q hq => .inl hq, (OnlyChg.refl _ w).grw hg⟩

theorem ins_any {t mb : Nat} {o : Option T} {l : List (Int × Nat)} {en : List En} {w : World} (H : Bvh w t mb o l) (E : Ents o en) (x : En) (hwf : (Lit.int .i64 x.id).wf = true) :
    Calls Try.prog 12 #[.pointer (some ⟨t, 0, none⟩), .int .i64 x.id, .agg #[.int .i64 x.a, .int .i64 x.b, .int .i64 x.c, .int .i64 x.d]] w fun e w' => ∃ c : Int, e = .returned (.int .i64 c) ∧
      ((c ≠ 0 ∧ Res w w' t mb o en) ∨ (c = 0 ∧ validB x.a x.b x.c x.d = true ∧ Res w w' t mb o (strike en x.id ++ [x]))) := by
  cases hv : validB x.a x.b x.c x.d
  · refine (ins_bad t mb o l _ _ _ _ _ w H hwf hv).mono ?_
    rintro e w' ⟨rfl, hg⟩
    exact ⟨2, rfl, .inl ⟨by decide, Res.same H E hg⟩⟩
  · by_cases hin : ∃ p, (x.id, p) ∈ l
    · obtain ⟨p, hp⟩ := hin
      refine (ins_dup t mb o l _ _ _ _ _ w H hwf hv p hp).mono ?_
      rintro e w' ⟨rfl, hg⟩
      exact ⟨7, rfl, .inl ⟨by decide, Res.same H E hg⟩⟩
    · have hni : ∀ y ∈ l, y.1 ≠ x.id := fun y hy e => hin ⟨y.2, by rw [← e]; exact hy⟩
      by_cases hf : l.length < 4096
      · refine (ins_ok t mb o l _ _ _ _ _ w H hwf hv hni hf).mono ?_
        rintro e w' ⟨rfl, o', p, hB, hP, hN, hC⟩
        refine ⟨0, rfl, .inr ⟨rfl, rfl, o', _, hB, ?_, hN, hC⟩⟩
        have hs : strike en x.id = en := strike_all fun y hy e => by
          have h1 : y.id ∈ (oLeaves o).map (·.id) := E.ids.mem_iff.1 (List.mem_map.2 ⟨y, hy, rfl⟩)
          obtain ⟨z, hz, hzi⟩ := List.mem_map.1 h1
          exact hni (z.id, z.p) (H.same.mem_iff.2 (List.mem_map.2 ⟨z, hz, rfl⟩)) (hzi.trans e)
        rw [hs]
        refine (hP.map toEn).trans ?_
        rw [List.map_cons]
        exact ((List.Perm.cons _ E).trans (List.perm_append_comm (l₁ := [_]) (l₂ := en)))
      · refine (ins_full t mb o l _ _ _ _ _ w H hwf hv hni (by omega)).mono ?_
        rintro e w' ⟨rfl, hg⟩
        exact ⟨9, rfl, .inl ⟨by decide, Res.same H E hg⟩⟩

theorem strike_cons {x0 : Lf} {Rm : List Lf} (nd : ((x0 :: Rm).map (·.id)).Nodup) : strike ((x0 :: Rm).map toEn) x0.id = Rm.map toEn := by
  simp only [List.map_cons, List.nodup_cons] at nd
  unfold strike
  rw [List.map_cons, List.filter_cons_of_neg (by simp [toEn])]
  refine strike_all (id := x0.id) fun y hy e => nd.1 ?_
  obtain ⟨z, hz, rfl⟩ := List.mem_map.1 hy
  exact List.mem_map.2 ⟨z, hz, e⟩
theorem Ents.strike {o : Option T} {en : List En} {x0 : Lf} {Rm : List Lf} (E : Ents o en) (nd : ((oLeaves o).map (·.id)).Nodup) (hP : (oLeaves o).Perm (x0 :: Rm)) : (strike en x0.id).Perm (Rm.map toEn) := by
  have h1 := strike_perm x0.id (E.symm.trans (hP.map toEn))
  rwa [strike_cons (((hP.map (·.id)).nodup_iff).1 nd)] at h1

theorem upd_any {t mb : Nat} {o : Option T} {l : List (Int × Nat)} {en : List En} {w : World} (H : Bvh w t mb o l) (E : Ents o en) (x : En) (hwf : (Lit.int .i64 x.id).wf = true) :
    Calls Try.prog 13 #[.pointer (some ⟨t, 0, none⟩), .int .i64 x.id, .agg #[.int .i64 x.a, .int .i64 x.b, .int .i64 x.c, .int .i64 x.d]] w fun e w' => ∃ c : Int, e = .returned (.int .i64 c) ∧
      ((c ≠ 0 ∧ Res w w' t mb o en) ∨ (c = 0 ∧ validB x.a x.b x.c x.d = true ∧ Res w w' t mb o (strike en x.id ++ [x]))) := by
  cases hv : validB x.a x.b x.c x.d
  · refine (upd_bad t mb o l _ _ _ _ _ w H hwf hv).mono ?_
    rintro e w' ⟨rfl, hg⟩
    exact ⟨2, rfl, .inl ⟨by decide, Res.same H E hg⟩⟩
  · by_cases hin : ∃ p, (x.id, p) ∈ l
    · obtain ⟨p, hp⟩ := hin
      refine (upd_ok t mb o l _ _ _ _ _ w H hwf hv p hp).mono ?_
      rintro e w' ⟨rfl, o', x0, Rm, hB, hxi, hP, hP', hN, hC⟩
      refine ⟨0, rfl, .inr ⟨rfl, rfl, o', _, hB, ?_, hN, hC⟩⟩
      rw [← hxi]
      refine (hP'.map toEn).trans ?_
      rw [List.map_cons]
      have hx : toEn ⟨p, x.id, x.a, x.b, x.c, x.d⟩ = x := rfl
      rw [hx]
      exact (List.perm_append_comm (l₁ := [x]) (l₂ := Rm.map toEn)).trans (List.Perm.append_right [x] (E.strike H.idsL hP).symm)
    · have hni : ∀ y ∈ l, y.1 ≠ x.id := fun y hy e => hin ⟨y.2, by rw [← e]; exact hy⟩
      refine (upd_miss t mb o l _ _ _ _ _ w H hwf hv hni).mono ?_
      rintro e w' ⟨rfl, hg⟩
      exact ⟨8, rfl, .inl ⟨by decide, Res.same H E hg⟩⟩

theorem rem_any {t mb : Nat} {o : Option T} {l : List (Int × Nat)} {en : List En} {w : World} (H : Bvh w t mb o l) (E : Ents o en) (id : Int) (hwf : (Lit.int .i64 id).wf = true) :
    Calls Try.prog 14 #[.pointer (some ⟨t, 0, none⟩), .int .i64 id] w fun e w' => ∃ β : Bool, e = .returned (.bool β) ∧ Res w w' t mb o (if β then strike en id else en) := by
  by_cases hin : ∃ p, (id, p) ∈ l
  · obtain ⟨p, hp⟩ := hin
    refine (rem_ok t mb o l id w H hwf p hp).mono ?_
    rintro e w' ⟨rfl, o', x0, hB, hxi, hP, hN, hC⟩
    refine ⟨true, rfl, o', _, hB, ?_, fun q hq => .inl (hN q hq), hC⟩
    rw [if_pos rfl, ← hxi]
    exact (E.strike H.idsL hP).symm
  · have hni : ∀ y ∈ l, y.1 ≠ id := fun y hy e => hin ⟨y.2, by rw [← e]; exact hy⟩
    refine (rem_miss t mb o l id w H hwf hni).mono ?_
    rintro e w' ⟨rfl, rfl⟩
    exact ⟨false, rfl, Res.same H E (Grw.refl _)⟩

theorem Res.after {w w0 w' : World} {t mb : Nat} {o : Option T} {en' : List En} (hg : Grw w w0) (h : Res w0 w' t mb o en') : Res w w' t mb o en' := by
  obtain ⟨o', l', h1, h2, h3, h4⟩ := h
  exact ⟨o', l', h1, h2, fun q hq => (h3 q hq).imp id fun h => Nat.le_trans hg.size h, ((OnlyChg.refl _ w).grw hg).trans h4⟩

def ApplyPost (w : World) (t mb : Nat) (o : Option T) (en : List En) (x : En) (r : Int) (e : Ending) (w' : World) : Prop := ∃ β : Bool, e = .returned (.bool β) ∧
      Res w w' t mb o (if β then strike en x.id ++ (if r = 2 then [] else [x]) else en) ∧ (β = true → r ≠ 2 → validB x.a x.b x.c x.d = true)

set_option maxHeartbeats 2000000 in
set_option maxRecDepth 100000 in
theorem apply_any {t mb : Nat} {o : Option T} {l : List (Int × Nat)} {en : List En} {w : World} (H : Bvh w t mb o l) (E : Ents o en) (op : Int) (x : En) (r : Int) (hr : Int.tmod op 3 = r) (hop : 0 ≤ op ∧ op < 256) (hwf : (Lit.int .i64 x.id).wf = true) :
    Calls Try.prog 5 #[.pointer (some ⟨t, 0, none⟩), .agg #[.int .u8 op, .int .i64 x.id, .int .i64 x.a, .int .i64 x.b, .int .i64 x.c, .int .i64 x.d]] w fun e w' => ApplyPost w t mb o en x r e w' := by
  have hg := (Grw.refl w).alloc (.cells #[.int .u8 op, .int .i64 x.id, .int .i64 x.a, .int .i64 x.b, .int .i64 x.c, .int .i64 x.d] 32)
  have h0 := ins_any (H.grw hg) E x hwf
  have h1 := upd_any (H.grw hg) E x hwf
  have h2 := rem_any (H.grw hg) E x.id hwf
  obtain ⟨id, a, b, c, d⟩ := x
  dsimp only at h0 h1 h2 ⊢
  have HG := Lib.hid hg
  clear hg H E hwf
  have hrr : r = 0 ∨ r = 1 ∨ r = 2 := by
    have h3 : op.tmod 3 = op % 3 := Int.tmod_eq_emod_of_nonneg hop.1
    omega
  rcases hrr with rfl | rfl | rfl
  · clear h1 h2
    go_enter Try.func5, Try.ntmps5
    go_wp2_with fail
    refine h0.mono ?_
    rintro e w' ⟨k, rfl, h⟩
    clear h0
    by_cases hk : k = 0
    · subst hk
      have HR := Lib.hid (h.resolve_left fun h => h.1 rfl)
      clear h
      go_wp2_with fail
      go_ret
      exact ⟨true, rfl, by simpa using HR.out.2.2.after HG.out, fun _ _ => HR.out.2.1⟩
    · have HR := Lib.hid (h.resolve_right fun h => hk h.1)
      clear h
      go_wp2_with fail
      go_ret
      exact ⟨false, ret_bool (by simp [hk]), by simpa using HR.out.2.after HG.out, by simp⟩
  · clear h0 h2
    go_enter Try.func5, Try.ntmps5
    go_wp2_with fail
    refine h1.mono ?_
    rintro e w' ⟨k, rfl, h⟩
    clear h1
    by_cases hk : k = 0
    · subst hk
      have HR := Lib.hid (h.resolve_left fun h => h.1 rfl)
      clear h
      go_wp2_with fail
      go_ret
      exact ⟨true, rfl, by simpa using HR.out.2.2.after HG.out, fun _ _ => HR.out.2.1⟩
    · have HR := Lib.hid (h.resolve_right fun h => hk h.1)
      clear h
      go_wp2_with fail
      go_ret
      exact ⟨false, ret_bool (by simp [hk]), by simpa using HR.out.2.after HG.out, by simp⟩
  · clear h0 h1
    go_enter Try.func5, Try.ntmps5
    go_wp2_with fail
    refine h2.mono ?_
    rintro e w' ⟨β, rfl, h⟩
    have HR := Lib.hid h
    clear h h2
    go_wp2_with fail
    go_ret
    exact ⟨β, rfl, by simpa using HR.out.after HG.out, by simp⟩

end Go.Proofs.Ytbnfngelkaembaa
