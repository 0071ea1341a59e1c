/- The walk of Pairs of package bvh. -/
import Derived.Test.YtbnfngelkaembaaA18
namespace Go.Proofs.Ytbnfngelkaembaa
open Go.RowKit Go.Sort

/-- the outer loop -/
def OutR (w : World) (base : Nat) (L : List Lf) (xs : List Int) (g : Nat) (v3 v17 : Value) (wr : World) : Prop :=
  ∃ (k : Nat) (ps : List (Int × Int)), v17 = .int .i64 k ∧ k ≤ xs.length ∧ xs.length - k ≤ g ∧ OwnP wr base v3 ps ∧ ps.Perm ((xs.take k).flatMap (prAt L L)) ∧ OnlyChg (fun _ => False) w wr
/-- the inner loop -/
def InR (w : World) (base bq : Nat) (a : Int) (ps : List (Int × Int)) (v31 : Value) (ys : List Int) (g : Nat) (v3 v33 : Value) (wr : World) : Prop :=
  ∃ (k : Nat), v33 = .int .i64 k ∧ k ≤ ys.length ∧ ys.length - k ≤ g ∧ OwnP wr base v3 (ps ++ ((ys.take k).filter (fun b => decide (a < b))).map (fun b => (a, b))) ∧ OwnI wr bq v31 ys ∧ OnlyChg (fun _ => False) w wr ∧
    (∀ b, v3.ownBlock = some b → v31.ownBlock ≠ some b)

theorem Rep.leafAt {w : World} {x : Lf} : ∀ {S : T} {par : Option Nat}, Rep w par S → x ∈ S.leaves → ∃ par', LeafAt w x par'
  | .leaf y, par, h, hx => by
    simp only [T.leaves, List.mem_singleton] at hx
    subst hx
    exact ⟨par, h⟩
  | .node p l r, par, h, hx => by
    simp only [T.leaves, List.mem_append] at hx
    rcases hx with hx | hx
    · exact Rep.leafAt h.2.1 hx
    · exact Rep.leafAt h.2.2 hx
theorem Bvh.leafAt {w : World} {t mb : Nat} {o : Option T} {l : List (Int × Nat)} (h : Bvh w t mb o l) {x : Lf} (hx : x ∈ oLeaves o) : ∃ par', LeafAt w x par' := by
  cases o with
  | none => simp [oLeaves] at hx
  | some S => exact h.tree.1.leafAt hx
theorem nm_lem (a n : Nat) : (a : Int) + 1 = ((a + 1 : Nat) : Int) := by omega

set_option maxHeartbeats 4000000 in
set_option maxRecDepth 100000 in
theorem pairs_any (t mb : Nat) (o : Option T) (l : List (Int × Nat)) (w : World) (H : Bvh w t mb o l) :
    Calls Try.prog 7 #[.pointer (some ⟨t, 0, none⟩)] w fun e w' => ∃ v ps, e = .returned v ∧ OwnP w' w.heap.size v ps ∧ ps.Perm ((oLeaves o).flatMap (prs (oLeaves o))) ∧ OnlyChg (fun _ => False) w w' := by
  have hr := H.tree.root
  obtain ⟨t0, t1⟩ := hr.facts
  have hids := ids_root t mb o l w H
  have hL := H.llen
  have HL := Lib.hid hL
  have HH := Lib.hid H
  have lt := hr.lt
  generalize ptrV (o.map T.ptr) = pv at t0 hids
  clear hr H hL
  go_enter Try.func7, Try.ntmps7
  go_wp2_with fail
  refine hids.mono ?_
  rintro e w1 ⟨v14, rfl, hO1, hC1⟩
  clear hids t0 t1
  have hasc := ascending_own w1 _ v14 _ hO1 (by have := HL.out; simp only [List.length_map]; omega)
  have hvn : ∀ k, v14.ownBlock = some k → w.heap.size ≤ k := fun k hk => (hO1.base_le k hk).1
  clear hO1
  go_wp2_with fail
  refine hasc.mono ?_
  rintro e w2 ⟨xs, rfl, hp, hO2, hC2⟩
  have hC : OnlyChg (fun _ => False) w w2 := ((hC1.mono fun _ _ h => h.elim : OnlyChg (fun k => w.heap.size ≤ k) w w1).trans (hC2.mono fun k _ h => hvn k h)).none fun k hk => hk
  clear hasc hvn hC1 hC2
  obtain ⟨pa, cap, rfl⟩ := hO2.slice
  have HO2 := Lib.hid hO2
  have HC := Lib.hid hC
  have HP := Lib.hid hp
  have HB2 := Lib.hid (HH.out.keep hC (by simp))
  have HW2 := Lib.hid hC.size
  have HXL : Hid (xs.length ≤ 4096) := by have := hp.length_eq; have h2 := HL.out; rw [List.length_map] at this; show xs.length ≤ 4096; omega
  have HND : Hid (((oLeaves o).map (·.id)).Nodup) := by
    have h1 := HH.out.same.map (·.1)
    rw [List.map_map] at h1
    exact (h1.nodup_iff).1 HH.out.ids
  clear hO2 hC hp HH
  go_wp2_with fail
  go_loopg [3, 17] xs.length (OutR w2 w2.heap.size (oLeaves o) xs)
  case atStart => exact ⟨0, [], rfl, Nat.zero_le _, by omega, OwnL.nil _ _ _ _ _, by simp, OnlyChg.refl _ _⟩
  case round =>
    obtain ⟨k, ps, rfl, hk, hg, hO3, hp3, hC3⟩ := hrel
    have HO3 := Lib.hid hO3
    have HP3 := Lib.hid hp3
    have HC3 := Lib.hid hC3
    clear hO3 hp3 hC3
    rcases Nat.lt_or_ge k xs.length with hlt | hge
    · obtain ⟨a, ha⟩ : ∃ a, xs[k]? = some a := ⟨xs[k], List.getElem?_eq_getElem hlt⟩
      obtain ⟨gb, rfl, hcx⟩ := OwnI.read (HO2.out.keep HC3.out (by simp)) ha
      have him : (k : Int) < (xs.length : Int) := by omega
      have hx4 : xs.length ≤ 4096 := HXL.out
      have hB := HB2.out.keep HC3.out (by simp)
      have ham : a ∈ (oLeaves o).map (·.id) := HP.out.mem_iff.1 (List.mem_of_getElem? ha)
      obtain ⟨x, hx, hxa⟩ := List.mem_map.1 ham
      have hxl : (x.id, x.p) ∈ l := hB.same.mem_iff.2 (List.mem_map.2 ⟨x, hx, rfl⟩)
      have hlook := hB.map.look_yes1 Try.underlying43 hB.ids hxl
      obtain ⟨par, hat⟩ := hB.leafAt hx
      have hn := NodeAt.facts hat
      obtain ⟨n0, n1, n2, n3, _⟩ := hn
      change wr.cell? ⟨x.p, 0, none⟩ = some (.int .i64 x.a) at n0
      change wr.cell? ⟨x.p, 1, none⟩ = some (.int .i64 x.b) at n1
      change wr.cell? ⟨x.p, 2, none⟩ = some (.int .i64 x.c) at n2
      change wr.cell? ⟨x.p, 3, none⟩ = some (.int .i64 x.d) at n3
      obtain ⟨_, t1⟩ := hB.tree.root.facts
      have hq := query_any t mb o l x.a x.b x.c x.d wr hB (hB.ok x hx)
      have HPA := Lib.hid (prAt_one (L := oLeaves o) HND.out hx)
      rw [hxa] at hlook HPA
      have HXA := Lib.hid hxa
      have HA := Lib.hid ha
      unfold ptrE at hlook
      clear hxl ham hx hxa hB hat ha
      go_wp2_with fail
      refine hq.mono ?_
      rintro e w4 ⟨v31, ys, rfl, hO4, hp4, hC4⟩
      obtain ⟨pa', cap', rfl⟩ := hO4.slice
      have HO4 := Lib.hid hO4
      have HP4 := Lib.hid hp4
      have HC4 := Lib.hid (HC3.out.trans hC4)
      have HO5 := Lib.hid (HO3.out.keep hC4 (by simp))
      have HV : Hid (∀ b, u3.ownBlock = some b → (Value.slice pa' ys.length cap').ownBlock ≠ some b) := fun b hb hb' => by have := (HO3.out.base_le b hb).2; have h2 := (hO4.base_le b hb').1; omega
      have HYL : Hid (ys.length ≤ 4096) := by have := hp4.length_eq; have h2 := HL.out; rw [List.length_map] at this; have h3 := List.length_filter_le (Lf.ov x.a x.b x.c x.d) (oLeaves o); show ys.length ≤ 4096; omega
      have HPL : Hid (ps.length ≤ 16777216) := by
        have h1 := HP3.out.length_eq
        have h2 := flat_len (prAt (oLeaves o) (oLeaves o)) 4096 (fun a => Nat.le_trans (prAt_len _ HND.out a) HL.out) (xs.take k)
        have h3 : (xs.take k).length ≤ 4096 := by have := HXL.out; rw [List.length_take]; omega
        show ps.length ≤ _
        omega
      clear hq hO4 hp4 hC4 n0 n1 n2 n3 t1 hlook hcx
      go_wp2_with fail
      go_loopg [3, 33] ys.length (InR w2 w2.heap.size wr.heap.size a ps (.slice pa' ys.length cap') ys)
      case atStart => exact ⟨0, rfl, Nat.zero_le _, by omega, by simpa using HO5.out, HO4.out, HC4.out, HV.out⟩
      case round =>
        obtain ⟨j, rfl, hj, hgj, hO6, hY6, hC6, hV6⟩ := hrel
        have HO6 := Lib.hid hO6
        have HY6 := Lib.hid hY6
        have HC6 := Lib.hid hC6
        have HV6 := Lib.hid hV6
        rcases Nat.lt_or_ge j ys.length with hlt2 | hge2
        · obtain ⟨b, hb⟩ : ∃ b, ys[j]? = some b := ⟨ys[j], List.getElem?_eq_getElem hlt2⟩
          obtain ⟨gy, rfl, hcy⟩ := OwnI.read hY6 hb
          have him2 : (j : Int) < (ys.length : Int) := by omega
          have HB := Lib.hid hb
          have htk : ys.take (j + 1) = ys.take j ++ [b] := by rw [List.take_add_one, hb]; rfl
          have HTK := Lib.hid htk
          have hy4 : ys.length ≤ 4096 := HYL.out
          clear hO6 hY6 hC6 hV6 hb htk
          by_cases hab : a < b
          · have hpl : (ps ++ ((ys.take j).filter (fun b => decide (a < b))).map (fun b => (a, b))).length ≤ 20000000 := by
              have := HPL.out
              have h2 := List.length_filter_le (fun b => decide (a < b)) (ys.take j)
              rw [List.length_append, List.length_map]
              rw [List.length_take] at h2
              omega
            have hb6 := HC6.out.size
            have HPE : Hid ((ps ++ ((ys.take j).filter (fun b => decide (a < b))).map (fun b => (a, b))) ++ [(a, b)] = ps ++ ((ys.take (j + 1)).filter (fun b => decide (a < b))).map (fun b => (a, b))) := by
              show _ = _
              rw [HTK.out, List.filter_append, List.map_append]
              simp [hab]
            go_wp2_with (at_builtin; refine wpList_push (enc := encP) (z := .agg #[.int .i64 0, .int .i64 0]) (size := 2) (bytes := 16) (fun _ => rfl) (by simp [encP, Value.oneCell']) w2.heap.size rfl _ _ rfl Try.underlying34 info56 rfl (by decide) (by decide) u3 _ (a, b) _ rfl rfl rfl HO6.out hb6 (by omega) ?_; intro v1 w7 hO7 hC7 hV7)
            have hC7' : OnlyChg (fun _ => False) w2 w7 := ((HC6.out.mono fun _ _ h => h.elim : OnlyChg (fun k => w2.heap.size ≤ k) w2 _).trans (hC7.mono fun q _ hq => (HO6.out.base_le q hq).1)).none fun k hk => hk
            have HC7 := Lib.hid hC7'
            have HO7 := Lib.hid (HPE.out ▸ hO7)
            have HY7 := Lib.hid (HY6.out.keep hC7 (fun q hq hq' => HV6.out q hq' hq))
            have HV7 := Lib.hid (show ∀ q, v1.ownBlock = some q → (Value.slice (some ⟨gy, 0, none⟩) ys.length cap').ownBlock ≠ some q from fun q hq hq' => hV7.elim (fun e => HV6.out q (e ▸ hq) hq') (fun ⟨q2, h1, h2⟩ => by rw [hq] at h1; cases h1; have := (HY6.out.base_le q hq').2; omega))
            clear hC7' hC7 hO7 hV7 hcy
            go_wp2_with fail
            go_roundg (ys.length - (j + 1))
            case measure => omega
            case rel => exact ⟨j + 1, by go_num, by omega, by omega, HO7.out, HY7.out, HC7.out, HV7.out⟩
          · have HPE : Hid ((ys.take (j + 1)).filter (fun b => decide (a < b)) = (ys.take j).filter (fun b => decide (a < b))) := by
              show _ = _
              rw [HTK.out, List.filter_append]
              simp [hab]
            go_wp2_with fail
            go_roundg (ys.length - (j + 1))
            case measure => omega
            case rel => exact ⟨j + 1, by go_num, by omega, by omega, by rw [HPE.out]; exact HO6.out, HY6.out, HC6.out, HV6.out⟩
        · obtain rfl : j = ys.length := by omega
          clear hO6 hY6 hC6 hV6
          go_wp2_with fail
          go_roundg (xs.length - (k + 1))
          case measure => omega
          case rel => 
            refine ⟨k + 1, _, by go_num, by omega, by omega, HO6.out, ?_, HC6.out⟩
            rw [List.take_length, List.take_add_one, HA.out]
            simp only [Option.toList, List.flatMap_append, List.flatMap_cons, List.flatMap_nil, List.append_nil, HPA.out]
            refine List.Perm.append HP3.out ?_
            unfold prs
            rw [HXA.out]
            exact (HP4.out.filter _).map _
    · obtain rfl : k = xs.length := by omega
      go_wp2_with fail
      go_ret
      refine ⟨u3, ps, rfl, HO3.out.rebase HW2.out, ?_, HC.out.trans HC3.out⟩
      have h1 := HP3.out
      rw [List.take_length] at h1
      exact h1.trans ((HP.out.flatMap_right _).trans (by rw [prAt_all HND.out]))

end Go.Proofs.Ytbnfngelkaembaa
