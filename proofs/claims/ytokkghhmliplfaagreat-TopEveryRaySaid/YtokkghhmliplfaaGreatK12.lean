/- The row TopEveryRay of the program holds; part 13 of the proof. No condition. -/
import Derived.Test.YtokkghhmliplfaaGreatK11
import Derived.KernelRfl
set_option maxRecDepth 100000
set_option maxHeartbeats 12800000
set_option linter.all false
namespace Go.Proofs.YtokkghhmliplfaaGreat
section
open Go.RowKit Go.Sort Go.Shelf
attribute [local go_sem] qAt qUpon okOp okUpon cell_in_grow frozen_in_grow encFixV_eq encBodyV_eq encJointV_eq encPkV_eq encPtV_eq encCtV_eq encMfV_eq encWorldV_eq
attribute [local go_sem ↓] loadAt31 storeAt31 loadAt99 storeAt99 loadAt44 storeAt44 loadAt58 storeAt58 loadAt70 storeAt70 loadAt25 storeAt25 loadAt94 storeAt94 loadAt143 storeAt143
attribute [local go_sem] run_bl31 run_bs31 run_bl99 run_bs99 run_bl44 run_bs44 run_bl58 run_bs58 run_bl70 run_bs70 run_bl25 run_bs25 run_bl94 run_bs94 run_bl143 run_bs143 there_new there_alloc have_in_grow cells_in_grow oc_int oc_bool oc_slice oc_all oc_cons oc_nil List.size_toArray List.length_cons List.length_nil
attribute [local go_sem high] eqR23 eqR94
noncomputable def raysS (W : WorldV) (fx fy tx ty m : Int) : List HitV := sortHits (raysOf W fx fy tx ty m)
theorem raysOf_sorted (W : WorldV) (fx fy tx ty m : Int) : (raysOf W fx fy tx ty m).Pairwise keyLt := by
 unfold raysOf
 split
 · rename_i h; exact bodiesHits_sorted _ (validate_bodies h).2.2
 · exact .nil
theorem raysOf_length (W : WorldV) (fx fy tx ty m : Int) : (raysOf W fx fy tx ty m).length ≤ 128 := by
 unfold raysOf
 split
 · rename_i h
   obtain ⟨h1, h2, _⟩ := validate_bodies h
   have := bodiesHits_length (fx := fx) (fy := fy) (tx := tx) (ty := ty) (m := m) W.bl fun b hb => bodyE_fl (h2 b hb)
   omega
 · simp
theorem raysS_spec {W : WorldV} {fx fy tx ty m : Int} {ys : List HitV} (h : ys.Perm (raysOf W fx fy tx ty m)) (hs : ys.Pairwise fun x y => ltOf qcompareI y x = false) : raysS W fx fy tx ty m = ys :=
 sortHits_eq h (strict_of_sorted h (raysOf_sorted W fx fy tx ty m) hs)
theorem rayAll_full (W : WorldV) (fx fy tx ty m : Int) (w : World) (h_W : WorldOk w W) :
   Calls Tryz.prog 12 #[.agg (encWorldV W).toArray, .agg #[.int .i64 fx, .int .i64 fy], .agg #[.int .i64 tx, .int .i64 ty], .int .i64 m] w fun e w' =>
     ∃ v ys, e = .returned v ∧ Grw w w' ∧ OwnL 48 7 encHitV w' w.heap.size v ys ∧ ys.Perm (raysOf W fx fy tx ty m) ∧ ys.Pairwise fun x y => ltOf qcompareI y x = false := by
 have H_W := Lib.hid h_W; clear h_W
 go_enter Tryz.func12, Tryz.ntmps12
 go_upto_region 2 with (fail)
 refine wp_gen (fun xw => Grw w xw ∧ Bk xw (w.heap.size) 31 (encWorldV W).toArray ∧ Bk xw (w.heap.size + 1) 23 #[.int .i64 fx, .int .i64 fy] ∧ Bk xw (w.heap.size + 1 + 1) 23 #[.int .i64 tx, .int .i64 ty] ∧ Bk xw (w.heap.size + 1 + 1 + 1) 51 #[.slice none 0 0]) ⟨((((Grw.refl w).alloc _).alloc _).alloc _).alloc _, (((Bk.new' (by simp)).alloc _).alloc _).alloc _, ((Bk.new' (by simp)).alloc _).alloc _, (Bk.new' (by simp)).alloc _, Bk.new' (by simp)⟩ ?_
 rintro w1 ⟨hw1, hB1, hF1, hT1, hH1⟩
 have gA1 : HaveAll w1 (w.heap.size) 0 11 := hB1.have 0 11 (Nat.le_of_ble_eq_true rfl)
 have gC1 : cellsAt w1 (w.heap.size) 0 11 = (encWorldV W).toArray := hB1.cells' 0 11 _ rfl rfl
 have HF1 := Lib.hid hF1; have HT1 := Lib.hid hT1; have HH1 := Lib.hid hH1
 clear hB1 hF1 hT1 hH1
 go_wp2_with fail
 (go_at_call 26; refine (forEach_any W m fx fy tx ty _ _ _ w w1 hw1 H_W.out HF1.out HT1.out HH1.out (by omega)).mono ?_; rintro e w2 ⟨rfl, v2, hw2, hH2, hO2⟩)
 have g2_0 : w2.cell? ⟨w.heap.size + 1 + 1 + 1, 0, none⟩ = some v2 := hH2.cell 0
 have HH2 := Lib.hid hH2; have HO2 := Lib.hid hO2
 have hs2 := hw2.size
 clear hH2 hO2 HF1 HT1 HH1 gA1 gC1 hw1
 have hlen := raysOf_length W fx fy tx ty m
 obtain ⟨xs, hxs⟩ : ∃ xs, xs = raysOf W fx fy tx ty m := ⟨_, rfl⟩
 rw [← hxs] at HO2 hlen
 have HXS := Lib.hid hxs; clear hxs
 have hform := HO2.out.form
 have HFm := Lib.hid hform; clear hform
 rcases HFm.out with ⟨rfl, _⟩ | ⟨g2, c2, rfl, _, _, _, _⟩
 · clear HFm
   go_wp2_with fail
   (go_at_call 28; refine (sortH_any HO2.out (by omega)).mono ?_; rintro e w3 ⟨rfl, ys, hp, hs, hO3, hC3⟩)
   have hH3 : Bk w3 (w.heap.size + 1 + 1 + 1) 51 #[.slice none 0 0] := (hC3.block _ HH2.out.lt (HO2.out.apart HH2.out (by decide))).trans HH2.out
   have hw3 : Grw w w3 := OnlyChg.near (S := fun k => w.heap.size ≤ k) ((OnlyChg.of_grw hw2).trans (hC3.mono fun k _ hk => (HO2.out.base_le k hk).1)) fun k h => h
   have g3_0 : w3.cell? ⟨w.heap.size + 1 + 1 + 1, 0, none⟩ = some (.slice none 0 0) := hH3.cell 0
   have HO3 := Lib.hid hO3; have HP := Lib.hid hp; have HS := Lib.hid hs
   clear hH3 hC3 hO3 hp hs g2_0 HH2 HO2
   go_wp2_with fail
   go_ret
   exact ⟨_, ys, rfl, hw3, HO3.out, by rw [← HXS.out]; exact HP.out, HS.out⟩
 · clear HFm
   go_wp2_with fail
   (go_at_call 28; refine (sortH_any HO2.out (by omega)).mono ?_; rintro e w3 ⟨rfl, ys, hp, hs, hO3, hC3⟩)
   have hH3 : Bk w3 (w.heap.size + 1 + 1 + 1) 51 #[.slice (some ⟨g2, 0, none⟩) xs.length c2] := (hC3.block _ HH2.out.lt (HO2.out.apart HH2.out (by decide))).trans HH2.out
   have hw3 : Grw w w3 := OnlyChg.near (S := fun k => w.heap.size ≤ k) ((OnlyChg.of_grw hw2).trans (hC3.mono fun k _ hk => (HO2.out.base_le k hk).1)) fun k h => h
   have g3_0 : w3.cell? ⟨w.heap.size + 1 + 1 + 1, 0, none⟩ = some (.slice (some ⟨g2, 0, none⟩) xs.length c2) := hH3.cell 0
   have HO3 := Lib.hid hO3; have HP := Lib.hid hp; have HS := Lib.hid hs
   clear hH3 hC3 hO3 hp hs g2_0 HH2 HO2
   go_wp2_with fail
   go_ret
   exact ⟨_, ys, rfl, hw3, HO3.out, by rw [← HXS.out]; exact HP.out, HS.out⟩
theorem raysS_length (W : WorldV) (fx fy tx ty m : Int) : (raysS W fx fy tx ty m).length ≤ 128 := by
 have h := raysOf_length W fx fy tx ty m
 unfold raysS sortHits
 split
 · rename_i h1
   rw [h1.choose_spec.1.length_eq]; exact h
 · exact h
theorem rayAll_any (W : WorldV) (fx fy tx ty m : Int) (w : World) (h_W : WorldOk w W) :
   Calls Tryz.prog 12 #[.agg (encWorldV W).toArray, .agg #[.int .i64 fx, .int .i64 fy], .agg #[.int .i64 tx, .int .i64 ty], .int .i64 m] w fun e w' =>
     ∃ a' c', e = .returned (.slice a' (raysS W fx fy tx ty m).length c') ∧ Grw w w' ∧ Sl 7 encHitV w' a' (raysS W fx fy tx ty m) :=
 (rayAll_full W fx fy tx ty m w h_W).mono fun e w' ⟨v, ys, he, hg, ho, hp, hs⟩ => by
   obtain ⟨a', c', hv, h2, _⟩ := OwnL.sl (enc := encHitV) (size := 7) (fun _ => rfl) ho
   rw [raysS_spec hp hs]
   exact ⟨a', c', by rw [he, hv], hg, h2⟩
end
section
open Go.RowKit Go.Sort
attribute [local go_sem] qAt qUpon okOp okUpon cell_in_grow frozen_in_grow encFixV_eq encBodyV_eq encJointV_eq encPkV_eq encPtV_eq encCtV_eq encMfV_eq encWorldV_eq encHitV_eq encShapeV_eq
attribute [local go_sem ↓] loadAt31 storeAt31 loadAt99 storeAt99 loadAt44 storeAt44 loadAt58 storeAt58 loadAt70 storeAt70 loadAt25 storeAt25 loadAt94 storeAt94 loadAt143 storeAt143
attribute [local go_sem] run_bl31 run_bs31 run_bl99 run_bs99 run_bl44 run_bs44 run_bl58 run_bs58 run_bl70 run_bs70 run_bl25 run_bs25 run_bl94 run_bs94 run_bl143 run_bs143 there_new there_alloc have_in_grow cells_in_grow oc_int oc_bool oc_slice oc_all oc_cons oc_nil List.size_toArray List.length_cons List.length_nil
attribute [local go_sem high] eqR23 eqR94 eqR48
noncomputable def rayFirstB (W : WorldV) (fx fy tx ty m : Int) : Int × Int × Int × Int × Int × Int × Int × Bool := let r2 : List HitV := raysS W fx fy tx ty m; bif (r2.length : Int) == 0 then ((0, 0, 0, 0, 0, 0, 0, false)) else (((nth r2 0 HitV.d).body, (nth r2 0 HitV.d).fix, (nth r2 0 HitV.d).t, (nth r2 0 HitV.d).px, (nth r2 0 HitV.d).py, (nth r2 0 HitV.d).nx, (nth r2 0 HitV.d).ny, true))
theorem rayFirst_any (W : WorldV) (fx fy tx ty m : Int) (w : World) (h_W : WorldOk w W) :
   Calls Tryz.prog 11 #[.agg (encWorldV W).toArray, .agg #[.int .i64 (fx), .int .i64 (fy)], .agg #[.int .i64 (tx), .int .i64 (ty)], .int .i64 (m)] w fun e w' => e = .returned (.tuple #[.agg #[.int .i64 ((rayFirstB W fx fy tx ty m).1), .int .i64 ((rayFirstB W fx fy tx ty m).2.1), .int .i64 ((rayFirstB W fx fy tx ty m).2.2.1), .int .i64 ((rayFirstB W fx fy tx ty m).2.2.2.1), .int .i64 ((rayFirstB W fx fy tx ty m).2.2.2.2.1), .int .i64 ((rayFirstB W fx fy tx ty m).2.2.2.2.2.1), .int .i64 ((rayFirstB W fx fy tx ty m).2.2.2.2.2.2.1)], .bool ((rayFirstB W fx fy tx ty m).2.2.2.2.2.2.2)]) ∧ Grw w w' := by
 have H_W := Lib.hid h_W; clear h_W
 go_enter Tryz.func11, Tryz.ntmps11
 go_upto_region 1 with (fail)
 refine wp_gen (fun xw => Grw w xw ∧ Bk xw (w.heap.size) 31 (encWorldV W).toArray ∧ Bk xw (w.heap.size + 1) 23 #[.int .i64 (fx), .int .i64 (fy)] ∧ Bk xw (w.heap.size + 1 + 1) 23 #[.int .i64 (tx), .int .i64 (ty)] ∧ Bk xw (w.heap.size + 1 + 1 + 1) 48 #[.int .i64 (0), .int .i64 (0), .int .i64 (0), .int .i64 (0), .int .i64 (0), .int .i64 (0), .int .i64 (0)]) ⟨(((((Grw.refl w)).alloc _).alloc _).alloc _).alloc _, ((((Bk.new' (by simp))).alloc _).alloc _).alloc _, (((Bk.new' (by simp))).alloc _).alloc _, ((Bk.new' (by simp))).alloc _, (Bk.new' (by simp))⟩ ?_
 rintro w1 ⟨hw1, hB1_0, hB1_1, hB1_2, hB1_3⟩
 have gA1_0_0_11 : HaveAll w1 (w.heap.size) 0 11 := hB1_0.have 0 11 (Nat.le_of_ble_eq_true rfl)
 have gC1_0_0_11 : cellsAt w1 (w.heap.size) 0 11 = (encWorldV W).toArray := hB1_0.cells' 0 11 _ rfl rfl
 have g1_0_l := hB1_0.lt
 have g1_1_0 : w1.cell? ⟨w.heap.size + 1, 0, none⟩ = some (.int .i64 (fx)) := hB1_1.cell 0
 have g1_1_1 : w1.cell? ⟨w.heap.size + 1, 1, none⟩ = some (.int .i64 (fy)) := hB1_1.cell 1
 have g1_1_l := hB1_1.lt
 have g1_2_0 : w1.cell? ⟨w.heap.size + 1 + 1, 0, none⟩ = some (.int .i64 (tx)) := hB1_2.cell 0
 have g1_2_1 : w1.cell? ⟨w.heap.size + 1 + 1, 1, none⟩ = some (.int .i64 (ty)) := hB1_2.cell 1
 have g1_2_l := hB1_2.lt
 have g1_3_l := hB1_3.lt
 have HB1 := Lib.hid (show _ ∧ _ ∧ _ ∧ _ from ⟨hB1_0, hB1_1, hB1_2, hB1_3⟩); clear hB1_0 hB1_1 hB1_2 hB1_3
 go_wp2_with fail
 (go_at_call 12; refine (rayAll_any W fx fy tx ty m _ (H_W.out.grw (hw1))).mono ?_; rintro e w2 ⟨a2, c2, rfl, hg2, hs2⟩)
 obtain ⟨r2, hr2⟩ : ∃ r : List HitV, r = raysS W fx fy tx ty m := ⟨_, rfl⟩
 rw [← hr2] at hs2
 (try simp only [← hr2])
 have R2 := Lib.hid hr2; clear hr2
 obtain ⟨b0, b1, b2, b3⟩ := HB1.out
 have hB2_0 : Bk w2 (w.heap.size) 31 (encWorldV W).toArray := (b0).grw hg2
 have hB2_1 : Bk w2 (w.heap.size + 1) 23 #[.int .i64 (fx), .int .i64 (fy)] := (b1).grw hg2
 have hB2_2 : Bk w2 (w.heap.size + 1 + 1) 23 #[.int .i64 (tx), .int .i64 (ty)] := (b2).grw hg2
 have hB2_3 : Bk w2 (w.heap.size + 1 + 1 + 1) 48 #[.int .i64 (0), .int .i64 (0), .int .i64 (0), .int .i64 (0), .int .i64 (0), .int .i64 (0), .int .i64 (0)] := (b3).grw hg2
 have hB2_4 : Sl 7 encHitV w2 a2 r2 := hs2
 have hw2 : Grw w w2 := (hw1).trans hg2
 have hs2 : w.heap.size + 1 + 1 + 1 < w2.heap.size := by have h1 := hg2.size; have h2 := g1_3_l; (try simp at h1); omega
 have g2_0_l := hB2_0.lt
 have g2_1_l := hB2_1.lt
 have g2_2_l := hB2_2.lt
 have g2_3_0 : w2.cell? ⟨w.heap.size + 1 + 1 + 1, 0, none⟩ = some (.int .i64 (0)) := hB2_3.cell 0
 have g2_3_1 : w2.cell? ⟨w.heap.size + 1 + 1 + 1, 1, none⟩ = some (.int .i64 (0)) := hB2_3.cell 1
 have g2_3_2 : w2.cell? ⟨w.heap.size + 1 + 1 + 1, 2, none⟩ = some (.int .i64 (0)) := hB2_3.cell 2
 have g2_3_3 : w2.cell? ⟨w.heap.size + 1 + 1 + 1, 3, none⟩ = some (.int .i64 (0)) := hB2_3.cell 3
 have g2_3_4 : w2.cell? ⟨w.heap.size + 1 + 1 + 1, 4, none⟩ = some (.int .i64 (0)) := hB2_3.cell 4
 have g2_3_5 : w2.cell? ⟨w.heap.size + 1 + 1 + 1, 5, none⟩ = some (.int .i64 (0)) := hB2_3.cell 5
 have g2_3_6 : w2.cell? ⟨w.heap.size + 1 + 1 + 1, 6, none⟩ = some (.int .i64 (0)) := hB2_3.cell 6
 have g2_3_f := hB2_3.frozen
 have g2_3_l := hB2_3.lt
 have HB2 := Lib.hid (show _ ∧ _ ∧ _ ∧ _ ∧ _ from ⟨hB2_0, hB2_1, hB2_2, hB2_3, hB2_4⟩); clear hB2_0 hB2_1 hB2_2 hB2_3 hB2_4
 clear gA1_0_0_11 gC1_0_0_11 g1_0_l g1_1_0 g1_1_1 g1_1_l g1_2_0 g1_2_1 g1_2_l g1_3_l b0 b1 b2 b3 HB1 hw1 hg2
 cases hc3 : ((r2.length : Int) == 0)
 · have hi4 : 0 < r2.length := by have qhc3 := ne_of_beq_false' hc3; omega
   have hx4 : r2[0]? = some (nth r2 0 HitV.d) := getD_of _ hi4
   obtain ⟨bx4, ox4, he4, hbx4, hcx4⟩ := (HB2.out.2.2.2.2) 0 _ hx4; clear hx4
   have gx4_0 : w2.cell? ⟨bx4, ox4, none⟩ = some (.int .i64 ((nth r2 0 HitV.d).body)) := by simpa [Nat.add_assoc] using hcx4 0 _ rfl
   have gx4_1 : w2.cell? ⟨bx4, ox4 + 1, none⟩ = some (.int .i64 ((nth r2 0 HitV.d).fix)) := by simpa [Nat.add_assoc] using hcx4 1 _ rfl
   have gx4_2 : w2.cell? ⟨bx4, ox4 + 2, none⟩ = some (.int .i64 ((nth r2 0 HitV.d).t)) := by simpa [Nat.add_assoc] using hcx4 2 _ rfl
   have gx4_3 : w2.cell? ⟨bx4, ox4 + 3, none⟩ = some (.int .i64 ((nth r2 0 HitV.d).px)) := by simpa [Nat.add_assoc] using hcx4 3 _ rfl
   have gx4_4 : w2.cell? ⟨bx4, ox4 + 4, none⟩ = some (.int .i64 ((nth r2 0 HitV.d).py)) := by simpa [Nat.add_assoc] using hcx4 4 _ rfl
   have gx4_5 : w2.cell? ⟨bx4, ox4 + 5, none⟩ = some (.int .i64 ((nth r2 0 HitV.d).nx)) := by simpa [Nat.add_assoc] using hcx4 5 _ rfl
   have gx4_6 : w2.cell? ⟨bx4, ox4 + 6, none⟩ = some (.int .i64 ((nth r2 0 HitV.d).ny)) := by simpa [Nat.add_assoc] using hcx4 6 _ rfl
   go_wp2_with fail
   have hF : rayFirstB W fx fy tx ty m = ((nth r2 0 HitV.d).body, (nth r2 0 HitV.d).fix, (nth r2 0 HitV.d).t, (nth r2 0 HitV.d).px, (nth r2 0 HitV.d).py, (nth r2 0 HitV.d).nx, (nth r2 0 HitV.d).ny, true) := by unfold rayFirstB; first | rfl | (simp only [← R2.out, hc3, cond_true, cond_false]; done) | (simp only [← R2.out, hc3, cond_true, cond_false]; rfl) | simp [← R2.out, hc3]
   refine bodyPost_ret (v := .tuple #[.agg #[.int .i64 ((nth r2 0 HitV.d).body), .int .i64 ((nth r2 0 HitV.d).fix), .int .i64 ((nth r2 0 HitV.d).t), .int .i64 ((nth r2 0 HitV.d).px), .int .i64 ((nth r2 0 HitV.d).py), .int .i64 ((nth r2 0 HitV.d).nx), .int .i64 ((nth r2 0 HitV.d).ny)], .bool (true)]) (by simp [results, Tryz.results11, go_sem, g2_0_l, g2_1_l, g2_2_l, g2_3_0, g2_3_1, g2_3_2, g2_3_3, g2_3_4, g2_3_5, g2_3_6, g2_3_f, g2_3_l]) rfl ⟨by rw [hF], ?_⟩
   exact (((((((hw2).setAt (by omega) _).setAt (by omega) _).setAt (by omega) _).setAt (by omega) _).setAt (by omega) _).setAt (by omega) _).setAt (by omega) _
 · go_wp2_with fail
   have hF : rayFirstB W fx fy tx ty m = (0, 0, 0, 0, 0, 0, 0, false) := by unfold rayFirstB; first | rfl | (simp only [← R2.out, hc3, cond_true, cond_false]; done) | (simp only [← R2.out, hc3, cond_true, cond_false]; rfl) | simp [← R2.out, hc3]
   refine bodyPost_ret (v := .tuple #[.agg #[.int .i64 (0), .int .i64 (0), .int .i64 (0), .int .i64 (0), .int .i64 (0), .int .i64 (0), .int .i64 (0)], .bool (false)]) (by simp [results, Tryz.results11, go_sem, g2_0_l, g2_1_l, g2_2_l, g2_3_0, g2_3_1, g2_3_2, g2_3_3, g2_3_4, g2_3_5, g2_3_6, g2_3_f, g2_3_l]) rfl ⟨by rw [hF], ?_⟩
   exact (((((((hw2).setAt (by omega) _).setAt (by omega) _).setAt (by omega) _).setAt (by omega) _).setAt (by omega) _).setAt (by omega) _).setAt (by omega) _
end
section
open Go.RowKit Go.Sort
theorem qless_total (x y : HitV) : (!qlessB y x || !qlessB x y) = true := by
 cases h1 : qlessB y x
 · rfl
 · cases h2 : qlessB x y
   · rfl
   · exact (qless_asymm x y h2 h1).elim
theorem raysS_perm (W : WorldV) (fx fy tx ty m : Int) : (raysS W fx fy tx ty m).Perm (raysOf W fx fy tx ty m) ∧ (raysS W fx fy tx ty m).Pairwise fun x y => qlessB x y = true := by
 have hp := List.mergeSort_perm (raysOf W fx fy tx ty m) fun x y => !qlessB y x
 have hs := List.pairwise_mergeSort (le := fun x y => !qlessB y x) (fun a b c h1 h2 => by
   simp only [Bool.not_eq_true', Bool.eq_false_iff, ne_eq, qless_iff] at *; omega) (fun a b => qless_total a b) (raysOf W fx fy tx ty m)
 have hs' : ((raysOf W fx fy tx ty m).mergeSort fun x y => !qlessB y x).Pairwise fun x y => ltOf qcompareI y x = false := hs.imp fun {x y} h => by
   simp only [Bool.not_eq_true', Bool.eq_false_iff, ne_eq, qless_iff] at h
   simp only [ltOf, decide_eq_false_iff_not, qcompare_lt]
   omega
 rw [raysS_spec hp hs']
 exact ⟨hp, strict_of_sorted hp (raysOf_sorted W fx fy tx ty m) hs'⟩
section
variable {W : WorldV} {fx fy tx ty m : Int}
theorem raysS_len : (raysS W fx fy tx ty m).length = (raysOf W fx fy tx ty m).length := (raysS_perm W fx fy tx ty m).1.length_eq
theorem raysS_least {x : HitV} (h : x ∈ raysOf W fx fy tx ty m) : qlessB x (nth (raysS W fx fy tx ty m) 0 HitV.d) = false := by
 obtain ⟨h1, h2⟩ := raysS_perm W fx fy tx ty m
 have hx := h1.mem_iff.2 h
 generalize raysS W fx fy tx ty m = S at h1 h2 hx
 match S, hx, h2 with
 | y :: S, hx, h2 =>
   show qlessB x y = false
   rw [Bool.eq_false_iff]
   intro hl
   rcases List.mem_cons.1 hx with rfl | hx
   · exact qless_asymm _ _ hl hl
   · exact qless_asymm _ _ hl ((List.pairwise_cons.1 h2).1 x hx)
theorem raysS_head_zero {x : HitV} (h : x ∈ raysOf W fx fy tx ty m) (h0 : x.t = 0) : (nth (raysS W fx fy tx ty m) 0 HitV.d).t = 0 := by
 have h1 := raysS_least h
 rw [Bool.eq_false_iff, ne_eq, qless_iff] at h1
 have hm : nth (raysS W fx fy tx ty m) 0 HitV.d ∈ raysOf W fx fy tx ty m := by
   have hp := (raysS_perm W fx fy tx ty m).1
   refine hp.mem_iff.1 ?_
   have hx := hp.mem_iff.2 h
   generalize raysS W fx fy tx ty m = S at hx
   match S, hx with
   | y :: S, _ => exact List.mem_cons_self ..
 have h2 : 0 ≤ (nth (raysS W fx fy tx ty m) 0 HitV.d).t := by
   unfold raysOf at hm
   split at hm
   · exact bodiesHits_nonneg hm
   · cases hm
 omega
theorem raysS_step {i : Nat} (h1 : 1 ≤ i) (h2 : i < (raysS W fx fy tx ty m).length) : qlessB (nth (raysS W fx fy tx ty m) (i - 1) HitV.d) (nth (raysS W fx fy tx ty m) i HitV.d) = true := by
 have h := (raysS_perm W fx fy tx ty m).2
 generalize raysS W fx fy tx ty m = S at h h2
 rw [List.pairwise_iff_getElem] at h
 have := h (i - 1) i (by omega) h2 (by omega)
 simpa [nth, List.getD, List.getElem?_eq_getElem h2, List.getElem?_eq_getElem (show i - 1 < S.length by omega)] using this
end
def eqH (x y : HitV) : Bool := eqB48 x.body x.fix x.t x.px x.py x.nx x.ny y.body y.fix y.t y.px y.py y.nx y.ny
theorem eqH_self (x : HitV) : eqH x x = true := by simp [eqH, eqB48]
theorem found_take (S : List HitV) (x : HitV) (q : Nat) (y : HitV) (h : S[q]? = some y) : (S.take (q + 1)).any (fun z => eqH z x) = ((S.take q).any (fun z => eqH z x) || eqH y x) := by
 rw [List.take_add_one, h]; simp
theorem found_all {S : List HitV} {x : HitV} (h : x ∈ S) : S.any (fun z => eqH z x) = true := List.any_eq_true.2 ⟨x, h, eqH_self x⟩
theorem hit_mem {W : WorldV} {fx fy tx ty m : Int} (hv : validateE W = 0) {i k : Nat} {b : BodyV} {f : FixV} {x : HitV} (hb : W.bl[i]? = some b) (hf : b.fl[k]? = some f) (hx : hitOf fx fy tx ty m b k f = some x) : x ∈ raysOf W fx fy tx ty m := by
 unfold raysOf
 rw [if_pos hv]
 exact List.mem_flatMap.2 ⟨b, List.mem_of_getElem? hb, fixHits_mem.2 ⟨k, f, hf, by simpa using hx⟩⟩
end
section
open Go.RowKit Go.Sort
attribute [local go_sem] qAt qUpon okOp okUpon cell_in_grow frozen_in_grow encFixV_eq encBodyV_eq encJointV_eq encPkV_eq encPtV_eq encCtV_eq encMfV_eq encWorldV_eq
attribute [local go_sem ↓] loadAt31 storeAt31 loadAt99 storeAt99 loadAt44 storeAt44 loadAt58 storeAt58 loadAt70 storeAt70 loadAt25 storeAt25 loadAt94 storeAt94 loadAt143 storeAt143
attribute [local go_sem] run_bl31 run_bs31 run_bl99 run_bs99 run_bl44 run_bs44 run_bl58 run_bs58 run_bl70 run_bs70 run_bl25 run_bs25 run_bl94 run_bs94 run_bl143 run_bs143 there_new there_alloc have_in_grow cells_in_grow oc_int oc_bool oc_slice oc_all oc_cons oc_nil List.size_toArray List.length_cons List.length_nil
attribute [local go_sem high] eqR23 eqR94
attribute [local go_sem] encHitV_eq
attribute [local go_sem high] eqR48
def TrueAt (f : FuncId) : Prop := ∀ w : World, Calls Tryz.prog f #[] w fun e w' => e = .returned (.bool true) ∧ Grw w w'
noncomputable def hdH (W : WorldV) (fx fy tx ty m : Int) : HitV := nth (raysS W fx fy tx ty m) 0 HitV.d
theorem rayFirstB_eq (W : WorldV) (fx fy tx ty m : Int) : rayFirstB W fx fy tx ty m = ((hdH W fx fy tx ty m).body, (hdH W fx fy tx ty m).fix, (hdH W fx fy tx ty m).t, (hdH W fx fy tx ty m).px, (hdH W fx fy tx ty m).py, (hdH W fx fy tx ty m).nx, (hdH W fx fy tx ty m).ny, !((raysS W fx fy tx ty m).length : Int) == 0) := by
 unfold rayFirstB hdH
 cases h : (((raysS W fx fy tx ty m).length : Int) == 0)
 · simp only [h, cond_false, Bool.not_false]
 · have h0 : raysS W fx fy tx ty m = [] := by
     have : ((raysS W fx fy tx ty m).length : Int) = 0 := eq_of_beq h
     exact List.length_eq_zero_iff.1 (by omega)
   rw [h0]; rfl
theorem rayFirst_x (W : WorldV) (fx fy tx ty m : Int) (w : World) (h_W : WorldOk w W) :
   Calls Tryz.prog 11 #[.agg (encWorldV W).toArray, .agg #[.int .i64 fx, .int .i64 fy], .agg #[.int .i64 tx, .int .i64 ty], .int .i64 m] w fun e w' =>
     e = .returned (.tuple #[.agg (encHitV (hdH W fx fy tx ty m)).toArray, .bool (!((raysS W fx fy tx ty m).length : Int) == 0)]) ∧ Grw w w' := by
 refine (rayFirst_any W fx fy tx ty m w h_W).mono ?_
 rintro e w' ⟨rfl, hg⟩
 refine ⟨?_, hg⟩
 rw [rayFirstB_eq]
 rfl
theorem raysS_bad {W : WorldV} (fx fy tx ty m : Int) (h : ¬ validateE W = 0) : raysS W fx fy tx ty m = [] := by
 have := raysS_len (W := W) (fx := fx) (fy := fy) (tx := tx) (ty := ty) (m := m)
 unfold raysOf at this
 rw [if_neg h] at this
 exact List.length_eq_zero_iff.1 this
theorem ray_bad (hstep : TrueAt 7) (W : WorldV) (fx fy tx ty m : Int) (w : World) (h_W : WorldOk w W) (hv : ¬ validateE W = 0) :
   Calls Tryz.prog 4 #[.agg (encWorldV W).toArray, .agg #[.int .i64 fx, .int .i64 fy], .agg #[.int .i64 tx, .int .i64 ty], .int .i64 m] w fun e w' => e = .returned (.bool true) ∧ Grw w w' := by
 have H_W := Lib.hid h_W; have HS := Lib.hid (raysS_bad fx fy tx ty m hv); have HST := Lib.hid hstep; clear h_W hstep
 have hvb : (validateE W != 0) = true := by simpa using hv
 have HV := Lib.hid hvb; clear hvb hv
 go_enter Tryz.func4, Tryz.ntmps4
 go_upto_region 1 with (fail)
 refine wp_gen (fun xw => Grw w xw ∧ Bk xw (w.heap.size) 31 (encWorldV W).toArray ∧ Bk xw (w.heap.size + 1) 23 #[.int .i64 fx, .int .i64 fy] ∧ Bk xw (w.heap.size + 1 + 1) 23 #[.int .i64 tx, .int .i64 ty]) ⟨(((Grw.refl w).alloc _).alloc _).alloc _, ((Bk.new' (by simp)).alloc _).alloc _, (Bk.new' (by simp)).alloc _, Bk.new' (by simp)⟩ ?_
 rintro w1 ⟨hw1, hB1, hF1, hT1⟩
 have gA1 : HaveAll w1 (w.heap.size) 0 11 := hB1.have 0 11 (Nat.le_of_ble_eq_true rfl)
 have gC1 : cellsAt w1 (w.heap.size) 0 11 = (encWorldV W).toArray := hB1.cells' 0 11 _ rfl rfl
 have g1_0 : w1.cell? ⟨w.heap.size + 1, 0, none⟩ = some (.int .i64 fx) := hF1.cell 0
 have g1_1 : w1.cell? ⟨w.heap.size + 1, 1, none⟩ = some (.int .i64 fy) := hF1.cell 1
 have g1_2 : w1.cell? ⟨w.heap.size + 1 + 1, 0, none⟩ = some (.int .i64 tx) := hT1.cell 0
 have g1_3 : w1.cell? ⟨w.heap.size + 1 + 1, 1, none⟩ = some (.int .i64 ty) := hT1.cell 1
 have HB1 := Lib.hid hB1; have HF1 := Lib.hid hF1; have HT1 := Lib.hid hT1; clear hB1 hF1 hT1
 go_wp2_with fail
 (go_at_call 11; refine (rayFirst_x W fx fy tx ty m _ (H_W.out.grw hw1)).mono ?_; rintro e w2 ⟨rfl, hg2⟩)
 rw [HS.out]
 have hw2 := hw1.trans hg2
 have hB2 := HB1.out.grw hg2
 have hF2 := HF1.out.grw hg2
 have hT2 := HT1.out.grw hg2
 have gA2 : HaveAll w2 (w.heap.size) 0 11 := hB2.have 0 11 (Nat.le_of_ble_eq_true rfl)
 have gC2 : cellsAt w2 (w.heap.size) 0 11 = (encWorldV W).toArray := hB2.cells' 0 11 _ rfl rfl
 have g2_0 : w2.cell? ⟨w.heap.size + 1, 0, none⟩ = some (.int .i64 fx) := hF2.cell 0
 have g2_1 : w2.cell? ⟨w.heap.size + 1, 1, none⟩ = some (.int .i64 fy) := hF2.cell 1
 have g2_2 : w2.cell? ⟨w.heap.size + 1 + 1, 0, none⟩ = some (.int .i64 tx) := hT2.cell 0
 have g2_3 : w2.cell? ⟨w.heap.size + 1 + 1, 1, none⟩ = some (.int .i64 ty) := hT2.cell 1
 have HB2 := Lib.hid hB2; have HF2 := Lib.hid hF2; have HT2 := Lib.hid hT2; clear hB2 hF2 hT2
 clear HB1 HF1 HT1 hw1 hg2 gA1 gC1 g1_0 g1_1 g1_2 g1_3
 have hs2 : w.heap.size + 1 + 1 < w2.heap.size := HT2.out.lt
 have b1 := HB2.out; have b2 := HF2.out; have b3 := HT2.out
 go_upto_region 2 with (fail)
 refine wp_gen (fun xw => Grw w xw ∧ Bk xw (w.heap.size) 31 (encWorldV W).toArray ∧ Bk xw (w.heap.size + 1) 23 #[.int .i64 fx, .int .i64 fy] ∧ Bk xw (w.heap.size + 1 + 1) 23 #[.int .i64 tx, .int .i64 ty]) ⟨by (repeat with_reducible first | exact .refl _ | assumption | refine .setAt ?_ (by first | omega | simp <;> omega) _ | refine .setCells ?_ (by first | omega | simp <;> omega) _ | refine .alloc ?_ _ | refine .drewN ?_ _ | refine .drew ?_ | refine .trans ?_ (by assumption)), by (repeat' first | (with_reducible first | assumption | apply Bk.set' | apply Bk.far | apply Bk.setAll' | apply Bk.farCells | exact Bk.new' (by simp) | refine Bk.alloc ?_ _ | refine Bk.drew ?_) | refine Bk.grw ?_ (by with_reducible assumption) | omega | rfl), by (repeat' first | (with_reducible first | assumption | apply Bk.set' | apply Bk.far | apply Bk.setAll' | apply Bk.farCells | exact Bk.new' (by simp) | refine Bk.alloc ?_ _ | refine Bk.drew ?_) | refine Bk.grw ?_ (by with_reducible assumption) | omega | rfl), by (repeat' first | (with_reducible first | assumption | apply Bk.set' | apply Bk.far | apply Bk.setAll' | apply Bk.farCells | exact Bk.new' (by simp) | refine Bk.alloc ?_ _ | refine Bk.drew ?_) | refine Bk.grw ?_ (by with_reducible assumption) | omega | rfl)⟩ ?_
 rintro w3 ⟨hw3, hB3, hF3, hT3⟩
 have gA3 : HaveAll w3 (w.heap.size) 0 11 := hB3.have 0 11 (Nat.le_of_ble_eq_true rfl)
 have gC3 : cellsAt w3 (w.heap.size) 0 11 = (encWorldV W).toArray := hB3.cells' 0 11 _ rfl rfl
 have g3_0 : w3.cell? ⟨w.heap.size + 1, 0, none⟩ = some (.int .i64 fx) := hF3.cell 0
 have g3_1 : w3.cell? ⟨w.heap.size + 1, 1, none⟩ = some (.int .i64 fy) := hF3.cell 1
 have g3_2 : w3.cell? ⟨w.heap.size + 1 + 1, 0, none⟩ = some (.int .i64 tx) := hT3.cell 0
 have g3_3 : w3.cell? ⟨w.heap.size + 1 + 1, 1, none⟩ = some (.int .i64 ty) := hT3.cell 1
 have HB3 := Lib.hid hB3; have HF3 := Lib.hid hF3; have HT3 := Lib.hid hT3; clear hB3 hF3 hT3
 clear b1 b2 b3 HB2 HF2 HT2 hw2 gA2 gC2 g2_0 g2_1 g2_2 g2_3
 go_wp2_with fail
 (go_at_call 12; refine (rayAll_any W fx fy tx ty m _ (H_W.out.grw hw3)).mono ?_; rintro e w4 ⟨a4, c4, rfl, hg4, _⟩)
 rw [HS.out]
 have hw4 := hw3.trans hg4
 have hB4 := HB3.out.grw hg4
 have hF4 := HF3.out.grw hg4
 have hT4 := HT3.out.grw hg4
 have gA4 : HaveAll w4 (w.heap.size) 0 11 := hB4.have 0 11 (Nat.le_of_ble_eq_true rfl)
 have gC4 : cellsAt w4 (w.heap.size) 0 11 = (encWorldV W).toArray := hB4.cells' 0 11 _ rfl rfl
 have g4_0 : w4.cell? ⟨w.heap.size + 1, 0, none⟩ = some (.int .i64 fx) := hF4.cell 0
 have g4_1 : w4.cell? ⟨w.heap.size + 1, 1, none⟩ = some (.int .i64 fy) := hF4.cell 1
 have g4_2 : w4.cell? ⟨w.heap.size + 1 + 1, 0, none⟩ = some (.int .i64 tx) := hT4.cell 0
 have g4_3 : w4.cell? ⟨w.heap.size + 1 + 1, 1, none⟩ = some (.int .i64 ty) := hT4.cell 1
 have HB4 := Lib.hid hB4; have HF4 := Lib.hid hF4; have HT4 := Lib.hid hT4; clear hB4 hF4 hT4
 clear HB3 HF3 HT3 hw3 hg4 gA3 gC3 g3_0 g3_1 g3_2 g3_3
 go_wp2_with fail
 (go_at_call 5; refine (validate_any W _ (H_W.out.grw hw4)).mono ?_; rintro e w5 ⟨rfl, hg5⟩)
 have hvv := HV.out
 have hw5 := hw4.trans hg5
 have hB5 := HB4.out.grw hg5
 have hF5 := HF4.out.grw hg5
 have hT5 := HT4.out.grw hg5
 have gA5 : HaveAll w5 (w.heap.size) 0 11 := hB5.have 0 11 (Nat.le_of_ble_eq_true rfl)
 have gC5 : cellsAt w5 (w.heap.size) 0 11 = (encWorldV W).toArray := hB5.cells' 0 11 _ rfl rfl
 have g5_0 : w5.cell? ⟨w.heap.size + 1, 0, none⟩ = some (.int .i64 fx) := hF5.cell 0
 have g5_1 : w5.cell? ⟨w.heap.size + 1, 1, none⟩ = some (.int .i64 fy) := hF5.cell 1
 have g5_2 : w5.cell? ⟨w.heap.size + 1 + 1, 0, none⟩ = some (.int .i64 tx) := hT5.cell 0
 have g5_3 : w5.cell? ⟨w.heap.size + 1 + 1, 1, none⟩ = some (.int .i64 ty) := hT5.cell 1
 have HB5 := Lib.hid hB5; have HF5 := Lib.hid hF5; have HT5 := Lib.hid hT5; clear hB5 hF5 hT5
 clear HB4 HF4 HT4 hw4 hg5 gA4 gC4 g4_0 g4_1 g4_2 g4_3
 go_wp2_with fail
 (go_at_call 7; refine (HST.out _).mono ?_; rintro e w6 ⟨rfl, hg6⟩)
 have hw6 := hw5.trans hg6
 go_wp2_with fail
 go_ret
 exact ⟨rfl, hw6⟩
theorem ray_good (hstep : TrueAt 7) (hray : TrueAt 17) (W : WorldV) (fx fy tx ty m : Int) (w : World) (h_W : WorldOk w W) (hv : validateE W = 0) :
   Calls Tryz.prog 4 #[.agg (encWorldV W).toArray, .agg #[.int .i64 fx, .int .i64 fy], .agg #[.int .i64 tx, .int .i64 ty], .int .i64 m] w fun e w' => e = .returned (.bool true) ∧ Grw w w' := by
 have H_W := Lib.hid h_W; have HST := Lib.hid hstep; have HRY := Lib.hid hray; clear h_W hstep hray
 have hvb : (validateE W != 0) = false := by simpa using hv
 have HV := Lib.hid hvb; have HV0 := Lib.hid hv; clear hvb hv
 have hSlen := raysS_length W fx fy tx ty m
 obtain ⟨S, hS⟩ : ∃ S, S = raysS W fx fy tx ty m := ⟨_, rfl⟩
 obtain ⟨H, hH⟩ : ∃ H, H = hdH W fx fy tx ty m := ⟨_, rfl⟩
 rw [← hS] at hSlen
 have HS := Lib.hid hS; have HHD := Lib.hid hH; clear hS hH
 go_enter Tryz.func4, Tryz.ntmps4
 go_upto_region 1 with (fail)
 refine wp_gen (fun xw => Grw w xw ∧ Bk xw (w.heap.size) 31 (encWorldV W).toArray ∧ Bk xw (w.heap.size + 1) 23 #[.int .i64 fx, .int .i64 fy] ∧ Bk xw (w.heap.size + 1 + 1) 23 #[.int .i64 tx, .int .i64 ty]) ⟨(((Grw.refl w).alloc _).alloc _).alloc _, ((Bk.new' (by simp)).alloc _).alloc _, (Bk.new' (by simp)).alloc _, Bk.new' (by simp)⟩ ?_
 rintro w1 ⟨hw1, hB1, hF1, hT1⟩
 have gA1 : HaveAll w1 (w.heap.size) 0 11 := hB1.have 0 11 (Nat.le_of_ble_eq_true rfl)
 have gC1 : cellsAt w1 (w.heap.size) 0 11 = (encWorldV W).toArray := hB1.cells' 0 11 _ rfl rfl
 have g1_0 : w1.cell? ⟨w.heap.size + 1, 0, none⟩ = some (.int .i64 fx) := hF1.cell 0
 have g1_1 : w1.cell? ⟨w.heap.size + 1, 1, none⟩ = some (.int .i64 fy) := hF1.cell 1
 have g1_2 : w1.cell? ⟨w.heap.size + 1 + 1, 0, none⟩ = some (.int .i64 tx) := hT1.cell 0
 have g1_3 : w1.cell? ⟨w.heap.size + 1 + 1, 1, none⟩ = some (.int .i64 ty) := hT1.cell 1
 have HB1 := Lib.hid hB1; have HF1 := Lib.hid hF1; have HT1 := Lib.hid hT1; clear hB1 hF1 hT1
 go_wp2_with fail
 (go_at_call 11; refine (rayFirst_x W fx fy tx ty m _ (H_W.out.grw hw1)).mono ?_; rintro e w2 ⟨rfl, hg2⟩)
 rw [← HS.out, ← HHD.out]
 have hw2 := hw1.trans hg2
 have hB2 := HB1.out.grw hg2
 have hF2 := HF1.out.grw hg2
 have hT2 := HT1.out.grw hg2
 have gA2 : HaveAll w2 (w.heap.size) 0 11 := hB2.have 0 11 (Nat.le_of_ble_eq_true rfl)
 have gC2 : cellsAt w2 (w.heap.size) 0 11 = (encWorldV W).toArray := hB2.cells' 0 11 _ rfl rfl
 have g2_0 : w2.cell? ⟨w.heap.size + 1, 0, none⟩ = some (.int .i64 fx) := hF2.cell 0
 have g2_1 : w2.cell? ⟨w.heap.size + 1, 1, none⟩ = some (.int .i64 fy) := hF2.cell 1
 have g2_2 : w2.cell? ⟨w.heap.size + 1 + 1, 0, none⟩ = some (.int .i64 tx) := hT2.cell 0
 have g2_3 : w2.cell? ⟨w.heap.size + 1 + 1, 1, none⟩ = some (.int .i64 ty) := hT2.cell 1
 have HB2 := Lib.hid hB2; have HF2 := Lib.hid hF2; have HT2 := Lib.hid hT2; clear hB2 hF2 hT2
 clear HB1 HF1 HT1 hw1 hg2 gA1 gC1 g1_0 g1_1 g1_2 g1_3
 have hs2 : w.heap.size + 1 + 1 < w2.heap.size := HT2.out.lt
 have b1 := HB2.out; have b2 := HF2.out; have b3 := HT2.out
 go_upto_region 2 with (fail)
 refine wp_gen (fun xw => Grw w xw ∧ Bk xw (w.heap.size) 31 (encWorldV W).toArray ∧ Bk xw (w.heap.size + 1) 23 #[.int .i64 fx, .int .i64 fy] ∧ Bk xw (w.heap.size + 1 + 1) 23 #[.int .i64 tx, .int .i64 ty] ∧ Bk xw w2.heap.size 48 #[.int .i64 (H.body), .int .i64 (H.fix), .int .i64 (H.t), .int .i64 (H.px), .int .i64 (H.py), .int .i64 (H.nx), .int .i64 (H.ny)]) ⟨hw2.alloc _, b1.alloc _, b2.alloc _, b3.alloc _, Bk.new' (by simp)⟩ ?_
 rintro w3 ⟨hw3, hB3, hF3, hT3, hH3⟩
 have HH3 := Lib.hid hH3; clear hH3
 have gA3 : HaveAll w3 (w.heap.size) 0 11 := hB3.have 0 11 (Nat.le_of_ble_eq_true rfl)
 have gC3 : cellsAt w3 (w.heap.size) 0 11 = (encWorldV W).toArray := hB3.cells' 0 11 _ rfl rfl
 have g3_0 : w3.cell? ⟨w.heap.size + 1, 0, none⟩ = some (.int .i64 fx) := hF3.cell 0
 have g3_1 : w3.cell? ⟨w.heap.size + 1, 1, none⟩ = some (.int .i64 fy) := hF3.cell 1
 have g3_2 : w3.cell? ⟨w.heap.size + 1 + 1, 0, none⟩ = some (.int .i64 tx) := hT3.cell 0
 have g3_3 : w3.cell? ⟨w.heap.size + 1 + 1, 1, none⟩ = some (.int .i64 ty) := hT3.cell 1
 have HB3 := Lib.hid hB3; have HF3 := Lib.hid hF3; have HT3 := Lib.hid hT3; clear hB3 hF3 hT3
 clear b1 b2 b3 HB2 HF2 HT2 hw2 gA2 gC2 g2_0 g2_1 g2_2 g2_3
 go_wp2_with fail
 (go_at_call 12; refine (rayAll_any W fx fy tx ty m _ (H_W.out.grw hw3)).mono ?_; rintro e w4 ⟨a4, c4, rfl, hg4, hS4⟩)
 rw [← HS.out] at hS4
 rw [← HS.out]
 have HSL4 := Lib.hid hS4; have HH4 := Lib.hid (HH3.out.grw hg4); clear hS4 HH3
 have hw4 := hw3.trans hg4
 have hB4 := HB3.out.grw hg4
 have hF4 := HF3.out.grw hg4
 have hT4 := HT3.out.grw hg4
 have gA4 : HaveAll w4 (w.heap.size) 0 11 := hB4.have 0 11 (Nat.le_of_ble_eq_true rfl)
 have gC4 : cellsAt w4 (w.heap.size) 0 11 = (encWorldV W).toArray := hB4.cells' 0 11 _ rfl rfl
 have g4_0 : w4.cell? ⟨w.heap.size + 1, 0, none⟩ = some (.int .i64 fx) := hF4.cell 0
 have g4_1 : w4.cell? ⟨w.heap.size + 1, 1, none⟩ = some (.int .i64 fy) := hF4.cell 1
 have g4_2 : w4.cell? ⟨w.heap.size + 1 + 1, 0, none⟩ = some (.int .i64 tx) := hT4.cell 0
 have g4_3 : w4.cell? ⟨w.heap.size + 1 + 1, 1, none⟩ = some (.int .i64 ty) := hT4.cell 1
 have HB4 := Lib.hid hB4; have HF4 := Lib.hid hF4; have HT4 := Lib.hid hT4; clear hB4 hF4 hT4
 clear HB3 HF3 HT3 hw3 hg4 gA3 gC3 g3_0 g3_1 g3_2 g3_3
 go_wp2_with fail
 (go_at_call 5; refine (validate_any W _ (H_W.out.grw hw4)).mono ?_; rintro e w5 ⟨rfl, hg5⟩)
 have hvv := HV.out
 have HSL5 := Lib.hid (HSL4.out.grw hg5); have HH5 := Lib.hid (HH4.out.grw hg5); clear HSL4 HH4
 have hw5 := hw4.trans hg5
 have hB5 := HB4.out.grw hg5
 have hF5 := HF4.out.grw hg5
 have hT5 := HT4.out.grw hg5
 have gA5 : HaveAll w5 (w.heap.size) 0 11 := hB5.have 0 11 (Nat.le_of_ble_eq_true rfl)
 have gC5 : cellsAt w5 (w.heap.size) 0 11 = (encWorldV W).toArray := hB5.cells' 0 11 _ rfl rfl
 have g5_0 : w5.cell? ⟨w.heap.size + 1, 0, none⟩ = some (.int .i64 fx) := hF5.cell 0
 have g5_1 : w5.cell? ⟨w.heap.size + 1, 1, none⟩ = some (.int .i64 fy) := hF5.cell 1
 have g5_2 : w5.cell? ⟨w.heap.size + 1 + 1, 0, none⟩ = some (.int .i64 tx) := hT5.cell 0
 have g5_3 : w5.cell? ⟨w.heap.size + 1 + 1, 1, none⟩ = some (.int .i64 ty) := hT5.cell 1
 have HB5 := Lib.hid hB5; have HF5 := Lib.hid hF5; have HT5 := Lib.hid hT5; clear hB5 hF5 hT5
 clear HB4 HF4 HT4 hw4 hg5 gA4 gC4 g4_0 g4_1 g4_2 g4_3
 have hbl := (validate_bodies HV0.out).1
 have HLF := Lib.hid (show ∀ b ∈ W.bl, b.fl.length ≤ 4 from fun b hb => bodyE_fl ((validate_bodies HV0.out).2.1 b hb))
 have h5l : w2.heap.size < w5.heap.size := HH5.out.lt
 have h5a : w.heap.size + 1 + 1 < w2.heap.size := hs2
 clear gA5 gC5 g5_0 g5_1 g5_2 g5_3
 go_wp2_with fail
 go_loopg [13, 12] W.bl.length (fun gm v13 v12 xw => ∃ (i N : Nat), v13 = .int .i64 i ∧ v12 = .int .i64 N ∧ N = (bodiesHits fx fy tx ty m (W.bl.take i)).length ∧ i ≤ W.bl.length ∧ W.bl.length - i ≤ gm ∧ Grw w5 xw)
 case atStart => exact ⟨0, 0, rfl, rfl, rfl, Nat.zero_le _, Nat.le_refl _, Grw.refl _⟩
 case round =>
 obtain ⟨i, N, rfl, rfl, hN, hi, hgm, hv6⟩ := hrel
 obtain ⟨w6, rfl⟩ : ∃ x, x = wr := ⟨_, rfl⟩
 have HG6 := Lib.hid hgm; have HN := Lib.hid hN; clear hgm hN
 have g6_5 : w6.cell? ⟨w.heap.size, 5, none⟩ = some (.slice (W.ba) (W.bl.length) (W.bc)) := (HB5.out.grw hv6).cell 5
 rcases Nat.lt_or_ge i W.bl.length with hlt | hge
 · obtain ⟨x, hx⟩ : ∃ x, W.bl[i]? = some x := ⟨W.bl[i], List.getElem?_eq_getElem hlt⟩
   obtain ⟨bx, ox, he, hbx, gEA, gEC⟩ := (H_W.out.b.grw (hw5.trans hv6)).big (fun _ => rfl) hx
   replace gEC : cellsAt w6 bx (ox + i * 20) 20 = (encBodyV x).toArray := gEC
   have HRx := Lib.hid (H_W.out.bx _ (List.mem_of_getElem? hx))
   have HBT := Lib.hid (bodiesHits_take (fx := fx) (fy := fy) (tx := tx) (ty := ty) (m := m) W.bl i x hx)
   have hfl := HLF.out x (List.mem_of_getElem? hx)
   have hpre : (bodiesHits fx fy tx ty m (W.bl.take i)).length ≤ 4 * 32 := by
     have h1 := bodiesHits_length (fx := fx) (fy := fy) (tx := tx) (ty := ty) (m := m) (W.bl.take i) fun b hb => HLF.out b (List.mem_of_mem_take hb)
     have h2 : (W.bl.take i).length ≤ 32 := by simp; omega
     omega
   rw [← HN.out] at hpre
   have HX := Lib.hid hx; clear hx
   have hq5 := hv6.size
   go_upto_region 10 with (fail)
   refine wp_gen (fun xw => Grw w5 xw ∧ Bk xw (w6.heap.size) 44 (encBodyV x).toArray) ⟨((hv6).alloc _).setCells hq5 _, ((Bk.new' (by simp))).setAll' rfl rfl⟩ ?_
   rintro w7 ⟨hv7, hX7⟩
   have h7l := hX7.lt
   have HX7 := Lib.hid hX7; clear hX7 hv6 g6_5 gEA gEC hbx hq5 he
   go_wp2_with fail
   go_loopg [15, 12] x.fl.length (fun gm v15 v12 xw => ∃ (k M : Nat), v15 = .int .i64 k ∧ v12 = .int .i64 M ∧ M = N + (fixHits fx fy tx ty m x (x.fl.take k) 0).length ∧ k ≤ x.fl.length ∧ x.fl.length - k ≤ gm ∧ Grw w7 xw)
   case atStart => exact ⟨0, N, rfl, rfl, by rw [List.take_zero]; rfl, Nat.zero_le _, Nat.le_refl _, Grw.refl _⟩
   case round =>
   obtain ⟨k, M, rfl, rfl, hM, hk, hgm, hv8⟩ := hrel
   obtain ⟨w8, rfl⟩ : ∃ x, x = wr := ⟨_, rfl⟩
   have HG8 := Lib.hid hgm; have HM := Lib.hid hM; clear hgm hM
   have g8_19 : w8.cell? ⟨w6.heap.size, 19, none⟩ = some (.slice x.fa x.fl.length x.fc) := (HX7.out.grw hv8).cell 19
   rcases Nat.lt_or_ge k x.fl.length with hlk | hgk
   · have hf := getD_of FixV.d hlk
     obtain ⟨f, hff⟩ : ∃ f, f = nth x.fl k FixV.d := ⟨_, rfl⟩
     rw [← hff] at hf
     have hw8 : Grw w w8 := (hw5.trans hv7).trans hv8
     obtain ⟨bf, of, hef, hbf, gFA, gFC⟩ := (HRx.out.1.grw hw8).big (fun _ => rfl) hf
     replace gFC : cellsAt w8 bf (of + k * 10) 10 = (encFixV f).toArray := gFC
     have HFT := Lib.hid (fixHits_take (fx := fx) (fy := fy) (tx := tx) (ty := ty) (m := m) x x.fl k f hf)
     have HRf := Lib.hid (HRx.out.2.2 _ (List.mem_of_getElem? hf))
     have hMl : M ≤ 200 := by
       have h1 := fixHits_length (fx := fx) (fy := fy) (tx := tx) (ty := ty) (m := m) x (x.fl.take k) 0
       have h2 : (x.fl.take k).length ≤ 4 := by simp; omega
       rw [HM.out]; omega
     have HF := Lib.hid hf; clear hf hff
     have hq7 := hv8.size
     go_upto_region 14 with (fail)
     refine wp_gen (fun xw => Grw w7 xw ∧ Bk xw (w8.heap.size) 58 (encFixV f).toArray) ⟨((hv8).alloc _).setCells hq7 _, ((Bk.new' (by simp))).setAll' rfl rfl⟩ ?_
     rintro w9 ⟨hv9, hX9⟩
     have g9_0 : w9.cell? ⟨w8.heap.size, 0, none⟩ = some (.int .i64 f.k) := hX9.cell 0
     have g9_1 : w9.cell? ⟨w8.heap.size, 1, none⟩ = some (.int .i64 f.r) := hX9.cell 1
     have g9_2 : w9.cell? ⟨w8.heap.size, 2, none⟩ = some (.slice f.va f.vl.length f.vc) := hX9.cell 2
     have g9_6 : w9.cell? ⟨w8.heap.size, 6, none⟩ = some (.bool f.sen) := hX9.cell 6
     have g9_7 : w9.cell? ⟨w8.heap.size, 7, none⟩ = some (.int .i64 f.cat) := hX9.cell 7
     have hB9 := HX7.out.grw hv9
     have y9_2 : w9.cell? ⟨w6.heap.size, 2, none⟩ = some (.int .i64 x.px) := hB9.cell 2
     have y9_3 : w9.cell? ⟨w6.heap.size, 3, none⟩ = some (.int .i64 x.py) := hB9.cell 3
     have y9_4 : w9.cell? ⟨w6.heap.size, 4, none⟩ = some (.int .i64 x.an) := hB9.cell 4
     have hF9 := HF5.out.grw (hv7.trans hv9)
     have hT9 := HT5.out.grw (hv7.trans hv9)
     have z9_0 : w9.cell? ⟨w.heap.size + 1, 0, none⟩ = some (.int .i64 fx) := hF9.cell 0
     have z9_1 : w9.cell? ⟨w.heap.size + 1, 1, none⟩ = some (.int .i64 fy) := hF9.cell 1
     have z9_2 : w9.cell? ⟨w.heap.size + 1 + 1, 0, none⟩ = some (.int .i64 tx) := hT9.cell 0
     have z9_3 : w9.cell? ⟨w.heap.size + 1 + 1, 1, none⟩ = some (.int .i64 ty) := hT9.cell 1
     have HX9 := Lib.hid hX9; clear hX9 hB9 hF9 hT9 gFA gFC hbf hv8 g8_19 hq7 hw8 hef
     cases hsen : f.sen
     case true =>
       have HN1 := Lib.hid (show M = N + (fixHits fx fy tx ty m x (x.fl.take (k + 1)) 0).length by rw [HFT.out, hitOf_off (show consideredB f m = false by unfold consideredB; rw [hsen]; rfl), Option.toList_none, List.append_nil]; exact HM.out)
       go_wp2_with fail
       have hgm := HG8.out
       go_roundg (x.fl.length - (k + 1))
       case measure => omega
       case rel => exact ⟨k + 1, M, by go_num, rfl, HN1.out, by omega, Nat.le_refl _, hv9⟩
     case false =>
     cases hcat : (bits .and .i64 f.cat m == 0)
     case true =>
       have HN1 := Lib.hid (show M = N + (fixHits fx fy tx ty m x (x.fl.take (k + 1)) 0).length by rw [HFT.out, hitOf_off (show consideredB f m = false by unfold consideredB; simp only [bne, hcat, Bool.not_true, Bool.and_false]), Option.toList_none, List.append_nil]; exact HM.out)
       go_wp2_with fail
       have hgm := HG8.out
       go_roundg (x.fl.length - (k + 1))
       case measure => omega
       case rel => exact ⟨k + 1, M, by go_num, rfl, HN1.out, by omega, Nat.le_refl _, hv9⟩
     case false =>
     have HCN := Lib.hid (show consideredB f m = true by unfold consideredB; simp only [bne, hcat, hsen, Bool.not_false, Bool.and_true])
     go_wp2_with fail
     have hv59 := hv7.trans hv9
     (go_at_call 13; refine (cast_any ⟨f.k, f.r, f.va, f.vc, f.vl⟩ x.px x.py x.an fx fy tx ty _ ⟨(HRf.out.1.grw (hw5.trans hv59)), HRf.out.2⟩).mono ?_; rintro e wa ⟨rfl, hga⟩)
     obtain ⟨q, hq⟩ : ∃ q, q = castF ⟨f.k, f.r, f.va, f.vc, f.vl⟩ x.px x.py x.an fx fy tx ty := ⟨_, rfl⟩
     rw [← hq]
     obtain ⟨q1, q2, q3, q4⟩ := q
     have HQ := Lib.hid hq; clear hq
     have hva : Grw w7 wa := hv9.trans hga
     have ya_0 : wa.cell? ⟨w6.heap.size, 0, none⟩ = some (.int .i64 x.id) := (HX7.out.grw hva).cell 0
     have za_0 := hga.cell z9_0
     have za_1 := hga.cell z9_1
     have za_2 := hga.cell z9_2
     have za_3 := hga.cell z9_3
     have HXa := Lib.hid (HX9.out.grw hga)
     clear g9_0 g9_1 g9_2 g9_6 g9_7 y9_2 y9_3 y9_4 z9_0 z9_1 z9_2 z9_3 HX9 hga hv9 hv59
     cases q4
     case false =>
       have HN1 := Lib.hid (show M = N + (fixHits fx fy tx ty m x (x.fl.take (k + 1)) 0).length by rw [HFT.out, show hitOf fx fy tx ty m x k f = none from if_neg (fun h => by rw [← HQ.out] at h; cases h.2), Option.toList_none, List.append_nil]; exact HM.out)
       go_wp2_with fail
       have hgm := HG8.out
       go_roundg (x.fl.length - (k + 1))
       case measure => omega
       case rel => exact ⟨k + 1, M, by go_num, rfl, HN1.out, by omega, Nat.le_refl _, (hva.alloc _)⟩
     case true =>
     have HHT := Lib.hid (show hitOf fx fy tx ty m x k f = some ⟨x.id, (k : Int), q1, lerpI fx tx q1, lerpI fy ty q1, q2, q3⟩ by
       unfold hitOf
       rw [← HQ.out, HCN.out, if_pos ⟨rfl, rfl⟩])
     have HMEM := Lib.hid (hit_mem HV0.out HX.out HF.out HHT.out)
     obtain ⟨y, hy⟩ : ∃ y : HitV, y = ⟨x.id, (k : Int), q1, lerpI fx tx q1, lerpI fy ty q1, q2, q3⟩ := ⟨_, rfl⟩
     have HY := Lib.hid hy; clear hy
     have hla : w8.heap.size < wa.heap.size := HXa.out.lt
     have hl7 := hva.size
     go_upto_region 17 with (fail)
     have xa := HXa.out
     refine wp_gen (fun xw => Grw w7 xw ∧ Bk xw wa.heap.size 23 #[.int .i64 q2, .int .i64 q3] ∧ Bk xw w8.heap.size 58 (encFixV f).toArray) ⟨hva.alloc _, Bk.new' (by simp), xa.alloc _⟩ ?_
     rintro wb ⟨hvb, hQb, hXb⟩
     have HXb := Lib.hid hXb; clear hXb xa
     have gb_0 : wb.cell? ⟨wa.heap.size, 0, none⟩ = some (.int .i64 q2) := hQb.cell 0
     have gb_1 : wb.cell? ⟨wa.heap.size, 1, none⟩ = some (.int .i64 q3) := hQb.cell 1
     have hlb := hQb.lt
     have hw6l : w6.heap.size < w7.heap.size := HX7.out.lt
     have yb_0 : wb.cell? ⟨w6.heap.size, 0, none⟩ = some (.int .i64 x.id) := (HX7.out.grw hvb).cell 0
     have hFb := HF5.out.grw (hv7.trans hvb)
     have hTb := HT5.out.grw (hv7.trans hvb)
     have zb_0 : wb.cell? ⟨w.heap.size + 1, 0, none⟩ = some (.int .i64 fx) := hFb.cell 0
     have zb_1 : wb.cell? ⟨w.heap.size + 1, 1, none⟩ = some (.int .i64 fy) := hFb.cell 1
     have zb_2 : wb.cell? ⟨w.heap.size + 1 + 1, 0, none⟩ = some (.int .i64 tx) := hTb.cell 0
     have zb_3 : wb.cell? ⟨w.heap.size + 1 + 1, 1, none⟩ = some (.int .i64 ty) := hTb.cell 1
     have fl1 := hFb.lt; have fl2 := hTb.lt; have fl3 : w6.heap.size < wb.heap.size := (HX7.out.grw hvb).lt
     clear hFb hTb hQb ya_0 za_0 za_1 za_2 za_3
     refine wp_region_flowB 10 (by kernel_rfl) (by kernel_rfl) ?_
     simp only [tD]
     iterate 7 (refine wpQ_step (fun K hK => ?_); go_simp; refine hK _ ?_; clear hK K)
     refine wpQ_step (fun K hK => ?_); go_simp; apply Exists.intro; refine ⟨fun _ => ?_, hK _ ?_⟩; (go_at_call 14; exact (vlerp_any _ _ _ _ _ _)); clear hK K
     iterate 2 (refine wpQ_step (fun K hK => ?_); go_simp; refine hK _ ?_; clear hK K)
     refine wpQ_nil ?_
     intro wc hgc
     have hAc : wb.heap.size ≤ wc.heap.size := hgc.size
     refine okList_step (fun wd hwd K hK => ?_)
     have hAd : wb.heap.size ≤ wd.heap.size := (show Grw wb wd by (repeat with_reducible first | exact .refl _ | assumption | refine .setAt ?_ (by first | omega | simp <;> omega) _ | refine .setCells ?_ (by first | omega | simp <;> omega) _ | refine .alloc ?_ _ | refine .drewN ?_ _ | refine .drew ?_ | refine .trans ?_ (by assumption))).size
     go_simp; refine hK _ _ (by (repeat with_reducible first | exact .refl _ | assumption | refine .setAt ?_ (by first | omega | simp <;> omega) _ | refine .setCells ?_ (by first | omega | simp <;> omega) _ | refine .alloc ?_ _ | refine .drewN ?_ _ | refine .drew ?_ | refine .trans ?_ (by assumption))) ?_; clear hK K
     have hN := Bk.new wd 48 #[.int .i64 0, .int .i64 0, .int .i64 0, .int .i64 0, .int .i64 0, .int .i64 0, .int .i64 0]
     refine okList_step (fun we hwe K hK => ?_)
     replace hN := hN.grw hwe
     have gn_0 : we.cell? ⟨wd.heap.size, 0, none⟩ = some (.int .i64 0) := hN.cell 0
     have gn_1 : we.cell? ⟨wd.heap.size, 1, none⟩ = some (.int .i64 0) := hN.cell 1
     have gn_2 : we.cell? ⟨wd.heap.size, 2, none⟩ = some (.int .i64 0) := hN.cell 2
     have gn_3 : we.cell? ⟨wd.heap.size, 3, none⟩ = some (.int .i64 0) := hN.cell 3
     have gn_4 : we.cell? ⟨wd.heap.size, 4, none⟩ = some (.int .i64 0) := hN.cell 4
     have gn_5 : we.cell? ⟨wd.heap.size, 5, none⟩ = some (.int .i64 0) := hN.cell 5
     have gn_6 : we.cell? ⟨wd.heap.size, 6, none⟩ = some (.int .i64 0) := hN.cell 6
     have gn_f := hN.frozen
     go_simp; refine hK _ _ (by (repeat with_reducible first | exact .refl _ | assumption | refine .setAt ?_ (by first | omega | simp <;> omega) _ | refine .setCells ?_ (by first | omega | simp <;> omega) _ | refine .alloc ?_ _ | refine .drewN ?_ _ | refine .drew ?_ | refine .trans ?_ (by assumption))) ?_; clear hK K gn_f gn_0 gn_1 gn_2 gn_3 gn_4 gn_5 gn_6
     replace hN := hN.set 0 (.int .i64 x.id)
     replace hN := hN.set 1 (.int .i64 (k : Int))
     replace hN := hN.set 2 (.int .i64 q1)
     replace hN := hN.set 3 (.int .i64 (lerpI fx tx q1))
     replace hN := hN.set 4 (.int .i64 (lerpI fy ty q1))
     replace hN := hN.set 5 (.int .i64 q2)
     replace hN := hN.set 6 (.int .i64 q3)
     refine okList_nil (fun wf hwf => ?_); go_simp
     have hNf : Bk wf wd.heap.size 48 #[.int .i64 x.id, .int .i64 (k : Int), .int .i64 q1, .int .i64 (lerpI fx tx q1), .int .i64 (lerpI fy ty q1), .int .i64 q2, .int .i64 q3] := hN.grw hwf
     have hvbf : Grw wb wf := by (repeat with_reducible first | exact .refl _ | assumption | refine .setAt ?_ (by first | omega | simp <;> omega) _ | refine .setCells ?_ (by first | omega | simp <;> omega) _ | refine .alloc ?_ _ | refine .drewN ?_ _ | refine .drew ?_ | refine .trans ?_ (by assumption))
     have HNf := Lib.hid hNf
     have hvf : Grw w7 wf := hvb.trans hvbf
     have HXf := Lib.hid (HXb.out.grw hvbf)
     clear hNf hN hwf hwe hwd hgc gb_0 gb_1 yb_0 zb_0 zb_1 zb_2 zb_3 hAc hAd
     have hle : qlessB y H = false := by
       have h1 := raysS_least HMEM.out
       rw [HHD.out, HY.out]; exact h1
     have HLE := Lib.hid hle; clear hle
     have HIN := Lib.hid (show y ∈ S by rw [HS.out, HY.out]; exact (raysS_perm W fx fy tx ty m).1.mem_iff.2 HMEM.out)
     go_wp2_with fail
     go_loopg [22, 21] S.length (fun gm v22 v21 xw => ∃ q : Nat, v22 = .int .i64 q ∧ v21 = .bool ((S.take q).any (fun z => eqH z y)) ∧ q ≤ S.length ∧ S.length - q ≤ gm ∧ Grw wf xw)
     case atStart => exact ⟨0, rfl, by rw [List.take_zero]; rfl, Nat.zero_le _, Nat.le_refl _, Grw.refl _⟩
     case round =>
     obtain ⟨q, rfl, rfl, hq, hgm, hvg⟩ := hrel
     obtain ⟨wg, rfl⟩ : ∃ x, x = wr := ⟨_, rfl⟩
     have HGq := Lib.hid hgm; clear hgm
     have hg7 := hvf.trans hvg
     have hg5 := hv7.trans hg7
     have hNg := HNf.out.grw hvg
     have n_0 : wg.cell? ⟨wd.heap.size, 0, none⟩ = some (.int .i64 x.id) := hNg.cell 0
     have n_1 : wg.cell? ⟨wd.heap.size, 1, none⟩ = some (.int .i64 (k : Int)) := hNg.cell 1
     have n_2 : wg.cell? ⟨wd.heap.size, 2, none⟩ = some (.int .i64 q1) := hNg.cell 2
     have n_3 : wg.cell? ⟨wd.heap.size, 3, none⟩ = some (.int .i64 (lerpI fx tx q1)) := hNg.cell 3
     have n_4 : wg.cell? ⟨wd.heap.size, 4, none⟩ = some (.int .i64 (lerpI fy ty q1)) := hNg.cell 4
     have n_5 : wg.cell? ⟨wd.heap.size, 5, none⟩ = some (.int .i64 q2) := hNg.cell 5
     have n_6 : wg.cell? ⟨wd.heap.size, 6, none⟩ = some (.int .i64 q3) := hNg.cell 6
     clear hNg
     rcases Nat.lt_or_ge q S.length with hlq | hgq
     · obtain ⟨z, hz⟩ : ∃ z, S[q]? = some z := ⟨S[q], List.getElem?_eq_getElem hlq⟩
       have HFD := Lib.hid (found_take S y q z hz)
       obtain ⟨bs, os, rfl, hbs, hcs⟩ := (HSL5.out.grw hg5) q z hz
       have s_0 : wg.cell? ⟨bs, os + q * 7, none⟩ = some (.int .i64 z.body) := by simpa [Nat.add_assoc] using hcs 0 _ rfl
       have s_1 : wg.cell? ⟨bs, os + q * 7 + 1, none⟩ = some (.int .i64 z.fix) := by simpa [Nat.add_assoc] using hcs 1 _ rfl
       have s_2 : wg.cell? ⟨bs, os + q * 7 + 2, none⟩ = some (.int .i64 z.t) := by simpa [Nat.add_assoc] using hcs 2 _ rfl
       have s_3 : wg.cell? ⟨bs, os + q * 7 + 3, none⟩ = some (.int .i64 z.px) := by simpa [Nat.add_assoc] using hcs 3 _ rfl
       have s_4 : wg.cell? ⟨bs, os + q * 7 + 4, none⟩ = some (.int .i64 z.py) := by simpa [Nat.add_assoc] using hcs 4 _ rfl
       have s_5 : wg.cell? ⟨bs, os + q * 7 + 5, none⟩ = some (.int .i64 z.nx) := by simpa [Nat.add_assoc] using hcs 5 _ rfl
       have s_6 : wg.cell? ⟨bs, os + q * 7 + 6, none⟩ = some (.int .i64 z.ny) := by simpa [Nat.add_assoc] using hcs 6 _ rfl
       obtain ⟨fb, hfb⟩ : ∃ fb, fb = (S.take q).any (fun z => eqH z y) := ⟨_, rfl⟩
       rw [← hfb] at HFD ⊢
       clear hfb hcs hz
       cases fb
       · go_upto_region 22 with (fail)
         go_region
         go_wp2_with fail
         have hgm := HGq.out
         go_roundg (S.length - (q + 1))
         case measure => omega
         case rel => exact ⟨q + 1, by go_num, by rw [HFD.out, HY.out]; rfl, by omega, Nat.le_refl _, by (repeat with_reducible first | exact .refl _ | assumption | refine .setAt ?_ (by first | omega | simp <;> omega) _ | refine .setCells ?_ (by first | omega | simp <;> omega) _ | refine .alloc ?_ _ | refine .drewN ?_ _ | refine .drew ?_ | refine .trans ?_ (by assumption))⟩
       · go_upto_region 22 with (fail)
         go_region
         go_wp2_with fail
         have hgm := HGq.out
         go_roundg (S.length - (q + 1))
         case measure => omega
         case rel => exact ⟨q + 1, by go_num, by rw [HFD.out]; rfl, by omega, Nat.le_refl _, by (repeat with_reducible first | exact .refl _ | assumption | refine .setAt ?_ (by first | omega | simp <;> omega) _ | refine .setCells ?_ (by first | omega | simp <;> omega) _ | refine .alloc ?_ _ | refine .drewN ?_ _ | refine .drew ?_ | refine .trans ?_ (by assumption))⟩
     · obtain rfl : q = S.length := by omega
       rw [List.take_length, found_all HIN.out]
       have hHg := HH5.out.grw hg5
       have hXg := HXf.out.grw hvg
       have hBg := HX7.out.grw hg7
       have hFg := HF5.out.grw hg5
       have h_0 : wg.cell? ⟨w2.heap.size, 0, none⟩ = some (.int .i64 (H.body)) := hHg.cell 0
       have h_1 : wg.cell? ⟨w2.heap.size, 1, none⟩ = some (.int .i64 (H.fix)) := hHg.cell 1
       have h_2 : wg.cell? ⟨w2.heap.size, 2, none⟩ = some (.int .i64 (H.t)) := hHg.cell 2
       have h_3 : wg.cell? ⟨w2.heap.size, 3, none⟩ = some (.int .i64 (H.px)) := hHg.cell 3
       have h_4 : wg.cell? ⟨w2.heap.size, 4, none⟩ = some (.int .i64 (H.py)) := hHg.cell 4
       have h_5 : wg.cell? ⟨w2.heap.size, 5, none⟩ = some (.int .i64 (H.nx)) := hHg.cell 5
       have h_6 : wg.cell? ⟨w2.heap.size, 6, none⟩ = some (.int .i64 (H.ny)) := hHg.cell 6
       have g9_0 : wg.cell? ⟨w8.heap.size, 0, none⟩ = some (.int .i64 f.k) := hXg.cell 0
       have g9_1 : wg.cell? ⟨w8.heap.size, 1, none⟩ = some (.int .i64 f.r) := hXg.cell 1
       have g9_2 : wg.cell? ⟨w8.heap.size, 2, none⟩ = some (.slice f.va f.vl.length f.vc) := hXg.cell 2
       have y9_2 : wg.cell? ⟨w6.heap.size, 2, none⟩ = some (.int .i64 x.px) := hBg.cell 2
       have y9_3 : wg.cell? ⟨w6.heap.size, 3, none⟩ = some (.int .i64 x.py) := hBg.cell 3
       have y9_4 : wg.cell? ⟨w6.heap.size, 4, none⟩ = some (.int .i64 x.an) := hBg.cell 4
       have z9_0 : wg.cell? ⟨w.heap.size + 1, 0, none⟩ = some (.int .i64 fx) := hFg.cell 0
       have z9_1 : wg.cell? ⟨w.heap.size + 1, 1, none⟩ = some (.int .i64 fy) := hFg.cell 1
       clear hHg hXg hBg hFg
       go_wp2_with fail
       have hless := qless_any ⟨x.id, (k : Int), q1, lerpI fx tx q1, lerpI fy ty q1, q2, q3⟩ H wg
       rw [← HY.out, HLE.out, HY.out] at hless
       (go_at_call 15; refine hless.mono ?_; rintro e wh ⟨rfl, hgh⟩)
       have g9_0 := hgh.cell g9_0; have g9_1 := hgh.cell g9_1; have g9_2 := hgh.cell g9_2
       have y9_2 := hgh.cell y9_2; have y9_3 := hgh.cell y9_3; have y9_4 := hgh.cell y9_4
       have z9_0 := hgh.cell z9_0; have z9_1 := hgh.cell z9_1; have h_2 := hgh.cell h_2
       have hh5 := hg5.trans hgh
       have hh7 := hg7.trans hgh
       have HN2 := Lib.hid (show M + 1 = N + (fixHits fx fy tx ty m x (x.fl.take (k + 1)) 0).length by rw [HFT.out, HHT.out, HM.out, List.length_append]; rfl)
       clear hless
       go_wp2_with fail
       (go_at_call 16; refine (containsPoint_any ⟨f.k, f.r, f.va, f.vc, f.vl⟩ x.px x.py x.an fx fy _ ⟨(HRf.out.1.grw (hw5.trans hh5)), HRf.out.2⟩).mono ?_; rintro e wi ⟨rfl, hgi⟩)
       have h_2 := hgi.cell h_2
       have hi7 := hh7.trans hgi
       cases hcp : containsB ⟨f.k, f.r, f.va, f.vc, f.vl⟩ x.px x.py x.an fx fy
       · go_wp2_with fail
         have hgm := HG8.out
         go_roundg (x.fl.length - (k + 1))
         case measure => omega
         case rel => exact ⟨k + 1, M + 1, by go_num, by go_num, HN2.out, by omega, Nat.le_refl _, hi7⟩
       · have hz : H.t = 0 := by
           rw [HHD.out]
           exact raysS_head_zero HMEM.out (hitOf_contains HHT.out hcp)
         rw [hz] at h_2
         clear hz
         go_wp2_with fail
         have hgm := HG8.out
         go_roundg (x.fl.length - (k + 1))
         case measure => omega
         case rel => exact ⟨k + 1, M + 1, by go_num, by go_num, HN2.out, by omega, Nat.le_refl _, hi7⟩
   · obtain rfl : k = x.fl.length := by omega
     rw [List.take_length] at HM
     have HN3 := Lib.hid (show M = (bodiesHits fx fy tx ty m (W.bl.take (i + 1))).length by rw [HBT.out, List.length_append, ← HN.out]; exact HM.out)
     go_wp2_with fail
     have hgm := HG6.out
     go_roundg (W.bl.length - (i + 1))
     case measure => omega
     case rel => exact ⟨i + 1, M, by go_num, rfl, HN3.out, by omega, Nat.le_refl _, hv7.trans hv8⟩
 · obtain rfl : i = W.bl.length := by omega
   rw [List.take_length] at HN
   have hNS : N = S.length := by
     rw [HN.out, HS.out, raysS_len]
     unfold raysOf
     rw [if_pos HV0.out]
   subst hNS
   clear HG6
   go_wp2_with fail
   go_loopg [23] S.length (fun gm v23 xw => ∃ q : Nat, v23 = .int .i64 q ∧ 1 ≤ q ∧ S.length - q ≤ gm ∧ Grw w5 xw)
   case atStart => exact ⟨1, rfl, Nat.le_refl _, Nat.sub_le _ _, hv6⟩
   case round =>
   obtain ⟨q, rfl, hq1, hgm, hv7⟩ := hrel
   obtain ⟨w7, rfl⟩ : ∃ x, x = wr := ⟨_, rfl⟩
   have HGq := Lib.hid hgm; clear hgm
   rcases Nat.lt_or_ge q S.length with hlq | hgq
   · have hls := raysS_step (W := W) (fx := fx) (fy := fy) (tx := tx) (ty := ty) (m := m) hq1 (by rw [← HS.out]; exact hlq)
     rw [← HS.out] at hls
     have hz1 := getD_of HitV.d (show q - 1 < S.length by omega)
     have hz2 := getD_of HitV.d hlq
     obtain ⟨z1, he1⟩ : ∃ z1, z1 = nth S (q - 1) HitV.d := ⟨_, rfl⟩
     obtain ⟨z2, he2⟩ : ∃ z2, z2 = nth S q HitV.d := ⟨_, rfl⟩
     rw [← he1] at hz1 hls
     rw [← he2] at hz2 hls
     obtain ⟨bs, os, rfl, hbs, hcs⟩ := (HSL5.out.grw hv7) _ z1 hz1
     obtain ⟨bs2, os2, hes, _, hcs2⟩ := (HSL5.out.grw hv7) _ z2 hz2
     cases hes
     have HLS := Lib.hid hls
     have hqq : (q : Int) - 1 = ((q - 1 : Nat) : Int) := by omega
     have hwr : IntKind.i64.wrap ((q : Int) - 1) = ((q - 1 : Nat) : Int) := by rw [IntWalk.i64_in _ (by omega), hqq]
     obtain ⟨q0, hq0⟩ : ∃ q0, q0 = q - 1 := ⟨_, rfl⟩
     rw [← hq0] at hwr hcs
     have hlq0 : q0 < S.length := by omega
     clear hz1 hz2 he1 he2 hls hqq
     have s_0 : w7.cell? ⟨bs, os + q0 * 7, none⟩ = some (.int .i64 z1.body) := by simpa [Nat.add_assoc] using hcs 0 _ rfl
     have s_1 : w7.cell? ⟨bs, os + q0 * 7 + 1, none⟩ = some (.int .i64 z1.fix) := by simpa [Nat.add_assoc] using hcs 1 _ rfl
     have s_2 : w7.cell? ⟨bs, os + q0 * 7 + 2, none⟩ = some (.int .i64 z1.t) := by simpa [Nat.add_assoc] using hcs 2 _ rfl
     have s_3 : w7.cell? ⟨bs, os + q0 * 7 + 3, none⟩ = some (.int .i64 z1.px) := by simpa [Nat.add_assoc] using hcs 3 _ rfl
     have s_4 : w7.cell? ⟨bs, os + q0 * 7 + 4, none⟩ = some (.int .i64 z1.py) := by simpa [Nat.add_assoc] using hcs 4 _ rfl
     have s_5 : w7.cell? ⟨bs, os + q0 * 7 + 5, none⟩ = some (.int .i64 z1.nx) := by simpa [Nat.add_assoc] using hcs 5 _ rfl
     have s_6 : w7.cell? ⟨bs, os + q0 * 7 + 6, none⟩ = some (.int .i64 z1.ny) := by simpa [Nat.add_assoc] using hcs 6 _ rfl
     have u_0 : w7.cell? ⟨bs, os + q * 7, none⟩ = some (.int .i64 z2.body) := by simpa [Nat.add_assoc] using hcs2 0 _ rfl
     have u_1 : w7.cell? ⟨bs, os + q * 7 + 1, none⟩ = some (.int .i64 z2.fix) := by simpa [Nat.add_assoc] using hcs2 1 _ rfl
     have u_2 : w7.cell? ⟨bs, os + q * 7 + 2, none⟩ = some (.int .i64 z2.t) := by simpa [Nat.add_assoc] using hcs2 2 _ rfl
     have u_3 : w7.cell? ⟨bs, os + q * 7 + 3, none⟩ = some (.int .i64 z2.px) := by simpa [Nat.add_assoc] using hcs2 3 _ rfl
     have u_4 : w7.cell? ⟨bs, os + q * 7 + 4, none⟩ = some (.int .i64 z2.py) := by simpa [Nat.add_assoc] using hcs2 4 _ rfl
     have u_5 : w7.cell? ⟨bs, os + q * 7 + 5, none⟩ = some (.int .i64 z2.nx) := by simpa [Nat.add_assoc] using hcs2 5 _ rfl
     have u_6 : w7.cell? ⟨bs, os + q * 7 + 6, none⟩ = some (.int .i64 z2.ny) := by simpa [Nat.add_assoc] using hcs2 6 _ rfl
     clear hcs hcs2
     have hja : (0 : Int) ≤ q0 := by omega
     have hjb : (q0 : Int) < S.length := by omega
     have hjc : (q : Int) < S.length := by omega
     clear hq0
     go_upto_region 29 with (fail)
     refine wp_region_flow (by kernel_rfl) (by kernel_rfl) ?_
     iterate 9 (refine wpQ_step (fun K hK => ?_); go_simp; refine hK _ ?_; clear hK K)
     refine wpQ_step (fun K hK => ?_); go_simp; apply Exists.intro; refine ⟨fun _ => ?_, hK _ ?_⟩; (go_at_call 15; exact (qless_any z1 z2 _)); clear hK K
     iterate 1 (refine wpQ_step (fun K hK => ?_); go_simp; refine hK _ ?_; clear hK K)
     refine wpQ_nil ?_
     intro w8 hg8
     rw [HLS.out]
     have hv8 := hv7.trans hg8
     clear hwr
     go_wp2_with fail
     have hgm := HGq.out
     go_roundg (S.length - (q + 1))
     case measure => omega
     case rel => exact ⟨q + 1, by go_num, by omega, Nat.le_refl _, hv8⟩
   · have hqn : ¬ ((q : Int) < S.length) := by omega
     cases hz : ((S.length : Int) == 0)
     · have hc2 : decide (0 < (S.length : Int)) = true := by
         have := ne_of_beq_false' hz
         simp; omega
       have hc0 : 0 < S.length := by simpa using hc2
       have hz1 := getD_of HitV.d hc0
       have hH0 : nth S 0 HitV.d = H := by rw [HHD.out, HS.out]; rfl
       rw [hH0] at hz1
       obtain ⟨bs, os, rfl, hbs, hcs⟩ := (HSL5.out.grw hv7) _ H hz1
       have hHg := HH5.out.grw hv7
       have s_0 : w7.cell? ⟨bs, os, none⟩ = some (.int .i64 H.body) := by simpa [Nat.add_assoc] using hcs 0 _ rfl
       have s_1 : w7.cell? ⟨bs, os + 1, none⟩ = some (.int .i64 H.fix) := by simpa [Nat.add_assoc] using hcs 1 _ rfl
       have s_2 : w7.cell? ⟨bs, os + 2, none⟩ = some (.int .i64 H.t) := by simpa [Nat.add_assoc] using hcs 2 _ rfl
       have s_3 : w7.cell? ⟨bs, os + 3, none⟩ = some (.int .i64 H.px) := by simpa [Nat.add_assoc] using hcs 3 _ rfl
       have s_4 : w7.cell? ⟨bs, os + 4, none⟩ = some (.int .i64 H.py) := by simpa [Nat.add_assoc] using hcs 4 _ rfl
       have s_5 : w7.cell? ⟨bs, os + 5, none⟩ = some (.int .i64 H.nx) := by simpa [Nat.add_assoc] using hcs 5 _ rfl
       have s_6 : w7.cell? ⟨bs, os + 6, none⟩ = some (.int .i64 H.ny) := by simpa [Nat.add_assoc] using hcs 6 _ rfl
       have h_0 : w7.cell? ⟨w2.heap.size, 0, none⟩ = some (.int .i64 (H.body)) := hHg.cell 0
       have h_1 : w7.cell? ⟨w2.heap.size, 1, none⟩ = some (.int .i64 (H.fix)) := hHg.cell 1
       have h_2 : w7.cell? ⟨w2.heap.size, 2, none⟩ = some (.int .i64 (H.t)) := hHg.cell 2
       have h_3 : w7.cell? ⟨w2.heap.size, 3, none⟩ = some (.int .i64 (H.px)) := hHg.cell 3
       have h_4 : w7.cell? ⟨w2.heap.size, 4, none⟩ = some (.int .i64 (H.py)) := hHg.cell 4
       have h_5 : w7.cell? ⟨w2.heap.size, 5, none⟩ = some (.int .i64 (H.nx)) := hHg.cell 5
       have h_6 : w7.cell? ⟨w2.heap.size, 6, none⟩ = some (.int .i64 (H.ny)) := hHg.cell 6
       have hl2 := hHg.lt
       have heq : eqB48 H.body H.fix H.t H.px H.py H.nx H.ny H.body H.fix H.t H.px H.py H.nx H.ny = true := by simp [eqB48]
       have hjb : (0 : Int) < S.length := by omega
       clear hcs hHg hz1 hH0
       go_upto_region 31 with (fail)
       refine wp_region_flowA 24 (by kernel_rfl) (by kernel_rfl) ?_
       simp only [tD]
       iterate 22 (refine wpQ_step (fun K hK => ?_); go_simp; refine hK _ ?_; clear hK K)
       refine wpQ_step (fun K hK => ?_); go_simp; apply Exists.intro; refine ⟨fun _ => ?_, hK _ ?_⟩; (go_at_call 17; exact (HRY.out _)); clear hK K
       iterate 1 (refine wpQ_step (fun K hK => ?_); go_simp; refine hK _ ?_; clear hK K)
       refine wpQ_nil ?_
       intro w8 hg8
       have hw8 := (hw5.trans hv7).trans hg8
       go_wp2_with fail
       go_ret
       exact ⟨rfl, hw8⟩
     · obtain rfl : S = [] := List.length_eq_zero_iff.1 (by have := eq_of_beq hz; omega)
       clear hz
       go_upto_region 31 with (fail)
       refine wp_region_flowA 24 (by kernel_rfl) (by kernel_rfl) ?_
       simp only [tD]
       iterate 22 (refine wpQ_step (fun K hK => ?_); go_simp; refine hK _ ?_; clear hK K)
       refine wpQ_step (fun K hK => ?_); go_simp; apply Exists.intro; refine ⟨fun _ => ?_, hK _ ?_⟩; (go_at_call 17; exact (HRY.out _)); clear hK K
       iterate 1 (refine wpQ_step (fun K hK => ?_); go_simp; refine hK _ ?_; clear hK K)
       refine wpQ_nil ?_
       intro w8 hg8
       have hw8 := (hw5.trans hv7).trans hg8
       go_wp2_with fail
       go_ret
       exact ⟨rfl, hw8⟩
def exF (n : Nat) : FixV := ⟨1, 65536, some ⟨n, 0, none⟩, 1, [(0, 0)], 0, 0, 0, false, 1, 0, 0⟩
def exB (n id px g : Nat) : BodyV := ⟨id, 1, px, 0, 0, 0, 0, 0, 0, 0, 0, 0, 0, 0, false, false, false, false, 0, some ⟨g, 0, none⟩, 1, [exF n]⟩
def exW (n g1 g2 g3 : Nat) : WorldV := ⟨8192, 0, 0, 1, 0, some ⟨g3, 0, none⟩, 2, [exB n 1 524288 g1, exB n 2 262144 g2], none, 0, [], none, 0, [], none, 0, [], 3, 0⟩
theorem exW_ok (n g1 g2 g3 : Nat) : validateE (exW n g1 g2 g3) = 0 := by kernel_rfl
theorem exW_rays (n g1 g2 g3 : Nat) : bodiesHits 0 0 393216 0 1 (exW n g1 g2 g3).bl = [⟨2, 0, 32768, 196608, 0, -65536, 0⟩] := by kernel_rfl
theorem exW_raysS (n g1 g2 g3 : Nat) : raysS (exW n g1 g2 g3) 0 0 393216 0 1 = [⟨2, 0, 32768, 196608, 0, -65536, 0⟩] := by
 have h : raysOf (exW n g1 g2 g3) 0 0 393216 0 1 = [⟨2, 0, 32768, 196608, 0, -65536, 0⟩] := by
   unfold raysOf
   rw [if_pos (exW_ok n g1 g2 g3), exW_rays]
 unfold raysS
 rw [h]
 exact sortHits_eq (List.Perm.refl _) (List.pairwise_singleton _ _)
theorem Sl.ofFlat {α : Type} {size t : Nat} {enc : α → List Value} (hk : ∀ x, (enc x).length = size) {w : World} {b : Nat} {l : List α} {cs : Array Value} (h : Bk w b t cs) (hc : cs.toList = l.flatMap enc) : Sl size enc w (some ⟨b, 0, none⟩) l := fun i x hx => by
 refine ⟨b, 0, rfl, h.lt, fun j u hu => ?_⟩
 have hj : j < size := by rw [← hk x]; exact (List.getElem?_eq_some_iff.1 hu).1
 have h1 := flat_get enc size hk l i j x hx hj
 rw [Nat.zero_add, h.cell, ← Array.getElem?_toList, hc, h1]
 exact hu
def fxCs (n : Nat) : Array Value := #[.int .i64 1, .int .i64 65536, .slice (some ⟨n, 0, none⟩) 1 1, .int .i64 0, .int .i64 0, .int .i64 0, .bool false, .int .i64 1, .int .i64 0, .int .i64 0]
theorem exW_WorldOk {n g1 g2 g3 : Nat} {w : World} (h0 : Bk w n 23 #[.int .i64 0, .int .i64 0]) (h3 : Bk w g1 58 (fxCs n)) (h4 : Bk w g2 58 (fxCs n))
   (h5 : Bk w g3 44 ((encBodyV (exB n 1 524288 g1) ++ encBodyV (exB n 2 262144 g2)).toArray)) : WorldOk w (exW n g1 g2 g3) where
 b := Sl.ofFlat (enc := encBodyV) (fun _ => rfl) h5 (by simp [exW])
 bx := by
   have hv : Sl 2 encV w (some ⟨n, 0, none⟩) [((0 : Int), (0 : Int))] := Sl.ofFlat (enc := encV) (fun _ => rfl) h0 rfl
   have h1 : (1 : Nat) < 4611686018427387904 := by decide
   intro x hx
   simp only [exW, List.mem_cons, List.not_mem_nil, or_false] at hx
   rcases hx with rfl | rfl
   · exact ⟨Sl.ofFlat (enc := encFixV) (fun _ => rfl) h3 rfl, h1, fun f hf => by
       simp only [exB, List.mem_cons, List.not_mem_nil, or_false] at hf
       subst hf
       exact ⟨hv, h1⟩⟩
   · exact ⟨Sl.ofFlat (enc := encFixV) (fun _ => rfl) h4 rfl, h1, fun f hf => by
       simp only [exB, List.mem_cons, List.not_mem_nil, or_false] at hf
       subst hf
       exact ⟨hv, h1⟩⟩
 bn := show (2 : Nat) < 4611686018427387904 by decide
 j := Sl.nil
 jn := show (0 : Nat) < 4611686018427387904 by decide
 c := Sl.nil
 cx := fun x hx => by cases hx
 cn := show (0 : Nat) < 4611686018427387904 by decide
 o := Sl.nil
 on := show (0 : Nat) < 4611686018427387904 by decide
theorem rayExample_any : TrueAt 17 := by
 intro w
 go_enter Tryz.func17, Tryz.ntmps17
 go_upto_region 2 with (fail)
 refine wp_gen (fun xw => Grw w xw ∧ Bk xw w.heap.size 23 #[.int .i64 0, .int .i64 0] ∧ Bk xw (w.heap.size + 1) 56 #[.int .i64 1, .int .i64 65536, .slice (some ⟨w.heap.size, 0, none⟩) 1 1]) ⟨((Grw.refl w).alloc _).alloc _, (Bk.new' (by simp)).alloc _, Bk.new' (by simp)⟩ ?_
 rintro w1 ⟨hw1, hV1, hS1⟩
 have g1_0 : w1.cell? ⟨w.heap.size + 1, 0, none⟩ = some (.int .i64 1) := hS1.cell 0
 have g1_1 : w1.cell? ⟨w.heap.size + 1, 1, none⟩ = some (.int .i64 65536) := hS1.cell 1
 have g1_2 : w1.cell? ⟨w.heap.size + 1, 2, none⟩ = some (.slice (some ⟨w.heap.size, 0, none⟩) 1 1) := hS1.cell 2
 have hl1 := hV1.lt; have hl2 := hS1.lt
 go_upto_region 3 with (fail)
 have W0 : ∀ v5 : Value, True := fun _ => trivial
 refine wp_gen (fun xw => Grw w xw ∧ Bk xw w.heap.size 23 #[.int .i64 0, .int .i64 0] ∧ Bk xw (w.heap.size + 1) 56 #[.int .i64 1, .int .i64 65536, .slice (some ⟨w.heap.size, 0, none⟩) 1 1] ∧ Bk xw w1.heap.size 31 #[.int .i64 8192, .int .i64 0, .int .i64 0, .int .i64 1, .int .i64 0, .slice none 0 0, .slice none 0 0, .slice none 0 0, .slice none 0 0, .int .i64 3, .int .i64 0]) ⟨by (repeat with_reducible first | exact .refl _ | assumption | refine .setAt ?_ (by first | omega | simp <;> omega) _ | refine .setCells ?_ (by first | omega | simp <;> omega) _ | refine .alloc ?_ _ | refine .drewN ?_ _ | refine .drew ?_ | refine .trans ?_ (by assumption)), by (repeat' first | (with_reducible first | assumption | apply Bk.set' | apply Bk.far | apply Bk.setAll' | apply Bk.farCells | exact Bk.new' (by simp) | refine Bk.alloc ?_ _ | refine Bk.drew ?_) | refine Bk.grw ?_ (by with_reducible assumption) | omega | rfl), by (repeat' first | (with_reducible first | assumption | apply Bk.set' | apply Bk.far | apply Bk.setAll' | apply Bk.farCells | exact Bk.new' (by simp) | refine Bk.alloc ?_ _ | refine Bk.drew ?_) | refine Bk.grw ?_ (by with_reducible assumption) | omega | rfl), (Bk.new' (by simp)).setAll' rfl rfl⟩ ?_
 clear g1_0 g1_1 g1_2 hV1 hS1 W0
 rintro w2 ⟨hw2, hV2, hS2, hB2⟩
 have g2_0 : w2.cell? ⟨w.heap.size + 1, 0, none⟩ = some (.int .i64 1) := hS2.cell 0
 have g2_1 : w2.cell? ⟨w.heap.size + 1, 1, none⟩ = some (.int .i64 65536) := hS2.cell 1
 have g2_2 : w2.cell? ⟨w.heap.size + 1, 2, none⟩ = some (.slice (some ⟨w.heap.size, 0, none⟩) 1 1) := hS2.cell 2
 have b2_5 : w2.cell? ⟨w1.heap.size, 5, none⟩ = some (.slice none 0 0) := hB2.cell 5
 have b2_c : ∀ o1 o2 o3 : Obj, (((w2.alloc o1).alloc o2).alloc o3).cell? ⟨w1.heap.size, 5, none⟩ = some (.slice none 0 0) := fun o1 o2 o3 => (((hB2.alloc o1).alloc o2).alloc o3).cell 5
 have b2_g : ∀ (o1 o2 o3 : Obj) (j : Nat), (((w2.alloc o1).alloc o2).alloc o3).frozen? ⟨w1.heap.size, j, none⟩ = false := fun o1 o2 o3 => (((hB2.alloc o1).alloc o2).alloc o3).frozen
 have hl3 := hV2.lt; have hl4 := hS2.lt; have hl5 := hB2.lt
 go_upto_region 4 with (fail)
 refine wp_gen (fun xw => Grw w xw ∧ Bk xw w.heap.size 23 #[.int .i64 0, .int .i64 0] ∧ Bk xw w1.heap.size 31 (encWorldV (exW w.heap.size w2.heap.size (w2.heap.size + 1) (w2.heap.size + 1 + 1))).toArray ∧ Bk xw w2.heap.size 58 (fxCs w.heap.size) ∧ Bk xw (w2.heap.size + 1) 58 (fxCs w.heap.size) ∧ Bk xw (w2.heap.size + 1 + 1) 44 ((encBodyV (exB w.heap.size 1 524288 w2.heap.size) ++ encBodyV (exB w.heap.size 2 262144 (w2.heap.size + 1))).toArray)) ⟨(((hw2.alloc _).alloc _).alloc _).setAt (by omega) _, (((hV2.alloc _).alloc _).alloc _).far (by omega) _, (((hB2.alloc _).alloc _).alloc _).set' rfl, (((Bk.new' (by simp)).alloc _).alloc _).far (by omega) _, ((Bk.new' (by simp)).alloc _).far (by omega) _, (Bk.new' (by simp)).far (by omega) _⟩ ?_
 rintro w3 ⟨hw3, hV3, hB3, hf3, hg3, hb3⟩
 have HOK := Lib.hid (exW_WorldOk hV3 hf3 hg3 hb3)
 have HX := Lib.hid (exW_raysS w.heap.size w2.heap.size (w2.heap.size + 1) (w2.heap.size + 1 + 1))
 obtain ⟨X, hX⟩ : ∃ X, X = exW w.heap.size w2.heap.size (w2.heap.size + 1) (w2.heap.size + 1 + 1) := ⟨_, rfl⟩
 rw [← hX] at HX HOK hB3
 clear hX
 have hH : hdH X 0 0 393216 0 1 = ⟨2, 0, 32768, 196608, 0, -65536, 0⟩ := by unfold hdH; rw [HX.out]; rfl
 have HH := Lib.hid hH; clear hH
 have gA3 : HaveAll w3 (w1.heap.size) 0 11 := hB3.have 0 11 (Nat.le_of_ble_eq_true rfl)
 have gC3 : cellsAt w3 (w1.heap.size) 0 11 = (encWorldV X).toArray := hB3.cells' 0 11 _ rfl rfl
 clear hV2 hS2 hB2 hV3 hB3 hf3 hg3 hb3 g2_0 g2_1 g2_2 b2_5 b2_c b2_g
 go_wp2_with fail
 (go_at_call 11; refine (rayFirst_x X 0 0 393216 0 1 _ HOK.out).mono ?_; rintro e w4 ⟨rfl, hg4⟩)
 rw [HH.out, HX.out]
 have hw4 := hw3.trans hg4
 clear gA3 gC3 hg4
 go_wp2_with fail
 go_ret
 exact ⟨rfl, by (repeat with_reducible first | exact .refl _ | assumption | refine .setAt ?_ (by first | omega | simp <;> omega) _ | refine .setCells ?_ (by first | omega | simp <;> omega) _ | refine .alloc ?_ _ | refine .drewN ?_ _ | refine .drew ?_ | refine .trans ?_ (by assumption))⟩
end
end Go.Proofs.YtokkghhmliplfaaGreat
