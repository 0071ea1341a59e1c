/- The law TopEveryPair answers true at every list of operations. -/
import Derived.Test.YtbnfngelkaembaaA29
namespace Go.Proofs.Ytbnfngelkaembaa
open Go.RowKit Go.Sort
attribute [local go_sem] qAt qUpon okOp okUpon cell_in_grow frozen_in_grow

/-- one operation -/
structure Od where
  op : Int
  x : En
  hop : 0 ≤ op ∧ op < 256
  hid : (Lit.int .i64 x.id).wf = true
def OpsAt (w : World) (pa : Option Addr) (ds : List Od) : Prop := ∀ (k : Nat) (d : Od), ds[k]? = some d → ∃ b off, pa = some ⟨b, off, none⟩ ∧ b < w.heap.size ∧
  w.cell? ⟨b, off + k * 6, none⟩ = some (.int .u8 d.op) ∧ w.cell? ⟨b, off + k * 6 + 1, none⟩ = some (.int .i64 d.x.id) ∧ w.cell? ⟨b, off + k * 6 + 2, none⟩ = some (.int .i64 d.x.a) ∧
  w.cell? ⟨b, off + k * 6 + 3, none⟩ = some (.int .i64 d.x.b) ∧ w.cell? ⟨b, off + k * 6 + 4, none⟩ = some (.int .i64 d.x.c) ∧ w.cell? ⟨b, off + k * 6 + 5, none⟩ = some (.int .i64 d.x.d)
theorem only_cell {w w' : World} (h : OnlyChg (fun _ => False) w w') {b o : Nat} {v : Value} (hb : b < w.heap.size) (hc : w.cell? ⟨b, o, none⟩ = some v) : w'.cell? ⟨b, o, none⟩ = some v :=
  (World.cell?_of_block (a := ⟨b, o, none⟩) (h.block b hb (by simp))).trans hc
theorem OpsAt.keep {w w' : World} {pa : Option Addr} {ds : List Od} (h : OpsAt w pa ds) (hc : OnlyChg (fun _ => False) w w') : OpsAt w' pa ds := fun k d hk => by
  obtain ⟨b, off, h1, hb, c0, c1, c2, c3, c4, c5⟩ := h k d hk
  exact ⟨b, off, h1, Nat.lt_of_lt_of_le hb hc.size, only_cell hc hb c0, only_cell hc hb c1, only_cell hc hb c2, only_cell hc hb c3, only_cell hc hb c4, only_cell hc hb c5⟩

theorem cntN_le (en : List En) : ∀ k, k ≤ en.length → cntN en k ≤ k * en.length
  | 0, _ => by simp [cntN, pairsOf]
  | k + 1, h => by
    have hk := cntN_succ (List.getElem?_eq_getElem (show k < en.length by omega))
    have ih := cntN_le en k (by omega)
    have h2 := List.length_filter_le (ovE en[k]) (en.take k)
    rw [List.length_take] at h2
    rw [hk, Nat.add_mul]
    omega
theorem store4 {w : World} {b : Nat} (h : w.heap[b]? = some (.cells #[.int .i64 0, .int .i64 0, .int .i64 0, .int .i64 0] 30 (0, 0))) (v0 v1 v2 v3 : Value) :
    OnlyChg (fun k => k = b) w ((((w.setCell ⟨b, 0, none⟩ v0).setCell ⟨b, 1, none⟩ v1).setCell ⟨b, 2, none⟩ v2).setCell ⟨b, 3, none⟩ v3) ∧ ((((w.setCell ⟨b, 0, none⟩ v0).setCell ⟨b, 1, none⟩ v1).setCell ⟨b, 2, none⟩ v2).setCell ⟨b, 3, none⟩ v3).heap[b]? = some (.cells #[v0, v1, v2, v3] 30 (0, 0)) := by
  refine ⟨((((OnlyChg.refl _ w).set1 _).set1 _).set1 _).set1 _, ?_⟩
  have h0 := heap_setCell_same w b 0 _ 30 v0 h
  have h1 := heap_setCell_same _ b 1 _ 30 v1 h0
  have h2 := heap_setCell_same _ b 2 _ 30 v2 h1
  have h3 := heap_setCell_same _ b 3 _ 30 v3 h2
  exact h3

/-- between two operations -/
def Loop1 (w : World) (t mb : Nat) (v4 : Value) (wr : World) : Prop := ∃ (o : Option T) (l : List (Int × Nat)) (en : List En), Bvh wr t mb o l ∧ Ents o en ∧ OwnE wr w.heap.size v4 en ∧ (∀ x ∈ en, x.ok) ∧ OnlyChg (fun _ => False) w wr ∧
  (∀ q ∈ t :: mb :: oNodes o, w.heap.size ≤ q) ∧ (∀ q ∈ t :: mb :: oNodes o, v4.ownBlock ≠ some q)

set_option maxHeartbeats 4000000 in
set_option maxRecDepth 1000000 in
theorem top_any (w : World) (pa : Option Addr) (cap : Nat) (ds : List Od) (h : OpsAt w pa ds) (hn : (ds.length : Int) < 4611686018427387904) :
    Calls Try.prog 3 #[.slice pa ds.length cap] w fun e w' => e = .returned (.bool true) ∧ OnlyChg (fun _ => False) w w' := by
  have HA := Lib.hid h
  clear h
  go_enter Try.func3, Try.ntmps3
  go_wp2_with fail
  refine (new_any w).mono ?_
  rintro e w1 ⟨t, mb, rfl, ht, hmb, hB, hg⟩
  have HB1 := Lib.hid hB
  have HG := Lib.hid hg
  clear hB hg
  go_wp2_with fail
  go_loopg [4, 5] ds.length (fun g v4 v5 wr => ∃ k : Nat, v5 = .int .i64 k ∧ k ≤ ds.length ∧ ds.length - k ≤ g ∧ Loop1 w t mb v4 wr)
  case atStart =>
    refine ⟨0, rfl, Nat.zero_le _, by omega, none, [], [], HB1.out, by simp [Ents, oLeaves], OwnL.nil _ _ _ _ _, by simp, OnlyChg.of_grw HG.out, ?_, by simp [Value.ownBlock]⟩
    intro q hq
    simp only [oNodes, List.mem_cons, List.not_mem_nil, or_false] at hq
    rcases hq with rfl | rfl <;> assumption
  case round =>
    obtain ⟨k, rfl, hk, hg, o, l, en, hB, hE, hO, hok, hC, hN, hV⟩ := hrel
    have HB := Lib.hid hB
    have HE := Lib.hid hE
    have HO := Lib.hid hO
    have HOK := Lib.hid hok
    have HC := Lib.hid hC
    have HN := Lib.hid hN
    have HV := Lib.hid hV
    clear hB hE hO hok hC hN hV
    rcases Nat.lt_or_ge k ds.length with hlt | hge
    · obtain ⟨d, hd⟩ : ∃ d, ds[k]? = some d := ⟨ds[k], List.getElem?_eq_getElem hlt⟩
      obtain ⟨b, off, rfl, hb, c0, c1, c2, c3, c4, c5⟩ := HA.out.keep HC.out k d hd
      have him : (k : Int) < (ds.length : Int) := by omega
      have hap := apply_any HB.out HE.out d.op d.x _ rfl d.hop d.hid
      have HDD := Lib.hid hd
      clear hd
      go_wp2_with fail
      refine hap.mono ?_
      rintro e w2 ⟨β, rfl, ⟨o', l', hB2, hE2, hN2, hC2⟩, hval⟩
      have hD2 : OnlyChg (fun _ => False) w w2 := ((HC.out.mono fun _ _ h => h.elim : OnlyChg (fun q => w.heap.size ≤ q) w wr).trans (hC2.mono fun q _ hq => HN.out q hq)).none fun q hq => hq
      have hO2 : OwnE w2 w.heap.size u4 en := HO.out.keep hC2 fun q hq hq' => HV.out q hq' hq
      have hNN : ∀ q ∈ t :: mb :: oNodes o', w.heap.size ≤ q := by
        intro q hq
        simp only [List.mem_cons] at hq
        rcases hq with rfl | rfl | hq
        · exact ht
        · exact hmb
        · rcases hN2 q hq with h | h
          · exact HN.out q (by simp [h])
          · exact Nat.le_trans HC.out.size h
      have hVV : ∀ q ∈ t :: mb :: oNodes o', u4.ownBlock ≠ some q := by
        intro q hq e
        simp only [List.mem_cons] at hq
        rcases hq with rfl | rfl | hq
        · exact HV.out _ (by simp) e
        · exact HV.out _ (by simp) e
        · rcases hN2 q hq with h | h
          · exact HV.out q (by simp [h]) e
          · have := (HO.out.base_le q e).2; omega
      have hlen : en.length ≤ 30000 := by
        have h1 := HE.out.length_eq
        have h2 := HB.out.llen
        rw [List.length_map] at h1
        omega
      cases β with
      | false =>
        have HR : Hid (Loop1 w t mb u4 w2) := ⟨o', l', en, hB2, hE2, hO2, HOK.out, hD2, hNN, hVV⟩
        clear hap hC2 hD2 hO2 hNN hVV hB2 hE2 hN2 hval c0 c1 c2 c3 c4 c5
        go_wp2_with fail
        go_roundg (ds.length - (k + 1))
        case measure => omega
        case rel => exact ⟨k + 1, by go_num, by omega, Nat.le_refl _, HR.out⟩
      | true =>
        have hop2 := applied_any w2 _ u4 en d.op d.x _ rfl d.hop hO2 hlen
        have HR := fun v5 w3 (hO3 : OwnE w3 w2.heap.size v5 (strike en d.x.id ++ if d.op.tmod 3 = 2 then [] else [d.x])) (hC3 : OnlyChg (fun _ => False) w2 w3) => (⟨o', l', _, hB2.keep hC3 (by simp), by simpa using hE2, hO3.rebase hD2.size, by
            intro x hx
            rcases List.mem_append.1 hx with hx | hx
            · exact HOK.out x (List.mem_filter.1 hx).1
            · by_cases hr : d.op.tmod 3 = 2
              · rw [if_pos hr] at hx; simp at hx
              · rw [if_neg hr] at hx
                simp only [List.mem_singleton] at hx
                subst hx
                exact ⟨hval rfl hr, d.hid⟩, hD2.trans hC3, hNN, fun q hq e => by have := (hO3.base_le q e).1; have := hB2.lt q hq; omega⟩ : Loop1 w t mb v5 w3)
        replace HR := Lib.hid HR
        have HD2 := Lib.hid hD2
        obtain ⟨b', off', hbo, hb', c0, c1, c2, c3, c4, c5⟩ := HA.out.keep hD2 k d HDD.out
        cases hbo
        clear hap hC2 hD2 hO2 hNN hVV hB2 hE2 hN2 hval
        go_wp2_with fail
        refine hop2.mono ?_
        rintro e w3 ⟨v5, rfl, hO3, hC3⟩
        have HRR := Lib.hid (HR.out v5 w3 hO3 hC3)
        clear hop2 hO3 hC3 HR
        go_wp2_with fail
        go_roundg (ds.length - (k + 1))
        case measure => omega
        case rel => exact ⟨k + 1, by go_num, by omega, Nat.le_refl _, HRR.out⟩
    · obtain rfl : k = ds.length := by omega
      have hlen : en.length ≤ 4096 := by
        have h1 := HE.out.length_eq
        have h2 := HB.out.llen
        rw [List.length_map] at h1
        omega
      have hll : (l.length : Int) = (en.length : Int) := by
        have h1 := HE.out.length_eq
        have h2 := HB.out.same.length_eq
        rw [List.length_map] at h1 h2
        omega
      have HND : Hid ((en.map (·.id)).Nodup) := (HE.out.ids.nodup_iff).2 HB.out.idsL
      go_wp2_with fail
      refine (pairs_any t mb o l wr HB.out).mono ?_
      rintro e w4 ⟨va, ps1, rfl, hO4, hP4, hC4⟩
      have HP1 : Hid (ps1.Perm (pairsOf en)) := (hP4.trans (prs_all _ HB.out.idsL)).trans (pairsOf_perm HE.out)
      have hsap := sapPairs_any w4 _ u4 en (HO.out.keep hC4 (by simp)) HOK.out HND.out (by omega)
      have HO4 := Lib.hid hO4
      have HC4 := Lib.hid hC4
      clear hO4 hP4 hC4
      go_wp2_with fail
      refine hsap.mono ?_
      rintro e w5 ⟨vb, ys, ps2, rfl, hO5, hy5, hs5, hp5, hB5⟩
      have hC5 : OnlyChg (fun _ => False) w4 w5 := ⟨hB5.os, hB5.tape, hB5.output, hB5.size, fun k hk _ => hB5.block k hk⟩
      have HP2 : Hid (ps2.Perm (pairsOf en)) := by
        rw [sel_nbr ys (fun x hx => (HOK.out x (hy5.mem_iff.1 hx)).1) hs5] at hp5
        exact hp5.trans (pairsOf_perm hy5)
      obtain ⟨pa1, cap1, rfl⟩ := HO4.out.slice
      obtain ⟨pa2, cap2, rfl⟩ := hO5.slice
      obtain ⟨pa4, cap4, rfl⟩ := HO.out.slice
      have hl1 : ps1.length = (pairsOf en).length := HP1.out.length_eq
      have hl2 : ps2.length = (pairsOf en).length := HP2.out.length_eq
      obtain ⟨N, hN⟩ : ∃ N, (pairsOf en).length = N := ⟨_, rfl⟩
      have hNle : N ≤ 1000000000 := by
        have h1 := flat_len (prs (oLeaves o)) 4096 (fun a => Nat.le_trans (prs_len _ a) HB.out.llen) (oLeaves o)
        have h2 := ((prs_all _ HB.out.idsL).trans (pairsOf_perm HE.out)).length_eq
        have h3 := HB.out.llen
        omega
      have HW := Lib.hid (HC4.out.trans hC5)
      have HA1 := Lib.hid (HO4.out.keep hC5 (by simp))
      have HA2 := Lib.hid hO5
      have HEN := Lib.hid (HO.out.keep (HC4.out.trans hC5) (by simp))
      have HT := Lib.hid (HB.out.keep (HC4.out.trans hC5) (by simp))
      have hlen5 := len_any t mb o l w5 HT.out
      rw [hll] at hlen5
      have HNN := Lib.hid hN
      rw [hN] at hl1 hl2
      rw [hl1] at HA1
      rw [hl2] at HA2
      rw [hl1, hl2]
      clear hsap hO5 hy5 hs5 hp5 hB5 hC5 HO4 HO hN hll
      go_wp2_with fail
      refine hlen5.mono ?_
      rintro e w6 ⟨rfl, rfl⟩
      clear hlen5
      go_wp2_with fail
      go_loopg [8, 9] en.length (fun g v8 v9 wr => ∃ i : Nat, v9 = .int .i64 i ∧ v8 = .int .i64 (cntN en i) ∧ i ≤ en.length ∧ en.length - i ≤ g ∧ OnlyChg (fun _ => False) w5 wr)
      case atStart => exact ⟨0, rfl, rfl, Nat.zero_le _, by omega, OnlyChg.refl _ _⟩
      case round =>
        obtain ⟨i, rfl, rfl, hi, hgi, hCi⟩ := hrel
        rename World => w7
        have HCi := Lib.hid hCi
        clear hCi
        rcases Nat.lt_or_ge i en.length with hlti | hgei
        · obtain ⟨x, hx⟩ : ∃ x, en[i]? = some x := ⟨en[i], List.getElem?_eq_getElem hlti⟩
          have HX := Lib.hid hx
          clear hx
          go_wp2_with fail
          go_loopg [8, 10] i (fun g v8 v10 wr => ∃ j : Nat, v10 = .int .i64 j ∧ v8 = .int .i64 ((cntN en i + ((en.take j).filter (ovE x)).length : Nat)) ∧ j ≤ i ∧ i - j ≤ g ∧ OnlyChg (fun _ => False) w5 wr)
          case atStart => exact ⟨0, rfl, by simp, Nat.zero_le _, by omega, HCi.out⟩
          case round =>
            obtain ⟨j, rfl, rfl, hj, hgj, hCj⟩ := hrel
            rename World => w8
            have HCj := Lib.hid hCj
            clear hCj
            rcases Nat.lt_or_ge j i with hltj | hgej
            · obtain ⟨y, hy⟩ : ∃ y, en[j]? = some y := ⟨en[j], List.getElem?_eq_getElem (by omega)⟩
              have HY := Lib.hid hy
              clear hy
              obtain ⟨gs, rfl, hgs, x0, x1, x2, x3, x4⟩ := OwnE.read (HEN.out.keep HCj.out (by simp)) HX.out
              obtain ⟨gs', hgg, _, y0, y1, y2, y3, y4⟩ := OwnE.read (HEN.out.keep HCj.out (by simp)) HY.out
              cases hgg
              have qx1 : ∀ w', OnlyChg (fun k => w8.heap.size ≤ k) w8 w' → w'.cell? ⟨gs, i * 5 + 1, none⟩ = some (.int .i64 x.a) := fun w' h => only_cell (h.none fun _ hk => hk) hgs x1
              have qx2 : ∀ w', OnlyChg (fun k => w8.heap.size ≤ k) w8 w' → w'.cell? ⟨gs, i * 5 + 2, none⟩ = some (.int .i64 x.b) := fun w' h => only_cell (h.none fun _ hk => hk) hgs x2
              have qx3 : ∀ w', OnlyChg (fun k => w8.heap.size ≤ k) w8 w' → w'.cell? ⟨gs, i * 5 + 3, none⟩ = some (.int .i64 x.c) := fun w' h => only_cell (h.none fun _ hk => hk) hgs x3
              have qx4 : ∀ w', OnlyChg (fun k => w8.heap.size ≤ k) w8 w' → w'.cell? ⟨gs, i * 5 + 4, none⟩ = some (.int .i64 x.d) := fun w' h => only_cell (h.none fun _ hk => hk) hgs x4
              have qy1 : ∀ w', OnlyChg (fun k => w8.heap.size ≤ k) w8 w' → w'.cell? ⟨gs, j * 5 + 1, none⟩ = some (.int .i64 y.a) := fun w' h => only_cell (h.none fun _ hk => hk) hgs y1
              have qy2 : ∀ w', OnlyChg (fun k => w8.heap.size ≤ k) w8 w' → w'.cell? ⟨gs, j * 5 + 2, none⟩ = some (.int .i64 y.b) := fun w' h => only_cell (h.none fun _ hk => hk) hgs y2
              have qy3 : ∀ w', OnlyChg (fun k => w8.heap.size ≤ k) w8 w' → w'.cell? ⟨gs, j * 5 + 3, none⟩ = some (.int .i64 y.c) := fun w' h => only_cell (h.none fun _ hk => hk) hgs y3
              have qy4 : ∀ w', OnlyChg (fun k => w8.heap.size ≤ k) w8 w' → w'.cell? ⟨gs, j * 5 + 4, none⟩ = some (.int .i64 y.d) := fun w' h => only_cell (h.none fun _ hk => hk) hgs y4
              have im1 : (i : Int) < (en.length : Int) := by omega
              have im2 : (j : Int) < (en.length : Int) := by omega
              have im3 : (j : Int) < (i : Int) := by omega
              clear x0 x1 x2 x3 x4 y0 y1 y2 y3 y4
              go_wp2_with fail
              refine wp_region_pick (S := fun k => w8.heap.size ≤ k) [0, 1, 2, 3, 4, 5, 6, 7, 8, 9] 4 (by kernel_rfl) (by kernel_rfl) rfl ?_
              simp only [List.filterMap_cons, List.filterMap_nil, List.getElem?_cons_zero, List.getElem?_cons_succ]
              (repeat (refine wpS_want rfl (fun K hK => ?_); apply Exists.intro; refine ⟨fun w1 hR => ?_, ?_⟩; (go_simp; rfl); go_simp; refine hK _ ?_; clear hK K))
              refine wpS_nil ?_
              intro w9 hg9
              refine anyS_want [10, 11] (by kernel_rfl) rfl rfl ?_
              intro w10 hg10 q hq
              have hq' : q = 10 ∨ q = 11 := by simpa using hq
              clear hq
              rcases hq' with rfl | rfl
              · clear qx1 qx2 qx3 qx4 qy1 qy2 qy3 qy4
                refine ⟨_, rfl, rfl, fun K hK => ?_⟩
                have hb1 := heap_alloc_new w10 (.cells #[.int .i64 0, .int .i64 0, .int .i64 0, .int .i64 0] 30)
                have hG1 := (hg9.trans hg10).alloc (.cells #[.int .i64 0, .int .i64 0, .int .i64 0, .int .i64 0] 30)
                go_simp
                refine hK _ _ ((OnlyChg.refl _ _).grw ((Grw.refl _).alloc _)) ?_
                clear hK K
                refine anyS_want [11] (by kernel_rfl) rfl rfl ?_
                intro w11 hg11 q hq
                obtain rfl : q = 11 := by simpa using hq
                refine ⟨_, rfl, rfl, fun K hK => ?_⟩
                have hb1 := hg11.block hb1
                have hlt1 := (Array.getElem?_eq_some_iff.1 hb1).1
                have hb2 := heap_alloc_new w11 (.cells #[.int .i64 0, .int .i64 0, .int .i64 0, .int .i64 0] 30)
                have hb1 := ((Grw.refl w11).alloc (.cells #[.int .i64 0, .int .i64 0, .int .i64 0, .int .i64 0] 30)).block hb1
                have hG2 := (hG1.trans hg11).alloc (.cells #[.int .i64 0, .int .i64 0, .int .i64 0, .int .i64 0] 30)
                go_simp
                refine hK _ _ ((OnlyChg.refl _ _).grw ((Grw.refl _).alloc _)) ?_
                clear hK K
                obtain ⟨A, hA⟩ : ∃ A, A = w10.heap.size := ⟨_, rfl⟩
                obtain ⟨B, hB⟩ : ∃ B, B = w11.heap.size := ⟨_, rfl⟩
                obtain ⟨W2, hW2⟩ : ∃ W2, W2 = w11.alloc (.cells #[.int .i64 0, .int .i64 0, .int .i64 0, .int .i64 0] 30) := ⟨_, rfl⟩
                have hs10 := (hg9.trans hg10).size
                have hAB : A ≠ B := by omega
                have hA8 : w8.heap.size ≤ A := by omega
                have hB8 : w8.heap.size ≤ B := by omega
                rw [← hW2] at hb1 hb2 hG2 ⊢
                rw [← hA] at hb1 ⊢
                rw [← hB] at hb2 ⊢
                have hbA := hb1
                have hbB := hb2
                have hCW : OnlyChg (fun k => w8.heap.size ≤ k) w8 W2 := (OnlyChg.refl _ _).grw hG2
                clear hb1 hb2 hG1 hG2 hW2 hlt1 hs10 hg9 hg10 hg11 hA hB
                refine anyS_want [12] (by kernel_rfl) rfl rfl ?_
                intro w13 hg13 q hq
                obtain rfl : q = 12 := by simpa using hq
                refine ⟨_, rfl, rfl, fun K hK => ?_⟩
                have hbA := hg13.block hbA
                have hbB := hg13.block hbB
                have hC13 := hCW.grw hg13
                clear hCW hg13
                have s0 := cell_of_block hbA 0
                have s1 := cell_of_block hbA 1
                have s2 := cell_of_block hbA 2
                have s3 := cell_of_block hbA 3
                have sf := fun o => frozen_of_block hbA o
                simp only [Array.getElem?_eq_getElem, List.size_toArray, List.length_cons, List.length_nil, Nat.reduceAdd, Nat.reduceLT, List.getElem_toArray, List.getElem_cons_zero, List.getElem_cons_succ] at s0 s1 s2 s3
                obtain ⟨hst, hbn⟩ := store4 (w := w13) hbA (.int .i64 x.a) (.int .i64 x.b) (.int .i64 x.c) (.int .i64 x.d)
                obtain ⟨W13, hW13⟩ : ∃ W13, W13 = (((w13.setCell ⟨A, 0, none⟩ (.int .i64 x.a)).setCell ⟨A, 1, none⟩ (.int .i64 x.b)).setCell ⟨A, 2, none⟩ (.int .i64 x.c)).setCell ⟨A, 3, none⟩ (.int .i64 x.d) := ⟨_, rfl⟩
                rw [← hW13] at hst hbn
                go_simp
                rw [← hW13]
                refine hK _ _ (hst.mono fun k _ hk => by subst hk; exact hA8) ?_
                clear hK K s0 s1 s2 s3 sf
                have hbB := (hst.block _ (Array.getElem?_eq_some_iff.1 hbB).1 (fun e => hAB e.symm)).trans hbB
                have hbA := hbn
                have hCW := hC13.trans (hst.mono fun k _ hk => (by subst hk; exact hA8 : w8.heap.size ≤ k))
                clear hC13 hst hbn hW13
                refine anyS_want [13] (by kernel_rfl) rfl rfl ?_
                intro w14 hg14 q hq
                obtain rfl : q = 13 := by simpa using hq
                refine ⟨_, rfl, rfl, fun K hK => ?_⟩
                have hbA := hg14.block hbA
                have hbB := hg14.block hbB
                have hC14 := hCW.grw hg14
                clear hCW hg14
                have s0 := cell_of_block hbB 0
                have s1 := cell_of_block hbB 1
                have s2 := cell_of_block hbB 2
                have s3 := cell_of_block hbB 3
                have sf := fun o => frozen_of_block hbB o
                simp only [Array.getElem?_eq_getElem, List.size_toArray, List.length_cons, List.length_nil, Nat.reduceAdd, Nat.reduceLT, List.getElem_toArray, List.getElem_cons_zero, List.getElem_cons_succ] at s0 s1 s2 s3
                obtain ⟨hst, hbn⟩ := store4 (w := w14) hbB (.int .i64 y.a) (.int .i64 y.b) (.int .i64 y.c) (.int .i64 y.d)
                obtain ⟨W14, hW14⟩ : ∃ W14, W14 = (((w14.setCell ⟨B, 0, none⟩ (.int .i64 y.a)).setCell ⟨B, 1, none⟩ (.int .i64 y.b)).setCell ⟨B, 2, none⟩ (.int .i64 y.c)).setCell ⟨B, 3, none⟩ (.int .i64 y.d) := ⟨_, rfl⟩
                rw [← hW14] at hst hbn
                go_simp
                rw [← hW14]
                refine hK _ _ (hst.mono fun k _ hk => by subst hk; exact hB8) ?_
                clear hK K s0 s1 s2 s3 sf
                have hbA := (hst.block _ (Array.getElem?_eq_some_iff.1 hbA).1 (hAB)).trans hbA
                have hbB := hbn
                have hCW := hC14.trans (hst.mono fun k _ hk => (by subst hk; exact hB8 : w8.heap.size ≤ k))
                clear hC14 hst hbn hW14
                refine anyS_end (by kernel_rfl) ?_
                intro w15 hg15
                have hbA := hg15.block hbA
                have hbB := hg15.block hbB
                have HCJ := Lib.hid (HCj.out.trans ((hCW.grw hg15).none fun _ hk => hk))
                clear hCW hg15
                have xa := cell_of_block hbA 0
                have xb := cell_of_block hbA 1
                have xc := cell_of_block hbA 2
                have xd := cell_of_block hbA 3
                have ya := cell_of_block hbB 0
                have yb := cell_of_block hbB 1
                have yc := cell_of_block hbB 2
                have yd := cell_of_block hbB 3
                simp only [Array.getElem?_eq_getElem, List.size_toArray, List.length_cons, List.length_nil, Nat.reduceAdd, Nat.reduceLT, List.getElem_toArray, List.getElem_cons_zero, List.getElem_cons_succ] at xa xb xc xd ya yb yc yd
                by_cases t1 : x.c < y.a
                · have HF : Hid (((en.take (j + 1)).filter (ovE x)).length = ((en.take j).filter (ovE x)).length) := by
                    show _ = _
                    rw [List.take_add_one, HY.out, List.filter_append]
                    have hno : ovE x y = false := by simp only [ovE, ovB, decide_eq_false_iff_not]; omega
                    simp [hno]
                  go_wp2_with fail
                  go_roundg (i - (j + 1))
                  case measure => omega
                  case rel => exact ⟨j + 1, by go_num, by rw [HF.out]; congr 1, by omega, Nat.le_refl _, HCJ.out⟩
                by_cases t2 : y.c < x.a
                · have HF : Hid (((en.take (j + 1)).filter (ovE x)).length = ((en.take j).filter (ovE x)).length) := by
                    show _ = _
                    rw [List.take_add_one, HY.out, List.filter_append]
                    have hno : ovE x y = false := by simp only [ovE, ovB, decide_eq_false_iff_not]; omega
                    simp [hno]
                  go_wp2_with fail
                  go_roundg (i - (j + 1))
                  case measure => omega
                  case rel => exact ⟨j + 1, by go_num, by rw [HF.out]; congr 1, by omega, Nat.le_refl _, HCJ.out⟩
                by_cases t3 : x.d < y.b
                · have HF : Hid (((en.take (j + 1)).filter (ovE x)).length = ((en.take j).filter (ovE x)).length) := by
                    show _ = _
                    rw [List.take_add_one, HY.out, List.filter_append]
                    have hno : ovE x y = false := by simp only [ovE, ovB, decide_eq_false_iff_not]; omega
                    simp [hno]
                  go_wp2_with fail
                  go_roundg (i - (j + 1))
                  case measure => omega
                  case rel => exact ⟨j + 1, by go_num, by rw [HF.out]; congr 1, by omega, Nat.le_refl _, HCJ.out⟩
                by_cases t4 : y.d < x.b
                · have HF : Hid (((en.take (j + 1)).filter (ovE x)).length = ((en.take j).filter (ovE x)).length) := by
                    show _ = _
                    rw [List.take_add_one, HY.out, List.filter_append]
                    have hno : ovE x y = false := by simp only [ovE, ovB, decide_eq_false_iff_not]; omega
                    simp [hno]
                  go_wp2_with fail
                  go_roundg (i - (j + 1))
                  case measure => omega
                  case rel => exact ⟨j + 1, by go_num, by rw [HF.out]; congr 1, by omega, Nat.le_refl _, HCJ.out⟩
                have hov : ovE x y = true := by simp only [ovE, ovB, decide_eq_true_eq]; omega
                have HF : Hid (((en.take (j + 1)).filter (ovE x)).length = ((en.take j).filter (ovE x)).length + 1) := by
                  show _ = _
                  rw [List.take_add_one, HY.out, List.filter_append]
                  simp [hov]
                have hmem := pairsOf_mem y x hov en j i HY.out HX.out hltj
                have hcA : ∀ p : GrownBy, Calls Try.prog 10 #[.slice pa1 N cap1, .int .i64 x.id, .int .i64 y.id] (grow (w15.drewN p.n) p.os) fun e w' => e = .returned (.bool true) ∧ Grw (grow (w15.drewN p.n) p.os) w' := fun p => by
                  refine (contains_any _ _ _ ps1 x.id y.id ((HA1.out.keep HCJ.out (by simp)).grw (Grw.mk w15 p)) (by omega)).mono ?_
                  rintro e w' ⟨rfl, rfl⟩
                  exact ⟨ret_bool (decide_eq_true (HP1.out.mem_iff.2 hmem)), Grw.refl _⟩
                have hcB : ∀ p : GrownBy, Calls Try.prog 10 #[.slice pa2 N cap2, .int .i64 x.id, .int .i64 y.id] (grow (w15.drewN p.n) p.os) fun e w' => e = .returned (.bool true) ∧ Grw (grow (w15.drewN p.n) p.os) w' := fun p => by
                  refine (contains_any _ _ _ ps2 x.id y.id ((HA2.out.keep HCJ.out (by simp)).grw (Grw.mk w15 p)) (by omega)).mono ?_
                  rintro e w' ⟨rfl, rfl⟩
                  exact ⟨ret_bool (decide_eq_true (HP2.out.mem_iff.2 hmem)), Grw.refl _⟩
                obtain ⟨gz, hgz, hzl, z0, _⟩ := OwnE.read (HEN.out.keep HCJ.out (by simp)) HX.out
                cases hgz
                obtain ⟨gz, hgz, _, v0, _⟩ := OwnE.read (HEN.out.keep HCJ.out (by simp)) HY.out
                cases hgz
                have hcn : cntN en i + ((en.take j).filter (ovE x)).length ≤ 100000000 := by
                  have q1 := cntN_le en i hi
                  have q2 := List.length_filter_le (ovE x) (en.take j)
                  have q3 : i * en.length ≤ 4096 * 4096 := Nat.mul_le_mul (by omega) hlen
                  rw [List.length_take] at q2
                  omega
                clear hmem
                go_wp2_with fail
                refine wp_region_flow (by kernel_rfl) (by kernel_rfl) ?_
                (repeat (refine wpQ_step (fun K hK => ?_); go_simp; first | (refine hK _ ?_; clear hK K) | (apply Exists.intro; refine ⟨fun p => ?_, hK _ ?_⟩; (go_at_call 10; first | (with_reducible exact hcA p) | (with_reducible exact hcB p)); clear hK K)))
                refine wpQ_nil ?_
                intro w16 hg16
                have HCJ := Lib.hid (HCJ.out.grw hg16)
                clear hg16 hcA hcB
                go_wp2_with fail
                go_roundg (i - (j + 1))
                case measure => omega
                case rel => exact ⟨j + 1, by go_num, by rw [HF.out]; congr 1, by omega, Nat.le_refl _, HCJ.out⟩
              · clear qx1 qx2 qx3 qx4 qy1 qy2 qy3 qy4
                refine ⟨_, rfl, rfl, fun K hK => ?_⟩
                have hb1 := heap_alloc_new w10 (.cells #[.int .i64 0, .int .i64 0, .int .i64 0, .int .i64 0] 30)
                have hG1 := (hg9.trans hg10).alloc (.cells #[.int .i64 0, .int .i64 0, .int .i64 0, .int .i64 0] 30)
                go_simp
                refine hK _ _ ((OnlyChg.refl _ _).grw ((Grw.refl _).alloc _)) ?_
                clear hK K
                refine anyS_want [10] (by kernel_rfl) rfl rfl ?_
                intro w11 hg11 q hq
                obtain rfl : q = 10 := by simpa using hq
                refine ⟨_, rfl, rfl, fun K hK => ?_⟩
                have hb1 := hg11.block hb1
                have hlt1 := (Array.getElem?_eq_some_iff.1 hb1).1
                have hb2 := heap_alloc_new w11 (.cells #[.int .i64 0, .int .i64 0, .int .i64 0, .int .i64 0] 30)
                have hb1 := ((Grw.refl w11).alloc (.cells #[.int .i64 0, .int .i64 0, .int .i64 0, .int .i64 0] 30)).block hb1
                have hG2 := (hG1.trans hg11).alloc (.cells #[.int .i64 0, .int .i64 0, .int .i64 0, .int .i64 0] 30)
                go_simp
                refine hK _ _ ((OnlyChg.refl _ _).grw ((Grw.refl _).alloc _)) ?_
                clear hK K
                obtain ⟨A, hA⟩ : ∃ A, A = w11.heap.size := ⟨_, rfl⟩
                obtain ⟨B, hB⟩ : ∃ B, B = w10.heap.size := ⟨_, rfl⟩
                obtain ⟨W2, hW2⟩ : ∃ W2, W2 = w11.alloc (.cells #[.int .i64 0, .int .i64 0, .int .i64 0, .int .i64 0] 30) := ⟨_, rfl⟩
                have hs10 := (hg9.trans hg10).size
                have hAB : A ≠ B := by omega
                have hA8 : w8.heap.size ≤ A := by omega
                have hB8 : w8.heap.size ≤ B := by omega
                rw [← hW2] at hb1 hb2 hG2 ⊢
                rw [← hB] at hb1 ⊢
                rw [← hA] at hb2 ⊢
                have hbA := hb2
                have hbB := hb1
                have hCW : OnlyChg (fun k => w8.heap.size ≤ k) w8 W2 := (OnlyChg.refl _ _).grw hG2
                clear hb1 hb2 hG1 hG2 hW2 hlt1 hs10 hg9 hg10 hg11 hA hB
                refine anyS_want [12] (by kernel_rfl) rfl rfl ?_
                intro w13 hg13 q hq
                obtain rfl : q = 12 := by simpa using hq
                refine ⟨_, rfl, rfl, fun K hK => ?_⟩
                have hbA := hg13.block hbA
                have hbB := hg13.block hbB
                have hC13 := hCW.grw hg13
                clear hCW hg13
                have s0 := cell_of_block hbA 0
                have s1 := cell_of_block hbA 1
                have s2 := cell_of_block hbA 2
                have s3 := cell_of_block hbA 3
                have sf := fun o => frozen_of_block hbA o
                simp only [Array.getElem?_eq_getElem, List.size_toArray, List.length_cons, List.length_nil, Nat.reduceAdd, Nat.reduceLT, List.getElem_toArray, List.getElem_cons_zero, List.getElem_cons_succ] at s0 s1 s2 s3
                obtain ⟨hst, hbn⟩ := store4 (w := w13) hbA (.int .i64 x.a) (.int .i64 x.b) (.int .i64 x.c) (.int .i64 x.d)
                obtain ⟨W13, hW13⟩ : ∃ W13, W13 = (((w13.setCell ⟨A, 0, none⟩ (.int .i64 x.a)).setCell ⟨A, 1, none⟩ (.int .i64 x.b)).setCell ⟨A, 2, none⟩ (.int .i64 x.c)).setCell ⟨A, 3, none⟩ (.int .i64 x.d) := ⟨_, rfl⟩
                rw [← hW13] at hst hbn
                go_simp
                rw [← hW13]
                refine hK _ _ (hst.mono fun k _ hk => by subst hk; exact hA8) ?_
                clear hK K s0 s1 s2 s3 sf
                have hbB := (hst.block _ (Array.getElem?_eq_some_iff.1 hbB).1 (fun e => hAB e.symm)).trans hbB
                have hbA := hbn
                have hCW := hC13.trans (hst.mono fun k _ hk => (by subst hk; exact hA8 : w8.heap.size ≤ k))
                clear hC13 hst hbn hW13
                refine anyS_want [13] (by kernel_rfl) rfl rfl ?_
                intro w14 hg14 q hq
                obtain rfl : q = 13 := by simpa using hq
                refine ⟨_, rfl, rfl, fun K hK => ?_⟩
                have hbA := hg14.block hbA
                have hbB := hg14.block hbB
                have hC14 := hCW.grw hg14
                clear hCW hg14
                have s0 := cell_of_block hbB 0
                have s1 := cell_of_block hbB 1
                have s2 := cell_of_block hbB 2
                have s3 := cell_of_block hbB 3
                have sf := fun o => frozen_of_block hbB o
                simp only [Array.getElem?_eq_getElem, List.size_toArray, List.length_cons, List.length_nil, Nat.reduceAdd, Nat.reduceLT, List.getElem_toArray, List.getElem_cons_zero, List.getElem_cons_succ] at s0 s1 s2 s3
                obtain ⟨hst, hbn⟩ := store4 (w := w14) hbB (.int .i64 y.a) (.int .i64 y.b) (.int .i64 y.c) (.int .i64 y.d)
                obtain ⟨W14, hW14⟩ : ∃ W14, W14 = (((w14.setCell ⟨B, 0, none⟩ (.int .i64 y.a)).setCell ⟨B, 1, none⟩ (.int .i64 y.b)).setCell ⟨B, 2, none⟩ (.int .i64 y.c)).setCell ⟨B, 3, none⟩ (.int .i64 y.d) := ⟨_, rfl⟩
                rw [← hW14] at hst hbn
                go_simp
                rw [← hW14]
                refine hK _ _ (hst.mono fun k _ hk => by subst hk; exact hB8) ?_
                clear hK K s0 s1 s2 s3 sf
                have hbA := (hst.block _ (Array.getElem?_eq_some_iff.1 hbA).1 (hAB)).trans hbA
                have hbB := hbn
                have hCW := hC14.trans (hst.mono fun k _ hk => (by subst hk; exact hB8 : w8.heap.size ≤ k))
                clear hC14 hst hbn hW14
                refine anyS_end (by kernel_rfl) ?_
                intro w15 hg15
                have hbA := hg15.block hbA
                have hbB := hg15.block hbB
                have HCJ := Lib.hid (HCj.out.trans ((hCW.grw hg15).none fun _ hk => hk))
                clear hCW hg15
                have xa := cell_of_block hbA 0
                have xb := cell_of_block hbA 1
                have xc := cell_of_block hbA 2
                have xd := cell_of_block hbA 3
                have ya := cell_of_block hbB 0
                have yb := cell_of_block hbB 1
                have yc := cell_of_block hbB 2
                have yd := cell_of_block hbB 3
                simp only [Array.getElem?_eq_getElem, List.size_toArray, List.length_cons, List.length_nil, Nat.reduceAdd, Nat.reduceLT, List.getElem_toArray, List.getElem_cons_zero, List.getElem_cons_succ] at xa xb xc xd ya yb yc yd
                by_cases t1 : x.c < y.a
                · have HF : Hid (((en.take (j + 1)).filter (ovE x)).length = ((en.take j).filter (ovE x)).length) := by
                    show _ = _
                    rw [List.take_add_one, HY.out, List.filter_append]
                    have hno : ovE x y = false := by simp only [ovE, ovB, decide_eq_false_iff_not]; omega
                    simp [hno]
                  go_wp2_with fail
                  go_roundg (i - (j + 1))
                  case measure => omega
                  case rel => exact ⟨j + 1, by go_num, by rw [HF.out]; congr 1, by omega, Nat.le_refl _, HCJ.out⟩
                by_cases t2 : y.c < x.a
                · have HF : Hid (((en.take (j + 1)).filter (ovE x)).length = ((en.take j).filter (ovE x)).length) := by
                    show _ = _
                    rw [List.take_add_one, HY.out, List.filter_append]
                    have hno : ovE x y = false := by simp only [ovE, ovB, decide_eq_false_iff_not]; omega
                    simp [hno]
                  go_wp2_with fail
                  go_roundg (i - (j + 1))
                  case measure => omega
                  case rel => exact ⟨j + 1, by go_num, by rw [HF.out]; congr 1, by omega, Nat.le_refl _, HCJ.out⟩
                by_cases t3 : x.d < y.b
                · have HF : Hid (((en.take (j + 1)).filter (ovE x)).length = ((en.take j).filter (ovE x)).length) := by
                    show _ = _
                    rw [List.take_add_one, HY.out, List.filter_append]
                    have hno : ovE x y = false := by simp only [ovE, ovB, decide_eq_false_iff_not]; omega
                    simp [hno]
                  go_wp2_with fail
                  go_roundg (i - (j + 1))
                  case measure => omega
                  case rel => exact ⟨j + 1, by go_num, by rw [HF.out]; congr 1, by omega, Nat.le_refl _, HCJ.out⟩
                by_cases t4 : y.d < x.b
                · have HF : Hid (((en.take (j + 1)).filter (ovE x)).length = ((en.take j).filter (ovE x)).length) := by
                    show _ = _
                    rw [List.take_add_one, HY.out, List.filter_append]
                    have hno : ovE x y = false := by simp only [ovE, ovB, decide_eq_false_iff_not]; omega
                    simp [hno]
                  go_wp2_with fail
                  go_roundg (i - (j + 1))
                  case measure => omega
                  case rel => exact ⟨j + 1, by go_num, by rw [HF.out]; congr 1, by omega, Nat.le_refl _, HCJ.out⟩
                have hov : ovE x y = true := by simp only [ovE, ovB, decide_eq_true_eq]; omega
                have HF : Hid (((en.take (j + 1)).filter (ovE x)).length = ((en.take j).filter (ovE x)).length + 1) := by
                  show _ = _
                  rw [List.take_add_one, HY.out, List.filter_append]
                  simp [hov]
                have hmem := pairsOf_mem y x hov en j i HY.out HX.out hltj
                have hcA : ∀ p : GrownBy, Calls Try.prog 10 #[.slice pa1 N cap1, .int .i64 x.id, .int .i64 y.id] (grow (w15.drewN p.n) p.os) fun e w' => e = .returned (.bool true) ∧ Grw (grow (w15.drewN p.n) p.os) w' := fun p => by
                  refine (contains_any _ _ _ ps1 x.id y.id ((HA1.out.keep HCJ.out (by simp)).grw (Grw.mk w15 p)) (by omega)).mono ?_
                  rintro e w' ⟨rfl, rfl⟩
                  exact ⟨ret_bool (decide_eq_true (HP1.out.mem_iff.2 hmem)), Grw.refl _⟩
                have hcB : ∀ p : GrownBy, Calls Try.prog 10 #[.slice pa2 N cap2, .int .i64 x.id, .int .i64 y.id] (grow (w15.drewN p.n) p.os) fun e w' => e = .returned (.bool true) ∧ Grw (grow (w15.drewN p.n) p.os) w' := fun p => by
                  refine (contains_any _ _ _ ps2 x.id y.id ((HA2.out.keep HCJ.out (by simp)).grw (Grw.mk w15 p)) (by omega)).mono ?_
                  rintro e w' ⟨rfl, rfl⟩
                  exact ⟨ret_bool (decide_eq_true (HP2.out.mem_iff.2 hmem)), Grw.refl _⟩
                obtain ⟨gz, hgz, hzl, z0, _⟩ := OwnE.read (HEN.out.keep HCJ.out (by simp)) HX.out
                cases hgz
                obtain ⟨gz, hgz, _, v0, _⟩ := OwnE.read (HEN.out.keep HCJ.out (by simp)) HY.out
                cases hgz
                have hcn : cntN en i + ((en.take j).filter (ovE x)).length ≤ 100000000 := by
                  have q1 := cntN_le en i hi
                  have q2 := List.length_filter_le (ovE x) (en.take j)
                  have q3 : i * en.length ≤ 4096 * 4096 := Nat.mul_le_mul (by omega) hlen
                  rw [List.length_take] at q2
                  omega
                clear hmem
                go_wp2_with fail
                refine wp_region_flow (by kernel_rfl) (by kernel_rfl) ?_
                (repeat (refine wpQ_step (fun K hK => ?_); go_simp; first | (refine hK _ ?_; clear hK K) | (apply Exists.intro; refine ⟨fun p => ?_, hK _ ?_⟩; (go_at_call 10; first | (with_reducible exact hcA p) | (with_reducible exact hcB p)); clear hK K)))
                refine wpQ_nil ?_
                intro w16 hg16
                have HCJ := Lib.hid (HCJ.out.grw hg16)
                clear hg16 hcA hcB
                go_wp2_with fail
                go_roundg (i - (j + 1))
                case measure => omega
                case rel => exact ⟨j + 1, by go_num, by rw [HF.out]; congr 1, by omega, Nat.le_refl _, HCJ.out⟩
            · obtain rfl : j = i := by omega
              have HCN := Lib.hid (cntN_succ HX.out)
              go_wp2_with fail
              go_roundg (en.length - (j + 1))
              case measure => omega
              case rel => exact ⟨j + 1, by go_num, by rw [HCN.out], by omega, Nat.le_refl _, HCj.out⟩
        · obtain rfl : i = en.length := by omega
          have hcn : cntN en en.length = N := (cntN_all en).trans HNN.out
          rw [hcn]
          have hex := example_any w7
          go_wp2_with fail
          refine hex.mono ?_
          rintro e w8 ⟨rfl, hC8⟩
          have HC8 := Lib.hid (((HC.out.trans HW.out).trans HCi.out).trans hC8)
          clear hex hC8
          go_wp2_with fail
          go_ret
          exact ⟨rfl, HC8.out⟩

end Go.Proofs.Ytbnfngelkaembaa
