/- The row TopEveryRay of the program holds; part 5 of the proof. No condition. -/
import Derived.Test.YtokkghhmliplfaaGreatK3
import Derived.WalkMore
import Derived.Deep.DeepCutAuto
import Derived.Laws.StructEq
import Derived.Deep.MidRow
set_option maxRecDepth 100000
set_option maxHeartbeats 12800000
set_option linter.all false
namespace Go.Proofs.YtokkghhmliplfaaGreat
section
open Go.RowKit Go.Sort
attribute [local go_sem] qAt qUpon okOp okUpon cell_in_grow frozen_in_grow
structure CpS where
 entry : Int
 exit : Int
 first : Int
 left : Bool
def cpP (l : List P2) (f : P2) (i : Nat) : Int := dotI (edgeN l i).1 (edgeN l i).2 (subI (ptL l i).1 (sat f.1)) (subI (ptL l i).2 (sat f.2))
def cpQ (l : List P2) (f t : P2) (i : Nat) : Int := dotI (edgeN l i).1 (edgeN l i).2 (ccD f t).1 (ccD f t).2
def cpStep (p q : Int) (i : Nat) (s : CpS) : CpS :=
 if q < 0 then (if s.first < 0 ∨ s.entry < divI p q then { s with first := i, entry := divI p q } else s)
 else if 0 < q then (if s.left = false ∨ divI p q < s.exit then { s with left := true, exit := divI p q } else s)
 else s
def cpGo (l : List P2) (f t : P2) : Nat → Nat → CpS → Option CpS
 | 0, _, s => some s
 | k + 1, i, s => if cpQ l f t i = 0 ∧ cpP l f i < 0 then none else cpGo l f t k (i + 1) (cpStep (cpP l f i) (cpQ l f t i) i s)
def cpFin (l : List P2) (s : CpS) : Hit :=
 if s.first < 0 ∨ s.entry < 0 ∨ 65536 < s.entry ∨ (s.left = true ∧ s.exit < s.entry) then .no else ⟨s.entry, edgeN l s.first.toNat, true⟩
def cpF (l : List P2) (f t : P2) : Hit := match cpGo l f t l.length 0 ⟨0, 0, -1, false⟩ with
 | none => .no
 | some s => cpFin l s
def cpInv (n : Nat) (s : CpS) : Prop := s.first = -1 ∨ ∃ j : Nat, j < n ∧ s.first = j
theorem cpStep_inv {p q : Int} {n i : Nat} {s : CpS} (h : cpInv n s) (hi : i < n) : cpInv n (cpStep p q i s) := by
 unfold cpStep
 (repeat' split) <;> first | exact h | exact .inr ⟨i, hi, rfl⟩
theorem castPolygon_any (a : Option Addr) (cap : Nat) (l : List P2) (fx fy tx ty : Int) (w : World) (hs : Sl 2 encV w a l) (h2 : 2 ≤ l.length) (hl : l.length < 4611686018427387904) :
   Calls Tryz.prog 33 #[.slice a l.length cap, .agg #[.int .i64 (fx), .int .i64 (fy)], .agg #[.int .i64 (tx), .int .i64 (ty)]] w fun e w' => e = .returned (cpF l (fx, fy) (tx, ty)).v ∧ Grw w w' := by
 have HS := Lib.hid hs
 clear hs
 go_enter Tryz.func33, Tryz.ntmps33
 go_wp2_with fail
 go_step3
 go_wp2_with fail
 (refine wp_region_flowA 4 (by kernel_rfl) (by kernel_rfl) ?_; simp only [tD]; (repeat (refine wpQ_step (fun K hK => ?_); go_simp; first | (refine hK _ ?_; clear hK K) | (apply Exists.intro; refine ⟨fun _ => ?_, hK _ ?_⟩; (first | (go_at_call 67; exact (rsat_any _ _ _))); clear hK K))); refine wpQ_nil ?_)
 intro w2 hg2
 have b0 : Bk w2 w.heap.size 23 #[.int .i64 fx, .int .i64 fy] := Bk.grw (by (repeat with_reducible first | exact Bk.new' (by simp) | refine Bk.alloc ?_ _)) hg2
 have b1 : Bk w2 (w.heap.size + 1) 23 #[.int .i64 tx, .int .i64 ty] := Bk.grw (by (repeat with_reducible first | exact Bk.new' (by simp) | refine Bk.alloc ?_ _)) hg2
 have b2 : Bk w2 (w.heap.size + 1 + 1) 23 #[.int .i64 0, .int .i64 0] := Bk.grw (by (repeat with_reducible first | exact Bk.new' (by simp) | refine Bk.alloc ?_ _)) hg2
 (have p0 := (b0).cell 0; simp only [gL] at p0); (have p1 := (b0).cell 1; simp only [gL] at p1); have pf := (b0).frozen; have pl := (b0).lt
 (have q0 := (b1).cell 0; simp only [gL] at q0); (have q1 := (b1).cell 1; simp only [gL] at q1); have qf := (b1).frozen; have ql := (b1).lt
 have H2 := Lib.hid (show _ ∧ _ ∧ _ from ⟨b0, b1, b2⟩)
 clear b0 b1 b2
 go_upto_region 2 with (fail)
 obtain ⟨b0, b1, b2⟩ := H2.out
 refine wp_gen (fun x => Grw w x ∧ Bk x (w.heap.size) 23 #[.int .i64 (sat fx), .int .i64 (sat fy)] ∧ Bk x (w.heap.size + 1) 23 #[.int .i64 (sat tx), .int .i64 (sat ty)] ∧ Bk x (w.heap.size + 1 + 1) 23 #[.int .i64 (0), .int .i64 (0)]) ⟨by (repeat with_reducible first | exact .refl _ | assumption | refine .setAt ?_ (by first | omega | simp <;> omega) _ | refine .alloc ?_ _ | refine .drewN ?_ _ | refine .drew ?_ | refine .trans ?_ (by assumption)), by (repeat' first | (with_reducible first | assumption | apply Bk.set' | apply Bk.far | exact Bk.new' (by simp) | refine Bk.alloc ?_ _) | refine Bk.grw ?_ (by with_reducible assumption) | omega | rfl), by (repeat' first | (with_reducible first | assumption | apply Bk.set' | apply Bk.far | exact Bk.new' (by simp) | refine Bk.alloc ?_ _) | refine Bk.grw ?_ (by with_reducible assumption) | omega | rfl), by (repeat' first | (with_reducible first | assumption | apply Bk.set' | apply Bk.far | exact Bk.new' (by simp) | refine Bk.alloc ?_ _) | refine Bk.grw ?_ (by with_reducible assumption) | omega | rfl)⟩ ?_; rintro w3 ⟨hG3, hB3_0, hB3_1, hB3_2⟩; (have g3_00 := (hB3_0).cell 0; simp only [gL] at g3_00); (have g3_01 := (hB3_0).cell 1; simp only [gL] at g3_01); have g3_0f := (hB3_0).frozen; have g3_0l := (hB3_0).lt; (have g3_10 := (hB3_1).cell 0; simp only [gL] at g3_10); (have g3_11 := (hB3_1).cell 1; simp only [gL] at g3_11); have g3_1f := (hB3_1).frozen; have g3_1l := (hB3_1).lt; (have g3_20 := (hB3_2).cell 0; simp only [gL] at g3_20); (have g3_21 := (hB3_2).cell 1; simp only [gL] at g3_21); have g3_2f := (hB3_2).frozen; have g3_2l := (hB3_2).lt; have HB3 := Lib.hid (show _ ∧ _ ∧ _ from ⟨hB3_0, hB3_1, hB3_2⟩); clear hB3_0 hB3_1 hB3_2
 clear b0 b1 b2 p0 p1 pf pl q0 q1 qf ql H2 hg2
 go_wp2_with fail
 (go_at_call 36; refine (vsub_any _ _ _ _ _).mono ?_; rintro e w4 ⟨rfl, hg4⟩)
 obtain ⟨b0, b1, b2⟩ := HB3.out
 go_upto_region 3 with (fail); refine wp_gen (fun x => Grw w3 x ∧ Bk x (w.heap.size) 23 #[.int .i64 (sat fx), .int .i64 (sat fy)] ∧ Bk x (w.heap.size + 1 + 1) 23 #[.int .i64 (0), .int .i64 (0)] ∧ Bk x (w4.heap.size) 23 #[.int .i64 (subI (sat tx) (sat fx)), .int .i64 (subI (sat ty) (sat fy))]) ⟨by (repeat with_reducible first | exact .refl _ | assumption | refine .setAt ?_ (by first | omega | simp <;> omega) _ | refine .alloc ?_ _ | refine .drewN ?_ _ | refine .drew ?_ | refine .trans ?_ (by assumption)), by (repeat' first | (with_reducible first | assumption | apply Bk.set' | apply Bk.far | exact Bk.new' (by simp) | refine Bk.alloc ?_ _) | refine Bk.grw ?_ (by with_reducible assumption) | omega | rfl), by (repeat' first | (with_reducible first | assumption | apply Bk.set' | apply Bk.far | exact Bk.new' (by simp) | refine Bk.alloc ?_ _) | refine Bk.grw ?_ (by with_reducible assumption) | omega | rfl), by (repeat' first | (with_reducible first | assumption | apply Bk.set' | apply Bk.far | exact Bk.new' (by simp) | refine Bk.alloc ?_ _) | refine Bk.grw ?_ (by with_reducible assumption) | omega | rfl)⟩ ?_; rintro w5 ⟨hG5, hB5_0, hB5_1, hB5_2⟩; (have g5_00 := (hB5_0).cell 0; simp only [gL] at g5_00); (have g5_01 := (hB5_0).cell 1; simp only [gL] at g5_01); have g5_0f := (hB5_0).frozen; have g5_0l := (hB5_0).lt; (have g5_10 := (hB5_1).cell 0; simp only [gL] at g5_10); (have g5_11 := (hB5_1).cell 1; simp only [gL] at g5_11); have g5_1f := (hB5_1).frozen; have g5_1l := (hB5_1).lt; (have g5_20 := (hB5_2).cell 0; simp only [gL] at g5_20); (have g5_21 := (hB5_2).cell 1; simp only [gL] at g5_21); have g5_2f := (hB5_2).frozen; have g5_2l := (hB5_2).lt; have HB5 := Lib.hid (show _ ∧ _ ∧ _ from ⟨hB5_0, hB5_1, hB5_2⟩); clear hB5_0 hB5_1 hB5_2
 clear b0 b1 b2 HB3 hg4 g3_00 g3_01 g3_0f g3_0l g3_10 g3_11 g3_1f g3_1l g3_20 g3_21 g3_2f g3_2l
 obtain ⟨d, hd⟩ : ∃ d : P2, d = ccD (fx, fy) (tx, ty) := ⟨_, rfl⟩
 have d1 : subI (sat tx) (sat fx) = d.1 := by rw [hd]; rfl
 have d2 : subI (sat ty) (sat fy) = d.2 := by rw [hd]; rfl
 simp only [d1, d2] at g5_20 g5_21 HB5 ⊢
 have HD := Lib.hid hd
 have hw5 : Grw w w5 := hG3.trans hG5
 clear d1 d2 hd hG3 hG5 g5_00 g5_01 g5_0f g5_0l g5_10 g5_11 g5_1f g5_1l g5_20 g5_21 g5_2f g5_2l
 go_wp2_with fail
 go_step3
 have h2' : decide ((1 : Int) < l.length) = true := by simp; omega
 simp only [h2']
 clear h2'
 go_wp2_with fail
 go_loopg [33, 10, 11, 12, 13, 14] l.length (fun g v v10 v11 v12 v13 v14 wr => ∃ (i : Nat) (s : CpS), v = .int .i64 i ∧ i ≤ l.length ∧ l.length - i ≤ g ∧ v10 = .int .i64 s.entry ∧ v11 = .int .i64 s.exit ∧ v12 = .int .i64 s.first ∧ v13 = .bool s.left ∧ v14 = .bool true ∧ cpInv l.length s ∧ cpGo l (fx, fy) (tx, ty) l.length 0 ⟨0, 0, -1, false⟩ = cpGo l (fx, fy) (tx, ty) (l.length - i) i s ∧ Grw w5 wr)
 case atStart => exact ⟨0, ⟨0, 0, -1, false⟩, rfl, Nat.zero_le _, by omega, rfl, rfl, rfl, rfl, rfl, .inl rfl, rfl, Grw.refl _⟩
 case round =>
   obtain ⟨i, s, rfl, hi, hg, rfl, rfl, rfl, rfl, rfl, hI, hC, hgr⟩ := hrel
   have HI := Lib.hid hI
   have HC := Lib.hid hC
   clear hI hC
   rcases Nat.lt_or_ge i l.length with hlt | hge
   · obtain ⟨x, hx⟩ : ∃ x, l[i]? = some x := ⟨l[i], List.getElem?_eq_getElem hlt⟩
     have HX := Lib.hid hx
     have hi0 : (0 : Int) ≤ i := by omega
     have hi1 : (i : Int) < l.length := by omega
     have hwr : Grw w wr := hw5.trans hgr
     obtain ⟨N, hN⟩ : ∃ N, N = edgeN l i := ⟨_, rfl⟩
     have HPe := Lib.hid (show cpP l (fx, fy) i = dotI N.1 N.2 (subI x.1 (sat fx)) (subI x.2 (sat fy)) by unfold cpP; rw [ptL_of hx, hN])
     have HQe := Lib.hid (show cpQ l (fx, fy) (tx, ty) i = dotI N.1 N.2 d.1 d.2 by unfold cpQ; rw [hN, HD.out])
     have HC1 := Lib.hid (show cpGo l (fx, fy) (tx, ty) (l.length - i) i s = if cpQ l (fx, fy) (tx, ty) i = 0 ∧ cpP l (fx, fy) i < 0 then none else cpGo l (fx, fy) (tx, ty) (l.length - (i + 1)) (i + 1) (cpStep (cpP l (fx, fy) i) (cpQ l (fx, fy) (tx, ty) i) i s) by rw [show l.length - i = (l.length - (i + 1)) + 1 by omega]; rfl)
     have HN := Lib.hid hN
     clear hx hN
     go_wp2_with fail
     (go_at_call 77; refine (edgeNormal_any _ _ _ _ _ (HS.out.grw hwr) h2 hlt hl).mono ?_; rintro e w6 ⟨rfl, hg6⟩)
     rw [← HN.out]
     obtain ⟨b0, b1, b2⟩ := HB5.out
     have b0' := b0.grw hgr
     have b1' := b1.grw hgr
     have b2' := b2.grw hgr
     clear b0 b1 b2
     go_upto_region 10 with (fail); refine wp_gen (fun x => Grw wr x ∧ Bk x (w.heap.size) 23 #[.int .i64 (sat fx), .int .i64 (sat fy)] ∧ Bk x (w4.heap.size) 23 #[.int .i64 (d.1), .int .i64 (d.2)] ∧ Bk x (w6.heap.size) 23 #[.int .i64 (N.1), .int .i64 (N.2)]) ⟨by (repeat with_reducible first | exact .refl _ | assumption | refine .setAt ?_ (by first | omega | simp <;> omega) _ | refine .alloc ?_ _ | refine .drewN ?_ _ | refine .drew ?_ | refine .trans ?_ (by assumption)), by (repeat' first | (with_reducible first | assumption | apply Bk.set' | apply Bk.far | exact Bk.new' (by simp) | refine Bk.alloc ?_ _) | refine Bk.grw ?_ (by with_reducible assumption) | omega | rfl), by (repeat' first | (with_reducible first | assumption | apply Bk.set' | apply Bk.far | exact Bk.new' (by simp) | refine Bk.alloc ?_ _) | refine Bk.grw ?_ (by with_reducible assumption) | omega | rfl), by (repeat' first | (with_reducible first | assumption | apply Bk.set' | apply Bk.far | exact Bk.new' (by simp) | refine Bk.alloc ?_ _) | refine Bk.grw ?_ (by with_reducible assumption) | omega | rfl)⟩ ?_; rintro w7 ⟨hG7, hB7_0, hB7_1, hB7_2⟩; (have g7_00 := (hB7_0).cell 0; simp only [gL] at g7_00); (have g7_01 := (hB7_0).cell 1; simp only [gL] at g7_01); have g7_0f := (hB7_0).frozen; have g7_0l := (hB7_0).lt; (have g7_10 := (hB7_1).cell 0; simp only [gL] at g7_10); (have g7_11 := (hB7_1).cell 1; simp only [gL] at g7_11); have g7_1f := (hB7_1).frozen; have g7_1l := (hB7_1).lt; (have g7_20 := (hB7_2).cell 0; simp only [gL] at g7_20); (have g7_21 := (hB7_2).cell 1; simp only [gL] at g7_21); have g7_2f := (hB7_2).frozen; have g7_2l := (hB7_2).lt; have HB7 := Lib.hid (show _ ∧ _ ∧ _ from ⟨hB7_0, hB7_1, hB7_2⟩); clear hB7_0 hB7_1 hB7_2
     have HBR := Lib.hid b1'
     clear b0' b1' b2' hg6
     obtain ⟨b, off, rfl, hb, x0, x1⟩ := (HS.out.grw (hwr.trans hG7)).vec HX.out
     (refine wp_region_flowA 11 (by kernel_rfl) (by kernel_rfl) ?_; simp only [tD]; (repeat (refine wpQ_step (fun K hK => ?_); go_simp; first | (refine hK _ ?_; clear hK K) | (apply Exists.intro; refine ⟨fun _ => ?_, hK _ ?_⟩; (first | (go_at_call 36; exact (vsub_any _ _ _ _ _)) | (go_at_call 71; exact (dot_any _ _ _ _ _))); clear hK K))); refine wpQ_nil ?_)
     intro w8 hg8
     obtain ⟨p, hp⟩ : ∃ p, p = dotI N.1 N.2 (subI x.1 (sat fx)) (subI x.2 (sat fy)) := ⟨_, rfl⟩
     obtain ⟨q, hq⟩ : ∃ q, q = dotI N.1 N.2 d.1 d.2 := ⟨_, rfl⟩
     simp only [← hp, ← hq]
     have HC2 := Lib.hid (HC.out.trans (HC1.out.trans (by rw [HPe.out, HQe.out, ← hp, ← hq])))
     clear hp hq HPe HQe HC HC1
     have hw8 : Grw w w8 := hwr.trans (hG7.trans hg8)
     have hw58 : Grw w5 w8 := hgr.trans (hG7.trans hg8)
     have hB8 := HBR.out.grw (hG7.trans hg8)
     (have r0 := (hB8).cell 0; simp only [gL] at r0); (have r1 := (hB8).cell 1; simp only [gL] at r1); have rf := (hB8).frozen; have rl := (hB8).lt
     clear g7_00 g7_01 g7_0f g7_0l g7_10 g7_11 g7_1f g7_1l g7_20 g7_21 g7_2f g7_2l x0 x1 hb HB7 HBR hB8 hG7 hg8 hgr hwr
     by_cases k0 : q = 0
     · by_cases k1 : p < 0
       · have HF := Lib.hid (show cpF l (fx, fy) (tx, ty) = .no by unfold cpF; rw [HC2.out, if_pos ⟨k0, k1⟩])
         have hb1 : (q == 0) = true := by simp [k0]
         clear HC2 k0
         go_wp2_with fail
         (try rw [Exit.noGoto_ret])
         (refine bodyPost_ret (v := Hit.no.v) (by simp [results, Tryz.results33, go_sem, Hit.no, Hit.v, r0, r1, rf, rl]) rfl ⟨by rw [HF.out], ?_⟩; (repeat with_reducible first | exact .refl _ | assumption | refine .setAt ?_ (by first | omega | simp <;> omega) _ | refine .alloc ?_ _ | refine .drewN ?_ _ | refine .drew ?_ | refine .trans ?_ (by assumption)))
       · have hb1 : (q == 0) = true := by simp [k0]
         have k1' : 0 ≤ p := by omega
         have HD1 := Lib.hid (show cpStep p q i s = s by unfold cpStep; rw [if_neg (by omega), if_neg (by omega)])
         have HC3 := Lib.hid (HC2.out.trans ((if_neg (by omega)).trans (by rw [HD1.out])))
         have hI2 := Lib.hid (show cpInv l.length (s) by rw [← HD1.out]; exact cpStep_inv HI.out hlt)
         clear HC2 HD1
         go_wp2_with fail
         go_roundg (l.length - (i + 1))
         case measure => omega
         case rel => exact ⟨i + 1, s, by go_num, by omega, Nat.le_refl _, rfl, rfl, rfl, by first | rfl | rw [k3], rfl, hI2.out, HC3.out, by (repeat with_reducible first | exact .refl _ | assumption | refine .setAt ?_ (by first | omega | simp <;> omega) _ | refine .alloc ?_ _ | refine .drewN ?_ _ | refine .drew ?_ | refine .trans ?_ (by assumption))⟩
     have hb1 : (q == 0) = false := by simp [k0]
     by_cases k2 : q < 0
     · by_cases k3 : s.first < 0
       · have HD1 := Lib.hid (show cpStep p q i s = { s with first := i, entry := divI p q } by unfold cpStep; rw [if_pos k2, if_pos (.inl k3)])
         have HC3 := Lib.hid (HC2.out.trans ((if_neg (by omega)).trans (by rw [HD1.out])))
         have hI2 := Lib.hid (show cpInv l.length ({ s with first := i, entry := divI p q }) by rw [← HD1.out]; exact cpStep_inv HI.out hlt)
         clear HC2 HD1
         go_wp2_with (go_at_call 78; refine (div_any _ _ _).mono ?_; rintro e w9 ⟨rfl, hg9⟩)
         go_roundg (l.length - (i + 1))
         case measure => omega
         case rel => exact ⟨i + 1, { s with first := i, entry := divI p q }, by go_num, by omega, Nat.le_refl _, rfl, rfl, rfl, by first | rfl | rw [k3], rfl, hI2.out, HC3.out, by (repeat with_reducible first | exact .refl _ | assumption | refine .setAt ?_ (by first | omega | simp <;> omega) _ | refine .alloc ?_ _ | refine .drewN ?_ _ | refine .drew ?_ | refine .trans ?_ (by assumption))⟩
       by_cases k4 : s.entry < divI p q
       · have HD1 := Lib.hid (show cpStep p q i s = { s with first := i, entry := divI p q } by unfold cpStep; rw [if_pos k2, if_pos (.inr k4)])
         have HC3 := Lib.hid (HC2.out.trans ((if_neg (by omega)).trans (by rw [HD1.out])))
         have hI2 := Lib.hid (show cpInv l.length ({ s with first := i, entry := divI p q }) by rw [← HD1.out]; exact cpStep_inv HI.out hlt)
         clear HC2 HD1
         go_wp2_with (go_at_call 78; refine (div_any _ _ _).mono ?_; rintro e w9 ⟨rfl, hg9⟩)
         go_roundg (l.length - (i + 1))
         case measure => omega
         case rel => exact ⟨i + 1, { s with first := i, entry := divI p q }, by go_num, by omega, Nat.le_refl _, rfl, rfl, rfl, by first | rfl | rw [k3], rfl, hI2.out, HC3.out, by (repeat with_reducible first | exact .refl _ | assumption | refine .setAt ?_ (by first | omega | simp <;> omega) _ | refine .alloc ?_ _ | refine .drewN ?_ _ | refine .drew ?_ | refine .trans ?_ (by assumption))⟩
       · have HD1 := Lib.hid (show cpStep p q i s = s by unfold cpStep; rw [if_pos k2, if_neg (by omega)])
         have HC3 := Lib.hid (HC2.out.trans ((if_neg (by omega)).trans (by rw [HD1.out])))
         have hI2 := Lib.hid (show cpInv l.length (s) by rw [← HD1.out]; exact cpStep_inv HI.out hlt)
         clear HC2 HD1
         go_wp2_with (go_at_call 78; refine (div_any _ _ _).mono ?_; rintro e w9 ⟨rfl, hg9⟩)
         go_roundg (l.length - (i + 1))
         case measure => omega
         case rel => exact ⟨i + 1, s, by go_num, by omega, Nat.le_refl _, rfl, rfl, rfl, by first | rfl | rw [k3], rfl, hI2.out, HC3.out, by (repeat with_reducible first | exact .refl _ | assumption | refine .setAt ?_ (by first | omega | simp <;> omega) _ | refine .alloc ?_ _ | refine .drewN ?_ _ | refine .drew ?_ | refine .trans ?_ (by assumption))⟩
     · have k2' : 0 < q := by omega
       cases k3 : s.left
       · have HD1 := Lib.hid (show cpStep p q i s = { s with left := true, exit := divI p q } by unfold cpStep; rw [if_neg k2, if_pos k2', if_pos (.inl k3)])
         have HC3 := Lib.hid (HC2.out.trans ((if_neg (by omega)).trans (by rw [HD1.out])))
         have hI2 := Lib.hid (show cpInv l.length ({ s with left := true, exit := divI p q }) by rw [← HD1.out]; exact cpStep_inv HI.out hlt)
         clear HC2 HD1
         go_wp2_with (go_at_call 78; refine (div_any _ _ _).mono ?_; rintro e w9 ⟨rfl, hg9⟩)
         go_roundg (l.length - (i + 1))
         case measure => omega
         case rel => exact ⟨i + 1, { s with left := true, exit := divI p q }, by go_num, by omega, Nat.le_refl _, rfl, rfl, rfl, by first | rfl | rw [k3], rfl, hI2.out, HC3.out, by (repeat with_reducible first | exact .refl _ | assumption | refine .setAt ?_ (by first | omega | simp <;> omega) _ | refine .alloc ?_ _ | refine .drewN ?_ _ | refine .drew ?_ | refine .trans ?_ (by assumption))⟩
       by_cases k4 : divI p q < s.exit
       · have HD1 := Lib.hid (show cpStep p q i s = { s with left := true, exit := divI p q } by unfold cpStep; rw [if_neg k2, if_pos k2', if_pos (.inr k4)])
         have HC3 := Lib.hid (HC2.out.trans ((if_neg (by omega)).trans (by rw [HD1.out])))
         have hI2 := Lib.hid (show cpInv l.length ({ s with left := true, exit := divI p q }) by rw [← HD1.out]; exact cpStep_inv HI.out hlt)
         clear HC2 HD1
         go_wp2_with (go_at_call 78; refine (div_any _ _ _).mono ?_; rintro e w9 ⟨rfl, hg9⟩)
         go_roundg (l.length - (i + 1))
         case measure => omega
         case rel => exact ⟨i + 1, { s with left := true, exit := divI p q }, by go_num, by omega, Nat.le_refl _, rfl, rfl, rfl, by first | rfl | rw [k3], rfl, hI2.out, HC3.out, by (repeat with_reducible first | exact .refl _ | assumption | refine .setAt ?_ (by first | omega | simp <;> omega) _ | refine .alloc ?_ _ | refine .drewN ?_ _ | refine .drew ?_ | refine .trans ?_ (by assumption))⟩
       · have HD1 := Lib.hid (show cpStep p q i s = s by unfold cpStep; rw [if_neg k2, if_pos k2', if_neg (fun h => h.elim (fun h => by rw [k3] at h; cases h) k4)])
         have HC3 := Lib.hid (HC2.out.trans ((if_neg (by omega)).trans (by rw [HD1.out])))
         have hI2 := Lib.hid (show cpInv l.length (s) by rw [← HD1.out]; exact cpStep_inv HI.out hlt)
         clear HC2 HD1
         go_wp2_with (go_at_call 78; refine (div_any _ _ _).mono ?_; rintro e w9 ⟨rfl, hg9⟩)
         go_roundg (l.length - (i + 1))
         case measure => omega
         case rel => exact ⟨i + 1, s, by go_num, by omega, Nat.le_refl _, rfl, rfl, rfl, by first | rfl | rw [k3], rfl, hI2.out, HC3.out, by (repeat with_reducible first | exact .refl _ | assumption | refine .setAt ?_ (by first | omega | simp <;> omega) _ | refine .alloc ?_ _ | refine .drewN ?_ _ | refine .drew ?_ | refine .trans ?_ (by assumption))⟩
   · obtain rfl : i = l.length := by omega
     have HF0 := Lib.hid (show cpF l (fx, fy) (tx, ty) = cpFin l s by unfold cpF; rw [HC.out, Nat.sub_self]; rfl)
     obtain ⟨b0, b1, b2⟩ := HB5.out
     have hB := b1.grw hgr
     (have r0 := (hB).cell 0; simp only [gL] at r0); (have r1 := (hB).cell 1; simp only [gL] at r1); have rf := (hB).frozen; have rl := (hB).lt
     have HB := Lib.hid hB
     have hwr := hw5.trans hgr
     clear b0 b1 b2 HB5 hB hgr hw5 hge hi HC
     by_cases e1 : s.first < 0
     · have HF := Lib.hid (HF0.out.trans (if_pos (.inl e1)))
       go_wp2_with fail
       (try rw [Exit.noGoto_ret])
       all_goals first
         | (exfalso; omega)
         | (refine bodyPost_ret (v := Hit.no.v) (by simp [results, Tryz.results33, go_sem, Hit.no, Hit.v, r0, r1, rf, rl]) rfl ⟨by rw [HF.out], ?_⟩; (repeat with_reducible first | exact .refl _ | assumption | refine .setAt ?_ (by first | omega | simp <;> omega) _ | refine .alloc ?_ _ | refine .drewN ?_ _ | refine .drew ?_ | refine .trans ?_ (by assumption)))
     by_cases e2 : s.entry < 0
     · have HF := Lib.hid (HF0.out.trans (if_pos (.inr (.inl e2))))
       go_wp2_with fail
       (try rw [Exit.noGoto_ret])
       all_goals first
         | (exfalso; omega)
         | (refine bodyPost_ret (v := Hit.no.v) (by simp [results, Tryz.results33, go_sem, Hit.no, Hit.v, r0, r1, rf, rl]) rfl ⟨by rw [HF.out], ?_⟩; (repeat with_reducible first | exact .refl _ | assumption | refine .setAt ?_ (by first | omega | simp <;> omega) _ | refine .alloc ?_ _ | refine .drewN ?_ _ | refine .drew ?_ | refine .trans ?_ (by assumption)))
     by_cases e3 : 65536 < s.entry
     · have HF := Lib.hid (HF0.out.trans (if_pos (.inr (.inr (.inl e3)))))
       go_wp2_with fail
       (try rw [Exit.noGoto_ret])
       all_goals first
         | (exfalso; omega)
         | (refine bodyPost_ret (v := Hit.no.v) (by simp [results, Tryz.results33, go_sem, Hit.no, Hit.v, r0, r1, rf, rl]) rfl ⟨by rw [HF.out], ?_⟩; (repeat with_reducible first | exact .refl _ | assumption | refine .setAt ?_ (by first | omega | simp <;> omega) _ | refine .alloc ?_ _ | refine .drewN ?_ _ | refine .drew ?_ | refine .trans ?_ (by assumption)))
     rcases HI.out with ej | ⟨j, hj, ej⟩
     · exfalso; omega
     have hj0 : (0 : Int) ≤ j := by omega
     simp only [ej]
     clear e1
     by_cases e4 : s.left = true
     · by_cases e5 : s.exit < s.entry
       · have HF := Lib.hid (HF0.out.trans (if_pos (.inr (.inr (.inr ⟨e4, e5⟩)))))
         clear ej
         go_wp2_with fail
         (try rw [Exit.noGoto_ret])
         all_goals first
           | (exfalso; omega)
           | (refine bodyPost_ret (v := Hit.no.v) (by simp [results, Tryz.results33, go_sem, Hit.no, Hit.v, r0, r1, rf, rl]) rfl ⟨by rw [HF.out], ?_⟩; (repeat with_reducible first | exact .refl _ | assumption | refine .setAt ?_ (by first | omega | simp <;> omega) _ | refine .alloc ?_ _ | refine .drewN ?_ _ | refine .drew ?_ | refine .trans ?_ (by assumption)))
       · have HF := Lib.hid (HF0.out.trans (if_neg (by omega)))
         rw [ej] at HF
         have HF1 := Lib.hid (show cpF l (fx, fy) (tx, ty) = ⟨s.entry, edgeN l j, true⟩ by rw [HF.out]; rfl)
         clear HF
         go_upto_region 24 with (fail)
         (go_wp2_with (go_at_call 77; refine (edgeNormal_any _ _ _ _ _ (HS.out.grw hwr) h2 hj hl).mono ?_; rintro e' w7 ⟨rfl, hg7⟩; have hB7 := HB.out.grw hg7; (clear r0 r1 rf rl); (have r0 := (hB7).cell 0; simp only [gL] at r0); (have r1 := (hB7).cell 1; simp only [gL] at r1); have rf := (hB7).frozen; have rl := (hB7).lt; clear hB7))
         (try rw [Exit.noGoto_ret])
         refine bodyPost_ret (v := (⟨s.entry, edgeN l j, true⟩ : Hit).v) (by simp [results, Tryz.results33, go_sem, Hit.v, r0, r1, rf, rl]) rfl ⟨by rw [HF1.out], ?_⟩
         (repeat with_reducible first | exact .refl _ | assumption | refine .setAt ?_ (by first | omega | simp <;> omega) _ | refine .alloc ?_ _ | refine .drewN ?_ _ | refine .drew ?_ | refine .trans ?_ (by assumption))
     · have HF := Lib.hid (HF0.out.trans (if_neg (by rintro (h | h | h | h) <;> first | omega | exact e4 h.1)))
       rw [ej] at HF
       have HF1 := Lib.hid (show cpF l (fx, fy) (tx, ty) = ⟨s.entry, edgeN l j, true⟩ by rw [HF.out]; rfl)
       clear HF
       go_upto_region 24 with (fail)
       (go_wp2_with (go_at_call 77; refine (edgeNormal_any _ _ _ _ _ (HS.out.grw hwr) h2 hj hl).mono ?_; rintro e' w7 ⟨rfl, hg7⟩; have hB7 := HB.out.grw hg7; (clear r0 r1 rf rl); (have r0 := (hB7).cell 0; simp only [gL] at r0); (have r1 := (hB7).cell 1; simp only [gL] at r1); have rf := (hB7).frozen; have rl := (hB7).lt; clear hB7))
       (try rw [Exit.noGoto_ret])
       refine bodyPost_ret (v := (⟨s.entry, edgeN l j, true⟩ : Hit).v) (by simp [results, Tryz.results33, go_sem, Hit.v, r0, r1, rf, rl]) rfl ⟨by rw [HF1.out], ?_⟩
       (repeat with_reducible first | exact .refl _ | assumption | refine .setAt ?_ (by first | omega | simp <;> omega) _ | refine .alloc ?_ _ | refine .drewN ?_ _ | refine .drew ?_ | refine .trans ?_ (by assumption))
theorem Bk.drew {w : World} {b t : Nat} {cs : Array Value} (h : Bk w b t cs) : Bk w.drew b t cs := h
theorem Sl.of4 {w : World} {b t : Nat} {p q r s : P2} (h : Bk w b t #[.int .i64 p.1, .int .i64 p.2, .int .i64 q.1, .int .i64 q.2, .int .i64 r.1, .int .i64 r.2, .int .i64 s.1, .int .i64 s.2]) : Sl 2 encV w (some ⟨b, 0, none⟩) [p, q, r, s] := by
 intro i x hx
 refine ⟨b, 0, rfl, h.lt, fun j u hu => ?_⟩
 have hj : j < 2 := by
   have := (List.getElem?_eq_some_iff.1 hu).1
   simpa [encV] using this
 have hi : i < 4 := by
   have := (List.getElem?_eq_some_iff.1 hx).1
   simpa using this
 rw [h.cell]
 match i, hi, hx with
 | 0, _, hx => cases hx; match j, hj, hu with
   | 0, _, hu => cases hu; rfl
   | 1, _, hu => cases hu; rfl
 | 1, _, hx => cases hx; match j, hj, hu with
   | 0, _, hu => cases hu; rfl
   | 1, _, hu => cases hu; rfl
 | 2, _, hx => cases hx; match j, hj, hu with
   | 0, _, hu => cases hu; rfl
   | 1, _, hu => cases hu; rfl
 | 3, _, hx => cases hx; match j, hj, hu with
   | 0, _, hu => cases hu; rfl
   | 1, _, hu => cases hu; rfl
def Hit.better (x y : Hit) : Hit := if y.ok = true ∧ (x.ok = false ∨ y.t < x.t) then y else x
theorem better_ff {x y : Hit} (h : (y.ok && (!x.ok || decide (y.t < x.t))) = false) : x.better y = x := by
 unfold Hit.better
 refine if_neg ?_
 rintro ⟨h1, h2⟩
 rw [h1] at h
 rcases h2 with h2 | h2
 · rw [h2] at h; simp at h
 · rw [decide_eq_true h2] at h; simp at h
theorem better_tt {x y : Hit} (h : (y.ok && (!x.ok || decide (y.t < x.t))) = true) : x.better y = y := by
 unfold Hit.better
 refine if_pos ?_
 simp only [Bool.and_eq_true, Bool.or_eq_true, Bool.not_eq_true', decide_eq_true_eq] at h
 exact h
def perpP (p : P2) : P2 := (-sat p.2, sat p.1)
def mulP (p : P2) (k : Int) : P2 := (mulI p.1 k, mulI p.2 k)
def addP (p q : P2) : P2 := (addI p.1 q.1, addI p.2 q.2)
def capO (a b : P2) (r : Int) : P2 := mulP (perpP (normP (vsubP b a))) r
def capL (a b : P2) (r : Int) : List P2 := [vsubP a (capO a b r), vsubP b (capO a b r), addP b (capO a b r), addP a (capO a b r)]
def capF (a b : P2) (r : Int) (f t : P2) : Hit := ((ccF a r f t).better (ccF b r f t)).better (cpF (capL a b r) f t)
theorem castCapsule_any (ax ay bx by' r fx fy tx ty : Int) (w : World) :
   Calls Tryz.prog 32 #[.agg #[.int .i64 (ax), .int .i64 (ay)], .agg #[.int .i64 (bx), .int .i64 (by')], .int .i64 r, .agg #[.int .i64 (fx), .int .i64 (fy)], .agg #[.int .i64 (tx), .int .i64 (ty)]] w fun e w' => e = .returned (capF (ax, ay) (bx, by') r (fx, fy) (tx, ty)).v ∧ Grw w w' := by
 go_enter Tryz.func32, Tryz.ntmps32
 go_wp2_with fail
 (go_at_call 36; refine (vsub_any _ _ _ _ _).mono ?_; rintro e w1 ⟨rfl, hg1⟩)
 have b0 : Bk w1 w.heap.size 23 #[.int .i64 ax, .int .i64 ay] := Bk.grw (by (repeat with_reducible first | exact Bk.new' (by simp) | refine Bk.alloc ?_ _)) hg1
 have b1 : Bk w1 (w.heap.size + 1) 23 #[.int .i64 bx, .int .i64 by'] := Bk.grw (by (repeat with_reducible first | exact Bk.new' (by simp) | refine Bk.alloc ?_ _)) hg1
 have b2 : Bk w1 (w.heap.size + 1 + 1) 23 #[.int .i64 fx, .int .i64 fy] := Bk.grw (by (repeat with_reducible first | exact Bk.new' (by simp) | refine Bk.alloc ?_ _)) hg1
 have b3 : Bk w1 (w.heap.size + 1 + 1 + 1) 23 #[.int .i64 tx, .int .i64 ty] := Bk.grw (by (repeat with_reducible first | exact Bk.new' (by simp) | refine Bk.alloc ?_ _)) hg1
 have b4 : Bk w1 (w.heap.size + 1 + 1 + 1 + 1) 23 #[.int .i64 0, .int .i64 0] := Bk.grw (by (repeat with_reducible first | exact Bk.new' (by simp) | refine Bk.alloc ?_ _)) hg1
 have hw1 : Grw w w1 := by (repeat with_reducible first | exact .refl _ | assumption | refine .setAt ?_ (by first | omega | simp <;> omega) _ | refine .alloc ?_ _ | refine .drewN ?_ _ | refine .drew ?_ | refine .trans ?_ (by assumption))
 have HB1 := Lib.hid (show _ ∧ _ ∧ _ ∧ _ ∧ _ from ⟨b0, b1, b2, b3, b4⟩)
 clear b0 b1 b2 b3 b4 hg1
 go_upto_region 2 with (first | (go_at_call 68; refine (normalize_any _ _ _).mono ?_; rintro e w2 ⟨rfl, hg2⟩) | (go_at_call 75; refine (perp_any _ _ _).mono ?_; rintro e w3 ⟨rfl, hg3⟩) | (go_at_call 74; refine (vscale_any _ _ _ _).mono ?_; rintro e w4 ⟨rfl, hg4⟩))
 obtain ⟨b0, b1, b2, b3, b4⟩ := HB1.out
 have hg14 := hg2.trans (hg3.trans hg4)
 have hs4 : w.heap.size + 1 + 1 + 1 + 1 < w4.heap.size := Nat.lt_of_lt_of_le b4.lt hg14.size
 refine wp_gen (fun x => Grw w1 x ∧ Bk x (w.heap.size) 23 #[.int .i64 (ax), .int .i64 (ay)] ∧ Bk x (w.heap.size + 1) 23 #[.int .i64 (bx), .int .i64 (by')] ∧ Bk x (w.heap.size + 1 + 1) 23 #[.int .i64 (fx), .int .i64 (fy)] ∧ Bk x (w.heap.size + 1 + 1 + 1) 23 #[.int .i64 (tx), .int .i64 (ty)] ∧ Bk x (w.heap.size + 1 + 1 + 1 + 1) 23 #[.int .i64 (0), .int .i64 (0)] ∧ Bk x (w4.heap.size) 23 #[.int .i64 (mulI (-sat (normY (subI bx ax) (subI by' ay))) r), .int .i64 (mulI (sat (normX (subI bx ax) (subI by' ay))) r)]) ⟨by (repeat with_reducible first | exact .refl _ | assumption | refine .setAt ?_ (by first | omega | simp <;> omega) _ | refine .alloc ?_ _ | refine .drewN ?_ _ | refine .drew ?_ | refine .trans ?_ (by assumption)), by (repeat' first | (with_reducible first | assumption | apply Bk.set' | apply Bk.far | exact Bk.new' (by simp) | refine Bk.alloc ?_ _) | refine Bk.grw ?_ (by with_reducible assumption) | omega | rfl), by (repeat' first | (with_reducible first | assumption | apply Bk.set' | apply Bk.far | exact Bk.new' (by simp) | refine Bk.alloc ?_ _) | refine Bk.grw ?_ (by with_reducible assumption) | omega | rfl), by (repeat' first | (with_reducible first | assumption | apply Bk.set' | apply Bk.far | exact Bk.new' (by simp) | refine Bk.alloc ?_ _) | refine Bk.grw ?_ (by with_reducible assumption) | omega | rfl), by (repeat' first | (with_reducible first | assumption | apply Bk.set' | apply Bk.far | exact Bk.new' (by simp) | refine Bk.alloc ?_ _) | refine Bk.grw ?_ (by with_reducible assumption) | omega | rfl), by (repeat' first | (with_reducible first | assumption | apply Bk.set' | apply Bk.far | exact Bk.new' (by simp) | refine Bk.alloc ?_ _) | refine Bk.grw ?_ (by with_reducible assumption) | omega | rfl), by (repeat' first | (with_reducible first | assumption | apply Bk.set' | apply Bk.far | exact Bk.new' (by simp) | refine Bk.alloc ?_ _) | refine Bk.grw ?_ (by with_reducible assumption) | omega | rfl)⟩ ?_; rintro w5 ⟨hG5, hB5_0, hB5_1, hB5_2, hB5_3, hB5_4, hB5_5⟩; (have g5_00 := (hB5_0).cell 0; simp only [gL] at g5_00); (have g5_01 := (hB5_0).cell 1; simp only [gL] at g5_01); have g5_0f := (hB5_0).frozen; have g5_0l := (hB5_0).lt; (have g5_10 := (hB5_1).cell 0; simp only [gL] at g5_10); (have g5_11 := (hB5_1).cell 1; simp only [gL] at g5_11); have g5_1f := (hB5_1).frozen; have g5_1l := (hB5_1).lt; (have g5_20 := (hB5_2).cell 0; simp only [gL] at g5_20); (have g5_21 := (hB5_2).cell 1; simp only [gL] at g5_21); have g5_2f := (hB5_2).frozen; have g5_2l := (hB5_2).lt; (have g5_30 := (hB5_3).cell 0; simp only [gL] at g5_30); (have g5_31 := (hB5_3).cell 1; simp only [gL] at g5_31); have g5_3f := (hB5_3).frozen; have g5_3l := (hB5_3).lt; (have g5_40 := (hB5_4).cell 0; simp only [gL] at g5_40); (have g5_41 := (hB5_4).cell 1; simp only [gL] at g5_41); have g5_4f := (hB5_4).frozen; have g5_4l := (hB5_4).lt; (have g5_50 := (hB5_5).cell 0; simp only [gL] at g5_50); (have g5_51 := (hB5_5).cell 1; simp only [gL] at g5_51); have g5_5f := (hB5_5).frozen; have g5_5l := (hB5_5).lt; have HB5 := Lib.hid (show _ ∧ _ ∧ _ ∧ _ ∧ _ ∧ _ from ⟨hB5_0, hB5_1, hB5_2, hB5_3, hB5_4, hB5_5⟩); clear hB5_0 hB5_1 hB5_2 hB5_3 hB5_4 hB5_5
 clear b0 b1 b2 b3 b4 HB1 hg2 hg3 hg4 hg14
 obtain ⟨O, hO⟩ : ∃ O : P2, O = capO (ax, ay) (bx, by') r := ⟨_, rfl⟩
 have o1 : mulI (-sat (normY (subI bx ax) (subI by' ay))) r = O.1 := by rw [hO]; rfl
 have o2 : mulI (sat (normX (subI bx ax) (subI by' ay))) r = O.2 := by rw [hO]; rfl
 simp only [o1, o2] at g5_50 g5_51 HB5 ⊢
 have hw5 : Grw w w5 := hw1.trans hG5
 have HO := Lib.hid hO
 clear o1 o2 hO hw1 hG5
 go_wp2_with fail
 (go_at_call 31; refine (castCircle_any _ _ _ _ _ _ _ _).mono ?_; rintro e w6 ⟨rfl, hg6⟩)
 obtain ⟨c1, hc1⟩ : ∃ c, c = ccF (ax, ay) r (fx, fy) (tx, ty) := ⟨_, rfl⟩
 simp only [← hc1, Hit.v]
 have HC1 := Lib.hid hc1
 clear hc1
 obtain ⟨b0, b1, b2, b3, b4, b5⟩ := HB5.out
 have hs6 : w4.heap.size < w6.heap.size := Nat.lt_of_lt_of_le b5.lt hg6.size
 go_upto_region 3 with (fail); refine wp_gen (fun x => Grw w5 x ∧ Bk x (w.heap.size) 23 #[.int .i64 (ax), .int .i64 (ay)] ∧ Bk x (w.heap.size + 1) 23 #[.int .i64 (bx), .int .i64 (by')] ∧ Bk x (w.heap.size + 1 + 1) 23 #[.int .i64 (fx), .int .i64 (fy)] ∧ Bk x (w.heap.size + 1 + 1 + 1) 23 #[.int .i64 (tx), .int .i64 (ty)] ∧ Bk x (w.heap.size + 1 + 1 + 1 + 1) 23 #[.int .i64 (0), .int .i64 (0)] ∧ Bk x (w4.heap.size) 23 #[.int .i64 (O.1), .int .i64 (O.2)] ∧ Bk x (w6.heap.size) 23 #[.int .i64 (c1.n.1), .int .i64 (c1.n.2)]) ⟨by (repeat with_reducible first | exact .refl _ | assumption | refine .setAt ?_ (by first | omega | simp <;> omega) _ | refine .alloc ?_ _ | refine .drewN ?_ _ | refine .drew ?_ | refine .trans ?_ (by assumption)), by (repeat' first | (with_reducible first | assumption | apply Bk.set' | apply Bk.far | exact Bk.new' (by simp) | refine Bk.alloc ?_ _) | refine Bk.grw ?_ (by with_reducible assumption) | omega | rfl), by (repeat' first | (with_reducible first | assumption | apply Bk.set' | apply Bk.far | exact Bk.new' (by simp) | refine Bk.alloc ?_ _) | refine Bk.grw ?_ (by with_reducible assumption) | omega | rfl), by (repeat' first | (with_reducible first | assumption | apply Bk.set' | apply Bk.far | exact Bk.new' (by simp) | refine Bk.alloc ?_ _) | refine Bk.grw ?_ (by with_reducible assumption) | omega | rfl), by (repeat' first | (with_reducible first | assumption | apply Bk.set' | apply Bk.far | exact Bk.new' (by simp) | refine Bk.alloc ?_ _) | refine Bk.grw ?_ (by with_reducible assumption) | omega | rfl), by (repeat' first | (with_reducible first | assumption | apply Bk.set' | apply Bk.far | exact Bk.new' (by simp) | refine Bk.alloc ?_ _) | refine Bk.grw ?_ (by with_reducible assumption) | omega | rfl), by (repeat' first | (with_reducible first | assumption | apply Bk.set' | apply Bk.far | exact Bk.new' (by simp) | refine Bk.alloc ?_ _) | refine Bk.grw ?_ (by with_reducible assumption) | omega | rfl), by (repeat' first | (with_reducible first | assumption | apply Bk.set' | apply Bk.far | exact Bk.new' (by simp) | refine Bk.alloc ?_ _) | refine Bk.grw ?_ (by with_reducible assumption) | omega | rfl)⟩ ?_; rintro w7 ⟨hG7, hB7_0, hB7_1, hB7_2, hB7_3, hB7_4, hB7_5, hB7_6⟩; (have g7_00 := (hB7_0).cell 0; simp only [gL] at g7_00); (have g7_01 := (hB7_0).cell 1; simp only [gL] at g7_01); have g7_0f := (hB7_0).frozen; have g7_0l := (hB7_0).lt; (have g7_10 := (hB7_1).cell 0; simp only [gL] at g7_10); (have g7_11 := (hB7_1).cell 1; simp only [gL] at g7_11); have g7_1f := (hB7_1).frozen; have g7_1l := (hB7_1).lt; (have g7_20 := (hB7_2).cell 0; simp only [gL] at g7_20); (have g7_21 := (hB7_2).cell 1; simp only [gL] at g7_21); have g7_2f := (hB7_2).frozen; have g7_2l := (hB7_2).lt; (have g7_30 := (hB7_3).cell 0; simp only [gL] at g7_30); (have g7_31 := (hB7_3).cell 1; simp only [gL] at g7_31); have g7_3f := (hB7_3).frozen; have g7_3l := (hB7_3).lt; (have g7_40 := (hB7_4).cell 0; simp only [gL] at g7_40); (have g7_41 := (hB7_4).cell 1; simp only [gL] at g7_41); have g7_4f := (hB7_4).frozen; have g7_4l := (hB7_4).lt; (have g7_50 := (hB7_5).cell 0; simp only [gL] at g7_50); (have g7_51 := (hB7_5).cell 1; simp only [gL] at g7_51); have g7_5f := (hB7_5).frozen; have g7_5l := (hB7_5).lt; (have g7_60 := (hB7_6).cell 0; simp only [gL] at g7_60); (have g7_61 := (hB7_6).cell 1; simp only [gL] at g7_61); have g7_6f := (hB7_6).frozen; have g7_6l := (hB7_6).lt; have HB7 := Lib.hid (show _ ∧ _ ∧ _ ∧ _ ∧ _ ∧ _ ∧ _ from ⟨hB7_0, hB7_1, hB7_2, hB7_3, hB7_4, hB7_5, hB7_6⟩); clear hB7_0 hB7_1 hB7_2 hB7_3 hB7_4 hB7_5 hB7_6
 clear b0 b1 b2 b3 b4 b5 HB5 hg6 g5_00 g5_01 g5_0f g5_0l g5_10 g5_11 g5_1f g5_1l g5_20 g5_21 g5_2f g5_2l g5_30 g5_31 g5_3f g5_3l g5_40 g5_41 g5_4f g5_4l g5_50 g5_51 g5_5f g5_5l
 have hw7 : Grw w w7 := hw5.trans hG7
 clear hw5 hG7
 go_wp2_with fail
 (go_at_call 31; refine (castCircle_any _ _ _ _ _ _ _ _).mono ?_; rintro e w8 ⟨rfl, hg8⟩)
 obtain ⟨c2, hc2⟩ : ∃ c, c = ccF (bx, by') r (fx, fy) (tx, ty) := ⟨_, rfl⟩
 simp only [← hc2, Hit.v]
 have HC2 := Lib.hid hc2
 clear hc2
 obtain ⟨b0, b1, b2, b3, b4, b5, b6⟩ := HB7.out
 go_upto_region 4 with (fail); refine wp_gen (fun x => Grw w7 x ∧ Bk x (w.heap.size) 23 #[.int .i64 (ax), .int .i64 (ay)] ∧ Bk x (w.heap.size + 1) 23 #[.int .i64 (bx), .int .i64 (by')] ∧ Bk x (w.heap.size + 1 + 1) 23 #[.int .i64 (fx), .int .i64 (fy)] ∧ Bk x (w.heap.size + 1 + 1 + 1) 23 #[.int .i64 (tx), .int .i64 (ty)] ∧ Bk x (w.heap.size + 1 + 1 + 1 + 1) 23 #[.int .i64 (0), .int .i64 (0)] ∧ Bk x (w4.heap.size) 23 #[.int .i64 (O.1), .int .i64 (O.2)] ∧ Bk x (w6.heap.size) 23 #[.int .i64 (c1.n.1), .int .i64 (c1.n.2)] ∧ Bk x (w8.heap.size) 23 #[.int .i64 (c2.n.1), .int .i64 (c2.n.2)]) ⟨by (repeat with_reducible first | exact .refl _ | assumption | refine .setAt ?_ (by first | omega | simp <;> omega) _ | refine .alloc ?_ _ | refine .drewN ?_ _ | refine .drew ?_ | refine .trans ?_ (by assumption)), by (repeat' first | (with_reducible first | assumption | apply Bk.set' | apply Bk.far | exact Bk.new' (by simp) | refine Bk.alloc ?_ _) | refine Bk.grw ?_ (by with_reducible assumption) | omega | rfl), by (repeat' first | (with_reducible first | assumption | apply Bk.set' | apply Bk.far | exact Bk.new' (by simp) | refine Bk.alloc ?_ _) | refine Bk.grw ?_ (by with_reducible assumption) | omega | rfl), by (repeat' first | (with_reducible first | assumption | apply Bk.set' | apply Bk.far | exact Bk.new' (by simp) | refine Bk.alloc ?_ _) | refine Bk.grw ?_ (by with_reducible assumption) | omega | rfl), by (repeat' first | (with_reducible first | assumption | apply Bk.set' | apply Bk.far | exact Bk.new' (by simp) | refine Bk.alloc ?_ _) | refine Bk.grw ?_ (by with_reducible assumption) | omega | rfl), by (repeat' first | (with_reducible first | assumption | apply Bk.set' | apply Bk.far | exact Bk.new' (by simp) | refine Bk.alloc ?_ _) | refine Bk.grw ?_ (by with_reducible assumption) | omega | rfl), by (repeat' first | (with_reducible first | assumption | apply Bk.set' | apply Bk.far | exact Bk.new' (by simp) | refine Bk.alloc ?_ _) | refine Bk.grw ?_ (by with_reducible assumption) | omega | rfl), by (repeat' first | (with_reducible first | assumption | apply Bk.set' | apply Bk.far | exact Bk.new' (by simp) | refine Bk.alloc ?_ _) | refine Bk.grw ?_ (by with_reducible assumption) | omega | rfl), by (repeat' first | (with_reducible first | assumption | apply Bk.set' | apply Bk.far | exact Bk.new' (by simp) | refine Bk.alloc ?_ _) | refine Bk.grw ?_ (by with_reducible assumption) | omega | rfl)⟩ ?_; rintro w9 ⟨hG9, hB9_0, hB9_1, hB9_2, hB9_3, hB9_4, hB9_5, hB9_6, hB9_7⟩; (have g9_00 := (hB9_0).cell 0; simp only [gL] at g9_00); (have g9_01 := (hB9_0).cell 1; simp only [gL] at g9_01); have g9_0f := (hB9_0).frozen; have g9_0l := (hB9_0).lt; (have g9_10 := (hB9_1).cell 0; simp only [gL] at g9_10); (have g9_11 := (hB9_1).cell 1; simp only [gL] at g9_11); have g9_1f := (hB9_1).frozen; have g9_1l := (hB9_1).lt; (have g9_20 := (hB9_2).cell 0; simp only [gL] at g9_20); (have g9_21 := (hB9_2).cell 1; simp only [gL] at g9_21); have g9_2f := (hB9_2).frozen; have g9_2l := (hB9_2).lt; (have g9_30 := (hB9_3).cell 0; simp only [gL] at g9_30); (have g9_31 := (hB9_3).cell 1; simp only [gL] at g9_31); have g9_3f := (hB9_3).frozen; have g9_3l := (hB9_3).lt; (have g9_40 := (hB9_4).cell 0; simp only [gL] at g9_40); (have g9_41 := (hB9_4).cell 1; simp only [gL] at g9_41); have g9_4f := (hB9_4).frozen; have g9_4l := (hB9_4).lt; (have g9_50 := (hB9_5).cell 0; simp only [gL] at g9_50); (have g9_51 := (hB9_5).cell 1; simp only [gL] at g9_51); have g9_5f := (hB9_5).frozen; have g9_5l := (hB9_5).lt; (have g9_60 := (hB9_6).cell 0; simp only [gL] at g9_60); (have g9_61 := (hB9_6).cell 1; simp only [gL] at g9_61); have g9_6f := (hB9_6).frozen; have g9_6l := (hB9_6).lt; (have g9_70 := (hB9_7).cell 0; simp only [gL] at g9_70); (have g9_71 := (hB9_7).cell 1; simp only [gL] at g9_71); have g9_7f := (hB9_7).frozen; have g9_7l := (hB9_7).lt; have HB9 := Lib.hid (show _ ∧ _ ∧ _ ∧ _ ∧ _ ∧ _ ∧ _ ∧ _ from ⟨hB9_0, hB9_1, hB9_2, hB9_3, hB9_4, hB9_5, hB9_6, hB9_7⟩); clear hB9_0 hB9_1 hB9_2 hB9_3 hB9_4 hB9_5 hB9_6 hB9_7
 clear b0 b1 b2 b3 b4 b5 b6 HB7 hg8 g7_00 g7_01 g7_0f g7_0l g7_10 g7_11 g7_1f g7_1l g7_20 g7_21 g7_2f g7_2l g7_30 g7_31 g7_3f g7_3l g7_40 g7_41 g7_4f g7_4l g7_50 g7_51 g7_5f g7_5l g7_60 g7_61 g7_6f g7_6l
 have hw9 : Grw w w9 := hw7.trans hG9
 clear hw7 hG9
 go_cut [16, 19, 58] (fun a b c x => a = .bool c1.ok ∧ b = .bool c2.ok ∧ c = .bool (c2.ok && (!c1.ok || decide (c2.t < c1.t))) ∧ x = w9)
 case first =>
   cases k2 : c2.ok
   · go_wp2_with fail
     go_meet
     case rel => simp [k2]
   · cases k1 : c1.ok
     · go_wp2_with fail
       go_meet
       case rel => simp [k1, k2]
     · go_wp2_with fail
       go_meet
       case rel => simp [k1, k2]
 case rest =>
 obtain ⟨rfl, rfl, rfl, rfl⟩ := hcut
 go_upto_if 58 with (fail)
 obtain ⟨B, hB⟩ : ∃ B : Hit, B = c1.better c2 := ⟨_, rfl⟩
 have HB := Lib.hid hB
 clear hB
 obtain ⟨b0, b1, b2, b3, b4, b5, b6, b7⟩ := HB9.out
 have HB9' := Lib.hid (show _ ∧ _ ∧ _ ∧ _ ∧ _ ∧ _ ∧ _ ∧ _ from ⟨b0, b1, b2, b3, b4, b5, b6, b7⟩)
 clear b0 b1 b2 b3 b4 b5 b6 b7 HB9
 go_cut [14, 16, 19] (fun a b d x => a = .int .i64 B.t ∧ b = .bool B.ok ∧ d = .bool c2.ok ∧ Grw w x ∧ Bk x (w.heap.size) 23 #[.int .i64 (ax), .int .i64 (ay)] ∧ Bk x (w.heap.size + 1) 23 #[.int .i64 (bx), .int .i64 (by')] ∧ Bk x (w.heap.size + 1 + 1) 23 #[.int .i64 (fx), .int .i64 (fy)] ∧ Bk x (w.heap.size + 1 + 1 + 1) 23 #[.int .i64 (tx), .int .i64 (ty)] ∧ Bk x (w.heap.size + 1 + 1 + 1 + 1) 23 #[.int .i64 (0), .int .i64 (0)] ∧ Bk x (w4.heap.size) 23 #[.int .i64 (O.1), .int .i64 (O.2)] ∧ Bk x (w6.heap.size) 23 #[.int .i64 (B.n.1), .int .i64 (B.n.2)])
 case first =>
   cases hk : (c2.ok && (!c1.ok || decide (c2.t < c1.t)))
   · have hb := HB.out.trans (better_ff hk)
     have HR := Lib.hid (show _ ∧ _ from ⟨hw9, HB9'.out⟩)
     clear hw9 HB9' HB
     go_wp2_with fail
     go_meet
     case rel =>
       obtain ⟨hw9, b0, b1, b2, b3, b4, b5, b6, b7⟩ := HR.out
       subst hb
       exact ⟨rfl, rfl, rfl, hw9, b0, b1, b2, b3, b4, b5, b6⟩
   · have hb := HB.out.trans (better_tt hk)
     clear HB
     subst hb
     go_upto_region 5 with (fail)
     have hlt := HB9'.out.2.2.2.2.1.lt
     go_region
     go_wp2_with fail
     go_meet
     case rel =>
       obtain ⟨b0, b1, b2, b3, b4, b5, b6, b7⟩ := HB9'.out
       refine ⟨rfl, rfl, rfl, ?_, ?_, ?_, ?_, ?_, ?_, ?_, ?_⟩
       · (repeat with_reducible first | exact .refl _ | assumption | refine .setAt ?_ (by first | omega | simp <;> omega) _ | refine .alloc ?_ _ | refine .drewN ?_ _ | refine .drew ?_ | refine .trans ?_ (by assumption))
       all_goals (try refine Bk.drew ?_)
       all_goals (repeat' first | (with_reducible first | assumption | apply Bk.set' | apply Bk.far | exact Bk.new' (by simp) | refine Bk.alloc ?_ _) | refine Bk.grw ?_ (by with_reducible assumption) | omega | rfl)
 case rest =>
 obtain ⟨rfl, rfl, rfl, hgc, b0, b1, b2, b3, b4, b5, b6⟩ := hcut
 clear HB9' hw9 g9_00 g9_01 g9_0f g9_0l g9_10 g9_11 g9_1f g9_1l g9_20 g9_21 g9_2f g9_2l g9_30 g9_31 g9_3f g9_3l g9_40 g9_41 g9_4f g9_4l g9_50 g9_51 g9_5f g9_5l g9_60 g9_61 g9_6f g9_6l g9_70 g9_71 g9_7f g9_7l
 (have p0 := (b0).cell 0; simp only [gL] at p0); (have p1 := (b0).cell 1; simp only [gL] at p1); have pf := (b0).frozen; have pl := (b0).lt
 (have q0 := (b1).cell 0; simp only [gL] at q0); (have q1 := (b1).cell 1; simp only [gL] at q1); have qf := (b1).frozen; have ql := (b1).lt
 (have o0 := (b5).cell 0; simp only [gL] at o0); (have o1 := (b5).cell 1; simp only [gL] at o1); have of := (b5).frozen; have ol := (b5).lt
 have HB10 := Lib.hid (show _ ∧ _ ∧ _ ∧ _ ∧ _ ∧ _ ∧ _ from ⟨b0, b1, b2, b3, b4, b5, b6⟩)
 clear b0 b1 b2 b3 b4 b5 b6
 go_wp2_with fail
 (refine wp_region_flowB 12 (by kernel_rfl) (by kernel_rfl) ?_; simp only [tD]; (repeat (refine wpQ_step (fun K hK => ?_); go_simp; first | (refine hK _ ?_; clear hK K) | (apply Exists.intro; refine ⟨fun _ => ?_, hK _ ?_⟩; (first | (go_at_call 36; exact (vsub_any _ _ _ _ _)) | (go_at_call 76; exact (vadd_any _ _ _ _ _))); clear hK K))); refine wpQ_nil ?_)
 intro w10 hg10
 refine okList_step (fun wa hwa K hK => ?_)
 go_simp
 refine hK _ _ (by (repeat with_reducible first | exact .refl _ | assumption | refine .setAt ?_ (by first | omega | simp <;> omega) _ | refine .alloc ?_ _ | refine .drewN ?_ _ | refine .drew ?_ | refine .trans ?_ (by assumption))) ?_
 clear hK K
 have hN : Bk (wa.alloc _) wa.heap.size 23 #[.int .i64 (subI ax O.1), .int .i64 (subI ay O.2), .int .i64 (subI bx O.1), .int .i64 (subI by' O.2), .int .i64 (addI bx O.1), .int .i64 (addI by' O.2), .int .i64 (addI ax O.1), .int .i64 (addI ay O.2)] := Bk.new wa _ _
 refine okList_step (fun wb hwb K hK => ?_)
 replace hN := hN.grw hwb
 go_simp
 refine hK _ _ (by (repeat with_reducible first | exact .refl _ | assumption | refine .setAt ?_ (by first | omega | simp <;> omega) _ | refine .alloc ?_ _ | refine .drewN ?_ _ | refine .drew ?_ | refine .trans ?_ (by assumption))) ?_
 clear hK K
 refine okList_nil (fun w11 hw11 => ?_)
 go_simp
 have hS := Sl.of4 (p := vsubP (ax, ay) O) (q := vsubP (bx, by') O) (r := addP (bx, by') O) (s := addP (ax, ay) O) (hN.grw hw11)
 have hG11 : Grw wc w11 := by (repeat with_reducible first | exact .refl _ | assumption | refine .setAt ?_ (by first | omega | simp <;> omega) _ | refine .alloc ?_ _ | refine .drewN ?_ _ | refine .drew ?_ | refine .trans ?_ (by assumption))
 have HL := Lib.hid (show capL (ax, ay) (bx, by') r = [vsubP (ax, ay) O, vsubP (bx, by') O, addP (bx, by') O, addP (ax, ay) O] by rw [HO.out]; rfl)
 have HS := Lib.hid hS
 obtain ⟨b0, b1, b2, b3, b4, b5, b6⟩ := HB10.out
 go_upto_region 7 with (fail); refine wp_gen (fun x => Grw w11 x ∧ Bk x (w.heap.size + 1 + 1) 23 #[.int .i64 (fx), .int .i64 (fy)] ∧ Bk x (w.heap.size + 1 + 1 + 1) 23 #[.int .i64 (tx), .int .i64 (ty)] ∧ Bk x (w.heap.size + 1 + 1 + 1 + 1) 23 #[.int .i64 (0), .int .i64 (0)] ∧ Bk x (w6.heap.size) 23 #[.int .i64 (B.n.1), .int .i64 (B.n.2)]) ⟨by (repeat with_reducible first | exact .refl _ | assumption | refine .setAt ?_ (by first | omega | simp <;> omega) _ | refine .alloc ?_ _ | refine .drewN ?_ _ | refine .drew ?_ | refine .trans ?_ (by assumption)), by (repeat' first | (with_reducible first | assumption | apply Bk.set' | apply Bk.far | exact Bk.new' (by simp) | refine Bk.alloc ?_ _) | refine Bk.grw ?_ (by with_reducible assumption) | omega | rfl), by (repeat' first | (with_reducible first | assumption | apply Bk.set' | apply Bk.far | exact Bk.new' (by simp) | refine Bk.alloc ?_ _) | refine Bk.grw ?_ (by with_reducible assumption) | omega | rfl), by (repeat' first | (with_reducible first | assumption | apply Bk.set' | apply Bk.far | exact Bk.new' (by simp) | refine Bk.alloc ?_ _) | refine Bk.grw ?_ (by with_reducible assumption) | omega | rfl), by (repeat' first | (with_reducible first | assumption | apply Bk.set' | apply Bk.far | exact Bk.new' (by simp) | refine Bk.alloc ?_ _) | refine Bk.grw ?_ (by with_reducible assumption) | omega | rfl)⟩ ?_; rintro w12 ⟨hG12, hB12_0, hB12_1, hB12_2, hB12_3⟩; (have g12_00 := (hB12_0).cell 0; simp only [gL] at g12_00); (have g12_01 := (hB12_0).cell 1; simp only [gL] at g12_01); have g12_0f := (hB12_0).frozen; have g12_0l := (hB12_0).lt; (have g12_10 := (hB12_1).cell 0; simp only [gL] at g12_10); (have g12_11 := (hB12_1).cell 1; simp only [gL] at g12_11); have g12_1f := (hB12_1).frozen; have g12_1l := (hB12_1).lt; (have g12_20 := (hB12_2).cell 0; simp only [gL] at g12_20); (have g12_21 := (hB12_2).cell 1; simp only [gL] at g12_21); have g12_2f := (hB12_2).frozen; have g12_2l := (hB12_2).lt; (have g12_30 := (hB12_3).cell 0; simp only [gL] at g12_30); (have g12_31 := (hB12_3).cell 1; simp only [gL] at g12_31); have g12_3f := (hB12_3).frozen; have g12_3l := (hB12_3).lt; have HB12 := Lib.hid (show _ ∧ _ ∧ _ ∧ _ from ⟨hB12_0, hB12_1, hB12_2, hB12_3⟩); clear hB12_0 hB12_1 hB12_2 hB12_3
 clear b0 b1 b2 b3 b4 b5 b6 HB10 p0 p1 pf pl q0 q1 qf ql o0 o1 of ol hN hS
 have hw12 : Grw w w12 := hgc.trans (hG11.trans hG12)
 have hs12 := hG12.size
 have HG12 := Lib.hid hG12
 clear hgc hG11 hG12
 go_wp2_with fail
 (go_at_call 33; refine (castPolygon_any _ _ _ _ _ _ _ _ (HS.out.grw HG12.out) (by simp) (by simp)).mono ?_; rintro e w13 ⟨rfl, hg13⟩)
 rw [← HL.out]
 obtain ⟨c3, hc3⟩ : ∃ c, c = cpF (capL (ax, ay) (bx, by') r) (fx, fy) (tx, ty) := ⟨_, rfl⟩
 simp only [← hc3, Hit.v]
 have HC3 := Lib.hid hc3
 clear hc3 HS HL HG12
 obtain ⟨b0, b1, b2, b3⟩ := HB12.out
 go_upto_region 8 with (fail); refine wp_gen (fun x => Grw w12 x ∧ Bk x (w.heap.size + 1 + 1) 23 #[.int .i64 (fx), .int .i64 (fy)] ∧ Bk x (w.heap.size + 1 + 1 + 1) 23 #[.int .i64 (tx), .int .i64 (ty)] ∧ Bk x (w.heap.size + 1 + 1 + 1 + 1) 23 #[.int .i64 (0), .int .i64 (0)] ∧ Bk x (w6.heap.size) 23 #[.int .i64 (B.n.1), .int .i64 (B.n.2)] ∧ Bk x (w13.heap.size) 23 #[.int .i64 (c3.n.1), .int .i64 (c3.n.2)]) ⟨by (repeat with_reducible first | exact .refl _ | assumption | refine .setAt ?_ (by first | omega | simp <;> omega) _ | refine .alloc ?_ _ | refine .drewN ?_ _ | refine .drew ?_ | refine .trans ?_ (by assumption)), by (repeat' first | (with_reducible first | assumption | apply Bk.set' | apply Bk.far | exact Bk.new' (by simp) | refine Bk.alloc ?_ _) | refine Bk.grw ?_ (by with_reducible assumption) | omega | rfl), by (repeat' first | (with_reducible first | assumption | apply Bk.set' | apply Bk.far | exact Bk.new' (by simp) | refine Bk.alloc ?_ _) | refine Bk.grw ?_ (by with_reducible assumption) | omega | rfl), by (repeat' first | (with_reducible first | assumption | apply Bk.set' | apply Bk.far | exact Bk.new' (by simp) | refine Bk.alloc ?_ _) | refine Bk.grw ?_ (by with_reducible assumption) | omega | rfl), by (repeat' first | (with_reducible first | assumption | apply Bk.set' | apply Bk.far | exact Bk.new' (by simp) | refine Bk.alloc ?_ _) | refine Bk.grw ?_ (by with_reducible assumption) | omega | rfl), by (repeat' first | (with_reducible first | assumption | apply Bk.set' | apply Bk.far | exact Bk.new' (by simp) | refine Bk.alloc ?_ _) | refine Bk.grw ?_ (by with_reducible assumption) | omega | rfl)⟩ ?_; rintro w14 ⟨hG14, hB14_0, hB14_1, hB14_2, hB14_3, hB14_4⟩; (have g14_00 := (hB14_0).cell 0; simp only [gL] at g14_00); (have g14_01 := (hB14_0).cell 1; simp only [gL] at g14_01); have g14_0f := (hB14_0).frozen; have g14_0l := (hB14_0).lt; (have g14_10 := (hB14_1).cell 0; simp only [gL] at g14_10); (have g14_11 := (hB14_1).cell 1; simp only [gL] at g14_11); have g14_1f := (hB14_1).frozen; have g14_1l := (hB14_1).lt; (have g14_20 := (hB14_2).cell 0; simp only [gL] at g14_20); (have g14_21 := (hB14_2).cell 1; simp only [gL] at g14_21); have g14_2f := (hB14_2).frozen; have g14_2l := (hB14_2).lt; (have g14_30 := (hB14_3).cell 0; simp only [gL] at g14_30); (have g14_31 := (hB14_3).cell 1; simp only [gL] at g14_31); have g14_3f := (hB14_3).frozen; have g14_3l := (hB14_3).lt; (have g14_40 := (hB14_4).cell 0; simp only [gL] at g14_40); (have g14_41 := (hB14_4).cell 1; simp only [gL] at g14_41); have g14_4f := (hB14_4).frozen; have g14_4l := (hB14_4).lt; have HB14 := Lib.hid (show _ ∧ _ ∧ _ ∧ _ ∧ _ from ⟨hB14_0, hB14_1, hB14_2, hB14_3, hB14_4⟩); clear hB14_0 hB14_1 hB14_2 hB14_3 hB14_4
 clear b0 b1 b2 b3 HB12 hg13 g12_00 g12_01 g12_0f g12_0l g12_10 g12_11 g12_1f g12_1l g12_20 g12_21 g12_2f g12_2l g12_30 g12_31 g12_3f g12_3l
 have hw14 : Grw w w14 := hw12.trans hG14
 have hs14 := hG14.size
 clear hw12 hG14
 have hs8 : w13.heap.size < w14.heap.size := g14_4l
 go_cut [16, 23, 92] (fun a b c x => a = .bool B.ok ∧ b = .bool c3.ok ∧ c = .bool (c3.ok && (!B.ok || decide (c3.t < B.t))) ∧ x = w14)
 case first =>
   cases k2 : c3.ok
   · go_wp2_with fail
     go_meet
     case rel => simp [k2]
   · cases k1 : B.ok
     · go_wp2_with fail
       go_meet
       case rel => simp [k1, k2]
     · go_wp2_with fail
       go_meet
       case rel => simp [k1, k2]
 case rest =>
 obtain ⟨rfl, rfl, rfl, rfl⟩ := hcut
 go_upto_if 92 with (fail)
 obtain ⟨D, hD⟩ : ∃ D : Hit, D = B.better c3 := ⟨_, rfl⟩
 have HD := Lib.hid hD
 clear hD
 obtain ⟨b0, b1, b2, b3, b4⟩ := HB14.out
 have HB14' := Lib.hid (show _ ∧ _ ∧ _ ∧ _ ∧ _ from ⟨b0, b1, b2, b3, b4⟩)
 clear b0 b1 b2 b3 b4 HB14
 go_cut [14, 16, 23] (fun a b d x => a = .int .i64 D.t ∧ b = .bool D.ok ∧ d = .bool c3.ok ∧ Grw w x ∧ Bk x (w.heap.size + 1 + 1 + 1 + 1) 23 #[.int .i64 (0), .int .i64 (0)] ∧ Bk x (w6.heap.size) 23 #[.int .i64 (D.n.1), .int .i64 (D.n.2)])
 case first =>
   cases hk : (c3.ok && (!B.ok || decide (c3.t < B.t)))
   · have hb := HD.out.trans (better_ff hk)
     have HR := Lib.hid (show _ ∧ _ from ⟨hw14, HB14'.out⟩)
     clear hw14 HB14' HD
     go_wp2_with fail
     go_meet
     case rel =>
       obtain ⟨hw9, b0, b1, b2, b3, b4⟩ := HR.out
       subst hb
       exact ⟨rfl, rfl, rfl, hw9, b2, b3⟩
   · have hb := HD.out.trans (better_tt hk)
     clear HD
     subst hb
     go_upto_region 9 with (fail)
     have hlt := HB14'.out.2.2.2.1.lt
     go_region
     go_wp2_with fail
     go_meet
     case rel =>
       obtain ⟨b0, b1, b2, b3, b4⟩ := HB14'.out
       refine ⟨rfl, rfl, rfl, ?_, ?_, ?_⟩
       · (repeat with_reducible first | exact .refl _ | assumption | refine .setAt ?_ (by first | omega | simp <;> omega) _ | refine .alloc ?_ _ | refine .drewN ?_ _ | refine .drew ?_ | refine .trans ?_ (by assumption))
       all_goals (try refine Bk.drew ?_)
       all_goals (repeat' first | (with_reducible first | assumption | apply Bk.set' | apply Bk.far | exact Bk.new' (by simp) | refine Bk.alloc ?_ _) | refine Bk.grw ?_ (by with_reducible assumption) | omega | rfl)
 case rest =>
 obtain ⟨rfl, rfl, rfl, hgc, b2, b3⟩ := hcut
 clear HB14' hw14 g14_00 g14_01 g14_0f g14_0l g14_10 g14_11 g14_1f g14_1l g14_20 g14_21 g14_2f g14_2l g14_30 g14_31 g14_3f g14_3l g14_40 g14_41 g14_4f g14_4l
 (have p0 := (b2).cell 0; simp only [gL] at p0); (have p1 := (b2).cell 1; simp only [gL] at p1); have pf := (b2).frozen; have pl := (b2).lt
 (have q0 := (b3).cell 0; simp only [gL] at q0); (have q1 := (b3).cell 1; simp only [gL] at q1); have qf := (b3).frozen; have ql := (b3).lt
 clear b2 b3
 go_upto_region 10 with (fail)
 go_region
 go_wp2_with fail
 refine bodyPost_ret (v := D.v) (by simp [results, Tryz.results32, go_sem, Hit.v, p0, p1]) rfl ⟨?_, ?_⟩
 · unfold capF
   rw [← HC1.out, ← HC2.out, ← HC3.out, ← HB.out, ← HD.out]
 (repeat with_reducible first | exact .refl _ | assumption | refine .setAt ?_ (by first | omega | simp <;> omega) _ | refine .alloc ?_ _ | refine .drewN ?_ _ | refine .drew ?_ | refine .trans ?_ (by assumption))
end
section
open Go.RowKit Go.Sort
attribute [local go_sem] qAt qUpon cell_in_grow frozen_in_grow
def HaveAll (w : World) (b o n : Nat) : Prop := ∀ j, j < n → (w.cell? ⟨b, o + j, none⟩).isSome = true
def There (w : World) (b o n : Nat) : Prop := ∀ j, j < n → (w.cell? ⟨b, o + j, none⟩).isSome = true ∧ w.frozen? ⟨b, o + j, none⟩ = false
def cellsAt (w : World) (b o n : Nat) : Array Value := ((List.range n).map fun j => (w.cell? ⟨b, o + j, none⟩).getD undef).toArray
def bigLoad (t : TypeId) (x : Value) : Sem Value := Instr.loadAt t x
def bigStore (t : TypeId) (x v : Value) : Sem Unit := Instr.storeAt t x v
theorem run_bigLoad {P : Program} {w : World} {t : TypeId} {b o n : Nat} {d : TypeDesc} (hu : P.underlying t = some d) (hd : d.isRow = true) (hi : (P.info? t).map (·.size) = some n) (h : HaveAll w b o n) :
   (bigLoad t (.pointer (some ⟨b, o, none⟩))).run P w = .ok (.agg (cellsAt w b o n)) w := by
 have hr : w.rangeAt b o ((List.range n).map fun j => (w.cell? ⟨b, o + j, none⟩).getD undef) := fun j v hv => by
   rw [List.getElem?_map] at hv
   by_cases hj : j < n
   · rw [List.getElem?_range hj, Option.map_some, Option.some.injEq] at hv
     have := h j hj
     cases hc : w.cell? ⟨b, o + j, none⟩ with
     | none => simp [hc] at this
     | some x => rw [hc] at hv; rw [← hv]; rfl
   · rw [List.getElem?_eq_none (by simpa using hj)] at hv; simp at hv
 exact run_loadAt_mid w b o t _ d hr hu hd (by simpa using hi)
theorem run_bigStore {P : Program} {w : World} {t : TypeId} {b o n : Nat} {cs : Array Value} (hi : (P.info? t).map (·.size) = some n) (hs : cs.size = n) (h1 : cs.all (·.oneCell') = true) (h : There w b o n) :
   (bigStore t (.pointer (some ⟨b, o, none⟩)) (.agg cs)).run P w = .ok () (w.setCells b o cs.toList) :=
 run_storeAt_mid w b o t cs (fun j hj => h j (by omega)) (by rw [hs]; exact hi) h1
section
variable {w : World} {b t : Nat} {cs : Array Value}
theorem Bk.have (h : Bk w b t cs) (o n : Nat) (hn : o + n ≤ cs.size) : HaveAll w b o n := fun j hj => by
 rw [h.cell, Array.getElem?_eq_getElem (by omega)]; rfl
theorem Bk.there (h : Bk w b t cs) (o n : Nat) (hn : o + n ≤ cs.size) : There w b o n := fun j hj => ⟨h.have o n hn j hj, h.frozen _⟩
theorem Bk.cells (h : Bk w b t cs) (o n : Nat) (cs' : Array Value) (hn : n = cs'.size) (e : ∀ j, j < n → cs[o + j]? = cs'[j]?) : cellsAt w b o n = cs' := by
 subst hn
 unfold cellsAt
 apply Array.ext
 · simp
 · intro i h1 h2
   simp only [List.getElem_toArray, List.getElem_map, List.getElem_range]
   rw [h.cell, e i h2, Array.getElem?_eq_getElem h2]; rfl
theorem Bk.cells' (h : Bk w b t cs) (o n : Nat) (cs' : Array Value) (hn : cs'.size = n) (e : (cs.toList.drop o).take n = cs'.toList) : cellsAt w b o n = cs' :=
 h.cells o n cs' hn.symm fun j hj => by
   have h1 : (cs.toList.drop o)[j]? = cs'.toList[j]? := by rw [← e, List.getElem?_take, if_pos hj]
   simpa [List.getElem?_drop] using h1
theorem there_new (w : World) (cs : Array Value) (t n : Nat) (h : n ≤ cs.size) : There (w.alloc (.cells cs t)) w.heap.size 0 n := (Bk.new w t cs).there 0 n (by omega)
theorem there_alloc {n o : Nat} (h : There w b o n) (x : Obj) : There (w.alloc x) b o n := fun j hj => by
 obtain ⟨h1, h2⟩ := h j hj
 have hb : b < w.heap.size := by
   cases hc : w.cell? ⟨b, o + j, none⟩ with
   | none => simp [hc] at h1
   | some v => exact World.block_lt_of_cell? _ _ hc
 have hg := ((Grw.refl w).alloc x).cells
 rw [hg.1 b _ hb, hg.2 b _ hb]
 exact ⟨h1, h2⟩
theorem Grw.setCells {a b : World} (h : Grw a b) {k o : Nat} (hp : a.heap.size ≤ k) (l : List Value) : Grw a (b.setCells k o l) := by
 induction l generalizing b o with
 | nil => exact h
 | cons v l ih => exact ih (h.setAt hp v)
theorem Bk.setCells : ∀ (l : List Value) (o : Nat) {w : World} {cs : Array Value}, Bk w b t cs → ∃ cs', Bk (w.setCells b o l) b t cs' ∧ cs'.size = cs.size ∧ ∀ i, cs'[i]? = if o ≤ i ∧ i < o + l.length ∧ i < cs.size then l[i - o]? else cs[i]?
 | [], o, w, cs, h => ⟨cs, h, rfl, fun i => by rw [if_neg]; simp; omega⟩
 | v :: l, o, w, cs, h => by
   obtain ⟨cs', h1, h2, h3⟩ := Bk.setCells l (o + 1) (h.set o v)
   refine ⟨cs', h1, by simpa using h2, fun i => ?_⟩
   rw [h3 i]
   simp only [Array.size_setIfInBounds, List.length_cons]
   by_cases e1 : o + 1 ≤ i ∧ i < o + 1 + l.length ∧ i < cs.size
   · rw [if_pos e1, if_pos (by omega), show i - o = i - (o + 1) + 1 by omega, List.getElem?_cons_succ]
   · rw [if_neg e1, Array.getElem?_setIfInBounds]
     by_cases e2 : o = i
     · subst e2
       by_cases e3 : o < cs.size
       · rw [if_pos rfl, if_pos e3, if_pos (by omega)]; simp
       · rw [if_pos rfl, if_neg e3, if_neg (by omega), Array.getElem?_eq_none (by omega)]
     · rw [if_neg e2, if_neg (by omega)]
theorem Bk.setAll (h : Bk w b t cs) (l : List Value) (hs : l.length = cs.size) : Bk (w.setCells b 0 l) b t l.toArray := by
 obtain ⟨cs', h1, h2, h3⟩ := Bk.setCells l 0 h
 have e : cs' = l.toArray := by
   apply Array.ext_getElem?
   intro i
   rw [h3 i]
   by_cases hi : i < cs.size
   · rw [if_pos (by omega)]; simp
   · rw [if_neg (by omega), Array.getElem?_eq_none (by omega), List.getElem?_toArray, List.getElem?_eq_none (by omega)]
 exact e ▸ h1
theorem Bk.setAll' {l : List Value} {cs' : Array Value} (h : Bk w b t cs) (hs : l.length = cs.size) (e : l.toArray = cs') : Bk (w.setCells b 0 l) b t cs' := e ▸ h.setAll l hs
theorem Bk.farCells (h : Bk w b t cs) {p o : Nat} (hp : b ≠ p) (l : List Value) : Bk (w.setCells p o l) b t cs := by
 induction l generalizing w o with
 | nil => exact h
 | cons v l ih => exact ih (h.far hp v)
end
theorem Sl.big {α : Type} {n : Nat} {enc : α → List Value} {w : World} {a : Option Addr} {l : List α} {k : Nat} {x : α} (h : Sl n enc w a l) (hk : ∀ x, (enc x).length = n) (hx : l[k]? = some x) :
   ∃ b off, a = some ⟨b, off, none⟩ ∧ b < w.heap.size ∧ HaveAll w b (off + k * n) n ∧ cellsAt w b (off + k * n) n = (enc x).toArray := by
 obtain ⟨b, off, h1, h2, h3⟩ := h k x hx
 have hh : ∀ j (hj : j < n), w.cell? ⟨b, off + k * n + j, none⟩ = some ((enc x)[j]'(by rw [hk]; exact hj)) := fun j hj => h3 j _ (List.getElem?_eq_getElem _)
 refine ⟨b, off, h1, h2, fun j hj => by rw [hh j hj]; rfl, ?_⟩
 unfold cellsAt
 congr 1
 apply List.ext_getElem
 · simp [hk]
 · intro i h4 h5
   simp only [List.getElem_map, List.getElem_range]
   rw [hh i (by simpa using h4)]; rfl
theorem oc_int (k : IntKind) (n : Int) : (Value.int k n).oneCell' = true := rfl
theorem oc_bool (b : Bool) : (Value.bool b).oneCell' = true := rfl
theorem oc_slice (a : Option Addr) (l c : Nat) : (Value.slice a l c).oneCell' = true := rfl
theorem oc_all (l : List Value) (h : l.all (·.oneCell') = true) : l.toArray.all (·.oneCell') = true := by simpa using h
theorem oc_cons (v : Value) (l : List Value) (h : v.oneCell' = true) (h2 : l.all (·.oneCell') = true) : (v :: l).all (·.oneCell') = true := by simp [h, h2]
theorem oc_nil : ([] : List Value).all (·.oneCell') = true := rfl
theorem have_in_grow (w : World) (n : Nat) (os : Array Obj) (b o m : Nat) (h : HaveAll w b o m) : HaveAll (grow (wd w n) os) b o m := fun j hj => by
 have h1 := h j hj
 cases hc : w.cell? ⟨b, o + j, none⟩ with
 | none => simp [hc] at h1
 | some v => rw [cell_in_grow w n os b (o + j) (World.block_lt_of_cell? _ _ hc), hc]; rfl
theorem cells_in_grow (w : World) (n : Nat) (os : Array Obj) (b o m : Nat) (h : HaveAll w b o m) : cellsAt (grow (wd w n) os) b o m = cellsAt w b o m := by
 unfold cellsAt
 congr 1
 apply List.map_congr_left
 intro j hj
 have h1 := h j (List.mem_range.1 hj)
 cases hc : w.cell? ⟨b, o + j, none⟩ with
 | none => simp [hc] at h1
 | some v => rw [cell_in_grow w n os b (o + j) (World.block_lt_of_cell? _ _ hc), hc]
def nth {α : Type} (l : List α) (i : Nat) (d : α) : α := l.getD i d
theorem getD_of {α : Type} {l : List α} {i : Nat} (d : α) (h : i < l.length) : l[i]? = some (nth l i d) := by simp [nth, List.getD, List.getElem?_eq_getElem h]
theorem ne_of_beq_false' {a b : Int} (h : (a == b) = false) : a ≠ b := by simpa using h
def encInt (n : Int) : List Value := [.int .i64 n]
theorem Sl.int {w : World} {a : Option Addr} {l : List Int} {i : Nat} {x : Int} (h : Sl 1 encInt w a l) (hx : l[i]? = some x) : ∃ b off, a = some ⟨b, off, none⟩ ∧ b < w.heap.size ∧ w.cell? ⟨b, off + i, none⟩ = some (.int .i64 x) := by
 obtain ⟨b, off, h1, h2, h3⟩ := h i x hx
 have := h3 0 _ rfl
 exact ⟨b, off, h1, h2, by simpa using this⟩
theorem Sl.ofInt {w : World} {b t : Nat} {l : List Int} (h : Bk w b t (l.map fun n => .int .i64 n).toArray) : Sl 1 encInt w (some ⟨b, 0, none⟩) l := fun i x hx => by
 refine ⟨b, 0, rfl, h.lt, fun j u hu => ?_⟩
 match j, hu with
 | 0, hu => rw [Nat.zero_add, Nat.add_zero, Nat.mul_one, h.cell, List.getElem?_toArray, List.getElem?_map, hx]; exact hu
def loopM {T S R : Type} (f : T → S → Sum R S) : List T → S → Sum R S
 | [], s => .inr s
 | x :: l, s => match f x s with
   | .inl r => .inl r
   | .inr s' => loopM f l s'
def loopI {T S R : Type} (f : T → Nat → S → Sum R S) : List T → Nat → S → Sum R S
 | [], _, s => .inr s
 | x :: l, k, s => match f x k s with
   | .inl r => .inl r
   | .inr s' => loopI f l (k + 1) s'
theorem loopM_at {T S R : Type} {f : T → S → Sum R S} {l : List T} {k : Nat} {x : T} {s : S} (h : l[k]? = some x) : loopM f (l.drop k) s = match f x s with
   | .inl r => .inl r
   | .inr s' => loopM f (l.drop (k + 1)) s' := by
 obtain ⟨hk, rfl⟩ := List.getElem?_eq_some_iff.1 h
 rw [List.drop_eq_getElem_cons hk]; rfl
theorem loopI_at {T S R : Type} {f : T → Nat → S → Sum R S} {l : List T} {k : Nat} {x : T} {s : S} (h : l[k]? = some x) : loopI f (l.drop k) k s = match f x k s with
   | .inl r => .inl r
   | .inr s' => loopI f (l.drop (k + 1)) (k + 1) s' := by
 obtain ⟨hk, rfl⟩ := List.getElem?_eq_some_iff.1 h
 rw [List.drop_eq_getElem_cons hk]; rfl
theorem loopM_end {T S R : Type} (f : T → S → Sum R S) (l : List T) (s : S) : loopM f (l.drop l.length) s = .inr s := by rw [List.drop_length]; rfl
theorem loopI_end {T S R : Type} (f : T → Nat → S → Sum R S) (l : List T) (s : S) : loopI f (l.drop l.length) l.length s = .inr s := by rw [List.drop_length]; rfl
end
end Go.Proofs.YtokkghhmliplfaaGreat
