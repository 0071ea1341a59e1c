/- The row TopEveryRay of the program holds; part 17 of the proof. No condition. -/
import Derived.Test.YtokkghhmliplfaaGreatK15
set_option maxRecDepth 100000
set_option maxHeartbeats 12800000
set_option linter.all false
namespace Go.Proofs.YtokkghhmliplfaaGreat
section
open Go.RowKit Go.Sort
attribute [local go_sem] qAt qUpon okOp okUpon cell_in_grow frozen_in_grow encFixV_eq encBodyV_eq encJointV_eq encPkV_eq encPtV_eq encCtV_eq encMfV_eq encWorldV_eq
attribute [local go_sem ↓] loadAt31 storeAt31 loadAt99 storeAt99 loadAt44 storeAt44 loadAt58 storeAt58 loadAt70 storeAt70 loadAt25 storeAt25 loadAt94 storeAt94 loadAt143 storeAt143
attribute [local go_sem] run_bl31 run_bs31 run_bl99 run_bs99 run_bl44 run_bs44 run_bl58 run_bs58 run_bl70 run_bs70 run_bl25 run_bs25 run_bl94 run_bs94 run_bl143 run_bs143 there_new there_alloc have_in_grow cells_in_grow oc_int oc_bool oc_slice oc_all oc_cons oc_nil List.size_toArray List.length_cons List.length_nil
attribute [local go_sem high] eqR23 eqR94
attribute [local go_sem] encObV_eq encW1_eq encI_eq
theorem call_268 (args : Array Value) (W : World) : (callFunc 268 args).run Tryz.prog W = .ok (.enter 268 args) W := by simp [go_sem, callFunc, Tryz.func268]; rfl
theorem call_241 (args : Array Value) (W : World) : (callFunc 241 args).run Tryz.prog W = .ok (.enter 241 args) W := by simp [go_sem, callFunc, Tryz.func241]; rfl
theorem active1 (p : Value) (b : ObV) (w : World) (hs : b.sl = false) : Calls Tryz.prog 241 #[p, .agg (encObV b).toArray] w fun e w' => e = .returned (.bool true) ∧ Grw w w' := by
 have HS := Lib.hid hs; clear hs
 go_enter Tryz.func241, Tryz.ntmps241
 go_upto_region 1 with (fail)
 refine wp_gen (fun xw => Grw w xw ∧ Bk xw w.heap.size 44 (encObV b).toArray) ⟨(Grw.refl w).alloc _, Bk.new' (by simp)⟩ ?_
 rintro w1 ⟨hw1, hB1⟩
 have c17 : w1.cell? ⟨w.heap.size, 17, none⟩ = some (.bool b.sl) := hB1.cell 17
 rw [HS.out] at c17
 clear hB1
 go_wp2_with fail
 go_ret
 exact ⟨rfl, hw1⟩
theorem anyCl1 {p g c gb cb gk ck fv pv : Nat} {b : ObV} {fr : Int} {w : World} (hG : Gp w p g c b fr gb cb gk ck) (hs : b.sl = false)
   (hf : Bk w fv 138 #[.func (.func 241) #[.pointer (some ⟨p, 0, none⟩)] #[]]) (hp : Bk w pv 239 #[.pointer (some ⟨p, 0, none⟩)]) :
   Calls Tryz.prog 268 #[.int .i64 0, .pointer (some ⟨fv, 0, none⟩), .pointer (some ⟨pv, 0, none⟩)] w fun e w' => e = .returned (.bool true) ∧ Grw w w' := by
 have HS := Lib.hid hs; clear hs
 have f0 : w.cell? ⟨fv, 0, none⟩ = some (.func (.func 241) #[.pointer (some ⟨p, 0, none⟩)] #[]) := hf.cell 0
 have p0 : w.cell? ⟨pv, 0, none⟩ = some (.pointer (some ⟨p, 0, none⟩)) := hp.cell 0
 have lf := hf.lt; have lp := hp.lt; have lG := hG.1.lt; have lO := Pk.lt hG.2.1
 have q5 : w.cell? ⟨p, 5, none⟩ = some (.slice (some ⟨g, 0, none⟩) 1 c) := hG.1.cell 5
 have gA : HaveAll w g 0 20 := Pk.have hG.2.1 (Nat.le_refl _)
 have gC : cellsAt w g 0 20 = (encObV b).toArray := Pk.cells hG.2.1 rfl
 have HG := Lib.hid hG; clear hG
 have hc1 := call_241 #[.pointer (some ⟨p, 0, none⟩), .agg (encObV b).toArray]
 simp only [encObV_eq] at hc1
 go_enter Tryz.func268, Tryz.ntmps268
 go_upto_region 1 with (fail)
 refine wp_region_flowA 10 (by kernel_rfl) (by kernel_rfl) ?_
 simp only [tD]
 iterate 8 (refine wpQ_step (fun K hK => ?_); go_simp; refine hK _ ?_; clear hK K)
 refine wpQ_step (fun K hK => ?_); go_simp; refine hK _ ?_; clear hK K
 refine wpQ_step (fun K hK => ?_); go_simp; apply Exists.intro; refine ⟨fun _ => ?_, hK _ ?_⟩
 · exact active1 _ b _ HS.out
 clear hK K
 refine wpQ_nil ?_
 intro w11 hg11
 clear f0 p0 q5 gA gC hc1
 go_wp2_with fail
 go_ret
 exact ⟨rfl, hg11⟩
theorem index1 {gk ck : Nat} {x y : Value} {w : World} (hz : Z1 w gk) (hf : ∀ W, Grw w W → Calls Tryz.prog 268 #[.int .i64 0, x, y] W fun e w' => e = .returned (.bool true) ∧ Grw W w') :
   Calls Tryz.prog 189 #[.slice (some ⟨gk, 0, none⟩) 1 ck, .func (.func 268) #[] #[x, y]] w fun e w' => e = .returned (.int .i64 0) ∧ Grw w w' := by
 have z0 : w.cell? ⟨gk, 0, none⟩ = some (.int .i64 0) := Pk.cell hz rfl
 have HF := Lib.hid hf; clear hf hz
 have hc1 := call_268 #[.int .i64 0, x, y]
 go_enter Tryz.func189, Tryz.ntmps189
 go_wp2_with fail
 refine wp_loop_rounds 1 ?_
 rw [rounds_succ]
 go_wp2_with fail
 refine (HF.out _ (Grw.refl _)).mono ?_
 rintro e w1 ⟨rfl, hg1⟩
 clear z0 hc1 HF
 go_wp2_with fail
 go_ret
 exact ⟨rfl, hg1⟩
theorem any1 {p g c gb cb gk ck : Nat} {b : ObV} {fr : Int} {w : World} (hG : Gp w p g c b fr gb cb gk ck) (hs : b.sl = false) :
   Calls Tryz.prog 198 #[.pointer (some ⟨p, 0, none⟩), .func (.func 241) #[.pointer (some ⟨p, 0, none⟩)] #[]] w fun e w' => e = .returned (.bool true) ∧ Grw w w' := by
 have HS := Lib.hid hs; clear hs
 have HG := Lib.hid hG; clear hG
 go_enter Tryz.func198, Tryz.ntmps198
 go_upto_region 1 with (fail)
 refine wp_gen (fun xw => Grw w xw ∧ Bk xw w.heap.size 239 #[.pointer (some ⟨p, 0, none⟩)] ∧ Bk xw (w.heap.size + 1) 138 #[.func (.func 241) #[.pointer (some ⟨p, 0, none⟩)] #[]]) ⟨((Grw.refl w).alloc _).alloc _, (Bk.new' (by simp)).alloc _, Bk.new' (by simp)⟩ ?_
 rintro w1 ⟨hw1, hP1, hF1⟩
 have p0 : w1.cell? ⟨w.heap.size, 0, none⟩ = some (.pointer (some ⟨p, 0, none⟩)) := hP1.cell 0
 have hG1 := HG.out.grw hw1
 have q14 : w1.cell? ⟨p, 14, none⟩ = some (.slice (some ⟨gk, 0, none⟩) 1 ck) := hG1.1.cell 14
 have HI := Lib.hid (index1 (ck := ck) (x := .pointer (some ⟨w.heap.size + 1, 0, none⟩)) (y := .pointer (some ⟨w.heap.size, 0, none⟩)) hG1.2.2.2 fun W hW => anyCl1 (hG1.grw hW) HS.out (hF1.grw hW) (hP1.grw hW))
 clear hP1 hF1 hG1
 have hcon : Calls Tryz.prog 162 #[.slice (some ⟨gk, 0, none⟩) 1 ck, .func (.func 268) #[] #[.pointer (some ⟨w.heap.size + 1, 0, none⟩), .pointer (some ⟨w.heap.size, 0, none⟩)]] w1 fun e w' => e = .returned (.bool true) ∧ Grw w1 w' := by
   clear p0 q14
   go_enter Tryz.func162, Tryz.ntmps162
   go_wp2_with (go_at_call 189; refine HI.out.mono ?_; rintro e w2 ⟨rfl, hg2⟩)
   go_ret
   exact ⟨rfl, hg2⟩
 have HC := Lib.hid hcon
 clear hcon HI
 go_wp2_with (go_at_call 162; refine HC.out.mono ?_; rintro e w2 ⟨rfl, hg2⟩)
 go_ret
 exact ⟨rfl, hw1.trans hg2⟩
theorem awake1 {p g c gb cb gk ck : Nat} {b : ObV} {fr : Int} {w : World} (hG : Gp w p g c b fr gb cb gk ck) (hs : b.sl = false) :
   Calls Tryz.prog 176 #[.pointer (some ⟨p, 0, none⟩)] w fun e w' => e = .returned (.bool true) ∧ Grw w w' := by
 have HA := Lib.hid (any1 hG hs); clear hG hs
 go_enter Tryz.func176, Tryz.ntmps176
 go_wp2_with (go_at_call 198; refine HA.out.mono ?_; rintro e w2 ⟨rfl, hg2⟩)
 go_ret
 exact ⟨rfl, hg2⟩
theorem isAwake1 {g c gb cb : Nat} {b : ObV} {fr : Int} {w : World} (h : B1 w g b) (hz : Z1 w gb) (hs : b.sl = false) :
   Calls Tryz.prog 105 #[.agg (encW1 g c fr).toArray, .agg (encI gb cb).toArray] w fun e w' => e = .returned (.bool true) ∧ Grw w w' := by
 have HS := Lib.hid hs; clear hs
 have H := Lib.hid h; clear h
 have HZ := Lib.hid hz; clear hz
 go_enter Tryz.func105, Tryz.ntmps105
 go_upto_region 1 with (fail)
 refine wp_gen (fun xw => Grw w xw ∧ Bk xw w.heap.size 31 (encW1 g c fr).toArray ∧ Bk xw (w.heap.size + 1) 113 (encI gb cb).toArray) ⟨((Grw.refl w).alloc _).alloc _, (Bk.new' (by simp)).alloc _, Bk.new' (by simp)⟩ ?_
 rintro w1 ⟨hw1, hB1, hI1⟩
 have gA : HaveAll w1 (w.heap.size) 0 11 := hB1.have 0 11 (Nat.le_of_ble_eq_true rfl)
 have gC : cellsAt w1 (w.heap.size) 0 11 = (encW1 g c fr).toArray := hB1.cells' 0 11 _ rfl rfl
 have i0 : w1.cell? ⟨w.heap.size + 1, 0, none⟩ = some (.slice (some ⟨gb, 0, none⟩) 1 cb) := hI1.cell 0
 have i1 : w1.cell? ⟨w.heap.size + 1, 1, none⟩ = some (.slice none 0 0) := hI1.cell 1
 have i2 : w1.cell? ⟨w.heap.size + 1, 2, none⟩ = some (.slice none 0 0) := hI1.cell 2
 clear hB1 hI1
 go_wp2_with (first
   | (go_at_call 175; refine (newGroup1 (Sl.grw H.out hw1) (HZ.out.grw hw1)).mono ?_; rintro e w2 ⟨p, g', c', gk, ck, rfl, hg2, _, _, hG2⟩; have HG2 := Lib.hid hG2; clear hG2)
   | (go_at_call 176; refine (awake1 HG2.out HS.out).mono ?_; rintro e w3 ⟨rfl, hg3⟩))
 go_ret
 exact ⟨rfl, (hw1.trans hg2).trans hg3⟩
theorem results_cell2 {P : Program} {fn : Func} {p u : Tmp} {ty : TypeId} (h : fn.results = #[.cell p ty, .tmp u]) (tmps : Array Value) (w : World) (g : Nat) (t : TypeId) (cs : Array Value) (fr : Nat × Nat) (d : TypeDesc)
   (hp : tmps.getD p undef = .pointer (some ⟨g, 0, none⟩)) (hg : w.heap[g]? = some (.cells cs t fr))
   (hu : P.underlying ty = some d) (hd : (match d with | .struct _ | .array _ _ => true | _ => false) = true) (hi : (P.info? ty).map (·.size) = some cs.size) :
   (results fn tmps).run P w = .ok (.tuple #[.agg cs, tmps.getD u undef]) w := by
 have hp' : tmps[p]?.getD undef = .pointer (some ⟨g, 0, none⟩) := by simpa using hp
 simp [results, h, hp', asAddr, run_loadVar_row w g t ty cs fr d hg hu hd hi]
theorem results_cell3 {P : Program} {fn : Func} {p u v : Tmp} {ty : TypeId} (h : fn.results = #[.cell p ty, .tmp u, .tmp v]) (tmps : Array Value) (w : World) (g : Nat) (t : TypeId) (cs : Array Value) (fr : Nat × Nat) (d : TypeDesc)
   (hp : tmps.getD p undef = .pointer (some ⟨g, 0, none⟩)) (hg : w.heap[g]? = some (.cells cs t fr))
   (hu : P.underlying ty = some d) (hd : (match d with | .struct _ | .array _ _ => true | _ => false) = true) (hi : (P.info? ty).map (·.size) = some cs.size) :
   (results fn tmps).run P w = .ok (.tuple #[.agg cs, tmps.getD u undef, tmps.getD v undef]) w := by
 have hp' : tmps[p]?.getD undef = .pointer (some ⟨g, 0, none⟩) := by simpa using hp
 simp [results, h, hp', asAddr, run_loadVar_row w g t ty cs fr d hg hu hd hi]
def wl (g c : Nat) (fr : Int) : List Value := [.int .i64 8192, .int .i64 0, .int .i64 (-65536), .int .i64 1, .int .i64 0, .slice (some ⟨g, 0, none⟩) 1 c, .slice none 0 0, .slice none 0 0, .slice none 0 0, .int .i64 2, .int .i64 fr]
theorem Gp.wc {w : World} {p g c : Nat} {b : ObV} {fr : Int} {gb cb gk ck : Nat} (h : Gp w p g c b fr gb cb gk ck) : HaveAll w p 0 11 ∧ cellsAt w p 0 11 = (encW1 g c fr).toArray :=
 ⟨h.1.have 0 11 (Nat.le_of_ble_eq_true rfl), h.1.cells' 0 11 _ rfl rfl⟩
theorem wake1 {g c gb cb : Nat} {b : ObV} {fr : Int} {w : World} (h : B1 w g b) (hz : Z1 w gb) (hs : b.sl = false) :
   Calls Tryz.prog 104 #[.agg (encW1 g c fr).toArray, .agg (encI gb cb).toArray] w fun e w' => ∃ g' c', e = .returned (.tuple #[.agg (encW1 g' c' fr).toArray, .slice none 0 0]) ∧ Grw w w' ∧ w.heap.size ≤ g' ∧ O1 w' g' b := by
 have HS := Lib.hid hs; clear hs
 have H := Lib.hid h; clear h
 have HZ := Lib.hid hz; clear hz
 go_enter Tryz.func104, Tryz.ntmps104
 go_upto_region 1 with (fail)
 refine wp_gen (fun xw => Grw w xw ∧ Bk xw w.heap.size 31 (encW1 g c fr).toArray ∧ Bk xw (w.heap.size + 1) 113 (encI gb cb).toArray ∧ Bk xw (w.heap.size + 2) 31 (encWorldV WorldV.d).toArray) ⟨(((Grw.refl w).alloc _).alloc _).alloc _, ((Bk.new' (by simp)).alloc _).alloc _, (Bk.new' (by simp)).alloc _, Bk.new' (by simp)⟩ ?_
 rintro w1 ⟨hw1, hB1, hI1, hR1⟩
 have gA : HaveAll w1 (w.heap.size) 0 11 := hB1.have 0 11 (Nat.le_of_ble_eq_true rfl)
 have gC : cellsAt w1 (w.heap.size) 0 11 = (encW1 g c fr).toArray := hB1.cells' 0 11 _ rfl rfl
 have i0 : w1.cell? ⟨w.heap.size + 1, 0, none⟩ = some (.slice (some ⟨gb, 0, none⟩) 1 cb) := hI1.cell 0
 have i1 : w1.cell? ⟨w.heap.size + 1, 1, none⟩ = some (.slice none 0 0) := hI1.cell 1
 have i2 : w1.cell? ⟨w.heap.size + 1, 2, none⟩ = some (.slice none 0 0) := hI1.cell 2
 have hl1 := hR1.lt
 have HR1 := Lib.hid hR1
 clear hB1 hI1 hR1
 go_upto_region 2 with (go_at_call 175; refine (newGroup1 (Sl.grw H.out hw1) (HZ.out.grw hw1)).mono ?_; rintro e w2 ⟨p, g', c', gk, ck, rfl, hg2, hp2, hgg, hG2⟩; have HG2 := Lib.hid hG2; clear hG2)
 clear gA gC i0 i1 i2
 go_upto_region 4 with (go_at_call 176; refine (awake1 HG2.out HS.out).mono ?_; rintro e w3 ⟨rfl, hg3⟩)
 have hG3 := HG2.out.grw hg3
 have q14 : w3.cell? ⟨p, 14, none⟩ = some (.slice (some ⟨gk, 0, none⟩) 1 ck) := hG3.1.cell 14
 have q5 : w3.cell? ⟨p, 5, none⟩ = some (.slice (some ⟨g', 0, none⟩) 1 c') := hG3.1.cell 5
 have z0 : w3.cell? ⟨gk, 0, none⟩ = some (.int .i64 0) := Pk.cell hG3.2.2.2 rfl
 have x17 : w3.cell? ⟨g', 17, none⟩ = some (.bool b.sl) := Pk.cell hG3.2.1 rfl
 rw [HS.out] at x17
 have gA : HaveAll w3 p 0 11 := hG3.wc.1
 have gC : cellsAt w3 p 0 11 = (encW1 g' c' fr).toArray := hG3.wc.2
 have hw3 := (hw1.trans hg2).trans hg3
 have hR3 := HR1.out.grw (hg2.trans hg3)
 have gT : There w3 (w.heap.size + 2) 0 11 := hR3.there 0 11 (Nat.le_of_ble_eq_true rfl)
 have hsz1 := hw1.size
 have HR3 := Lib.hid hR3; have HG3 := Lib.hid hG3
 clear hR3 hG3 HR1 HG2
 go_wp2_with fail
 refine wp_loop_rounds 2 ?_
 rw [rounds_succ]
 go_wp2_with fail
 rw [rounds_succ]
 go_wp2_with fail
 have hK : Bk (w3.setCells (w.heap.size + 2) 0 (wl g' c' fr)) (w.heap.size + 2) 31 (wl g' c' fr).toArray := HR3.out.setAll' rfl rfl
 refine bodyPost_ret (v := .tuple #[.agg (wl g' c' fr).toArray, .slice none 0 0]) (results_cell2 Tryz.results104 _ _ _ _ _ _ _ rfl hK Tryz.underlying31 rfl (by kernel_rfl)) rfl ?_
 exact ⟨g', c', rfl, hw3.setCells (by omega) _, by omega, Pk.farCells HG3.out.2.1 (by omega) _⟩
def bl (b : ObV) : List Value := encObV b
theorem updateIdle1 {b : ObV} {w : World} (hs : isSlow0B b = false) (hi : b.idl = 0) :
   Calls Tryz.prog 197 #[.agg (encObV b).toArray] w fun e w' => e = .returned (.agg (encObV b).toArray) ∧ Grw w w' := by
 have HS := Lib.hid hs; clear hs
 have HI := Lib.hid hi; clear hi
 go_enter Tryz.func197, Tryz.ntmps197
 go_upto_region 1 with (fail)
 refine wp_gen (fun xw => Grw w xw ∧ Bk xw w.heap.size 44 (encObV b).toArray ∧ Bk xw (w.heap.size + 1) 44 (encBodyV BodyV.d).toArray) ⟨((Grw.refl w).alloc _).alloc _, (Bk.new' (by simp)).alloc _, Bk.new' (by simp)⟩ ?_
 rintro w1 ⟨hw1, hB1, hR1⟩
 have gA : HaveAll w1 (w.heap.size) 0 20 := hB1.have 0 20 (Nat.le_of_ble_eq_true rfl)
 have gC : cellsAt w1 (w.heap.size) 0 20 = (encObV b).toArray := hB1.cells' 0 20 _ rfl rfl
 have HB1 := Lib.hid hB1; have HR1 := Lib.hid hR1; clear hB1 hR1
 go_upto_region 3 with (go_at_call 267; refine (isSlow0 b _).mono ?_; rintro e w2 ⟨rfl, hg2⟩; rw [HS.out])
 have hw2 := hw1.trans hg2
 have hB2 := HB1.out.grw hg2
 have hR2 := HR1.out.grw hg2
 have c18 : w2.cell? ⟨w.heap.size, 18, none⟩ = some (.int .i64 b.idl) := hB2.cell 18
 have cf := hB2.frozen
 clear gA gC HB1 HR1 hg2 hw1
 go_upto_region 4 with (fail)
 refine wp_gen (fun xw => Grw w xw ∧ Bk xw w.heap.size 44 (encObV b).toArray ∧ Bk xw (w.heap.size + 1) 44 (encBodyV BodyV.d).toArray) ⟨hw2.setAt (by omega) _, by have h := hB2.set 18 (.int .i64 0); rw [← HI.out] at h ⊢; exact h, hR2.far (by omega) _⟩ ?_
 clear c18 cf hB2 hR2 hw2
 rintro w3 ⟨hw3, hB3, hR3⟩
 have gA : HaveAll w3 (w.heap.size) 0 20 := hB3.have 0 20 (Nat.le_of_ble_eq_true rfl)
 have gC : cellsAt w3 (w.heap.size) 0 20 = (encObV b).toArray := hB3.cells' 0 20 _ rfl rfl
 have gT : There w3 (w.heap.size + 1) 0 20 := hR3.there 0 20 (Nat.le_of_ble_eq_true rfl)
 clear hB3
 have HR3 := Lib.hid hR3; clear hR3
 go_wp2_with fail
 have hK : Bk (w3.setCells (w.heap.size + 1) 0 (bl b)) (w.heap.size + 1) 44 (bl b).toArray := HR3.out.setAll' rfl rfl
 refine bodyPost_ret (v := .agg (bl b).toArray) (results_cell_row Tryz.results197 _ _ _ _ _ _ _ rfl hK Tryz.underlying44 rfl (by kernel_rfl)) rfl ?_
 exact ⟨rfl, hw3.setCells (by omega) _⟩
theorem supdate1 {g c gb cb : Nat} {b : ObV} {fr : Int} {w : World} (h : B1 w g b) (hz : Z1 w gb) (hs : b.sl = false) (hsl : isSlow0B b = false) (hi : b.idl = 0) :
   Calls Tryz.prog 117 #[.agg (encW1 g c fr).toArray, .agg (encI gb cb).toArray] w fun e w' => ∃ g' c', e = .returned (.tuple #[.agg (encW1 g' c' fr).toArray, .slice none 0 0]) ∧ Grw w w' ∧ w.heap.size ≤ g' ∧ O1 w' g' b := by
 have HS := Lib.hid hs; clear hs
 have HU := Lib.hid (fun W => updateIdle1 (b := b) (w := W) hsl hi); clear hsl hi
 have H := Lib.hid h; clear h
 have HZ := Lib.hid hz; clear hz
 go_enter Tryz.func117, Tryz.ntmps117
 go_upto_region 1 with (fail)
 refine wp_gen (fun xw => Grw w xw ∧ Bk xw w.heap.size 31 (encW1 g c fr).toArray ∧ Bk xw (w.heap.size + 1) 113 (encI gb cb).toArray ∧ Bk xw (w.heap.size + 2) 31 (encWorldV WorldV.d).toArray) ⟨(((Grw.refl w).alloc _).alloc _).alloc _, ((Bk.new' (by simp)).alloc _).alloc _, (Bk.new' (by simp)).alloc _, Bk.new' (by simp)⟩ ?_
 rintro w1 ⟨hw1, hB1, hI1, hR1⟩
 have gA : HaveAll w1 (w.heap.size) 0 11 := hB1.have 0 11 (Nat.le_of_ble_eq_true rfl)
 have gC : cellsAt w1 (w.heap.size) 0 11 = (encW1 g c fr).toArray := hB1.cells' 0 11 _ rfl rfl
 have i0 : w1.cell? ⟨w.heap.size + 1, 0, none⟩ = some (.slice (some ⟨gb, 0, none⟩) 1 cb) := hI1.cell 0
 have i1 : w1.cell? ⟨w.heap.size + 1, 1, none⟩ = some (.slice none 0 0) := hI1.cell 1
 have i2 : w1.cell? ⟨w.heap.size + 1, 2, none⟩ = some (.slice none 0 0) := hI1.cell 2
 have hl1 := hR1.lt
 have HR1 := Lib.hid hR1
 clear hB1 hI1 hR1
 go_upto_region 2 with (go_at_call 175; refine (newGroup1 (Sl.grw H.out hw1) (HZ.out.grw hw1)).mono ?_; rintro e w2 ⟨p, g', c', gk, ck, rfl, hg2, hp2, hgg, hG2⟩; have HG2 := Lib.hid hG2; clear hG2)
 clear gA gC i0 i1 i2
 go_upto_region 4 with (go_at_call 176; refine (awake1 HG2.out HS.out).mono ?_; rintro e w3 ⟨rfl, hg3⟩)
 have hG3 := HG2.out.grw hg3
 have q14 : w3.cell? ⟨p, 14, none⟩ = some (.slice (some ⟨gk, 0, none⟩) 1 ck) := hG3.1.cell 14
 have q5 : w3.cell? ⟨p, 5, none⟩ = some (.slice (some ⟨g', 0, none⟩) 1 c') := hG3.1.cell 5
 have z0 : w3.cell? ⟨gk, 0, none⟩ = some (.int .i64 0) := Pk.cell hG3.2.2.2 rfl
 have gA : HaveAll w3 g' 0 20 := Pk.have hG3.2.1 (Nat.le_refl _)
 have gC : cellsAt w3 g' 0 20 = (encObV b).toArray := Pk.cells hG3.2.1 rfl
 have hw3 := (hw1.trans hg2).trans hg3
 have hR3 := HR1.out.grw (hg2.trans hg3)
 have hsz1 := hw1.size
 have hp3 := hG3.1.lt; have hO3 := Pk.lt hG3.2.1; have hl3 := hR3.lt
 have hn1 := Pk.apart hG3.2.1 hG3.1.pk (by decide)
 have hn2 := Pk.apart hG3.2.1 hG3.2.2.1 (by decide)
 have hn3 := Pk.apart hG3.2.1 hG3.2.2.2 (by decide)
 have HR3 := Lib.hid hR3; have HG3 := Lib.hid hG3
 clear hR3 hG3 HR1 HG2
 go_wp2_with fail
 refine wp_loop_rounds 2 ?_
 rw [rounds_succ]
 go_upto_region 7 with (fail)
 refine wp_region_flowA 16 (by kernel_rfl) (by kernel_rfl) ?_
 simp only [tD]
 iterate 14 (refine wpQ_step (fun K hK => ?_); go_simp; refine hK _ ?_; clear hK K)
 refine wpQ_step (fun K hK => ?_); go_simp; apply Exists.intro; refine ⟨fun _ => ?_, hK _ ?_⟩; (go_at_call 197; exact HU.out _); clear hK K
 iterate 1 (refine wpQ_step (fun K hK => ?_); go_simp; refine hK _ ?_; clear hK K)
 refine wpQ_nil ?_
 intro w4 hg4
 have hG4 := HG3.out.grw hg4
 have hR4 := HR3.out.grw hg4
 have hT : There w4 g' 0 20 := Pk.there hG4.2.1 (Nat.le_refl _)
 have hw4 := hw3.trans hg4
 have hn4 := Pk.lt hG4.2.1
 clear q14 q5 z0 gA gC HR3 HG3 hg4 hw3
 go_upto_region 8 with (fail)
 refine wp_gen (fun xw => Grw w xw ∧ Bk xw (w.heap.size + 2) 31 (encWorldV WorldV.d).toArray ∧ Gp xw p g' c' b fr gb cb gk ck) ⟨hw4.setCells (by omega) _, hR4.farCells (by omega) _, hG4.1.farCells (by omega) _, Pk.setAll hG4.2.1 rfl rfl, Pk.farCells hG4.2.2.1 (by omega) _, Pk.farCells hG4.2.2.2 (by omega) _⟩ ?_
 clear hT hG4 hR4 hw4
 rintro w5 ⟨hw5, hR5, hG5⟩
 have q14 : w5.cell? ⟨p, 14, none⟩ = some (.slice (some ⟨gk, 0, none⟩) 1 ck) := hG5.1.cell 14
 have q4 : w5.cell? ⟨p, 4, none⟩ = some (.int .i64 0) := hG5.1.cell 4
 have gA : HaveAll w5 p 0 11 := hG5.wc.1
 have gC : cellsAt w5 p 0 11 = (encW1 g' c' fr).toArray := hG5.wc.2
 have gT : There w5 (w.heap.size + 2) 0 11 := hR5.there 0 11 (Nat.le_of_ble_eq_true rfl)
 have HR5 := Lib.hid hR5; have HG5 := Lib.hid hG5
 clear hR5 hG5
 go_wp2_with fail
 rw [rounds_succ]
 go_wp2_with fail
 have hK : Bk (w5.setCells (w.heap.size + 2) 0 (wl g' c' fr)) (w.heap.size + 2) 31 (wl g' c' fr).toArray := HR5.out.setAll' rfl rfl
 refine bodyPost_ret (v := .tuple #[.agg (wl g' c' fr).toArray, .slice none 0 0]) (results_cell2 Tryz.results117 _ _ _ _ _ _ _ rfl hK Tryz.underlying31 rfl (by kernel_rfl)) rfl ?_
 exact ⟨g', c', rfl, hw5.setCells (by omega) _, by omega, Pk.farCells HG5.out.2.1 (by omega) _⟩
theorem len1 (w : World) : Calls Tryz.prog 62 #[.int .u64 1] w fun e w' => e = .returned (.int .i64 1) ∧ w' = w := by
 have h134 : Calls Tryz.prog 134 #[.int .u64 1] w fun e w' => e = .returned (.int .i64 1) ∧ w' = w := by
   go_enter Tryz.func134, Tryz.ntmps134
   go_wp2_with fail
   go_ret
   exact ⟨congrArg (fun x => Ending.returned (Value.int .i64 x)) (show wrap64 (wrap64 (Lib.len8 1)) = 1 by decide +kernel), rfl⟩
 go_enter Tryz.func62, Tryz.ntmps62
 go_wp2_with (go_at_call 134; refine h134.mono ?_; rintro e w1 ⟨rfl, rfl⟩)
 go_ret
 exact ⟨rfl, rfl⟩
theorem sortI1 {gk ck : Nat} {w : World} : Calls Tryz.prog 244 #[.slice (some ⟨gk, 0, none⟩) 1 ck] w fun e w' => e = .returned (.tuple #[]) ∧ w' = w := by
 have h348 : ∀ W, Calls Tryz.prog 348 #[.slice (some ⟨gk, 0, none⟩) 1 ck, .int .i64 0, .int .i64 1] W fun e w' => e = .returned (.tuple #[]) ∧ w' = W := by
   intro W
   go_enter Tryz.func348, Tryz.ntmps348
   go_wp2_with fail
   refine wp_loop_rounds 1 ?_
   rw [rounds_succ]
   go_wp2_with fail
   refine bodyPost_end (results_none rfl _ _ _) rfl ?_
   exact ⟨rfl, rfl⟩
 have h299 : ∀ W, Calls Tryz.prog 299 #[.slice (some ⟨gk, 0, none⟩) 1 ck, .int .i64 0, .int .i64 1, .int .i64 1] W fun e w' => e = .returned (.tuple #[]) ∧ w' = W := by
   intro W
   go_enter Tryz.func299, Tryz.ntmps299
   go_wp2_with fail
   refine wp_loop_rounds 1 ?_
   rw [rounds_succ]
   go_wp2_with (go_at_call 348; refine (h348 _).mono ?_; rintro e w1 ⟨rfl, rfl⟩)
   refine bodyPost_ret (results_none rfl _ _ _) rfl ?_
   exact ⟨rfl, rfl⟩
 go_enter Tryz.func244, Tryz.ntmps244
 go_wp2_with (first
   | (go_at_call 62; refine (len1 _).mono ?_; rintro e w1 ⟨rfl, rfl⟩)
   | (go_at_call 299; refine (h299 _).mono ?_; rintro e w1 ⟨rfl, rfl⟩))
 refine bodyPost_end (results_none rfl _ _ _) rfl ?_
 exact ⟨rfl, rfl⟩
theorem compact1 {gk ck : Nat} {w : World} : Calls Tryz.prog 245 #[.slice (some ⟨gk, 0, none⟩) 1 ck] w fun e w' => e = .returned (.slice (some ⟨gk, 0, none⟩) 1 ck) ∧ w' = w := by
 go_enter Tryz.func245, Tryz.ntmps245
 go_wp2_with fail
 go_ret
 exact ⟨rfl, rfl⟩
theorem call_242 (args : Array Value) (W : World) : (callFunc 242 args).run Tryz.prog W = .ok (.enter 242 args) W := by simp [go_sem, callFunc, Tryz.func242]; rfl
theorem bodiesCl1 {wb lb g c base : Nat} {fr : Int} {w : World} (hB : Bk w wb 31 (encW1 g c fr).toArray) (hL : Bk w lb 106 #[.slice none 0 0]) (hb : base ≤ w.heap.size) :
   Calls Tryz.prog 242 #[.int .i64 0, .pointer (some ⟨wb, 0, none⟩), .pointer (some ⟨lb, 0, none⟩)] w fun e w' => ∃ gk ck, e = .returned (.tuple #[]) ∧ OnlyChg (fun k => k = lb) w w' ∧ Bk w' lb 106 #[.slice (some ⟨gk, 0, none⟩) 1 ck] ∧ Z1 w' gk := by
 have c5 : w.cell? ⟨wb, 5, none⟩ = some (.slice (some ⟨g, 0, none⟩) 1 c) := hB.cell 5
 have q0 : w.cell? ⟨lb, 0, none⟩ = some (.slice none 0 0) := hL.cell 0
 have qf := hL.frozen
 have HL := Lib.hid hL; clear hL hB
 have hO0 : OwnL 3 1 encInt w base (.slice none 0 0) ([] : List Int) := OwnL.nil _ _ _ _ _
 have HO0 := Lib.hid hO0; clear hO0
 go_enter Tryz.func242, Tryz.ntmps242
 go_wp2_with (at_builtin; refine wpList_push (enc := encInt) (z := .int .i64 0) (bytes := 8) (fun _ => rfl) (by simp [encInt, Value.oneCell']) base rfl _ _ rfl Tryz.underlying106 infoInt rfl (by decide) (by decide) (.slice none 0 0) [] 0 _ rfl rfl rfl HO0.out hb (by simp) ?_; intro v1 w7 hO7 hC7 _; have hg67 : Grw w w7 := (hC7.mono (S' := fun _ => False) (by simp [Value.ownBlock])).toGrw; obtain ⟨gk, ck, rfl, hgk, hPb'⟩ := OwnL.pk (enc := encInt) (size := 1) (fun _ => rfl) hO7 (by simp); have hZ7 : Z1 w7 gk := hPb'; have hL7 := HL.out.grw hg67; have q0' : w7.cell? ⟨lb, 0, none⟩ = some (.slice none 0 0) := hL7.cell 0; have qf' := hL7.frozen; have hl7 := hL7.lt; have hne := Pk.apart hZ7 hL7.pk (by decide); have HZ7 := Lib.hid hZ7; have HL7 := Lib.hid hL7; clear hPb' hO7 hC7 HO0 q0 qf c5 hL7 hZ7; rw [show ([] ++ [0] : List Int).length = 1 from rfl])
 refine bodyPost_end (results_none rfl _ _ _) rfl ?_
 exact ⟨gk, ck, rfl, (OnlyChg.of_grw hg67).set (S := fun k => k = lb) rfl _, HL7.out.set 0 (.slice (some ⟨gk, 0, none⟩) 1 ck), Pk.far HZ7.out hne _⟩
theorem run_store_func {P : Program} (w : World) (a : Addr) (m : Mode) (f : Fn) (bs cs : Array Value) : (store a (.func f bs cs) m).run P w = stored P w a (.func f bs cs) m := run_store P w a _ m rfl
attribute [local go_sem] run_store_func
theorem bodies1 {g c gb cb : Nat} {fr : Int} {w : World} (hz : Z1 w gb) :
   Calls Tryz.prog 178 #[.agg (encW1 g c fr).toArray, .agg (encI gb cb).toArray] w fun e w' => ∃ gk ck, e = .returned (.slice (some ⟨gk, 0, none⟩) 1 ck) ∧ Grw w w' ∧ Z1 w' gk := by
 have HZ := Lib.hid hz; clear hz
 go_enter Tryz.func178, Tryz.ntmps178
 go_upto_region 4 with (fail)
 refine wp_gen (fun xw => Grw w xw ∧ Bk xw w.heap.size 31 (encW1 g c fr).toArray ∧ Bk xw (w.heap.size + 1) 113 (encI gb cb).toArray ∧ Bk xw (w.heap.size + 2) 106 #[.slice none 0 0] ∧ Bk xw (w.heap.size + 3) 313 #[.func (.func 242) #[] #[.pointer (some ⟨w.heap.size, 0, none⟩), .pointer (some ⟨w.heap.size + 2, 0, none⟩)]])
   ⟨((((Grw.refl w).alloc _).alloc _).alloc _).alloc _, (((Bk.new' (by simp)).alloc _).alloc _).alloc _, ((Bk.new' (by simp)).alloc _).alloc _, (Bk.new' (by simp)).alloc _, Bk.new' (by simp)⟩ ?_
 rintro w1 ⟨hw1, hB1, hI1, hL1, hF1⟩
 have i0 : w1.cell? ⟨w.heap.size + 1, 0, none⟩ = some (.slice (some ⟨gb, 0, none⟩) 1 cb) := hI1.cell 0
 have z0 : w1.cell? ⟨gb, 0, none⟩ = some (.int .i64 0) := Pk.cell (HZ.out.grw hw1) rfl
 have f0 : w1.cell? ⟨w.heap.size + 3, 0, none⟩ = some (.func (.func 242) #[] #[.pointer (some ⟨w.heap.size, 0, none⟩), .pointer (some ⟨w.heap.size + 2, 0, none⟩)]) := hF1.cell 0
 have HI1 := Lib.hid hI1
 have HC := Lib.hid (bodiesCl1 hB1 hL1 hw1.size)
 have hc1 := call_242 #[.int .i64 0, .pointer (some ⟨w.heap.size, 0, none⟩), .pointer (some ⟨w.heap.size + 2, 0, none⟩)]
 clear hI1 hB1 hL1 hF1
 go_wp2_with fail
 refine wp_loop_rounds 2 ?_
 rw [rounds_succ]
 go_wp2_with fail
 refine HC.out.mono ?_
 rintro e w2 ⟨gk, ck, rfl, hC2, hL2, hZ2⟩
 have hw2 : Grw w w2 := OnlyChg.near (S := fun k => w.heap.size ≤ k) ((OnlyChg.of_grw hw1).trans (hC2.mono fun k _ hk => by omega)) fun k h => h
 have hI2 : Bk w2 (w.heap.size + 1) 113 (encI gb cb).toArray := (hC2.block _ HI1.out.lt (by omega)).trans HI1.out
 have i1 : w2.cell? ⟨w.heap.size + 1, 1, none⟩ = some (.slice none 0 0) := hI2.cell 1
 have i2 : w2.cell? ⟨w.heap.size + 1, 2, none⟩ = some (.slice none 0 0) := hI2.cell 2
 have l0 : w2.cell? ⟨w.heap.size + 2, 0, none⟩ = some (.slice (some ⟨gk, 0, none⟩) 1 ck) := hL2.cell 0
 have HZ2 := Lib.hid hZ2
 clear i0 z0 f0 HI1 HC hc1 hC2 hI2 hL2 hZ2 hw1
 go_wp2_with fail
 rw [rounds_succ]
 go_wp2_with fail
 refine wp_loop_rounds 1 ?_
 rw [rounds_succ]
 go_wp2_with fail
 refine wp_loop_rounds 1 ?_
 rw [rounds_succ]
 go_wp2_with (first
   | (go_at_call 244; refine sortI1.mono ?_; rintro e w3 ⟨rfl, rfl⟩)
   | (go_at_call 245; refine compact1.mono ?_; rintro e w3 ⟨rfl, rfl⟩))
 go_ret
 exact ⟨gk, ck, rfl, hw2, HZ2.out⟩
end
section
open Go.RowKit Go.Sort
attribute [local go_sem] qAt qUpon okOp okUpon cell_in_grow frozen_in_grow encFixV_eq encBodyV_eq encJointV_eq encPkV_eq encPtV_eq encCtV_eq encMfV_eq encWorldV_eq
attribute [local go_sem ↓] loadAt31 storeAt31 loadAt99 storeAt99 loadAt44 storeAt44 loadAt58 storeAt58 loadAt70 storeAt70 loadAt25 storeAt25 loadAt94 storeAt94 loadAt143 storeAt143
attribute [local go_sem] run_bl31 run_bs31 run_bl99 run_bs99 run_bl44 run_bs44 run_bl58 run_bs58 run_bl70 run_bs70 run_bl25 run_bs25 run_bl94 run_bs94 run_bl143 run_bs143 there_new there_alloc have_in_grow cells_in_grow oc_int oc_bool oc_slice oc_all oc_cons oc_nil List.size_toArray List.length_cons List.length_nil
attribute [local go_sem high] eqR23 eqR94
attribute [local go_sem] encObV_eq encW1_eq encI_eq
theorem Pk.sl1 {α : Type} {enc : α → List Value} {size t : Nat} {x : α} {w : World} {g : Nat} (hk : (enc x).length = size) (h : Pk w g t (enc x).toArray) : Sl size enc w (some ⟨g, 0, none⟩) [x] := by
 intro i y hy
 match i, hy with
 | 0, hy =>
   cases hy
   refine ⟨g, 0, rfl, Pk.lt h, fun j u hu => ?_⟩
   rw [show 0 + 0 * size + j = j by omega]
   exact Pk.cell h (by simpa using hu)
structure SbV where
 vx : Int
 vy : Int
 av : Int
 im : Int
 ii : Int
def encSb (s : SbV) : List Value := [.int .i64 s.vx, .int .i64 s.vy, .int .i64 s.av, .int .i64 s.im, .int .i64 s.ii]
theorem encSb_eq (s : SbV) : (encSb s).toArray = #[.int .i64 s.vx, .int .i64 s.vy, .int .i64 s.av, .int .i64 s.im, .int .i64 s.ii] := rfl
attribute [local go_sem] encSb_eq
theorem infoSb : (Tryz.prog.info? 168).map (fun i => (i.zero, i.size, i.bytes)) = some (some (.agg #[.int .i64 0, .int .i64 0, .int .i64 0, .int .i64 0, .int .i64 0]), 5, 40) := by kernel_rfl
theorem encSb_one (s : SbV) : ∀ u ∈ encSb s, u.oneCell' = true := by simp [encSb, Value.oneCell']
def Sb1 (w : World) (g : Nat) (s : SbV) : Prop := Pk w g 168 (encSb s).toArray
theorem Sb1.grw {w w' : World} {g : Nat} {s : SbV} (h : Sb1 w g s) (hg : Grw w w') : Sb1 w' g s := Pk.grw h hg
theorem copyRows0 (w : World) : Calls Tryz.prog 258 #[.slice none 0 0] w fun e w' => e = .returned (.slice none 0 0) ∧ w' = w := by
 go_enter Tryz.func258, Tryz.ntmps258
 go_wp2_with (at_builtin; refine wpList_nilnil rfl _ _ rfl Tryz.underlying160 (by kernel_rfl) rfl rfl ?_)
 go_ret
 exact ⟨rfl, rfl⟩
theorem copyBodies1 {g c : Nat} {s : SbV} {w : World} (h : Sb1 w g s) : Calls Tryz.prog 260 #[.slice (some ⟨g, 0, none⟩) 1 c] w fun e w' => ∃ g' c', e = .returned (.slice (some ⟨g', 0, none⟩) 1 c') ∧ Grw w w' ∧ Sb1 w' g' s := by
 have HS := Lib.hid (Pk.sl1 (enc := encSb) (size := 5) rfl h); clear h
 have hO0 : OwnL 168 5 encSb w w.heap.size (.slice none 0 0) ([] : List SbV) := OwnL.nil _ _ _ _ _
 have HO0 := Lib.hid hO0; clear hO0
 go_enter Tryz.func260, Tryz.ntmps260
 go_wp2_with (at_builtin; refine wpList_appendAll (enc := encSb) (z := .agg #[.int .i64 0, .int .i64 0, .int .i64 0, .int .i64 0, .int .i64 0]) (bytes := 40) (fun _ => rfl) encSb_one w.heap.size rfl _ _ rfl Tryz.underlying159 infoSb rfl (by decide) (by decide) (.slice none 0 0) [] [s] (some ⟨g, 0, none⟩) c rfl rfl HO0.out HS.out (Nat.le_refl _) (by simp) ?_; intro v1 w1 hO hC hat; obtain ⟨g', c', rfl, hgk, hPb'⟩ := OwnL.pk (enc := encSb) (size := 5) (fun _ => rfl) hO (by simp); rw [show ([] ++ [s] : List SbV).length = 1 from rfl])
 have hg1 : Grw w w1 := (hC.mono (S' := fun _ => False) (by simp [Value.ownBlock])).toGrw
 have HP := Lib.hid (show Sb1 w1 g' s by unfold Sb1; simpa using hPb')
 clear hO hC hat hPb'
 go_wp2_with fail
 go_ret
 exact ⟨g', c', rfl, hg1, HP.out⟩
theorem clampImp0 (w : World) : Calls Tryz.prog 184 #[.slice none 0 0] w fun e w' => e = .returned (.slice none 0 0) ∧ w' = w := by
 go_enter Tryz.func184, Tryz.ntmps184
 go_wp2_with (go_at_call 258; refine (copyRows0 _).mono ?_; rintro e w1 ⟨rfl, rfl⟩)
 refine wp_loop_rounds 1 ?_
 rw [rounds_succ]
 go_wp2_with fail
 go_ret
 exact ⟨rfl, rfl⟩
theorem warm0 {g c : Nat} {s : SbV} {w : World} (h : Sb1 w g s) : Calls Tryz.prog 185 #[.slice none 0 0, .slice (some ⟨g, 0, none⟩) 1 c] w fun e w' => ∃ g' c', e = .returned (.slice (some ⟨g', 0, none⟩) 1 c') ∧ Grw w w' ∧ Sb1 w' g' s := by
 have H := Lib.hid h; clear h
 go_enter Tryz.func185, Tryz.ntmps185
 go_wp2_with (go_at_call 260; refine (copyBodies1 H.out).mono ?_; rintro e w1 ⟨g', c', rfl, hg1, hP1⟩; have HP1 := Lib.hid hP1; clear hP1)
 refine wp_loop_rounds 1 ?_
 rw [rounds_succ]
 go_wp2_with fail
 go_ret
 exact ⟨g', c', rfl, hg1, HP1.out⟩
theorem iterate0 {g c : Nat} {s : SbV} {w : World} (h : Sb1 w g s) : Calls Tryz.prog 186 #[.slice none 0 0, .slice (some ⟨g, 0, none⟩) 1 c] w fun e w' => ∃ g' c', e = .returned (.tuple #[.slice none 0 0, .slice (some ⟨g', 0, none⟩) 1 c']) ∧ Grw w w' ∧ Sb1 w' g' s := by
 have H := Lib.hid h; clear h
 go_enter Tryz.func186, Tryz.ntmps186
 go_wp2_with (first
   | (go_at_call 258; refine (copyRows0 _).mono ?_; rintro e w1 ⟨rfl, rfl⟩)
   | (go_at_call 260; refine (copyBodies1 H.out).mono ?_; rintro e w1 ⟨g', c', rfl, hg1, hP1⟩; have HP1 := Lib.hid hP1; clear hP1))
 refine wp_loop_rounds 1 ?_
 rw [rounds_succ]
 go_wp2_with fail
 go_ret2
 exact ⟨g', c', rfl, hg1, HP1.out⟩
theorem solve0 {g c : Nat} {s : SbV} {w : World} (h : Sb1 w g s) : Calls Tryz.prog 107 #[.slice none 0 0, .slice (some ⟨g, 0, none⟩) 1 c, .int .i64 1] w fun e w' => ∃ g' c', e = .returned (.tuple #[.slice none 0 0, .slice (some ⟨g', 0, none⟩) 1 c']) ∧ Grw w w' ∧ Sb1 w' g' s := by
 have H := Lib.hid h; clear h
 have hcl : ∀ W, Calls Tryz.prog 149 #[.int .i64 1, .int .i64 0, .int .i64 32] W fun e w' => e = .returned (.int .i64 1) ∧ w' = W := by
   intro W
   go_enter Tryz.func149, Tryz.ntmps149
   go_wp2_with fail
   go_ret
   exact ⟨rfl, rfl⟩
 have HC := Lib.hid hcl; clear hcl
 go_enter Tryz.func107, Tryz.ntmps107
 go_wp2_with (first
   | (go_at_call 184; refine (clampImp0 _).mono ?_; rintro e w1 ⟨rfl, rfl⟩)
   | (go_at_call 185; refine (warm0 H.out).mono ?_; rintro e w1 ⟨g', c', rfl, hg1, hP1⟩; have HP1 := Lib.hid hP1; clear hP1)
   | (go_at_call 149; refine (HC.out _).mono ?_; rintro e w1 ⟨rfl, rfl⟩))
 refine wp_loop_rounds 2 ?_
 rw [rounds_succ]
 go_wp2_with (go_at_call 186; refine (iterate0 HP1.out).mono ?_; rintro e w2 ⟨g2, c2, rfl, hg2, hP2⟩; have HP2 := Lib.hid hP2; clear hP2)
 rw [rounds_succ]
 go_wp2_with fail
 go_ret2
 exact ⟨g2, c2, rfl, hg1.trans hg2, HP2.out⟩
end
section
open Go.RowKit Go.Sort
attribute [local go_sem] qAt qUpon okOp okUpon cell_in_grow frozen_in_grow encFixV_eq encBodyV_eq encJointV_eq encPkV_eq encPtV_eq encCtV_eq encMfV_eq encWorldV_eq
attribute [local go_sem ↓] loadAt31 storeAt31 loadAt99 storeAt99 loadAt44 storeAt44 loadAt58 storeAt58 loadAt70 storeAt70 loadAt25 storeAt25 loadAt94 storeAt94 loadAt143 storeAt143
attribute [local go_sem] run_bl31 run_bs31 run_bl99 run_bs99 run_bl44 run_bs44 run_bl58 run_bs58 run_bl70 run_bs70 run_bl25 run_bs25 run_bl94 run_bs94 run_bl143 run_bs143 there_new there_alloc have_in_grow cells_in_grow oc_int oc_bool oc_slice oc_all oc_cons oc_nil List.size_toArray List.length_cons List.length_nil
attribute [local go_sem high] eqR23 eqR94
attribute [local go_sem] encObV_eq encW1_eq encI_eq encSb_eq
theorem okOp_append_run {P : Program} {ops : Array Oper} {o : Oper} {a : Act} {K : Value → World → Prop} {w : World} (hgd : o.guard = none) (s x : Operand) (t tn : TypeId)
   (ho : o.op = .call { callee := .builtin .append, args := #[s, x], argTypes := #[t, tn] }) (vs vx : Value) (hs : a.eval s = vs) (hx : a.eval x = vx)
   (v' : Value) (w' : World) (hr : (Builtin.append_ #[t, tn] o.type #[vs, vx]).run P w = .ok v' w') (h : K v' w') : okOp P ops o K a w := by
 unfold okOp
 rw [if_pos (by simp [Region.wanted, hgd])]
 unfold execOp
 simp only [ho, resolve, invoke, builtin, Sem.run_bind, Sem.run_pure, Result.andThen_ok, List.map_toArray, List.map_cons, List.map_nil, hs, hx, hr]
 exact h
theorem okOp_push1 {α : Type} {enc : α → List Value} {ops : Array Oper} {o : Oper} {a : Act} {K : Value → World → Prop} {e size bytes t : Nat} {z : Value} (hk : ∀ x, (enc x).length = size) (h1 : ∀ x, ∀ u ∈ enc x, u.oneCell' = true) {W : World} (hgd : o.guard = none) (s x : Operand)
   (ho : o.op = .call { callee := .builtin .append, args := #[s, x], argTypes := #[t, t] })
   (ht : Tryz.prog.underlying t = some (.slice e)) (hinfo : (Tryz.prog.info? e).map (fun i => (i.zero, i.size, i.bytes)) = some (some z, size, bytes)) (hz : z.cells.size = size) (hsz : 0 < size) (hb : bytes ≤ 140737488355328)
   (y : α) (b : Nat) (c : Nat) (hs : a.eval s = .slice none 0 0) (hx : a.eval x = .slice (some ⟨b, 0, none⟩) 1 c)
   (HS : Bk W b e (enc y).toArray)
   (h : ∀ g cg w1, Grw W w1 → Pk w1 g e (enc y).toArray → K (.slice (some ⟨g, 0, none⟩) 1 cg) w1) : okOp Tryz.prog ops o K a W := by
 obtain ⟨i0, hi, hzz⟩ := Option.map_eq_some_iff.1 hinfo
 simp only [Prod.mk.injEq] at hzz
 obtain ⟨hz0, hz1, hz2⟩ := hzz
 obtain ⟨v', w', hr, hown, hg, _, hat⟩ := run_append_own_at (P := Tryz.prog) W W.heap.size t o.type e i0 z size bytes ht hi hz0 hz1 hz2 hz hsz (.slice none 0 0) 0 [] (World.ownsRow_nil W W.heap.size e size) ⟨b, 0, none⟩ 1 c (enc y) (by rw [hk]; omega)
   (by
     intro j u hu
     have := HS.cell j
     rw [List.getElem?_toArray, hu] at this
     have e1 : (⟨b, 0, none⟩ : Addr).add j = ⟨b, j, none⟩ := by unfold Addr.add; split <;> simp_all
     rw [e1]; exact this)
   (fun u hu => h1 y u hu) (by simp only [maxLen]; omega) (by omega) (Nat.le_refl _)
 have hO : OwnL e size enc w' W.heap.size v' [y] := by unfold OwnL; simpa using hown
 obtain ⟨g, cg, rfl, _, hp⟩ := OwnL.pk hk hO (by simp)
 refine okOp_append_run hgd s x t t ho _ _ hs hx _ _ hr (h g cg w' ?_ (by simpa using hp))
 exact OnlyChg.toGrw ⟨hg.os, hg.tape, hg.output, hg.size, fun i hi _ => hg.block i hi (by simp [Value.ownBlock])⟩
theorem ascend1 {g c : Nat} {w : World} (h : Z1 w g) : Calls Tryz.prog 177 #[.slice (some ⟨g, 0, none⟩) 1 c, .int .i64 1] w fun e w' => e = .returned (.bool true) ∧ w = w' := by
 have z0 : w.cell? ⟨g, 0, none⟩ = some (.int .i64 0) := Pk.cell h rfl
 clear h
 go_enter Tryz.func177, Tryz.ntmps177
 go_wp2_with fail
 refine wp_loop_rounds 2 ?_
 rw [rounds_succ]
 go_wp2_with fail
 rw [rounds_succ]
 go_wp2_with fail
 go_ret
 exact ⟨rfl, rfl⟩
theorem ascend0 (w : World) : Calls Tryz.prog 177 #[.slice none 0 0, .int .i64 0] w fun e w' => e = .returned (.bool true) ∧ w = w' := by
 go_enter Tryz.func177, Tryz.ntmps177
 go_wp2_with fail
 refine wp_loop_rounds 1 ?_
 rw [rounds_succ]
 go_wp2_with fail
 go_ret
 exact ⟨rfl, rfl⟩
def prbC (g c : Nat) (fr : Int) (gb cb : Nat) (bs ids sbs : Value) : Array Value := #[.int .i64 8192, .int .i64 0, .int .i64 (-65536), .int .i64 1, .int .i64 0, .slice (some ⟨g, 0, none⟩) 1 c, .slice none 0 0, .slice none 0 0, .slice none 0 0, .int .i64 2, .int .i64 fr, .slice (some ⟨gb, 0, none⟩) 1 cb, .slice none 0 0, .slice none 0 0, bs, ids, sbs, .slice none 0 0, .slice none 0 0]
theorem newProblem1 {g c gb cb : Nat} {b b' : ObV} {s : SbV} {fr : Int} {w : World} (h : B1 w g b) (hz : Z1 w gb) (hv : validateE (W1 g c b fr) = 0)
   (hvel : ∀ W, Calls Tryz.prog 179 #[.agg (encObV b).toArray, .agg #[.int .i64 8192, .int .i64 0, .int .i64 (-65536), .int .i64 1, .int .i64 0]] W fun e w' => e = .returned (.agg (encObV b').toArray) ∧ Grw W w')
   (hsb : ∀ W, Calls Tryz.prog 180 #[.agg (encObV b').toArray] W fun e w' => e = .returned (.agg (encSb s).toArray) ∧ Grw W w') :
   Calls Tryz.prog 106 #[.agg (encW1 g c fr).toArray, .agg (encI gb cb).toArray] w fun e w' => ∃ p g2 c2 gk ck gs cs, e = .returned (.pointer (some ⟨p, 0, none⟩)) ∧ Grw w w' ∧ Bk w' p 162 (prbC g c fr gb cb (.slice (some ⟨g2, 0, none⟩) 1 c2) (.slice (some ⟨gk, 0, none⟩) 1 ck) (.slice (some ⟨gs, 0, none⟩) 1 cs)) ∧ O1 w' g2 b' ∧ Z1 w' gk ∧ Sb1 w' gs s := by
 have H := Lib.hid h; clear h
 have HZ := Lib.hid hz; clear hz
 have HV := Lib.hid hvel; clear hvel
 have HSB := Lib.hid hsb; clear hsb
 go_enter Tryz.func106, Tryz.ntmps106
 go_upto_region 1 with (fail)
 refine wp_gen (fun xw => Grw w xw ∧ Bk xw w.heap.size 31 (encW1 g c fr).toArray ∧ Bk xw (w.heap.size + 1) 113 (encI gb cb).toArray) ⟨((Grw.refl w).alloc _).alloc _, (Bk.new' (by simp)).alloc _, Bk.new' (by simp)⟩ ?_
 rintro w1 ⟨hw1, hB1, hI1⟩
 have gA : HaveAll w1 (w.heap.size) 0 11 := hB1.have 0 11 (Nat.le_of_ble_eq_true rfl)
 have gC : cellsAt w1 (w.heap.size) 0 11 = (encW1 g c fr).toArray := hB1.cells' 0 11 _ rfl rfl
 have HB1 := Lib.hid hB1; have HI1 := Lib.hid hI1; clear hB1 hI1
 go_wp2_with fail
 (go_at_call 5; refine (validate1 (b := b) (Sl.grw H.out hw1) hv).mono ?_; rintro e w2 ⟨rfl, hg2⟩)
 have hw2 := hw1.trans hg2
 have hB2 := HB1.out.grw hg2; have hI2 := HI1.out.grw hg2
 have c5 : w2.cell? ⟨w.heap.size, 5, none⟩ = some (.slice (some ⟨g, 0, none⟩) 1 c) := hB2.cell 5
 have c6 : w2.cell? ⟨w.heap.size, 6, none⟩ = some (.slice none 0 0) := hB2.cell 6
 have c7 : w2.cell? ⟨w.heap.size, 7, none⟩ = some (.slice none 0 0) := hB2.cell 7
 have i0 : w2.cell? ⟨w.heap.size + 1, 0, none⟩ = some (.slice (some ⟨gb, 0, none⟩) 1 cb) := hI2.cell 0
 have i1 : w2.cell? ⟨w.heap.size + 1, 1, none⟩ = some (.slice none 0 0) := hI2.cell 1
 have i2 : w2.cell? ⟨w.heap.size + 1, 2, none⟩ = some (.slice none 0 0) := hI2.cell 2
 have gA2 : HaveAll w2 (w.heap.size) 0 11 := hB2.have 0 11 (Nat.le_of_ble_eq_true rfl)
 have gC2 : cellsAt w2 (w.heap.size) 0 11 = (encW1 g c fr).toArray := hB2.cells' 0 11 _ rfl rfl
 have hl1 := hB2.lt; have hl2 := hI2.lt
 have hZ2 := HZ.out.grw hw2
 have HZ2 := Lib.hid hZ2
 have HB2 := Lib.hid hB2; have HI2 := Lib.hid hI2
 clear gA gC HB1 HI1 hg2 hw1 hB2 hI2 hZ2
 have HA1 := Lib.hid (ascend1 (c := cb) HZ2.out)
 go_upto_region 3 with (fail)
 (go_at_call 177; refine HA1.out.mono ?_; rintro e w3 ⟨rfl, rfl⟩)
 --A
 go_upto_region 3 with (fail)
 (go_at_call 177; refine (ascend0 _).mono ?_; rintro e w3 ⟨rfl, rfl⟩)
 --B
 go_upto_region 3 with (fail)
 (go_at_call 177; refine (ascend0 _).mono ?_; rintro e w3 ⟨rfl, rfl⟩)
 --C
 go_upto_region 3 with (fail)
 refine wp_region_steps [(true, 0), (true, 1), (true, 2), (true, 3), (true, 5), (true, 6), (false, 4), (false, 7)] [8, 9, 10] (by kernel_rfl) (by kernel_rfl) ?_
 intro w3 hw3
 have lO := Pk.lt HZ2.out
 iterate 6 (refine st_det rfl (fun K hK => ?_); go_simp; refine hK _ ?_; clear hK K)
 --D
 refine st_mid rfl (fun w4 hw4 K hK => ?_)
 go_simp
 refine (clone1_bodies (Sl.grw H.out (by (repeat with_reducible first | exact .refl _ | assumption | refine .setAt ?_ (by first | omega | simp <;> omega) _ | refine .setCells ?_ (by first | omega | simp <;> omega) _ | refine .alloc ?_ _ | refine .drewN ?_ _ | refine .drew ?_ | refine .trans ?_ (by assumption))))).mono ?_
 rintro e w5 ⟨g2, c2, rfl, hg5, hgg, hO5⟩
 refine ⟨_, rfl, hK _ _ (by (repeat with_reducible first | exact .refl _ | assumption | refine .setAt ?_ (by first | omega | simp <;> omega) _ | refine .setCells ?_ (by first | omega | simp <;> omega) _ | refine .alloc ?_ _ | refine .drewN ?_ _ | refine .drew ?_ | refine .trans ?_ (by assumption))) ?_⟩; clear hK K
 refine st_mid rfl (fun w6 hw6 K hK => ?_)
 go_simp
 refine (bodies1 (HZ.out.grw (by (repeat with_reducible first | exact .refl _ | assumption | refine .setAt ?_ (by first | omega | simp <;> omega) _ | refine .setCells ?_ (by first | omega | simp <;> omega) _ | refine .alloc ?_ _ | refine .drewN ?_ _ | refine .drew ?_ | refine .trans ?_ (by assumption))))).mono ?_
 rintro e w7 ⟨gk, ck, rfl, hg7, hZ7⟩
 refine ⟨_, rfl, hK _ _ (by (repeat with_reducible first | exact .refl _ | assumption | refine .setAt ?_ (by first | omega | simp <;> omega) _ | refine .setCells ?_ (by first | omega | simp <;> omega) _ | refine .alloc ?_ _ | refine .drewN ?_ _ | refine .drew ?_ | refine .trans ?_ (by assumption))) ?_⟩; clear hK K
 refine st_nil (fun w8 hw8 => ?_)
 simp only [pickO, List.getElem?_cons_succ, List.getElem?_cons_zero]
 have hg28 : Grw w2 w8 := (((((hw3.trans hw4).trans hg5).trans hw6).trans hg7).trans hw8)
 have hw28 := hw2.trans hg28
 have hB8 := HB2.out.grw hg28; have hI8 := HI2.out.grw hg28; have hO8 := hO5.grw ((hw6.trans hg7).trans hw8); have hZ8 := hZ7.grw hw8
 have hsz4 := (hw2.trans (hw3.trans hw4)).size
 have hsz28 := hg28.size
 clear c5 c6 c7 i0 i1 i2 gA2 gC2 HB2 HI2 hO5 hZ7 hw3 hw4 hg5 hw6 hg7 hw8 hg28 HA1 HZ2
 --E
 go_upto_region 4 with (fail)
 refine wp_gen (fun xw => Grw w xw ∧ Bk xw w.heap.size 31 (encW1 g c fr).toArray ∧ Bk xw (w.heap.size + 1) 113 (encI gb cb).toArray ∧ O1 xw g2 b ∧ Z1 xw gk ∧ Bk xw w8.heap.size 162 (prbC g c fr gb cb (.slice (some ⟨g2, 0, none⟩) 1 c2) (.slice (some ⟨gk, 0, none⟩) 1 ck) (.slice none 0 0))) ⟨hw28.alloc _, hB8.alloc _, hI8.alloc _, hO8.grw ((Grw.refl w8).alloc _), hZ8.grw ((Grw.refl w8).alloc _), Bk.new' rfl⟩ ?_
 have hp1 := Pk.lt hO8; have hp2 := Pk.lt hZ8
 clear hB8 hI8 hO8 hZ8 hw28
 rintro w9 ⟨hw9, hB9, hI9, hO9, hZ9, hP9⟩
 --F
 have c0 : w9.cell? ⟨w.heap.size, 0, none⟩ = some (.int .i64 8192) := hB9.cell 0
 have c1 : w9.cell? ⟨w.heap.size, 1, none⟩ = some (.int .i64 0) := hB9.cell 1
 have c2' : w9.cell? ⟨w.heap.size, 2, none⟩ = some (.int .i64 (-65536)) := hB9.cell 2
 have c3 : w9.cell? ⟨w.heap.size, 3, none⟩ = some (.int .i64 1) := hB9.cell 3
 have c4 : w9.cell? ⟨w.heap.size, 4, none⟩ = some (.int .i64 0) := hB9.cell 4
 have gS : HaveAll w9 (w.heap.size) 0 5 := hB9.have 0 5 (Nat.le_of_ble_eq_true rfl)
 have gSC : cellsAt w9 (w.heap.size) 0 5 = #[.int .i64 8192, .int .i64 0, .int .i64 (-65536), .int .i64 1, .int .i64 0] := hB9.cells' 0 5 _ rfl rfl
 have i0 : w9.cell? ⟨w.heap.size + 1, 0, none⟩ = some (.slice (some ⟨gb, 0, none⟩) 1 cb) := hI9.cell 0
 have z0 : w9.cell? ⟨gb, 0, none⟩ = some (.int .i64 0) := Pk.cell (HZ.out.grw hw9) rfl
 have p14 : w9.cell? ⟨w8.heap.size, 14, none⟩ = some (.slice (some ⟨g2, 0, none⟩) 1 c2) := hP9.cell 14
 have gA : HaveAll w9 g2 0 20 := Pk.have hO9 (Nat.le_refl _)
 have gC : cellsAt w9 g2 0 20 = (encObV b).toArray := Pk.cells hO9 rfl
 have hl9 := hB9.lt; have hm9 := hI9.lt; have hn9 := hP9.lt; have ho9 := Pk.lt hO9; have hq9 := Pk.lt hZ9; have hr9 := Pk.lt (HZ.out.grw hw9)
 have hne := Pk.apart hO9 hP9.pk (by decide); have hne2 := Pk.apart hO9 hB9.pk (by decide); have hne3 := Pk.apart hO9 hI9.pk (by decide); have hne4 := Pk.apart hO9 hZ9 (by decide)
 have HB9 := Lib.hid hB9; have HI9 := Lib.hid hI9; have HO9 := Lib.hid hO9; have HZ9 := Lib.hid hZ9; have HP9 := Lib.hid hP9
 clear hB9 hI9 hO9 hZ9 hP9
 go_wp2_with fail
 refine wp_loop_rounds 2 ?_
 rw [rounds_succ]
 go_upto_region 7 with (fail)
 --G
 refine wp_region_flowA 16 (by kernel_rfl) (by kernel_rfl) ?_
 simp only [tD]
 iterate 14 (refine wpQ_step (fun K hK => ?_); go_simp; refine hK _ ?_; clear hK K)
 --H
 refine wpQ_step (fun K hK => ?_); go_simp; apply Exists.intro; refine ⟨fun _ => ?_, hK _ ?_⟩; (go_at_call 179; exact HV.out _); clear hK K
 iterate 1 (refine wpQ_step (fun K hK => ?_); go_simp; refine hK _ ?_; clear hK K)
 refine wpQ_nil ?_
 intro w10 hg10
 have hB10 := HB9.out.grw hg10; have hI10 := HI9.out.grw hg10; have hO10 := O1.grw HO9.out hg10; have hZ10 := HZ9.out.grw hg10; have hP10 := HP9.out.grw hg10
 have hT : There w10 g2 0 20 := Pk.there hO10 (Nat.le_refl _)
 have hw10 := hw9.trans hg10
 clear c0 c1 c2' c3 c4 gS gSC i0 z0 p14 gA gC HB9 HI9 HO9 HZ9 HP9 hg10 hw9
 go_upto_region 8 with (fail)
 refine wp_gen (fun xw => Grw w xw ∧ Bk xw w.heap.size 31 (encW1 g c fr).toArray ∧ Bk xw (w.heap.size + 1) 113 (encI gb cb).toArray ∧ O1 xw g2 b' ∧ Z1 xw gk ∧ Bk xw w8.heap.size 162 (prbC g c fr gb cb (.slice (some ⟨g2, 0, none⟩) 1 c2) (.slice (some ⟨gk, 0, none⟩) 1 ck) (.slice none 0 0))) ⟨hw10.setCells (by omega) _, hB10.farCells (by omega) _, hI10.farCells (by omega) _, Pk.setAll hO10 rfl rfl, Pk.farCells hZ10 (by omega) _, hP10.farCells (by omega) _⟩ ?_
 clear hT hB10 hI10 hO10 hZ10 hP10 hw10
 rintro w11 ⟨hw11, hB11, hI11, hO11, hZ11, hP11⟩
 --I
 have p15 : w11.cell? ⟨w8.heap.size, 15, none⟩ = some (.slice (some ⟨gk, 0, none⟩) 1 ck) := hP11.cell 15
 have p14 : w11.cell? ⟨w8.heap.size, 14, none⟩ = some (.slice (some ⟨g2, 0, none⟩) 1 c2) := hP11.cell 14
 have p16 : w11.cell? ⟨w8.heap.size, 16, none⟩ = some (.slice none 0 0) := hP11.cell 16
 have z0 : w11.cell? ⟨gk, 0, none⟩ = some (.int .i64 0) := Pk.cell hZ11 rfl
 have gA : HaveAll w11 g2 0 20 := Pk.have hO11 (Nat.le_refl _)
 have gC : cellsAt w11 g2 0 20 = (encObV b').toArray := Pk.cells hO11 rfl
 have hl11 := hB11.lt; have hm11 := hI11.lt; have hn11 := hP11.lt; have ho11 := Pk.lt hO11; have hq11 := Pk.lt hZ11
 have HB11 := Lib.hid hB11; have HI11 := Lib.hid hI11; have HO11 := Lib.hid hO11; have HZ11 := Lib.hid hZ11; have HP11 := Lib.hid hP11
 clear hB11 hI11 hO11 hZ11 hP11
 go_wp2_with fail
 rw [rounds_succ]
 go_wp2_with fail
 refine wp_loop_rounds 2 ?_
 rw [rounds_succ]
 go_upto_region 12 with (fail)
 --J
 refine wp_region_steps [(true, 0), (true, 1), (true, 2), (true, 3), (true, 4), (true, 5), (true, 6), (true, 7), (true, 8), (true, 9), (true, 10), (true, 11), (true, 12), (false, 13), (false, 14)] [15, 16, 17] (by kernel_rfl) (by kernel_rfl) ?_
 intro w12 hw12
 iterate 12 (refine st_det rfl (fun K hK => ?_); go_simp; refine hK _ ?_; clear hK K)
 --K
 refine st_det rfl (fun K hK => ?_); go_simp; apply Exists.intro; refine ⟨fun _ => ?_, hK _ ?_⟩; (go_at_call 180; exact HSB.out _); clear hK K
 refine st_mid rfl (fun w13 hw13 K hK => ?_)
 go_simp
 refine hK _ _ (by (repeat with_reducible first | exact .refl _ | assumption | refine .setAt ?_ (by first | omega | simp <;> omega) _ | refine .setCells ?_ (by first | omega | simp <;> omega) _ | refine .alloc ?_ _ | refine .drewN ?_ _ | refine .drew ?_ | refine .trans ?_ (by assumption))) ?_; clear hK K
 refine st_mid rfl (fun w14 hw14 K hK => ?_)
 refine okOp_push1 (enc := encSb) (z := .agg #[.int .i64 0, .int .i64 0, .int .i64 0, .int .i64 0, .int .i64 0]) (bytes := 40) (fun _ => rfl) encSb_one rfl _ _ rfl Tryz.underlying159 infoSb rfl (by decide) (by decide) s w13.heap.size 1 rfl rfl ((Bk.new' (by simp)).grw hw14) ?_
 intro gs cs w15 hg15 hS15
 refine hK _ _ (by (repeat with_reducible first | exact .refl _ | assumption | refine .setAt ?_ (by first | omega | simp <;> omega) _ | refine .setCells ?_ (by first | omega | simp <;> omega) _ | refine .alloc ?_ _ | refine .drewN ?_ _ | refine .drew ?_ | refine .trans ?_ (by assumption))) ?_; clear hK K
 --L
 refine st_nil (fun w16 hw16 => ?_)
 simp only [pickO, List.getElem?_cons_succ, List.getElem?_cons_zero]
 have hg : Grw w11 w16 := ((((hw12.trans hw13).trans ((Grw.refl w13).alloc _)).trans hw14).trans hg15).trans hw16
 have hw16' := hw11.trans hg
 have hB16 := HB11.out.grw hg; have hI16 := HI11.out.grw hg; have hO16 := O1.grw HO11.out hg; have hZ16 := HZ11.out.grw hg; have hP16 := HP11.out.grw hg
 have hS16 : Sb1 w16 gs s := Pk.grw hS15 hw16
 have qf := hP16.frozen
 have q16 : w16.cell? ⟨w8.heap.size, 16, none⟩ = some (.slice none 0 0) := hP16.cell 16
 have hn5 := Pk.apart hS16 hP16.pk (by decide)
 clear p15 p14 p16 z0 gA gC HB11 HI11 HO11 HZ11 HP11 hg hw12 hw13 hw14 hg15 hw16 hw11 hS15
 go_upto_region 13 with (fail)
 refine wp_gen (fun xw => Grw w xw ∧ Bk xw w.heap.size 31 (encW1 g c fr).toArray ∧ Bk xw (w.heap.size + 1) 113 (encI gb cb).toArray ∧ O1 xw g2 b' ∧ Z1 xw gk ∧ Sb1 xw gs s ∧ Bk xw w8.heap.size 162 (prbC g c fr gb cb (.slice (some ⟨g2, 0, none⟩) 1 c2) (.slice (some ⟨gk, 0, none⟩) 1 ck) (.slice (some ⟨gs, 0, none⟩) 1 cs))) ⟨hw16'.setAt (by omega) _, hB16.far (by omega) _, hI16.far (by omega) _, Pk.far hO16 (by omega) _, Pk.far hZ16 (by omega) _, Pk.far hS16 (by omega) _, hP16.set 16 (.slice (some ⟨gs, 0, none⟩) 1 cs)⟩ ?_
 clear qf q16 hB16 hI16 hO16 hZ16 hP16 hS16 hw16'
 rintro w17 ⟨hw17, hB17, hI17, hO17, hZ17, hS17, hP17⟩
 --M
 have i1 : w17.cell? ⟨w.heap.size + 1, 1, none⟩ = some (.slice none 0 0) := hI17.cell 1
 have i2 : w17.cell? ⟨w.heap.size + 1, 2, none⟩ = some (.slice none 0 0) := hI17.cell 2
 have HO17 := Lib.hid hO17; have HZ17 := Lib.hid hZ17; have HP17 := Lib.hid hP17; have HS17 := Lib.hid hS17
 clear hB17 hI17 hO17 hZ17 hP17 hS17
 go_wp2_with fail
 rw [rounds_succ]
 go_wp2_with fail
 refine wp_loop_rounds 1 ?_
 rw [rounds_succ]
 go_wp2_with fail
 refine wp_loop_rounds 1 ?_
 rw [rounds_succ]
 go_wp2_with fail
 go_ret
 exact ⟨_, _, _, _, _, _, _, rfl, hw17, HP17.out, HO17.out, HZ17.out, HS17.out⟩
theorem less00 (w : World) : Calls Tryz.prog 187 #[.int .i64 0, .int .i64 0] w fun e w' => e = .returned (.bool false) ∧ w = w' := by
 have h135 : ∀ W, Calls Tryz.prog 135 #[.int .i64 0] W fun e w' => e = .returned (.bool false) ∧ W = w' := by
   intro W
   go_enter Tryz.func135, Tryz.ntmps135
   go_wp2_with fail
   go_ret
   exact ⟨rfl, rfl⟩
 have HN := Lib.hid h135; clear h135
 go_enter Tryz.func187, Tryz.ntmps187
 go_wp2_with (go_at_call 135; refine (HN.out _).mono ?_; rintro e w3 ⟨rfl, rfl⟩)
 go_ret
 exact ⟨rfl, rfl⟩
theorem bsearch1 {g c : Nat} {w : World} (h : Z1 w g) : Calls Tryz.prog 108 #[.slice (some ⟨g, 0, none⟩) 1 c, .int .i64 0] w fun e w' => e = .returned (.tuple #[.int .i64 0, .bool true]) ∧ w = w' := by
 have z0 : w.cell? ⟨g, 0, none⟩ = some (.int .i64 0) := Pk.cell h rfl
 clear h
 go_enter Tryz.func108, Tryz.ntmps108
 go_wp2_with fail
 refine wp_loop_rounds 2 ?_
 rw [rounds_succ]
 go_wp2_with (go_at_call 187; refine (less00 _).mono ?_; rintro e w3 ⟨rfl, rfl⟩)
 rw [rounds_succ]
 go_wp2_with fail
 go_ret2
 exact ⟨rfl, rfl⟩
theorem solveIsland1 {g c gb cb : Nat} {b b' : ObV} {im ii : Int} {fr : Int} {w : World} (h : B1 w g b) (hz : Z1 w gb) (hv : validateE (W1 g c b fr) = 0) (hs : b.sl = false) (hk : b.kd = 3)
   (hvel : ∀ W, Calls Tryz.prog 179 #[.agg (encObV b).toArray, .agg #[.int .i64 8192, .int .i64 0, .int .i64 (-65536), .int .i64 1, .int .i64 0]] W fun e w' => e = .returned (.agg (encObV b').toArray) ∧ Grw W w')
   (hsb : ∀ W, Calls Tryz.prog 180 #[.agg (encObV b').toArray] W fun e w' => e = .returned (.agg (encSb ⟨b'.vx, b'.vy, b'.av, im, ii⟩).toArray) ∧ Grw W w')
   (hcl : ∀ W, Calls Tryz.prog 109 #[.agg (encObV b').toArray] W fun e w' => e = .returned (.agg (encObV b').toArray) ∧ Grw W w') :
   Calls Tryz.prog 51 #[.agg (encW1 g c fr).toArray, .agg (encI gb cb).toArray] w fun e w' => ∃ g' c', e = .returned (.agg (encW1 g' c' fr).toArray) ∧ Grw w w' ∧ w.heap.size ≤ g' ∧ O1 w' g' b' := by
 have H := Lib.hid h; clear h
 have HZ := Lib.hid hz; clear hz
 have HV := Lib.hid hvel; clear hvel
 have HSB := Lib.hid hsb; clear hsb
 have HCL := Lib.hid hcl; clear hcl
 have HSL := Lib.hid hs; clear hs
 have HK := Lib.hid hk; clear hk
 go_enter Tryz.func51, Tryz.ntmps51
 go_upto_region 1 with (fail)
 refine wp_gen (fun xw => Grw w xw ∧ Bk xw w.heap.size 31 (encW1 g c fr).toArray ∧ Bk xw (w.heap.size + 1) 113 (encI gb cb).toArray ∧ Bk xw (w.heap.size + 2) 31 (encWorldV WorldV.d).toArray) ⟨(((Grw.refl w).alloc _).alloc _).alloc _, ((Bk.new' (by simp)).alloc _).alloc _, (Bk.new' (by simp)).alloc _, Bk.new' (by simp)⟩ ?_
 rintro w1 ⟨hw1, hB1, hI1, hR1⟩
 have gA : HaveAll w1 (w.heap.size) 0 11 := hB1.have 0 11 (Nat.le_of_ble_eq_true rfl)
 have gC : cellsAt w1 (w.heap.size) 0 11 = (encW1 g c fr).toArray := hB1.cells' 0 11 _ rfl rfl
 have hl1 := hR1.lt
 have HB1 := Lib.hid hB1; have HI1 := Lib.hid hI1; have HR1 := Lib.hid hR1; clear hB1 hI1 hR1
 go_upto_region 2 with (go_at_call 24; refine (clone1 (Sl.grw H.out hw1)).mono ?_; rintro e w2 ⟨g5, c5, rfl, hg2, hgg, hO2⟩)
 --A
 refine wp_gen (fun xw => Grw w xw ∧ Bk xw w.heap.size 31 (encW1 g c fr).toArray ∧ Bk xw (w.heap.size + 1) 113 (encI gb cb).toArray ∧ Bk xw (w.heap.size + 2) 31 (encWorldV WorldV.d).toArray ∧ O1 xw g5 b ∧ Bk xw w2.heap.size 31 (encW1 g5 c5 fr).toArray)
   ⟨((hw1.trans hg2).alloc _).setCells (by have := (hw1.trans hg2).size; omega) _, ((HB1.out.grw hg2).alloc _).farCells (by have := hg2.size; omega) _, ((HI1.out.grw hg2).alloc _).farCells (by have := hg2.size; omega) _, ((HR1.out.grw hg2).alloc _).farCells (by have := hg2.size; omega) _, Pk.farCells (hO2.grw ((Grw.refl w2).alloc _)) (by have := Pk.lt hO2; omega) _, (Bk.new' (by simp)).setAll' rfl rfl⟩ ?_
 have hsz2 := (hw1.trans hg2).size; have hsz1 := hw1.size; have hsz12 := hg2.size; have hlO := Pk.lt hO2
 clear gA gC HB1 HI1 HR1 hO2 hg2 hw1
 rintro w3 ⟨hw3, hB3, hI3, hR3, hO3, hY3⟩
 have gA : HaveAll w3 (w.heap.size) 0 11 := hB3.have 0 11 (Nat.le_of_ble_eq_true rfl)
 have gC : cellsAt w3 (w.heap.size) 0 11 = (encW1 g c fr).toArray := hB3.cells' 0 11 _ rfl rfl
 have i0 : w3.cell? ⟨w.heap.size + 1, 0, none⟩ = some (.slice (some ⟨gb, 0, none⟩) 1 cb) := hI3.cell 0
 have i1 : w3.cell? ⟨w.heap.size + 1, 1, none⟩ = some (.slice none 0 0) := hI3.cell 1
 have i2 : w3.cell? ⟨w.heap.size + 1, 2, none⟩ = some (.slice none 0 0) := hI3.cell 2
 have HB3 := Lib.hid hB3; have HI3 := Lib.hid hI3; have HR3 := Lib.hid hR3; have HO3 := Lib.hid hO3; have HY3 := Lib.hid hY3; clear hB3 hI3 hR3 hO3 hY3
 go_upto_region 4 with (go_at_call 105; refine (isAwake1 (Sl.grw H.out hw3) (HZ.out.grw hw3) HSL.out).mono ?_; rintro e w4 ⟨rfl, hg4⟩)
 have hw4 := hw3.trans hg4
 have hB4 := HB3.out.grw hg4; have hI4 := HI3.out.grw hg4
 clear gA gC i0 i1 i2
 have gA : HaveAll w4 (w.heap.size) 0 11 := hB4.have 0 11 (Nat.le_of_ble_eq_true rfl)
 have gC : cellsAt w4 (w.heap.size) 0 11 = (encW1 g c fr).toArray := hB4.cells' 0 11 _ rfl rfl
 have i0 : w4.cell? ⟨w.heap.size + 1, 0, none⟩ = some (.slice (some ⟨gb, 0, none⟩) 1 cb) := hI4.cell 0
 have i1 : w4.cell? ⟨w.heap.size + 1, 1, none⟩ = some (.slice none 0 0) := hI4.cell 1
 have i2 : w4.cell? ⟨w.heap.size + 1, 2, none⟩ = some (.slice none 0 0) := hI4.cell 2
 clear hB4 hI4
 go_upto_region 5 with (go_at_call 106; refine (newProblem1 (Sl.grw H.out hw4) (HZ.out.grw hw4) hv HV.out HSB.out).mono ?_; rintro e w5 ⟨p, g2, c2, gk, ck, gs, cs, rfl, hg5, hP5, hO5, hZ5, hS5⟩)
 --B
 have hw5 := hw4.trans hg5
 have hg35 := hg4.trans hg5
 have hB5 := HB3.out.grw hg35
 have q16 : w5.cell? ⟨p, 16, none⟩ = some (.slice (some ⟨gs, 0, none⟩) 1 cs) := hP5.cell 16
 have q17 : w5.cell? ⟨p, 17, none⟩ = some (.slice none 0 0) := hP5.cell 17
 have b3 : w5.cell? ⟨w.heap.size, 3, none⟩ = some (.int .i64 1) := hB5.cell 3
 have lp := hP5.lt; have lb := hB5.lt
 have HP5 := Lib.hid hP5; have HO5 := Lib.hid hO5; have HZ5 := Lib.hid hZ5; have HS5 := Lib.hid hS5
 clear gA gC i0 i1 i2 hg4 hg5 hw4 hw3 hP5 hO5 hZ5 hS5 hB5
 go_upto_region 7 with (fail)
 --C
 refine wp_region_steps [(true, 0), (true, 1), (true, 2), (true, 3), (true, 4), (true, 5), (true, 6), (true, 7), (true, 8), (true, 9), (true, 10), (false, 11), (true, 12), (true, 13), (true, 14), (true, 15), (true, 16)] [] (by kernel_rfl) (by kernel_rfl) ?_
 intro w6 hw6
 iterate 11 (refine st_det rfl (fun K hK => ?_); go_simp; refine hK _ ?_; clear hK K)
 refine st_mid rfl (fun w7 hw7 K hK => ?_)
 go_simp
 refine (solve0 (HS5.out.grw (hw6.trans hw7))).mono ?_
 rintro e w8 ⟨g8, c8, rfl, hg8, hS8⟩
 refine ⟨_, rfl, hK _ _ (by (repeat with_reducible first | exact .refl _ | assumption | refine .setAt ?_ (by first | omega | simp <;> omega) _ | refine .setCells ?_ (by first | omega | simp <;> omega) _ | refine .alloc ?_ _ | refine .drewN ?_ _ | refine .drew ?_ | refine .trans ?_ (by assumption))) ?_⟩; clear hK K
 iterate 5 (refine st_det rfl (fun K hK => ?_); go_simp; refine hK _ ?_; clear hK K)
 refine st_nil (fun w9 hw9 => ?_)
 simp only [pickO]
 have hg59 := ((hw6.trans hw7).trans hg8).trans hw9
 have hw9' := hw5.trans hg59
 have hg39 := hg35.trans hg59
 have hB9 := HB3.out.grw hg39; have hI9 := HI3.out.grw hg39; have hY9 := HY3.out.grw hg39; have hR9 := HR3.out.grw hg39; have hO9 := O1.grw HO3.out hg39
 have hP9 := HP5.out.grw hg59; have hQ9 := O1.grw HO5.out hg59; have hZ9 := HZ5.out.grw hg59; have hS9 := hS8.grw hw9
 have q15 : w9.cell? ⟨p, 15, none⟩ = some (.slice (some ⟨gk, 0, none⟩) 1 ck) := hP9.cell 15
 have q14 : w9.cell? ⟨p, 14, none⟩ = some (.slice (some ⟨g2, 0, none⟩) 1 c2) := hP9.cell 14
 have z0 : w9.cell? ⟨gk, 0, none⟩ = some (.int .i64 0) := Pk.cell hZ9 rfl
 have i0 : w9.cell? ⟨w.heap.size + 1, 0, none⟩ = some (.slice (some ⟨gb, 0, none⟩) 1 cb) := hI9.cell 0
 have y5 : w9.cell? ⟨w2.heap.size, 5, none⟩ = some (.slice (some ⟨g5, 0, none⟩) 1 c5) := hY9.cell 5
 have k1 : w9.cell? ⟨g5, 1, none⟩ = some (.int .i64 3) := by rw [← HK.out]; exact Pk.cell hO9 rfl
 have gA : HaveAll w9 g2 0 20 := Pk.have hQ9 (Nat.le_refl _)
 have gC : cellsAt w9 g2 0 20 = (encObV b').toArray := Pk.cells hQ9 rfl
 have hZ9' := HZ.out.grw hw9'
 have hn1 := Pk.apart hO9 hS9 (by decide)
 have hsz9 := hR9.lt; have hlY := hY9.lt; have hlO9 := Pk.lt hO9; have hlS9 := Pk.lt hS9; have hlQ9 := Pk.lt hQ9; have hlP9 := hP9.lt
 have HBS := Lib.hid (bsearch1 (c := cb) hZ9')
 have HX := Lib.hid (show _ ∧ _ ∧ _ ∧ _ ∧ _ ∧ _ from ⟨hI9, hR9, hO9, hY9, hS9, hQ9⟩)
 clear q16 q17 b3 HB3 HI3 HR3 HO3 HY3 HP5 HO5 HZ5 HS5 hS8 hg59 hg39 hg35 hw6 hw7 hg8 hw9 hw5 hI9 hR9 hO9 hY9 hS9 hB9 hP9 hQ9 hZ9 hZ9'
 --D
 go_wp2_with fail
 refine wp_loop_rounds 2 ?_
 rw [rounds_succ]
 go_upto_region 13 with (go_at_call 108; refine HBS.out.mono ?_; rintro e w10 ⟨rfl, rfl⟩)
 --E
 go_upto_region 14 with (go_at_call 57; refine (bodyClone0_x b' _).mono ?_; rintro e w10 ⟨rfl, hg10⟩)
 --F
 refine wp_gen (fun xw => Grw w xw ∧ Bk xw (w.heap.size + 1) 113 (encI gb cb).toArray ∧ Bk xw (w.heap.size + 2) 31 (encWorldV WorldV.d).toArray ∧ O1 xw g5 b ∧ Bk xw w2.heap.size 31 (encW1 g5 c5 fr).toArray ∧ Sb1 xw g8 ⟨b'.vx, b'.vy, b'.av, im, ii⟩ ∧ Bk xw w10.heap.size 44 (encObV b').toArray)
   ⟨((hw9'.trans hg10).alloc _).setCells (by have := (hw9'.trans hg10).size; omega) _, ((HX.out.1.grw hg10).alloc _).farCells (by have := hg10.size; omega) _, ((HX.out.2.1.grw hg10).alloc _).farCells (by have := hg10.size; omega) _, Pk.farCells (Pk.grw HX.out.2.2.1 (hg10.trans ((Grw.refl w10).alloc _))) (by have := hg10.size; omega) _, ((HX.out.2.2.2.1.grw hg10).alloc _).farCells (by have := hg10.size; omega) _, Pk.farCells (Pk.grw HX.out.2.2.2.2.1 (hg10.trans ((Grw.refl w10).alloc _))) (by have := hg10.size; omega) _, (Bk.new' (by simp)).setAll' rfl rfl⟩ ?_
 have hsz10 := hg10.size; have hszw := hw9'.size
 clear q15 q14 z0 i0 y5 k1 gA gC HX hg10 hw9' HBS
 rintro w14 ⟨hw14, hI14, hR14, hO14, hY14, hS14, hT14⟩
 have hl14 := hT14.lt
 have HI14 := Lib.hid hI14; have HR14 := Lib.hid hR14; have HO14 := Lib.hid hO14; have HY14 := Lib.hid hY14; have HS14 := Lib.hid hS14; have HT14 := Lib.hid hT14
 clear hI14 hR14 hO14 hY14 hS14 hT14
 refine wp_region_flowS (S := fun k => k = w10.heap.size) 10 (by kernel_rfl) (by kernel_rfl) ?_
 simp only [tD]
 refine wpS_want rfl (fun K hK => ?_); apply Exists.intro; refine ⟨fun w' hS => (by go_simp; rfl), ?_⟩; go_simp; refine hK _ ?_; clear hK K
 refine wpS_want rfl (fun K hK => ?_); apply Exists.intro; refine ⟨fun w' hS => (by go_simp; rfl), ?_⟩; go_simp; refine hK _ ?_; clear hK K
 refine wpS_want rfl (fun K hK => ?_); apply Exists.intro; refine ⟨fun w' hS => (by go_simp; rfl), ?_⟩; go_simp; refine hK _ ?_; clear hK K
 refine wpS_want rfl (fun K hK => ?_); apply Exists.intro; refine ⟨fun w' hS => (by go_simp; rfl), ?_⟩; go_simp; refine hK _ ?_; clear hK K
 refine wpS_want rfl (fun K hK => ?_); apply Exists.intro; refine ⟨fun w' hS => ?_, ?_⟩
 · have hX' := Pk.keep HS14.out hS (by omega)
   have s0 : w'.cell? ⟨g8, 0, none⟩ = some (.int .i64 b'.vx) := Pk.cell hX' rfl
   have s1 : w'.cell? ⟨g8, 1, none⟩ = some (.int .i64 b'.vy) := Pk.cell hX' rfl
   clear hX'
   go_simp
   rfl
 go_simp; refine hK _ ?_; clear hK K
 refine wpS_want rfl (fun K hK => ?_); apply Exists.intro; refine ⟨fun w' hS => (by go_simp; rfl), ?_⟩; go_simp; refine hK _ ?_; clear hK K
 refine wpS_want rfl (fun K hK => ?_); apply Exists.intro; refine ⟨fun w' hS => (by go_simp; rfl), ?_⟩; go_simp; refine hK _ ?_; clear hK K
 refine wpS_want rfl (fun K hK => ?_); apply Exists.intro; refine ⟨fun w' hS => (by go_simp; rfl), ?_⟩; go_simp; refine hK _ ?_; clear hK K
 refine wpS_want rfl (fun K hK => ?_); apply Exists.intro; refine ⟨fun w' hS => (by go_simp; rfl), ?_⟩; go_simp; refine hK _ ?_; clear hK K
 refine wpS_want rfl (fun K hK => ?_); apply Exists.intro; refine ⟨fun w' hS => ?_, ?_⟩
 · have hX' := Pk.keep HS14.out hS (by omega)
   have s2 : w'.cell? ⟨g8, 2, none⟩ = some (.int .i64 b'.av) := Pk.cell hX' rfl
   clear hX'
   go_simp
   rfl
 go_simp; refine hK _ ?_; clear hK K
 --G
 refine wpS_nil ?_
 intro w15 hg15
 refine okS_step (fun w16 hg16 K hK => ?_)
 go_simp
 refine hK _ _ (OnlyChg.of_grw (hg15.trans hg16)) ?_; clear hK K
 refine okS_step (fun w17 hg17 K hK => ?_)
 have hg1417 := (hg15.trans hg16).trans hg17
 have hT17 := HT14.out.grw hg1417
 have t5 : w17.cell? ⟨w10.heap.size, 5, none⟩ = some (.int .i64 b'.vx) := hT17.cell 5
 have t6 : w17.cell? ⟨w10.heap.size, 6, none⟩ = some (.int .i64 b'.vy) := hT17.cell 6
 have tf := hT17.frozen
 go_simp
 have hO17 : OnlyChg (fun k => k = w10.heap.size) w14 ((w17.setCell ⟨w10.heap.size, 5, none⟩ (.int .i64 b'.vx)).setCell ⟨w10.heap.size, 6, none⟩ (.int .i64 b'.vy)) := ((OnlyChg.of_grw hg1417).set1 _).set1 _
 have hT18 : Bk ((w17.setCell ⟨w10.heap.size, 5, none⟩ (.int .i64 b'.vx)).setCell ⟨w10.heap.size, 6, none⟩ (.int .i64 b'.vy)) w10.heap.size 44 (encObV b').toArray := (hT17.set 5 (.int .i64 b'.vx)).set 6 (.int .i64 b'.vy)
 refine hK _ _ hO17 ?_; clear hK K
 clear hT17 t5 t6 tf hg15 hg16 hg17 hg1417
 refine okS_step (fun w18 hg18 K hK => ?_)
 go_simp
 refine hK _ _ (hO17.grw hg18) ?_; clear hK K
 refine okS_step (fun w19 hg19 K hK => ?_)
 have hg := hg18.trans hg19
 have hT19 := hT18.grw hg
 have t7 : w19.cell? ⟨w10.heap.size, 7, none⟩ = some (.int .i64 b'.av) := hT19.cell 7
 have tf := hT19.frozen
 go_simp
 have hO19 : OnlyChg (fun k => k = w10.heap.size) w14 (w19.setCell ⟨w10.heap.size, 7, none⟩ (.int .i64 b'.av)) := (hO17.grw hg).set1 _
 have hT20 : Bk (w19.setCell ⟨w10.heap.size, 7, none⟩ (.int .i64 b'.av)) w10.heap.size 44 (encObV b').toArray := hT19.set 7 (.int .i64 b'.av)
 refine hK _ _ hO19 ?_; clear hK K
 refine okS_nil (fun w20 hg20 => ?_)
 have hO20 := hO19.grw hg20
 have hT20' := hT20.grw hg20
 have hw20 : Grw w w20 := OnlyChg.near (S := fun k => w.heap.size ≤ k) ((OnlyChg.of_grw hw14).trans (hO20.mono fun k _ hk => by omega)) fun k h => h
 have hI20 := HI14.out.keep hO20 (by omega); have hR20 := HR14.out.keep hO20 (by omega); have hO20' := Pk.keep HO14.out hO20 (by omega); have hY20 := HY14.out.keep hO20 (by omega)
 have gA : HaveAll w20 w10.heap.size 0 20 := hT20'.have 0 20 (Nat.le_of_ble_eq_true rfl)
 have gC : cellsAt w20 w10.heap.size 0 20 = (encObV b').toArray := hT20'.cells' 0 20 _ rfl rfl
 have y5 : w20.cell? ⟨w2.heap.size, 5, none⟩ = some (.slice (some ⟨g5, 0, none⟩) 1 c5) := hY20.cell 5
 have hl20 := hT20'.lt; have hm20 := hY20.lt
 have hn2 := Pk.apart hO20' hY20.pk (by decide); have hn3 := Pk.apart hO20' hI20.pk (by decide); have hn4 := Pk.apart hO20' hR20.pk (by decide)
 have HX := Lib.hid (show _ ∧ _ ∧ _ ∧ _ from ⟨hI20, hR20, hO20', hY20⟩)
 clear hO17 hT18 hT19 t7 tf hO19 hT20 hO20 hT20' HI14 HR14 HO14 HY14 HS14 HT14 hI20 hR20 hO20' hY20 hw14 hg hg18 hg19 hg20
 --H
 go_upto_region 15 with (fail)
 refine wp_region_flowA 6 (by kernel_rfl) (by kernel_rfl) ?_
 simp only [tD]
 iterate 4 (refine wpQ_step (fun K hK => ?_); go_simp; refine hK _ ?_; clear hK K)
 refine wpQ_step (fun K hK => ?_); go_simp; apply Exists.intro; refine ⟨fun _ => ?_, hK _ ?_⟩; (go_at_call 109; exact HCL.out _); clear hK K
 iterate 1 (refine wpQ_step (fun K hK => ?_); go_simp; refine hK _ ?_; clear hK K)
 refine wpQ_nil ?_
 intro w21 hg21
 have hO21 := O1.grw HX.out.2.2.1 hg21
 have hT : There w21 g5 0 20 := Pk.there hO21 (Nat.le_refl _)
 have hw21 := hw20.trans hg21
 have hI21 := HX.out.1.grw hg21; have hR21 := HX.out.2.1.grw hg21; have hY21 := HX.out.2.2.2.grw hg21
 clear gA gC y5 HX hg21 hw20
 go_upto_region 16 with (fail)
 --I
 refine wp_gen (fun xw => Grw w xw ∧ Bk xw (w.heap.size + 1) 113 (encI gb cb).toArray ∧ Bk xw (w.heap.size + 2) 31 (encWorldV WorldV.d).toArray ∧ O1 xw g5 b' ∧ Bk xw w2.heap.size 31 (encW1 g5 c5 fr).toArray)
   ⟨hw21.setCells (by omega) _, hI21.farCells (by omega) _, hR21.farCells (by omega) _, Pk.setAll hO21 rfl rfl, hY21.farCells (by omega) _⟩ ?_
 clear hT hO21 hI21 hR21 hY21 hw21
 rintro w22 ⟨hw22, hI22, hR22, hO22, hY22⟩
 have i1 : w22.cell? ⟨w.heap.size + 1, 1, none⟩ = some (.slice none 0 0) := hI22.cell 1
 have i2 : w22.cell? ⟨w.heap.size + 1, 2, none⟩ = some (.slice none 0 0) := hI22.cell 2
 have gA : HaveAll w22 w2.heap.size 0 11 := hY22.have 0 11 (Nat.le_of_ble_eq_true rfl)
 have gC : cellsAt w22 w2.heap.size 0 11 = (encW1 g5 c5 fr).toArray := hY22.cells' 0 11 _ rfl rfl
 have gT : There w22 (w.heap.size + 2) 0 11 := hR22.there 0 11 (Nat.le_of_ble_eq_true rfl)
 have HR22 := Lib.hid hR22; have HO22 := Lib.hid hO22
 clear hI22 hR22 hO22 hY22
 go_wp2_with fail
 rw [rounds_succ]
 go_wp2_with fail
 refine wp_loop_rounds 1 ?_
 rw [rounds_succ]
 go_wp2_with fail
 refine wp_loop_rounds 1 ?_
 rw [rounds_succ]
 go_wp2_with fail
 have hK : Bk (w22.setCells (w.heap.size + 2) 0 (wl g5 c5 fr)) (w.heap.size + 2) 31 (wl g5 c5 fr).toArray := HR22.out.setAll' rfl rfl
 refine bodyPost_ret (v := .agg (wl g5 c5 fr).toArray) (results_cell_row Tryz.results51 _ _ _ _ _ _ _ rfl hK Tryz.underlying31 rfl (by kernel_rfl)) rfl ?_
 exact ⟨g5, c5, rfl, hw22.setCells (by omega) _, by omega, Pk.farCells HO22.out (by omega) _⟩
end
section
open Go.RowKit Go.Sort
attribute [local go_sem] qAt qUpon okOp okUpon cell_in_grow frozen_in_grow encFixV_eq encBodyV_eq encJointV_eq encPkV_eq encPtV_eq encCtV_eq encMfV_eq encWorldV_eq
attribute [local go_sem ↓] loadAt31 storeAt31 loadAt99 storeAt99 loadAt44 storeAt44 loadAt58 storeAt58 loadAt70 storeAt70 loadAt25 storeAt25 loadAt94 storeAt94 loadAt143 storeAt143
attribute [local go_sem] run_bl31 run_bs31 run_bl99 run_bs99 run_bl44 run_bs44 run_bl58 run_bs58 run_bl70 run_bs70 run_bl25 run_bs25 run_bl94 run_bs94 run_bl143 run_bs143 there_new there_alloc have_in_grow cells_in_grow oc_int oc_bool oc_slice oc_all oc_cons oc_nil List.size_toArray List.length_cons List.length_nil
attribute [local go_sem high] eqR23 eqR94
attribute [local go_sem] encObV_eq encW1_eq encI_eq
theorem okOp_nilnil {ops : Array Oper} {o : Oper} {a : Act} {K : Value → World → Prop} {W : World} {e t : TypeId} (hgd : o.guard = none) (s x : Operand)
   (ho : o.op = .call { callee := .builtin .append, args := #[s, x], argTypes := #[t, t] }) (ht : Tryz.prog.underlying t = some (.slice e)) (hi : (Tryz.prog.info? e).isSome = true)
   (hs : a.eval s = .slice none 0 0) (hx : a.eval x = .slice none 0 0) (h : K (.slice none 0 0) W) : okOp Tryz.prog ops o K a W := by
 obtain ⟨i, hi⟩ := Option.isSome_iff_exists.1 hi
 exact okOp_append_run hgd s x t t ho _ _ hs hx _ W (run_append_nothing W t t _ e i ht hi none 0 0 (Nat.le_refl _) _ (Src.ofNil W ht 0)) h
theorem begin1 {g c : Nat} {b : ObV} {fr : Int} {w : World} (h : B1 w g b) (hv : ∀ g c, validateE (W1 g c b fr) = 0) (hid : (Lit.int .i64 b.id).wf = true) (hk : b.kd = 3) (hs : b.sl = false) :
   Calls Tryz.prog 49 #[.agg (encW1 g c fr).toArray] w fun e w' => ∃ g' c' gi ci gb cb, e = .returned (.tuple #[.agg (encW1 g' c' fr).toArray, .slice (some ⟨gi, 0, none⟩) 1 ci, .slice none 0 0]) ∧ Grw w w' ∧ O1 w' g' b ∧ I1 w' gi gb cb := by
 have H := Lib.hid h; clear h
 have HV := Lib.hid hv; clear hv
 have HK := Lib.hid hk; clear hk
 have HSL := Lib.hid hs; clear hs
 have HID := Lib.hid hid; clear hid
 go_enter Tryz.func49, Tryz.ntmps49
 go_upto_region 1 with (fail)
 refine wp_gen (fun xw => Grw w xw ∧ Bk xw w.heap.size 31 (encW1 g c fr).toArray ∧ Bk xw (w.heap.size + 1) 31 (encWorldV WorldV.d).toArray) ⟨((Grw.refl w).alloc _).alloc _, (Bk.new' (by simp)).alloc _, Bk.new' (by simp)⟩ ?_
 rintro w1 ⟨hw1, hB1, hR1⟩
 have gA : HaveAll w1 (w.heap.size) 0 11 := hB1.have 0 11 (Nat.le_of_ble_eq_true rfl)
 have gC : cellsAt w1 (w.heap.size) 0 11 = (encW1 g c fr).toArray := hB1.cells' 0 11 _ rfl rfl
 have HB1 := Lib.hid hB1; have HR1 := Lib.hid hR1; clear hB1 hR1
 go_upto_region 3 with (go_at_call 5; refine (validate1 (b := b) (Sl.grw H.out hw1) (HV.out _ _)).mono ?_; rintro e w2 ⟨rfl, hg2⟩)
 have hw2 := hw1.trans hg2
 have hB2 := HB1.out.grw hg2; have hR2 := HR1.out.grw hg2
 clear gA gC HB1 HR1 hg2 hw1
 have c7 : w2.cell? ⟨w.heap.size, 7, none⟩ = some (.slice none 0 0) := hB2.cell 7
 have gA : HaveAll w2 (w.heap.size) 0 11 := hB2.have 0 11 (Nat.le_of_ble_eq_true rfl)
 have gC : cellsAt w2 (w.heap.size) 0 11 = (encW1 g c fr).toArray := hB2.cells' 0 11 _ rfl rfl
 have HB2 := Lib.hid hB2; have HR2 := Lib.hid hR2; clear hB2 hR2
 go_upto_region 5 with (go_at_call 24; refine (clone1 (Sl.grw H.out hw2)).mono ?_; rintro e w3 ⟨g1, c1, rfl, hg3, hgg, hO3⟩; have hB3 := HB2.out.grw hg3; have hT3 : There w3 w.heap.size 0 11 := hB3.there 0 11 (Nat.le_of_ble_eq_true rfl); have HB3 := Lib.hid hB3; clear hB3)
 --A
 have hw3 := hw2.trans hg3
 have hn0 := Pk.apart hO3 HB3.out.pk (by decide); have hsz2 := hw2.size; have hsz3 := hg3.size; have hR3' := HR2.out.grw hg3; have hl2 := hR3'.lt
 refine wp_gen (fun xw => Grw w xw ∧ Bk xw w.heap.size 31 (encW1 g1 c1 fr).toArray ∧ Bk xw (w.heap.size + 1) 31 (encWorldV WorldV.d).toArray ∧ O1 xw g1 b) ⟨hw3.setCells (by omega) _, HB3.out.setAll' rfl rfl, hR3'.farCells (by omega) _, Pk.farCells hO3 (by omega) _⟩ ?_
 clear c7 gA gC HB2 HR2 HB3 hT3 hO3 hR3' hg3 hw3
 rintro w4 ⟨hw4, hB4, hR4, hO4⟩
 have gA : HaveAll w4 (w.heap.size) 0 11 := hB4.have 0 11 (Nat.le_of_ble_eq_true rfl)
 have gC : cellsAt w4 (w.heap.size) 0 11 = (encW1 g1 c1 fr).toArray := hB4.cells' 0 11 _ rfl rfl
 have HB4 := Lib.hid hB4; have HR4 := Lib.hid hR4; have HO4 := Lib.hid hO4; clear hB4 hR4 hO4
 go_upto_region 6 with (go_at_call 101; refine (update1 (O1.b1 HO4.out) (HV.out _ _) HID.out).mono ?_; rintro e w5 ⟨rfl, hg5⟩; have hB5 := HB4.out.grw hg5; have c7 : w5.cell? ⟨w.heap.size, 7, none⟩ = some (.slice none 0 0) := hB5.cell 7; have cf := hB5.frozen; have HB5 := Lib.hid hB5; clear hB5)
 --B
 have hw5 := hw4.trans hg5
 have hn01 := Pk.apart (O1.grw HO4.out hg5) HB5.out.pk (by decide)
 refine wp_gen (fun xw => Grw w xw ∧ Bk xw w.heap.size 31 (encW1 g1 c1 fr).toArray ∧ Bk xw (w.heap.size + 1) 31 (encWorldV WorldV.d).toArray ∧ O1 xw g1 b) ⟨hw5.setAt (by omega) _, HB5.out.set 7 (.slice none 0 0), (HR4.out.grw hg5).far (by omega) _, Pk.far (O1.grw HO4.out hg5) (by omega) _⟩ ?_
 clear c7 cf gA gC HB4 HR4 HO4 HB5 hg5 hw4 hw5
 rintro w6 ⟨hw6, hB6, hR6, hO6⟩
 have c7 : w6.cell? ⟨w.heap.size, 7, none⟩ = some (.slice none 0 0) := hB6.cell 7
 have HB6 := Lib.hid hB6; have HR6 := Lib.hid hR6; have HO6 := Lib.hid hO6; clear hB6 hR6 hO6
 go_upto_region 7 with (go_at_call 102; refine (events_nil _).mono ?_; rintro e w7 ⟨rfl, hg7⟩)
 have hw7 := hw6.trans hg7
 have hB7 := HB6.out.grw hg7; have hR7 := HR6.out.grw hg7; have hO7 := O1.grw HO6.out hg7
 clear c7 HB6 HR6 HO6 hg7 hw6
 have gA : HaveAll w7 (w.heap.size) 0 11 := hB7.have 0 11 (Nat.le_of_ble_eq_true rfl)
 have gC : cellsAt w7 (w.heap.size) 0 11 = (encW1 g1 c1 fr).toArray := hB7.cells' 0 11 _ rfl rfl
 have HB7 := Lib.hid hB7; have HR7 := Lib.hid hR7; have HO7 := Lib.hid hO7; clear hB7 hR7 hO7
 go_upto_region 8 with (go_at_call 103; refine (build1 (O1.b1 HO7.out) (HV.out _ _) HK.out).mono ?_; rintro e w8 ⟨gi, ci, gb, cb, rfl, hg8, hI8⟩)
 --C
 have hw8 := hw7.trans hg8
 have hB8 := HB7.out.grw hg8; have hR8 := HR7.out.grw hg8; have hO8 := O1.grw HO7.out hg8
 clear gA gC HB7 HR7 HO7 hg8 hw7
 have hl8 := hB8.lt; have hm8 := hR8.lt; have hi1 := Pk.lt hI8.1; have hi2 := Pk.lt hI8.2
 have j0 : w8.cell? ⟨gi, 0, none⟩ = some (.slice (some ⟨gb, 0, none⟩) 1 cb) := Pk.cell hI8.1 rfl
 have j1 : w8.cell? ⟨gi, 1, none⟩ = some (.slice none 0 0) := Pk.cell hI8.1 rfl
 have j2 : w8.cell? ⟨gi, 2, none⟩ = some (.slice none 0 0) := Pk.cell hI8.1 rfl
 have HB8 := Lib.hid hB8; have HR8 := Lib.hid hR8; have HO8 := Lib.hid hO8; have HI8 := Lib.hid hI8; clear hB8 hR8 hO8 hI8
 go_wp2_with fail
 refine wp_loop_rounds 2 ?_
 rw [rounds_succ]
 go_upto_region 11 with (fail)
 refine wp_gen (fun xw => Grw w xw ∧ Bk xw w.heap.size 31 (encW1 g1 c1 fr).toArray ∧ Bk xw (w.heap.size + 1) 31 (encWorldV WorldV.d).toArray ∧ O1 xw g1 b ∧ I1 xw gi gb cb ∧ Bk xw w8.heap.size 113 (encI gb cb).toArray) ⟨hw8.alloc _, HB8.out.alloc _, HR8.out.alloc _, O1.grw HO8.out ((Grw.refl w8).alloc _), HI8.out.grw ((Grw.refl w8).alloc _), Bk.new' (by simp)⟩ ?_
 clear j0 j1 j2 HB8 HR8 HO8 HI8 hw8
 --D
 rintro w9 ⟨hw9, hB9, hR9, hO9, hI9, hX9⟩
 have gA : HaveAll w9 (w.heap.size) 0 11 := hB9.have 0 11 (Nat.le_of_ble_eq_true rfl)
 have gC : cellsAt w9 (w.heap.size) 0 11 = (encW1 g1 c1 fr).toArray := hB9.cells' 0 11 _ rfl rfl
 have x0 : w9.cell? ⟨w8.heap.size, 0, none⟩ = some (.slice (some ⟨gb, 0, none⟩) 1 cb) := hX9.cell 0
 have x1 : w9.cell? ⟨w8.heap.size, 1, none⟩ = some (.slice none 0 0) := hX9.cell 1
 have x2 : w9.cell? ⟨w8.heap.size, 2, none⟩ = some (.slice none 0 0) := hX9.cell 2
 have HB9 := Lib.hid hB9; have HR9 := Lib.hid hR9; have HO9 := Lib.hid hO9; have HI9 := Lib.hid hI9; clear hB9 hR9 hO9 hI9 hX9
 go_upto_region 12 with (go_at_call 104; refine (wake1 (O1.b1 HO9.out) HI9.out.2 HSL.out).mono ?_; rintro e w10 ⟨g2, c2, rfl, hg10, hgg2, hO10⟩)
 have hw10 := hw9.trans hg10
 have hB10 := HB9.out.grw hg10; have hR10 := HR9.out.grw hg10; have hI10 := HI9.out.grw hg10
 have hl10 := hB10.lt; have hm10 := hR10.lt; have ho10 := Pk.lt hO10; have hi3 := Pk.lt hI10.1; have hi4 := Pk.lt hI10.2
 refine wp_gen (fun xw => Grw w xw ∧ Bk xw w.heap.size 31 (encW1 g1 c1 fr).toArray ∧ Bk xw (w.heap.size + 1) 31 (encWorldV WorldV.d).toArray ∧ O1 xw g2 b ∧ I1 xw gi gb cb ∧ Bk xw w10.heap.size 31 (encW1 g2 c2 fr).toArray) ⟨(hw10.alloc _).setCells (by have := hw10.size; omega) _, (hB10.alloc _).farCells (by omega) _, (hR10.alloc _).farCells (by omega) _, Pk.farCells (O1.grw hO10 ((Grw.refl w10).alloc _)) (by omega) _, ⟨Pk.farCells (hI10.1.grw ((Grw.refl w10).alloc _)) (by omega) _, Pk.farCells (hI10.2.grw ((Grw.refl w10).alloc _)) (by omega) _⟩, (Bk.new' (by simp)).setAll' rfl rfl⟩ ?_
 clear gA gC x0 x1 x2 HB9 HR9 HO9 HI9 hB10 hR10 hI10 hO10 hg10 hw9 hw10
 --E
 rintro w11 ⟨hw11, hB11, hR11, hO11, hI11, hX11⟩
 have gA : HaveAll w11 w10.heap.size 0 11 := hX11.have 0 11 (Nat.le_of_ble_eq_true rfl)
 have gC : cellsAt w11 w10.heap.size 0 11 = (encW1 g2 c2 fr).toArray := hX11.cells' 0 11 _ rfl rfl
 have hx11 := hX11.lt; have hb11 := hB11.lt
 have hn1 := Pk.apart hO11 hB11.pk (by decide); have hn2 := Pk.apart hI11.1 hB11.pk (by decide); have hn3 := Pk.apart hI11.2 hB11.pk (by decide)
 have HB11 := Lib.hid hB11; have HR11 := Lib.hid hR11; have HO11 := Lib.hid hO11; have HI11 := Lib.hid hI11; clear hB11 hR11 hO11 hI11 hX11
 refine wp_region_steps [(true, 0), (true, 1), (true, 2), (false, 3)] [4, 5] (by kernel_rfl) (by kernel_rfl) ?_
 intro w12 hw12
 iterate 3 (refine st_det rfl (fun K hK => ?_); go_simp; refine hK _ ?_; clear hK K)
 refine st_mid rfl (fun w13 hw13 K hK => ?_)
 refine okOp_nilnil rfl _ _ rfl Tryz.underlying71 (by kernel_rfl) rfl rfl (hK _ _ (by (repeat with_reducible first | exact .refl _ | assumption | refine .setAt ?_ (by first | omega | simp <;> omega) _ | refine .setCells ?_ (by first | omega | simp <;> omega) _ | refine .alloc ?_ _ | refine .drewN ?_ _ | refine .drew ?_ | refine .trans ?_ (by assumption))) ?_); clear hK K
 refine st_nil (fun w14 hw14 => ?_)
 simp only [pickO, List.getElem?_cons_succ, List.getElem?_cons_zero]
 have hg := (hw12.trans hw13).trans hw14
 have hw14' := hw11.trans hg
 have hB14 := HB11.out.grw hg; have hR14 := HR11.out.grw hg; have hO14 := O1.grw HO11.out hg; have hI14 := HI11.out.grw hg
 have hT : There w14 w.heap.size 0 11 := hB14.there 0 11 (Nat.le_of_ble_eq_true rfl)
 clear gA gC HB11 HR11 HO11 HI11 hg hw12 hw13 hw14 hw11
 go_upto_region 13 with (fail)
 refine wp_gen (fun xw => Grw w xw ∧ Bk xw w.heap.size 31 (encW1 g2 c2 fr).toArray ∧ Bk xw (w.heap.size + 1) 31 (encWorldV WorldV.d).toArray ∧ O1 xw g2 b ∧ I1 xw gi gb cb) ⟨hw14'.setCells (by omega) _, hB14.setAll' rfl rfl, hR14.farCells (by omega) _, Pk.farCells hO14 (by omega) _, Pk.farCells hI14.1 (by omega) _, Pk.farCells hI14.2 (by omega) _⟩ ?_
 clear hT hB14 hR14 hO14 hI14 hw14'
 --F
 rintro w15 ⟨hw15, hB15, hR15, hO15, hI15⟩
 have gA : HaveAll w15 w.heap.size 0 11 := hB15.have 0 11 (Nat.le_of_ble_eq_true rfl)
 have gC : cellsAt w15 w.heap.size 0 11 = (encW1 g2 c2 fr).toArray := hB15.cells' 0 11 _ rfl rfl
 have gT : There w15 (w.heap.size + 1) 0 11 := hR15.there 0 11 (Nat.le_of_ble_eq_true rfl)
 have hl15 := hR15.lt
 have hn4 := Pk.apart hO15 hR15.pk (by decide); have hn5 := Pk.apart hI15.1 hR15.pk (by decide); have hn6 := Pk.apart hI15.2 hR15.pk (by decide)
 have HR15 := Lib.hid hR15; have HO15 := Lib.hid hO15; have HI15 := Lib.hid hI15; clear hR15 hO15 hI15 hB15
 go_wp2_with fail
 rw [rounds_succ]
 go_wp2_with fail
 have hK : Bk (w15.setCells (w.heap.size + 1) 0 (wl g2 c2 fr)) (w.heap.size + 1) 31 (wl g2 c2 fr).toArray := HR15.out.setAll' rfl rfl
 refine bodyPost_ret (v := .tuple #[.agg (wl g2 c2 fr).toArray, .slice (some ⟨gi, 0, none⟩) 1 ci, .slice none 0 0]) (results_cell3 Tryz.results49 _ _ _ _ _ _ _ rfl hK Tryz.underlying31 rfl (by kernel_rfl)) rfl ?_
 exact ⟨g2, c2, gi, ci, gb, cb, rfl, hw15.setCells (by omega) _, Pk.farCells HO15.out (by omega) _, Pk.farCells HI15.out.1 (by omega) _, Pk.farCells HI15.out.2 (by omega) _⟩
end
end Go.Proofs.YtokkghhmliplfaaGreat
